/- Any patch is written in the unified form, or refused. Part 5 of 6. -/
import Derived.Test.YtpbkdcfjlbdgfaaDoorProg
import Derived.Lib.IndexLaws
import Derived.Test.YtpbkdcfjlbdgfaaDoorMu1
import Derived.Test.YtpbkdcfjlbdgfaaDoorMu2
import Derived.Test.YtpbkdcfjlbdgfaaDoorMu3
import Derived.Test.YtpbkdcfjlbdgfaaDoorMu4
/- The compiled code of functions, by program (gen.py): each theorem says that the loaded program compiles to it. -/
set_option linter.unusedVariables false
namespace Go.Proofs.YtpbkdcfjlbdgfaaDoor
open Go Go.Ev
set_option maxRecDepth 100000

/-! 7: redline/redlinelaw16.UnifiedPrints -/
def A7 : Ann := ⟨fun r i => if r = 4 ∧ i = 11 then 1 else 0, fun _ => none, fun r => if r = 1 then some (false, [1]) else if r = 2 then some (false, [1, 3]) else if r = 3 then some (false, [1, 3, 4, 5]) else if r = 4 then some (false, [1, 3, 4, 5, 6, 7]) else none, fun _ => []⟩
def S7 : SCode :=
  (.seq (.ops [⟨none, (some 1), .bx 1 34 3 (.s 0), false⟩,
    ⟨none, (some 2), .mv 2 (.k (Value.bool false)), false⟩])
  (.seq (.seq (.keep [1]) (.ops [⟨none, (some 8), .ld 8 true 3 (.s 1), false⟩,
    ⟨none, (some 9), .bs 9 34 3 [(.s 8)], false⟩,
    ⟨none, (some 10), .call (some 10) 22 false [(.s 9)], false⟩,
    ⟨none, (some 11), .ia 11 3 (.s 10) (.k (Value.int .i64 0)), false⟩,
    ⟨none, (some 12), .ld 12 true 3 (.s 11), false⟩,
    ⟨none, (some 3), .al 3 34 [(Value.string ⟨#[]⟩), (Value.string ⟨#[]⟩), (Value.slice none 0 0)], false⟩,
    ⟨none, none, .st true 3 (.s 3) (.s 12), false⟩]))
  (.seq (.seq (.keep [1, 3]) (.ops [⟨none, (some 14), .ld 14 true 3 (.s 3), false⟩,
    ⟨none, (some 15), .call (some 15) 23 false [(.s 14)], false⟩,
    ⟨none, (some 13), .mv 13 (.s 15), false⟩,
    ⟨none, (some 16), .ex 16 (.s 13) 0, false⟩,
    ⟨none, (some 17), .ex 17 (.s 13) 1, false⟩,
    ⟨none, (some 4), .mv 4 (.s 16), false⟩,
    ⟨none, (some 5), .mv 5 (.s 17), false⟩]))
  (.seq (.seq (.keep [1, 3, 4, 5]) (.ops [⟨none, (some 19), .ld 19 true 3 (.s 1), false⟩,
    ⟨none, (some 20), .call (some 20) 24 false [(.s 19)], false⟩,
    ⟨none, (some 18), .mv 18 (.s 20), false⟩,
    ⟨none, (some 21), .ex 21 (.s 18) 0, false⟩,
    ⟨none, (some 22), .ex 22 (.s 18) 1, false⟩,
    ⟨none, (some 6), .mv 6 (.s 21), false⟩,
    ⟨none, (some 7), .mv 7 (.s 22), false⟩]))
  (.seq (.seq (.keep [1, 3, 4, 5, 6, 7]) (.ops [⟨none, (some 23), .mv 23 (.s 4), false⟩,
    ⟨none, (some 24), .mv 24 (.s 6), false⟩,
    ⟨none, (some 25), .bin 25 .eql (.s 23) (.s 24), false⟩,
    ⟨none, (some 26), .mv 26 (.s 25), false⟩,
    ⟨(some (26, true)), (some 27), .mv 27 (.s 5), false⟩,
    ⟨(some (26, true)), (some 28), .mv 28 (.s 7), false⟩,
    ⟨(some (26, true)), (some 29), .bin 29 .eql (.s 27) (.s 28), false⟩,
    ⟨none, (some 30), .pk 30 (.s 26) (.s 29) (.k (Value.bool false)), false⟩,
    ⟨none, (some 31), .mv 31 (.s 30), false⟩,
    ⟨(some (31, true)), (some 32), .ld 32 true 3 (.s 3), true⟩,
    ⟨(some (31, true)), (some 33), .ld 33 true 3 (.s 1), false⟩,
    ⟨(some (31, true)), (some 34), .call (some 34) 25 true [(.s 32), (.s 33)], false⟩,
    ⟨none, (some 35), .pk 35 (.s 31) (.s 34) (.k (Value.bool false)), false⟩,
    ⟨none, (some 2), .mv 2 (.s 35), false⟩]))
  .ret)))))
theorem cc7 : (Tryd.f7.body).bind (cc Tryd.prog Tryd.f7.ntmps A7) = some S7 := by kernel_rfl
def R7 : List RR := [.sl 2]
theorem cr7 : Tryd.f7.results.toList.map (crr Tryd.prog) = R7.map some := by kernel_rfl
theorem nm7 : (Tryd.f7.name == "runtime.NumGoroutine") = false := by kernel_rfl
theorem fn7 : Tryd.prog.funcs[7]? = some Tryd.f7 := by kernel_rfl
theorem bd7 : ∃ b, Tryd.f7.body = some b ∧ cc Tryd.prog Tryd.f7.ntmps A7 b = some S7 := Option.bind_eq_some_iff.1 cc7
theorem sd7 {G : World → Prop} {T : FuncId → Contract} {C : Contract} (hT : ∀ f, Sound G Tryd.prog f (T f)) (hl : C.lawful) (hC : ∀ args st K, C.wp args st K → args.length ≤ 36 ∧ ∃ os op, xv T st.n S7 (st0 args st) (retK R7 st.n os K) (panK st.n op K)) (hit : SoundIt G Tryd.prog 7 C.it := by exact SoundIt.none) : Sound G Tryd.prog 7 C := by
  obtain ⟨b, hb, hc⟩ := bd7
  rw [xv_eq] at hC
  exact sound_of_ev mo fn7 hb nm7 hc cr7 hT hl hit hC

/-! 8: redline/redlinelaw15.CtxfmtPrints -/
def A8 : Ann := ⟨fun r i => if r = 4 ∧ i = 11 then 1 else 0, fun _ => none, fun r => if r = 1 then some (false, [1]) else if r = 2 then some (false, [1, 3]) else if r = 3 then some (false, [1, 3, 4, 5]) else if r = 4 then some (false, [1, 3, 4, 5, 6, 7]) else none, fun _ => []⟩
def S8 : SCode :=
  (.seq (.ops [⟨none, (some 1), .bx 1 34 3 (.s 0), false⟩,
    ⟨none, (some 2), .mv 2 (.k (Value.bool false)), false⟩])
  (.seq (.seq (.keep [1]) (.ops [⟨none, (some 8), .ld 8 true 3 (.s 1), false⟩,
    ⟨none, (some 9), .bs 9 34 3 [(.s 8)], false⟩,
    ⟨none, (some 10), .call (some 10) 26 false [(.s 9)], false⟩,
    ⟨none, (some 11), .ia 11 3 (.s 10) (.k (Value.int .i64 0)), false⟩,
    ⟨none, (some 12), .ld 12 true 3 (.s 11), false⟩,
    ⟨none, (some 3), .al 3 34 [(Value.string ⟨#[]⟩), (Value.string ⟨#[]⟩), (Value.slice none 0 0)], false⟩,
    ⟨none, none, .st true 3 (.s 3) (.s 12), false⟩]))
  (.seq (.seq (.keep [1, 3]) (.ops [⟨none, (some 14), .ld 14 true 3 (.s 3), false⟩,
    ⟨none, (some 15), .call (some 15) 27 false [(.s 14)], false⟩,
    ⟨none, (some 13), .mv 13 (.s 15), false⟩,
    ⟨none, (some 16), .ex 16 (.s 13) 0, false⟩,
    ⟨none, (some 17), .ex 17 (.s 13) 1, false⟩,
    ⟨none, (some 4), .mv 4 (.s 16), false⟩,
    ⟨none, (some 5), .mv 5 (.s 17), false⟩]))
  (.seq (.seq (.keep [1, 3, 4, 5]) (.ops [⟨none, (some 19), .ld 19 true 3 (.s 1), false⟩,
    ⟨none, (some 20), .call (some 20) 28 false [(.s 19)], false⟩,
    ⟨none, (some 18), .mv 18 (.s 20), false⟩,
    ⟨none, (some 21), .ex 21 (.s 18) 0, false⟩,
    ⟨none, (some 22), .ex 22 (.s 18) 1, false⟩,
    ⟨none, (some 6), .mv 6 (.s 21), false⟩,
    ⟨none, (some 7), .mv 7 (.s 22), false⟩]))
  (.seq (.seq (.keep [1, 3, 4, 5, 6, 7]) (.ops [⟨none, (some 23), .mv 23 (.s 4), false⟩,
    ⟨none, (some 24), .mv 24 (.s 6), false⟩,
    ⟨none, (some 25), .bin 25 .eql (.s 23) (.s 24), false⟩,
    ⟨none, (some 26), .mv 26 (.s 25), false⟩,
    ⟨(some (26, true)), (some 27), .mv 27 (.s 5), false⟩,
    ⟨(some (26, true)), (some 28), .mv 28 (.s 7), false⟩,
    ⟨(some (26, true)), (some 29), .bin 29 .eql (.s 27) (.s 28), false⟩,
    ⟨none, (some 30), .pk 30 (.s 26) (.s 29) (.k (Value.bool false)), false⟩,
    ⟨none, (some 31), .mv 31 (.s 30), false⟩,
    ⟨(some (31, true)), (some 32), .ld 32 true 3 (.s 3), true⟩,
    ⟨(some (31, true)), (some 33), .ld 33 true 3 (.s 1), false⟩,
    ⟨(some (31, true)), (some 34), .call (some 34) 29 true [(.s 32), (.s 33)], false⟩,
    ⟨none, (some 35), .pk 35 (.s 31) (.s 34) (.k (Value.bool false)), false⟩,
    ⟨none, (some 2), .mv 2 (.s 35), false⟩]))
  .ret)))))
theorem cc8 : (Tryd.f8.body).bind (cc Tryd.prog Tryd.f8.ntmps A8) = some S8 := by kernel_rfl
def R8 : List RR := [.sl 2]
theorem cr8 : Tryd.f8.results.toList.map (crr Tryd.prog) = R8.map some := by kernel_rfl
theorem nm8 : (Tryd.f8.name == "runtime.NumGoroutine") = false := by kernel_rfl
theorem fn8 : Tryd.prog.funcs[8]? = some Tryd.f8 := by kernel_rfl
theorem bd8 : ∃ b, Tryd.f8.body = some b ∧ cc Tryd.prog Tryd.f8.ntmps A8 b = some S8 := Option.bind_eq_some_iff.1 cc8
theorem sd8 {G : World → Prop} {T : FuncId → Contract} {C : Contract} (hT : ∀ f, Sound G Tryd.prog f (T f)) (hl : C.lawful) (hC : ∀ args st K, C.wp args st K → args.length ≤ 36 ∧ ∃ os op, xv T st.n S8 (st0 args st) (retK R8 st.n os K) (panK st.n op K)) (hit : SoundIt G Tryd.prog 8 C.it := by exact SoundIt.none) : Sound G Tryd.prog 8 C := by
  obtain ⟨b, hb, hc⟩ := bd8
  rw [xv_eq] at hC
  exact sound_of_ev mo fn8 hb nm8 hc cr8 hT hl hit hC

/-! 22: redline/redlineref16.Copy -/
def A22 : Ann := ⟨fun _ _ => 0, fun _ => none, fun r => if r = 1 then some (false, [0]) else none, fun _ => []⟩
def S22 : SCode :=
  (.seq (.ops [⟨none, (some 2), .mv 2 (.k (Value.slice none 0 0)), false⟩])
  (.seq (.seq (.keep [0]) (.ops [⟨none, (some 3), .mv 3 (.s 0), false⟩,
    ⟨none, (some 4), .call (some 4) 26 false [(.s 3)], false⟩,
    ⟨none, (some 2), .mv 2 (.s 4), false⟩]))
  .ret))
theorem cc22 : (Tryd.f22.body).bind (cc Tryd.prog Tryd.f22.ntmps A22) = some S22 := by kernel_rfl
def R22 : List RR := [.sl 2]
theorem cr22 : Tryd.f22.results.toList.map (crr Tryd.prog) = R22.map some := by kernel_rfl
theorem nm22 : (Tryd.f22.name == "runtime.NumGoroutine") = false := by kernel_rfl
theorem fn22 : Tryd.prog.funcs[22]? = some Tryd.f22 := by kernel_rfl
theorem bd22 : ∃ b, Tryd.f22.body = some b ∧ cc Tryd.prog Tryd.f22.ntmps A22 b = some S22 := Option.bind_eq_some_iff.1 cc22
theorem sd22 {G : World → Prop} {T : FuncId → Contract} {C : Contract} (hT : ∀ f, Sound G Tryd.prog f (T f)) (hl : C.lawful) (hC : ∀ args st K, C.wp args st K → args.length ≤ 5 ∧ ∃ os op, xv T st.n S22 (st0 args st) (retK R22 st.n os K) (panK st.n op K)) (hit : SoundIt G Tryd.prog 22 C.it := by exact SoundIt.none) : Sound G Tryd.prog 22 C := by
  obtain ⟨b, hb, hc⟩ := bd22
  rw [xv_eq] at hC
  exact sound_of_ev mo fn22 hb nm22 hc cr22 hT hl hit hC

/-! 23: redline/unified.Print -/
def A23 : Ann := ⟨fun r i => if r = 1 ∧ i = 7 then 1 else if r = 5 ∧ i = 0 then 7 else 0, fun r => if r = 14 then some ([1], [(0, true), (2, true), (7, true), (9, true), (1, true), (3, true), (8, true), (10, true), (4, false), (5, true), (6, true), (11, false), (12, true), (13, true), (14, false)]) else if r = 13 then some ([1], [(0, true), (5, true), (1, true), (6, true), (2, false), (3, true), (4, true), (7, false), (8, true), (9, true), (10, false)]) else none, fun r => if r = 1 then some (false, [1]) else if r = 3 then some (false, [1]) else if r = 6 then some (false, [1, 4]) else if r = 8 then some (false, [1, 4, 27, 28, 29]) else if r = 9 then some (false, [1, 4, 5, 6, 27, 28, 29]) else if r = 11 then some (false, [7]) else if r = 13 then some (false, [1, 4, 6, 27, 28, 29]) else if r = 14 then some (false, [1, 4, 6, 27, 28, 29]) else if r = 15 then some (false, [1, 4, 6, 27, 28, 29]) else if r = 17 then some (false, [1, 4, 27, 28, 29, 68, 69, 70]) else if r = 18 then some (false, [1, 4, 9, 27, 28, 29, 68, 69, 70]) else if r = 19 then some (false, [1, 4, 9, 10, 11, 27, 28, 29, 68, 69, 70]) else if r = 24 then some (false, [4]) else none, fun r => if r = 7 then [1, 4, 27, 28, 29] else if r = 16 then [1, 4, 27, 28, 29, 68, 69, 70] else []⟩
def S23 : SCode :=
  (.seq (.ops [⟨none, (some 1), .bx 1 34 3 (.s 0), false⟩,
    ⟨none, (some 2), .mv 2 (.k (Value.string ⟨#[]⟩)), false⟩,
    ⟨none, (some 3), .mv 3 (.k (Value.int .i64 0)), false⟩])
  (.seq (.seq (.seq (.keep [1]) (.ops [⟨none, (some 12), .fa 12 0 (.s 1), false⟩,
    ⟨none, (some 13), .ld 13 false 1 (.s 12), false⟩,
    ⟨none, (some 14), .lens 14 (.s 13), false⟩,
    ⟨none, (some 15), .bin 15 .gtr (.s 14) (.k (Value.int .i64 64)), false⟩,
    ⟨none, (some 16), .mv 16 (.s 15), false⟩,
    ⟨(some (16, false)), (some 17), .fa 17 1 (.s 1), false⟩,
    ⟨(some (16, false)), (some 18), .ld 18 false 1 (.s 17), false⟩,
    ⟨(some (16, false)), (some 19), .lens 19 (.s 18), false⟩,
    ⟨(some (16, false)), (some 20), .bin 20 .gtr (.s 19) (.k (Value.int .i64 64)), false⟩,
    ⟨none, (some 21), .pk 21 (.s 16) (.k (Value.bool true)) (.s 20), true⟩]))
  (.cond (.s 21) (.seq (.ops [⟨none, (some 2), .mv 2 (.k (Value.string ⟨#[]⟩)), false⟩,
    ⟨none, (some 3), .mv 3 (.k (Value.int .i64 253)), false⟩])
  .ret) .skip))
  (.seq (.seq (.seq (.keep [1]) (.ops [⟨none, (some 22), .fa 22 2 (.s 1), false⟩,
    ⟨none, (some 23), .ld 23 false 1 (.s 22), false⟩,
    ⟨none, (some 24), .len 24 (.s 23), false⟩,
    ⟨none, (some 25), .bin 25 .gtr (.s 24) (.k (Value.int .i64 4096)), false⟩]))
  (.cond (.s 25) (.seq (.ops [⟨none, (some 2), .mv 2 (.k (Value.string ⟨#[]⟩)), false⟩,
    ⟨none, (some 3), .mv 3 (.k (Value.int .i64 9)), false⟩])
  .ret) .skip))
  (.seq (.ops [⟨none, (some 4), .alb 4 70 5, false⟩])
  (.seq (.seq (.seq (.keep [1, 4]) (.ops [⟨none, (some 26), .fa 26 2 (.s 1), false⟩,
    ⟨none, (some 27), .ld 27 false 1 (.s 26), false⟩,
    ⟨none, (some 28), .len 28 (.s 27), false⟩,
    ⟨none, (some 29), .mv 29 (.k (Value.int .i64 0)), false⟩]))
  (.block 0 (.loop [1, 4, 27, 28, 29] (.seq (.ops [⟨none, (some 30), .bin 30 .lss (.s 29) (.s 28), false⟩])
  (.seq (.cond (.s 30) .skip (.exit 0))
  (.seq (.block 1 (.seq (.seq (.keep [1, 4, 27, 28, 29]) (.ops [⟨none, (some 31), .mv 31 (.s 29), false⟩,
    ⟨none, (some 32), .ia 32 5 (.s 27) (.s 29), false⟩,
    ⟨none, (some 33), .ld 33 true 5 (.s 32), false⟩,
    ⟨none, (some 6), .al 6 93 [(Value.int .i64 0), (Value.int .i64 0), (Value.int .i64 0), (Value.int .i64 0), (Value.slice none 0 0)], false⟩,
    ⟨none, (some 5), .mv 5 (.s 31), false⟩,
    ⟨none, none, .st true 5 (.s 6) (.s 33), false⟩]))
  (.seq (.seq (.seq (.keep [1, 4, 5, 6, 27, 28, 29]) (.ops [⟨none, (some 34), .ld 34 true 5 (.s 6), false⟩,
    ⟨none, (some 35), .call (some 35) 62 false [(.s 34)], false⟩,
    ⟨none, (some 7), .mv 7 (.s 35), false⟩]))
  (.seq (.ops [⟨none, (some 36), .mv 36 (.s 7), false⟩,
    ⟨none, (some 37), .bin 37 .neq (.s 36) (.k (Value.int .i64 0)), false⟩])
  (.cond (.s 37) (.seq (.seq (.keep [7]) (.ops [⟨none, (some 38), .mv 38 (.s 7), false⟩,
    ⟨none, (some 2), .mv 2 (.k (Value.string ⟨#[]⟩)), false⟩,
    ⟨none, (some 3), .mv 3 (.s 38), false⟩]))
  .ret) .skip)))
  (.seq (.seq (.ops [⟨none, (some 39), .mv 39 (.s 5), false⟩,
    ⟨none, (some 40), .bin 40 .eql (.s 39) (.k (Value.int .i64 0)), false⟩])
  (.cond (.s 40) (.seq (.keep [1, 4, 6, 27, 28, 29]) (.dr [1] [(0, true, ⟨none, (some 41), .fa 41 0 (.s 1), false⟩),
    (5, true, ⟨none, (some 46), .fa 46 1 (.s 1), false⟩),
    (1, true, ⟨none, (some 42), .ld 42 false 1 (.s 41), false⟩),
    (6, true, ⟨none, (some 47), .ld 47 false 1 (.s 46), false⟩),
    (2, false, ⟨none, (some 43), .call (some 43) 63 false [(.s 42)], false⟩),
    (3, true, ⟨none, (some 44), .bin 44 .add (.k (Value.string ⟨#[45, 45, 45, 32]⟩)) (.s 43), false⟩),
    (4, true, ⟨none, (some 45), .bin 45 .add (.s 44) (.k (Value.string ⟨#[10, 43, 43, 43, 32]⟩)), false⟩),
    (7, false, ⟨none, (some 48), .call (some 48) 63 false [(.s 47)], false⟩),
    (8, true, ⟨none, (some 49), .bin 49 .add (.s 45) (.s 48), false⟩),
    (9, true, ⟨none, (some 50), .bin 50 .add (.s 49) (.k (Value.string ⟨#[10]⟩)), true⟩),
    (10, false, ⟨none, (some 51), .call (some 51) 43 false [(.s 4), (.s 50)], false⟩)])) .skip))
  (.seq (.seq (.keep [1, 4, 6, 27, 28, 29]) (.dr [1] [(0, true, ⟨none, (some 52), .fa 52 0 (.s 6), false⟩),
    (2, true, ⟨none, (some 54), .fa 54 1 (.s 6), false⟩),
    (7, true, ⟨none, (some 59), .fa 59 2 (.s 6), false⟩),
    (9, true, ⟨none, (some 61), .fa 61 3 (.s 6), true⟩),
    (1, true, ⟨none, (some 53), .ld 53 false 1 (.s 52), false⟩),
    (3, true, ⟨none, (some 55), .ld 55 false 1 (.s 54), false⟩),
    (8, true, ⟨none, (some 60), .ld 60 false 1 (.s 59), false⟩),
    (10, true, ⟨none, (some 62), .ld 62 false 1 (.s 61), false⟩),
    (4, false, ⟨none, (some 56), .call (some 56) 64 false [(.s 53), (.s 55)], false⟩),
    (5, true, ⟨none, (some 57), .bin 57 .add (.k (Value.string ⟨#[64, 64, 32, 45]⟩)) (.s 56), false⟩),
    (6, true, ⟨none, (some 58), .bin 58 .add (.s 57) (.k (Value.string ⟨#[32, 43]⟩)), false⟩),
    (11, false, ⟨none, (some 63), .call (some 63) 64 false [(.s 60), (.s 62)], false⟩),
    (12, true, ⟨none, (some 64), .bin 64 .add (.s 58) (.s 63), false⟩),
    (13, true, ⟨none, (some 65), .bin 65 .add (.s 64) (.k (Value.string ⟨#[32, 64, 64, 10]⟩)), false⟩),
    (14, false, ⟨none, (some 66), .call (some 66) 43 false [(.s 4), (.s 65)], false⟩)]))
  (.seq (.seq (.keep [1, 4, 6, 27, 28, 29]) (.ops [⟨none, (some 67), .fa 67 4 (.s 6), false⟩,
    ⟨none, (some 68), .ld 68 false 1 (.s 67), false⟩,
    ⟨none, (some 69), .len 69 (.s 68), false⟩,
    ⟨none, (some 70), .mv 70 (.k (Value.int .i64 0)), false⟩]))
  (.block 2 (.loop [1, 4, 27, 28, 29, 68, 69, 70] (.seq (.ops [⟨none, (some 71), .bin 71 .lss (.s 70) (.s 69), false⟩])
  (.seq (.cond (.s 71) .skip (.exit 2))
  (.seq (.block 3 (.seq (.seq (.keep [1, 4, 27, 28, 29, 68, 69, 70]) (.ops [⟨none, (some 72), .ia 72 2 (.s 68) (.s 70), false⟩,
    ⟨none, (some 73), .ld 73 true 2 (.s 72), false⟩,
    ⟨none, (some 9), .al 9 96 [(Value.int .u8 0), (Value.string ⟨#[]⟩)], false⟩,
    ⟨none, none, .st true 2 (.s 9) (.s 73), false⟩]))
  (.seq (.seq (.keep [1, 4, 9, 27, 28, 29, 68, 69, 70]) (.ops [⟨none, (some 75), .fa 75 1 (.s 9), false⟩,
    ⟨none, (some 76), .ld 76 false 1 (.s 75), false⟩,
    ⟨none, (some 77), .call (some 77) 58 false [(.s 76)], false⟩,
    ⟨none, (some 74), .mv 74 (.s 77), false⟩,
    ⟨none, (some 78), .ex 78 (.s 74) 0, false⟩,
    ⟨none, (some 79), .ex 79 (.s 74) 1, false⟩,
    ⟨none, (some 10), .mv 10 (.s 78), false⟩,
    ⟨none, (some 11), .mv 11 (.s 79), false⟩]))
  (.seq (.seq (.keep [1, 4, 9, 10, 11, 27, 28, 29, 68, 69, 70]) (.ops [⟨none, (some 80), .fa 80 0 (.s 9), false⟩,
    ⟨none, (some 81), .ld 81 false 1 (.s 80), false⟩,
    ⟨none, (some 82), .cvi 82 .i32 (.s 81), false⟩,
    ⟨none, (some 83), .i2s 83 (.s 82), false⟩,
    ⟨none, (some 84), .mv 84 (.s 10), false⟩,
    ⟨none, (some 85), .bin 85 .add (.s 83) (.s 84), false⟩,
    ⟨none, (some 86), .bin 86 .add (.s 85) (.k (Value.string ⟨#[10]⟩)), false⟩,
    ⟨none, (some 87), .call (some 87) 43 false [(.s 4), (.s 86)], false⟩]))
  (.seq (.ops [⟨none, (some 88), .mv 88 (.s 11), false⟩,
    ⟨none, (some 89), .not 89 (.s 88), false⟩])
  (.cond (.s 89) (.ops [⟨none, (some 90), .call (some 90) 43 false [(.s 4), (.k (Value.string ⟨#[92, 32, 78, 111, 32, 110, 101, 119, 108, 105, 110, 101, 32, 97, 116, 32, 101, 110, 100, 32, 111, 102, 32, 102, 105, 108, 101, 10]⟩))], false⟩]) .skip))))))
  (.ops [⟨none, (some 91), .binc 91 .add (.s 70) (.k (Value.int .i64 1)), false⟩,
    ⟨none, (some 70), .mv 70 (.s 91), false⟩]))))))))))))
  (.ops [⟨none, (some 92), .binc 92 .add (.s 29) (.k (Value.int .i64 1)), false⟩,
    ⟨none, (some 29), .mv 29 (.s 92), false⟩])))))))
  (.seq (.seq (.keep [4]) (.ops [⟨none, (some 93), .call (some 93) 45 false [(.s 4)], false⟩,
    ⟨none, (some 2), .mv 2 (.s 93), false⟩,
    ⟨none, (some 3), .mv 3 (.k (Value.int .i64 0)), false⟩]))
  .ret))))))
theorem cc23 : (Tryd.f23.body).bind (cc Tryd.prog Tryd.f23.ntmps A23) = some S23 := by kernel_rfl
def R23 : List RR := [.sl 2, .sl 3]
theorem cr23 : Tryd.f23.results.toList.map (crr Tryd.prog) = R23.map some := by kernel_rfl
theorem nm23 : (Tryd.f23.name == "runtime.NumGoroutine") = false := by kernel_rfl
theorem fn23 : Tryd.prog.funcs[23]? = some Tryd.f23 := by kernel_rfl
theorem bd23 : ∃ b, Tryd.f23.body = some b ∧ cc Tryd.prog Tryd.f23.ntmps A23 b = some S23 := Option.bind_eq_some_iff.1 cc23
theorem sd23 {G : World → Prop} {T : FuncId → Contract} {C : Contract} (hT : ∀ f, Sound G Tryd.prog f (T f)) (hl : C.lawful) (hC : ∀ args st K, C.wp args st K → args.length ≤ 94 ∧ ∃ os op, xv T st.n S23 (st0 args st) (retK R23 st.n os K) (panK st.n op K)) (hit : SoundIt G Tryd.prog 23 C.it := by exact SoundIt.none) : Sound G Tryd.prog 23 C := by
  obtain ⟨b, hb, hc⟩ := bd23
  rw [xv_eq] at hC
  exact sound_of_ev mo fn23 hb nm23 hc cr23 hT hl hit hC

/-! 24: redline/redlineref16.Print -/
def A24 : Ann := ⟨fun r i => if r = 2 ∧ i = 5 then 1 else 0, fun r => if r = 13 then some ([], [(0, true), (1, true), (3, true), (9, true), (11, true), (2, true), (4, true), (5, true), (6, true), (10, true), (12, true), (13, true), (14, true), (7, false), (8, false), (15, false), (16, true), (17, true)]) else if r = 9 then some ([], [(0, true), (1, true), (2, true), (4, true), (9, true), (11, true), (3, true), (5, true), (10, true), (12, true), (6, false), (7, true), (8, true), (13, false), (14, true), (15, true), (16, true)]) else if r = 4 then some ([], [(0, true), (5, true), (1, true), (6, true), (2, false), (3, true), (4, true), (7, false), (8, true), (9, true), (10, true)]) else none, fun r => if r = 1 then some (false, [1]) else if r = 2 then some (false, [1, 4]) else if r = 3 then some (false, [4]) else if r = 4 then some (false, [1]) else if r = 6 then some (false, [1, 5, 6]) else if r = 7 then some (false, [1, 5, 6]) else if r = 8 then some (false, [1, 5, 6]) else if r = 9 then some (false, [1, 5, 6, 7]) else if r = 11 then some (false, [1, 5, 6, 7, 8]) else if r = 12 then some (false, [1, 5, 6, 7, 8]) else if r = 13 then some (false, [1, 5, 6, 7, 8]) else if r = 14 then some (false, [5]) else none, fun r => if r = 6 then [1, 5, 6] else if r = 11 then [1, 5, 6, 7, 8] else []⟩
def S24 : SCode :=
  (.seq (.ops [⟨none, (some 1), .bx 1 34 3 (.s 0), false⟩,
    ⟨none, (some 2), .mv 2 (.k (Value.string ⟨#[]⟩)), false⟩,
    ⟨none, (some 3), .mv 3 (.k (Value.int .i64 0)), false⟩])
  (.seq (.seq (.keep [1]) (.ops [⟨none, (some 9), .ld 9 true 3 (.s 1), false⟩,
    ⟨none, (some 10), .call (some 10) 65 false [(.s 9)], false⟩,
    ⟨none, (some 4), .mv 4 (.s 10), false⟩]))
  (.seq (.seq (.seq (.keep [1, 4]) (.ops [⟨none, (some 11), .mv 11 (.s 4), false⟩,
    ⟨none, (some 12), .bin 12 .neq (.s 11) (.k (Value.int .i64 0)), false⟩,
    ⟨none, (some 13), .mv 13 (.s 12), false⟩,
    ⟨(some (13, false)), (some 14), .fa 14 2 (.s 1), false⟩,
    ⟨(some (13, false)), (some 15), .ld 15 false 1 (.s 14), false⟩,
    ⟨(some (13, false)), (some 16), .len 16 (.s 15), false⟩,
    ⟨(some (13, false)), (some 17), .bin 17 .eql (.s 16) (.k (Value.int .i64 0)), false⟩,
    ⟨none, (some 18), .pk 18 (.s 13) (.k (Value.bool true)) (.s 17), false⟩]))
  (.cond (.s 18) (.seq (.seq (.keep [4]) (.ops [⟨none, (some 19), .mv 19 (.s 4), false⟩,
    ⟨none, (some 2), .mv 2 (.k (Value.string ⟨#[]⟩)), false⟩,
    ⟨none, (some 3), .mv 3 (.s 19), false⟩]))
  .ret) .skip))
  (.seq (.seq (.keep [1]) (.dr [] [(0, true, ⟨none, (some 20), .fa 20 0 (.s 1), false⟩),
    (5, true, ⟨none, (some 25), .fa 25 1 (.s 1), false⟩),
    (1, true, ⟨none, (some 21), .ld 21 false 1 (.s 20), false⟩),
    (6, true, ⟨none, (some 26), .ld 26 false 1 (.s 25), false⟩),
    (2, false, ⟨none, (some 22), .call (some 22) 66 false [(.s 21)], false⟩),
    (3, true, ⟨none, (some 23), .bin 23 .add (.k (Value.string ⟨#[45, 45, 45, 32]⟩)) (.s 22), false⟩),
    (4, true, ⟨none, (some 24), .bin 24 .add (.s 23) (.k (Value.string ⟨#[10, 43, 43, 43, 32]⟩)), false⟩),
    (7, false, ⟨none, (some 27), .call (some 27) 66 false [(.s 26)], false⟩),
    (8, true, ⟨none, (some 28), .bin 28 .add (.s 24) (.s 27), false⟩),
    (9, true, ⟨none, (some 29), .bin 29 .add (.s 28) (.k (Value.string ⟨#[10]⟩)), true⟩),
    (10, true, ⟨none, (some 5), .mv 5 (.s 29), false⟩)]))
  (.seq (.seq (.ops [⟨none, (some 6), .mv 6 (.k (Value.int .i64 0)), false⟩])
  (.block 0 (.loop [1, 5, 6] (.seq (.seq (.seq (.keep [1, 5, 6]) (.ops [⟨none, (some 30), .mv 30 (.s 6), false⟩,
    ⟨none, (some 31), .fa 31 2 (.s 1), false⟩,
    ⟨none, (some 32), .ld 32 false 1 (.s 31), false⟩,
    ⟨none, (some 33), .len 33 (.s 32), false⟩,
    ⟨none, (some 34), .bin 34 .lss (.s 30) (.s 33), false⟩]))
  (.cond (.s 34) .skip (.exit 0)))
  (.seq (.block 1 (.seq (.seq (.keep [1, 5, 6]) (.ops [⟨none, (some 37), .fa 37 2 (.s 1), false⟩,
    ⟨none, (some 38), .ld 38 false 1 (.s 37), false⟩,
    ⟨none, (some 39), .mv 39 (.s 6), false⟩,
    ⟨none, (some 40), .ia 40 5 (.s 38) (.s 39), false⟩,
    ⟨none, (some 41), .ld 41 true 5 (.s 40), false⟩,
    ⟨none, (some 7), .al 7 93 [(Value.int .i64 0), (Value.int .i64 0), (Value.int .i64 0), (Value.int .i64 0), (Value.slice none 0 0)], false⟩,
    ⟨none, none, .st true 5 (.s 7) (.s 41), false⟩]))
  (.seq (.seq (.keep [1, 5, 6, 7]) (.dr [] [(0, true, ⟨none, (some 42), .mv 42 (.s 5), false⟩),
    (1, true, ⟨none, (some 43), .bin 43 .add (.s 42) (.k (Value.string ⟨#[64, 64, 32, 45]⟩)), false⟩),
    (2, true, ⟨none, (some 44), .fa 44 0 (.s 7), false⟩),
    (4, true, ⟨none, (some 46), .fa 46 1 (.s 7), false⟩),
    (9, true, ⟨none, (some 51), .fa 51 2 (.s 7), true⟩),
    (11, true, ⟨none, (some 53), .fa 53 3 (.s 7), false⟩),
    (3, true, ⟨none, (some 45), .ld 45 false 1 (.s 44), false⟩),
    (5, true, ⟨none, (some 47), .ld 47 false 1 (.s 46), false⟩),
    (10, true, ⟨none, (some 52), .ld 52 false 1 (.s 51), false⟩),
    (12, true, ⟨none, (some 54), .ld 54 false 1 (.s 53), false⟩),
    (6, false, ⟨none, (some 48), .call (some 48) 67 false [(.s 45), (.s 47)], false⟩),
    (7, true, ⟨none, (some 49), .bin 49 .add (.s 43) (.s 48), false⟩),
    (8, true, ⟨none, (some 50), .bin 50 .add (.s 49) (.k (Value.string ⟨#[32, 43]⟩)), false⟩),
    (13, false, ⟨none, (some 55), .call (some 55) 67 false [(.s 52), (.s 54)], false⟩),
    (14, true, ⟨none, (some 56), .bin 56 .add (.s 50) (.s 55), false⟩),
    (15, true, ⟨none, (some 57), .bin 57 .add (.s 56) (.k (Value.string ⟨#[32, 64, 64, 10]⟩)), false⟩),
    (16, true, ⟨none, (some 5), .mv 5 (.s 57), false⟩)]))
  (.seq (.ops [⟨none, (some 8), .mv 8 (.k (Value.int .i64 0)), false⟩])
  (.block 2 (.loop [1, 5, 6, 7, 8] (.seq (.seq (.seq (.keep [1, 5, 6, 7, 8]) (.ops [⟨none, (some 58), .mv 58 (.s 8), false⟩,
    ⟨none, (some 59), .fa 59 4 (.s 7), false⟩,
    ⟨none, (some 60), .ld 60 false 1 (.s 59), false⟩,
    ⟨none, (some 61), .len 61 (.s 60), false⟩,
    ⟨none, (some 62), .bin 62 .lss (.s 58) (.s 61), false⟩]))
  (.cond (.s 62) .skip (.exit 2)))
  (.seq (.block 3 (.seq (.keep [1, 5, 6, 7, 8]) (.dr [] [(0, true, ⟨none, (some 65), .mv 65 (.s 5), false⟩),
    (1, true, ⟨none, (some 66), .fa 66 4 (.s 7), false⟩),
    (3, true, ⟨none, (some 68), .mv 68 (.s 8), false⟩),
    (9, true, ⟨none, (some 74), .fa 74 4 (.s 7), true⟩),
    (11, true, ⟨none, (some 76), .mv 76 (.s 8), false⟩),
    (2, true, ⟨none, (some 67), .ld 67 false 1 (.s 66), false⟩),
    (4, true, ⟨none, (some 69), .ia 69 2 (.s 67) (.s 68), false⟩),
    (5, true, ⟨none, (some 70), .fa 70 0 (.s 69), false⟩),
    (6, true, ⟨none, (some 71), .ld 71 false 1 (.s 70), false⟩),
    (10, true, ⟨none, (some 75), .ld 75 false 1 (.s 74), false⟩),
    (12, true, ⟨none, (some 77), .ia 77 2 (.s 75) (.s 76), false⟩),
    (13, true, ⟨none, (some 78), .fa 78 1 (.s 77), false⟩),
    (14, true, ⟨none, (some 79), .ld 79 false 1 (.s 78), false⟩),
    (7, false, ⟨none, (some 72), .bs 72 5 1 [(.s 71)], false⟩),
    (8, false, ⟨none, (some 73), .b2s 73 (.s 72), false⟩),
    (15, false, ⟨none, (some 80), .call (some 80) 68 false [(.s 73), (.s 79)], false⟩),
    (16, true, ⟨none, (some 81), .bin 81 .add (.s 65) (.s 80), false⟩),
    (17, true, ⟨none, (some 5), .mv 5 (.s 81), false⟩)])))
  (.seq (.keep [1, 5, 6, 7, 8]) (.ops [⟨none, (some 63), .mv 63 (.s 8), false⟩,
    ⟨none, (some 64), .binc 64 .add (.s 63) (.k (Value.int .i64 1)), false⟩,
    ⟨none, (some 8), .mv 8 (.s 64), false⟩]))))))))))
  (.seq (.keep [1, 5, 6]) (.ops [⟨none, (some 35), .mv 35 (.s 6), false⟩,
    ⟨none, (some 36), .binc 36 .add (.s 35) (.k (Value.int .i64 1)), false⟩,
    ⟨none, (some 6), .mv 6 (.s 36), false⟩])))))))
  (.seq (.seq (.keep [5]) (.ops [⟨none, (some 82), .mv 82 (.s 5), false⟩,
    ⟨none, (some 2), .mv 2 (.s 82), false⟩,
    ⟨none, (some 3), .mv 3 (.k (Value.int .i64 0)), false⟩]))
  .ret))))))
theorem cc24 : (Tryd.f24.body).bind (cc Tryd.prog Tryd.f24.ntmps A24) = some S24 := by kernel_rfl
def R24 : List RR := [.sl 2, .sl 3]
theorem cr24 : Tryd.f24.results.toList.map (crr Tryd.prog) = R24.map some := by kernel_rfl
theorem nm24 : (Tryd.f24.name == "runtime.NumGoroutine") = false := by kernel_rfl
theorem fn24 : Tryd.prog.funcs[24]? = some Tryd.f24 := by kernel_rfl
theorem bd24 : ∃ b, Tryd.f24.body = some b ∧ cc Tryd.prog Tryd.f24.ntmps A24 b = some S24 := Option.bind_eq_some_iff.1 cc24
theorem sd24 {G : World → Prop} {T : FuncId → Contract} {C : Contract} (hT : ∀ f, Sound G Tryd.prog f (T f)) (hl : C.lawful) (hC : ∀ args st K, C.wp args st K → args.length ≤ 83 ∧ ∃ os op, xv T st.n S24 (st0 args st) (retK R24 st.n os K) (panK st.n op K)) (hit : SoundIt G Tryd.prog 24 C.it := by exact SoundIt.none) : Sound G Tryd.prog 24 C := by
  obtain ⟨b, hb, hc⟩ := bd24
  rw [xv_eq] at hC
  exact sound_of_ev mo fn24 hb nm24 hc cr24 hT hl hit hC

/-! 25: redline/redlineref16.Same -/
def A25 : Ann := ⟨fun _ _ => 0, fun _ => none, fun r => if r = 1 then some (false, [2, 3]) else none, fun _ => []⟩
def S25 : SCode :=
  (.seq (.ops [⟨none, (some 2), .bx 2 34 3 (.s 0), false⟩,
    ⟨none, (some 3), .bx 3 34 3 (.s 1), false⟩,
    ⟨none, (some 4), .mv 4 (.k (Value.bool false)), false⟩])
  (.seq (.seq (.keep [2, 3]) (.ops [⟨none, (some 5), .ld 5 true 3 (.s 2), false⟩,
    ⟨none, (some 6), .ld 6 true 3 (.s 3), false⟩,
    ⟨none, (some 7), .call (some 7) 29 false [(.s 5), (.s 6)], false⟩,
    ⟨none, (some 4), .mv 4 (.s 7), false⟩]))
  .ret))
theorem cc25 : (Tryd.f25.body).bind (cc Tryd.prog Tryd.f25.ntmps A25) = some S25 := by kernel_rfl
def R25 : List RR := [.sl 4]
theorem cr25 : Tryd.f25.results.toList.map (crr Tryd.prog) = R25.map some := by kernel_rfl
theorem nm25 : (Tryd.f25.name == "runtime.NumGoroutine") = false := by kernel_rfl
theorem fn25 : Tryd.prog.funcs[25]? = some Tryd.f25 := by kernel_rfl
theorem bd25 : ∃ b, Tryd.f25.body = some b ∧ cc Tryd.prog Tryd.f25.ntmps A25 b = some S25 := Option.bind_eq_some_iff.1 cc25
theorem sd25 {G : World → Prop} {T : FuncId → Contract} {C : Contract} (hT : ∀ f, Sound G Tryd.prog f (T f)) (hl : C.lawful) (hC : ∀ args st K, C.wp args st K → args.length ≤ 8 ∧ ∃ os op, xv T st.n S25 (st0 args st) (retK R25 st.n os K) (panK st.n op K)) (hit : SoundIt G Tryd.prog 25 C.it := by exact SoundIt.none) : Sound G Tryd.prog 25 C := by
  obtain ⟨b, hb, hc⟩ := bd25
  rw [xv_eq] at hC
  exact sound_of_ev mo fn25 hb nm25 hc cr25 hT hl hit hC

/-! 26: redline/redlineref15.Copy -/
def A26 : Ann := ⟨fun r i => if r = 1 ∧ i = 0 then 36 else 0, fun _ => none, fun r => if r = 3 then some (false, [0, 3, 4]) else if r = 4 then some (false, [0, 3, 4]) else if r = 5 then some (false, [0, 3, 4]) else if r = 6 then some (false, [0, 3, 4, 5]) else if r = 7 then some (false, [0, 3, 4, 5]) else none, fun r => if r = 3 then [0, 3, 4] else []⟩
def S26 : SCode :=
  (.seq (.ops [⟨none, (some 2), .mv 2 (.k (Value.slice none 0 0)), false⟩])
  (.seq (.ops [⟨none, (some 3), .nr 3 34 3, false⟩])
  (.seq (.seq (.ops [⟨none, (some 4), .mv 4 (.k (Value.int .i64 0)), false⟩])
  (.block 0 (.loop [0, 3, 4] (.seq (.seq (.seq (.keep [0, 3, 4]) (.ops [⟨none, (some 6), .mv 6 (.s 4), false⟩,
    ⟨none, (some 7), .mv 7 (.s 0), false⟩,
    ⟨none, (some 8), .len 8 (.s 7), false⟩,
    ⟨none, (some 9), .bin 9 .lss (.s 6) (.s 8), false⟩]))
  (.cond (.s 9) .skip (.exit 0)))
  (.seq (.block 1 (.seq (.seq (.keep [0, 3, 4]) (.ops [⟨none, (some 12), .mv 12 (.s 0), false⟩,
    ⟨none, (some 13), .mv 13 (.s 4), false⟩,
    ⟨none, (some 14), .ia 14 3 (.s 12) (.s 13), false⟩,
    ⟨none, (some 15), .ld 15 true 3 (.s 14), false⟩,
    ⟨none, (some 5), .al 5 34 [(Value.string ⟨#[]⟩), (Value.string ⟨#[]⟩), (Value.slice none 0 0)], false⟩,
    ⟨none, none, .st true 3 (.s 5) (.s 15), false⟩]))
  (.seq (.seq (.keep [0, 3, 4, 5]) (.ops [⟨none, (some 16), .fa 16 2 (.s 5), false⟩,
    ⟨none, (some 17), .ld 17 false 1 (.s 16), false⟩,
    ⟨none, (some 18), .call (some 18) 69 false [(.s 17)], false⟩,
    ⟨none, (some 19), .fa 19 2 (.s 5), false⟩,
    ⟨none, none, .st false 1 (.s 19) (.s 18), false⟩]))
  (.seq (.keep [0, 3, 4, 5]) (.ops [⟨none, (some 20), .mv 20 (.s 3), false⟩,
    ⟨none, (some 21), .ld 21 true 3 (.s 5), false⟩,
    ⟨none, (some 22), .bs 22 34 3 [(.s 21)], false⟩,
    ⟨none, (some 23), .ap 23 34 3 56 (.s 20) (.s 22), false⟩,
    ⟨none, (some 3), .mv 3 (.s 23), false⟩])))))
  (.seq (.keep [0, 3, 4]) (.ops [⟨none, (some 10), .mv 10 (.s 4), false⟩,
    ⟨none, (some 11), .binc 11 .add (.s 10) (.k (Value.int .i64 1)), false⟩,
    ⟨none, (some 4), .mv 4 (.s 11), false⟩])))))))
  (.seq (.ops [⟨none, (some 24), .mv 24 (.s 3), false⟩,
    ⟨none, (some 2), .mv 2 (.s 24), false⟩])
  .ret))))
theorem cc26 : (Tryd.f26.body).bind (cc Tryd.prog Tryd.f26.ntmps A26) = some S26 := by kernel_rfl
def R26 : List RR := [.sl 2]
theorem cr26 : Tryd.f26.results.toList.map (crr Tryd.prog) = R26.map some := by kernel_rfl
theorem nm26 : (Tryd.f26.name == "runtime.NumGoroutine") = false := by kernel_rfl
theorem fn26 : Tryd.prog.funcs[26]? = some Tryd.f26 := by kernel_rfl
theorem bd26 : ∃ b, Tryd.f26.body = some b ∧ cc Tryd.prog Tryd.f26.ntmps A26 b = some S26 := Option.bind_eq_some_iff.1 cc26
theorem sd26 {G : World → Prop} {T : FuncId → Contract} {C : Contract} (hT : ∀ f, Sound G Tryd.prog f (T f)) (hl : C.lawful) (hC : ∀ args st K, C.wp args st K → args.length ≤ 25 ∧ ∃ os op, xv T st.n S26 (st0 args st) (retK R26 st.n os K) (panK st.n op K)) (hit : SoundIt G Tryd.prog 26 C.it := by exact SoundIt.none) : Sound G Tryd.prog 26 C := by
  obtain ⟨b, hb, hc⟩ := bd26
  rw [xv_eq] at hC
  exact sound_of_ev mo fn26 hb nm26 hc cr26 hT hl hit hC

/-! 27: redline/ctxfmt.Print -/
def A27 : Ann := ⟨fun r i => if r = 1 ∧ i = 7 then 1 else if r = 5 ∧ i = 0 then 7 else 0, fun r => if r = 13 then some ([1], [(0, true), (1, true), (6, true), (2, true), (7, true), (3, false), (4, true), (5, true), (8, false), (9, true), (10, true), (11, false)]) else none, fun r => if r = 1 then some (false, [1]) else if r = 3 then some (false, [1]) else if r = 6 then some (false, [1, 4]) else if r = 8 then some (false, [1, 4, 23, 24, 25]) else if r = 9 then some (false, [1, 4, 5, 6, 23, 24, 25]) else if r = 11 then some (false, [7]) else if r = 13 then some (false, [1, 4, 6, 23, 24, 25]) else if r = 14 then some (false, [1, 4, 6, 23, 24, 25]) else if r = 16 then some (false, [1, 4, 6, 23, 24, 25]) else if r = 19 then some (false, [4]) else none, fun r => if r = 7 then [1, 4, 23, 24, 25] else []⟩
def S27 : SCode :=
  (.seq (.ops [⟨none, (some 1), .bx 1 34 3 (.s 0), false⟩,
    ⟨none, (some 2), .mv 2 (.k (Value.string ⟨#[]⟩)), false⟩,
    ⟨none, (some 3), .mv 3 (.k (Value.int .i64 0)), false⟩])
  (.seq (.seq (.seq (.keep [1]) (.ops [⟨none, (some 8), .fa 8 0 (.s 1), false⟩,
    ⟨none, (some 9), .ld 9 false 1 (.s 8), false⟩,
    ⟨none, (some 10), .lens 10 (.s 9), false⟩,
    ⟨none, (some 11), .bin 11 .gtr (.s 10) (.k (Value.int .i64 64)), false⟩,
    ⟨none, (some 12), .mv 12 (.s 11), false⟩,
    ⟨(some (12, false)), (some 13), .fa 13 1 (.s 1), false⟩,
    ⟨(some (12, false)), (some 14), .ld 14 false 1 (.s 13), false⟩,
    ⟨(some (12, false)), (some 15), .lens 15 (.s 14), false⟩,
    ⟨(some (12, false)), (some 16), .bin 16 .gtr (.s 15) (.k (Value.int .i64 64)), false⟩,
    ⟨none, (some 17), .pk 17 (.s 12) (.k (Value.bool true)) (.s 16), true⟩]))
  (.cond (.s 17) (.seq (.ops [⟨none, (some 2), .mv 2 (.k (Value.string ⟨#[]⟩)), false⟩,
    ⟨none, (some 3), .mv 3 (.k (Value.int .i64 253)), false⟩])
  .ret) .skip))
  (.seq (.seq (.seq (.keep [1]) (.ops [⟨none, (some 18), .fa 18 2 (.s 1), false⟩,
    ⟨none, (some 19), .ld 19 false 1 (.s 18), false⟩,
    ⟨none, (some 20), .len 20 (.s 19), false⟩,
    ⟨none, (some 21), .bin 21 .gtr (.s 20) (.k (Value.int .i64 4096)), false⟩]))
  (.cond (.s 21) (.seq (.ops [⟨none, (some 2), .mv 2 (.k (Value.string ⟨#[]⟩)), false⟩,
    ⟨none, (some 3), .mv 3 (.k (Value.int .i64 9)), false⟩])
  .ret) .skip))
  (.seq (.ops [⟨none, (some 4), .alb 4 99 5, false⟩])
  (.seq (.seq (.seq (.keep [1, 4]) (.ops [⟨none, (some 22), .fa 22 2 (.s 1), false⟩,
    ⟨none, (some 23), .ld 23 false 1 (.s 22), false⟩,
    ⟨none, (some 24), .len 24 (.s 23), false⟩,
    ⟨none, (some 25), .mv 25 (.k (Value.int .i64 0)), false⟩]))
  (.block 0 (.loop [1, 4, 23, 24, 25] (.seq (.ops [⟨none, (some 26), .bin 26 .lss (.s 25) (.s 24), false⟩])
  (.seq (.cond (.s 26) .skip (.exit 0))
  (.seq (.block 1 (.seq (.seq (.keep [1, 4, 23, 24, 25]) (.ops [⟨none, (some 27), .mv 27 (.s 25), false⟩,
    ⟨none, (some 28), .ia 28 5 (.s 23) (.s 25), false⟩,
    ⟨none, (some 29), .ld 29 true 5 (.s 28), false⟩,
    ⟨none, (some 6), .al 6 93 [(Value.int .i64 0), (Value.int .i64 0), (Value.int .i64 0), (Value.int .i64 0), (Value.slice none 0 0)], false⟩,
    ⟨none, (some 5), .mv 5 (.s 27), false⟩,
    ⟨none, none, .st true 5 (.s 6) (.s 29), false⟩]))
  (.seq (.seq (.seq (.keep [1, 4, 5, 6, 23, 24, 25]) (.ops [⟨none, (some 30), .ld 30 true 5 (.s 6), false⟩,
    ⟨none, (some 31), .call (some 31) 62 false [(.s 30)], false⟩,
    ⟨none, (some 7), .mv 7 (.s 31), false⟩]))
  (.seq (.ops [⟨none, (some 32), .mv 32 (.s 7), false⟩,
    ⟨none, (some 33), .bin 33 .neq (.s 32) (.k (Value.int .i64 0)), false⟩])
  (.cond (.s 33) (.seq (.seq (.keep [7]) (.ops [⟨none, (some 34), .mv 34 (.s 7), false⟩,
    ⟨none, (some 2), .mv 2 (.k (Value.string ⟨#[]⟩)), false⟩,
    ⟨none, (some 3), .mv 3 (.s 34), false⟩]))
  .ret) .skip)))
  (.seq (.seq (.ops [⟨none, (some 35), .mv 35 (.s 5), false⟩,
    ⟨none, (some 36), .bin 36 .eql (.s 35) (.k (Value.int .i64 0)), false⟩])
  (.cond (.s 36) (.seq (.keep [1, 4, 6, 23, 24, 25]) (.dr [1] [(0, true, ⟨none, (some 37), .fa 37 0 (.s 4), false⟩),
    (1, true, ⟨none, (some 38), .fa 38 0 (.s 1), false⟩),
    (6, true, ⟨none, (some 43), .fa 43 1 (.s 1), false⟩),
    (2, true, ⟨none, (some 39), .ld 39 false 1 (.s 38), false⟩),
    (7, true, ⟨none, (some 44), .ld 44 false 1 (.s 43), false⟩),
    (3, false, ⟨none, (some 40), .call (some 40) 70 false [(.s 39)], false⟩),
    (4, true, ⟨none, (some 41), .bin 41 .add (.k (Value.string ⟨#[42, 42, 42, 32]⟩)) (.s 40), false⟩),
    (5, true, ⟨none, (some 42), .bin 42 .add (.s 41) (.k (Value.string ⟨#[10, 45, 45, 45, 32]⟩)), false⟩),
    (8, false, ⟨none, (some 45), .call (some 45) 70 false [(.s 44)], false⟩),
    (9, true, ⟨none, (some 46), .bin 46 .add (.s 42) (.s 45), true⟩),
    (10, true, ⟨none, (some 47), .bin 47 .add (.s 46) (.k (Value.string ⟨#[10]⟩)), false⟩),
    (11, false, ⟨none, (some 48), .call (some 48) 43 false [(.s 37), (.s 47)], false⟩)])) .skip))
  (.seq (.seq (.keep [1, 4, 6, 23, 24, 25]) (.ops [⟨none, (some 49), .fa 49 0 (.s 4), false⟩,
    ⟨none, (some 50), .fa 50 0 (.s 6), false⟩,
    ⟨none, (some 51), .ld 51 false 1 (.s 50), false⟩,
    ⟨none, (some 52), .fa 52 1 (.s 6), false⟩,
    ⟨none, (some 53), .ld 53 false 1 (.s 52), false⟩,
    ⟨none, (some 54), .call (some 54) 71 false [(.s 51), (.s 53)], false⟩,
    ⟨none, (some 55), .bin 55 .add (.k (Value.string ⟨#[42, 42, 42, 42, 42, 42, 42, 42, 42, 42, 42, 42, 42, 42, 42, 10, 42, 42, 42, 32]⟩)) (.s 54), false⟩,
    ⟨none, (some 56), .bin 56 .add (.s 55) (.k (Value.string ⟨#[32, 42, 42, 42, 42, 10]⟩)), false⟩,
    ⟨none, (some 57), .call (some 57) 43 false [(.s 49), (.s 56)], false⟩]))
  (.seq (.ops [⟨none, (some 58), .ld 58 true 5 (.s 6), false⟩,
    ⟨none, (some 59), .call (some 59) 72 false [(.s 4), (.s 58), (.k (Value.int .u8 45))], false⟩])
  (.seq (.seq (.keep [1, 4, 6, 23, 24, 25]) (.ops [⟨none, (some 60), .fa 60 0 (.s 4), false⟩,
    ⟨none, (some 61), .fa 61 2 (.s 6), false⟩,
    ⟨none, (some 62), .ld 62 false 1 (.s 61), false⟩,
    ⟨none, (some 63), .fa 63 3 (.s 6), false⟩,
    ⟨none, (some 64), .ld 64 false 1 (.s 63), false⟩,
    ⟨none, (some 65), .call (some 65) 71 false [(.s 62), (.s 64)], false⟩,
    ⟨none, (some 66), .bin 66 .add (.k (Value.string ⟨#[45, 45, 45, 32]⟩)) (.s 65), false⟩,
    ⟨none, (some 67), .bin 67 .add (.s 66) (.k (Value.string ⟨#[32, 45, 45, 45, 45, 10]⟩)), false⟩,
    ⟨none, (some 68), .call (some 68) 43 false [(.s 60), (.s 67)], false⟩]))
  (.ops [⟨none, (some 69), .ld 69 true 5 (.s 6), false⟩,
    ⟨none, (some 70), .call (some 70) 72 false [(.s 4), (.s 69), (.k (Value.int .u8 43))], false⟩]))))))))
  (.ops [⟨none, (some 71), .binc 71 .add (.s 25) (.k (Value.int .i64 1)), false⟩,
    ⟨none, (some 25), .mv 25 (.s 71), false⟩])))))))
  (.seq (.seq (.keep [4]) (.ops [⟨none, (some 72), .fa 72 0 (.s 4), false⟩,
    ⟨none, (some 73), .call (some 73) 45 false [(.s 72)], false⟩,
    ⟨none, (some 2), .mv 2 (.s 73), false⟩,
    ⟨none, (some 3), .mv 3 (.k (Value.int .i64 0)), false⟩]))
  .ret))))))
theorem cc27 : (Tryd.f27.body).bind (cc Tryd.prog Tryd.f27.ntmps A27) = some S27 := by kernel_rfl
def R27 : List RR := [.sl 2, .sl 3]
theorem cr27 : Tryd.f27.results.toList.map (crr Tryd.prog) = R27.map some := by kernel_rfl
theorem nm27 : (Tryd.f27.name == "runtime.NumGoroutine") = false := by kernel_rfl
theorem fn27 : Tryd.prog.funcs[27]? = some Tryd.f27 := by kernel_rfl
theorem bd27 : ∃ b, Tryd.f27.body = some b ∧ cc Tryd.prog Tryd.f27.ntmps A27 b = some S27 := Option.bind_eq_some_iff.1 cc27
theorem sd27 {G : World → Prop} {T : FuncId → Contract} {C : Contract} (hT : ∀ f, Sound G Tryd.prog f (T f)) (hl : C.lawful) (hC : ∀ args st K, C.wp args st K → args.length ≤ 74 ∧ ∃ os op, xv T st.n S27 (st0 args st) (retK R27 st.n os K) (panK st.n op K)) (hit : SoundIt G Tryd.prog 27 C.it := by exact SoundIt.none) : Sound G Tryd.prog 27 C := by
  obtain ⟨b, hb, hc⟩ := bd27
  rw [xv_eq] at hC
  exact sound_of_ev mo fn27 hb nm27 hc cr27 hT hl hit hC

/-! 28: redline/redlineref15.Print -/
def A28 : Ann := ⟨fun r i => if r = 2 ∧ i = 5 then 1 else 0, fun r => if r = 9 then some ([], [(0, true), (1, true), (2, true), (3, true), (5, true), (14, true), (16, true), (4, true), (6, true), (10, true), (15, true), (17, true), (21, true), (7, false), (8, true), (9, true), (11, false), (12, true), (13, true), (18, false), (19, true), (20, true), (22, false), (23, true), (24, true)]) else if r = 4 then some ([], [(0, true), (5, true), (1, true), (6, true), (2, false), (3, true), (4, true), (7, false), (8, true), (9, true), (10, true)]) else none, fun r => if r = 1 then some (false, [1]) else if r = 2 then some (false, [1, 4]) else if r = 3 then some (false, [4]) else if r = 4 then some (false, [1]) else if r = 6 then some (false, [1, 5, 6]) else if r = 7 then some (false, [1, 5, 6]) else if r = 8 then some (false, [1, 5, 6]) else if r = 9 then some (false, [1, 5, 6, 7]) else if r = 10 then some (false, [5]) else none, fun r => if r = 6 then [1, 5, 6] else []⟩
def S28 : SCode :=
  (.seq (.ops [⟨none, (some 1), .bx 1 34 3 (.s 0), false⟩,
    ⟨none, (some 2), .mv 2 (.k (Value.string ⟨#[]⟩)), false⟩,
    ⟨none, (some 3), .mv 3 (.k (Value.int .i64 0)), false⟩])
  (.seq (.seq (.keep [1]) (.ops [⟨none, (some 8), .ld 8 true 3 (.s 1), false⟩,
    ⟨none, (some 9), .call (some 9) 73 false [(.s 8)], false⟩,
    ⟨none, (some 4), .mv 4 (.s 9), false⟩]))
  (.seq (.seq (.seq (.keep [1, 4]) (.ops [⟨none, (some 10), .mv 10 (.s 4), false⟩,
    ⟨none, (some 11), .bin 11 .neq (.s 10) (.k (Value.int .i64 0)), false⟩,
    ⟨none, (some 12), .mv 12 (.s 11), false⟩,
    ⟨(some (12, false)), (some 13), .fa 13 2 (.s 1), false⟩,
    ⟨(some (12, false)), (some 14), .ld 14 false 1 (.s 13), false⟩,
    ⟨(some (12, false)), (some 15), .len 15 (.s 14), false⟩,
    ⟨(some (12, false)), (some 16), .bin 16 .eql (.s 15) (.k (Value.int .i64 0)), false⟩,
    ⟨none, (some 17), .pk 17 (.s 12) (.k (Value.bool true)) (.s 16), false⟩]))
  (.cond (.s 17) (.seq (.seq (.keep [4]) (.ops [⟨none, (some 18), .mv 18 (.s 4), false⟩,
    ⟨none, (some 2), .mv 2 (.k (Value.string ⟨#[]⟩)), false⟩,
    ⟨none, (some 3), .mv 3 (.s 18), false⟩]))
  .ret) .skip))
  (.seq (.seq (.keep [1]) (.dr [] [(0, true, ⟨none, (some 19), .fa 19 0 (.s 1), false⟩),
    (5, true, ⟨none, (some 24), .fa 24 1 (.s 1), false⟩),
    (1, true, ⟨none, (some 20), .ld 20 false 1 (.s 19), false⟩),
    (6, true, ⟨none, (some 25), .ld 25 false 1 (.s 24), false⟩),
    (2, false, ⟨none, (some 21), .call (some 21) 74 false [(.s 20)], false⟩),
    (3, true, ⟨none, (some 22), .bin 22 .add (.k (Value.string ⟨#[42, 42, 42, 32]⟩)) (.s 21), false⟩),
    (4, true, ⟨none, (some 23), .bin 23 .add (.s 22) (.k (Value.string ⟨#[10, 45, 45, 45, 32]⟩)), false⟩),
    (7, false, ⟨none, (some 26), .call (some 26) 74 false [(.s 25)], false⟩),
    (8, true, ⟨none, (some 27), .bin 27 .add (.s 23) (.s 26), false⟩),
    (9, true, ⟨none, (some 28), .bin 28 .add (.s 27) (.k (Value.string ⟨#[10]⟩)), true⟩),
    (10, true, ⟨none, (some 5), .mv 5 (.s 28), false⟩)]))
  (.seq (.seq (.ops [⟨none, (some 6), .mv 6 (.k (Value.int .i64 0)), false⟩])
  (.block 0 (.loop [1, 5, 6] (.seq (.seq (.seq (.keep [1, 5, 6]) (.ops [⟨none, (some 29), .mv 29 (.s 6), false⟩,
    ⟨none, (some 30), .fa 30 2 (.s 1), false⟩,
    ⟨none, (some 31), .ld 31 false 1 (.s 30), false⟩,
    ⟨none, (some 32), .len 32 (.s 31), false⟩,
    ⟨none, (some 33), .bin 33 .lss (.s 29) (.s 32), false⟩]))
  (.cond (.s 33) .skip (.exit 0)))
  (.seq (.block 1 (.seq (.seq (.keep [1, 5, 6]) (.ops [⟨none, (some 36), .fa 36 2 (.s 1), false⟩,
    ⟨none, (some 37), .ld 37 false 1 (.s 36), false⟩,
    ⟨none, (some 38), .mv 38 (.s 6), false⟩,
    ⟨none, (some 39), .ia 39 5 (.s 37) (.s 38), false⟩,
    ⟨none, (some 40), .ld 40 true 5 (.s 39), false⟩,
    ⟨none, (some 7), .al 7 93 [(Value.int .i64 0), (Value.int .i64 0), (Value.int .i64 0), (Value.int .i64 0), (Value.slice none 0 0)], false⟩,
    ⟨none, none, .st true 5 (.s 7) (.s 40), false⟩]))
  (.seq (.keep [1, 5, 6, 7]) (.dr [] [(0, true, ⟨none, (some 41), .mv 41 (.s 5), false⟩),
    (1, true, ⟨none, (some 42), .bin 42 .add (.s 41) (.k (Value.string ⟨#[42, 42, 42, 42, 42, 42, 42, 42, 42, 42, 42, 42, 42, 42, 42]⟩)), false⟩),
    (2, true, ⟨none, (some 43), .bin 43 .add (.s 42) (.k (Value.string ⟨#[10, 42, 42, 42, 32]⟩)), false⟩),
    (3, true, ⟨none, (some 44), .fa 44 0 (.s 7), false⟩),
    (5, true, ⟨none, (some 46), .fa 46 1 (.s 7), false⟩),
    (14, true, ⟨none, (some 55), .fa 55 2 (.s 7), false⟩),
    (16, true, ⟨none, (some 57), .fa 57 3 (.s 7), false⟩),
    (4, true, ⟨none, (some 45), .ld 45 false 1 (.s 44), false⟩),
    (6, true, ⟨none, (some 47), .ld 47 false 1 (.s 46), false⟩),
    (10, true, ⟨none, (some 51), .ld 51 true 5 (.s 7), false⟩),
    (15, true, ⟨none, (some 56), .ld 56 false 1 (.s 55), false⟩),
    (17, true, ⟨none, (some 58), .ld 58 false 1 (.s 57), false⟩),
    (21, true, ⟨none, (some 62), .ld 62 true 5 (.s 7), false⟩),
    (7, false, ⟨none, (some 48), .call (some 48) 75 false [(.s 45), (.s 47)], false⟩),
    (8, true, ⟨none, (some 49), .bin 49 .add (.s 43) (.s 48), false⟩),
    (9, true, ⟨none, (some 50), .bin 50 .add (.s 49) (.k (Value.string ⟨#[32, 42, 42, 42, 42, 10]⟩)), true⟩),
    (11, false, ⟨none, (some 52), .call (some 52) 76 false [(.s 51), (.k (Value.int .u8 45))], false⟩),
    (12, true, ⟨none, (some 53), .bin 53 .add (.s 50) (.s 52), false⟩),
    (13, true, ⟨none, (some 54), .bin 54 .add (.s 53) (.k (Value.string ⟨#[45, 45, 45, 32]⟩)), false⟩),
    (18, false, ⟨none, (some 59), .call (some 59) 75 false [(.s 56), (.s 58)], false⟩),
    (19, true, ⟨none, (some 60), .bin 60 .add (.s 54) (.s 59), true⟩),
    (20, true, ⟨none, (some 61), .bin 61 .add (.s 60) (.k (Value.string ⟨#[32, 45, 45, 45, 45, 10]⟩)), false⟩),
    (22, false, ⟨none, (some 63), .call (some 63) 76 false [(.s 62), (.k (Value.int .u8 43))], false⟩),
    (23, true, ⟨none, (some 64), .bin 64 .add (.s 61) (.s 63), false⟩),
    (24, true, ⟨none, (some 5), .mv 5 (.s 64), false⟩)]))))
  (.seq (.keep [1, 5, 6]) (.ops [⟨none, (some 34), .mv 34 (.s 6), false⟩,
    ⟨none, (some 35), .binc 35 .add (.s 34) (.k (Value.int .i64 1)), false⟩,
    ⟨none, (some 6), .mv 6 (.s 35), false⟩])))))))
  (.seq (.seq (.keep [5]) (.ops [⟨none, (some 65), .mv 65 (.s 5), false⟩,
    ⟨none, (some 2), .mv 2 (.s 65), false⟩,
    ⟨none, (some 3), .mv 3 (.k (Value.int .i64 0)), false⟩]))
  .ret))))))
theorem cc28 : (Tryd.f28.body).bind (cc Tryd.prog Tryd.f28.ntmps A28) = some S28 := by kernel_rfl
def R28 : List RR := [.sl 2, .sl 3]
theorem cr28 : Tryd.f28.results.toList.map (crr Tryd.prog) = R28.map some := by kernel_rfl
theorem nm28 : (Tryd.f28.name == "runtime.NumGoroutine") = false := by kernel_rfl
theorem fn28 : Tryd.prog.funcs[28]? = some Tryd.f28 := by kernel_rfl
theorem bd28 : ∃ b, Tryd.f28.body = some b ∧ cc Tryd.prog Tryd.f28.ntmps A28 b = some S28 := Option.bind_eq_some_iff.1 cc28
theorem sd28 {G : World → Prop} {T : FuncId → Contract} {C : Contract} (hT : ∀ f, Sound G Tryd.prog f (T f)) (hl : C.lawful) (hC : ∀ args st K, C.wp args st K → args.length ≤ 66 ∧ ∃ os op, xv T st.n S28 (st0 args st) (retK R28 st.n os K) (panK st.n op K)) (hit : SoundIt G Tryd.prog 28 C.it := by exact SoundIt.none) : Sound G Tryd.prog 28 C := by
  obtain ⟨b, hb, hc⟩ := bd28
  rw [xv_eq] at hC
  exact sound_of_ev mo fn28 hb nm28 hc cr28 hT hl hit hC

/-! 29: redline/redlineref15.Same -/
def A29 : Ann := ⟨fun r i => if r = 1 ∧ i = 17 then 1 else 0, fun _ => none, fun r => if r = 1 then some (false, [2, 3]) else none, fun _ => []⟩
def S29 : SCode :=
  (.seq (.ops [⟨none, (some 2), .bx 2 34 3 (.s 0), false⟩,
    ⟨none, (some 3), .bx 3 34 3 (.s 1), false⟩,
    ⟨none, (some 4), .mv 4 (.k (Value.bool false)), false⟩])
  (.seq (.seq (.keep [2, 3]) (.ops [⟨none, (some 5), .fa 5 0 (.s 2), false⟩,
    ⟨none, (some 6), .ld 6 false 1 (.s 5), false⟩,
    ⟨none, (some 7), .fa 7 0 (.s 3), false⟩,
    ⟨none, (some 8), .ld 8 false 1 (.s 7), false⟩,
    ⟨none, (some 9), .bin 9 .eql (.s 6) (.s 8), false⟩,
    ⟨none, (some 10), .mv 10 (.s 9), false⟩,
    ⟨(some (10, true)), (some 11), .fa 11 1 (.s 2), false⟩,
    ⟨(some (10, true)), (some 12), .ld 12 false 1 (.s 11), false⟩,
    ⟨(some (10, true)), (some 13), .fa 13 1 (.s 3), false⟩,
    ⟨(some (10, true)), (some 14), .ld 14 false 1 (.s 13), true⟩,
    ⟨(some (10, true)), (some 15), .bin 15 .eql (.s 12) (.s 14), false⟩,
    ⟨none, (some 16), .pk 16 (.s 10) (.s 15) (.k (Value.bool false)), false⟩,
    ⟨none, (some 17), .mv 17 (.s 16), false⟩,
    ⟨(some (17, true)), (some 18), .fa 18 2 (.s 2), false⟩,
    ⟨(some (17, true)), (some 19), .ld 19 false 1 (.s 18), false⟩,
    ⟨(some (17, true)), (some 20), .fa 20 2 (.s 3), false⟩,
    ⟨(some (17, true)), (some 21), .ld 21 false 1 (.s 20), false⟩,
    ⟨(some (17, true)), (some 22), .call (some 22) 77 true [(.s 19), (.s 21)], false⟩,
    ⟨none, (some 23), .pk 23 (.s 17) (.s 22) (.k (Value.bool false)), false⟩,
    ⟨none, (some 4), .mv 4 (.s 23), true⟩]))
  .ret))
theorem cc29 : (Tryd.f29.body).bind (cc Tryd.prog Tryd.f29.ntmps A29) = some S29 := by kernel_rfl
def R29 : List RR := [.sl 4]
theorem cr29 : Tryd.f29.results.toList.map (crr Tryd.prog) = R29.map some := by kernel_rfl
theorem nm29 : (Tryd.f29.name == "runtime.NumGoroutine") = false := by kernel_rfl
theorem fn29 : Tryd.prog.funcs[29]? = some Tryd.f29 := by kernel_rfl
theorem bd29 : ∃ b, Tryd.f29.body = some b ∧ cc Tryd.prog Tryd.f29.ntmps A29 b = some S29 := Option.bind_eq_some_iff.1 cc29
theorem sd29 {G : World → Prop} {T : FuncId → Contract} {C : Contract} (hT : ∀ f, Sound G Tryd.prog f (T f)) (hl : C.lawful) (hC : ∀ args st K, C.wp args st K → args.length ≤ 24 ∧ ∃ os op, xv T st.n S29 (st0 args st) (retK R29 st.n os K) (panK st.n op K)) (hit : SoundIt G Tryd.prog 29 C.it := by exact SoundIt.none) : Sound G Tryd.prog 29 C := by
  obtain ⟨b, hb, hc⟩ := bd29
  rw [xv_eq] at hC
  exact sound_of_ev mo fn29 hb nm29 hc cr29 hT hl hit hC

/-! 62: redline/hunks.Check -/
def A62 : Ann := ⟨fun r i => if r = 2 ∧ i = 7 then 1 else if r = 2 ∧ i = 13 then 1 else if r = 2 ∧ i = 19 then 1 else if r = 2 ∧ i = 27 then 1 else if r = 2 ∧ i = 35 then 1 else if r = 6 ∧ i = 11 then 1 else 0, fun r => if r = 6 then some ([], [(0, true), (1, true), (2, true), (3, false), (4, true), (5, true), (6, true), (7, true), (8, true), (9, true), (10, false), (11, true), (12, true), (13, true), (14, true)]) else none, fun r => if r = 2 then some (false, [1, 3]) else if r = 4 then some (false, [1, 3]) else if r = 6 then some (false, [1, 3]) else if r = 8 then some (false, [1, 3]) else none, fun _ => []⟩
def S62 : SCode :=
  (.seq (.ops [⟨none, (some 1), .bx 1 93 5 (.s 0), false⟩,
    ⟨none, (some 2), .mv 2 (.k (Value.int .i64 0)), false⟩])
  (.seq (.ops [⟨none, (some 3), .mv 3 (.f 108), false⟩])
  (.seq (.block 0 (.seq (.seq (.keep [1, 3]) (.ops [⟨none, (some 5), .fa 5 0 (.s 1), false⟩,
    ⟨none, (some 6), .ld 6 false 1 (.s 5), false⟩,
    ⟨none, (some 7), .call (some 7) 109 false [(.s 6)], false⟩,
    ⟨none, (some 8), .not 8 (.s 7), false⟩,
    ⟨none, (some 9), .mv 9 (.s 8), false⟩,
    ⟨(some (9, false)), (some 10), .fa 10 1 (.s 1), false⟩,
    ⟨(some (9, false)), (some 11), .ld 11 false 1 (.s 10), false⟩,
    ⟨(some (9, false)), (some 12), .call (some 12) 109 true [(.s 11)], false⟩,
    ⟨(some (9, false)), (some 13), .not 13 (.s 12), false⟩,
    ⟨none, (some 14), .pk 14 (.s 9) (.k (Value.bool true)) (.s 13), true⟩,
    ⟨none, (some 15), .mv 15 (.s 14), false⟩,
    ⟨(some (15, false)), (some 16), .fa 16 2 (.s 1), false⟩,
    ⟨(some (15, false)), (some 17), .ld 17 false 1 (.s 16), false⟩,
    ⟨(some (15, false)), (some 18), .call (some 18) 109 true [(.s 17)], false⟩,
    ⟨(some (15, false)), (some 19), .not 19 (.s 18), false⟩,
    ⟨none, (some 20), .pk 20 (.s 15) (.k (Value.bool true)) (.s 19), false⟩,
    ⟨none, (some 21), .mv 21 (.s 20), false⟩,
    ⟨(some (21, false)), (some 22), .fa 22 3 (.s 1), false⟩,
    ⟨(some (21, false)), (some 23), .ld 23 false 1 (.s 22), false⟩,
    ⟨(some (21, false)), (some 24), .call (some 24) 109 true [(.s 23)], true⟩,
    ⟨(some (21, false)), (some 25), .not 25 (.s 24), false⟩,
    ⟨none, (some 26), .pk 26 (.s 21) (.k (Value.bool true)) (.s 25), false⟩,
    ⟨none, (some 27), .mv 27 (.s 26), false⟩,
    ⟨(some (27, false)), (some 28), .fa 28 0 (.s 1), false⟩,
    ⟨(some (27, false)), (some 29), .ld 29 false 1 (.s 28), false⟩,
    ⟨(some (27, false)), (some 30), .fa 30 1 (.s 1), false⟩,
    ⟨(some (27, false)), (some 31), .ld 31 false 1 (.s 30), false⟩,
    ⟨(some (27, false)), (some 32), .mm 32 true (.k (Value.int .i64 1)) [(.s 31)], false⟩,
    ⟨(some (27, false)), (some 33), .bin 33 .lss (.s 29) (.s 32), false⟩,
    ⟨none, (some 34), .pk 34 (.s 27) (.k (Value.bool true)) (.s 33), true⟩,
    ⟨none, (some 35), .mv 35 (.s 34), false⟩,
    ⟨(some (35, false)), (some 36), .fa 36 2 (.s 1), false⟩,
    ⟨(some (35, false)), (some 37), .ld 37 false 1 (.s 36), false⟩,
    ⟨(some (35, false)), (some 38), .fa 38 3 (.s 1), false⟩,
    ⟨(some (35, false)), (some 39), .ld 39 false 1 (.s 38), false⟩,
    ⟨(some (35, false)), (some 40), .mm 40 true (.k (Value.int .i64 1)) [(.s 39)], false⟩,
    ⟨(some (35, false)), (some 41), .bin 41 .lss (.s 37) (.s 40), false⟩,
    ⟨none, (some 42), .pk 42 (.s 35) (.k (Value.bool true)) (.s 41), false⟩,
    ⟨none, (some 4), .mv 4 (.s 42), false⟩]))
  (.cond (.s 4) (.seq (.ops [⟨none, (some 2), .mv 2 (.k (Value.int .i64 2)), false⟩])
  .ret) (.seq (.seq (.keep [1, 3]) (.ops [⟨none, (some 44), .ld 44 true 5 (.s 1), false⟩,
    ⟨none, (some 45), .call (some 45) 110 false [(.s 44)], false⟩,
    ⟨none, (some 46), .not 46 (.s 45), false⟩,
    ⟨none, (some 43), .mv 43 (.s 46), false⟩]))
  (.cond (.s 43) (.seq (.ops [⟨none, (some 2), .mv 2 (.k (Value.int .i64 6)), false⟩])
  .ret) (.seq (.seq (.keep [1, 3]) (.dr [] [(0, true, ⟨none, (some 48), .fa 48 1 (.s 1), false⟩),
    (1, true, ⟨none, (some 49), .ld 49 false 1 (.s 48), false⟩),
    (2, true, ⟨none, (some 50), .ld 50 true 5 (.s 1), false⟩),
    (3, false, ⟨none, (some 51), .call (some 51) 111 false [(.s 50)], false⟩),
    (4, true, ⟨none, (some 52), .len 52 (.s 51), false⟩),
    (5, true, ⟨none, (some 53), .bin 53 .neq (.s 49) (.s 52), false⟩),
    (6, true, ⟨none, (some 54), .mv 54 (.s 53), false⟩),
    (7, true, ⟨(some (54, false)), (some 55), .fa 55 3 (.s 1), false⟩),
    (8, true, ⟨(some (54, false)), (some 56), .ld 56 false 1 (.s 55), false⟩),
    (9, true, ⟨(some (54, false)), (some 57), .ld 57 true 5 (.s 1), true⟩),
    (10, false, ⟨(some (54, false)), (some 58), .call (some 58) 112 false [(.s 57)], false⟩),
    (11, true, ⟨(some (54, false)), (some 59), .len 59 (.s 58), false⟩),
    (12, true, ⟨(some (54, false)), (some 60), .bin 60 .neq (.s 56) (.s 59), false⟩),
    (13, true, ⟨none, (some 61), .pk 61 (.s 54) (.k (Value.bool true)) (.s 60), false⟩),
    (14, true, ⟨none, (some 47), .mv 47 (.s 61), false⟩)]))
  (.cond (.s 47) (.seq (.ops [⟨none, (some 2), .mv 2 (.k (Value.int .i64 120)), false⟩])
  .ret) (.seq (.seq (.keep [1, 3]) (.ops [⟨none, (some 63), .fa 63 4 (.s 1), false⟩,
    ⟨none, (some 64), .ld 64 false 1 (.s 63), false⟩,
    ⟨none, (some 65), .mv 65 (.s 3), false⟩,
    ⟨none, (some 66), .call (some 66) 113 false [(.s 64), (.s 65)], false⟩,
    ⟨none, (some 67), .not 67 (.s 66), false⟩,
    ⟨none, (some 62), .mv 62 (.s 67), false⟩]))
  (.cond (.s 62) (.seq (.ops [⟨none, (some 2), .mv 2 (.k (Value.int .i64 50)), false⟩])
  .ret) .skip)))))))))
  (.seq (.ops [⟨none, (some 2), .mv 2 (.k (Value.int .i64 0)), false⟩])
  .ret))))
theorem cc62 : (Tryd.f62.body).bind (cc Tryd.prog Tryd.f62.ntmps A62) = some S62 := by kernel_rfl
def R62 : List RR := [.sl 2]
theorem cr62 : Tryd.f62.results.toList.map (crr Tryd.prog) = R62.map some := by kernel_rfl
theorem nm62 : (Tryd.f62.name == "runtime.NumGoroutine") = false := by kernel_rfl
theorem fn62 : Tryd.prog.funcs[62]? = some Tryd.f62 := by kernel_rfl
theorem bd62 : ∃ b, Tryd.f62.body = some b ∧ cc Tryd.prog Tryd.f62.ntmps A62 b = some S62 := Option.bind_eq_some_iff.1 cc62
theorem sd62 {G : World → Prop} {T : FuncId → Contract} {C : Contract} (hT : ∀ f, Sound G Tryd.prog f (T f)) (hl : C.lawful) (hC : ∀ args st K, C.wp args st K → args.length ≤ 68 ∧ ∃ os op, xv T st.n S62 (st0 args st) (retK R62 st.n os K) (panK st.n op K)) (hit : SoundIt G Tryd.prog 62 C.it := by exact SoundIt.none) : Sound G Tryd.prog 62 C := by
  obtain ⟨b, hb, hc⟩ := bd62
  rw [xv_eq] at hC
  exact sound_of_ev mo fn62 hb nm62 hc cr62 hT hl hit hC

/-! 108: redline/hunks.Check$1 -/
def A108 : Ann := ⟨fun _ _ => 0, fun _ => none, fun r => if r = 1 then some (false, [1]) else none, fun _ => []⟩
def S108 : SCode :=
  (.seq (.ops [⟨none, (some 1), .bx 1 96 2 (.s 0), false⟩,
    ⟨none, (some 2), .mv 2 (.k (Value.bool false)), false⟩])
  (.seq (.seq (.keep [1]) (.ops [⟨none, (some 3), .fa 3 0 (.s 1), false⟩,
    ⟨none, (some 4), .ld 4 false 1 (.s 3), false⟩,
    ⟨none, (some 5), .bin 5 .neq (.s 4) (.k (Value.int .u8 32)), false⟩,
    ⟨none, (some 2), .mv 2 (.s 5), false⟩]))
  .ret))
theorem cc108 : (Tryd.f108.body).bind (cc Tryd.prog Tryd.f108.ntmps A108) = some S108 := by kernel_rfl
def R108 : List RR := [.sl 2]
theorem cr108 : Tryd.f108.results.toList.map (crr Tryd.prog) = R108.map some := by kernel_rfl
theorem nm108 : (Tryd.f108.name == "runtime.NumGoroutine") = false := by kernel_rfl
theorem fn108 : Tryd.prog.funcs[108]? = some Tryd.f108 := by kernel_rfl
theorem bd108 : ∃ b, Tryd.f108.body = some b ∧ cc Tryd.prog Tryd.f108.ntmps A108 b = some S108 := Option.bind_eq_some_iff.1 cc108
theorem sd108 {G : World → Prop} {T : FuncId → Contract} {C : Contract} (hT : ∀ f, Sound G Tryd.prog f (T f)) (hl : C.lawful) (hC : ∀ args st K, C.wp args st K → args.length ≤ 6 ∧ ∃ os op, xv T st.n S108 (st0 args st) (retK R108 st.n os K) (panK st.n op K)) (hit : SoundIt G Tryd.prog 108 C.it := by exact SoundIt.none) : Sound G Tryd.prog 108 C := by
  obtain ⟨b, hb, hc⟩ := bd108
  rw [xv_eq] at hC
  exact sound_of_ev mo fn108 hb nm108 hc cr108 hT hl hit hC

/-! 64: redline/unified.count -/
def A64 : Ann := ⟨fun _ _ => 0, fun _ => none, fun r => if r = 2 then some (false, [0]) else if r = 3 then some (false, [0, 1]) else none, fun _ => []⟩
def S64 : SCode :=
  (.seq (.ops [⟨none, (some 4), .mv 4 (.k (Value.string ⟨#[]⟩)), false⟩])
  (.seq (.seq (.ops [⟨none, (some 5), .mv 5 (.s 1), false⟩,
    ⟨none, (some 6), .bin 6 .eql (.s 5) (.k (Value.int .i64 1)), false⟩])
  (.cond (.s 6) (.seq (.seq (.keep [0]) (.ops [⟨none, (some 7), .mv 7 (.s 0), false⟩,
    ⟨none, (some 8), .call (some 8) 32 false [(.s 7)], false⟩,
    ⟨none, (some 4), .mv 4 (.s 8), false⟩]))
  .ret) .skip))
  (.seq (.seq (.keep [0, 1]) (.ops [⟨none, (some 9), .mv 9 (.s 0), false⟩,
    ⟨none, (some 10), .call (some 10) 32 false [(.s 9)], false⟩,
    ⟨none, (some 11), .bin 11 .add (.s 10) (.k (Value.string ⟨#[44]⟩)), false⟩,
    ⟨none, (some 12), .mv 12 (.s 1), false⟩,
    ⟨none, (some 13), .call (some 13) 32 false [(.s 12)], false⟩,
    ⟨none, (some 14), .bin 14 .add (.s 11) (.s 13), false⟩,
    ⟨none, (some 4), .mv 4 (.s 14), false⟩]))
  .ret)))
theorem cc64 : (Tryd.f64.body).bind (cc Tryd.prog Tryd.f64.ntmps A64) = some S64 := by kernel_rfl
def R64 : List RR := [.sl 4]
theorem cr64 : Tryd.f64.results.toList.map (crr Tryd.prog) = R64.map some := by kernel_rfl
theorem nm64 : (Tryd.f64.name == "runtime.NumGoroutine") = false := by kernel_rfl
theorem fn64 : Tryd.prog.funcs[64]? = some Tryd.f64 := by kernel_rfl
theorem bd64 : ∃ b, Tryd.f64.body = some b ∧ cc Tryd.prog Tryd.f64.ntmps A64 b = some S64 := Option.bind_eq_some_iff.1 cc64
theorem sd64 {G : World → Prop} {T : FuncId → Contract} {C : Contract} (hT : ∀ f, Sound G Tryd.prog f (T f)) (hl : C.lawful) (hC : ∀ args st K, C.wp args st K → args.length ≤ 15 ∧ ∃ os op, xv T st.n S64 (st0 args st) (retK R64 st.n os K) (panK st.n op K)) (hit : SoundIt G Tryd.prog 64 C.it := by exact SoundIt.none) : Sound G Tryd.prog 64 C := by
  obtain ⟨b, hb, hc⟩ := bd64
  rw [xv_eq] at hC
  exact sound_of_ev mo fn64 hb nm64 hc cr64 hT hl hit hC

/-! 65: redline/redlineref16.Wrong -/
def A65 : Ann := ⟨fun _ _ => 0, fun _ => none, fun r => if r = 1 then some (false, [1]) else none, fun _ => []⟩
def S65 : SCode :=
  (.seq (.ops [⟨none, (some 1), .bx 1 34 3 (.s 0), false⟩,
    ⟨none, (some 2), .mv 2 (.k (Value.int .i64 0)), false⟩])
  (.seq (.seq (.keep [1]) (.ops [⟨none, (some 3), .ld 3 true 3 (.s 1), false⟩,
    ⟨none, (some 4), .call (some 4) 73 false [(.s 3)], false⟩,
    ⟨none, (some 2), .mv 2 (.s 4), false⟩]))
  .ret))
theorem cc65 : (Tryd.f65.body).bind (cc Tryd.prog Tryd.f65.ntmps A65) = some S65 := by kernel_rfl
def R65 : List RR := [.sl 2]
theorem cr65 : Tryd.f65.results.toList.map (crr Tryd.prog) = R65.map some := by kernel_rfl
theorem nm65 : (Tryd.f65.name == "runtime.NumGoroutine") = false := by kernel_rfl
theorem fn65 : Tryd.prog.funcs[65]? = some Tryd.f65 := by kernel_rfl
theorem bd65 : ∃ b, Tryd.f65.body = some b ∧ cc Tryd.prog Tryd.f65.ntmps A65 b = some S65 := Option.bind_eq_some_iff.1 cc65
theorem sd65 {G : World → Prop} {T : FuncId → Contract} {C : Contract} (hT : ∀ f, Sound G Tryd.prog f (T f)) (hl : C.lawful) (hC : ∀ args st K, C.wp args st K → args.length ≤ 5 ∧ ∃ os op, xv T st.n S65 (st0 args st) (retK R65 st.n os K) (panK st.n op K)) (hit : SoundIt G Tryd.prog 65 C.it := by exact SoundIt.none) : Sound G Tryd.prog 65 C := by
  obtain ⟨b, hb, hc⟩ := bd65
  rw [xv_eq] at hC
  exact sound_of_ev mo fn65 hb nm65 hc cr65 hT hl hit hC

/-! 67: redline/redlineref16.count -/
def A67 : Ann := ⟨fun _ _ => 0, fun _ => none, fun r => if r = 2 then some (false, [0]) else if r = 3 then some (false, [0, 1]) else none, fun _ => []⟩
def S67 : SCode :=
  (.seq (.ops [⟨none, (some 4), .mv 4 (.k (Value.string ⟨#[]⟩)), false⟩])
  (.seq (.seq (.ops [⟨none, (some 5), .mv 5 (.s 1), false⟩,
    ⟨none, (some 6), .bin 6 .eql (.s 5) (.k (Value.int .i64 1)), false⟩])
  (.cond (.s 6) (.seq (.seq (.keep [0]) (.ops [⟨none, (some 7), .mv 7 (.s 0), false⟩,
    ⟨none, (some 8), .call (some 8) 33 false [(.s 7)], false⟩,
    ⟨none, (some 4), .mv 4 (.s 8), false⟩]))
  .ret) .skip))
  (.seq (.seq (.keep [0, 1]) (.ops [⟨none, (some 9), .mv 9 (.s 0), false⟩,
    ⟨none, (some 10), .call (some 10) 33 false [(.s 9)], false⟩,
    ⟨none, (some 11), .bin 11 .add (.s 10) (.k (Value.string ⟨#[44]⟩)), false⟩,
    ⟨none, (some 12), .mv 12 (.s 1), false⟩,
    ⟨none, (some 13), .call (some 13) 33 false [(.s 12)], false⟩,
    ⟨none, (some 14), .bin 14 .add (.s 11) (.s 13), false⟩,
    ⟨none, (some 4), .mv 4 (.s 14), false⟩]))
  .ret)))
theorem cc67 : (Tryd.f67.body).bind (cc Tryd.prog Tryd.f67.ntmps A67) = some S67 := by kernel_rfl
def R67 : List RR := [.sl 4]
theorem cr67 : Tryd.f67.results.toList.map (crr Tryd.prog) = R67.map some := by kernel_rfl
theorem nm67 : (Tryd.f67.name == "runtime.NumGoroutine") = false := by kernel_rfl
theorem fn67 : Tryd.prog.funcs[67]? = some Tryd.f67 := by kernel_rfl
theorem bd67 : ∃ b, Tryd.f67.body = some b ∧ cc Tryd.prog Tryd.f67.ntmps A67 b = some S67 := Option.bind_eq_some_iff.1 cc67
theorem sd67 {G : World → Prop} {T : FuncId → Contract} {C : Contract} (hT : ∀ f, Sound G Tryd.prog f (T f)) (hl : C.lawful) (hC : ∀ args st K, C.wp args st K → args.length ≤ 15 ∧ ∃ os op, xv T st.n S67 (st0 args st) (retK R67 st.n os K) (panK st.n op K)) (hit : SoundIt G Tryd.prog 67 C.it := by exact SoundIt.none) : Sound G Tryd.prog 67 C := by
  obtain ⟨b, hb, hc⟩ := bd67
  rw [xv_eq] at hC
  exact sound_of_ev mo fn67 hb nm67 hc cr67 hT hl hit hC

/-! 69: redline/redlineref11.Copy -/
def A69 : Ann := ⟨fun r i => if r = 1 ∧ i = 0 then 95 else 0, fun _ => none, fun r => if r = 3 then some (false, [0, 3, 4]) else if r = 4 then some (false, [0, 3, 4]) else if r = 5 then some (false, [0, 3, 4]) else if r = 6 then some (false, [0, 3, 4, 5]) else if r = 7 then some (false, [0, 3, 4, 5]) else none, fun r => if r = 3 then [0, 3, 4] else []⟩
def S69 : SCode :=
  (.seq (.ops [⟨none, (some 2), .mv 2 (.k (Value.slice none 0 0)), false⟩])
  (.seq (.ops [⟨none, (some 3), .nr 3 93 5, false⟩])
  (.seq (.seq (.ops [⟨none, (some 4), .mv 4 (.k (Value.int .i64 0)), false⟩])
  (.block 0 (.loop [0, 3, 4] (.seq (.seq (.seq (.keep [0, 3, 4]) (.ops [⟨none, (some 6), .mv 6 (.s 4), false⟩,
    ⟨none, (some 7), .mv 7 (.s 0), false⟩,
    ⟨none, (some 8), .len 8 (.s 7), false⟩,
    ⟨none, (some 9), .bin 9 .lss (.s 6) (.s 8), false⟩]))
  (.cond (.s 9) .skip (.exit 0)))
  (.seq (.block 1 (.seq (.seq (.keep [0, 3, 4]) (.ops [⟨none, (some 12), .mv 12 (.s 0), false⟩,
    ⟨none, (some 13), .mv 13 (.s 4), false⟩,
    ⟨none, (some 14), .ia 14 5 (.s 12) (.s 13), false⟩,
    ⟨none, (some 15), .ld 15 true 5 (.s 14), false⟩,
    ⟨none, (some 5), .al 5 93 [(Value.int .i64 0), (Value.int .i64 0), (Value.int .i64 0), (Value.int .i64 0), (Value.slice none 0 0)], false⟩,
    ⟨none, none, .st true 5 (.s 5) (.s 15), false⟩]))
  (.seq (.seq (.keep [0, 3, 4, 5]) (.ops [⟨none, (some 16), .bs 16 96 2 [], false⟩,
    ⟨none, (some 17), .fa 17 4 (.s 5), false⟩,
    ⟨none, (some 18), .ld 18 false 1 (.s 17), false⟩,
    ⟨none, (some 19), .ap 19 96 2 24 (.s 16) (.s 18), false⟩,
    ⟨none, (some 20), .fa 20 4 (.s 5), false⟩,
    ⟨none, none, .st false 1 (.s 20) (.s 19), false⟩]))
  (.seq (.keep [0, 3, 4, 5]) (.ops [⟨none, (some 21), .mv 21 (.s 3), false⟩,
    ⟨none, (some 22), .ld 22 true 5 (.s 5), false⟩,
    ⟨none, (some 23), .bs 23 93 5 [(.s 22)], false⟩,
    ⟨none, (some 24), .ap 24 93 5 56 (.s 21) (.s 23), false⟩,
    ⟨none, (some 3), .mv 3 (.s 24), false⟩])))))
  (.seq (.keep [0, 3, 4]) (.ops [⟨none, (some 10), .mv 10 (.s 4), false⟩,
    ⟨none, (some 11), .binc 11 .add (.s 10) (.k (Value.int .i64 1)), false⟩,
    ⟨none, (some 4), .mv 4 (.s 11), false⟩])))))))
  (.seq (.ops [⟨none, (some 25), .mv 25 (.s 3), false⟩,
    ⟨none, (some 2), .mv 2 (.s 25), false⟩])
  .ret))))
theorem cc69 : (Tryd.f69.body).bind (cc Tryd.prog Tryd.f69.ntmps A69) = some S69 := by kernel_rfl
def R69 : List RR := [.sl 2]
theorem cr69 : Tryd.f69.results.toList.map (crr Tryd.prog) = R69.map some := by kernel_rfl
theorem nm69 : (Tryd.f69.name == "runtime.NumGoroutine") = false := by kernel_rfl
theorem fn69 : Tryd.prog.funcs[69]? = some Tryd.f69 := by kernel_rfl
theorem bd69 : ∃ b, Tryd.f69.body = some b ∧ cc Tryd.prog Tryd.f69.ntmps A69 b = some S69 := Option.bind_eq_some_iff.1 cc69
theorem sd69 {G : World → Prop} {T : FuncId → Contract} {C : Contract} (hT : ∀ f, Sound G Tryd.prog f (T f)) (hl : C.lawful) (hC : ∀ args st K, C.wp args st K → args.length ≤ 26 ∧ ∃ os op, xv T st.n S69 (st0 args st) (retK R69 st.n os K) (panK st.n op K)) (hit : SoundIt G Tryd.prog 69 C.it := by exact SoundIt.none) : Sound G Tryd.prog 69 C := by
  obtain ⟨b, hb, hc⟩ := bd69
  rw [xv_eq] at hC
  exact sound_of_ev mo fn69 hb nm69 hc cr69 hT hl hit hC

/-! 70: redline/ctxfmt.name -/
def A70 : Ann := ⟨fun r i => if r = 4 ∧ i = 5 then 1 else 0, fun _ => none, fun r => if r = 2 then some (false, [0, 3]) else if r = 4 then some (false, [0, 3]) else if r = 5 then some (false, [0]) else none, fun _ => []⟩
def S70 : SCode :=
  (.seq (.ops [⟨none, (some 2), .mv 2 (.k (Value.string ⟨#[]⟩)), false⟩])
  (.seq (.ops [⟨none, (some 3), .al 3 136 [Value.nilFunc], false⟩,
    ⟨none, none, .st false 1 (.s 3) (.f 114), false⟩])
  (.seq (.block 0 (.seq (.seq (.keep [0, 3]) (.ops [⟨none, (some 5), .mv 5 (.s 0), false⟩,
    ⟨none, (some 6), .bin 6 .eql (.s 5) (.k (Value.string ⟨#[]⟩)), false⟩,
    ⟨none, (some 4), .mv 4 (.s 6), false⟩]))
  (.cond (.s 4) (.seq (.ops [⟨none, (some 2), .mv 2 (.k (Value.string ⟨#[47, 100, 101, 118, 47, 110, 117, 108, 108]⟩)), false⟩])
  .ret) (.seq (.seq (.keep [0, 3]) (.ops [⟨none, (some 8), .mv 8 (.s 0), false⟩,
    ⟨none, (some 9), .bin 9 .eql (.s 8) (.k (Value.string ⟨#[47, 100, 101, 118, 47, 110, 117, 108, 108]⟩)), false⟩,
    ⟨none, (some 10), .mv 10 (.s 9), false⟩,
    ⟨(some (10, false)), (some 11), .mv 11 (.s 0), false⟩,
    ⟨(some (10, false)), (some 12), .mf 12 116 [(.s 3)], false⟩,
    ⟨(some (10, false)), (some 13), .call (some 13) 115 true [(.s 11), (.s 12)], false⟩,
    ⟨none, (some 14), .pk 14 (.s 10) (.k (Value.bool true)) (.s 13), false⟩,
    ⟨none, (some 7), .mv 7 (.s 14), false⟩]))
  (.cond (.s 7) (.seq (.seq (.keep [0]) (.ops [⟨none, (some 15), .mv 15 (.s 0), false⟩,
    ⟨none, (some 16), .call (some 16) 39 false [(.s 15)], false⟩,
    ⟨none, (some 2), .mv 2 (.s 16), false⟩]))
  .ret) .skip)))))
  (.seq (.ops [⟨none, (some 17), .mv 17 (.s 0), false⟩,
    ⟨none, (some 2), .mv 2 (.s 17), false⟩])
  .ret))))
theorem cc70 : (Tryd.f70.body).bind (cc Tryd.prog Tryd.f70.ntmps A70) = some S70 := by kernel_rfl
def R70 : List RR := [.sl 2]
theorem cr70 : Tryd.f70.results.toList.map (crr Tryd.prog) = R70.map some := by kernel_rfl
theorem nm70 : (Tryd.f70.name == "runtime.NumGoroutine") = false := by kernel_rfl
theorem fn70 : Tryd.prog.funcs[70]? = some Tryd.f70 := by kernel_rfl
theorem bd70 : ∃ b, Tryd.f70.body = some b ∧ cc Tryd.prog Tryd.f70.ntmps A70 b = some S70 := Option.bind_eq_some_iff.1 cc70
theorem sd70 {G : World → Prop} {T : FuncId → Contract} {C : Contract} (hT : ∀ f, Sound G Tryd.prog f (T f)) (hl : C.lawful) (hC : ∀ args st K, C.wp args st K → args.length ≤ 18 ∧ ∃ os op, xv T st.n S70 (st0 args st) (retK R70 st.n os K) (panK st.n op K)) (hit : SoundIt G Tryd.prog 70 C.it := by exact SoundIt.none) : Sound G Tryd.prog 70 C := by
  obtain ⟨b, hb, hc⟩ := bd70
  rw [xv_eq] at hC
  exact sound_of_ev mo fn70 hb nm70 hc cr70 hT hl hit hC

/-! 114: redline/ctxfmt.name$1 -/
def A114 : Ann := ⟨fun _ _ => 0, fun _ => none, fun r => if r = 1 then some (false, [0]) else none, fun _ => []⟩
def S114 : SCode :=
  (.seq (.ops [⟨none, (some 2), .mv 2 (.k (Value.bool false)), false⟩])
  (.seq (.seq (.keep [0]) (.ops [⟨none, (some 3), .mv 3 (.s 0), false⟩,
    ⟨none, (some 4), .bin 4 .geq (.s 3) (.k (Value.int .i32 33)), false⟩,
    ⟨none, (some 5), .mv 5 (.s 4), false⟩,
    ⟨(some (5, true)), (some 6), .mv 6 (.s 0), false⟩,
    ⟨(some (5, true)), (some 7), .bin 7 .leq (.s 6) (.k (Value.int .i32 126)), false⟩,
    ⟨none, (some 8), .pk 8 (.s 5) (.s 7) (.k (Value.bool false)), false⟩,
    ⟨none, (some 9), .mv 9 (.s 8), false⟩,
    ⟨(some (9, true)), (some 10), .mv 10 (.s 0), false⟩,
    ⟨(some (9, true)), (some 11), .bin 11 .neq (.s 10) (.k (Value.int .i32 34)), false⟩,
    ⟨none, (some 12), .pk 12 (.s 9) (.s 11) (.k (Value.bool false)), true⟩,
    ⟨none, (some 2), .mv 2 (.s 12), false⟩]))
  .ret))
theorem cc114 : (Tryd.f114.body).bind (cc Tryd.prog Tryd.f114.ntmps A114) = some S114 := by kernel_rfl
def R114 : List RR := [.sl 2]
theorem cr114 : Tryd.f114.results.toList.map (crr Tryd.prog) = R114.map some := by kernel_rfl
theorem nm114 : (Tryd.f114.name == "runtime.NumGoroutine") = false := by kernel_rfl
theorem fn114 : Tryd.prog.funcs[114]? = some Tryd.f114 := by kernel_rfl
theorem bd114 : ∃ b, Tryd.f114.body = some b ∧ cc Tryd.prog Tryd.f114.ntmps A114 b = some S114 := Option.bind_eq_some_iff.1 cc114
theorem sd114 {G : World → Prop} {T : FuncId → Contract} {C : Contract} (hT : ∀ f, Sound G Tryd.prog f (T f)) (hl : C.lawful) (hC : ∀ args st K, C.wp args st K → args.length ≤ 13 ∧ ∃ os op, xv T st.n S114 (st0 args st) (retK R114 st.n os K) (panK st.n op K)) (hit : SoundIt G Tryd.prog 114 C.it := by exact SoundIt.none) : Sound G Tryd.prog 114 C := by
  obtain ⟨b, hb, hc⟩ := bd114
  rw [xv_eq] at hC
  exact sound_of_ev mo fn114 hb nm114 hc cr114 hT hl hit hC

/-! 116: redline/ctxfmt.name$2 -/
def A116 : Ann := ⟨fun _ _ => 0, fun _ => none, fun r => if r = 1 then some (false, [0, 1]) else none, fun _ => []⟩
def S116 : SCode :=
  (.seq (.ops [⟨none, (some 3), .mv 3 (.k (Value.bool false)), false⟩])
  (.seq (.seq (.keep [0, 1]) (.ops [⟨none, (some 4), .ld 4 false 1 (.s 1), false⟩,
    ⟨none, (some 5), .mv 5 (.s 0), false⟩,
    ⟨none, (some 6), .callv (some 6) false (.s 4) [(.s 5)], false⟩,
    ⟨none, (some 7), .not 7 (.s 6), false⟩,
    ⟨none, (some 3), .mv 3 (.s 7), false⟩]))
  .ret))
theorem cc116 : (Tryd.f116.body).bind (cc Tryd.prog Tryd.f116.ntmps A116) = some S116 := by kernel_rfl
def R116 : List RR := [.sl 3]
theorem cr116 : Tryd.f116.results.toList.map (crr Tryd.prog) = R116.map some := by kernel_rfl
theorem nm116 : (Tryd.f116.name == "runtime.NumGoroutine") = false := by kernel_rfl
theorem fn116 : Tryd.prog.funcs[116]? = some Tryd.f116 := by kernel_rfl
theorem bd116 : ∃ b, Tryd.f116.body = some b ∧ cc Tryd.prog Tryd.f116.ntmps A116 b = some S116 := Option.bind_eq_some_iff.1 cc116
theorem sd116 {G : World → Prop} {T : FuncId → Contract} {C : Contract} (hT : ∀ f, Sound G Tryd.prog f (T f)) (hl : C.lawful) (hC : ∀ args st K, C.wp args st K → args.length ≤ 8 ∧ ∃ os op, xv T st.n S116 (st0 args st) (retK R116 st.n os K) (panK st.n op K)) (hit : SoundIt G Tryd.prog 116 C.it := by exact SoundIt.none) : Sound G Tryd.prog 116 C := by
  obtain ⟨b, hb, hc⟩ := bd116
  rw [xv_eq] at hC
  exact sound_of_ev mo fn116 hb nm116 hc cr116 hT hl hit hC

/-! 71: redline/ctxfmt.span -/
def A71 : Ann := ⟨fun _ _ => 0, fun _ => none, fun r => if r = 2 then some (false, [0]) else if r = 3 then some (false, [0, 1]) else none, fun _ => []⟩
def S71 : SCode :=
  (.seq (.ops [⟨none, (some 4), .mv 4 (.k (Value.string ⟨#[]⟩)), false⟩])
  (.seq (.seq (.ops [⟨none, (some 5), .mv 5 (.s 1), false⟩,
    ⟨none, (some 6), .bin 6 .leq (.s 5) (.k (Value.int .i64 1)), false⟩])
  (.cond (.s 6) (.seq (.seq (.keep [0]) (.ops [⟨none, (some 7), .mv 7 (.s 0), false⟩,
    ⟨none, (some 8), .call (some 8) 32 false [(.s 7)], false⟩,
    ⟨none, (some 4), .mv 4 (.s 8), false⟩]))
  .ret) .skip))
  (.seq (.seq (.keep [0, 1]) (.ops [⟨none, (some 9), .mv 9 (.s 0), false⟩,
    ⟨none, (some 10), .call (some 10) 32 false [(.s 9)], false⟩,
    ⟨none, (some 11), .bin 11 .add (.s 10) (.k (Value.string ⟨#[44]⟩)), false⟩,
    ⟨none, (some 12), .mv 12 (.s 0), false⟩,
    ⟨none, (some 13), .mv 13 (.s 1), false⟩,
    ⟨none, (some 14), .binc 14 .add (.s 12) (.s 13), false⟩,
    ⟨none, (some 15), .binc 15 .sub (.s 14) (.k (Value.int .i64 1)), false⟩,
    ⟨none, (some 16), .call (some 16) 32 false [(.s 15)], false⟩,
    ⟨none, (some 17), .bin 17 .add (.s 11) (.s 16), false⟩,
    ⟨none, (some 4), .mv 4 (.s 17), true⟩]))
  .ret)))
theorem cc71 : (Tryd.f71.body).bind (cc Tryd.prog Tryd.f71.ntmps A71) = some S71 := by kernel_rfl
def R71 : List RR := [.sl 4]
theorem cr71 : Tryd.f71.results.toList.map (crr Tryd.prog) = R71.map some := by kernel_rfl
theorem nm71 : (Tryd.f71.name == "runtime.NumGoroutine") = false := by kernel_rfl
theorem fn71 : Tryd.prog.funcs[71]? = some Tryd.f71 := by kernel_rfl
theorem bd71 : ∃ b, Tryd.f71.body = some b ∧ cc Tryd.prog Tryd.f71.ntmps A71 b = some S71 := Option.bind_eq_some_iff.1 cc71
theorem sd71 {G : World → Prop} {T : FuncId → Contract} {C : Contract} (hT : ∀ f, Sound G Tryd.prog f (T f)) (hl : C.lawful) (hC : ∀ args st K, C.wp args st K → args.length ≤ 18 ∧ ∃ os op, xv T st.n S71 (st0 args st) (retK R71 st.n os K) (panK st.n op K)) (hit : SoundIt G Tryd.prog 71 C.it := by exact SoundIt.none) : Sound G Tryd.prog 71 C := by
  obtain ⟨b, hb, hc⟩ := bd71
  rw [xv_eq] at hC
  exact sound_of_ev mo fn71 hb nm71 hc cr71 hT hl hit hC

/-! 72: (*redline/ctxfmt.printer).side -/
def A72 : Ann := ⟨fun r i => if r = 8 ∧ i = 4 then 1 else 0, fun _ => none, fun r => if r = 1 then some (false, [0, 2, 4]) else if r = 2 then some (false, [0, 2, 4]) else if r = 4 then some (false, [0, 2, 17, 18, 19]) else if r = 5 then some (false, [0, 2, 7, 17, 18, 19]) else if r = 6 then some (false, [0, 2, 7, 8, 17, 18, 19]) else if r = 8 then some (false, [0, 2, 7, 8, 17, 18, 19]) else if r = 10 then some (false, [0, 2, 7, 8, 17, 18, 19]) else if r = 12 then some (false, [0, 2, 8, 17, 18, 19, 40, 41, 42]) else if r = 13 then some (false, [0, 2, 8, 10, 17, 18, 19, 40, 41, 42]) else if r = 14 then some (false, [0, 2, 8, 10, 17, 18, 19, 40, 41, 42]) else none, fun r => if r = 3 then [0, 2, 17, 18, 19] else if r = 11 then [0, 2, 8, 17, 18, 19, 40, 41, 42] else []⟩
def S72 : SCode :=
  (.seq (.ops [⟨none, (some 4), .bx 4 93 5 (.s 1), false⟩])
  (.seq (.seq (.seq (.keep [0, 2, 4]) (.ops [⟨none, (some 11), .fa 11 4 (.s 4), false⟩,
    ⟨none, (some 12), .ld 12 false 1 (.s 11), false⟩,
    ⟨none, (some 13), .mv 13 (.s 2), false⟩,
    ⟨none, (some 14), .call (some 14) 117 false [(.s 12), (.s 13)], false⟩,
    ⟨none, (some 15), .not 15 (.s 14), false⟩]))
  (.cond (.s 15) .ret .skip))
  (.seq (.seq (.keep [0, 2, 4]) (.ops [⟨none, (some 16), .ld 16 true 5 (.s 4), false⟩,
    ⟨none, (some 17), .call (some 17) 118 false [(.s 16)], false⟩,
    ⟨none, (some 18), .len 18 (.s 17), false⟩,
    ⟨none, (some 19), .mv 19 (.k (Value.int .i64 0)), false⟩]))
  (.block 0 (.loop [0, 2, 17, 18, 19] (.seq (.ops [⟨none, (some 20), .bin 20 .lss (.s 19) (.s 18), false⟩])
  (.seq (.cond (.s 20) .skip (.exit 0))
  (.seq (.block 1 (.seq (.seq (.keep [0, 2, 17, 18, 19]) (.ops [⟨none, (some 21), .ia 21 1 (.s 17) (.s 19), false⟩,
    ⟨none, (some 22), .ld 22 false 1 (.s 21), false⟩,
    ⟨none, (some 7), .mv 7 (.s 22), false⟩]))
  (.seq (.seq (.keep [0, 2, 7, 17, 18, 19]) (.ops [⟨none, (some 23), .mv 23 (.s 2), false⟩,
    ⟨none, (some 24), .cvi 24 .i32 (.s 23), false⟩,
    ⟨none, (some 25), .i2s 25 (.s 24), false⟩,
    ⟨none, (some 26), .bin 26 .add (.s 25) (.k (Value.string ⟨#[32]⟩)), false⟩,
    ⟨none, (some 8), .mv 8 (.s 26), false⟩]))
  (.seq (.block 2 (.seq (.seq (.keep [0, 2, 7, 8, 17, 18, 19]) (.ops [⟨none, (some 28), .mv 28 (.s 7), false⟩,
    ⟨none, (some 29), .ia 29 2 (.s 28) (.k (Value.int .i64 0)), false⟩,
    ⟨none, (some 30), .fa 30 0 (.s 29), false⟩,
    ⟨none, (some 31), .ld 31 false 1 (.s 30), false⟩,
    ⟨none, (some 32), .bin 32 .eql (.s 31) (.k (Value.int .u8 32)), false⟩,
    ⟨none, (some 27), .mv 27 (.s 32), false⟩]))
  (.cond (.s 27) (.ops [⟨none, (some 8), .mv 8 (.k (Value.string ⟨#[32, 32]⟩)), false⟩]) (.seq (.seq (.keep [0, 2, 7, 8, 17, 18, 19]) (.ops [⟨none, (some 34), .mv 34 (.s 7), false⟩,
    ⟨none, (some 35), .call (some 35) 117 false [(.s 34), (.k (Value.int .u8 45))], false⟩,
    ⟨none, (some 36), .mv 36 (.s 35), false⟩,
    ⟨(some (36, true)), (some 37), .mv 37 (.s 7), false⟩,
    ⟨(some (36, true)), (some 38), .call (some 38) 117 true [(.s 37), (.k (Value.int .u8 43))], false⟩,
    ⟨none, (some 39), .pk 39 (.s 36) (.s 38) (.k (Value.bool false)), false⟩,
    ⟨none, (some 33), .mv 33 (.s 39), false⟩]))
  (.cond (.s 33) (.ops [⟨none, (some 8), .mv 8 (.k (Value.string ⟨#[33, 32]⟩)), false⟩]) .skip)))))
  (.seq (.seq (.keep [0, 2, 7, 8, 17, 18, 19]) (.ops [⟨none, (some 40), .mv 40 (.s 7), false⟩,
    ⟨none, (some 41), .len 41 (.s 40), false⟩,
    ⟨none, (some 42), .mv 42 (.k (Value.int .i64 0)), false⟩]))
  (.block 3 (.loop [0, 2, 8, 17, 18, 19, 40, 41, 42] (.seq (.ops [⟨none, (some 43), .bin 43 .lss (.s 42) (.s 41), false⟩])
  (.seq (.cond (.s 43) .skip (.exit 3))
  (.seq (.block 4 (.seq (.seq (.keep [0, 2, 8, 17, 18, 19, 40, 41, 42]) (.ops [⟨none, (some 44), .ia 44 2 (.s 40) (.s 42), false⟩,
    ⟨none, (some 45), .ld 45 true 2 (.s 44), false⟩,
    ⟨none, (some 10), .al 10 96 [(Value.int .u8 0), (Value.string ⟨#[]⟩)], false⟩,
    ⟨none, none, .st true 2 (.s 10) (.s 45), false⟩]))
  (.seq (.seq (.keep [0, 2, 8, 10, 17, 18, 19, 40, 41, 42]) (.ops [⟨none, (some 46), .fa 46 0 (.s 10), false⟩,
    ⟨none, (some 47), .ld 47 false 1 (.s 46), false⟩,
    ⟨none, (some 48), .mv 48 (.s 2), false⟩,
    ⟨none, (some 49), .bin 49 .eql (.s 47) (.s 48), false⟩,
    ⟨none, (some 50), .mv 50 (.s 49), false⟩,
    ⟨(some (50, false)), (some 51), .fa 51 0 (.s 10), false⟩,
    ⟨(some (50, false)), (some 52), .ld 52 false 1 (.s 51), false⟩,
    ⟨(some (50, false)), (some 53), .bin 53 .eql (.s 52) (.k (Value.int .u8 32)), false⟩,
    ⟨none, (some 54), .pk 54 (.s 50) (.k (Value.bool true)) (.s 53), false⟩]))
  (.cond (.s 54) (.seq (.keep [0, 2, 8, 10, 17, 18, 19, 40, 41, 42]) (.ops [⟨none, (some 55), .mv 55 (.s 0), false⟩,
    ⟨none, (some 56), .mv 56 (.s 8), false⟩,
    ⟨none, (some 57), .fa 57 1 (.s 10), false⟩,
    ⟨none, (some 58), .ld 58 false 1 (.s 57), false⟩,
    ⟨none, (some 59), .call (some 59) 119 false [(.s 55), (.s 56), (.s 58)], false⟩])) .skip))))
  (.ops [⟨none, (some 60), .binc 60 .add (.s 42) (.k (Value.int .i64 1)), false⟩,
    ⟨none, (some 42), .mv 42 (.s 60), false⟩])))))))))))
  (.ops [⟨none, (some 61), .binc 61 .add (.s 19) (.k (Value.int .i64 1)), false⟩,
    ⟨none, (some 19), .mv 19 (.s 61), false⟩])))))))))
theorem cc72 : (Tryd.f72.body).bind (cc Tryd.prog Tryd.f72.ntmps A72) = some S72 := by kernel_rfl
def R72 : List RR := []
theorem cr72 : Tryd.f72.results.toList.map (crr Tryd.prog) = R72.map some := by kernel_rfl
theorem nm72 : (Tryd.f72.name == "runtime.NumGoroutine") = false := by kernel_rfl
theorem fn72 : Tryd.prog.funcs[72]? = some Tryd.f72 := by kernel_rfl
theorem bd72 : ∃ b, Tryd.f72.body = some b ∧ cc Tryd.prog Tryd.f72.ntmps A72 b = some S72 := Option.bind_eq_some_iff.1 cc72
theorem sd72 {G : World → Prop} {T : FuncId → Contract} {C : Contract} (hT : ∀ f, Sound G Tryd.prog f (T f)) (hl : C.lawful) (hC : ∀ args st K, C.wp args st K → args.length ≤ 62 ∧ ∃ os op, xv T st.n S72 (st0 args st) (retK R72 st.n os K) (panK st.n op K)) (hit : SoundIt G Tryd.prog 72 C.it := by exact SoundIt.none) : Sound G Tryd.prog 72 C := by
  obtain ⟨b, hb, hc⟩ := bd72
  rw [xv_eq] at hC
  exact sound_of_ev mo fn72 hb nm72 hc cr72 hT hl hit hC

/-! 73: redline/redlineref15.Wrong -/
def A73 : Ann := ⟨fun r i => if r = 1 ∧ i = 7 then 1 else 0, fun _ => none, fun r => if r = 1 then some (false, [1]) else if r = 3 then some (false, [1]) else if r = 6 then some (false, [1, 3]) else if r = 7 then some (false, [1, 3]) else if r = 8 then some (false, [1, 3]) else none, fun r => if r = 6 then [1, 3] else []⟩
def S73 : SCode :=
  (.seq (.ops [⟨none, (some 1), .bx 1 34 3 (.s 0), false⟩,
    ⟨none, (some 2), .mv 2 (.k (Value.int .i64 0)), false⟩])
  (.seq (.seq (.seq (.keep [1]) (.ops [⟨none, (some 5), .fa 5 0 (.s 1), false⟩,
    ⟨none, (some 6), .ld 6 false 1 (.s 5), false⟩,
    ⟨none, (some 7), .lens 7 (.s 6), false⟩,
    ⟨none, (some 8), .bin 8 .gtr (.s 7) (.k (Value.int .i64 64)), false⟩,
    ⟨none, (some 9), .mv 9 (.s 8), false⟩,
    ⟨(some (9, false)), (some 10), .fa 10 1 (.s 1), false⟩,
    ⟨(some (9, false)), (some 11), .ld 11 false 1 (.s 10), false⟩,
    ⟨(some (9, false)), (some 12), .lens 12 (.s 11), false⟩,
    ⟨(some (9, false)), (some 13), .bin 13 .gtr (.s 12) (.k (Value.int .i64 64)), false⟩,
    ⟨none, (some 14), .pk 14 (.s 9) (.k (Value.bool true)) (.s 13), true⟩]))
  (.cond (.s 14) (.seq (.ops [⟨none, (some 2), .mv 2 (.k (Value.int .i64 253)), false⟩])
  .ret) .skip))
  (.seq (.seq (.seq (.keep [1]) (.ops [⟨none, (some 15), .fa 15 2 (.s 1), false⟩,
    ⟨none, (some 16), .ld 16 false 1 (.s 15), false⟩,
    ⟨none, (some 17), .len 17 (.s 16), false⟩,
    ⟨none, (some 18), .bin 18 .gtr (.s 17) (.k (Value.int .i64 4096)), false⟩]))
  (.cond (.s 18) (.seq (.ops [⟨none, (some 2), .mv 2 (.k (Value.int .i64 9)), false⟩])
  .ret) .skip))
  (.seq (.seq (.ops [⟨none, (some 3), .mv 3 (.k (Value.int .i64 0)), false⟩])
  (.block 0 (.loop [1, 3] (.seq (.seq (.seq (.keep [1, 3]) (.ops [⟨none, (some 19), .mv 19 (.s 3), false⟩,
    ⟨none, (some 20), .fa 20 2 (.s 1), false⟩,
    ⟨none, (some 21), .ld 21 false 1 (.s 20), false⟩,
    ⟨none, (some 22), .len 22 (.s 21), false⟩,
    ⟨none, (some 23), .bin 23 .lss (.s 19) (.s 22), false⟩]))
  (.cond (.s 23) .skip (.exit 0)))
  (.seq (.block 1 (.seq (.seq (.keep [1, 3]) (.ops [⟨none, (some 26), .fa 26 2 (.s 1), false⟩,
    ⟨none, (some 27), .ld 27 false 1 (.s 26), false⟩,
    ⟨none, (some 28), .mv 28 (.s 3), false⟩,
    ⟨none, (some 29), .ia 29 5 (.s 27) (.s 28), false⟩,
    ⟨none, (some 30), .ld 30 true 5 (.s 29), false⟩,
    ⟨none, (some 31), .call (some 31) 120 false [(.s 30)], false⟩,
    ⟨none, (some 4), .mv 4 (.s 31), false⟩]))
  (.seq (.ops [⟨none, (some 32), .mv 32 (.s 4), false⟩,
    ⟨none, (some 33), .bin 33 .neq (.s 32) (.k (Value.int .i64 0)), false⟩])
  (.cond (.s 33) (.seq (.ops [⟨none, (some 34), .mv 34 (.s 4), false⟩,
    ⟨none, (some 2), .mv 2 (.s 34), false⟩])
  .ret) .skip))))
  (.seq (.keep [1, 3]) (.ops [⟨none, (some 24), .mv 24 (.s 3), false⟩,
    ⟨none, (some 25), .binc 25 .add (.s 24) (.k (Value.int .i64 1)), false⟩,
    ⟨none, (some 3), .mv 3 (.s 25), false⟩])))))))
  (.seq (.ops [⟨none, (some 2), .mv 2 (.k (Value.int .i64 0)), false⟩])
  .ret)))))
theorem cc73 : (Tryd.f73.body).bind (cc Tryd.prog Tryd.f73.ntmps A73) = some S73 := by kernel_rfl
def R73 : List RR := [.sl 2]
theorem cr73 : Tryd.f73.results.toList.map (crr Tryd.prog) = R73.map some := by kernel_rfl
theorem nm73 : (Tryd.f73.name == "runtime.NumGoroutine") = false := by kernel_rfl
theorem fn73 : Tryd.prog.funcs[73]? = some Tryd.f73 := by kernel_rfl
theorem bd73 : ∃ b, Tryd.f73.body = some b ∧ cc Tryd.prog Tryd.f73.ntmps A73 b = some S73 := Option.bind_eq_some_iff.1 cc73
theorem sd73 {G : World → Prop} {T : FuncId → Contract} {C : Contract} (hT : ∀ f, Sound G Tryd.prog f (T f)) (hl : C.lawful) (hC : ∀ args st K, C.wp args st K → args.length ≤ 35 ∧ ∃ os op, xv T st.n S73 (st0 args st) (retK R73 st.n os K) (panK st.n op K)) (hit : SoundIt G Tryd.prog 73 C.it := by exact SoundIt.none) : Sound G Tryd.prog 73 C := by
  obtain ⟨b, hb, hc⟩ := bd73
  rw [xv_eq] at hC
  exact sound_of_ev mo fn73 hb nm73 hc cr73 hT hl hit hC

/-! 75: redline/redlineref15.span -/
def A75 : Ann := ⟨fun _ _ => 0, fun _ => none, fun r => if r = 2 then some (false, [0]) else if r = 3 then some (false, [0, 1]) else none, fun _ => []⟩
def S75 : SCode :=
  (.seq (.ops [⟨none, (some 4), .mv 4 (.k (Value.string ⟨#[]⟩)), false⟩])
  (.seq (.seq (.ops [⟨none, (some 5), .mv 5 (.s 1), false⟩,
    ⟨none, (some 6), .bin 6 .leq (.s 5) (.k (Value.int .i64 1)), false⟩])
  (.cond (.s 6) (.seq (.seq (.keep [0]) (.ops [⟨none, (some 7), .mv 7 (.s 0), false⟩,
    ⟨none, (some 8), .call (some 8) 33 false [(.s 7)], false⟩,
    ⟨none, (some 4), .mv 4 (.s 8), false⟩]))
  .ret) .skip))
  (.seq (.seq (.keep [0, 1]) (.ops [⟨none, (some 9), .mv 9 (.s 0), false⟩,
    ⟨none, (some 10), .call (some 10) 33 false [(.s 9)], false⟩,
    ⟨none, (some 11), .bin 11 .add (.s 10) (.k (Value.string ⟨#[44]⟩)), false⟩,
    ⟨none, (some 12), .mv 12 (.s 0), false⟩,
    ⟨none, (some 13), .mv 13 (.s 1), false⟩,
    ⟨none, (some 14), .binc 14 .add (.s 12) (.s 13), false⟩,
    ⟨none, (some 15), .binc 15 .sub (.s 14) (.k (Value.int .i64 1)), false⟩,
    ⟨none, (some 16), .call (some 16) 33 false [(.s 15)], false⟩,
    ⟨none, (some 17), .bin 17 .add (.s 11) (.s 16), false⟩,
    ⟨none, (some 4), .mv 4 (.s 17), true⟩]))
  .ret)))
theorem cc75 : (Tryd.f75.body).bind (cc Tryd.prog Tryd.f75.ntmps A75) = some S75 := by kernel_rfl
def R75 : List RR := [.sl 4]
theorem cr75 : Tryd.f75.results.toList.map (crr Tryd.prog) = R75.map some := by kernel_rfl
theorem nm75 : (Tryd.f75.name == "runtime.NumGoroutine") = false := by kernel_rfl
theorem fn75 : Tryd.prog.funcs[75]? = some Tryd.f75 := by kernel_rfl
theorem bd75 : ∃ b, Tryd.f75.body = some b ∧ cc Tryd.prog Tryd.f75.ntmps A75 b = some S75 := Option.bind_eq_some_iff.1 cc75
theorem sd75 {G : World → Prop} {T : FuncId → Contract} {C : Contract} (hT : ∀ f, Sound G Tryd.prog f (T f)) (hl : C.lawful) (hC : ∀ args st K, C.wp args st K → args.length ≤ 18 ∧ ∃ os op, xv T st.n S75 (st0 args st) (retK R75 st.n os K) (panK st.n op K)) (hit : SoundIt G Tryd.prog 75 C.it := by exact SoundIt.none) : Sound G Tryd.prog 75 C := by
  obtain ⟨b, hb, hc⟩ := bd75
  rw [xv_eq] at hC
  exact sound_of_ev mo fn75 hb nm75 hc cr75 hT hl hit hC

/-! 76: redline/redlineref15.side -/
def A76 : Ann := ⟨fun _ _ => 0, fun _ => none, fun r => if r = 4 then some (false, [1, 2, 5, 6, 7]) else if r = 5 then some (false, [1, 2, 5, 6, 7]) else if r = 6 then some (false, [1, 2, 5, 6, 7]) else if r = 7 then some (false, [1, 2, 5, 6, 7, 8]) else if r = 9 then some (false, [1, 2, 5, 6, 7, 8, 9]) else if r = 11 then some (false, [1, 2, 5, 6, 7, 8]) else if r = 12 then some (false, [1, 2, 5, 6, 7, 8, 9]) else if r = 14 then some (false, [1, 2, 5, 6, 7, 8, 9]) else none, fun r => if r = 4 then [1, 2, 5, 6, 7] else []⟩
def S76 : SCode :=
  (.seq (.ops [⟨none, (some 2), .bx 2 93 5 (.s 0), false⟩,
    ⟨none, (some 4), .mv 4 (.k (Value.string ⟨#[]⟩)), false⟩])
  (.seq (.ops [⟨none, (some 5), .mv 5 (.k (Value.string ⟨#[]⟩)), false⟩])
  (.seq (.ops [⟨none, (some 6), .mv 6 (.k (Value.bool false)), false⟩])
  (.seq (.seq (.ops [⟨none, (some 7), .mv 7 (.k (Value.int .i64 0)), false⟩])
  (.block 0 (.loop [1, 2, 5, 6, 7] (.seq (.seq (.seq (.keep [1, 2, 5, 6, 7]) (.ops [⟨none, (some 10), .mv 10 (.s 7), false⟩,
    ⟨none, (some 11), .fa 11 4 (.s 2), false⟩,
    ⟨none, (some 12), .ld 12 false 1 (.s 11), false⟩,
    ⟨none, (some 13), .len 13 (.s 12), false⟩,
    ⟨none, (some 14), .bin 14 .lss (.s 10) (.s 13), false⟩]))
  (.cond (.s 14) .skip (.exit 0)))
  (.seq (.block 1 (.seq (.seq (.keep [1, 2, 5, 6, 7]) (.ops [⟨none, (some 17), .fa 17 4 (.s 2), false⟩,
    ⟨none, (some 18), .ld 18 false 1 (.s 17), false⟩,
    ⟨none, (some 19), .mv 19 (.s 7), false⟩,
    ⟨none, (some 20), .ia 20 2 (.s 18) (.s 19), false⟩,
    ⟨none, (some 21), .ld 21 true 2 (.s 20), false⟩,
    ⟨none, (some 8), .al 8 96 [(Value.int .u8 0), (Value.string ⟨#[]⟩)], false⟩,
    ⟨none, none, .st true 2 (.s 8) (.s 21), false⟩]))
  (.seq (.seq (.seq (.keep [1, 2, 5, 6, 7, 8]) (.ops [⟨none, (some 22), .fa 22 0 (.s 8), false⟩,
    ⟨none, (some 23), .ld 23 false 1 (.s 22), false⟩,
    ⟨none, (some 24), .bin 24 .neq (.s 23) (.k (Value.int .u8 32)), false⟩,
    ⟨none, (some 25), .mv 25 (.s 24), false⟩,
    ⟨(some (25, true)), (some 26), .fa 26 0 (.s 8), false⟩,
    ⟨(some (25, true)), (some 27), .ld 27 false 1 (.s 26), false⟩,
    ⟨(some (25, true)), (some 28), .mv 28 (.s 1), false⟩,
    ⟨(some (25, true)), (some 29), .bin 29 .neq (.s 27) (.s 28), false⟩,
    ⟨none, (some 30), .pk 30 (.s 25) (.s 29) (.k (Value.bool false)), false⟩]))
  (.cond (.s 30) (.exit 1) .skip))
  (.seq (.ops [⟨none, (some 9), .mv 9 (.k (Value.string ⟨#[32, 32]⟩)), false⟩])
  (.seq (.seq (.seq (.keep [1, 2, 5, 6, 7, 8, 9]) (.ops [⟨none, (some 31), .fa 31 0 (.s 8), false⟩,
    ⟨none, (some 32), .ld 32 false 1 (.s 31), false⟩,
    ⟨none, (some 33), .mv 33 (.s 1), false⟩,
    ⟨none, (some 34), .bin 34 .eql (.s 32) (.s 33), false⟩]))
  (.cond (.s 34) (.seq (.ops [⟨none, (some 6), .mv 6 (.k (Value.bool true)), false⟩])
  (.seq (.seq (.keep [1, 2, 5, 6, 7, 8]) (.ops [⟨none, (some 35), .mv 35 (.s 1), false⟩,
    ⟨none, (some 36), .bs 36 5 1 [(.s 35), (.k (Value.int .u8 32))], false⟩,
    ⟨none, (some 37), .b2s 37 (.s 36), false⟩,
    ⟨none, (some 9), .mv 9 (.s 37), false⟩]))
  (.seq (.seq (.keep [1, 2, 5, 6, 7, 8, 9]) (.ops [⟨none, (some 38), .ld 38 true 5 (.s 2), false⟩,
    ⟨none, (some 39), .mv 39 (.s 7), false⟩,
    ⟨none, (some 40), .call (some 40) 122 false [(.s 38), (.s 39)], false⟩]))
  (.cond (.s 40) (.ops [⟨none, (some 9), .mv 9 (.k (Value.string ⟨#[33, 32]⟩)), false⟩]) .skip)))) .skip))
  (.seq (.keep [1, 2, 5, 6, 7, 8, 9]) (.ops [⟨none, (some 41), .mv 41 (.s 5), false⟩,
    ⟨none, (some 42), .mv 42 (.s 9), false⟩,
    ⟨none, (some 43), .fa 43 1 (.s 8), false⟩,
    ⟨none, (some 44), .ld 44 false 1 (.s 43), false⟩,
    ⟨none, (some 45), .call (some 45) 68 false [(.s 42), (.s 44)], false⟩,
    ⟨none, (some 46), .bin 46 .add (.s 41) (.s 45), false⟩,
    ⟨none, (some 5), .mv 5 (.s 46), false⟩])))))))
  (.seq (.keep [1, 2, 5, 6, 7]) (.ops [⟨none, (some 15), .mv 15 (.s 7), false⟩,
    ⟨none, (some 16), .binc 16 .add (.s 15) (.k (Value.int .i64 1)), false⟩,
    ⟨none, (some 7), .mv 7 (.s 16), false⟩])))))))
  (.seq (.seq (.ops [⟨none, (some 47), .mv 47 (.s 6), false⟩,
    ⟨none, (some 48), .not 48 (.s 47), false⟩])
  (.cond (.s 48) (.seq (.ops [⟨none, (some 4), .mv 4 (.k (Value.string ⟨#[]⟩)), false⟩])
  .ret) .skip))
  (.seq (.ops [⟨none, (some 49), .mv 49 (.s 5), false⟩,
    ⟨none, (some 4), .mv 4 (.s 49), false⟩])
  .ret))))))
theorem cc76 : (Tryd.f76.body).bind (cc Tryd.prog Tryd.f76.ntmps A76) = some S76 := by kernel_rfl
def R76 : List RR := [.sl 4]
theorem cr76 : Tryd.f76.results.toList.map (crr Tryd.prog) = R76.map some := by kernel_rfl
theorem nm76 : (Tryd.f76.name == "runtime.NumGoroutine") = false := by kernel_rfl
theorem fn76 : Tryd.prog.funcs[76]? = some Tryd.f76 := by kernel_rfl
theorem bd76 : ∃ b, Tryd.f76.body = some b ∧ cc Tryd.prog Tryd.f76.ntmps A76 b = some S76 := Option.bind_eq_some_iff.1 cc76
theorem sd76 {G : World → Prop} {T : FuncId → Contract} {C : Contract} (hT : ∀ f, Sound G Tryd.prog f (T f)) (hl : C.lawful) (hC : ∀ args st K, C.wp args st K → args.length ≤ 50 ∧ ∃ os op, xv T st.n S76 (st0 args st) (retK R76 st.n os K) (panK st.n op K)) (hit : SoundIt G Tryd.prog 76 C.it := by exact SoundIt.none) : Sound G Tryd.prog 76 C := by
  obtain ⟨b, hb, hc⟩ := bd76
  rw [xv_eq] at hC
  exact sound_of_ev mo fn76 hb nm76 hc cr76 hT hl hit hC

/-! 77: redline/redlineref11.SameHunks -/
def A77 : Ann := ⟨fun _ _ => 0, fun r => if r = 6 then some ([], [(0, true), (1, true), (2, true), (4, true), (5, true), (6, true), (3, true), (7, true), (8, false), (9, true)]) else none, fun r => if r = 1 then some (false, [0, 1]) else if r = 4 then some (false, [0, 1, 5]) else if r = 5 then some (false, [0, 1, 5]) else if r = 6 then some (false, [0, 1, 5]) else none, fun r => if r = 4 then [0, 1, 5] else []⟩
def S77 : SCode :=
  (.seq (.ops [⟨none, (some 4), .mv 4 (.k (Value.bool false)), false⟩])
  (.seq (.seq (.seq (.keep [0, 1]) (.ops [⟨none, (some 6), .mv 6 (.s 0), false⟩,
    ⟨none, (some 7), .len 7 (.s 6), false⟩,
    ⟨none, (some 8), .mv 8 (.s 1), false⟩,
    ⟨none, (some 9), .len 9 (.s 8), false⟩,
    ⟨none, (some 10), .bin 10 .neq (.s 7) (.s 9), false⟩]))
  (.cond (.s 10) (.seq (.ops [⟨none, (some 4), .mv 4 (.k (Value.bool false)), false⟩])
  .ret) .skip))
  (.seq (.seq (.ops [⟨none, (some 5), .mv 5 (.k (Value.int .i64 0)), false⟩])
  (.block 0 (.loop [0, 1, 5] (.seq (.seq (.seq (.keep [0, 1, 5]) (.ops [⟨none, (some 11), .mv 11 (.s 5), false⟩,
    ⟨none, (some 12), .mv 12 (.s 0), false⟩,
    ⟨none, (some 13), .len 13 (.s 12), false⟩,
    ⟨none, (some 14), .bin 14 .lss (.s 11) (.s 13), false⟩]))
  (.cond (.s 14) .skip (.exit 0)))
  (.seq (.block 1 (.seq (.seq (.keep [0, 1, 5]) (.dr [] [(0, true, ⟨none, (some 17), .mv 17 (.s 0), false⟩),
    (1, true, ⟨none, (some 18), .mv 18 (.s 5), false⟩),
    (2, true, ⟨none, (some 19), .ia 19 5 (.s 17) (.s 18), false⟩),
    (4, true, ⟨none, (some 21), .mv 21 (.s 1), false⟩),
    (5, true, ⟨none, (some 22), .mv 22 (.s 5), false⟩),
    (6, true, ⟨none, (some 23), .ia 23 5 (.s 21) (.s 22), false⟩),
    (3, true, ⟨none, (some 20), .ld 20 true 5 (.s 19), false⟩),
    (7, true, ⟨none, (some 24), .ld 24 true 5 (.s 23), false⟩),
    (8, false, ⟨none, (some 25), .call (some 25) 123 false [(.s 20), (.s 24)], false⟩),
    (9, true, ⟨none, (some 26), .not 26 (.s 25), true⟩)]))
  (.cond (.s 26) (.seq (.ops [⟨none, (some 4), .mv 4 (.k (Value.bool false)), false⟩])
  .ret) .skip)))
  (.seq (.keep [0, 1, 5]) (.ops [⟨none, (some 15), .mv 15 (.s 5), false⟩,
    ⟨none, (some 16), .binc 16 .add (.s 15) (.k (Value.int .i64 1)), false⟩,
    ⟨none, (some 5), .mv 5 (.s 16), false⟩])))))))
  (.seq (.ops [⟨none, (some 4), .mv 4 (.k (Value.bool true)), false⟩])
  .ret))))
theorem cc77 : (Tryd.f77.body).bind (cc Tryd.prog Tryd.f77.ntmps A77) = some S77 := by kernel_rfl
def R77 : List RR := [.sl 4]
theorem cr77 : Tryd.f77.results.toList.map (crr Tryd.prog) = R77.map some := by kernel_rfl
theorem nm77 : (Tryd.f77.name == "runtime.NumGoroutine") = false := by kernel_rfl
theorem fn77 : Tryd.prog.funcs[77]? = some Tryd.f77 := by kernel_rfl
theorem bd77 : ∃ b, Tryd.f77.body = some b ∧ cc Tryd.prog Tryd.f77.ntmps A77 b = some S77 := Option.bind_eq_some_iff.1 cc77
theorem sd77 {G : World → Prop} {T : FuncId → Contract} {C : Contract} (hT : ∀ f, Sound G Tryd.prog f (T f)) (hl : C.lawful) (hC : ∀ args st K, C.wp args st K → args.length ≤ 27 ∧ ∃ os op, xv T st.n S77 (st0 args st) (retK R77 st.n os K) (panK st.n op K)) (hit : SoundIt G Tryd.prog 77 C.it := by exact SoundIt.none) : Sound G Tryd.prog 77 C := by
  obtain ⟨b, hb, hc⟩ := bd77
  rw [xv_eq] at hC
  exact sound_of_ev mo fn77 hb nm77 hc cr77 hT hl hit hC

/-! 109: redline/hunks.number -/
def A109 : Ann := ⟨fun _ _ => 0, fun _ => none, fun r => if r = 1 then some (false, [0]) else none, fun _ => []⟩
def S109 : SCode :=
  (.seq (.ops [⟨none, (some 2), .mv 2 (.k (Value.bool false)), false⟩])
  (.seq (.seq (.keep [0]) (.ops [⟨none, (some 3), .mv 3 (.s 0), false⟩,
    ⟨none, (some 4), .bin 4 .geq (.s 3) (.k (Value.int .i64 0)), false⟩,
    ⟨none, (some 5), .mv 5 (.s 4), false⟩,
    ⟨(some (5, true)), (some 6), .mv 6 (.s 0), false⟩,
    ⟨(some (5, true)), (some 7), .bin 7 .leq (.s 6) (.k (Value.int .i64 2147483647)), false⟩,
    ⟨none, (some 8), .pk 8 (.s 5) (.s 7) (.k (Value.bool false)), false⟩,
    ⟨none, (some 2), .mv 2 (.s 8), false⟩]))
  .ret))
theorem cc109 : (Tryd.f109.body).bind (cc Tryd.prog Tryd.f109.ntmps A109) = some S109 := by kernel_rfl
def R109 : List RR := [.sl 2]
theorem cr109 : Tryd.f109.results.toList.map (crr Tryd.prog) = R109.map some := by kernel_rfl
theorem nm109 : (Tryd.f109.name == "runtime.NumGoroutine") = false := by kernel_rfl
theorem fn109 : Tryd.prog.funcs[109]? = some Tryd.f109 := by kernel_rfl
theorem bd109 : ∃ b, Tryd.f109.body = some b ∧ cc Tryd.prog Tryd.f109.ntmps A109 b = some S109 := Option.bind_eq_some_iff.1 cc109
theorem sd109 {G : World → Prop} {T : FuncId → Contract} {C : Contract} (hT : ∀ f, Sound G Tryd.prog f (T f)) (hl : C.lawful) (hC : ∀ args st K, C.wp args st K → args.length ≤ 9 ∧ ∃ os op, xv T st.n S109 (st0 args st) (retK R109 st.n os K) (panK st.n op K)) (hit : SoundIt G Tryd.prog 109 C.it := by exact SoundIt.none) : Sound G Tryd.prog 109 C := by
  obtain ⟨b, hb, hc⟩ := bd109
  rw [xv_eq] at hC
  exact sound_of_ev mo fn109 hb nm109 hc cr109 hT hl hit hC

/-! 110: redline/hunks.fields -/
def A110 : Ann := ⟨fun r i => if r = 6 ∧ i = 18 then 1 else 0, fun r => if r = 5 then some ([], [(0, true), (8, true), (1, true), (2, true), (3, true), (4, true), (5, true), (6, true), (7, true), (9, true), (10, true), (11, true), (12, true), (16, true), (13, true), (14, true), (15, true), (17, true)]) else none, fun r => if r = 1 then some (false, [1, 2]) else if r = 2 then some (false, [1, 2, 3, 4]) else if r = 4 then some (false, [2, 3, 4, 6]) else if r = 5 then some (false, [2, 3, 4, 6, 7]) else if r = 6 then some (false, [2, 3, 4, 6, 7, 8, 9]) else if r = 8 then some (false, [2, 3, 4, 7, 8, 9]) else if r = 10 then some (false, [3, 4, 8, 9]) else none, fun r => if r = 4 then [2, 3, 4] else []⟩
def S110 : SCode :=
  (.seq (.ops [⟨none, (some 1), .bx 1 93 5 (.s 0), false⟩,
    ⟨none, (some 2), .al 2 4 [(Value.bool false)], false⟩])
  (.seq (.seq (.keep [1, 2]) (.ops [⟨none, (some 3), .al 3 4 [(Value.bool false)], false⟩,
    ⟨none, (some 4), .al 4 4 [(Value.bool false)], false⟩,
    ⟨none, none, .st false 1 (.s 3) (.k (Value.bool false)), false⟩,
    ⟨none, none, .st false 1 (.s 4) (.k (Value.bool false)), false⟩]))
  (.seq (.seq (.seq (.keep [1, 2, 3, 4]) (.ops [⟨none, (some 10), .fa 10 4 (.s 1), false⟩,
    ⟨none, (some 11), .ld 11 false 1 (.s 10), false⟩,
    ⟨none, (some 12), .call (some 12) 144 false [(.s 11)], false⟩]))
  (.block 0 (.each (.s 12) [13, 14] [2, 3, 4] (.ops [⟨none, (some 6), .al 6 96 [(Value.int .u8 0), (Value.string ⟨#[]⟩)], false⟩,
    ⟨none, none, .st true 2 (.s 6) (.s 14), false⟩]) (.block 1 (.seq (.seq (.keep [2, 3, 4, 6]) (.ops [⟨none, (some 15), .fa 15 1 (.s 6), false⟩,
    ⟨none, (some 16), .ld 16 false 1 (.s 15), false⟩,
    ⟨none, (some 17), .call (some 17) 135 false [(.s 16), (.k (Value.int .u8 10))], false⟩,
    ⟨none, (some 7), .mv 7 (.s 17), false⟩]))
  (.seq (.seq (.keep [2, 3, 4, 6, 7]) (.dr [] [(0, true, ⟨none, (some 18), .fa 18 0 (.s 6), false⟩),
    (8, true, ⟨none, (some 26), .fa 26 0 (.s 6), false⟩),
    (1, true, ⟨none, (some 19), .ld 19 false 1 (.s 18), false⟩),
    (2, true, ⟨none, (some 20), .bin 20 .eql (.s 19) (.k (Value.int .u8 32)), false⟩),
    (3, true, ⟨none, (some 21), .mv 21 (.s 20), false⟩),
    (4, true, ⟨(some (21, false)), (some 22), .fa 22 0 (.s 6), false⟩),
    (5, true, ⟨(some (21, false)), (some 23), .ld 23 false 1 (.s 22), false⟩),
    (6, true, ⟨(some (21, false)), (some 24), .bin 24 .eql (.s 23) (.k (Value.int .u8 45)), false⟩),
    (7, true, ⟨none, (some 25), .pk 25 (.s 21) (.k (Value.bool true)) (.s 24), false⟩),
    (9, true, ⟨none, (some 27), .ld 27 false 1 (.s 26), true⟩),
    (10, true, ⟨none, (some 28), .bin 28 .eql (.s 27) (.k (Value.int .u8 32)), false⟩),
    (11, true, ⟨none, (some 29), .mv 29 (.s 28), false⟩),
    (12, true, ⟨(some (29, false)), (some 30), .fa 30 0 (.s 6), false⟩),
    (16, true, ⟨none, (some 8), .mv 8 (.s 25), false⟩),
    (13, true, ⟨(some (29, false)), (some 31), .ld 31 false 1 (.s 30), false⟩),
    (14, true, ⟨(some (29, false)), (some 32), .bin 32 .eql (.s 31) (.k (Value.int .u8 43)), false⟩),
    (15, true, ⟨none, (some 33), .pk 33 (.s 29) (.k (Value.bool true)) (.s 32), false⟩),
    (17, true, ⟨none, (some 9), .mv 9 (.s 33), false⟩)]))
  (.seq (.seq (.seq (.keep [2, 3, 4, 6, 7, 8, 9]) (.ops [⟨none, (some 34), .mv 34 (.s 8), false⟩,
    ⟨none, (some 35), .not 35 (.s 34), false⟩,
    ⟨none, (some 36), .mv 36 (.s 35), false⟩,
    ⟨(some (36, true)), (some 37), .mv 37 (.s 9), false⟩,
    ⟨(some (36, true)), (some 38), .not 38 (.s 37), false⟩,
    ⟨none, (some 39), .pk 39 (.s 36) (.s 38) (.k (Value.bool false)), false⟩,
    ⟨none, (some 40), .mv 40 (.s 39), false⟩,
    ⟨(some (40, false)), (some 41), .fa 41 1 (.s 6), false⟩,
    ⟨(some (40, false)), (some 42), .ld 42 false 1 (.s 41), false⟩,
    ⟨(some (40, false)), (some 43), .bin 43 .eql (.s 42) (.k (Value.string ⟨#[]⟩)), true⟩,
    ⟨none, (some 44), .pk 44 (.s 40) (.k (Value.bool true)) (.s 43), false⟩,
    ⟨none, (some 45), .mv 45 (.s 44), false⟩,
    ⟨(some (45, false)), (some 46), .mv 46 (.s 7), false⟩,
    ⟨(some (45, false)), (some 47), .bin 47 .geq (.s 46) (.k (Value.int .i64 0)), false⟩,
    ⟨(some (45, false)), (some 48), .mv 48 (.s 47), false⟩,
    ⟨(some (48, true)), (some 49), .mv 49 (.s 7), false⟩,
    ⟨(some (48, true)), (some 50), .fa 50 1 (.s 6), false⟩,
    ⟨(some (48, true)), (some 51), .ld 51 false 1 (.s 50), false⟩,
    ⟨(some (48, true)), (some 52), .lens 52 (.s 51), false⟩,
    ⟨(some (48, true)), (some 53), .binc 53 .sub (.s 52) (.k (Value.int .i64 1)), true⟩,
    ⟨(some (48, true)), (some 54), .bin 54 .lss (.s 49) (.s 53), false⟩,
    ⟨(some (45, false)), (some 55), .pk 55 (.s 48) (.s 54) (.k (Value.bool false)), false⟩,
    ⟨none, (some 56), .pk 56 (.s 45) (.k (Value.bool true)) (.s 55), false⟩]))
  (.cond (.s 56) (.seq (.ops [⟨none, none, .st false 1 (.s 2) (.k (Value.bool false)), false⟩])
  .ret) .skip))
  (.seq (.seq (.seq (.keep [2, 3, 4, 7, 8, 9]) (.ops [⟨none, (some 57), .mv 57 (.s 7), false⟩,
    ⟨none, (some 58), .bin 58 .lss (.s 57) (.k (Value.int .i64 0)), false⟩,
    ⟨none, (some 59), .mv 59 (.s 58), false⟩,
    ⟨(some (59, true)), (some 60), .mv 60 (.s 8), false⟩,
    ⟨(some (59, true)), (some 61), .mv 61 (.s 60), false⟩,
    ⟨(some (61, true)), (some 62), .ld 62 false 1 (.s 3), false⟩,
    ⟨(some (59, true)), (some 63), .pk 63 (.s 61) (.s 62) (.k (Value.bool false)), false⟩,
    ⟨(some (59, true)), (some 64), .mv 64 (.s 63), false⟩,
    ⟨(some (64, false)), (some 65), .mv 65 (.s 9), false⟩,
    ⟨(some (64, false)), (some 66), .mv 66 (.s 65), true⟩,
    ⟨(some (66, true)), (some 67), .ld 67 false 1 (.s 4), false⟩,
    ⟨(some (64, false)), (some 68), .pk 68 (.s 66) (.s 67) (.k (Value.bool false)), false⟩,
    ⟨(some (59, true)), (some 69), .pk 69 (.s 64) (.k (Value.bool true)) (.s 68), false⟩,
    ⟨none, (some 70), .pk 70 (.s 59) (.s 69) (.k (Value.bool false)), false⟩]))
  (.cond (.s 70) (.seq (.ops [⟨none, none, .st false 1 (.s 2) (.k (Value.bool false)), false⟩])
  .ret) .skip))
  (.seq (.keep [3, 4, 8, 9]) (.ops [⟨none, (some 71), .ld 71 false 1 (.s 3), false⟩,
    ⟨none, (some 72), .mv 72 (.s 71), false⟩,
    ⟨(some (72, false)), (some 73), .mv 73 (.s 8), false⟩,
    ⟨none, (some 74), .pk 74 (.s 72) (.k (Value.bool true)) (.s 73), false⟩,
    ⟨none, (some 75), .ld 75 false 1 (.s 4), false⟩,
    ⟨none, (some 76), .mv 76 (.s 75), false⟩,
    ⟨(some (76, false)), (some 77), .mv 77 (.s 9), false⟩,
    ⟨none, (some 78), .pk 78 (.s 76) (.k (Value.bool true)) (.s 77), false⟩,
    ⟨none, none, .st false 1 (.s 3) (.s 74), false⟩,
    ⟨none, none, .st false 1 (.s 4) (.s 78), true⟩]))))))))))
  (.seq (.ops [⟨none, none, .st false 1 (.s 2) (.k (Value.bool true)), false⟩])
  .ret))))
theorem cc110 : (Tryd.f110.body).bind (cc Tryd.prog Tryd.f110.ntmps A110) = some S110 := by kernel_rfl
def R110 : List RR := [.ce 2 false 1]
theorem cr110 : Tryd.f110.results.toList.map (crr Tryd.prog) = R110.map some := by kernel_rfl
theorem nm110 : (Tryd.f110.name == "runtime.NumGoroutine") = false := by kernel_rfl
theorem fn110 : Tryd.prog.funcs[110]? = some Tryd.f110 := by kernel_rfl
theorem bd110 : ∃ b, Tryd.f110.body = some b ∧ cc Tryd.prog Tryd.f110.ntmps A110 b = some S110 := Option.bind_eq_some_iff.1 cc110
theorem sd110 {G : World → Prop} {T : FuncId → Contract} {C : Contract} (hT : ∀ f, Sound G Tryd.prog f (T f)) (hl : C.lawful) (hC : ∀ args st K, C.wp args st K → args.length ≤ 79 ∧ ∃ os op, xv T st.n S110 (st0 args st) (retK R110 st.n os K) (panK st.n op K)) (hit : SoundIt G Tryd.prog 110 C.it := by exact SoundIt.none) : Sound G Tryd.prog 110 C := by
  obtain ⟨b, hb, hc⟩ := bd110
  rw [xv_eq] at hC
  exact sound_of_ev mo fn110 hb nm110 hc cr110 hT hl hit hC

/-! 111: redline/hunks.Old -/
def A111 : Ann := ⟨fun _ _ => 0, fun _ => none, fun r => if r = 1 then some (false, [1]) else none, fun _ => []⟩
def S111 : SCode :=
  (.seq (.ops [⟨none, (some 1), .bx 1 93 5 (.s 0), false⟩,
    ⟨none, (some 2), .mv 2 (.k (Value.slice none 0 0)), false⟩])
  (.seq (.seq (.keep [1]) (.ops [⟨none, (some 3), .ld 3 true 5 (.s 1), false⟩,
    ⟨none, (some 4), .call (some 4) 145 false [(.s 3), (.k (Value.int .u8 45))], false⟩,
    ⟨none, (some 2), .mv 2 (.s 4), false⟩]))
  .ret))
theorem cc111 : (Tryd.f111.body).bind (cc Tryd.prog Tryd.f111.ntmps A111) = some S111 := by kernel_rfl
def R111 : List RR := [.sl 2]
theorem cr111 : Tryd.f111.results.toList.map (crr Tryd.prog) = R111.map some := by kernel_rfl
theorem nm111 : (Tryd.f111.name == "runtime.NumGoroutine") = false := by kernel_rfl
theorem fn111 : Tryd.prog.funcs[111]? = some Tryd.f111 := by kernel_rfl
theorem bd111 : ∃ b, Tryd.f111.body = some b ∧ cc Tryd.prog Tryd.f111.ntmps A111 b = some S111 := Option.bind_eq_some_iff.1 cc111
theorem sd111 {G : World → Prop} {T : FuncId → Contract} {C : Contract} (hT : ∀ f, Sound G Tryd.prog f (T f)) (hl : C.lawful) (hC : ∀ args st K, C.wp args st K → args.length ≤ 5 ∧ ∃ os op, xv T st.n S111 (st0 args st) (retK R111 st.n os K) (panK st.n op K)) (hit : SoundIt G Tryd.prog 111 C.it := by exact SoundIt.none) : Sound G Tryd.prog 111 C := by
  obtain ⟨b, hb, hc⟩ := bd111
  rw [xv_eq] at hC
  exact sound_of_ev mo fn111 hb nm111 hc cr111 hT hl hit hC

/-! 112: redline/hunks.New -/
def A112 : Ann := ⟨fun _ _ => 0, fun _ => none, fun r => if r = 1 then some (false, [1]) else none, fun _ => []⟩
def S112 : SCode :=
  (.seq (.ops [⟨none, (some 1), .bx 1 93 5 (.s 0), false⟩,
    ⟨none, (some 2), .mv 2 (.k (Value.slice none 0 0)), false⟩])
  (.seq (.seq (.keep [1]) (.ops [⟨none, (some 3), .ld 3 true 5 (.s 1), false⟩,
    ⟨none, (some 4), .call (some 4) 145 false [(.s 3), (.k (Value.int .u8 43))], false⟩,
    ⟨none, (some 2), .mv 2 (.s 4), false⟩]))
  .ret))
theorem cc112 : (Tryd.f112.body).bind (cc Tryd.prog Tryd.f112.ntmps A112) = some S112 := by kernel_rfl
def R112 : List RR := [.sl 2]
theorem cr112 : Tryd.f112.results.toList.map (crr Tryd.prog) = R112.map some := by kernel_rfl
theorem nm112 : (Tryd.f112.name == "runtime.NumGoroutine") = false := by kernel_rfl
theorem fn112 : Tryd.prog.funcs[112]? = some Tryd.f112 := by kernel_rfl
theorem bd112 : ∃ b, Tryd.f112.body = some b ∧ cc Tryd.prog Tryd.f112.ntmps A112 b = some S112 := Option.bind_eq_some_iff.1 cc112
theorem sd112 {G : World → Prop} {T : FuncId → Contract} {C : Contract} (hT : ∀ f, Sound G Tryd.prog f (T f)) (hl : C.lawful) (hC : ∀ args st K, C.wp args st K → args.length ≤ 5 ∧ ∃ os op, xv T st.n S112 (st0 args st) (retK R112 st.n os K) (panK st.n op K)) (hit : SoundIt G Tryd.prog 112 C.it := by exact SoundIt.none) : Sound G Tryd.prog 112 C := by
  obtain ⟨b, hb, hc⟩ := bd112
  rw [xv_eq] at hC
  exact sound_of_ev mo fn112 hb nm112 hc cr112 hT hl hit hC

/-! 117: redline/ctxfmt.has -/
def A117 : Ann := ⟨fun _ _ => 0, fun _ => none, fun r => if r = 1 then some (false, [0, 3]) else none, fun _ => []⟩
def S117 : SCode :=
  (.seq (.ops [⟨none, (some 3), .bx 3 5 1 (.s 1), false⟩,
    ⟨none, (some 4), .mv 4 (.k (Value.bool false)), false⟩])
  (.seq (.seq (.keep [0, 3]) (.ops [⟨none, (some 5), .mv 5 (.s 0), false⟩,
    ⟨none, (some 6), .mf 6 148 [(.s 3)], false⟩,
    ⟨none, (some 7), .call (some 7) 113 false [(.s 5), (.s 6)], false⟩,
    ⟨none, (some 4), .mv 4 (.s 7), false⟩]))
  .ret))
theorem cc117 : (Tryd.f117.body).bind (cc Tryd.prog Tryd.f117.ntmps A117) = some S117 := by kernel_rfl
def R117 : List RR := [.sl 4]
theorem cr117 : Tryd.f117.results.toList.map (crr Tryd.prog) = R117.map some := by kernel_rfl
theorem nm117 : (Tryd.f117.name == "runtime.NumGoroutine") = false := by kernel_rfl
theorem fn117 : Tryd.prog.funcs[117]? = some Tryd.f117 := by kernel_rfl
theorem bd117 : ∃ b, Tryd.f117.body = some b ∧ cc Tryd.prog Tryd.f117.ntmps A117 b = some S117 := Option.bind_eq_some_iff.1 cc117
theorem sd117 {G : World → Prop} {T : FuncId → Contract} {C : Contract} (hT : ∀ f, Sound G Tryd.prog f (T f)) (hl : C.lawful) (hC : ∀ args st K, C.wp args st K → args.length ≤ 8 ∧ ∃ os op, xv T st.n S117 (st0 args st) (retK R117 st.n os K) (panK st.n op K)) (hit : SoundIt G Tryd.prog 117 C.it := by exact SoundIt.none) : Sound G Tryd.prog 117 C := by
  obtain ⟨b, hb, hc⟩ := bd117
  rw [xv_eq] at hC
  exact sound_of_ev mo fn117 hb nm117 hc cr117 hT hl hit hC

/-! 148: redline/ctxfmt.has$1 -/
def A148 : Ann := ⟨fun _ _ => 0, fun _ => none, fun r => if r = 1 then some (false, [1, 2]) else none, fun _ => []⟩
def S148 : SCode :=
  (.seq (.ops [⟨none, (some 2), .bx 2 96 2 (.s 0), false⟩,
    ⟨none, (some 3), .mv 3 (.k (Value.bool false)), false⟩])
  (.seq (.seq (.keep [1, 2]) (.ops [⟨none, (some 4), .fa 4 0 (.s 2), false⟩,
    ⟨none, (some 5), .ld 5 false 1 (.s 4), false⟩,
    ⟨none, (some 6), .ld 6 false 1 (.s 1), false⟩,
    ⟨none, (some 7), .bin 7 .eql (.s 5) (.s 6), false⟩,
    ⟨none, (some 3), .mv 3 (.s 7), false⟩]))
  .ret))
theorem cc148 : (Tryd.f148.body).bind (cc Tryd.prog Tryd.f148.ntmps A148) = some S148 := by kernel_rfl
def R148 : List RR := [.sl 3]
theorem cr148 : Tryd.f148.results.toList.map (crr Tryd.prog) = R148.map some := by kernel_rfl
theorem nm148 : (Tryd.f148.name == "runtime.NumGoroutine") = false := by kernel_rfl
theorem fn148 : Tryd.prog.funcs[148]? = some Tryd.f148 := by kernel_rfl
theorem bd148 : ∃ b, Tryd.f148.body = some b ∧ cc Tryd.prog Tryd.f148.ntmps A148 b = some S148 := Option.bind_eq_some_iff.1 cc148
theorem sd148 {G : World → Prop} {T : FuncId → Contract} {C : Contract} (hT : ∀ f, Sound G Tryd.prog f (T f)) (hl : C.lawful) (hC : ∀ args st K, C.wp args st K → args.length ≤ 8 ∧ ∃ os op, xv T st.n S148 (st0 args st) (retK R148 st.n os K) (panK st.n op K)) (hit : SoundIt G Tryd.prog 148 C.it := by exact SoundIt.none) : Sound G Tryd.prog 148 C := by
  obtain ⟨b, hb, hc⟩ := bd148
  rw [xv_eq] at hC
  exact sound_of_ev mo fn148 hb nm148 hc cr148 hT hl hit hC

/-! 118: redline/ctxfmt.pieces -/
def A118 : Ann := ⟨fun r i => if r = 1 ∧ i = 0 then 93 else 0, fun r => if r = 7 then some ([], [(0, true), (1, true), (2, true), (3, true), (4, true), (5, true), (6, true), (7, false), (8, false), (9, true), (10, false)]) else if r = 6 then some ([], [(0, true), (1, true), (2, true), (3, true), (6, true), (8, true), (9, true), (4, true), (5, true), (7, true), (10, true), (11, true), (12, true), (13, true), (14, true), (15, true)]) else none, fun r => if r = 2 then some (false, [1, 3]) else if r = 4 then some (false, [1, 3, 8, 9, 10]) else if r = 5 then some (false, [1, 3, 4, 5, 8, 9, 10]) else if r = 6 then some (false, [1, 3, 4, 5, 6, 8, 9, 10]) else if r = 7 then some (false, [1, 3, 5, 6, 8, 9, 10]) else if r = 8 then some (false, [1, 3, 5, 8, 9, 10]) else none, fun r => if r = 3 then [1, 3, 8, 9, 10] else []⟩
def S118 : SCode :=
  (.seq (.ops [⟨none, (some 1), .bx 1 93 5 (.s 0), false⟩,
    ⟨none, (some 2), .mv 2 (.k (Value.slice none 0 0)), false⟩])
  (.seq (.ops [⟨none, (some 3), .nr 3 91 1, false⟩])
  (.seq (.seq (.seq (.keep [1, 3]) (.ops [⟨none, (some 7), .fa 7 4 (.s 1), false⟩,
    ⟨none, (some 8), .ld 8 false 1 (.s 7), false⟩,
    ⟨none, (some 9), .len 9 (.s 8), false⟩,
    ⟨none, (some 10), .mv 10 (.k (Value.int .i64 0)), false⟩]))
  (.block 0 (.loop [1, 3, 8, 9, 10] (.seq (.ops [⟨none, (some 11), .bin 11 .lss (.s 10) (.s 9), false⟩])
  (.seq (.cond (.s 11) .skip (.exit 0))
  (.seq (.block 1 (.seq (.seq (.keep [1, 3, 8, 9, 10]) (.ops [⟨none, (some 12), .mv 12 (.s 10), false⟩,
    ⟨none, (some 13), .ia 13 2 (.s 8) (.s 10), false⟩,
    ⟨none, (some 14), .ld 14 true 2 (.s 13), false⟩,
    ⟨none, (some 5), .al 5 96 [(Value.int .u8 0), (Value.string ⟨#[]⟩)], false⟩,
    ⟨none, (some 4), .mv 4 (.s 12), false⟩,
    ⟨none, none, .st true 2 (.s 5) (.s 14), false⟩]))
  (.seq (.seq (.keep [1, 3, 4, 5, 8, 9, 10]) (.ops [⟨none, (some 15), .mv 15 (.s 3), false⟩,
    ⟨none, (some 16), .len 16 (.s 15), false⟩,
    ⟨none, (some 17), .binc 17 .sub (.s 16) (.k (Value.int .i64 1)), false⟩,
    ⟨none, (some 6), .mv 6 (.s 17), false⟩]))
  (.seq (.seq (.keep [1, 3, 4, 5, 6, 8, 9, 10]) (.dr [] [(0, true, ⟨none, (some 18), .mv 18 (.s 4), false⟩),
    (1, true, ⟨none, (some 19), .bin 19 .gtr (.s 18) (.k (Value.int .i64 0)), false⟩),
    (2, true, ⟨none, (some 20), .mv 20 (.s 19), false⟩),
    (3, true, ⟨(some (20, true)), (some 21), .fa 21 0 (.s 5), false⟩),
    (6, true, ⟨(some (20, true)), (some 24), .fa 24 4 (.s 1), false⟩),
    (8, true, ⟨(some (20, true)), (some 26), .mv 26 (.s 4), false⟩),
    (9, true, ⟨(some (20, true)), (some 27), .binc 27 .sub (.s 26) (.k (Value.int .i64 1)), true⟩),
    (4, true, ⟨(some (20, true)), (some 22), .ld 22 false 1 (.s 21), false⟩),
    (5, true, ⟨(some (20, true)), (some 23), .bin 23 .eql (.s 22) (.k (Value.int .u8 32)), false⟩),
    (7, true, ⟨(some (20, true)), (some 25), .ld 25 false 1 (.s 24), false⟩),
    (10, true, ⟨(some (20, true)), (some 28), .ia 28 2 (.s 25) (.s 27), false⟩),
    (11, true, ⟨(some (20, true)), (some 29), .fa 29 0 (.s 28), false⟩),
    (12, true, ⟨(some (20, true)), (some 30), .ld 30 false 1 (.s 29), false⟩),
    (13, true, ⟨(some (20, true)), (some 31), .bin 31 .eql (.s 30) (.k (Value.int .u8 32)), false⟩),
    (14, true, ⟨(some (20, true)), (some 32), .bin 32 .eql (.s 23) (.s 31), false⟩),
    (15, true, ⟨none, (some 33), .pk 33 (.s 20) (.s 32) (.k (Value.bool false)), false⟩)]))
  (.cond (.s 33) (.seq (.keep [1, 3, 5, 6, 8, 9, 10]) (.dr [] [(0, true, ⟨none, (some 34), .mv 34 (.s 3), false⟩),
    (1, true, ⟨none, (some 35), .mv 35 (.s 6), false⟩),
    (2, true, ⟨none, (some 36), .mv 36 (.s 3), false⟩),
    (3, true, ⟨none, (some 37), .mv 37 (.s 6), false⟩),
    (4, true, ⟨none, (some 38), .ia 38 1 (.s 36) (.s 37), false⟩),
    (5, true, ⟨none, (some 39), .ld 39 false 1 (.s 38), false⟩),
    (6, true, ⟨none, (some 40), .ld 40 true 2 (.s 5), false⟩),
    (7, false, ⟨none, (some 41), .bs 41 96 2 [(.s 40)], false⟩),
    (8, false, ⟨none, (some 42), .ap 42 96 2 24 (.s 39) (.s 41), false⟩),
    (9, true, ⟨none, (some 43), .ia 43 1 (.s 34) (.s 35), true⟩),
    (10, false, ⟨none, none, .st false 1 (.s 43) (.s 42), false⟩)])) (.seq (.keep [1, 3, 5, 8, 9, 10]) (.ops [⟨none, (some 44), .mv 44 (.s 3), false⟩,
    ⟨none, (some 45), .ld 45 true 2 (.s 5), false⟩,
    ⟨none, (some 46), .bs 46 96 2 [(.s 45)], false⟩,
    ⟨none, (some 47), .bs 47 91 1 [(.s 46)], false⟩,
    ⟨none, (some 48), .ap 48 91 1 24 (.s 44) (.s 47), false⟩,
    ⟨none, (some 3), .mv 3 (.s 48), false⟩])))))))
  (.ops [⟨none, (some 49), .binc 49 .add (.s 10) (.k (Value.int .i64 1)), false⟩,
    ⟨none, (some 10), .mv 10 (.s 49), false⟩])))))))
  (.seq (.ops [⟨none, (some 50), .mv 50 (.s 3), false⟩,
    ⟨none, (some 2), .mv 2 (.s 50), false⟩])
  .ret))))
theorem cc118 : (Tryd.f118.body).bind (cc Tryd.prog Tryd.f118.ntmps A118) = some S118 := by kernel_rfl
def R118 : List RR := [.sl 2]
theorem cr118 : Tryd.f118.results.toList.map (crr Tryd.prog) = R118.map some := by kernel_rfl
theorem nm118 : (Tryd.f118.name == "runtime.NumGoroutine") = false := by kernel_rfl
theorem fn118 : Tryd.prog.funcs[118]? = some Tryd.f118 := by kernel_rfl
theorem bd118 : ∃ b, Tryd.f118.body = some b ∧ cc Tryd.prog Tryd.f118.ntmps A118 b = some S118 := Option.bind_eq_some_iff.1 cc118
theorem sd118 {G : World → Prop} {T : FuncId → Contract} {C : Contract} (hT : ∀ f, Sound G Tryd.prog f (T f)) (hl : C.lawful) (hC : ∀ args st K, C.wp args st K → args.length ≤ 51 ∧ ∃ os op, xv T st.n S118 (st0 args st) (retK R118 st.n os K) (panK st.n op K)) (hit : SoundIt G Tryd.prog 118 C.it := by exact SoundIt.none) : Sound G Tryd.prog 118 C := by
  obtain ⟨b, hb, hc⟩ := bd118
  rw [xv_eq] at hC
  exact sound_of_ev mo fn118 hb nm118 hc cr118 hT hl hit hC

/-! 119: (*redline/ctxfmt.printer).line -/
def A119 : Ann := ⟨fun _ _ => 0, fun _ => none, fun r => if r = 1 then some (false, [0, 1, 6, 7]) else if r = 3 then some (false, [0]) else none, fun _ => []⟩
def S119 : SCode :=
  (.seq (.ops [⟨none, (some 9), .mv 9 (.s 2), false⟩,
    ⟨none, (some 10), .call (some 10) 58 false [(.s 9)], false⟩,
    ⟨none, (some 8), .mv 8 (.s 10), false⟩,
    ⟨none, (some 11), .ex 11 (.s 8) 0, false⟩,
    ⟨none, (some 12), .ex 12 (.s 8) 1, false⟩,
    ⟨none, (some 6), .mv 6 (.s 11), false⟩,
    ⟨none, (some 7), .mv 7 (.s 12), false⟩])
  (.seq (.seq (.keep [0, 1, 6, 7]) (.ops [⟨none, (some 13), .mv 13 (.s 0), false⟩,
    ⟨none, (some 14), .nc 14 (.s 13), false⟩,
    ⟨none, (some 15), .fa 15 0 (.s 14), false⟩,
    ⟨none, (some 16), .mv 16 (.s 1), false⟩,
    ⟨none, (some 17), .mv 17 (.s 6), false⟩,
    ⟨none, (some 18), .bin 18 .add (.s 16) (.s 17), false⟩,
    ⟨none, (some 19), .bin 19 .add (.s 18) (.k (Value.string ⟨#[10]⟩)), false⟩,
    ⟨none, (some 20), .call (some 20) 43 false [(.s 15), (.s 19)], false⟩]))
  (.seq (.ops [⟨none, (some 21), .mv 21 (.s 7), false⟩,
    ⟨none, (some 22), .not 22 (.s 21), false⟩])
  (.cond (.s 22) (.seq (.keep [0]) (.ops [⟨none, (some 23), .mv 23 (.s 0), false⟩,
    ⟨none, (some 24), .nc 24 (.s 23), false⟩,
    ⟨none, (some 25), .fa 25 0 (.s 24), false⟩,
    ⟨none, (some 26), .call (some 26) 43 false [(.s 25), (.k (Value.string ⟨#[92, 32, 78, 111, 32, 110, 101, 119, 108, 105, 110, 101, 32, 97, 116, 32, 101, 110, 100, 32, 111, 102, 32, 102, 105, 108, 101, 10]⟩))], false⟩])) .skip))))
theorem cc119 : (Tryd.f119.body).bind (cc Tryd.prog Tryd.f119.ntmps A119) = some S119 := by kernel_rfl
def R119 : List RR := []
theorem cr119 : Tryd.f119.results.toList.map (crr Tryd.prog) = R119.map some := by kernel_rfl
theorem nm119 : (Tryd.f119.name == "runtime.NumGoroutine") = false := by kernel_rfl
theorem fn119 : Tryd.prog.funcs[119]? = some Tryd.f119 := by kernel_rfl
theorem bd119 : ∃ b, Tryd.f119.body = some b ∧ cc Tryd.prog Tryd.f119.ntmps A119 b = some S119 := Option.bind_eq_some_iff.1 cc119
theorem sd119 {G : World → Prop} {T : FuncId → Contract} {C : Contract} (hT : ∀ f, Sound G Tryd.prog f (T f)) (hl : C.lawful) (hC : ∀ args st K, C.wp args st K → args.length ≤ 27 ∧ ∃ os op, xv T st.n S119 (st0 args st) (retK R119 st.n os K) (panK st.n op K)) (hit : SoundIt G Tryd.prog 119 C.it := by exact SoundIt.none) : Sound G Tryd.prog 119 C := by
  obtain ⟨b, hb, hc⟩ := bd119
  rw [xv_eq] at hC
  exact sound_of_ev mo fn119 hb nm119 hc cr119 hT hl hit hC

/-! 120: redline/redlineref11.Check -/
def A120 : Ann := ⟨fun r i => if r = 1 ∧ i = 7 then 1 else if r = 1 ∧ i = 13 then 1 else if r = 1 ∧ i = 19 then 1 else if r = 5 ∧ i = 11 then 1 else 0, fun r => if r = 5 then some ([], [(0, true), (1, true), (2, true), (3, false), (4, true), (5, true), (6, true), (7, true), (8, true), (9, true), (10, false), (11, true), (12, true), (13, true)]) else none, fun r => if r = 1 then some (false, [1]) else if r = 3 then some (false, [1]) else if r = 5 then some (false, [1]) else if r = 8 then some (false, [1, 3]) else if r = 9 then some (false, [1, 3]) else if r = 10 then some (false, [1, 3]) else none, fun r => if r = 8 then [1, 3] else []⟩
def S120_0 : SCode :=
  (.ops [⟨none, (some 1), .bx 1 93 5 (.s 0), false⟩,
    ⟨none, (some 2), .mv 2 (.k (Value.int .i64 0)), false⟩])
def S120_1 : SCode :=
  (.seq (.seq (.keep [1]) (.ops [⟨none, (some 4), .fa 4 0 (.s 1), false⟩,
    ⟨none, (some 5), .ld 5 false 1 (.s 4), false⟩,
    ⟨none, (some 6), .call (some 6) 149 false [(.s 5)], false⟩,
    ⟨none, (some 7), .not 7 (.s 6), false⟩,
    ⟨none, (some 8), .mv 8 (.s 7), false⟩,
    ⟨(some (8, false)), (some 9), .fa 9 1 (.s 1), false⟩,
    ⟨(some (8, false)), (some 10), .ld 10 false 1 (.s 9), false⟩,
    ⟨(some (8, false)), (some 11), .call (some 11) 149 true [(.s 10)], false⟩,
    ⟨(some (8, false)), (some 12), .not 12 (.s 11), false⟩,
    ⟨none, (some 13), .pk 13 (.s 8) (.k (Value.bool true)) (.s 12), true⟩,
    ⟨none, (some 14), .mv 14 (.s 13), false⟩,
    ⟨(some (14, false)), (some 15), .fa 15 2 (.s 1), false⟩,
    ⟨(some (14, false)), (some 16), .ld 16 false 1 (.s 15), false⟩,
    ⟨(some (14, false)), (some 17), .call (some 17) 149 true [(.s 16)], false⟩,
    ⟨(some (14, false)), (some 18), .not 18 (.s 17), false⟩,
    ⟨none, (some 19), .pk 19 (.s 14) (.k (Value.bool true)) (.s 18), false⟩,
    ⟨none, (some 20), .mv 20 (.s 19), false⟩,
    ⟨(some (20, false)), (some 21), .fa 21 3 (.s 1), false⟩,
    ⟨(some (20, false)), (some 22), .ld 22 false 1 (.s 21), false⟩,
    ⟨(some (20, false)), (some 23), .call (some 23) 149 true [(.s 22)], true⟩,
    ⟨(some (20, false)), (some 24), .not 24 (.s 23), false⟩,
    ⟨none, (some 25), .pk 25 (.s 20) (.k (Value.bool true)) (.s 24), false⟩,
    ⟨none, (some 26), .mv 26 (.s 25), false⟩,
    ⟨(some (26, false)), (some 27), .fa 27 0 (.s 1), false⟩,
    ⟨(some (26, false)), (some 28), .ld 28 false 1 (.s 27), false⟩,
    ⟨(some (26, false)), (some 29), .bin 29 .eql (.s 28) (.k (Value.int .i64 0)), false⟩,
    ⟨(some (26, false)), (some 30), .mv 30 (.s 29), false⟩,
    ⟨(some (30, true)), (some 31), .fa 31 1 (.s 1), false⟩,
    ⟨(some (30, true)), (some 32), .ld 32 false 1 (.s 31), false⟩,
    ⟨(some (30, true)), (some 33), .bin 33 .gtr (.s 32) (.k (Value.int .i64 0)), true⟩,
    ⟨(some (26, false)), (some 34), .pk 34 (.s 30) (.s 33) (.k (Value.bool false)), false⟩,
    ⟨none, (some 35), .pk 35 (.s 26) (.k (Value.bool true)) (.s 34), false⟩,
    ⟨none, (some 36), .mv 36 (.s 35), false⟩,
    ⟨(some (36, false)), (some 37), .fa 37 2 (.s 1), false⟩,
    ⟨(some (36, false)), (some 38), .ld 38 false 1 (.s 37), false⟩,
    ⟨(some (36, false)), (some 39), .bin 39 .eql (.s 38) (.k (Value.int .i64 0)), false⟩,
    ⟨(some (36, false)), (some 40), .mv 40 (.s 39), false⟩,
    ⟨(some (40, true)), (some 41), .fa 41 3 (.s 1), false⟩,
    ⟨(some (40, true)), (some 42), .ld 42 false 1 (.s 41), false⟩,
    ⟨(some (40, true)), (some 43), .bin 43 .gtr (.s 42) (.k (Value.int .i64 0)), true⟩,
    ⟨(some (36, false)), (some 44), .pk 44 (.s 40) (.s 43) (.k (Value.bool false)), false⟩,
    ⟨none, (some 45), .pk 45 (.s 36) (.k (Value.bool true)) (.s 44), false⟩]))
  (.cond (.s 45) (.seq (.ops [⟨none, (some 2), .mv 2 (.k (Value.int .i64 2)), false⟩])
  .ret) .skip))
def S120_2 : SCode :=
  (.seq (.seq (.keep [1]) (.ops [⟨none, (some 46), .ld 46 true 5 (.s 1), false⟩,
    ⟨none, (some 47), .call (some 47) 150 false [(.s 46)], false⟩,
    ⟨none, (some 48), .not 48 (.s 47), false⟩]))
  (.cond (.s 48) (.seq (.ops [⟨none, (some 2), .mv 2 (.k (Value.int .i64 6)), false⟩])
  .ret) .skip))
def S120_3 : SCode :=
  (.seq (.seq (.keep [1]) (.dr [] [(0, true, ⟨none, (some 49), .fa 49 1 (.s 1), false⟩),
    (1, true, ⟨none, (some 50), .ld 50 false 1 (.s 49), false⟩),
    (2, true, ⟨none, (some 51), .ld 51 true 5 (.s 1), false⟩),
    (3, false, ⟨none, (some 52), .call (some 52) 151 false [(.s 51)], false⟩),
    (4, true, ⟨none, (some 53), .len 53 (.s 52), false⟩),
    (5, true, ⟨none, (some 54), .bin 54 .neq (.s 50) (.s 53), false⟩),
    (6, true, ⟨none, (some 55), .mv 55 (.s 54), false⟩),
    (7, true, ⟨(some (55, false)), (some 56), .fa 56 3 (.s 1), false⟩),
    (8, true, ⟨(some (55, false)), (some 57), .ld 57 false 1 (.s 56), false⟩),
    (9, true, ⟨(some (55, false)), (some 58), .ld 58 true 5 (.s 1), true⟩),
    (10, false, ⟨(some (55, false)), (some 59), .call (some 59) 152 false [(.s 58)], false⟩),
    (11, true, ⟨(some (55, false)), (some 60), .len 60 (.s 59), false⟩),
    (12, true, ⟨(some (55, false)), (some 61), .bin 61 .neq (.s 57) (.s 60), false⟩),
    (13, true, ⟨none, (some 62), .pk 62 (.s 55) (.k (Value.bool true)) (.s 61), false⟩)]))
  (.cond (.s 62) (.seq (.ops [⟨none, (some 2), .mv 2 (.k (Value.int .i64 120)), false⟩])
  .ret) .skip))
def S120_4 : SCode :=
  (.seq (.ops [⟨none, (some 3), .mv 3 (.k (Value.int .i64 0)), false⟩])
  (.block 0 (.loop [1, 3] (.seq (.seq (.seq (.keep [1, 3]) (.ops [⟨none, (some 63), .mv 63 (.s 3), false⟩,
    ⟨none, (some 64), .fa 64 4 (.s 1), false⟩,
    ⟨none, (some 65), .ld 65 false 1 (.s 64), false⟩,
    ⟨none, (some 66), .len 66 (.s 65), false⟩,
    ⟨none, (some 67), .bin 67 .lss (.s 63) (.s 66), false⟩]))
  (.cond (.s 67) .skip (.exit 0)))
  (.seq (.block 1 (.seq (.seq (.keep [1, 3]) (.ops [⟨none, (some 70), .fa 70 4 (.s 1), false⟩,
    ⟨none, (some 71), .ld 71 false 1 (.s 70), false⟩,
    ⟨none, (some 72), .mv 72 (.s 3), false⟩,
    ⟨none, (some 73), .ia 73 2 (.s 71) (.s 72), false⟩,
    ⟨none, (some 74), .fa 74 0 (.s 73), false⟩,
    ⟨none, (some 75), .ld 75 false 1 (.s 74), false⟩,
    ⟨none, (some 76), .bin 76 .neq (.s 75) (.k (Value.int .u8 32)), false⟩]))
  (.cond (.s 76) (.seq (.ops [⟨none, (some 2), .mv 2 (.k (Value.int .i64 0)), false⟩])
  .ret) .skip)))
  (.seq (.keep [1, 3]) (.ops [⟨none, (some 68), .mv 68 (.s 3), false⟩,
    ⟨none, (some 69), .binc 69 .add (.s 68) (.k (Value.int .i64 1)), false⟩,
    ⟨none, (some 3), .mv 3 (.s 69), false⟩])))))))
def S120_5 : SCode :=
  (.ops [⟨none, (some 2), .mv 2 (.k (Value.int .i64 50)), false⟩])
def S120r6 : SCode := .ret
def S120r5 : SCode := .seq S120_5 S120r6
def S120r4 : SCode := .seq S120_4 S120r5
def S120r3 : SCode := .seq S120_3 S120r4
def S120r2 : SCode := .seq S120_2 S120r3
def S120r1 : SCode := .seq S120_1 S120r2
def S120 : SCode := .seq S120_0 S120r1
theorem cc120 : (Tryd.f120.body).bind (cc Tryd.prog Tryd.f120.ntmps A120) = some S120 := by kernel_rfl
def R120 : List RR := [.sl 2]
theorem cr120 : Tryd.f120.results.toList.map (crr Tryd.prog) = R120.map some := by kernel_rfl
theorem nm120 : (Tryd.f120.name == "runtime.NumGoroutine") = false := by kernel_rfl
theorem fn120 : Tryd.prog.funcs[120]? = some Tryd.f120 := by kernel_rfl
theorem bd120 : ∃ b, Tryd.f120.body = some b ∧ cc Tryd.prog Tryd.f120.ntmps A120 b = some S120 := Option.bind_eq_some_iff.1 cc120
theorem sd120 {G : World → Prop} {T : FuncId → Contract} {C : Contract} (hT : ∀ f, Sound G Tryd.prog f (T f)) (hl : C.lawful) (hC : ∀ args st K, C.wp args st K → args.length ≤ 77 ∧ ∃ os op, xv T st.n S120 (st0 args st) (retK R120 st.n os K) (panK st.n op K)) (hit : SoundIt G Tryd.prog 120 C.it := by exact SoundIt.none) : Sound G Tryd.prog 120 C := by
  obtain ⟨b, hb, hc⟩ := bd120
  rw [xv_eq] at hC
  exact sound_of_ev mo fn120 hb nm120 hc cr120 hT hl hit hC

/-! 122: redline/redlineref15.both -/
def A122 : Ann := ⟨fun _ _ => 0, fun _ => none, fun r => if r = 1 then some (false, [1, 2]) else if r = 2 then some (false, [2, 5, 6]) else if r = 3 then some (false, [2, 5, 6]) else if r = 4 then some (false, [2, 5, 6]) else if r = 5 then some (false, [2, 5, 6]) else if r = 8 then some (false, [2, 6, 7, 8, 9]) else if r = 9 then some (false, [2, 6, 7, 8, 9]) else if r = 10 then some (false, [2, 6, 7, 8, 9]) else if r = 11 then some (false, [2, 6, 7, 8, 9]) else if r = 12 then some (false, [7, 8]) else none, fun r => if r = 2 then [2, 5, 6] else if r = 4 then [2, 5, 6] else if r = 8 then [2, 6, 7, 8, 9] else []⟩
def S122 : SCode :=
  (.seq (.ops [⟨none, (some 2), .bx 2 93 5 (.s 0), false⟩,
    ⟨none, (some 4), .mv 4 (.k (Value.bool false)), false⟩])
  (.seq (.seq (.keep [1, 2]) (.ops [⟨none, (some 10), .mv 10 (.s 1), false⟩,
    ⟨none, (some 11), .mv 11 (.s 1), false⟩,
    ⟨none, (some 5), .mv 5 (.s 10), false⟩,
    ⟨none, (some 6), .mv 6 (.s 11), false⟩]))
  (.seq (.block 0 (.loop [2, 5, 6] (.seq (.seq (.seq (.keep [2, 5, 6]) (.ops [⟨none, (some 12), .mv 12 (.s 5), false⟩,
    ⟨none, (some 13), .bin 13 .gtr (.s 12) (.k (Value.int .i64 0)), false⟩,
    ⟨none, (some 14), .mv 14 (.s 13), false⟩,
    ⟨(some (14, true)), (some 15), .fa 15 4 (.s 2), false⟩,
    ⟨(some (14, true)), (some 16), .ld 16 false 1 (.s 15), false⟩,
    ⟨(some (14, true)), (some 17), .mv 17 (.s 5), false⟩,
    ⟨(some (14, true)), (some 18), .binc 18 .sub (.s 17) (.k (Value.int .i64 1)), false⟩,
    ⟨(some (14, true)), (some 19), .ia 19 2 (.s 16) (.s 18), false⟩,
    ⟨(some (14, true)), (some 20), .fa 20 0 (.s 19), false⟩,
    ⟨(some (14, true)), (some 21), .ld 21 false 1 (.s 20), true⟩,
    ⟨(some (14, true)), (some 22), .bin 22 .neq (.s 21) (.k (Value.int .u8 32)), false⟩,
    ⟨none, (some 23), .pk 23 (.s 14) (.s 22) (.k (Value.bool false)), false⟩]))
  (.cond (.s 23) .skip (.exit 0)))
  (.block 1 (.seq (.keep [2, 5, 6]) (.ops [⟨none, (some 24), .mv 24 (.s 5), false⟩,
    ⟨none, (some 25), .binc 25 .sub (.s 24) (.k (Value.int .i64 1)), false⟩,
    ⟨none, (some 5), .mv 5 (.s 25), false⟩]))))))
  (.seq (.block 2 (.loop [2, 5, 6] (.seq (.seq (.seq (.keep [2, 5, 6]) (.ops [⟨none, (some 26), .mv 26 (.s 6), false⟩,
    ⟨none, (some 27), .fa 27 4 (.s 2), false⟩,
    ⟨none, (some 28), .ld 28 false 1 (.s 27), false⟩,
    ⟨none, (some 29), .len 29 (.s 28), false⟩,
    ⟨none, (some 30), .bin 30 .lss (.s 26) (.s 29), false⟩,
    ⟨none, (some 31), .mv 31 (.s 30), false⟩,
    ⟨(some (31, true)), (some 32), .fa 32 4 (.s 2), false⟩,
    ⟨(some (31, true)), (some 33), .ld 33 false 1 (.s 32), false⟩,
    ⟨(some (31, true)), (some 34), .mv 34 (.s 6), false⟩,
    ⟨(some (31, true)), (some 35), .ia 35 2 (.s 33) (.s 34), true⟩,
    ⟨(some (31, true)), (some 36), .fa 36 0 (.s 35), false⟩,
    ⟨(some (31, true)), (some 37), .ld 37 false 1 (.s 36), false⟩,
    ⟨(some (31, true)), (some 38), .bin 38 .neq (.s 37) (.k (Value.int .u8 32)), false⟩,
    ⟨none, (some 39), .pk 39 (.s 31) (.s 38) (.k (Value.bool false)), false⟩]))
  (.cond (.s 39) .skip (.exit 2)))
  (.block 3 (.seq (.keep [2, 5, 6]) (.ops [⟨none, (some 40), .mv 40 (.s 6), false⟩,
    ⟨none, (some 41), .binc 41 .add (.s 40) (.k (Value.int .i64 1)), false⟩,
    ⟨none, (some 6), .mv 6 (.s 41), false⟩]))))))
  (.seq (.ops [⟨none, (some 7), .mv 7 (.k (Value.bool false)), false⟩,
    ⟨none, (some 8), .mv 8 (.k (Value.bool false)), false⟩])
  (.seq (.seq (.ops [⟨none, (some 42), .mv 42 (.s 5), false⟩,
    ⟨none, (some 9), .mv 9 (.s 42), false⟩])
  (.block 4 (.loop [2, 6, 7, 8, 9] (.seq (.seq (.seq (.keep [2, 6, 7, 8, 9]) (.ops [⟨none, (some 43), .mv 43 (.s 9), false⟩,
    ⟨none, (some 44), .mv 44 (.s 6), false⟩,
    ⟨none, (some 45), .bin 45 .lss (.s 43) (.s 44), false⟩]))
  (.cond (.s 45) .skip (.exit 4)))
  (.seq (.block 5 (.seq (.seq (.keep [2, 6, 7, 8, 9]) (.ops [⟨none, (some 48), .mv 48 (.s 7), false⟩,
    ⟨none, (some 49), .mv 49 (.s 48), false⟩,
    ⟨(some (49, false)), (some 50), .fa 50 4 (.s 2), false⟩,
    ⟨(some (49, false)), (some 51), .ld 51 false 1 (.s 50), false⟩,
    ⟨(some (49, false)), (some 52), .mv 52 (.s 9), false⟩,
    ⟨(some (49, false)), (some 53), .ia 53 2 (.s 51) (.s 52), false⟩,
    ⟨(some (49, false)), (some 54), .fa 54 0 (.s 53), false⟩,
    ⟨(some (49, false)), (some 55), .ld 55 false 1 (.s 54), false⟩,
    ⟨(some (49, false)), (some 56), .bin 56 .eql (.s 55) (.k (Value.int .u8 45)), false⟩,
    ⟨none, (some 57), .pk 57 (.s 49) (.k (Value.bool true)) (.s 56), true⟩,
    ⟨none, (some 7), .mv 7 (.s 57), false⟩]))
  (.seq (.keep [2, 6, 7, 8, 9]) (.ops [⟨none, (some 58), .mv 58 (.s 8), false⟩,
    ⟨none, (some 59), .mv 59 (.s 58), false⟩,
    ⟨(some (59, false)), (some 60), .fa 60 4 (.s 2), false⟩,
    ⟨(some (59, false)), (some 61), .ld 61 false 1 (.s 60), false⟩,
    ⟨(some (59, false)), (some 62), .mv 62 (.s 9), false⟩,
    ⟨(some (59, false)), (some 63), .ia 63 2 (.s 61) (.s 62), false⟩,
    ⟨(some (59, false)), (some 64), .fa 64 0 (.s 63), false⟩,
    ⟨(some (59, false)), (some 65), .ld 65 false 1 (.s 64), false⟩,
    ⟨(some (59, false)), (some 66), .bin 66 .eql (.s 65) (.k (Value.int .u8 43)), false⟩,
    ⟨none, (some 67), .pk 67 (.s 59) (.k (Value.bool true)) (.s 66), true⟩,
    ⟨none, (some 8), .mv 8 (.s 67), false⟩]))))
  (.seq (.keep [2, 6, 7, 8, 9]) (.ops [⟨none, (some 46), .mv 46 (.s 9), false⟩,
    ⟨none, (some 47), .binc 47 .add (.s 46) (.k (Value.int .i64 1)), false⟩,
    ⟨none, (some 9), .mv 9 (.s 47), false⟩])))))))
  (.seq (.seq (.keep [7, 8]) (.ops [⟨none, (some 68), .mv 68 (.s 7), false⟩,
    ⟨none, (some 69), .mv 69 (.s 68), false⟩,
    ⟨(some (69, true)), (some 70), .mv 70 (.s 8), false⟩,
    ⟨none, (some 71), .pk 71 (.s 69) (.s 70) (.k (Value.bool false)), false⟩,
    ⟨none, (some 4), .mv 4 (.s 71), false⟩]))
  .ret)))))))
theorem cc122 : (Tryd.f122.body).bind (cc Tryd.prog Tryd.f122.ntmps A122) = some S122 := by kernel_rfl
def R122 : List RR := [.sl 4]
theorem cr122 : Tryd.f122.results.toList.map (crr Tryd.prog) = R122.map some := by kernel_rfl
theorem nm122 : (Tryd.f122.name == "runtime.NumGoroutine") = false := by kernel_rfl
theorem fn122 : Tryd.prog.funcs[122]? = some Tryd.f122 := by kernel_rfl
theorem bd122 : ∃ b, Tryd.f122.body = some b ∧ cc Tryd.prog Tryd.f122.ntmps A122 b = some S122 := Option.bind_eq_some_iff.1 cc122
theorem sd122 {G : World → Prop} {T : FuncId → Contract} {C : Contract} (hT : ∀ f, Sound G Tryd.prog f (T f)) (hl : C.lawful) (hC : ∀ args st K, C.wp args st K → args.length ≤ 72 ∧ ∃ os op, xv T st.n S122 (st0 args st) (retK R122 st.n os K) (panK st.n op K)) (hit : SoundIt G Tryd.prog 122 C.it := by exact SoundIt.none) : Sound G Tryd.prog 122 C := by
  obtain ⟨b, hb, hc⟩ := bd122
  rw [xv_eq] at hC
  exact sound_of_ev mo fn122 hb nm122 hc cr122 hT hl hit hC

/-! 123: redline/redlineref11.Same -/
def A123 : Ann := ⟨fun r i => if r = 1 ∧ i = 29 then 1 else if r = 1 ∧ i = 32 then 1 else 0, fun r => if r = 6 then some ([], [(0, true), (2, true), (5, true), (7, true), (1, true), (3, true), (4, true), (6, true), (8, true), (9, true), (10, true)]) else none, fun r => if r = 1 then some (false, [2, 3]) else if r = 4 then some (false, [2, 3, 5]) else if r = 5 then some (false, [2, 3, 5]) else if r = 6 then some (false, [2, 3, 5]) else none, fun r => if r = 4 then [2, 3, 5] else []⟩
def S123 : SCode :=
  (.seq (.ops [⟨none, (some 2), .bx 2 93 5 (.s 0), false⟩,
    ⟨none, (some 3), .bx 3 93 5 (.s 1), false⟩,
    ⟨none, (some 4), .mv 4 (.k (Value.bool false)), false⟩])
  (.seq (.seq (.seq (.keep [2, 3]) (.ops [⟨none, (some 6), .fa 6 0 (.s 2), false⟩,
    ⟨none, (some 7), .ld 7 false 1 (.s 6), false⟩,
    ⟨none, (some 8), .fa 8 0 (.s 3), false⟩,
    ⟨none, (some 9), .ld 9 false 1 (.s 8), false⟩,
    ⟨none, (some 10), .bin 10 .neq (.s 7) (.s 9), false⟩,
    ⟨none, (some 11), .mv 11 (.s 10), false⟩,
    ⟨(some (11, false)), (some 12), .fa 12 1 (.s 2), false⟩,
    ⟨(some (11, false)), (some 13), .ld 13 false 1 (.s 12), false⟩,
    ⟨(some (11, false)), (some 14), .fa 14 1 (.s 3), false⟩,
    ⟨(some (11, false)), (some 15), .ld 15 false 1 (.s 14), true⟩,
    ⟨(some (11, false)), (some 16), .bin 16 .neq (.s 13) (.s 15), false⟩,
    ⟨none, (some 17), .pk 17 (.s 11) (.k (Value.bool true)) (.s 16), false⟩,
    ⟨none, (some 18), .mv 18 (.s 17), false⟩,
    ⟨(some (18, false)), (some 19), .fa 19 2 (.s 2), false⟩,
    ⟨(some (18, false)), (some 20), .ld 20 false 1 (.s 19), false⟩,
    ⟨(some (18, false)), (some 21), .fa 21 2 (.s 3), false⟩,
    ⟨(some (18, false)), (some 22), .ld 22 false 1 (.s 21), false⟩,
    ⟨(some (18, false)), (some 23), .bin 23 .neq (.s 20) (.s 22), false⟩,
    ⟨none, (some 24), .pk 24 (.s 18) (.k (Value.bool true)) (.s 23), false⟩,
    ⟨none, (some 25), .mv 25 (.s 24), true⟩,
    ⟨(some (25, false)), (some 26), .fa 26 3 (.s 2), false⟩,
    ⟨(some (25, false)), (some 27), .ld 27 false 1 (.s 26), false⟩,
    ⟨(some (25, false)), (some 28), .fa 28 3 (.s 3), false⟩,
    ⟨(some (25, false)), (some 29), .ld 29 false 1 (.s 28), false⟩,
    ⟨(some (25, false)), (some 30), .bin 30 .neq (.s 27) (.s 29), false⟩,
    ⟨none, (some 31), .pk 31 (.s 25) (.k (Value.bool true)) (.s 30), false⟩,
    ⟨none, (some 32), .mv 32 (.s 31), false⟩,
    ⟨(some (32, false)), (some 33), .fa 33 4 (.s 2), false⟩,
    ⟨(some (32, false)), (some 34), .ld 34 false 1 (.s 33), false⟩,
    ⟨(some (32, false)), (some 35), .len 35 (.s 34), true⟩,
    ⟨(some (32, false)), (some 36), .fa 36 4 (.s 3), false⟩,
    ⟨(some (32, false)), (some 37), .ld 37 false 1 (.s 36), false⟩,
    ⟨(some (32, false)), (some 38), .len 38 (.s 37), false⟩,
    ⟨(some (32, false)), (some 39), .bin 39 .neq (.s 35) (.s 38), false⟩,
    ⟨none, (some 40), .pk 40 (.s 32) (.k (Value.bool true)) (.s 39), false⟩]))
  (.cond (.s 40) (.seq (.ops [⟨none, (some 4), .mv 4 (.k (Value.bool false)), false⟩])
  .ret) .skip))
  (.seq (.seq (.ops [⟨none, (some 5), .mv 5 (.k (Value.int .i64 0)), false⟩])
  (.block 0 (.loop [2, 3, 5] (.seq (.seq (.seq (.keep [2, 3, 5]) (.ops [⟨none, (some 41), .mv 41 (.s 5), false⟩,
    ⟨none, (some 42), .fa 42 4 (.s 2), false⟩,
    ⟨none, (some 43), .ld 43 false 1 (.s 42), false⟩,
    ⟨none, (some 44), .len 44 (.s 43), false⟩,
    ⟨none, (some 45), .bin 45 .lss (.s 41) (.s 44), false⟩]))
  (.cond (.s 45) .skip (.exit 0)))
  (.seq (.block 1 (.seq (.seq (.keep [2, 3, 5]) (.dr [] [(0, true, ⟨none, (some 48), .fa 48 4 (.s 2), false⟩),
    (2, true, ⟨none, (some 50), .mv 50 (.s 5), false⟩),
    (5, true, ⟨none, (some 53), .fa 53 4 (.s 3), false⟩),
    (7, true, ⟨none, (some 55), .mv 55 (.s 5), false⟩),
    (1, true, ⟨none, (some 49), .ld 49 false 1 (.s 48), false⟩),
    (3, true, ⟨none, (some 51), .ia 51 2 (.s 49) (.s 50), false⟩),
    (4, true, ⟨none, (some 52), .ld 52 true 2 (.s 51), false⟩),
    (6, true, ⟨none, (some 54), .ld 54 false 1 (.s 53), false⟩),
    (8, true, ⟨none, (some 56), .ia 56 2 (.s 54) (.s 55), false⟩),
    (9, true, ⟨none, (some 57), .ld 57 true 2 (.s 56), true⟩),
    (10, true, ⟨none, (some 58), .eqa 58 true [0, 1] (.s 52) (.s 57), false⟩)]))
  (.cond (.s 58) (.seq (.ops [⟨none, (some 4), .mv 4 (.k (Value.bool false)), false⟩])
  .ret) .skip)))
  (.seq (.keep [2, 3, 5]) (.ops [⟨none, (some 46), .mv 46 (.s 5), false⟩,
    ⟨none, (some 47), .binc 47 .add (.s 46) (.k (Value.int .i64 1)), false⟩,
    ⟨none, (some 5), .mv 5 (.s 47), false⟩])))))))
  (.seq (.ops [⟨none, (some 4), .mv 4 (.k (Value.bool true)), false⟩])
  .ret))))
theorem cc123 : (Tryd.f123.body).bind (cc Tryd.prog Tryd.f123.ntmps A123) = some S123 := by kernel_rfl
def R123 : List RR := [.sl 4]
theorem cr123 : Tryd.f123.results.toList.map (crr Tryd.prog) = R123.map some := by kernel_rfl
theorem nm123 : (Tryd.f123.name == "runtime.NumGoroutine") = false := by kernel_rfl
theorem fn123 : Tryd.prog.funcs[123]? = some Tryd.f123 := by kernel_rfl
theorem bd123 : ∃ b, Tryd.f123.body = some b ∧ cc Tryd.prog Tryd.f123.ntmps A123 b = some S123 := Option.bind_eq_some_iff.1 cc123
theorem sd123 {G : World → Prop} {T : FuncId → Contract} {C : Contract} (hT : ∀ f, Sound G Tryd.prog f (T f)) (hl : C.lawful) (hC : ∀ args st K, C.wp args st K → args.length ≤ 59 ∧ ∃ os op, xv T st.n S123 (st0 args st) (retK R123 st.n os K) (panK st.n op K)) (hit : SoundIt G Tryd.prog 123 C.it := by exact SoundIt.none) : Sound G Tryd.prog 123 C := by
  obtain ⟨b, hb, hc⟩ := bd123
  rw [xv_eq] at hC
  exact sound_of_ev mo fn123 hb nm123 hc cr123 hT hl hit hC

/-! 144: slices.Backward[[]redline/api.Mark,redline/api.Mark] -/
def A144 : Ann := ⟨fun _ _ => 0, fun _ => none, fun _ => none, fun _ => []⟩
def S144 : SCode :=
  (.seq (.ops [⟨none, (some 1), .bx 1 91 1 (.s 0), false⟩,
    ⟨none, (some 2), .mv 2 (.k Value.nilFunc), false⟩])
  (.seq (.ops [⟨none, (some 3), .mf 3 172 [(.s 1)], false⟩,
    ⟨none, (some 2), .mv 2 (.s 3), false⟩])
  .ret))
theorem cc144 : (Tryd.f144.body).bind (cc Tryd.prog Tryd.f144.ntmps A144) = some S144 := by kernel_rfl
def R144 : List RR := [.sl 2]
theorem cr144 : Tryd.f144.results.toList.map (crr Tryd.prog) = R144.map some := by kernel_rfl
theorem nm144 : (Tryd.f144.name == "runtime.NumGoroutine") = false := by kernel_rfl
theorem fn144 : Tryd.prog.funcs[144]? = some Tryd.f144 := by kernel_rfl
theorem bd144 : ∃ b, Tryd.f144.body = some b ∧ cc Tryd.prog Tryd.f144.ntmps A144 b = some S144 := Option.bind_eq_some_iff.1 cc144
theorem sd144 {G : World → Prop} {T : FuncId → Contract} {C : Contract} (hT : ∀ f, Sound G Tryd.prog f (T f)) (hl : C.lawful) (hC : ∀ args st K, C.wp args st K → args.length ≤ 4 ∧ ∃ os op, xv T st.n S144 (st0 args st) (retK R144 st.n os K) (panK st.n op K)) (hit : SoundIt G Tryd.prog 144 C.it := by exact SoundIt.none) : Sound G Tryd.prog 144 C := by
  obtain ⟨b, hb, hc⟩ := bd144
  rw [xv_eq] at hC
  exact sound_of_ev mo fn144 hb nm144 hc cr144 hT hl hit hC

/-! 172: slices.Backward[[]redline/api.Mark,redline/api.Mark]$1 -/
def A172 : Ann := ⟨fun _ _ => 0, fun _ => none, fun r => if r = 2 then some (false, [0, 1, 3]) else if r = 3 then some (false, [0, 1, 3]) else none, fun r => if r = 1 then [0, 1, 3] else []⟩
def S172 : SCode :=
  (.seq (.ops [⟨none, (some 4), .ld 4 false 1 (.s 1), false⟩,
    ⟨none, (some 5), .len 5 (.s 4), false⟩,
    ⟨none, (some 6), .binc 6 .sub (.s 5) (.k (Value.int .i64 1)), false⟩,
    ⟨none, (some 3), .mv 3 (.s 6), false⟩])
  (.block 0 (.loop [0, 1, 3] (.seq (.seq (.ops [⟨none, (some 7), .mv 7 (.s 3), false⟩,
    ⟨none, (some 8), .bin 8 .geq (.s 7) (.k (Value.int .i64 0)), false⟩])
  (.cond (.s 8) .skip (.exit 0)))
  (.seq (.block 1 (.seq (.seq (.keep [0, 1, 3]) (.ops [⟨none, (some 11), .mv 11 (.s 0), false⟩,
    ⟨none, (some 12), .mv 12 (.s 3), false⟩,
    ⟨none, (some 13), .ld 13 false 1 (.s 1), false⟩,
    ⟨none, (some 14), .mv 14 (.s 3), false⟩,
    ⟨none, (some 15), .ia 15 2 (.s 13) (.s 14), false⟩,
    ⟨none, (some 16), .ld 16 true 2 (.s 15), false⟩,
    ⟨none, (some 17), .callv (some 17) false (.s 11) [(.s 12), (.s 16)], false⟩,
    ⟨none, (some 18), .not 18 (.s 17), false⟩]))
  (.cond (.s 18) .ret .skip)))
  (.seq (.keep [0, 1, 3]) (.ops [⟨none, (some 9), .mv 9 (.s 3), false⟩,
    ⟨none, (some 10), .binc 10 .sub (.s 9) (.k (Value.int .i64 1)), false⟩,
    ⟨none, (some 3), .mv 3 (.s 10), false⟩])))))))
theorem cc172 : (Tryd.f172.body).bind (cc Tryd.prog Tryd.f172.ntmps A172) = some S172 := by kernel_rfl
def R172 : List RR := []
theorem cr172 : Tryd.f172.results.toList.map (crr Tryd.prog) = R172.map some := by kernel_rfl
theorem nm172 : (Tryd.f172.name == "runtime.NumGoroutine") = false := by kernel_rfl
theorem fn172 : Tryd.prog.funcs[172]? = some Tryd.f172 := by kernel_rfl
theorem bd172 : ∃ b, Tryd.f172.body = some b ∧ cc Tryd.prog Tryd.f172.ntmps A172 b = some S172 := Option.bind_eq_some_iff.1 cc172
theorem sd172 {G : World → Prop} {T : FuncId → Contract} {C : Contract} (hT : ∀ f, Sound G Tryd.prog f (T f)) (hl : C.lawful) (hC : ∀ args st K, C.wp args st K → args.length ≤ 19 ∧ ∃ os op, xv T st.n S172 (st0 args st) (retK R172 st.n os K) (panK st.n op K)) (hit : SoundIt G Tryd.prog 172 C.it := by exact SoundIt.none) : Sound G Tryd.prog 172 C := by
  obtain ⟨b, hb, hc⟩ := bd172
  rw [xv_eq] at hC
  exact sound_of_ev mo fn172 hb nm172 hc cr172 hT hl hit hC

/-! 145: redline/hunks.pick -/
def A145 : Ann := ⟨fun r i => if r = 1 ∧ i = 0 then 11 else 0, fun _ => none, fun r => if r = 2 then some (false, [1, 2, 5]) else if r = 4 then some (false, [1, 5, 9, 10, 11]) else if r = 5 then some (false, [1, 5, 7, 9, 10, 11]) else if r = 6 then some (false, [1, 5, 7, 9, 10, 11]) else none, fun r => if r = 3 then [1, 5, 9, 10, 11] else []⟩
def S145 : SCode :=
  (.seq (.ops [⟨none, (some 2), .bx 2 93 5 (.s 0), false⟩,
    ⟨none, (some 4), .mv 4 (.k (Value.slice none 0 0)), false⟩])
  (.seq (.ops [⟨none, (some 5), .nr 5 9 1, false⟩])
  (.seq (.seq (.seq (.keep [1, 2, 5]) (.ops [⟨none, (some 8), .fa 8 4 (.s 2), false⟩,
    ⟨none, (some 9), .ld 9 false 1 (.s 8), false⟩,
    ⟨none, (some 10), .len 10 (.s 9), false⟩,
    ⟨none, (some 11), .mv 11 (.k (Value.int .i64 0)), false⟩]))
  (.block 0 (.loop [1, 5, 9, 10, 11] (.seq (.ops [⟨none, (some 12), .bin 12 .lss (.s 11) (.s 10), false⟩])
  (.seq (.cond (.s 12) .skip (.exit 0))
  (.seq (.block 1 (.seq (.seq (.keep [1, 5, 9, 10, 11]) (.ops [⟨none, (some 13), .ia 13 2 (.s 9) (.s 11), false⟩,
    ⟨none, (some 14), .ld 14 true 2 (.s 13), false⟩,
    ⟨none, (some 7), .al 7 96 [(Value.int .u8 0), (Value.string ⟨#[]⟩)], false⟩,
    ⟨none, none, .st true 2 (.s 7) (.s 14), false⟩]))
  (.seq (.seq (.keep [1, 5, 7, 9, 10, 11]) (.ops [⟨none, (some 15), .fa 15 0 (.s 7), false⟩,
    ⟨none, (some 16), .ld 16 false 1 (.s 15), false⟩,
    ⟨none, (some 17), .mv 17 (.s 1), false⟩,
    ⟨none, (some 18), .bin 18 .eql (.s 16) (.s 17), false⟩,
    ⟨none, (some 19), .mv 19 (.s 18), false⟩,
    ⟨(some (19, false)), (some 20), .fa 20 0 (.s 7), false⟩,
    ⟨(some (19, false)), (some 21), .ld 21 false 1 (.s 20), false⟩,
    ⟨(some (19, false)), (some 22), .bin 22 .eql (.s 21) (.k (Value.int .u8 32)), false⟩,
    ⟨none, (some 23), .pk 23 (.s 19) (.k (Value.bool true)) (.s 22), false⟩]))
  (.cond (.s 23) (.seq (.keep [1, 5, 7, 9, 10, 11]) (.ops [⟨none, (some 24), .mv 24 (.s 5), false⟩,
    ⟨none, (some 25), .fa 25 1 (.s 7), false⟩,
    ⟨none, (some 26), .ld 26 false 1 (.s 25), false⟩,
    ⟨none, (some 27), .bs 27 9 1 [(.s 26)], false⟩,
    ⟨none, (some 28), .ap 28 9 1 16 (.s 24) (.s 27), false⟩,
    ⟨none, (some 5), .mv 5 (.s 28), false⟩])) .skip))))
  (.ops [⟨none, (some 29), .binc 29 .add (.s 11) (.k (Value.int .i64 1)), false⟩,
    ⟨none, (some 11), .mv 11 (.s 29), false⟩])))))))
  (.seq (.ops [⟨none, (some 30), .mv 30 (.s 5), false⟩,
    ⟨none, (some 4), .mv 4 (.s 30), false⟩])
  .ret))))
theorem cc145 : (Tryd.f145.body).bind (cc Tryd.prog Tryd.f145.ntmps A145) = some S145 := by kernel_rfl
def R145 : List RR := [.sl 4]
theorem cr145 : Tryd.f145.results.toList.map (crr Tryd.prog) = R145.map some := by kernel_rfl
theorem nm145 : (Tryd.f145.name == "runtime.NumGoroutine") = false := by kernel_rfl
theorem fn145 : Tryd.prog.funcs[145]? = some Tryd.f145 := by kernel_rfl
theorem bd145 : ∃ b, Tryd.f145.body = some b ∧ cc Tryd.prog Tryd.f145.ntmps A145 b = some S145 := Option.bind_eq_some_iff.1 cc145
theorem sd145 {G : World → Prop} {T : FuncId → Contract} {C : Contract} (hT : ∀ f, Sound G Tryd.prog f (T f)) (hl : C.lawful) (hC : ∀ args st K, C.wp args st K → args.length ≤ 31 ∧ ∃ os op, xv T st.n S145 (st0 args st) (retK R145 st.n os K) (panK st.n op K)) (hit : SoundIt G Tryd.prog 145 C.it := by exact SoundIt.none) : Sound G Tryd.prog 145 C := by
  obtain ⟨b, hb, hc⟩ := bd145
  rw [xv_eq] at hC
  exact sound_of_ev mo fn145 hb nm145 hc cr145 hT hl hit hC

/-! 149: redline/redlineref11.number -/
def A149 : Ann := ⟨fun _ _ => 0, fun _ => none, fun r => if r = 1 then some (false, [0]) else none, fun _ => []⟩
def S149 : SCode :=
  (.seq (.ops [⟨none, (some 2), .mv 2 (.k (Value.bool false)), false⟩])
  (.seq (.seq (.keep [0]) (.ops [⟨none, (some 3), .mv 3 (.s 0), false⟩,
    ⟨none, (some 4), .bin 4 .geq (.s 3) (.k (Value.int .i64 0)), false⟩,
    ⟨none, (some 5), .mv 5 (.s 4), false⟩,
    ⟨(some (5, true)), (some 6), .mv 6 (.s 0), false⟩,
    ⟨(some (5, true)), (some 7), .bin 7 .leq (.s 6) (.k (Value.int .i64 2147483647)), false⟩,
    ⟨none, (some 8), .pk 8 (.s 5) (.s 7) (.k (Value.bool false)), false⟩,
    ⟨none, (some 2), .mv 2 (.s 8), false⟩]))
  .ret))
theorem cc149 : (Tryd.f149.body).bind (cc Tryd.prog Tryd.f149.ntmps A149) = some S149 := by kernel_rfl
def R149 : List RR := [.sl 2]
theorem cr149 : Tryd.f149.results.toList.map (crr Tryd.prog) = R149.map some := by kernel_rfl
theorem nm149 : (Tryd.f149.name == "runtime.NumGoroutine") = false := by kernel_rfl
theorem fn149 : Tryd.prog.funcs[149]? = some Tryd.f149 := by kernel_rfl
theorem bd149 : ∃ b, Tryd.f149.body = some b ∧ cc Tryd.prog Tryd.f149.ntmps A149 b = some S149 := Option.bind_eq_some_iff.1 cc149
theorem sd149 {G : World → Prop} {T : FuncId → Contract} {C : Contract} (hT : ∀ f, Sound G Tryd.prog f (T f)) (hl : C.lawful) (hC : ∀ args st K, C.wp args st K → args.length ≤ 9 ∧ ∃ os op, xv T st.n S149 (st0 args st) (retK R149 st.n os K) (panK st.n op K)) (hit : SoundIt G Tryd.prog 149 C.it := by exact SoundIt.none) : Sound G Tryd.prog 149 C := by
  obtain ⟨b, hb, hc⟩ := bd149
  rw [xv_eq] at hC
  exact sound_of_ev mo fn149 hb nm149 hc cr149 hT hl hit hC

/-! 150: redline/redlineref11.fields -/
def A150 : Ann := ⟨fun r i => if r = 8 ∧ i = 9 then 1 else if r = 8 ∧ i = 19 then 1 else 0, fun _ => none, fun r => if r = 2 then some (false, [1, 3]) else if r = 3 then some (false, [1, 3]) else if r = 4 then some (false, [1, 3]) else if r = 5 then some (false, [1, 3, 4]) else if r = 6 then some (false, [1, 3, 4, 5, 6]) else if r = 8 then some (false, [1, 3, 4, 6]) else none, fun r => if r = 2 then [1, 3] else []⟩
def S150 : SCode :=
  (.seq (.ops [⟨none, (some 1), .bx 1 93 5 (.s 0), false⟩,
    ⟨none, (some 2), .mv 2 (.k (Value.bool false)), false⟩])
  (.seq (.seq (.ops [⟨none, (some 3), .mv 3 (.k (Value.int .i64 0)), false⟩])
  (.block 0 (.loop [1, 3] (.seq (.seq (.seq (.keep [1, 3]) (.ops [⟨none, (some 7), .mv 7 (.s 3), false⟩,
    ⟨none, (some 8), .fa 8 4 (.s 1), false⟩,
    ⟨none, (some 9), .ld 9 false 1 (.s 8), false⟩,
    ⟨none, (some 10), .len 10 (.s 9), false⟩,
    ⟨none, (some 11), .bin 11 .lss (.s 7) (.s 10), false⟩]))
  (.cond (.s 11) .skip (.exit 0)))
  (.seq (.block 1 (.seq (.seq (.keep [1, 3]) (.ops [⟨none, (some 14), .fa 14 4 (.s 1), false⟩,
    ⟨none, (some 15), .ld 15 false 1 (.s 14), false⟩,
    ⟨none, (some 16), .mv 16 (.s 3), false⟩,
    ⟨none, (some 17), .ia 17 2 (.s 15) (.s 16), false⟩,
    ⟨none, (some 18), .ld 18 true 2 (.s 17), false⟩,
    ⟨none, (some 4), .al 4 96 [(Value.int .u8 0), (Value.string ⟨#[]⟩)], false⟩,
    ⟨none, none, .st true 2 (.s 4) (.s 18), false⟩]))
  (.seq (.seq (.keep [1, 3, 4]) (.ops [⟨none, (some 20), .fa 20 1 (.s 4), false⟩,
    ⟨none, (some 21), .ld 21 false 1 (.s 20), false⟩,
    ⟨none, (some 22), .call (some 22) 174 false [(.s 21)], false⟩,
    ⟨none, (some 19), .mv 19 (.s 22), false⟩,
    ⟨none, (some 23), .ex 23 (.s 19) 0, false⟩,
    ⟨none, (some 24), .ex 24 (.s 19) 1, false⟩,
    ⟨none, (some 5), .mv 5 (.s 23), false⟩,
    ⟨none, (some 6), .mv 6 (.s 24), false⟩]))
  (.seq (.seq (.seq (.keep [1, 3, 4, 5, 6]) (.ops [⟨none, (some 25), .mv 25 (.s 5), false⟩,
    ⟨none, (some 26), .not 26 (.s 25), false⟩,
    ⟨none, (some 27), .mv 27 (.s 26), false⟩,
    ⟨(some (27, false)), (some 28), .fa 28 0 (.s 4), false⟩,
    ⟨(some (27, false)), (some 29), .ld 29 false 1 (.s 28), false⟩,
    ⟨(some (27, false)), (some 30), .bin 30 .neq (.s 29) (.k (Value.int .u8 32)), false⟩,
    ⟨(some (27, false)), (some 31), .mv 31 (.s 30), false⟩,
    ⟨(some (31, true)), (some 32), .fa 32 0 (.s 4), false⟩,
    ⟨(some (31, true)), (some 33), .ld 33 false 1 (.s 32), false⟩,
    ⟨(some (31, true)), (some 34), .bin 34 .neq (.s 33) (.k (Value.int .u8 45)), true⟩,
    ⟨(some (27, false)), (some 35), .pk 35 (.s 31) (.s 34) (.k (Value.bool false)), false⟩,
    ⟨(some (27, false)), (some 36), .mv 36 (.s 35), false⟩,
    ⟨(some (36, true)), (some 37), .fa 37 0 (.s 4), false⟩,
    ⟨(some (36, true)), (some 38), .ld 38 false 1 (.s 37), false⟩,
    ⟨(some (36, true)), (some 39), .bin 39 .neq (.s 38) (.k (Value.int .u8 43)), false⟩,
    ⟨(some (27, false)), (some 40), .pk 40 (.s 36) (.s 39) (.k (Value.bool false)), false⟩,
    ⟨none, (some 41), .pk 41 (.s 27) (.k (Value.bool true)) (.s 40), false⟩]))
  (.cond (.s 41) (.seq (.ops [⟨none, (some 2), .mv 2 (.k (Value.bool false)), false⟩])
  .ret) .skip))
  (.seq (.seq (.keep [1, 3, 4, 6]) (.ops [⟨none, (some 42), .mv 42 (.s 6), false⟩,
    ⟨none, (some 43), .not 43 (.s 42), false⟩,
    ⟨none, (some 44), .mv 44 (.s 43), false⟩,
    ⟨(some (44, true)), (some 45), .fa 45 0 (.s 4), false⟩,
    ⟨(some (44, true)), (some 46), .ld 46 false 1 (.s 45), false⟩,
    ⟨(some (44, true)), (some 47), .bin 47 .neq (.s 46) (.k (Value.int .u8 43)), false⟩,
    ⟨(some (44, true)), (some 48), .mv 48 (.s 47), false⟩,
    ⟨(some (48, true)), (some 49), .ld 49 true 5 (.s 1), false⟩,
    ⟨(some (48, true)), (some 50), .mv 50 (.s 3), false⟩,
    ⟨(some (48, true)), (some 51), .call (some 51) 175 true [(.s 49), (.s 50), (.k (Value.int .u8 45))], true⟩,
    ⟨(some (48, true)), (some 52), .not 52 (.s 51), false⟩,
    ⟨(some (44, true)), (some 53), .pk 53 (.s 48) (.s 52) (.k (Value.bool false)), false⟩,
    ⟨(some (44, true)), (some 54), .mv 54 (.s 53), false⟩,
    ⟨(some (54, false)), (some 55), .fa 55 0 (.s 4), false⟩,
    ⟨(some (54, false)), (some 56), .ld 56 false 1 (.s 55), false⟩,
    ⟨(some (54, false)), (some 57), .bin 57 .neq (.s 56) (.k (Value.int .u8 45)), false⟩,
    ⟨(some (54, false)), (some 58), .mv 58 (.s 57), false⟩,
    ⟨(some (58, true)), (some 59), .ld 59 true 5 (.s 1), false⟩,
    ⟨(some (58, true)), (some 60), .mv 60 (.s 3), false⟩,
    ⟨(some (58, true)), (some 61), .call (some 61) 175 true [(.s 59), (.s 60), (.k (Value.int .u8 43))], true⟩,
    ⟨(some (58, true)), (some 62), .not 62 (.s 61), false⟩,
    ⟨(some (54, false)), (some 63), .pk 63 (.s 58) (.s 62) (.k (Value.bool false)), false⟩,
    ⟨(some (44, true)), (some 64), .pk 64 (.s 54) (.k (Value.bool true)) (.s 63), false⟩,
    ⟨none, (some 65), .pk 65 (.s 44) (.s 64) (.k (Value.bool false)), false⟩]))
  (.cond (.s 65) (.seq (.ops [⟨none, (some 2), .mv 2 (.k (Value.bool false)), false⟩])
  .ret) .skip))))))
  (.seq (.keep [1, 3]) (.ops [⟨none, (some 12), .mv 12 (.s 3), false⟩,
    ⟨none, (some 13), .binc 13 .add (.s 12) (.k (Value.int .i64 1)), false⟩,
    ⟨none, (some 3), .mv 3 (.s 13), false⟩])))))))
  (.seq (.ops [⟨none, (some 2), .mv 2 (.k (Value.bool true)), false⟩])
  .ret)))
theorem cc150 : (Tryd.f150.body).bind (cc Tryd.prog Tryd.f150.ntmps A150) = some S150 := by kernel_rfl
def R150 : List RR := [.sl 2]
theorem cr150 : Tryd.f150.results.toList.map (crr Tryd.prog) = R150.map some := by kernel_rfl
theorem nm150 : (Tryd.f150.name == "runtime.NumGoroutine") = false := by kernel_rfl
theorem fn150 : Tryd.prog.funcs[150]? = some Tryd.f150 := by kernel_rfl
theorem bd150 : ∃ b, Tryd.f150.body = some b ∧ cc Tryd.prog Tryd.f150.ntmps A150 b = some S150 := Option.bind_eq_some_iff.1 cc150
theorem sd150 {G : World → Prop} {T : FuncId → Contract} {C : Contract} (hT : ∀ f, Sound G Tryd.prog f (T f)) (hl : C.lawful) (hC : ∀ args st K, C.wp args st K → args.length ≤ 66 ∧ ∃ os op, xv T st.n S150 (st0 args st) (retK R150 st.n os K) (panK st.n op K)) (hit : SoundIt G Tryd.prog 150 C.it := by exact SoundIt.none) : Sound G Tryd.prog 150 C := by
  obtain ⟨b, hb, hc⟩ := bd150
  rw [xv_eq] at hC
  exact sound_of_ev mo fn150 hb nm150 hc cr150 hT hl hit hC

/-! 151: redline/redlineref11.Old -/
def A151 : Ann := ⟨fun _ _ => 0, fun _ => none, fun r => if r = 1 then some (false, [1]) else none, fun _ => []⟩
def S151 : SCode :=
  (.seq (.ops [⟨none, (some 1), .bx 1 93 5 (.s 0), false⟩,
    ⟨none, (some 2), .mv 2 (.k (Value.slice none 0 0)), false⟩])
  (.seq (.seq (.keep [1]) (.ops [⟨none, (some 3), .ld 3 true 5 (.s 1), false⟩,
    ⟨none, (some 4), .call (some 4) 176 false [(.s 3), (.k (Value.int .u8 43))], false⟩,
    ⟨none, (some 2), .mv 2 (.s 4), false⟩]))
  .ret))
theorem cc151 : (Tryd.f151.body).bind (cc Tryd.prog Tryd.f151.ntmps A151) = some S151 := by kernel_rfl
def R151 : List RR := [.sl 2]
theorem cr151 : Tryd.f151.results.toList.map (crr Tryd.prog) = R151.map some := by kernel_rfl
theorem nm151 : (Tryd.f151.name == "runtime.NumGoroutine") = false := by kernel_rfl
theorem fn151 : Tryd.prog.funcs[151]? = some Tryd.f151 := by kernel_rfl
theorem bd151 : ∃ b, Tryd.f151.body = some b ∧ cc Tryd.prog Tryd.f151.ntmps A151 b = some S151 := Option.bind_eq_some_iff.1 cc151
theorem sd151 {G : World → Prop} {T : FuncId → Contract} {C : Contract} (hT : ∀ f, Sound G Tryd.prog f (T f)) (hl : C.lawful) (hC : ∀ args st K, C.wp args st K → args.length ≤ 5 ∧ ∃ os op, xv T st.n S151 (st0 args st) (retK R151 st.n os K) (panK st.n op K)) (hit : SoundIt G Tryd.prog 151 C.it := by exact SoundIt.none) : Sound G Tryd.prog 151 C := by
  obtain ⟨b, hb, hc⟩ := bd151
  rw [xv_eq] at hC
  exact sound_of_ev mo fn151 hb nm151 hc cr151 hT hl hit hC

/-! 152: redline/redlineref11.New -/
def A152 : Ann := ⟨fun _ _ => 0, fun _ => none, fun r => if r = 1 then some (false, [1]) else none, fun _ => []⟩
def S152 : SCode :=
  (.seq (.ops [⟨none, (some 1), .bx 1 93 5 (.s 0), false⟩,
    ⟨none, (some 2), .mv 2 (.k (Value.slice none 0 0)), false⟩])
  (.seq (.seq (.keep [1]) (.ops [⟨none, (some 3), .ld 3 true 5 (.s 1), false⟩,
    ⟨none, (some 4), .call (some 4) 176 false [(.s 3), (.k (Value.int .u8 45))], false⟩,
    ⟨none, (some 2), .mv 2 (.s 4), false⟩]))
  .ret))
theorem cc152 : (Tryd.f152.body).bind (cc Tryd.prog Tryd.f152.ntmps A152) = some S152 := by kernel_rfl
def R152 : List RR := [.sl 2]
theorem cr152 : Tryd.f152.results.toList.map (crr Tryd.prog) = R152.map some := by kernel_rfl
theorem nm152 : (Tryd.f152.name == "runtime.NumGoroutine") = false := by kernel_rfl
theorem fn152 : Tryd.prog.funcs[152]? = some Tryd.f152 := by kernel_rfl
theorem bd152 : ∃ b, Tryd.f152.body = some b ∧ cc Tryd.prog Tryd.f152.ntmps A152 b = some S152 := Option.bind_eq_some_iff.1 cc152
theorem sd152 {G : World → Prop} {T : FuncId → Contract} {C : Contract} (hT : ∀ f, Sound G Tryd.prog f (T f)) (hl : C.lawful) (hC : ∀ args st K, C.wp args st K → args.length ≤ 5 ∧ ∃ os op, xv T st.n S152 (st0 args st) (retK R152 st.n os K) (panK st.n op K)) (hit : SoundIt G Tryd.prog 152 C.it := by exact SoundIt.none) : Sound G Tryd.prog 152 C := by
  obtain ⟨b, hb, hc⟩ := bd152
  rw [xv_eq] at hC
  exact sound_of_ev mo fn152 hb nm152 hc cr152 hT hl hit hC

/-! 174: redline/redlineref11.line -/
def A174 : Ann := ⟨fun _ _ => 0, fun r => if r = 8 then some ([], [(0, true), (1, true), (2, true), (3, true), (4, true), (5, true), (6, true), (7, true)]) else none, fun r => if r = 1 then some (false, [0]) else if r = 4 then some (false, [0, 4]) else if r = 5 then some (false, [0, 4]) else if r = 6 then some (false, [0, 4]) else if r = 8 then some (false, [0]) else none, fun r => if r = 4 then [0, 4] else []⟩
def S174 : SCode :=
  (.seq (.ops [⟨none, (some 2), .mv 2 (.k (Value.bool false)), false⟩,
    ⟨none, (some 3), .mv 3 (.k (Value.bool false)), false⟩])
  (.seq (.seq (.seq (.keep [0]) (.ops [⟨none, (some 5), .mv 5 (.s 0), false⟩,
    ⟨none, (some 6), .lens 6 (.s 5), false⟩,
    ⟨none, (some 7), .bin 7 .eql (.s 6) (.k (Value.int .i64 0)), false⟩]))
  (.cond (.s 7) (.seq (.ops [⟨none, (some 2), .mv 2 (.k (Value.bool false)), false⟩,
    ⟨none, (some 3), .mv 3 (.k (Value.bool false)), false⟩])
  .ret) .skip))
  (.seq (.seq (.ops [⟨none, (some 4), .mv 4 (.k (Value.int .i64 0)), false⟩])
  (.block 0 (.loop [0, 4] (.seq (.seq (.seq (.keep [0, 4]) (.ops [⟨none, (some 8), .mv 8 (.s 4), false⟩,
    ⟨none, (some 9), .mv 9 (.s 0), false⟩,
    ⟨none, (some 10), .lens 10 (.s 9), false⟩,
    ⟨none, (some 11), .binc 11 .sub (.s 10) (.k (Value.int .i64 1)), false⟩,
    ⟨none, (some 12), .bin 12 .lss (.s 8) (.s 11), false⟩]))
  (.cond (.s 12) .skip (.exit 0)))
  (.seq (.block 1 (.seq (.seq (.keep [0, 4]) (.ops [⟨none, (some 15), .mv 15 (.s 0), false⟩,
    ⟨none, (some 16), .mv 16 (.s 4), false⟩,
    ⟨none, (some 17), .ixs 17 (.s 15) (.s 16), false⟩,
    ⟨none, (some 18), .bin 18 .eql (.s 17) (.k (Value.int .u8 10)), false⟩]))
  (.cond (.s 18) (.seq (.ops [⟨none, (some 2), .mv 2 (.k (Value.bool false)), false⟩,
    ⟨none, (some 3), .mv 3 (.k (Value.bool false)), false⟩])
  .ret) .skip)))
  (.seq (.keep [0, 4]) (.ops [⟨none, (some 13), .mv 13 (.s 4), false⟩,
    ⟨none, (some 14), .binc 14 .add (.s 13) (.k (Value.int .i64 1)), false⟩,
    ⟨none, (some 4), .mv 4 (.s 14), false⟩])))))))
  (.seq (.seq (.keep [0]) (.dr [] [(0, true, ⟨none, (some 19), .mv 19 (.s 0), false⟩),
    (1, true, ⟨none, (some 20), .mv 20 (.s 0), false⟩),
    (2, true, ⟨none, (some 21), .lens 21 (.s 20), false⟩),
    (3, true, ⟨none, (some 22), .binc 22 .sub (.s 21) (.k (Value.int .i64 1)), false⟩),
    (4, true, ⟨none, (some 23), .ixs 23 (.s 19) (.s 22), false⟩),
    (5, true, ⟨none, (some 24), .bin 24 .eql (.s 23) (.k (Value.int .u8 10)), false⟩),
    (6, true, ⟨none, (some 2), .mv 2 (.k (Value.bool true)), false⟩),
    (7, true, ⟨none, (some 3), .mv 3 (.s 24), false⟩)]))
  .ret))))
theorem cc174 : (Tryd.f174.body).bind (cc Tryd.prog Tryd.f174.ntmps A174) = some S174 := by kernel_rfl
def R174 : List RR := [.sl 2, .sl 3]
theorem cr174 : Tryd.f174.results.toList.map (crr Tryd.prog) = R174.map some := by kernel_rfl
theorem nm174 : (Tryd.f174.name == "runtime.NumGoroutine") = false := by kernel_rfl
theorem fn174 : Tryd.prog.funcs[174]? = some Tryd.f174 := by kernel_rfl
theorem bd174 : ∃ b, Tryd.f174.body = some b ∧ cc Tryd.prog Tryd.f174.ntmps A174 b = some S174 := Option.bind_eq_some_iff.1 cc174
theorem sd174 {G : World → Prop} {T : FuncId → Contract} {C : Contract} (hT : ∀ f, Sound G Tryd.prog f (T f)) (hl : C.lawful) (hC : ∀ args st K, C.wp args st K → args.length ≤ 25 ∧ ∃ os op, xv T st.n S174 (st0 args st) (retK R174 st.n os K) (panK st.n op K)) (hit : SoundIt G Tryd.prog 174 C.it := by exact SoundIt.none) : Sound G Tryd.prog 174 C := by
  obtain ⟨b, hb, hc⟩ := bd174
  rw [xv_eq] at hC
  exact sound_of_ev mo fn174 hb nm174 hc cr174 hT hl hit hC

/-! 175: redline/redlineref11.last -/
def A175 : Ann := ⟨fun _ _ => 0, fun _ => none, fun r => if r = 1 then some (false, [1, 2, 3]) else if r = 2 then some (false, [2, 3, 7]) else if r = 3 then some (false, [2, 3, 7]) else if r = 4 then some (false, [2, 3, 7]) else none, fun r => if r = 2 then [2, 3, 7] else []⟩
def S175 : SCode :=
  (.seq (.ops [⟨none, (some 3), .bx 3 93 5 (.s 0), false⟩,
    ⟨none, (some 6), .mv 6 (.k (Value.bool false)), false⟩])
  (.seq (.seq (.seq (.keep [1, 2, 3]) (.ops [⟨none, (some 8), .mv 8 (.s 1), false⟩,
    ⟨none, (some 9), .binc 9 .add (.s 8) (.k (Value.int .i64 1)), false⟩,
    ⟨none, (some 7), .mv 7 (.s 9), false⟩]))
  (.block 0 (.loop [2, 3, 7] (.seq (.seq (.seq (.keep [2, 3, 7]) (.ops [⟨none, (some 10), .mv 10 (.s 7), false⟩,
    ⟨none, (some 11), .fa 11 4 (.s 3), false⟩,
    ⟨none, (some 12), .ld 12 false 1 (.s 11), false⟩,
    ⟨none, (some 13), .len 13 (.s 12), false⟩,
    ⟨none, (some 14), .bin 14 .lss (.s 10) (.s 13), false⟩]))
  (.cond (.s 14) .skip (.exit 0)))
  (.seq (.block 1 (.seq (.seq (.keep [2, 3, 7]) (.ops [⟨none, (some 17), .fa 17 4 (.s 3), false⟩,
    ⟨none, (some 18), .ld 18 false 1 (.s 17), false⟩,
    ⟨none, (some 19), .mv 19 (.s 7), false⟩,
    ⟨none, (some 20), .ia 20 2 (.s 18) (.s 19), false⟩,
    ⟨none, (some 21), .fa 21 0 (.s 20), false⟩,
    ⟨none, (some 22), .ld 22 false 1 (.s 21), false⟩,
    ⟨none, (some 23), .mv 23 (.s 2), false⟩,
    ⟨none, (some 24), .bin 24 .eql (.s 22) (.s 23), false⟩,
    ⟨none, (some 25), .mv 25 (.s 24), false⟩,
    ⟨(some (25, false)), (some 26), .fa 26 4 (.s 3), true⟩,
    ⟨(some (25, false)), (some 27), .ld 27 false 1 (.s 26), false⟩,
    ⟨(some (25, false)), (some 28), .mv 28 (.s 7), false⟩,
    ⟨(some (25, false)), (some 29), .ia 29 2 (.s 27) (.s 28), false⟩,
    ⟨(some (25, false)), (some 30), .fa 30 0 (.s 29), false⟩,
    ⟨(some (25, false)), (some 31), .ld 31 false 1 (.s 30), false⟩,
    ⟨(some (25, false)), (some 32), .bin 32 .eql (.s 31) (.k (Value.int .u8 32)), false⟩,
    ⟨none, (some 33), .pk 33 (.s 25) (.k (Value.bool true)) (.s 32), false⟩]))
  (.cond (.s 33) (.seq (.ops [⟨none, (some 6), .mv 6 (.k (Value.bool false)), false⟩])
  .ret) .skip)))
  (.seq (.keep [2, 3, 7]) (.ops [⟨none, (some 15), .mv 15 (.s 7), false⟩,
    ⟨none, (some 16), .binc 16 .add (.s 15) (.k (Value.int .i64 1)), false⟩,
    ⟨none, (some 7), .mv 7 (.s 16), false⟩])))))))
  (.seq (.ops [⟨none, (some 6), .mv 6 (.k (Value.bool true)), false⟩])
  .ret)))
theorem cc175 : (Tryd.f175.body).bind (cc Tryd.prog Tryd.f175.ntmps A175) = some S175 := by kernel_rfl
def R175 : List RR := [.sl 6]
theorem cr175 : Tryd.f175.results.toList.map (crr Tryd.prog) = R175.map some := by kernel_rfl
theorem nm175 : (Tryd.f175.name == "runtime.NumGoroutine") = false := by kernel_rfl
theorem fn175 : Tryd.prog.funcs[175]? = some Tryd.f175 := by kernel_rfl
theorem bd175 : ∃ b, Tryd.f175.body = some b ∧ cc Tryd.prog Tryd.f175.ntmps A175 b = some S175 := Option.bind_eq_some_iff.1 cc175
theorem sd175 {G : World → Prop} {T : FuncId → Contract} {C : Contract} (hT : ∀ f, Sound G Tryd.prog f (T f)) (hl : C.lawful) (hC : ∀ args st K, C.wp args st K → args.length ≤ 34 ∧ ∃ os op, xv T st.n S175 (st0 args st) (retK R175 st.n os K) (panK st.n op K)) (hit : SoundIt G Tryd.prog 175 C.it := by exact SoundIt.none) : Sound G Tryd.prog 175 C := by
  obtain ⟨b, hb, hc⟩ := bd175
  rw [xv_eq] at hC
  exact sound_of_ev mo fn175 hb nm175 hc cr175 hT hl hit hC

/-! 176: redline/redlineref11.pick -/
def A176 : Ann := ⟨fun r i => if r = 1 ∧ i = 0 then 11 else 0, fun _ => none, fun r => if r = 3 then some (false, [1, 2, 5, 6]) else if r = 4 then some (false, [1, 2, 5, 6]) else if r = 5 then some (false, [1, 2, 5, 6]) else if r = 6 then some (false, [1, 2, 5, 6, 7]) else if r = 7 then some (false, [1, 2, 5, 6]) else none, fun r => if r = 3 then [1, 2, 5, 6] else []⟩
def S176 : SCode :=
  (.seq (.ops [⟨none, (some 2), .bx 2 93 5 (.s 0), false⟩,
    ⟨none, (some 4), .mv 4 (.k (Value.slice none 0 0)), false⟩])
  (.seq (.ops [⟨none, (some 5), .nr 5 9 1, false⟩])
  (.seq (.seq (.ops [⟨none, (some 6), .mv 6 (.k (Value.int .i64 0)), false⟩])
  (.block 0 (.loop [1, 2, 5, 6] (.seq (.seq (.seq (.keep [1, 2, 5, 6]) (.ops [⟨none, (some 8), .mv 8 (.s 6), false⟩,
    ⟨none, (some 9), .fa 9 4 (.s 2), false⟩,
    ⟨none, (some 10), .ld 10 false 1 (.s 9), false⟩,
    ⟨none, (some 11), .len 11 (.s 10), false⟩,
    ⟨none, (some 12), .bin 12 .lss (.s 8) (.s 11), false⟩]))
  (.cond (.s 12) .skip (.exit 0)))
  (.seq (.block 1 (.seq (.seq (.keep [1, 2, 5, 6]) (.ops [⟨none, (some 15), .fa 15 4 (.s 2), false⟩,
    ⟨none, (some 16), .ld 16 false 1 (.s 15), false⟩,
    ⟨none, (some 17), .mv 17 (.s 6), false⟩,
    ⟨none, (some 18), .ia 18 2 (.s 16) (.s 17), false⟩,
    ⟨none, (some 19), .fa 19 0 (.s 18), false⟩,
    ⟨none, (some 20), .ld 20 false 1 (.s 19), false⟩,
    ⟨none, (some 7), .mv 7 (.s 20), false⟩]))
  (.seq (.seq (.keep [1, 2, 5, 6, 7]) (.ops [⟨none, (some 21), .mv 21 (.s 7), false⟩,
    ⟨none, (some 22), .mv 22 (.s 1), false⟩,
    ⟨none, (some 23), .bin 23 .neq (.s 21) (.s 22), false⟩,
    ⟨none, (some 24), .mv 24 (.s 23), false⟩,
    ⟨(some (24, true)), (some 25), .mv 25 (.s 7), false⟩,
    ⟨(some (24, true)), (some 26), .bin 26 .eql (.s 25) (.k (Value.int .u8 32)), false⟩,
    ⟨(some (24, true)), (some 27), .mv 27 (.s 26), false⟩,
    ⟨(some (27, false)), (some 28), .mv 28 (.s 7), false⟩,
    ⟨(some (27, false)), (some 29), .bin 29 .eql (.s 28) (.k (Value.int .u8 45)), false⟩,
    ⟨(some (24, true)), (some 30), .pk 30 (.s 27) (.k (Value.bool true)) (.s 29), true⟩,
    ⟨(some (24, true)), (some 31), .mv 31 (.s 30), false⟩,
    ⟨(some (31, false)), (some 32), .mv 32 (.s 7), false⟩,
    ⟨(some (31, false)), (some 33), .bin 33 .eql (.s 32) (.k (Value.int .u8 43)), false⟩,
    ⟨(some (24, true)), (some 34), .pk 34 (.s 31) (.k (Value.bool true)) (.s 33), false⟩,
    ⟨none, (some 35), .pk 35 (.s 24) (.s 34) (.k (Value.bool false)), false⟩]))
  (.cond (.s 35) (.seq (.keep [1, 2, 5, 6]) (.ops [⟨none, (some 36), .mv 36 (.s 5), false⟩,
    ⟨none, (some 37), .fa 37 4 (.s 2), false⟩,
    ⟨none, (some 38), .ld 38 false 1 (.s 37), false⟩,
    ⟨none, (some 39), .mv 39 (.s 6), false⟩,
    ⟨none, (some 40), .ia 40 2 (.s 38) (.s 39), false⟩,
    ⟨none, (some 41), .fa 41 1 (.s 40), false⟩,
    ⟨none, (some 42), .ld 42 false 1 (.s 41), false⟩,
    ⟨none, (some 43), .bs 43 9 1 [(.s 42)], false⟩,
    ⟨none, (some 44), .ap 44 9 1 16 (.s 36) (.s 43), false⟩,
    ⟨none, (some 5), .mv 5 (.s 44), true⟩])) .skip))))
  (.seq (.keep [1, 2, 5, 6]) (.ops [⟨none, (some 13), .mv 13 (.s 6), false⟩,
    ⟨none, (some 14), .binc 14 .add (.s 13) (.k (Value.int .i64 1)), false⟩,
    ⟨none, (some 6), .mv 6 (.s 14), false⟩])))))))
  (.seq (.ops [⟨none, (some 45), .mv 45 (.s 5), false⟩,
    ⟨none, (some 4), .mv 4 (.s 45), false⟩])
  .ret))))
theorem cc176 : (Tryd.f176.body).bind (cc Tryd.prog Tryd.f176.ntmps A176) = some S176 := by kernel_rfl
def R176 : List RR := [.sl 4]
theorem cr176 : Tryd.f176.results.toList.map (crr Tryd.prog) = R176.map some := by kernel_rfl
theorem nm176 : (Tryd.f176.name == "runtime.NumGoroutine") = false := by kernel_rfl
theorem fn176 : Tryd.prog.funcs[176]? = some Tryd.f176 := by kernel_rfl
theorem bd176 : ∃ b, Tryd.f176.body = some b ∧ cc Tryd.prog Tryd.f176.ntmps A176 b = some S176 := Option.bind_eq_some_iff.1 cc176
theorem sd176 {G : World → Prop} {T : FuncId → Contract} {C : Contract} (hT : ∀ f, Sound G Tryd.prog f (T f)) (hl : C.lawful) (hC : ∀ args st K, C.wp args st K → args.length ≤ 46 ∧ ∃ os op, xv T st.n S176 (st0 args st) (retK R176 st.n os K) (panK st.n op K)) (hit : SoundIt G Tryd.prog 176 C.it := by exact SoundIt.none) : Sound G Tryd.prog 176 C := by
  obtain ⟨b, hb, hc⟩ := bd176
  rw [xv_eq] at hC
  exact sound_of_ev mo fn176 hb nm176 hc cr176 hT hl hit hC

/-! 113: slices.ContainsFunc[[]redline/api.Mark,redline/api.Mark] -/
def A113 : Ann := ⟨fun _ _ => 0, fun _ => none, fun r => if r = 1 then some (false, [0, 1]) else none, fun _ => []⟩
def S113 : SCode :=
  (.seq (.ops [⟨none, (some 4), .mv 4 (.k (Value.bool false)), false⟩])
  (.seq (.seq (.keep [0, 1]) (.ops [⟨none, (some 5), .mv 5 (.s 0), false⟩,
    ⟨none, (some 6), .mv 6 (.s 1), false⟩,
    ⟨none, (some 7), .call (some 7) 146 false [(.s 5), (.s 6)], false⟩,
    ⟨none, (some 8), .bin 8 .geq (.s 7) (.k (Value.int .i64 0)), false⟩,
    ⟨none, (some 4), .mv 4 (.s 8), false⟩]))
  .ret))
theorem cc113 : (Tryd.f113.body).bind (cc Tryd.prog Tryd.f113.ntmps A113) = some S113 := by kernel_rfl
def R113 : List RR := [.sl 4]
theorem cr113 : Tryd.f113.results.toList.map (crr Tryd.prog) = R113.map some := by kernel_rfl
theorem nm113 : (Tryd.f113.name == "runtime.NumGoroutine") = false := by kernel_rfl
theorem fn113 : Tryd.prog.funcs[113]? = some Tryd.f113 := by kernel_rfl
theorem bd113 : ∃ b, Tryd.f113.body = some b ∧ cc Tryd.prog Tryd.f113.ntmps A113 b = some S113 := Option.bind_eq_some_iff.1 cc113
theorem sd113 {G : World → Prop} {T : FuncId → Contract} {C : Contract} (hT : ∀ f, Sound G Tryd.prog f (T f)) (hl : C.lawful) (hC : ∀ args st K, C.wp args st K → args.length ≤ 9 ∧ ∃ os op, xv T st.n S113 (st0 args st) (retK R113 st.n os K) (panK st.n op K)) (hit : SoundIt G Tryd.prog 113 C.it := by exact SoundIt.none) : Sound G Tryd.prog 113 C := by
  obtain ⟨b, hb, hc⟩ := bd113
  rw [xv_eq] at hC
  exact sound_of_ev mo fn113 hb nm113 hc cr113 hT hl hit hC

/-! 146: slices.IndexFunc[[]redline/api.Mark,redline/api.Mark] -/
def A146 : Ann := ⟨fun _ _ => 0, fun _ => none, fun r => if r = 1 then some (false, [0, 1]) else if r = 4 then some (false, [0, 1, 5, 7, 8]) else none, fun r => if r = 2 then [0, 1, 7, 8] else []⟩
def S146 : SCode :=
  (.seq (.ops [⟨none, (some 4), .mv 4 (.k (Value.int .i64 0)), false⟩])
  (.seq (.seq (.seq (.keep [0, 1]) (.ops [⟨none, (some 6), .mv 6 (.s 0), false⟩,
    ⟨none, (some 7), .len 7 (.s 6), false⟩,
    ⟨none, (some 8), .mv 8 (.k (Value.int .i64 0)), false⟩]))
  (.block 0 (.loop [0, 1, 7, 8] (.seq (.ops [⟨none, (some 9), .bin 9 .lss (.s 8) (.s 7), false⟩])
  (.seq (.cond (.s 9) .skip (.exit 0))
  (.seq (.block 1 (.seq (.ops [⟨none, (some 10), .mv 10 (.s 8), false⟩,
    ⟨none, (some 5), .mv 5 (.s 10), false⟩])
  (.seq (.seq (.keep [0, 1, 5, 7, 8]) (.ops [⟨none, (some 11), .mv 11 (.s 1), false⟩,
    ⟨none, (some 12), .mv 12 (.s 0), false⟩,
    ⟨none, (some 13), .mv 13 (.s 5), false⟩,
    ⟨none, (some 14), .ia 14 2 (.s 12) (.s 13), false⟩,
    ⟨none, (some 15), .ld 15 true 2 (.s 14), false⟩,
    ⟨none, (some 16), .callv (some 16) false (.s 11) [(.s 15)], false⟩]))
  (.cond (.s 16) (.seq (.ops [⟨none, (some 17), .mv 17 (.s 5), false⟩,
    ⟨none, (some 4), .mv 4 (.s 17), false⟩])
  .ret) .skip))))
  (.ops [⟨none, (some 18), .binc 18 .add (.s 8) (.k (Value.int .i64 1)), false⟩,
    ⟨none, (some 8), .mv 8 (.s 18), false⟩])))))))
  (.seq (.ops [⟨none, (some 4), .mv 4 (.k (Value.int .i64 (-1))), false⟩])
  .ret)))
theorem cc146 : (Tryd.f146.body).bind (cc Tryd.prog Tryd.f146.ntmps A146) = some S146 := by kernel_rfl
def R146 : List RR := [.sl 4]
theorem cr146 : Tryd.f146.results.toList.map (crr Tryd.prog) = R146.map some := by kernel_rfl
theorem nm146 : (Tryd.f146.name == "runtime.NumGoroutine") = false := by kernel_rfl
theorem fn146 : Tryd.prog.funcs[146]? = some Tryd.f146 := by kernel_rfl
theorem bd146 : ∃ b, Tryd.f146.body = some b ∧ cc Tryd.prog Tryd.f146.ntmps A146 b = some S146 := Option.bind_eq_some_iff.1 cc146
theorem sd146 {G : World → Prop} {T : FuncId → Contract} {C : Contract} (hT : ∀ f, Sound G Tryd.prog f (T f)) (hl : C.lawful) (hC : ∀ args st K, C.wp args st K → args.length ≤ 19 ∧ ∃ os op, xv T st.n S146 (st0 args st) (retK R146 st.n os K) (panK st.n op K)) (hit : SoundIt G Tryd.prog 146 C.it := by exact SoundIt.none) : Sound G Tryd.prog 146 C := by
  obtain ⟨b, hb, hc⟩ := bd146
  rw [xv_eq] at hC
  exact sound_of_ev mo fn146 hb nm146 hc cr146 hT hl hit hC

end Go.Proofs.YtpbkdcfjlbdgfaaDoor
/- Iterators: functions that call yield, and neither write nor lay memory. -/
set_option linter.unusedVariables false
set_option linter.unusedSimpArgs false
namespace Go.Ev
open Go

/-- How an operation is looked at: a call of yield; a move that may be one of yield; others. -/
inductive ItK where
  | y (d : Option Nat) (t : Nat) (rs : List Rv)
  | m (d t : Nat)
  | p
def itK : SOp → ItK
  | .callv d _ (.s t) rs => .y d t rs
  | .mv d (.s t) => .m d t
  | _ => .p
def niO : Option Nat → List Nat → Prop
  | some k, yl => k ∉ yl
  | none, _ => True
theorem niO_ok {d : Option Nat} {yl : List Nat} (h : niO d yl) : ∀ k, d = some k → k ∉ yl := by
  rintro k rfl; exact h
/-- yl: slots that hold yield; md: so many rounds are done, or no more is wanted. -/
def itOps (T : FuncId → Contract) (xs : List (List SV)) : List GOp → List Nat → St → Option Nat → (List Nat → St → Option Nat → Prop) → Prop
  | [], yl, st, md, K => K yl st md
  | ⟨some _, _, _, _⟩ :: _, _, _, _, _ => False
  | ⟨none, d', s, _⟩ :: r, yl, st, md, K => match itK s with
    | .y d t rs => (t ∈ yl ∧ niO d yl) ∧ need md fun k => need xs[k]? fun x => (rs.map fun r => r.get st) = x ∧
        itOps T xs r yl (st.putO d (.d (.v (.bool true)))) (some (k + 1)) K ∧ itOps T xs r yl (st.putO d (.d (.v (.bool false)))) none K
    | .m d t => if t ∈ yl then itOps T xs r (d :: yl) (st.put d .any) md K else d ∉ yl ∧ itOps T xs r yl (st.put d (st.get t)) md K
    | .p => (isTk s = true ∧ niO d' yl) ∧ xStep T s st (fun st' => itOps T xs r yl st' md K) noP
abbrev IKs := Ex → List Nat → St → Option Nat → Prop
def itThen (K2 : List Nat → St → Option Nat → Prop) (K : IKs) : IKs
  | .normal, yl, st, md => K2 yl st md
  | e, yl, st, md => K e yl st md
def itBlk (id : Nat) (K : IKs) : IKs
  | .exit j, yl, st, md => if j = id then K .normal yl st md else K (.exit j) yl st md
  | e, yl, st, md => K e yl st md
@[irreducible] def itAgain (I : Nat → St → Option Nat → Prop) (ks yl0 : List Nat) (n : Nat) (yl : List Nat) (st : PSt I) (md : Option Nat) : Prop := (∀ t ∈ yl0, t ∈ yl) ∧ ∃ k, k < n ∧ I k (St.keep ks st) md
@[irreducible] def itLoop (body : List Nat → St → Option Nat → IKs → Prop) (ks yl : List Nat) (K : IKs) (st : PSt (body, K)) (md : Option Nat) : Prop :=
  ∃ (I : Nat → St → Option Nat → Prop) (n : Nat), I n (St.keep ks st) md ∧ ∀ n st md, I n st md → body yl st md (itThen (itAgain I ks yl n) K)
def itv (T : FuncId → Contract) (xs : List (List SV)) : SCode → List Nat → St → Option Nat → IKs → Prop
  | .skip, yl, st, md, K => K .normal yl st md
  | .ops l, yl, st, md, K => itOps T xs l yl st md (K .normal)
  | .keep ks, yl, st, md, K => K .normal yl (st.keep ks) md
  | .seq a b, yl, st, md, K => itv T xs a yl st md (itThen (fun yl' st' md' => itv T xs b yl' st' md' K) K)
  | .cond c t e, yl, st, md, K => match c.get st with
    | .d (.v (.bool b)) => (b = true → itv T xs t yl st md K) ∧ (b = false → itv T xs e yl st md K)
    | _ => False
  | .block id b, yl, st, md, K => itv T xs b yl st md (itBlk id K)
  | .loop ks b, yl, st, md, K => itLoop (itv T xs b) ks yl K st md
  | .exit id, yl, st, md, K => K (.exit id) yl st md
  | .ret, yl, st, md, K => K .ret yl st md
  | _, _, _, _, _ => False
@[congr] theorem itOps_congr {T : FuncId → Contract} {xs : List (List SV)} {l : List GOp} {yl yl' : List Nat} {st st' : St} {md md' : Option Nat} {K : List Nat → St → Option Nat → Prop} (h1 : yl = yl') (h2 : st = st') (h3 : md = md') : itOps T xs l yl st md K = itOps T xs l yl' st' md' K := by rw [h1, h2, h3]
@[congr] theorem itv_congr {T : FuncId → Contract} {xs : List (List SV)} {s : SCode} {yl yl' : List Nat} {st st' : St} {md md' : Option Nat} {K : IKs} (h1 : yl = yl') (h2 : st = st') (h3 : md = md') : itv T xs s yl st md K = itv T xs s yl' st' md' K := by rw [h1, h2, h3]
@[congr] theorem itThen_congr {K2 : List Nat → St → Option Nat → Prop} {K : IKs} {e : Ex} {yl yl' : List Nat} {st st' : St} {md md' : Option Nat} (h1 : yl = yl') (h2 : st = st') (h3 : md = md') : itThen K2 K e yl st md = itThen K2 K e yl' st' md' := by rw [h1, h2, h3]
@[congr] theorem itBlk_congr {id : Nat} {K : IKs} {e : Ex} {yl yl' : List Nat} {st st' : St} {md md' : Option Nat} (h1 : yl = yl') (h2 : st = st') (h3 : md = md') : itBlk id K e yl st md = itBlk id K e yl' st' md' := by rw [h1, h2, h3]
@[congr] theorem itLoop_congr {body : List Nat → St → Option Nat → IKs → Prop} {ks yl yl' : List Nat} {st st' : St} {md md' : Option Nat} {K : IKs} (h1 : yl = yl') (h2 : st = st') (h3 : md = md') : itLoop body ks yl K st md = itLoop body ks yl' K st' md' := by rw [h1, h2, h3]
@[congr] theorem itAgain_congr {I : Nat → St → Option Nat → Prop} {ks yl0 : List Nat} {n : Nat} {yl yl' : List Nat} {st st' : St} {md md' : Option Nat} (h1 : yl = yl') (h2 : st = st') (h3 : md = md') : itAgain I ks yl0 n yl st md = itAgain I ks yl0 n yl' st' md' := by rw [h1, h2, h3]
theorem itLoop_intro {body : List Nat → St → Option Nat → IKs → Prop} {ks yl : List Nat} {st : St} {md : Option Nat} {K : IKs} (I : Nat → St → Option Nat → Prop) (n : Nat) (h1 : I n (st.keep ks) md)
    (h2 : ∀ n st md, I n st md → body yl st md (itThen (itAgain I ks yl n) K)) : itLoop body ks yl K st md := by unfold itLoop; exact ⟨I, n, h1, h2⟩
theorem itAgain_intro {I : Nat → St → Option Nat → Prop} {ks yl0 : List Nat} {n : Nat} {yl : List Nat} {st : St} {md : Option Nat} (k : Nat) (h0 : ∀ t ∈ yl0, t ∈ yl) (h1 : k < n) (h2 : I k (st.keep ks) md) : itAgain I ks yl0 n yl st md := by
  unfold itAgain; exact ⟨h0, k, h1, h2⟩
theorem itKs : (∀ (K2 : List Nat → St → Option Nat → Prop) (K : IKs) yl st md, itThen K2 K .normal yl st md = K2 yl st md) ∧ (∀ (K2 : List Nat → St → Option Nat → Prop) (K : IKs) i yl st md, itThen K2 K (.exit i) yl st md = K (.exit i) yl st md) ∧ (∀ (K2 : List Nat → St → Option Nat → Prop) (K : IKs) yl st md, itThen K2 K .ret yl st md = K .ret yl st md) ∧
    (∀ id (K : IKs) yl st md, itBlk id K .normal yl st md = K .normal yl st md) ∧ (∀ id (K : IKs) yl st md, itBlk id K .ret yl st md = K .ret yl st md) ∧ (∀ id j (K : IKs) yl st md, itBlk id K (.exit j) yl st md = if j = id then K .normal yl st md else K (.exit j) yl st md) :=
  ⟨fun _ _ _ _ _ => rfl, fun _ _ _ _ _ _ => rfl, fun _ _ _ _ _ => rfl, fun _ _ _ _ _ => rfl, fun _ _ _ _ _ => rfl, fun _ _ _ _ _ _ => rfl⟩

section
variable {P : Program} {T : FuncId → Contract} {N l : Nat} {xs : List (List SV)} {S : Nat → Prop} {w : World} {J : Nat → World → Prop} {Jx : World → Prop}

/-- What stays readable. -/
def rdS (S : Nat → Prop) (w : World) : Rdr := fun a u => w.cell? a = some u ∧ S a.block
def WJ (J : Nat → World → Prop) (Jx : World → Prop) : Option Nat → World → Prop
  | some k, W => J k W
  | none, W => Jx W
structure IS (S : Nat → Prop) (w : World) (N l : Nat) (a : Act) (yl : List Nat) (st : St) : Prop where
  size : a.tmps.size = N
  defers : a.defers = []
  slots : SlOk (fun _ => undef) 0 (rdS S w) a st
  ob : st.ob = []
  n : st.n = 0
  yl : ∀ t ∈ yl, a.tmps.getD t undef = .func (.yield l) #[] #[]
structure Env (P : Program) (S : Nat → Prop) (w : World) (l : Nat) (xs : List (List SV)) (J : Nat → World → Prop) (Jx : World → Prop) : Prop where
  kept : ∀ md W, WJ J Jx md W → ∀ b, S b → b < w.heap.size → W.heap[b]? = w.heap[b]?
  yield : ∀ k W x ys, J k W → xs[k]? = some x → CnL (fun _ => undef) 0 (rdS S w) x ys → YieldAt Fence.wide 0 P l ys.toArray W fun e W' => (e = .returned (.bool true) ∧ J (k + 1) W') ∨ (e = .returned (.bool false) ∧ Jx W')
def LiftI (S : Nat → Prop) (w : World) (N l : Nat) (J : Nat → World → Prop) (Jx : World → Prop) (K : IKs) : Exit → Act → World → Prop
  | .normal, a, W => ∃ yl st md, K .normal yl st md ∧ IS S w N l a yl st ∧ WJ J Jx md W
  | .exit id, a, W => ∃ yl st md, K (.exit id) yl st md ∧ IS S w N l a yl st ∧ WJ J Jx md W
  | .ret, a, W => ∃ yl st md, K .ret yl st md ∧ IS S w N l a yl st ∧ WJ J Jx md W
  | _, _, _ => False

/-- Everything but what stays is hidden. -/
def hS (S : Nat → Prop) (n : Nat) (W : World) : Hd (fun _ => True) := ⟨fun b => b < W.heap.size ∧ ¬ (S b ∧ b < n), fun _ => False, fun _ h => h.elim, fun _ _ _ _ => trivial, 0⟩
theorem IS.sat {a : Act} {yl : List Nat} {st : St} {W : World} (h : IS S w N l a yl st) (hk : ∀ b, S b → b < w.heap.size → W.heap[b]? = w.heap[b]?) : Sat (hS S w.heap.size W) N W (fun _ => undef) (fun _ _ => False) a st := by
  refine ⟨h.size, by rw [h.defers]; exact Marks.nil _ _ _ _, fun k => ?_, ?_⟩
  · rw [h.n, h.ob]
    refine Cn_mono (Nat.le_refl _) (fun _ _ => rfl) (fun a u hu => ?_) _ _ (h.slots k)
    have hl := cell_lt hu.1
    refine ⟨by rw [World.cell?_of_block (hk _ hu.2 hl)]; exact hu.1, fun ⟨o, x, h1, _⟩ => by simp [lk] at h1, fun hh => hh.2 ⟨hu.2, hl⟩⟩
  · show SOk _ _ _ _ ⟨st.n, st.ob⟩
    rw [h.n, h.ob]
    exact SOk.empty (H := hS S w.heap.size W) (fun b hb => hb.1) trivial _ _
theorem vw_rdS {W : World} (hk : ∀ b, S b → b < w.heap.size → W.heap[b]? = w.heap[b]?) (a : Addr) (u : Value) (h : vw (hS S w.heap.size W) W (fun _ _ => False) [] a u) : rdS S w a u := by
  have hl := cell_lt h.1
  have : S a.block ∧ a.block < w.heap.size := Classical.byContradiction fun hn => h.2.2 ⟨hl, hn⟩
  exact ⟨by rw [← World.cell?_of_block (hk _ this.1 this.2)]; exact h.1, this.1⟩
theorem IS.put {a : Act} {yl : List Nat} {st : St} (h : IS S w N l a yl st) {d : Nat} (hd : d < N) (hy : d ∉ yl) {x : SV} {v : Value} (hx : Cn (fun _ => undef) 0 (rdS S w) x v) : IS S w N l (a.put (some d) v) yl (st.put d x) :=
  ⟨by simp [Act.put, h.size], h.defers, h.slots.put (by rw [h.size]; exact hd) hx, h.ob, h.n, fun t ht => by
    rw [getD_put _ _ _ _ (by rw [h.size]; exact hd)]
    rw [if_neg (fun (e : d = t) => hy (e ▸ ht))]; exact h.yl t ht⟩
theorem IS.putO {a : Act} {yl : List Nat} {st : St} (h : IS S w N l a yl st) {d : Option Nat} (hd : ∀ k, d = some k → k < N) (hy : ∀ k, d = some k → k ∉ yl) {x : SV} {v : Value} (hx : Cn (fun _ => undef) 0 (rdS S w) x v) : IS S w N l (a.put d v) yl (st.putO d x) := by
  cases d with
  | none => exact h
  | some d => exact h.put (hd d rfl) (hy d rfl) hx
theorem IS.keep {a : Act} {yl : List Nat} {st : St} (h : IS S w N l a yl st) {ks : List Nat} : IS S w N l a yl (st.keep ks) := by
  refine ⟨h.size, h.defers, fun k => ?_, h.ob, h.n, h.yl⟩
  have key : ∀ ks : List Nat, Cn (fun _ => undef) 0 (rdS S w) ((lk (ks.map fun k => (k, st.get k)) k).getD .any) (a.tmps.getD k undef) := by
    intro ks
    induction ks with
    | nil => simp [lk, Cn]
    | cons j r ih =>
      simp only [List.map_cons, lk_cons]
      by_cases e : j = k
      · subst e
        simp only [if_true, Option.getD_some]
        exact h.slots j
      · simp only [e, if_false]; exact ih
  exact key ks
theorem LiftI.notOut {K : IKs} : ¬ LetsOut (LiftI S w N l J Jx K) := fun ⟨_, _, h⟩ => h

theorem cop_callv {an : Nat} {o : Oper} {d : Option Nat} {lend : Bool} {x : Rv} {rs : List Rv} (h : cop P N an o = some (.callv d lend x rs)) : ∃ c, o.op = .call c ∧ copCall P N an c o.dst = some (.callv d lend x rs) := by
  unfold cop at h
  split at h
  all_goals first
    | exact ⟨_, by assumption, h⟩
    | (exfalso
       repeat' (first
         | (simp only [Option.ite_none_right_eq_some, Option.bind_eq_some_iff, Option.map_eq_some_iff, reduceCtorEq, and_false, exists_false, Option.some.injEq] at h; done)
         | (simp only [Option.ite_none_right_eq_some, Option.bind_eq_some_iff, Option.map_eq_some_iff] at h)
         | (obtain ⟨_, h⟩ := h)
         | split at h
         | cases h))
theorem copCall_callv {an : Nat} {c : Call} {d dst : Option Nat} {lend : Bool} {x : Rv} {rs : List Rv} (h : copCall P N an c dst = some (.callv d lend x rs)) : ∃ t, c.callee = .value (.tmp t) ∧ x = .s t ∧ d = dst ∧ (∀ k, d = some k → k < N) ∧ c.args.toList.map opn = rs.map some := by
  unfold copCall at h
  split at h
  all_goals first
    | (rename_i t ec
       obtain ⟨hd, h⟩ := Option.ite_none_right_eq_some.1 h
       obtain ⟨q, hq, hs⟩ := Option.map_eq_some_iff.1 h
       simp only [SOp.callv.injEq] at hs
       obtain ⟨hs1, hs2, hs3, hs4⟩ := hs
       subst hs1 hs3 hs4
       exact ⟨t, ec, rfl, rfl, fun k hk => by rw [hk] at hd; simpa using hd, mapM_some hq⟩)
    | (exfalso
       repeat' (first
         | (simp only [Option.ite_none_right_eq_some, Option.bind_eq_some_iff, Option.map_eq_some_iff, reduceCtorEq, and_false, exists_false, Option.some.injEq] at h; done)
         | (simp only [Option.ite_none_right_eq_some, Option.bind_eq_some_iff, Option.map_eq_some_iff] at h)
         | (obtain ⟨_, h⟩ := h)
         | split at h
         | cases h))
theorem opn_s {x : Operand} {t : Nat} (h : opn x = some (.s t)) : x = .tmp t := by
  unfold opn at h
  repeat' (first | (simp at h; done) | split at h)
  all_goals first | (simp at h; subst h; rfl) | (simp at h)
theorem cop_mv {an : Nat} {o : Oper} {d t : Nat} (h : cop P N an o = some (.mv d (.s t))) : o.dst = some d ∧ d < N ∧ ∀ (a : Act) (W : World), (execOp a.eval o).run P W = .ok (.value (a.tmps.getD t undef)) W := by
  unfold cop at h
  split at h
  case h_1 | h_2 =>
    rename_i x d' e1 e2
    obtain ⟨hd, h⟩ := Option.ite_none_right_eq_some.1 h
    split at h
    · obtain ⟨_, h⟩ := Option.ite_none_right_eq_some.1 h
      obtain ⟨_, _, h⟩ := Option.map_eq_some_iff.1 h
      cases h
    · obtain ⟨r, hr, h⟩ := Option.map_eq_some_iff.1 h
      simp only [SOp.mv.injEq] at h
      obtain ⟨rfl, rfl⟩ := h
      have := opn_s hr
      subst this
      exact ⟨e2, hd, fun a W => by simp [execOp, e1, Act.eval]⟩
  case h_26 =>
    rename_i c e
    exfalso
    unfold copCall at h
    repeat' (first
         | (simp only [Option.ite_none_right_eq_some, Option.bind_eq_some_iff, Option.map_eq_some_iff, reduceCtorEq, and_false, exists_false, Option.some.injEq] at h; done)
         | (simp only [Option.ite_none_right_eq_some, Option.bind_eq_some_iff, Option.map_eq_some_iff] at h)
         | (obtain ⟨_, h⟩ := h)
         | split at h
         | cases h)
  all_goals
      (exfalso
       repeat' (first
         | (simp only [Option.ite_none_right_eq_some, Option.bind_eq_some_iff, Option.map_eq_some_iff, reduceCtorEq, and_false, exists_false, Option.some.injEq] at h; done)
         | (simp only [Option.ite_none_right_eq_some, Option.bind_eq_some_iff, Option.map_eq_some_iff] at h)
         | (obtain ⟨_, h⟩ := h)
         | split at h
         | cases h))
theorem itOps_ok (he : Env P S w l xs J Jx) {an : Nat → Nat} {ops : Array Oper} (hnd : noDefer ops = true) {K : IKs} : ∀ (r : List Oper) (i : Nat) (gs : List GOp) (a : Act) (W : World) (yl : List Nat) (st : St) (md : Option Nat),
    cops P N an ops r i = some gs → (∀ j o, r[j]? = some o → ops[i + j]? = some o) → IS S w N l a yl st → WJ J Jx md W → itOps T xs gs yl st md (K .normal) →
    wpOpsIn Fence.wide 0 P ops (LiftI S w N l J Jx K) (List.range' i r.length) a W
  | [], i, gs, a, W, yl, st, md, hc, _, h, hJ, hK => by
    simp only [cops, Option.some.injEq] at hc; subst hc
    exact ⟨yl, st, md, hK, h, hJ⟩
  | o :: r, i, gs, a, W, yl, st, md, hc, hl, h, hJ, hK => by
    simp only [cops] at hc
    obtain ⟨g, hg, hc⟩ := Option.bind_eq_some_iff.1 hc
    obtain ⟨gs', hgs, rfl⟩ := Option.map_eq_some_iff.1 hc
    obtain ⟨h1, h2, h3, h4⟩ := gop_ok hg
    have ho : ops[i]? = some o := hl 0 o rfl
    have hl' : ∀ j o', r[j]? = some o' → ops[i + 1 + j]? = some o' := fun j o' hj => by
      have := hl (j + 1) o' (by simpa using hj)
      rwa [show i + (j + 1) = i + 1 + j by omega] at this
    simp only [List.length_cons, List.range'_succ, wpOpsIn, ho]
    obtain ⟨gg, gd', s, gb⟩ := g
    cases gg with
    | some p => exact hK.elim
    | none =>
      simp only [itOps] at hK
      rw [wanted_none h1]
      simp only [if_true]
      have ih := itOps_ok he (an := an) hnd (K := K) r (i + 1) gs'
      have hk := he.kept md W hJ
      have hsat := h.sat hk
      have hkx : ∀ x v, Cn (fun _ => undef) st.n (vw (hS S w.heap.size W) W (fun _ _ => False) st.ob) x v → Cn (fun _ => undef) 0 (rdS S w) x v := fun x v hx => by
        rw [h.n, h.ob] at hx
        exact Cn_mono (Nat.le_refl _) (fun _ _ => rfl) (vw_rdS hk) _ _ hx
      simp only at h2 h3 h4
      split at hK
      · -- yield
        rename_i d t rs es
        obtain ⟨⟨y1, y2⟩, hK⟩ := hK
        replace y2 := niO_ok y2
        obtain ⟨k, rfl, hK⟩ := need_ex hK
        replace hK : need xs[k]? fun x => _ := hK
        obtain ⟨x, ex, hK⟩ := need_ex hK
        obtain ⟨hx, kt, kf⟩ := hK
        obtain ⟨lend, rfl⟩ : ∃ lend, s = .callv d lend (.s t) rs := by
          unfold itK at es
          split at es <;> cases es
          exact ⟨_, rfl⟩
        obtain ⟨c, e0, hcc⟩ := cop_callv h2
        obtain ⟨t', e1, e2, rfl, e3, e4⟩ := copCall_callv hcc
        simp only [Rv.s.injEq] at e2; subst e2
        obtain ⟨args, ea⟩ : ∃ args, args = c.args.toList.map a.eval := ⟨_, rfl⟩
        have hargs : CnL (fun _ => undef) 0 (rdS S w) x args := by
          have := getL_ok hsat (xs := c.args.toList) e4
          rw [hx, ← ea, h.n, h.ob] at this
          exact CnL_mono (Nat.le_refl _) (fun _ _ => rfl) (vw_rdS hk) _ _ this
        obtain ⟨f, tmps, assign, body, hy, hr⟩ := he.yield k W x args hJ ex hargs
        have hrun : (execOp a.eval o).run P W = .ok (.round l f tmps assign body) W := by
          obtain ⟨cc, ca, ct⟩ := c
          simp only at e1 ea
          subst e1
          have hyl := h.yl t y1
          have : (a.eval (.tmp t)) = .func (.yield l) #[] #[] := hyl
          have hy2 : (Instr.yield l (ca.map a.eval)).run P W = .ok (.round l f tmps assign body) W := by
            rw [show ca.map a.eval = args.toArray by rw [ea]; apply Array.ext'; simp]; exact hy
          simp only [execOp, e0, resolve, this, Deferred.ofValue, invoke, Sem.run_bind, Sem.run_pure, Result.andThen_ok]
          simpa using hy2
        refine ⟨fun f _ => trivial, ?_⟩
        rw [Oper.semAt_plain Fence.wide a.eval o (noDefer_ok hnd i o ho), hrun, Oper.uponIn_round]
        refine ⟨fun hh => by simp [Fence.wide] at hh, hr.mono ?_⟩
        rintro e W' (⟨rfl, hJ'⟩ | ⟨rfl, hJ'⟩)
        · exact ih _ W' yl _ (some (k + 1)) hgs hl' (h.putO e3 y2 (Cn_dv rfl)) hJ' kt
        · exact ih _ W' yl _ none hgs hl' (h.putO e3 y2 (Cn_dv rfl)) hJ' kf
      · -- a move
        rename_i d t es
        obtain rfl : s = .mv d (.s t) := by
          unfold itK at es
          split at es <;> cases es
          rfl
        obtain ⟨m1, m2, m3⟩ := cop_mv h2
        refine opIn_of_op (.inl rfl) (noDefer_ok hnd i o ho) ?_
        unfold Oper.wp
        rw [m3, Oper.upon_value, m1]
        split at hK
        · rename_i hyt
          refine ih _ W (d :: yl) _ md hgs hl' ⟨by simp [Act.put, h.size], h.defers, h.slots.put (by rw [h.size]; exact m2) (by simp [Cn]), h.ob, h.n, fun t' ht' => ?_⟩ hJ hK
          rw [getD_put _ _ _ _ (by rw [h.size]; exact m2)]
          by_cases e : d = t'
          · rw [if_pos e]; exact h.yl t hyt
          · rw [if_neg e]
            exact h.yl t' ((List.mem_cons.1 ht').resolve_left fun hh => e hh.symm)
        · exact ih _ W yl _ md hgs hl' (h.put m2 hK.1 (h.slots t)) hJ hK.2
      · obtain ⟨⟨p1, p2⟩, hK⟩ := hK
        replace p2 := niO_ok p2
        rw [xStep_eq] at hK
        obtain ⟨d, q1, q2, x, v, q3, q4, q5⟩ := take_ok h2 hsat (xo := []) (tkC_ok p1 (by unfold tkC; split <;> trivial)) hK (XB := fun _ => False) (fun b hb => hb.elim)
        refine opIn_of_op (.inl rfl) (noDefer_ok hnd i o ho) ?_
        unfold Oper.wp
        rw [q5 W (fun _ _ _ => rfl), Oper.upon_value, q1]
        exact ih _ W yl _ md hgs hl' (h.put q2 (p2 d (h3.trans q1)) (hkx _ _ q4)) hJ q3

theorem itv_ok (he : Env P S w l xs J Jx) {A : Ann} : ∀ (c : Code) (s : SCode), cc P N A c = some s → flat c = true → ∀ (K : IKs) (a : Act) (W : World) (yl : List Nat) (st : St) (md : Option Nat),
    IS S w N l a yl st → WJ J Jx md W → itv T xs s yl st md K → c.wpIn Fence.wide 0 P (LiftI S w N l J Jx K) a W
  | .skip, s, hc, hfl, K, a, W, yl, st, md, h, hJ, hK => by
    simp only [cc, Option.some.injEq] at hc; subst hc
    exact wpIn_skip ⟨yl, st, md, hK, h, hJ⟩
  | .region id ops false, s, hc, hfl, K, a, W, yl, st, md, h, hJ, hK => by
    simp only [cc] at hc
    obtain ⟨hnd, hc⟩ := Option.ite_none_right_eq_some.1 hc
    obtain ⟨gs, hg, rfl⟩ := Option.map_eq_some_iff.1 hc
    have go : ∀ st, IS S w N l a yl st → itOps T xs gs yl st md (K .normal) → (Code.region id ops false).wpIn Fence.wide 0 P (LiftI S w N l J Jx K) a W := fun st h hK => by
      refine wpIn_region ?_
      have := itOps_ok he hnd ops.toList 0 gs a W yl st md hg (fun j o hj => by simpa using hj) h hJ hK
      rwa [Array.length_toList, ← List.range_eq_range'] at this
    unfold cutAt at hK
    split at hK
    · exact hK.elim
    · exact go _ h.keep hK
    · exact go _ h hK
  | .region id ops true, s, hc, hfl, K, a, W, yl, st, md, h, hJ, hK => by
    simp only [cc] at hc
    obtain ⟨p, hp, hc⟩ := Option.bind_eq_some_iff.1 hc
    obtain ⟨h1, hc⟩ := Option.ite_none_right_eq_some.1 hc
    obtain ⟨gs, hg, rfl⟩ := Option.map_eq_some_iff.1 hc
    unfold cutAt at hK
    split at hK <;> exact hK.elim
  | .seq x y, s, hc, hfl, K, a, W, yl, st, md, h, hJ, hK => by
    simp only [cc] at hc
    obtain ⟨sx, hx, hc⟩ := Option.bind_eq_some_iff.1 hc
    obtain ⟨sy, hy, rfl⟩ := Option.map_eq_some_iff.1 hc
    simp only [flat, Bool.and_eq_true] at hfl
    simp only [itv] at hK
    refine wpIn_seq (wpIn_mono (itv_ok he x sx hx hfl.1 _ a W yl st md h hJ hK) ?_)
    intro e a' W' hl
    cases e with
    | normal => obtain ⟨yl', st', md', k1, k2, k3⟩ := hl; exact itv_ok he y sy hy hfl.2 K a' W' yl' st' md' k2 k3 k1
    | exit id => exact hl
    | goto l => exact hl
    | ret => exact hl
    | panic ch => exact hl
    | outgrown => exact hl
  | .cond c x y, s, hc, hfl, K, a, W, yl, st, md, h, hJ, hK => by
    simp only [cc] at hc
    obtain ⟨r, hr, hc⟩ := Option.bind_eq_some_iff.1 hc
    obtain ⟨sx, hx, hc⟩ := Option.bind_eq_some_iff.1 hc
    obtain ⟨sy, hy, rfl⟩ := Option.map_eq_some_iff.1 hc
    simp only [flat, Bool.and_eq_true] at hfl
    simp only [itv] at hK
    have h1 := get_ok (h.sat (he.kept md W hJ)) hr
    split at hK
    · rename_i b e
      rw [e] at h1
      exact wpIn_cond_split (of_v h1) (fun hb => itv_ok he x sx hx hfl.1 K a W yl st md h hJ (hK.1 hb)) (fun hb => itv_ok he y sy hy hfl.2 K a W yl st md h hJ (hK.2 hb))
    · exact hK.elim
  | .block id x, s, hc, hfl, K, a, W, yl, st, md, h, hJ, hK => by
    simp only [cc] at hc
    obtain ⟨sx, hx, rfl⟩ := Option.map_eq_some_iff.1 hc
    simp only [itv] at hK
    refine wpIn_block (wpIn_mono (itv_ok he x sx hx hfl _ a W yl st md h hJ hK) ?_)
    intro e a' W' hl
    cases e with
    | normal => exact hl
    | exit j =>
      obtain ⟨yl', st', md', k1, k2⟩ := hl
      simp only [Exit.inBlock]
      simp only [itBlk] at k1
      by_cases e : j = id
      · simp only [e, if_true] at k1 ⊢; exact ⟨yl', st', md', k1, k2⟩
      · simp only [e, if_false] at k1 ⊢; exact ⟨yl', st', md', k1, k2⟩
    | goto l => exact hl
    | ret => exact hl
    | panic ch => exact hl
    | outgrown => exact hl
  | .loop x, s, hc, hfl, K, a, W, yl, st, md, h, hJ, hK => by
    simp only [cc] at hc
    obtain ⟨sx, hx, rfl⟩ := Option.map_eq_some_iff.1 hc
    simp only [itv] at hK
    unfold itLoop at hK
    obtain ⟨I, n, h0, hr⟩ := hK
    refine wpIn_loop_I (I := fun n a W => ∃ st md, I n st md ∧ IS S w N l a yl st ∧ WJ J Jx md W) ?_ (n := n) ⟨_, md, h0, h.keep, hJ⟩
    rintro n a W ⟨st, md, k1, k2, k3⟩
    refine wpIn_mono (itv_ok he x sx hx hfl _ a W yl st md k2 k3 (hr n st md k1)) ?_
    intro e a' W' hl
    cases e with
    | normal =>
      obtain ⟨yl', st', md', q1, q2, q3⟩ := hl
      simp only [itThen] at q1
      unfold itAgain at q1
      obtain ⟨r1, k, r2, r3⟩ := q1
      have q4 := q2.keep (ks := A.lp ((firstReg x).getD 0))
      exact ⟨k, r2, _, md', r3, ⟨q4.size, q4.defers, q4.slots, q4.ob, q4.n, fun t ht => q4.yl t (r1 t ht)⟩, q3⟩
    | exit id => exact hl
    | goto l => exact hl
    | ret => exact hl
    | panic ch => exact hl
    | outgrown => exact hl
  | .exit id, s, hc, hfl, K, a, W, yl, st, md, h, hJ, hK => by
    simp only [cc, Option.some.injEq] at hc; subst hc
    exact wpIn_exit ⟨yl, st, md, hK, h, hJ⟩
  | .ret, s, hc, hfl, K, a, W, yl, st, md, h, hJ, hK => by
    simp only [cc, Option.some.injEq] at hc; subst hc
    exact wpIn_ret ⟨yl, st, md, hK, h, hJ⟩
  | .rangeFunc _ _ _ _, s, hc, hfl, K, a, W, yl, st, md, h, hJ, hK => by simp [flat] at hfl
  | .scope _, s, hc, hfl, K, a, W, yl, st, md, h, hJ, hK => by simp [flat] at hfl
  | .label _, s, hc, hfl, K, a, W, yl, st, md, h, hJ, hK => by
    simp only [cc, Option.some.injEq] at hc; subst hc
    exact wpIn_label ⟨yl, st, md, hK, h, hJ⟩
  | .goto _, s, hc, hfl, K, a, W, yl, st, md, h, hJ, hK => by
    simp only [cc, Option.some.injEq] at hc; subst hc
    exact hK.elim
  | .refuse _, s, hc, _, _, _, _, _, _, _, _, _, _ => by simp [cc] at hc
end

def itEnd (n : Nat) : IKs
  | .exit _, _, _, _ => False
  | _, _, _, md => md = some n ∨ md = none
/-- AN ITERATOR, by its compiled code. -/
theorem soundIt_of_itv {G : World → Prop} {P : Program} {T : FuncId → Contract} {f : FuncId} {fn : Func} {body : Code} {s : SCode} (hf : P.funcs[f]? = some fn) (hb : fn.body = some body) (hn : (fn.name == "runtime.NumGoroutine") = false)
    {A : Ann} (hc : cc P fn.ntmps A body = some s) (hfl : flat body = true) (hr : fn.results = #[]) {it : List D → Option (Prop × List (List SV))}
    (h : ∀ cs p xs, it cs = some (p, xs) → p → cs.length + 1 ≤ fn.ntmps ∧ itv T xs s [0] ⟨slots0 (.any :: cs.map .d) 0, 0, []⟩ (some 0) (itEnd xs.length)) : SoundIt G P f it := by
  intro S w cs vs p xs l J Jx hit hp hcs hJk hJxk _ _ hy hJ0
  obtain ⟨hlen, hv⟩ := h cs p xs hit hp
  refine ⟨⟨fn, hf, by rw [hb]; rfl, hn⟩, ?_⟩
  have hvl := RdL_length hcs
  refine callsIn_of_wp hf hb trivial ?_
  have he : Env P S w l xs J Jx := ⟨fun md W hW => by
    cases md with
    | none => exact hJxk W hW
    | some k => exact (hJk k W hW).2, hy⟩
  refine wpIn_mono (itv_ok he body s hc hfl (itEnd xs.length) _ w [0] _ (some 0) ?_ hJ0 hv) ?_
  · have hsz : (#[Value.func (.yield l) #[] #[]] ++ vs.toArray).size = cs.length + 1 := by simp [hvl, Nat.add_comm]
    refine ⟨by simp [hvl]; omega, rfl, fun k => ?_, rfl, rfl, fun t ht => ?_⟩
    · have hC : CnL (fun _ => undef) 0 (rdS S w) (.any :: cs.map .d) (Value.func (.yield l) #[] #[] :: vs) := by
        simp only [CnL]; exact ⟨trivial, CnL_of_RdL hcs⟩
      simp only [St.get, slots0_lk, Nat.zero_le, if_true, Nat.sub_zero]
      cases e : (SV.any :: cs.map SV.d)[k]? with
      | none => simp [Cn]
      | some x =>
        obtain ⟨v, hv, hx⟩ := CnL_get hC e
        have hk : k < vs.length + 1 := by have := (List.getElem?_eq_some_iff.1 hv).1; simpa using this
        have : (#[Value.func (.yield l) #[] #[]] ++ vs.toArray ++ Array.replicate (fn.ntmps - (#[Value.func (.yield l) #[] #[]] ++ vs.toArray).size) undef).getD k undef = v := by
          rw [Array.getD_eq_getD_getElem?, Array.getElem?_append_left (by rw [hsz]; omega)]
          have : (#[Value.func (.yield l) #[] #[]] ++ vs.toArray) = (Value.func (.yield l) #[] #[] :: vs).toArray := by apply Array.ext'; simp
          rw [this]; simp [hv]
        rw [this]; exact hx
    · simp only [List.mem_singleton] at ht; subst ht
      rw [Array.getD_eq_getD_getElem?, Array.getElem?_append_left (by rw [hsz]; omega), Array.getElem?_append_left (by simp)]
      rfl
  · have fin : ∀ (a : Act) (W : World) (yl : List Nat) (st : St) (md : Option Nat), (md = some xs.length ∨ md = none) → IS S w fn.ntmps l a yl st → WJ J Jx md W →
        a.defers = [] ∧ ∃ v, (results fn a.tmps).run P W = .ok v W ∧ ((∃ v', Ending.returned v = .returned v') ∧ (J xs.length W ∨ Jx W)) := by
      intro a W yl st md h1 h2 h3
      refine ⟨h2.defers, .tuple #[], by rw [results_eq, hr]; simp [Sem.run_bind, Sem.run_pure], ⟨_, rfl⟩, ?_⟩
      rcases h1 with rfl | rfl
      · exact .inl h3
      · exact .inr h3
    intro e a W hl
    cases e with
    | normal => obtain ⟨yl, st, md, k1, k2, k3⟩ := hl; exact fin a W yl st md k1 k2 k3
    | ret => obtain ⟨yl, st, md, k1, k2, k3⟩ := hl; exact fin a W yl st md k1 k2 k3
    | exit id => obtain ⟨yl, st, md, k1, k2, k3⟩ := hl; exact k1.elim
    | goto l => exact hl.elim
    | panic ch => exact hl.elim
    | outgrown => exact hl.elim
end Go.Ev
set_option linter.unusedVariables false
set_option linter.unusedSimpArgs false
namespace Go.Proofs.YtpbkdcfjlbdgfaaDoor
open Go Go.Ev
set_option maxRecDepth 100000
variable {G : World → Prop}
/-- A line of a hunk: its sign, its text. -/
abbrev Mk := Int × List UInt8
def mkRow (m : Mk) : List D := [.v (.int .u8 m.1), .v (.string ⟨m.2.toArray⟩)]
def mkRows (l : List Mk) : List (List D) := l.map mkRow
abbrev mk0 : Mk := (0, [])
theorem mkRows_len (l : List Mk) : (mkRows l).length = l.length := by simp [mkRows]
theorem mkRows_get {l : List Mk} {i : Nat} (h : i < l.length) : (mkRows l)[i]? = some (mkRow (l.getD i mk0)) := by
  simp [mkRows, List.getD_eq_getElem?_getD, List.getElem?_eq_getElem h]
theorem mkRows_getD {l : List Mk} {i : Nat} (h : i < l.length) : (mkRows l).getD i [] = mkRow (l.getD i mk0) := by rw [List.getD_eq_getElem?_getD, mkRows_get h]; rfl
theorem mkRows_all (l : List Mk) : (∀ r ∈ mkRows l, r.length = 2) = True := by
  refine eq_true fun r hr => ?_
  obtain ⟨m, _, rfl⟩ := List.mem_map.1 hr
  rfl
theorem mkRows_app (l r : List Mk) : mkRows l ++ mkRows r = mkRows (l ++ r) := by simp [mkRows]
theorem mkRows_nil : ([] : List (List D)) = mkRows [] := rfl
def unMk : List (List D) → Option (List Mk)
  | [] => some []
  | [.v (.int .u8 s), .v (.string t)] :: r => (unMk r).map ((s, t.data.toList) :: ·)
  | _ => none
theorem unMk_rows : ∀ l : List Mk, unMk (mkRows l) = some l
  | [] => rfl
  | m :: r => by
    have := unMk_rows r
    unfold mkRows at this
    simp [mkRows, mkRow, unMk, this]
theorem unMk_eq : ∀ {rows : List (List D)} {l : List Mk}, unMk rows = some l → rows = mkRows l
  | [], l, h => by simp only [unMk, Option.some.injEq] at h; subst h; rfl
  | x :: r, l, h => by
    unfold unMk at h
    split at h
    · rename_i e; cases e
    · rename_i s t r' e
      simp only [List.cons.injEq] at e
      obtain ⟨rfl, rfl⟩ := e
      obtain ⟨m, h1, rfl⟩ := Option.map_eq_some_iff.1 h
      rw [unMk_eq h1]
      simp [mkRows, mkRow]
    · cases h
theorem mk_mem {l : List Mk} {i : Nat} (h : i < l.length) : l.getD i mk0 ∈ l := by simp [List.getD_eq_getElem?_getD, List.getElem?_eq_getElem h]
theorem mk_drop {l : List Mk} {i : Nat} (h : i < l.length) : l.drop i = l.getD i mk0 :: l.drop (i + 1) := by
  rw [List.drop_eq_getElem_cons h]; simp [List.getD_eq_getElem?_getD, List.getElem?_eq_getElem h]
theorem mk_take {l : List Mk} {i : Nat} (h : i < l.length) : l.take (i + 1) = l.take i ++ [l.getD i mk0] := by
  rw [List.take_succ_eq_append_getElem h]; simp [List.getD_eq_getElem?_getD, List.getElem?_eq_getElem h]
/-- Numbers that a hunk may have. -/
def CNum : Contract := pureC fun args => match args with
  | [.d (.v (.int .i64 n))] => some (True, .d (.v (.bool (cntB n))))
  | _ => none
theorem s109 : Sound G Tryd.prog 109 CNum := by
  refine sd109 (T := tabT []) tab_nil (pureC_lawful _) (pure_hX fun args p x K h hp hk => ?_)
  split at h <;> simp only [Option.some.injEq, Prod.mk.injEq, reduceCtorEq] at h
  obtain ⟨rfl, rfl⟩ := h
  refine ⟨Nat.le_of_ble_eq_true rfl, ?_⟩
  simp -dsimp -implicitDefEqProofs only [S109, R109, ↓Ev.xStp_eq, ↓Ev.P, Ev.Q, eq_self, forall_eq_or_imp, implies_true, forall_const, forall_eq, ↓reduceIte, reduceIte, Nat.reduceEqDiff, Nat.reduceAdd, reduceCtorEq, Nat.reduceSub, Int.reduceToNat, Int.reduceLE, Int.reduceLT, Int.reduceNeg, Nat.reduceBEq, Nat.reduceMul, Nat.reduceLeDiff, Nat.reduceMod, UInt8.reduceOfNat, Nat.reduceLT, Int.reduceEq, Int.reduceAdd, Int.reduceSub, Int.reduceMul]
  exact hk
theorem s149 : Sound G Tryd.prog 149 CNum := by
  refine sd149 (T := tabT []) tab_nil (pureC_lawful _) (pure_hX fun args p x K h hp hk => ?_)
  split at h <;> simp only [Option.some.injEq, Prod.mk.injEq, reduceCtorEq] at h
  obtain ⟨rfl, rfl⟩ := h
  refine ⟨Nat.le_of_ble_eq_true rfl, ?_⟩
  simp -dsimp -implicitDefEqProofs only [S149, R149, ↓Ev.xStp_eq, ↓Ev.P, Ev.Q, eq_self, forall_eq_or_imp, implies_true, forall_const, forall_eq, ↓reduceIte, reduceIte, Nat.reduceEqDiff, Nat.reduceAdd, reduceCtorEq, Nat.reduceSub, Int.reduceToNat, Int.reduceLE, Int.reduceLT, Int.reduceNeg, Nat.reduceBEq, Nat.reduceMul, Nat.reduceLeDiff, Nat.reduceMod, UInt8.reduceOfNat, Nat.reduceLT, Int.reduceEq, Int.reduceAdd, Int.reduceSub, Int.reduceMul]
  exact hk
/-- Is a text a line, and does it have its line feed? -/
def lineQ (s : List UInt8) : Bool × Bool := if s = [] ∨ 10 ∈ s.dropLast then (false, false) else (true, decide (s.getLast? = some 10))
def CLineQ : Contract := pureC fun args => match args with
  | [.d (.v (.string s))] => some (s.size ≤ 1099511627776, .tup [.d (.v (.bool (lineQ s.data.toList).1)), .d (.v (.bool (lineQ s.data.toList).2))])
  | _ => none
theorem u8lit (b : UInt8) : (((b.toNat : Nat) : Int) = 10) = (b = 10) := by
  rw [eq_iff_iff]
  constructor
  · intro h; apply UInt8.toNat_inj.1; simp; omega
  · rintro rfl; rfl
theorem s174 : Sound G Tryd.prog 174 CLineQ := by
  refine sd174 (T := tabT []) tab_nil (pureC_lawful _) (pure_hX fun args p x K h hp hk => ?_)
  split at h <;> simp only [Option.some.injEq, Prod.mk.injEq, reduceCtorEq] at h
  obtain ⟨rfl, rfl⟩ := h
  refine ⟨Nat.le_of_ble_eq_true rfl, ?_⟩
  rename_i s
  obtain ⟨s, rfl⟩ := ex_str s
  simp only [sem_str] at hk hp
  by_cases h0 : s = []
  · subst h0
    simp -dsimp -implicitDefEqProofs only [S174, R174, ↓Ev.xStp_eq, ↓Ev.P, Ev.Q, eq_self, forall_eq_or_imp, implies_true, forall_const, forall_eq, ↓reduceIte, reduceIte, Nat.reduceEqDiff, Nat.reduceAdd, reduceCtorEq, Nat.reduceSub, Int.reduceToNat, Int.reduceLE, Int.reduceLT, Int.reduceNeg, Nat.reduceBEq, Nat.reduceMul, Nat.reduceLeDiff, Nat.reduceMod, UInt8.reduceOfNat, Nat.reduceLT, Int.reduceEq, Int.reduceAdd, Int.reduceSub, Int.reduceMul]
    exact hk
  · have hl : 0 < s.length := List.length_pos_iff.2 h0
    have hne : ¬ (s.length : Int) = 0 := by omega
    simp -dsimp -implicitDefEqProofs only [S174, R174, hne, ↓Ev.xStp_eq, ↓Ev.P, Ev.Q, eq_self, forall_eq_or_imp, implies_true, forall_const, forall_eq, ↓reduceIte, reduceIte, Nat.reduceEqDiff, Nat.reduceAdd, reduceCtorEq, Nat.reduceSub, Int.reduceToNat, Int.reduceLE, Int.reduceLT, Int.reduceNeg, Nat.reduceBEq, Nat.reduceMul, Nat.reduceLeDiff, Nat.reduceMod, UInt8.reduceOfNat, Nat.reduceLT, Int.reduceEq, Int.reduceAdd, Int.reduceSub, Int.reduceMul]
    refine xLoop_intro (fun n st => ∃ i : Nat, i ≤ s.length - 1 ∧ n = s.length - i ∧ (∀ j, j < i → ¬ s.getD j 0 = 10) ∧
      st = ⟨[(0, .d (.v (.string ⟨s.toArray⟩))), (4, .d (.v (.int .i64 i)))], 0, []⟩) s.length [] ?_ ?_ ?_
    · simp -dsimp -implicitDefEqProofs only [↓Ev.xStp_eq, ↓Ev.P, Ev.Q, eq_self, forall_eq_or_imp, implies_true, forall_const, forall_eq, ↓reduceIte, reduceIte, Nat.reduceEqDiff, Nat.reduceAdd, reduceCtorEq, Nat.reduceSub, Int.reduceToNat, Int.reduceLE, Int.reduceLT, Int.reduceNeg, Nat.reduceBEq, Nat.reduceMul, Nat.reduceLeDiff, Nat.reduceMod, UInt8.reduceOfNat, Nat.reduceLT, Int.reduceEq, Int.reduceAdd, Int.reduceSub, Int.reduceMul]
    · simp -dsimp -implicitDefEqProofs only [↓Ev.xStp_eq, ↓Ev.P, Ev.Q, eq_self, forall_eq_or_imp, implies_true, forall_const, forall_eq, ↓reduceIte, reduceIte, Nat.reduceEqDiff, Nat.reduceAdd, reduceCtorEq, Nat.reduceSub, Int.reduceToNat, Int.reduceLE, Int.reduceLT, Int.reduceNeg, Nat.reduceBEq, Nat.reduceMul, Nat.reduceLeDiff, Nat.reduceMod, UInt8.reduceOfNat, Nat.reduceLT, Int.reduceEq, Int.reduceAdd, Int.reduceSub, Int.reduceMul]
      exact ⟨0, by omega, by omega, fun _ h => by omega, rfl⟩
    · rintro n st ⟨i, hi, hn, hj, rfl⟩
      by_cases hil : i < s.length - 1
      · have hi3 : (i : Int) < (s.length : Int) - 1 := by omega
        simp -dsimp -implicitDefEqProofs only [hi3, u8lit, ↓Ev.xStp_eq, ↓Ev.P, Ev.Q, eq_self, forall_eq_or_imp, implies_true, forall_const, forall_eq, ↓reduceIte, reduceIte, Nat.reduceEqDiff, Nat.reduceAdd, reduceCtorEq, Nat.reduceSub, Int.reduceToNat, Int.reduceLE, Int.reduceLT, Int.reduceNeg, Nat.reduceBEq, Nat.reduceMul, Nat.reduceLeDiff, Nat.reduceMod, UInt8.reduceOfNat, Nat.reduceLT, Int.reduceEq, Int.reduceAdd, Int.reduceSub, Int.reduceMul]
        repeat' (first | with_reducible assumption | refine And.intro ?_ ?_ | intro _)
        all_goals try omega
        · rename_i hx
          have : lineQ s = (false, false) := by
            rw [lineQ, if_pos]
            refine .inr ?_
            have hd : i < s.dropLast.length := by simp; omega
            have : s.dropLast[i] = 10 := by
              rw [List.getElem_dropLast]
              rw [List.getD_eq_getElem?_getD, List.getElem?_eq_getElem (by omega)] at hx
              simpa using hx
            rw [← this]; exact List.getElem_mem hd
          rw [this] at hk; exact hk
        · rename_i hx
          refine xAgain_intro (s.length - (i + 1)) [] (by omega) (by simp -dsimp -implicitDefEqProofs only [↓Ev.xStp_eq, ↓Ev.P, Ev.Q, eq_self, forall_eq_or_imp, implies_true, forall_const, forall_eq, ↓reduceIte, reduceIte, Nat.reduceEqDiff, Nat.reduceAdd, reduceCtorEq, Nat.reduceSub, Int.reduceToNat, Int.reduceLE, Int.reduceLT, Int.reduceNeg, Nat.reduceBEq, Nat.reduceMul, Nat.reduceLeDiff, Nat.reduceMod, UInt8.reduceOfNat, Nat.reduceLT, Int.reduceEq, Int.reduceAdd, Int.reduceSub, Int.reduceMul]) ⟨i + 1, by omega, rfl, fun j h => ?_, ?_⟩
          · by_cases e : j = i
            · subst e; exact hx
            · exact hj j (by omega)
          · simp -dsimp -implicitDefEqProofs only [↓Ev.xStp_eq, ↓Ev.P, Ev.Q, eq_self, forall_eq_or_imp, implies_true, forall_const, forall_eq, ↓reduceIte, reduceIte, Nat.reduceEqDiff, Nat.reduceAdd, reduceCtorEq, Nat.reduceSub, Int.reduceToNat, Int.reduceLE, Int.reduceLT, Int.reduceNeg, Nat.reduceBEq, Nat.reduceMul, Nat.reduceLeDiff, Nat.reduceMod, UInt8.reduceOfNat, Nat.reduceLT, Int.reduceEq, Int.reduceAdd, Int.reduceSub, Int.reduceMul]
            rfl
      · have hi3 : ¬ (i : Int) < (s.length : Int) - 1 := by omega
        have hlast : ((s.length : Int) - 1).toNat = s.length - 1 := by omega
        simp -dsimp -implicitDefEqProofs only [hi3, hlast, u8lit, ↓Ev.xStp_eq, ↓Ev.P, Ev.Q, eq_self, forall_eq_or_imp, implies_true, forall_const, forall_eq, ↓reduceIte, reduceIte, Nat.reduceEqDiff, Nat.reduceAdd, reduceCtorEq, Nat.reduceSub, Int.reduceToNat, Int.reduceLE, Int.reduceLT, Int.reduceNeg, Nat.reduceBEq, Nat.reduceMul, Nat.reduceLeDiff, Nat.reduceMod, UInt8.reduceOfNat, Nat.reduceLT, Int.reduceEq, Int.reduceAdd, Int.reduceSub, Int.reduceMul]
        repeat' (first | with_reducible assumption | refine And.intro ?_ ?_ | intro _)
        all_goals try omega
        have : lineQ s = (true, decide (s.getD (s.length - 1) 0 = 10)) := by
          rw [lineQ, if_neg]
          · congr 1
            rw [List.getLast?_eq_getElem?, List.getD_eq_getElem?_getD, List.getElem?_eq_getElem (by omega)]
            simp
          · rintro (h | h)
            · exact h0 h
            · obtain ⟨j, hj2, e⟩ := List.getElem_of_mem h
              simp only [List.length_dropLast] at hj2
              refine hj j (by omega) ?_
              rw [List.getElem_dropLast] at e
              rw [List.getD_eq_getElem?_getD, List.getElem?_eq_getElem (by omega)]
              simpa using e
        rw [this] at hk; exact hk
end Go.Proofs.YtpbkdcfjlbdgfaaDoor
set_option linter.unusedVariables false
set_option linter.unusedSimpArgs false
namespace Go.Proofs.YtpbkdcfjlbdgfaaDoor
open Go Go.Ev
set_option maxRecDepth 100000
variable {G : World → Prop}
/-- The texts of the lines with one of two signs. -/
def pickT (s : Int) (l : List Mk) : List (List UInt8) := (l.filter fun m => decide (m.1 = s) || decide (m.1 = 32)).map (·.2)
theorem pick_snoc (s : Int) {l : List Mk} {i : Nat} (h : i < l.length) : pickT s (l.take (i + 1)) = pickT s (l.take i) ++ (if (l.getD i mk0).1 = s ∨ (l.getD i mk0).1 = 32 then [(l.getD i mk0).2] else []) := by
  rw [mk_take h, pickT, List.filter_append, List.map_append]
  generalize l.getD i mk0 = m
  by_cases h1 : m.1 = s ∨ m.1 = 32
  · rw [if_pos h1]
    have : (decide (m.1 = s) || decide (m.1 = 32)) = true := by simpa using h1
    simp [pickT, this]
  · rw [if_neg h1]
    have : (decide (m.1 = s) || decide (m.1 = 32)) = false := by simpa using h1
    simp [pickT, this]
theorem pick_len (s : Int) (l : List Mk) : (pickT s l).length ≤ l.length := by
  rw [pickT, List.length_map]; exact List.length_filter_le _ _
theorem pick_take_len (s : Int) (l : List Mk) (i : Nat) (h : i ≤ l.length) : (pickT s (l.take i)).length ≤ i := by
  have := pick_len s (l.take i)
  rw [List.length_take] at this
  omega
theorem strRows_one (a : List (List UInt8)) (x : List UInt8) : strRows a ++ [[.v (.string ⟨x.toArray⟩)]] = strRows (a ++ [x]) := by simp [strRows]
def CPick : Contract := stC fun args st => match args, st with
  | [.agg [.d (.v (.int .i64 A)), .d (.v (.int .i64 AN)), .d (.v (.int .i64 B)), .d (.v (.int .i64 BN)), .d (.sl rows)], .d (.v (.int .u8 s))], ⟨0, []⟩ => (unMk rows).map fun l => (l.length ≤ 1099511627776, .own 0, ⟨1, [(0, .row 9 1 (strRows (pickT s l)))]⟩)
  | _, _ => none
/-- Old lines (sign 45), new ones (43). -/
def COld (s : Int) : Contract := stC fun args st => match args, st with
  | [.agg [.d (.v (.int .i64 A)), .d (.v (.int .i64 AN)), .d (.v (.int .i64 B)), .d (.v (.int .i64 BN)), .d (.sl rows)]], ⟨0, []⟩ => (unMk rows).map fun l => (l.length ≤ 1099511627776, .own 0, ⟨1, [(0, .row 9 1 (strRows (pickT s l)))]⟩)
  | _, _ => none
theorem s145 : Sound G Tryd.prog 145 CPick := by
  refine sd145 (T := tabT []) tab_nil (stC_lawful _) (st_hX fun args st p x st' K h hp hk => ?_)
  split at h <;> simp only [Option.map_eq_some_iff, Prod.mk.injEq, reduceCtorEq] at h
  obtain ⟨l, hl, rfl, rfl, rfl⟩ := h
  rw [unMk_eq hl] at *
  rename_i A AN B BN rows s
  refine ⟨Nat.le_of_ble_eq_true rfl, [0], ?_⟩
  simp -dsimp -implicitDefEqProofs only [S145, R145, mkRows_len, ↓Ev.xStp_eq, ↓Ev.P, Ev.Q, eq_self, forall_eq_or_imp, implies_true, forall_const, forall_eq, ↓reduceIte, reduceIte, Nat.reduceEqDiff, Nat.reduceAdd, reduceCtorEq, Nat.reduceSub, Int.reduceToNat, Int.reduceLE, Int.reduceLT, Int.reduceNeg, Nat.reduceBEq, Nat.reduceMul, Nat.reduceLeDiff, Nat.reduceMod, UInt8.reduceOfNat, Nat.reduceLT, Int.reduceEq, Int.reduceAdd, Int.reduceSub, Int.reduceMul]
  refine xLoop_intro (fun n st => ∃ i : Nat, i ≤ l.length ∧ n = l.length - i ∧
      st = ⟨[(1, .d (.v (.int .u8 s))), (5, .own 0), (9, .d (.sl (mkRows l))), (10, .d (.v (.int .i64 l.length))), (11, .d (.v (.int .i64 i)))], 1, [(0, .row 9 1 (strRows (pickT s (l.take i))))]⟩) l.length [1] ?_ ?_ ?_
  · simp -dsimp -implicitDefEqProofs only [↓Ev.xStp_eq, ↓Ev.P, Ev.Q, eq_self, forall_eq_or_imp, implies_true, forall_const, forall_eq, ↓reduceIte, reduceIte, Nat.reduceEqDiff, Nat.reduceAdd, reduceCtorEq, Nat.reduceSub, Int.reduceToNat, Int.reduceLE, Int.reduceLT, Int.reduceNeg, Nat.reduceBEq, Nat.reduceMul, Nat.reduceLeDiff, Nat.reduceMod, UInt8.reduceOfNat, Nat.reduceLT, Int.reduceEq, Int.reduceAdd, Int.reduceSub, Int.reduceMul]
  · simp -dsimp -implicitDefEqProofs only [↓Ev.xStp_eq, ↓Ev.P, Ev.Q, eq_self, forall_eq_or_imp, implies_true, forall_const, forall_eq, ↓reduceIte, reduceIte, Nat.reduceEqDiff, Nat.reduceAdd, reduceCtorEq, Nat.reduceSub, Int.reduceToNat, Int.reduceLE, Int.reduceLT, Int.reduceNeg, Nat.reduceBEq, Nat.reduceMul, Nat.reduceLeDiff, Nat.reduceMod, UInt8.reduceOfNat, Nat.reduceLT, Int.reduceEq, Int.reduceAdd, Int.reduceSub, Int.reduceMul]
    exact ⟨0, by omega, by omega, by simp [pickT, strRows]⟩
  · rintro n st ⟨i, hi, hn, rfl⟩
    by_cases hil : i < l.length
    · have hi3 : (i : Int) < l.length := by omega
      have hg := mkRows_get hil
      have hsn := pick_snoc s hil
      have hpl := pick_take_len s l i hi
      generalize l.getD i mk0 = m at hg hsn
      obtain ⟨c, t⟩ := m
      simp only at hsn
      by_cases hc : c = s
      · subst hc
        rw [if_pos (.inl rfl)] at hsn
        simp -dsimp -implicitDefEqProofs only [hg, hi3, mkRow, strRows_len, strRows_one, ↓Ev.xStp_eq, ↓Ev.P, Ev.Q, eq_self, forall_eq_or_imp, implies_true, forall_const, forall_eq, ↓reduceIte, reduceIte, Nat.reduceEqDiff, Nat.reduceAdd, reduceCtorEq, Nat.reduceSub, Int.reduceToNat, Int.reduceLE, Int.reduceLT, Int.reduceNeg, Nat.reduceBEq, Nat.reduceMul, Nat.reduceLeDiff, Nat.reduceMod, UInt8.reduceOfNat, Nat.reduceLT, Int.reduceEq, Int.reduceAdd, Int.reduceSub, Int.reduceMul]
        repeat' (first | with_reducible assumption | refine And.intro ?_ ?_ | intro _)
        all_goals try omega
        refine xAgain_intro (l.length - (i + 1)) [3] (by omega) (by simp -dsimp -implicitDefEqProofs only [↓Ev.xStp_eq, ↓Ev.P, Ev.Q, eq_self, forall_eq_or_imp, implies_true, forall_const, forall_eq, ↓reduceIte, reduceIte, Nat.reduceEqDiff, Nat.reduceAdd, reduceCtorEq, Nat.reduceSub, Int.reduceToNat, Int.reduceLE, Int.reduceLT, Int.reduceNeg, Nat.reduceBEq, Nat.reduceMul, Nat.reduceLeDiff, Nat.reduceMod, UInt8.reduceOfNat, Nat.reduceLT, Int.reduceEq, Int.reduceAdd, Int.reduceSub, Int.reduceMul]) ⟨i + 1, by omega, rfl, ?_⟩
        rw [hsn]
        simp -dsimp -implicitDefEqProofs only [↓Ev.xStp_eq, ↓Ev.P, Ev.Q, eq_self, forall_eq_or_imp, implies_true, forall_const, forall_eq, ↓reduceIte, reduceIte, Nat.reduceEqDiff, Nat.reduceAdd, reduceCtorEq, Nat.reduceSub, Int.reduceToNat, Int.reduceLE, Int.reduceLT, Int.reduceNeg, Nat.reduceBEq, Nat.reduceMul, Nat.reduceLeDiff, Nat.reduceMod, UInt8.reduceOfNat, Nat.reduceLT, Int.reduceEq, Int.reduceAdd, Int.reduceSub, Int.reduceMul]
        rfl
      · by_cases hc2 : c = 32
        · subst hc2
          rw [if_pos (.inr rfl)] at hsn
          simp -dsimp -implicitDefEqProofs only [hg, hi3, mkRow, hc, strRows_len, strRows_one, ↓Ev.xStp_eq, ↓Ev.P, Ev.Q, eq_self, forall_eq_or_imp, implies_true, forall_const, forall_eq, ↓reduceIte, reduceIte, Nat.reduceEqDiff, Nat.reduceAdd, reduceCtorEq, Nat.reduceSub, Int.reduceToNat, Int.reduceLE, Int.reduceLT, Int.reduceNeg, Nat.reduceBEq, Nat.reduceMul, Nat.reduceLeDiff, Nat.reduceMod, UInt8.reduceOfNat, Nat.reduceLT, Int.reduceEq, Int.reduceAdd, Int.reduceSub, Int.reduceMul]
          repeat' (first | with_reducible assumption | refine And.intro ?_ ?_ | intro _)
          all_goals try omega
          refine xAgain_intro (l.length - (i + 1)) [3] (by omega) (by simp -dsimp -implicitDefEqProofs only [↓Ev.xStp_eq, ↓Ev.P, Ev.Q, eq_self, forall_eq_or_imp, implies_true, forall_const, forall_eq, ↓reduceIte, reduceIte, Nat.reduceEqDiff, Nat.reduceAdd, reduceCtorEq, Nat.reduceSub, Int.reduceToNat, Int.reduceLE, Int.reduceLT, Int.reduceNeg, Nat.reduceBEq, Nat.reduceMul, Nat.reduceLeDiff, Nat.reduceMod, UInt8.reduceOfNat, Nat.reduceLT, Int.reduceEq, Int.reduceAdd, Int.reduceSub, Int.reduceMul]) ⟨i + 1, by omega, rfl, ?_⟩
          rw [hsn]
          simp -dsimp -implicitDefEqProofs only [↓Ev.xStp_eq, ↓Ev.P, Ev.Q, eq_self, forall_eq_or_imp, implies_true, forall_const, forall_eq, ↓reduceIte, reduceIte, Nat.reduceEqDiff, Nat.reduceAdd, reduceCtorEq, Nat.reduceSub, Int.reduceToNat, Int.reduceLE, Int.reduceLT, Int.reduceNeg, Nat.reduceBEq, Nat.reduceMul, Nat.reduceLeDiff, Nat.reduceMod, UInt8.reduceOfNat, Nat.reduceLT, Int.reduceEq, Int.reduceAdd, Int.reduceSub, Int.reduceMul]
          rfl
        · rw [if_neg (by rintro (h | h); exact hc h; exact hc2 h), List.append_nil] at hsn
          simp -dsimp -implicitDefEqProofs only [hg, hi3, mkRow, hc, hc2, strRows_len, strRows_one, ↓Ev.xStp_eq, ↓Ev.P, Ev.Q, eq_self, forall_eq_or_imp, implies_true, forall_const, forall_eq, ↓reduceIte, reduceIte, Nat.reduceEqDiff, Nat.reduceAdd, reduceCtorEq, Nat.reduceSub, Int.reduceToNat, Int.reduceLE, Int.reduceLT, Int.reduceNeg, Nat.reduceBEq, Nat.reduceMul, Nat.reduceLeDiff, Nat.reduceMod, UInt8.reduceOfNat, Nat.reduceLT, Int.reduceEq, Int.reduceAdd, Int.reduceSub, Int.reduceMul]
          repeat' (first | with_reducible assumption | refine And.intro ?_ ?_ | intro _)
          all_goals try omega
          refine xAgain_intro (l.length - (i + 1)) [0] (by omega) (by simp -dsimp -implicitDefEqProofs only [↓Ev.xStp_eq, ↓Ev.P, Ev.Q, eq_self, forall_eq_or_imp, implies_true, forall_const, forall_eq, ↓reduceIte, reduceIte, Nat.reduceEqDiff, Nat.reduceAdd, reduceCtorEq, Nat.reduceSub, Int.reduceToNat, Int.reduceLE, Int.reduceLT, Int.reduceNeg, Nat.reduceBEq, Nat.reduceMul, Nat.reduceLeDiff, Nat.reduceMod, UInt8.reduceOfNat, Nat.reduceLT, Int.reduceEq, Int.reduceAdd, Int.reduceSub, Int.reduceMul]) ⟨i + 1, by omega, rfl, ?_⟩
          rw [hsn]
          simp -dsimp -implicitDefEqProofs only [↓Ev.xStp_eq, ↓Ev.P, Ev.Q, eq_self, forall_eq_or_imp, implies_true, forall_const, forall_eq, ↓reduceIte, reduceIte, Nat.reduceEqDiff, Nat.reduceAdd, reduceCtorEq, Nat.reduceSub, Int.reduceToNat, Int.reduceLE, Int.reduceLT, Int.reduceNeg, Nat.reduceBEq, Nat.reduceMul, Nat.reduceLeDiff, Nat.reduceMod, UInt8.reduceOfNat, Nat.reduceLT, Int.reduceEq, Int.reduceAdd, Int.reduceSub, Int.reduceMul]
          rfl
    · have hi3 : ¬ (i : Int) < l.length := by omega
      simp -dsimp -implicitDefEqProofs only [hi3, ↓Ev.xStp_eq, ↓Ev.P, Ev.Q, eq_self, forall_eq_or_imp, implies_true, forall_const, forall_eq, ↓reduceIte, reduceIte, Nat.reduceEqDiff, Nat.reduceAdd, reduceCtorEq, Nat.reduceSub, Int.reduceToNat, Int.reduceLE, Int.reduceLT, Int.reduceNeg, Nat.reduceBEq, Nat.reduceMul, Nat.reduceLeDiff, Nat.reduceMod, UInt8.reduceOfNat, Nat.reduceLT, Int.reduceEq, Int.reduceAdd, Int.reduceSub, Int.reduceMul]
      rw [List.take_of_length_le (by omega)]
      exact hk
theorem s111 : Sound G Tryd.prog 111 (COld 45) := by
  refine sd111 (T := tabT [(145, CPick)]) (tab_cons s145 tab_nil) (stC_lawful _) (st_hX fun args st p x st' K h hp hk => ?_)
  split at h <;> simp only [Option.map_eq_some_iff, Prod.mk.injEq, reduceCtorEq] at h
  obtain ⟨l, hl, rfl, rfl, rfl⟩ := h
  rw [unMk_eq hl] at *
  refine ⟨Nat.le_of_ble_eq_true rfl, [1], ?_⟩
  simp -dsimp -implicitDefEqProofs only [S111, R111, CPick, unMk_rows, Ev.St.giveC, ↓Ev.xStp_eq, ↓Ev.P, Ev.Q, eq_self, forall_eq_or_imp, implies_true, forall_const, forall_eq, ↓reduceIte, reduceIte, Nat.reduceEqDiff, Nat.reduceAdd, reduceCtorEq, Nat.reduceSub, Int.reduceToNat, Int.reduceLE, Int.reduceLT, Int.reduceNeg, Nat.reduceBEq, Nat.reduceMul, Nat.reduceLeDiff, Nat.reduceMod, UInt8.reduceOfNat, Nat.reduceLT, Int.reduceEq, Int.reduceAdd, Int.reduceSub, Int.reduceMul]
  exact ⟨hp, hk⟩
theorem s112 : Sound G Tryd.prog 112 (COld 43) := by
  refine sd112 (T := tabT [(145, CPick)]) (tab_cons s145 tab_nil) (stC_lawful _) (st_hX fun args st p x st' K h hp hk => ?_)
  split at h <;> simp only [Option.map_eq_some_iff, Prod.mk.injEq, reduceCtorEq] at h
  obtain ⟨l, hl, rfl, rfl, rfl⟩ := h
  rw [unMk_eq hl] at *
  refine ⟨Nat.le_of_ble_eq_true rfl, [1], ?_⟩
  simp -dsimp -implicitDefEqProofs only [S112, R112, CPick, unMk_rows, Ev.St.giveC, ↓Ev.xStp_eq, ↓Ev.P, Ev.Q, eq_self, forall_eq_or_imp, implies_true, forall_const, forall_eq, ↓reduceIte, reduceIte, Nat.reduceEqDiff, Nat.reduceAdd, reduceCtorEq, Nat.reduceSub, Int.reduceToNat, Int.reduceLE, Int.reduceLT, Int.reduceNeg, Nat.reduceBEq, Nat.reduceMul, Nat.reduceLeDiff, Nat.reduceMod, UInt8.reduceOfNat, Nat.reduceLT, Int.reduceEq, Int.reduceAdd, Int.reduceSub, Int.reduceMul]
  exact ⟨hp, hk⟩
/-- The reference's choice. -/
def pickN (s : Int) (l : List Mk) : List (List UInt8) := (l.filter fun m => !decide (m.1 = s) && (decide (m.1 = 32) || decide (m.1 = 45) || decide (m.1 = 43))).map (·.2)
theorem pickN_snoc (s : Int) {l : List Mk} {i : Nat} (h : i < l.length) : pickN s (l.take (i + 1)) = pickN s (l.take i) ++ (if ¬ (l.getD i mk0).1 = s ∧ (((l.getD i mk0).1 = 32 ∨ (l.getD i mk0).1 = 45) ∨ (l.getD i mk0).1 = 43) then [(l.getD i mk0).2] else []) := by
  rw [mk_take h, pickN, List.filter_append, List.map_append]
  generalize l.getD i mk0 = m
  by_cases h1 : ¬ m.1 = s ∧ ((m.1 = 32 ∨ m.1 = 45) ∨ m.1 = 43)
  · rw [if_pos h1]
    have : (!decide (m.1 = s) && (decide (m.1 = 32) || decide (m.1 = 45) || decide (m.1 = 43))) = true := by simpa using h1
    simp [pickN, this]
  · rw [if_neg h1]
    have : (!decide (m.1 = s) && (decide (m.1 = 32) || decide (m.1 = 45) || decide (m.1 = 43))) = false := by
      rw [← Bool.not_eq_true]; simpa using h1
    simp [pickN, this]
theorem pickN_len (s : Int) (l : List Mk) (i : Nat) (h : i ≤ l.length) : (pickN s (l.take i)).length ≤ i := by
  have : (pickN s (l.take i)).length ≤ (l.take i).length := by rw [pickN, List.length_map]; exact List.length_filter_le _ _
  rw [List.length_take] at this
  omega
theorem pickN_old (l : List Mk) : pickN 43 l = pickT 45 l := by
  rw [pickN, pickT]
  congr 1
  refine List.filter_congr fun m _ => ?_
  by_cases h1 : m.1 = 45
  · simp [h1]
  · by_cases h2 : m.1 = 32
    · simp [h2]
    · by_cases h3 : m.1 = 43 <;> simp [h1, h2, h3]
theorem pickN_new (l : List Mk) : pickN 45 l = pickT 43 l := by
  rw [pickN, pickT]
  congr 1
  refine List.filter_congr fun m _ => ?_
  by_cases h1 : m.1 = 43
  · simp [h1]
  · by_cases h2 : m.1 = 32
    · simp [h2]
    · by_cases h3 : m.1 = 45 <;> simp [h1, h2, h3]
def CPickN : Contract := stC fun args st => match args, st with
  | [.agg [.d (.v (.int .i64 A)), .d (.v (.int .i64 AN)), .d (.v (.int .i64 B)), .d (.v (.int .i64 BN)), .d (.sl rows)], .d (.v (.int .u8 s))], ⟨0, []⟩ => (unMk rows).map fun l => (l.length ≤ 1099511627776, .own 0, ⟨1, [(0, .row 9 1 (strRows (pickN s l)))]⟩)
  | _, _ => none
set_option maxHeartbeats 1000000 in
theorem s176 : Sound G Tryd.prog 176 CPickN := by
  refine sd176 (T := tabT []) tab_nil (stC_lawful _) (st_hX fun args st p x st' K h hp hk => ?_)
  split at h <;> simp only [Option.map_eq_some_iff, Prod.mk.injEq, reduceCtorEq] at h
  obtain ⟨l, hl, rfl, rfl, rfl⟩ := h
  rw [unMk_eq hl] at *
  rename_i A AN B BN rows s
  refine ⟨Nat.le_of_ble_eq_true rfl, [0], ?_⟩
  simp -dsimp -implicitDefEqProofs only [S176, R176, mkRows_len, ↓Ev.xStp_eq, ↓Ev.P, Ev.Q, eq_self, forall_eq_or_imp, implies_true, forall_const, forall_eq, ↓reduceIte, reduceIte, Nat.reduceEqDiff, Nat.reduceAdd, reduceCtorEq, Nat.reduceSub, Int.reduceToNat, Int.reduceLE, Int.reduceLT, Int.reduceNeg, Nat.reduceBEq, Nat.reduceMul, Nat.reduceLeDiff, Nat.reduceMod, UInt8.reduceOfNat, Nat.reduceLT, Int.reduceEq, Int.reduceAdd, Int.reduceSub, Int.reduceMul]
  refine xLoop_intro (fun n st => ∃ i : Nat, i ≤ l.length ∧ n = l.length - i ∧
      st = ⟨[(1, .d (.v (.int .u8 s))), (2, .ptr 1 0), (5, .own 0), (6, .d (.v (.int .i64 i)))], 2, [(0, .row 9 1 (strRows (pickN s (l.take i)))), (1, .cells 93 [.d (.v (.int .i64 A)), .d (.v (.int .i64 AN)), .d (.v (.int .i64 B)), .d (.v (.int .i64 BN)), .d (.sl (mkRows l))])]⟩) l.length [1, 0] ?_ ?_ ?_
  · simp -dsimp -implicitDefEqProofs only [↓Ev.xStp_eq, ↓Ev.P, Ev.Q, eq_self, forall_eq_or_imp, implies_true, forall_const, forall_eq, ↓reduceIte, reduceIte, Nat.reduceEqDiff, Nat.reduceAdd, reduceCtorEq, Nat.reduceSub, Int.reduceToNat, Int.reduceLE, Int.reduceLT, Int.reduceNeg, Nat.reduceBEq, Nat.reduceMul, Nat.reduceLeDiff, Nat.reduceMod, UInt8.reduceOfNat, Nat.reduceLT, Int.reduceEq, Int.reduceAdd, Int.reduceSub, Int.reduceMul]
  · simp -dsimp -implicitDefEqProofs only [↓Ev.xStp_eq, ↓Ev.P, Ev.Q, eq_self, forall_eq_or_imp, implies_true, forall_const, forall_eq, ↓reduceIte, reduceIte, Nat.reduceEqDiff, Nat.reduceAdd, reduceCtorEq, Nat.reduceSub, Int.reduceToNat, Int.reduceLE, Int.reduceLT, Int.reduceNeg, Nat.reduceBEq, Nat.reduceMul, Nat.reduceLeDiff, Nat.reduceMod, UInt8.reduceOfNat, Nat.reduceLT, Int.reduceEq, Int.reduceAdd, Int.reduceSub, Int.reduceMul]
    exact ⟨0, by omega, by omega, by simp [pickN, strRows]⟩
  · rintro n st ⟨i, hi, hn, rfl⟩
    by_cases hil : i < l.length
    · have hi3 : (i : Int) < l.length := by omega
      have hg := mkRows_get hil
      have hsn := pickN_snoc s hil
      have hpl := pickN_len s l i hi
      generalize l.getD i mk0 = m at hg hsn
      obtain ⟨c, t⟩ := m
      simp only at hsn
      have fin : ∀ (os : List Nat) (st : St), normOk 0 os st → St.norm os [1, 2, 5, 6] st = ⟨[(1, .d (.v (.int .u8 s))), (2, .ptr 1 0), (5, .own 0), (6, .d (.v (.int .i64 (i + 1 : Nat))))], 2, [(0, .row 9 1 (strRows (pickN s (l.take (i + 1))))), (1, .cells 93 [.d (.v (.int .i64 A)), .d (.v (.int .i64 AN)), .d (.v (.int .i64 B)), .d (.v (.int .i64 BN)), .d (.sl (mkRows l))])]⟩ →
          xAgain (fun n st => ∃ i : Nat, i ≤ l.length ∧ n = l.length - i ∧
            st = ⟨[(1, .d (.v (.int .u8 s))), (2, .ptr 1 0), (5, .own 0), (6, .d (.v (.int .i64 i)))], 2, [(0, .row 9 1 (strRows (pickN s (l.take i)))), (1, .cells 93 [.d (.v (.int .i64 A)), .d (.v (.int .i64 AN)), .d (.v (.int .i64 B)), .d (.v (.int .i64 BN)), .d (.sl (mkRows l))])]⟩) 0 [1, 2, 5, 6] n st :=
        fun os st h1 h2 => xAgain_intro (l.length - (i + 1)) os (by omega) h1 ⟨i + 1, by omega, rfl, h2⟩
      by_cases hc : c = s
      · rw [if_neg (fun h => h.1 hc), List.append_nil] at hsn
        simp -dsimp -implicitDefEqProofs only [hg, hi3, mkRow, hc, mkRows_len, strRows_len, strRows_one, ↓Ev.xStp_eq, ↓Ev.P, Ev.Q, eq_self, forall_eq_or_imp, implies_true, forall_const, forall_eq, ↓reduceIte, reduceIte, Nat.reduceEqDiff, Nat.reduceAdd, reduceCtorEq, Nat.reduceSub, Int.reduceToNat, Int.reduceLE, Int.reduceLT, Int.reduceNeg, Nat.reduceBEq, Nat.reduceMul, Nat.reduceLeDiff, Nat.reduceMod, UInt8.reduceOfNat, Nat.reduceLT, Int.reduceEq, Int.reduceAdd, Int.reduceSub, Int.reduceMul]
        repeat' (first | with_reducible assumption | refine And.intro ?_ ?_ | intro _)
        all_goals try omega
        refine fin [0, 1] _ (by simp -dsimp -implicitDefEqProofs only [↓Ev.xStp_eq, ↓Ev.P, Ev.Q, eq_self, forall_eq_or_imp, implies_true, forall_const, forall_eq, ↓reduceIte, reduceIte, Nat.reduceEqDiff, Nat.reduceAdd, reduceCtorEq, Nat.reduceSub, Int.reduceToNat, Int.reduceLE, Int.reduceLT, Int.reduceNeg, Nat.reduceBEq, Nat.reduceMul, Nat.reduceLeDiff, Nat.reduceMod, UInt8.reduceOfNat, Nat.reduceLT, Int.reduceEq, Int.reduceAdd, Int.reduceSub, Int.reduceMul]) ?_
        rw [hsn]
        simp -dsimp -implicitDefEqProofs only [↓Ev.xStp_eq, ↓Ev.P, Ev.Q, eq_self, forall_eq_or_imp, implies_true, forall_const, forall_eq, ↓reduceIte, reduceIte, Nat.reduceEqDiff, Nat.reduceAdd, reduceCtorEq, Nat.reduceSub, Int.reduceToNat, Int.reduceLE, Int.reduceLT, Int.reduceNeg, Nat.reduceBEq, Nat.reduceMul, Nat.reduceLeDiff, Nat.reduceMod, UInt8.reduceOfNat, Nat.reduceLT, Int.reduceEq, Int.reduceAdd, Int.reduceSub, Int.reduceMul]
        rfl
      · by_cases hk2 : (c = 32 ∨ c = 45) ∨ c = 43
        · rw [if_pos ⟨hc, hk2⟩] at hsn
          rcases hk2 with (h | h) | h <;>
          · simp -dsimp -implicitDefEqProofs only [h] at hc
            simp -dsimp -implicitDefEqProofs only [hg, hi3, mkRow, hc, h, mkRows_len, strRows_len, strRows_one, ↓Ev.xStp_eq, ↓Ev.P, Ev.Q, eq_self, forall_eq_or_imp, implies_true, forall_const, forall_eq, ↓reduceIte, reduceIte, Nat.reduceEqDiff, Nat.reduceAdd, reduceCtorEq, Nat.reduceSub, Int.reduceToNat, Int.reduceLE, Int.reduceLT, Int.reduceNeg, Nat.reduceBEq, Nat.reduceMul, Nat.reduceLeDiff, Nat.reduceMod, UInt8.reduceOfNat, Nat.reduceLT, Int.reduceEq, Int.reduceAdd, Int.reduceSub, Int.reduceMul]
            repeat' (first | with_reducible assumption | refine And.intro ?_ ?_ | intro _)
            all_goals try omega
            refine fin [3, 1] _ (by simp -dsimp -implicitDefEqProofs only [↓Ev.xStp_eq, ↓Ev.P, Ev.Q, eq_self, forall_eq_or_imp, implies_true, forall_const, forall_eq, ↓reduceIte, reduceIte, Nat.reduceEqDiff, Nat.reduceAdd, reduceCtorEq, Nat.reduceSub, Int.reduceToNat, Int.reduceLE, Int.reduceLT, Int.reduceNeg, Nat.reduceBEq, Nat.reduceMul, Nat.reduceLeDiff, Nat.reduceMod, UInt8.reduceOfNat, Nat.reduceLT, Int.reduceEq, Int.reduceAdd, Int.reduceSub, Int.reduceMul]) ?_
            rw [hsn]
            simp -dsimp -implicitDefEqProofs only [↓Ev.xStp_eq, ↓Ev.P, Ev.Q, eq_self, forall_eq_or_imp, implies_true, forall_const, forall_eq, ↓reduceIte, reduceIte, Nat.reduceEqDiff, Nat.reduceAdd, reduceCtorEq, Nat.reduceSub, Int.reduceToNat, Int.reduceLE, Int.reduceLT, Int.reduceNeg, Nat.reduceBEq, Nat.reduceMul, Nat.reduceLeDiff, Nat.reduceMod, UInt8.reduceOfNat, Nat.reduceLT, Int.reduceEq, Int.reduceAdd, Int.reduceSub, Int.reduceMul]
            rfl
        · rw [if_neg (fun h => hk2 h.2), List.append_nil] at hsn
          have n1 : ¬ c = 32 := fun h => hk2 (.inl (.inl h))
          have n2 : ¬ c = 45 := fun h => hk2 (.inl (.inr h))
          have n3 : ¬ c = 43 := fun h => hk2 (.inr h)
          simp -dsimp -implicitDefEqProofs only [hg, hi3, mkRow, hc, n1, n2, n3, mkRows_len, strRows_len, strRows_one, ↓Ev.xStp_eq, ↓Ev.P, Ev.Q, eq_self, forall_eq_or_imp, implies_true, forall_const, forall_eq, ↓reduceIte, reduceIte, Nat.reduceEqDiff, Nat.reduceAdd, reduceCtorEq, Nat.reduceSub, Int.reduceToNat, Int.reduceLE, Int.reduceLT, Int.reduceNeg, Nat.reduceBEq, Nat.reduceMul, Nat.reduceLeDiff, Nat.reduceMod, UInt8.reduceOfNat, Nat.reduceLT, Int.reduceEq, Int.reduceAdd, Int.reduceSub, Int.reduceMul]
          repeat' (first | with_reducible assumption | refine And.intro ?_ ?_ | intro _)
          all_goals try omega
          refine fin [0, 1] _ (by simp -dsimp -implicitDefEqProofs only [↓Ev.xStp_eq, ↓Ev.P, Ev.Q, eq_self, forall_eq_or_imp, implies_true, forall_const, forall_eq, ↓reduceIte, reduceIte, Nat.reduceEqDiff, Nat.reduceAdd, reduceCtorEq, Nat.reduceSub, Int.reduceToNat, Int.reduceLE, Int.reduceLT, Int.reduceNeg, Nat.reduceBEq, Nat.reduceMul, Nat.reduceLeDiff, Nat.reduceMod, UInt8.reduceOfNat, Nat.reduceLT, Int.reduceEq, Int.reduceAdd, Int.reduceSub, Int.reduceMul]) ?_
          rw [hsn]
          simp -dsimp -implicitDefEqProofs only [↓Ev.xStp_eq, ↓Ev.P, Ev.Q, eq_self, forall_eq_or_imp, implies_true, forall_const, forall_eq, ↓reduceIte, reduceIte, Nat.reduceEqDiff, Nat.reduceAdd, reduceCtorEq, Nat.reduceSub, Int.reduceToNat, Int.reduceLE, Int.reduceLT, Int.reduceNeg, Nat.reduceBEq, Nat.reduceMul, Nat.reduceLeDiff, Nat.reduceMod, UInt8.reduceOfNat, Nat.reduceLT, Int.reduceEq, Int.reduceAdd, Int.reduceSub, Int.reduceMul]
          rfl
    · have hi3 : ¬ (i : Int) < l.length := by omega
      simp -dsimp -implicitDefEqProofs only [hi3, mkRows_len, ↓Ev.xStp_eq, ↓Ev.P, Ev.Q, eq_self, forall_eq_or_imp, implies_true, forall_const, forall_eq, ↓reduceIte, reduceIte, Nat.reduceEqDiff, Nat.reduceAdd, reduceCtorEq, Nat.reduceSub, Int.reduceToNat, Int.reduceLE, Int.reduceLT, Int.reduceNeg, Nat.reduceBEq, Nat.reduceMul, Nat.reduceLeDiff, Nat.reduceMod, UInt8.reduceOfNat, Nat.reduceLT, Int.reduceEq, Int.reduceAdd, Int.reduceSub, Int.reduceMul]
      rw [List.take_of_length_le (by omega)]
      exact hk
theorem s151 : Sound G Tryd.prog 151 (COld 45) := by
  refine sd151 (T := tabT [(176, CPickN)]) (tab_cons s176 tab_nil) (stC_lawful _) (st_hX fun args st p x st' K h hp hk => ?_)
  split at h <;> simp only [Option.map_eq_some_iff, Prod.mk.injEq, reduceCtorEq] at h
  obtain ⟨l, hl, rfl, rfl, rfl⟩ := h
  rw [unMk_eq hl] at *
  refine ⟨Nat.le_of_ble_eq_true rfl, [1], ?_⟩
  simp -dsimp -implicitDefEqProofs only [S151, R151, CPickN, unMk_rows, Ev.St.giveC, ↓Ev.xStp_eq, ↓Ev.P, Ev.Q, eq_self, forall_eq_or_imp, implies_true, forall_const, forall_eq, ↓reduceIte, reduceIte, Nat.reduceEqDiff, Nat.reduceAdd, reduceCtorEq, Nat.reduceSub, Int.reduceToNat, Int.reduceLE, Int.reduceLT, Int.reduceNeg, Nat.reduceBEq, Nat.reduceMul, Nat.reduceLeDiff, Nat.reduceMod, UInt8.reduceOfNat, Nat.reduceLT, Int.reduceEq, Int.reduceAdd, Int.reduceSub, Int.reduceMul]
  rw [pickN_old]
  exact ⟨hp, hk⟩
theorem s152 : Sound G Tryd.prog 152 (COld 43) := by
  refine sd152 (T := tabT [(176, CPickN)]) (tab_cons s176 tab_nil) (stC_lawful _) (st_hX fun args st p x st' K h hp hk => ?_)
  split at h <;> simp only [Option.map_eq_some_iff, Prod.mk.injEq, reduceCtorEq] at h
  obtain ⟨l, hl, rfl, rfl, rfl⟩ := h
  rw [unMk_eq hl] at *
  refine ⟨Nat.le_of_ble_eq_true rfl, [1], ?_⟩
  simp -dsimp -implicitDefEqProofs only [S152, R152, CPickN, unMk_rows, Ev.St.giveC, ↓Ev.xStp_eq, ↓Ev.P, Ev.Q, eq_self, forall_eq_or_imp, implies_true, forall_const, forall_eq, ↓reduceIte, reduceIte, Nat.reduceEqDiff, Nat.reduceAdd, reduceCtorEq, Nat.reduceSub, Int.reduceToNat, Int.reduceLE, Int.reduceLT, Int.reduceNeg, Nat.reduceBEq, Nat.reduceMul, Nat.reduceLeDiff, Nat.reduceMod, UInt8.reduceOfNat, Nat.reduceLT, Int.reduceEq, Int.reduceAdd, Int.reduceSub, Int.reduceMul]
  rw [pickN_new]
  exact ⟨hp, hk⟩
end Go.Proofs.YtpbkdcfjlbdgfaaDoor
set_option linter.unusedVariables false
set_option linter.unusedSimpArgs false
namespace Go.Proofs.YtpbkdcfjlbdgfaaDoor
open Go Go.Ev
set_option maxRecDepth 100000
variable {G : World → Prop}
def isO (m : Mk) : Bool := decide (m.1 = 32) || decide (m.1 = 45)
def isN (m : Mk) : Bool := decide (m.1 = 32) || decide (m.1 = 43)
/-- Is a line as it must be, with those behind it? -/
def okAt (m : Mk) (r : List Mk) : Bool := (lineQ m.2).1 && (isO m || isN m) && ((lineQ m.2).2 || !((isO m && r.any isO) || (isN m && r.any isN)))
def fieldsT : List Mk → Bool
  | [] => true
  | m :: r => okAt m r && fieldsT r
theorem fields_drop : ∀ (l : List Mk) (i : Nat), fieldsT l = true → fieldsT (l.drop i) = true
  | l, 0, h => by simpa using h
  | [], i + 1, h => by simp [fieldsT]
  | m :: r, i + 1, h => by
    simp only [fieldsT, Bool.and_eq_true] at h
    simp only [List.drop_succ_cons]
    exact fields_drop r i h.2
theorem fields_bad {l : List Mk} {i : Nat} (h : i < l.length) (hb : okAt (l.getD i mk0) (l.drop (i + 1)) = false) : fieldsT l = false := by
  cases e : fieldsT l with
  | false => rfl
  | true =>
    have := fields_drop l i e
    rw [mk_drop h, fieldsT, hb] at this
    simp at this
def lastT (s : Int) (r : List Mk) : Bool := !(r.any fun m => decide (m.1 = s) || decide (m.1 = 32))
theorem last45 (r : List Mk) : lastT 45 r = !(r.any isO) := by
  unfold lastT isO
  congr 2
  funext m
  rw [Bool.or_comm]
theorem last43 (r : List Mk) : lastT 43 r = !(r.any isN) := by
  unfold lastT isN
  congr 2
  funext m
  rw [Bool.or_comm]
def CLast : Contract := pureC fun args => match args with
  | [.agg [.d (.v (.int .i64 A)), .d (.v (.int .i64 AN)), .d (.v (.int .i64 B)), .d (.v (.int .i64 BN)), .d (.sl rows)], .d (.v (.int .i64 i)), .d (.v (.int .u8 s))] => (unMk rows).map fun l => ((0 ≤ i ∧ i < l.length) ∧ l.length ≤ 1099511627776, .d (.v (.bool (lastT s (l.drop (i.toNat + 1))))))
  | _ => none
theorem s175 : Sound G Tryd.prog 175 CLast := by
  refine sd175 (T := tabT []) tab_nil (pureC_lawful _) (pure_hX fun args p x K h hp hk => ?_)
  split at h <;> simp only [Option.map_eq_some_iff, Prod.mk.injEq, reduceCtorEq] at h
  obtain ⟨l, hl, rfl, rfl⟩ := h
  rw [unMk_eq hl] at *
  rename_i A AN B BN rows i s
  obtain ⟨⟨h0, h1⟩, h2⟩ := hp
  obtain ⟨i, rfl⟩ := Int.eq_ofNat_of_zero_le h0
  simp only [Int.toNat_natCast] at hk
  refine ⟨Nat.le_of_ble_eq_true rfl, ?_⟩
  simp -dsimp -implicitDefEqProofs only [S175, R175, ↓Ev.xStp_eq, ↓Ev.P, Ev.Q, eq_self, forall_eq_or_imp, implies_true, forall_const, forall_eq, ↓reduceIte, reduceIte, Nat.reduceEqDiff, Nat.reduceAdd, reduceCtorEq, Nat.reduceSub, Int.reduceToNat, Int.reduceLE, Int.reduceLT, Int.reduceNeg, Nat.reduceBEq, Nat.reduceMul, Nat.reduceLeDiff, Nat.reduceMod, UInt8.reduceOfNat, Nat.reduceLT, Int.reduceEq, Int.reduceAdd, Int.reduceSub, Int.reduceMul]
  refine ⟨by omega, ?_⟩
  refine xLoop_intro (fun n st => ∃ j : Nat, i + 1 ≤ j ∧ j ≤ l.length ∧ n = l.length - j ∧ lastT s (l.drop j) = lastT s (l.drop (i + 1)) ∧
      st = ⟨[(2, .d (.v (.int .u8 s))), (3, .ptr 0 0), (7, .d (.v (.int .i64 j)))], 1, [(0, .cells 93 [.d (.v (.int .i64 A)), .d (.v (.int .i64 AN)), .d (.v (.int .i64 B)), .d (.v (.int .i64 BN)), .d (.sl (mkRows l))])]⟩) (l.length - (i + 1)) [0] ?_ ?_ ?_
  · simp -dsimp -implicitDefEqProofs only [↓Ev.xStp_eq, ↓Ev.P, Ev.Q, eq_self, forall_eq_or_imp, implies_true, forall_const, forall_eq, ↓reduceIte, reduceIte, Nat.reduceEqDiff, Nat.reduceAdd, reduceCtorEq, Nat.reduceSub, Int.reduceToNat, Int.reduceLE, Int.reduceLT, Int.reduceNeg, Nat.reduceBEq, Nat.reduceMul, Nat.reduceLeDiff, Nat.reduceMod, UInt8.reduceOfNat, Nat.reduceLT, Int.reduceEq, Int.reduceAdd, Int.reduceSub, Int.reduceMul]
  · simp -dsimp -implicitDefEqProofs only [↓Ev.xStp_eq, ↓Ev.P, Ev.Q, eq_self, forall_eq_or_imp, implies_true, forall_const, forall_eq, ↓reduceIte, reduceIte, Nat.reduceEqDiff, Nat.reduceAdd, reduceCtorEq, Nat.reduceSub, Int.reduceToNat, Int.reduceLE, Int.reduceLT, Int.reduceNeg, Nat.reduceBEq, Nat.reduceMul, Nat.reduceLeDiff, Nat.reduceMod, UInt8.reduceOfNat, Nat.reduceLT, Int.reduceEq, Int.reduceAdd, Int.reduceSub, Int.reduceMul]
    exact ⟨i + 1, by omega, by omega, by omega, rfl, rfl⟩
  · rintro n st ⟨j, hij, hj, hn, hlt, rfl⟩
    by_cases hjl : j < l.length
    · have hi3 : (j : Int) < l.length := by omega
      have hg := mkRows_get hjl
      have hg2 := mkRows_getD hjl
      have hd := mk_drop hjl
      generalize l.getD j mk0 = m at hg hg2 hd
      obtain ⟨c, t⟩ := m
      by_cases hc : c = s
      · have : lastT s (l.drop (i + 1)) = false := by rw [← hlt, hd]; simp [lastT, hc]
        rw [this] at hk
        simp -dsimp -implicitDefEqProofs only [hg, hg2, hi3, mkRow, hc, mkRows_len, ↓Ev.xStp_eq, ↓Ev.P, Ev.Q, eq_self, forall_eq_or_imp, implies_true, forall_const, forall_eq, ↓reduceIte, reduceIte, Nat.reduceEqDiff, Nat.reduceAdd, reduceCtorEq, Nat.reduceSub, Int.reduceToNat, Int.reduceLE, Int.reduceLT, Int.reduceNeg, Nat.reduceBEq, Nat.reduceMul, Nat.reduceLeDiff, Nat.reduceMod, UInt8.reduceOfNat, Nat.reduceLT, Int.reduceEq, Int.reduceAdd, Int.reduceSub, Int.reduceMul]
        repeat' (first | with_reducible assumption | refine And.intro ?_ ?_ | intro _)
        all_goals first | omega | exact hk
      · by_cases hc2 : c = 32
        · have : lastT s (l.drop (i + 1)) = false := by rw [← hlt, hd]; simp [lastT, hc2]
          rw [this] at hk
          simp -dsimp -implicitDefEqProofs only [hg, hg2, hi3, mkRow, hc, hc2, mkRows_len, ↓Ev.xStp_eq, ↓Ev.P, Ev.Q, eq_self, forall_eq_or_imp, implies_true, forall_const, forall_eq, ↓reduceIte, reduceIte, Nat.reduceEqDiff, Nat.reduceAdd, reduceCtorEq, Nat.reduceSub, Int.reduceToNat, Int.reduceLE, Int.reduceLT, Int.reduceNeg, Nat.reduceBEq, Nat.reduceMul, Nat.reduceLeDiff, Nat.reduceMod, UInt8.reduceOfNat, Nat.reduceLT, Int.reduceEq, Int.reduceAdd, Int.reduceSub, Int.reduceMul]
          subst hc2
          simp -dsimp -implicitDefEqProofs only [hc, ↓Ev.xStp_eq, ↓Ev.P, Ev.Q, eq_self, forall_eq_or_imp, implies_true, forall_const, forall_eq, ↓reduceIte, reduceIte, Nat.reduceEqDiff, Nat.reduceAdd, reduceCtorEq, Nat.reduceSub, Int.reduceToNat, Int.reduceLE, Int.reduceLT, Int.reduceNeg, Nat.reduceBEq, Nat.reduceMul, Nat.reduceLeDiff, Nat.reduceMod, UInt8.reduceOfNat, Nat.reduceLT, Int.reduceEq, Int.reduceAdd, Int.reduceSub, Int.reduceMul]
          repeat' (first | with_reducible assumption | refine And.intro ?_ ?_ | intro _)
          all_goals first | omega | exact hk
        · simp -dsimp -implicitDefEqProofs only [hg, hg2, hi3, mkRow, hc, hc2, mkRows_len, ↓Ev.xStp_eq, ↓Ev.P, Ev.Q, eq_self, forall_eq_or_imp, implies_true, forall_const, forall_eq, ↓reduceIte, reduceIte, Nat.reduceEqDiff, Nat.reduceAdd, reduceCtorEq, Nat.reduceSub, Int.reduceToNat, Int.reduceLE, Int.reduceLT, Int.reduceNeg, Nat.reduceBEq, Nat.reduceMul, Nat.reduceLeDiff, Nat.reduceMod, UInt8.reduceOfNat, Nat.reduceLT, Int.reduceEq, Int.reduceAdd, Int.reduceSub, Int.reduceMul]
          repeat' (first | with_reducible assumption | refine And.intro ?_ ?_ | intro _)
          all_goals try omega
          refine xAgain_intro (l.length - (j + 1)) [0] (by omega) (by simp -dsimp -implicitDefEqProofs only [↓Ev.xStp_eq, ↓Ev.P, Ev.Q, eq_self, forall_eq_or_imp, implies_true, forall_const, forall_eq, ↓reduceIte, reduceIte, Nat.reduceEqDiff, Nat.reduceAdd, reduceCtorEq, Nat.reduceSub, Int.reduceToNat, Int.reduceLE, Int.reduceLT, Int.reduceNeg, Nat.reduceBEq, Nat.reduceMul, Nat.reduceLeDiff, Nat.reduceMod, UInt8.reduceOfNat, Nat.reduceLT, Int.reduceEq, Int.reduceAdd, Int.reduceSub, Int.reduceMul]) ⟨j + 1, by omega, by omega, rfl, ?_, ?_⟩
          · rw [← hlt, hd]; simp [lastT, hc, hc2]
          · simp -dsimp -implicitDefEqProofs only [↓Ev.xStp_eq, ↓Ev.P, Ev.Q, eq_self, forall_eq_or_imp, implies_true, forall_const, forall_eq, ↓reduceIte, reduceIte, Nat.reduceEqDiff, Nat.reduceAdd, reduceCtorEq, Nat.reduceSub, Int.reduceToNat, Int.reduceLE, Int.reduceLT, Int.reduceNeg, Nat.reduceBEq, Nat.reduceMul, Nat.reduceLeDiff, Nat.reduceMod, UInt8.reduceOfNat, Nat.reduceLT, Int.reduceEq, Int.reduceAdd, Int.reduceSub, Int.reduceMul]
            rfl
    · have hi3 : ¬ (j : Int) < l.length := by omega
      have : lastT s (l.drop (i + 1)) = true := by rw [← hlt, List.drop_of_length_le (by omega)]; rfl
      rw [this] at hk
      simp -dsimp -implicitDefEqProofs only [hi3, mkRows_len, ↓Ev.xStp_eq, ↓Ev.P, Ev.Q, eq_self, forall_eq_or_imp, implies_true, forall_const, forall_eq, ↓reduceIte, reduceIte, Nat.reduceEqDiff, Nat.reduceAdd, reduceCtorEq, Nat.reduceSub, Int.reduceToNat, Int.reduceLE, Int.reduceLT, Int.reduceNeg, Nat.reduceBEq, Nat.reduceMul, Nat.reduceLeDiff, Nat.reduceMod, UInt8.reduceOfNat, Nat.reduceLT, Int.reduceEq, Int.reduceAdd, Int.reduceSub, Int.reduceMul]
      exact hk
def CFields : Contract := pureC fun args => match args with
  | [.agg [.d (.v (.int .i64 A)), .d (.v (.int .i64 AN)), .d (.v (.int .i64 B)), .d (.v (.int .i64 BN)), .d (.sl rows)]] => (unMk rows).map fun l => (l.length ≤ 1099511627776 ∧ ∀ m ∈ l, m.2.length ≤ 1099511627776, .d (.v (.bool (fieldsT l))))
  | _ => none
set_option maxHeartbeats 4000000 in
theorem s150 : Sound G Tryd.prog 150 CFields := by
  refine sd150 (T := tabT [(174, CLineQ), (175, CLast)]) (tab_cons s174 (tab_cons s175 tab_nil)) (pureC_lawful _) (pure_hX fun args p x K h hp hk => ?_)
  split at h <;> simp only [Option.map_eq_some_iff, Prod.mk.injEq, reduceCtorEq] at h
  obtain ⟨l, hl, rfl, rfl⟩ := h
  rw [unMk_eq hl] at *
  rename_i A AN B BN rows
  obtain ⟨h1, h2⟩ := hp
  refine ⟨Nat.le_of_ble_eq_true rfl, ?_⟩
  simp -dsimp -implicitDefEqProofs only [S150, R150, ↓Ev.xStp_eq, ↓Ev.P, Ev.Q, eq_self, forall_eq_or_imp, implies_true, forall_const, forall_eq, ↓reduceIte, reduceIte, Nat.reduceEqDiff, Nat.reduceAdd, reduceCtorEq, Nat.reduceSub, Int.reduceToNat, Int.reduceLE, Int.reduceLT, Int.reduceNeg, Nat.reduceBEq, Nat.reduceMul, Nat.reduceLeDiff, Nat.reduceMod, UInt8.reduceOfNat, Nat.reduceLT, Int.reduceEq, Int.reduceAdd, Int.reduceSub, Int.reduceMul]
  refine xLoop_intro (fun n st => ∃ i : Nat, i ≤ l.length ∧ n = l.length - i ∧ fieldsT (l.drop i) = fieldsT l ∧
      st = ⟨[(1, .ptr 0 0), (3, .d (.v (.int .i64 i)))], 1, [(0, .cells 93 [.d (.v (.int .i64 A)), .d (.v (.int .i64 AN)), .d (.v (.int .i64 B)), .d (.v (.int .i64 BN)), .d (.sl (mkRows l))])]⟩) l.length [0] ?_ ?_ ?_
  · simp -dsimp -implicitDefEqProofs only [↓Ev.xStp_eq, ↓Ev.P, Ev.Q, eq_self, forall_eq_or_imp, implies_true, forall_const, forall_eq, ↓reduceIte, reduceIte, Nat.reduceEqDiff, Nat.reduceAdd, reduceCtorEq, Nat.reduceSub, Int.reduceToNat, Int.reduceLE, Int.reduceLT, Int.reduceNeg, Nat.reduceBEq, Nat.reduceMul, Nat.reduceLeDiff, Nat.reduceMod, UInt8.reduceOfNat, Nat.reduceLT, Int.reduceEq, Int.reduceAdd, Int.reduceSub, Int.reduceMul]
  · simp -dsimp -implicitDefEqProofs only [↓Ev.xStp_eq, ↓Ev.P, Ev.Q, eq_self, forall_eq_or_imp, implies_true, forall_const, forall_eq, ↓reduceIte, reduceIte, Nat.reduceEqDiff, Nat.reduceAdd, reduceCtorEq, Nat.reduceSub, Int.reduceToNat, Int.reduceLE, Int.reduceLT, Int.reduceNeg, Nat.reduceBEq, Nat.reduceMul, Nat.reduceLeDiff, Nat.reduceMod, UInt8.reduceOfNat, Nat.reduceLT, Int.reduceEq, Int.reduceAdd, Int.reduceSub, Int.reduceMul]
    exact ⟨0, by omega, by omega, by simp, rfl⟩
  · rintro n st ⟨i, hi, hn, hf, rfl⟩
    by_cases hil : i < l.length
    · have hi3 : (i : Int) < l.length := by omega
      have hg := mkRows_get hil
      have hd := mk_drop hil
      have hx := h2 _ (mk_mem hil)
      have hbad := fields_bad hil
      generalize l.getD i mk0 = m at hg hd hx hbad
      obtain ⟨c, t⟩ := m
      have hfs : fieldsT l = (okAt (c, t) (l.drop (i + 1)) && fieldsT (l.drop (i + 1))) := by rw [← hf, hd, fieldsT]
      generalize hr : l.drop (i + 1) = r at hd hbad hfs
      have l45 := last45 r
      have l43 := last43 r
      rcases hq : lineQ t with ⟨q1, q2⟩
      simp only at hx
      have hok : okAt (c, t) r = (q1 && (isO (c, t) || isN (c, t)) && (q2 || !((isO (c, t) && r.any isO) || (isN (c, t) && r.any isN)))) := by rw [okAt, hq]
      simp -dsimp -implicitDefEqProofs only [hg, hi3, hq, mkRow, mkRows_len, CLineQ, CLast, unMk_rows, hr, l45, l43, ↓Ev.xStp_eq, ↓Ev.P, Ev.Q, eq_self, forall_eq_or_imp, implies_true, forall_const, forall_eq, ↓reduceIte, reduceIte, Nat.reduceEqDiff, Nat.reduceAdd, reduceCtorEq, Nat.reduceSub, Int.reduceToNat, Int.reduceLE, Int.reduceLT, Int.reduceNeg, Nat.reduceBEq, Nat.reduceMul, Nat.reduceLeDiff, Nat.reduceMod, UInt8.reduceOfNat, Nat.reduceLT, Int.reduceEq, Int.reduceAdd, Int.reduceSub, Int.reduceMul]
      repeat' (first | with_reducible assumption | refine And.intro ?_ ?_ | intro _)
      all_goals try omega
      · rename_i hh
        have hb : okAt (c, t) r = false := by
          rw [hok]
          rcases hh with h | ⟨⟨h, h'⟩, h''⟩
          · simp [h]
          · simp [isO, isN, h, h', h'']
        rw [hbad hb] at hk
        exact hk
      · rename_i hh hh2
        have hb : okAt (c, t) r = false := by
          rw [hok]
          generalize r.any isO = x at hh2 ⊢
          generalize r.any isN = y at hh2 ⊢
          clear hfs hbad hok l45 l43 hf hk
          obtain ⟨rfl, hc⟩ := hh
          obtain ⟨rfl, hc2⟩ := hh2
          cases x <;> cases y <;> rcases hc with (rfl | rfl) | rfl <;> simp [isO, isN] at hc2 ⊢
        rw [hbad hb] at hk
        exact hk
      · rename_i hh hh2
        have hb : okAt (c, t) r = true := by
          rw [hok]
          generalize r.any isO = x at hh2 ⊢
          generalize r.any isN = y at hh2 ⊢
          clear hfs hbad hok l45 l43 hf hk
          obtain ⟨rfl, hc⟩ := hh
          cases q2 <;> cases x <;> cases y <;> rcases hc with (rfl | rfl) | rfl <;> simp [isO, isN] at hh2 ⊢
        refine xAgain_intro (l.length - (i + 1)) [0] (by omega) (by simp -dsimp -implicitDefEqProofs only [↓Ev.xStp_eq, ↓Ev.P, Ev.Q, eq_self, forall_eq_or_imp, implies_true, forall_const, forall_eq, ↓reduceIte, reduceIte, Nat.reduceEqDiff, Nat.reduceAdd, reduceCtorEq, Nat.reduceSub, Int.reduceToNat, Int.reduceLE, Int.reduceLT, Int.reduceNeg, Nat.reduceBEq, Nat.reduceMul, Nat.reduceLeDiff, Nat.reduceMod, UInt8.reduceOfNat, Nat.reduceLT, Int.reduceEq, Int.reduceAdd, Int.reduceSub, Int.reduceMul]) ⟨i + 1, by omega, rfl, ?_, ?_⟩
        · rw [hr, hfs, hb, Bool.true_and]
        · simp -dsimp -implicitDefEqProofs only [↓Ev.xStp_eq, ↓Ev.P, Ev.Q, eq_self, forall_eq_or_imp, implies_true, forall_const, forall_eq, ↓reduceIte, reduceIte, Nat.reduceEqDiff, Nat.reduceAdd, reduceCtorEq, Nat.reduceSub, Int.reduceToNat, Int.reduceLE, Int.reduceLT, Int.reduceNeg, Nat.reduceBEq, Nat.reduceMul, Nat.reduceLeDiff, Nat.reduceMod, UInt8.reduceOfNat, Nat.reduceLT, Int.reduceEq, Int.reduceAdd, Int.reduceSub, Int.reduceMul]
          rfl
    · have hi3 : ¬ (i : Int) < l.length := by omega
      have : fieldsT l = true := by rw [← hf, List.drop_of_length_le (by omega)]; rfl
      rw [this] at hk
      simp -dsimp -implicitDefEqProofs only [hi3, mkRows_len, ↓Ev.xStp_eq, ↓Ev.P, Ev.Q, eq_self, forall_eq_or_imp, implies_true, forall_const, forall_eq, ↓reduceIte, reduceIte, Nat.reduceEqDiff, Nat.reduceAdd, reduceCtorEq, Nat.reduceSub, Int.reduceToNat, Int.reduceLE, Int.reduceLT, Int.reduceNeg, Nat.reduceBEq, Nat.reduceMul, Nat.reduceLeDiff, Nat.reduceMod, UInt8.reduceOfNat, Nat.reduceLT, Int.reduceEq, Int.reduceAdd, Int.reduceSub, Int.reduceMul]
      exact hk
end Go.Proofs.YtpbkdcfjlbdgfaaDoor
set_option linter.unusedVariables false
set_option linter.unusedSimpArgs false
namespace Go.Proofs.YtpbkdcfjlbdgfaaDoor
open Go Go.Ev
set_option maxRecDepth 100000
variable {G : World → Prop}
/-- What slices.Backward yields, of structs: the last first, each with its place. -/
def backXs (rows : List (List D)) : List (List SV) := (List.range rows.length).map fun (k : Nat) => [.d (.v (.int .i64 ((rows.length : Int) - 1 - k))), .agg ((rows.getD (rows.length - 1 - k) []).map .d)]
def backIt (sz : Nat) : List D → Option (Prop × List (List SV))
  | [.pt [.sl rows]] => some (rows.length ≤ 1099511627776 ∧ ∀ r ∈ rows, r.length = sz, backXs rows)
  | _ => none
theorem backXs_len (rows : List (List D)) : (backXs rows).length = rows.length := by simp [backXs]
theorem backXs_get {rows : List (List D)} {k : Nat} (h : k < rows.length) : (backXs rows)[k]? = some [.d (.v (.int .i64 ((rows.length : Int) - 1 - k))), .agg ((rows.getD (rows.length - 1 - k) []).map .d)] := by
  simp [backXs, h]
def CBackIt (sz : Nat) : Contract := ⟨fun _ _ _ => False, fun _ => none, backIt sz⟩
def CBackF (t f : Nat) : Contract := stC fun args st => match args, st with
  | [.d (.sl rows)], ⟨0, []⟩ => some (True, .fn f [.ptr 0 0], ⟨1, [(0, .cells t [.d (.sl rows)])]⟩)
  | _, _ => none
end Go.Proofs.YtpbkdcfjlbdgfaaDoor
