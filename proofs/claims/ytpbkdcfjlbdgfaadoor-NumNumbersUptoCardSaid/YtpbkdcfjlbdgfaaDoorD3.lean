/- The compiled code of functions, by program (gen.py): each theorem says that the loaded program compiles to it. -/
import Derived.Test.YtpbkdcfjlbdgfaaDoorEvU
import Derived.Test.YtpbkdcfjlbdgfaaDoorProg
set_option linter.unusedVariables false
namespace Go.Proofs.YtpbkdcfjlbdgfaaDoor
open Go Go.Ev
set_option maxRecDepth 100000
theorem mo : Tryd.prog.follows .mixedOrders = true := by kernel_rfl

/-! 9: redline/redlinelaw01.NumNumbers -/
def A9 : Ann := ⟨fun _ _ => 0, fun _ => none, fun r => if r = 1 then some (false, [0, 1]) else if r = 2 then some (false, [0, 1, 5, 6]) else if r = 3 then some (false, [0, 5, 6, 7, 8]) else none, fun _ => []⟩
def S9 : SCode :=
  (.seq (.ops [⟨none, (some 4), .mv 4 (.k (Value.bool false)), false⟩])
  (.seq (.seq (.keep [0, 1]) (.ops [⟨none, (some 10), .mv 10 (.s 1), false⟩,
    ⟨none, (some 11), .call (some 11) 30 false [(.s 10)], false⟩,
    ⟨none, (some 9), .mv 9 (.s 11), false⟩,
    ⟨none, (some 12), .ex 12 (.s 9) 0, false⟩,
    ⟨none, (some 13), .ex 13 (.s 9) 1, false⟩,
    ⟨none, (some 5), .mv 5 (.s 12), false⟩,
    ⟨none, (some 6), .mv 6 (.s 13), false⟩]))
  (.seq (.seq (.keep [0, 1, 5, 6]) (.ops [⟨none, (some 15), .mv 15 (.s 1), false⟩,
    ⟨none, (some 16), .call (some 16) 31 false [(.s 15)], false⟩,
    ⟨none, (some 14), .mv 14 (.s 16), false⟩,
    ⟨none, (some 17), .ex 17 (.s 14) 0, false⟩,
    ⟨none, (some 18), .ex 18 (.s 14) 1, false⟩,
    ⟨none, (some 7), .mv 7 (.s 17), false⟩,
    ⟨none, (some 8), .mv 8 (.s 18), false⟩]))
  (.seq (.seq (.keep [0, 5, 6, 7, 8]) (.ops [⟨none, (some 19), .mv 19 (.s 0), false⟩,
    ⟨none, (some 20), .call (some 20) 32 false [(.s 19)], false⟩,
    ⟨none, (some 21), .mv 21 (.s 0), false⟩,
    ⟨none, (some 22), .call (some 22) 33 false [(.s 21)], false⟩,
    ⟨none, (some 23), .bin 23 .eql (.s 20) (.s 22), false⟩,
    ⟨none, (some 24), .mv 24 (.s 23), false⟩,
    ⟨(some (24, true)), (some 25), .mv 25 (.s 5), false⟩,
    ⟨(some (24, true)), (some 26), .mv 26 (.s 7), false⟩,
    ⟨(some (24, true)), (some 27), .bin 27 .eql (.s 25) (.s 26), false⟩,
    ⟨none, (some 28), .pk 28 (.s 24) (.s 27) (.k (Value.bool false)), true⟩,
    ⟨none, (some 29), .mv 29 (.s 28), false⟩,
    ⟨(some (29, true)), (some 30), .mv 30 (.s 6), false⟩,
    ⟨(some (29, true)), (some 31), .mv 31 (.s 8), false⟩,
    ⟨(some (29, true)), (some 32), .bin 32 .eql (.s 30) (.s 31), false⟩,
    ⟨none, (some 33), .pk 33 (.s 29) (.s 32) (.k (Value.bool false)), false⟩,
    ⟨none, (some 4), .mv 4 (.s 33), false⟩]))
  .ret))))
theorem cc9 : (Tryd.f9.body).bind (cc Tryd.prog Tryd.f9.ntmps A9) = some S9 := by kernel_rfl
def R9 : List RR := [.sl 4]
theorem cr9 : Tryd.f9.results.toList.map (crr Tryd.prog) = R9.map some := by kernel_rfl
theorem nm9 : (Tryd.f9.name == "runtime.NumGoroutine") = false := by kernel_rfl
theorem fn9 : Tryd.prog.funcs[9]? = some Tryd.f9 := by kernel_rfl
theorem bd9 : ∃ b, Tryd.f9.body = some b ∧ cc Tryd.prog Tryd.f9.ntmps A9 b = some S9 := Option.bind_eq_some_iff.1 cc9
theorem sd9 {G : World → Prop} {T : FuncId → Contract} {C : Contract} (hT : ∀ f, Sound G Tryd.prog f (T f)) (hl : C.lawful) (hC : ∀ args st K, C.wp args st K → args.length ≤ 34 ∧ ∃ os op, xv T st.n S9 (st0 args st) (retK R9 st.n os K) (panK st.n op K)) : Sound G Tryd.prog 9 C := by
  obtain ⟨b, hb, hc⟩ := bd9
  rw [xv_eq] at hC
  exact sound_of_ev mo fn9 hb nm9 hc cr9 hT hl hC

/-! 30: redline/num.Parse -/
def A30 : Ann := ⟨fun r i => if r = 1 ∧ i = 4 then 1 else 0, fun _ => none, fun r => if r = 1 then some (false, [0]) else if r = 6 then some (false, [0, 5, 21]) else if r = 8 then some (false, [0]) else if r = 9 then some (false, [6, 7]) else if r = 11 then some (false, [6]) else none, fun r => if r = 4 then [0, 21] else []⟩
def S30_0 : SCode :=
  (.ops [⟨none, (some 2), .mv 2 (.k (Value.int .i64 0)), false⟩,
    ⟨none, (some 3), .mv 3 (.k (Value.int .i64 0)), false⟩])
def S30_1 : SCode :=
  (.seq (.seq (.keep [0]) (.ops [⟨none, (some 8), .mv 8 (.s 0), false⟩,
    ⟨none, (some 9), .bin 9 .eql (.s 8) (.k (Value.string ⟨#[]⟩)), false⟩,
    ⟨none, (some 10), .mv 10 (.s 9), false⟩,
    ⟨(some (10, false)), (some 11), .mv 11 (.s 0), false⟩,
    ⟨(some (10, false)), (some 12), .lens 12 (.s 11), false⟩,
    ⟨(some (10, false)), (some 13), .bin 13 .gtr (.s 12) (.k (Value.int .i64 1)), false⟩,
    ⟨(some (10, false)), (some 14), .mv 14 (.s 13), false⟩,
    ⟨(some (14, true)), (some 15), .mv 15 (.s 0), false⟩,
    ⟨(some (14, true)), (some 16), .ixs 16 (.s 15) (.k (Value.int .i64 0)), false⟩,
    ⟨(some (14, true)), (some 17), .bin 17 .eql (.s 16) (.k (Value.int .u8 48)), true⟩,
    ⟨(some (10, false)), (some 18), .pk 18 (.s 14) (.s 17) (.k (Value.bool false)), false⟩,
    ⟨none, (some 19), .pk 19 (.s 10) (.k (Value.bool true)) (.s 18), false⟩]))
  (.cond (.s 19) (.seq (.ops [⟨none, (some 2), .mv 2 (.k (Value.int .i64 0)), false⟩,
    ⟨none, (some 3), .mv 3 (.k (Value.int .i64 3)), false⟩])
  .ret) .skip))
def S30_2 : SCode :=
  (.seq (.ops [⟨none, (some 20), .mv 20 (.s 0), false⟩,
    ⟨none, (some 21), .rg 21 (.s 20), false⟩])
  (.block 0 (.loop [0, 21] (.seq (.ops [⟨none, (some 22), .nx 22 (.s 21), false⟩,
    ⟨none, (some 23), .ex 23 (.s 22) 0, false⟩])
  (.seq (.cond (.s 23) .skip (.exit 0))
  (.block 1 (.seq (.ops [⟨none, (some 24), .ex 24 (.s 22) 2, false⟩,
    ⟨none, (some 5), .mv 5 (.s 24), false⟩])
  (.seq (.seq (.keep [0, 5, 21]) (.ops [⟨none, (some 25), .mv 25 (.s 5), false⟩,
    ⟨none, (some 26), .bin 26 .lss (.s 25) (.k (Value.int .i32 48)), false⟩,
    ⟨none, (some 27), .mv 27 (.s 26), false⟩,
    ⟨(some (27, false)), (some 28), .mv 28 (.s 5), false⟩,
    ⟨(some (27, false)), (some 29), .bin 29 .gtr (.s 28) (.k (Value.int .i32 57)), false⟩,
    ⟨none, (some 30), .pk 30 (.s 27) (.k (Value.bool true)) (.s 29), false⟩]))
  (.cond (.s 30) (.seq (.ops [⟨none, (some 2), .mv 2 (.k (Value.int .i64 0)), false⟩,
    ⟨none, (some 3), .mv 3 (.k (Value.int .i64 3)), false⟩])
  .ret) .skip)))))))))
def S30_3 : SCode :=
  (.seq (.keep [0]) (.ops [⟨none, (some 32), .mv 32 (.s 0), false⟩,
    ⟨none, (some 33), .call (some 33) 78 false [(.s 32)], false⟩,
    ⟨none, (some 31), .mv 31 (.s 33), false⟩,
    ⟨none, (some 34), .ex 34 (.s 31) 0, false⟩,
    ⟨none, (some 35), .ex 35 (.s 31) 1, false⟩,
    ⟨none, (some 6), .mv 6 (.s 34), false⟩,
    ⟨none, (some 7), .mv 7 (.s 35), false⟩]))
def S30_4 : SCode :=
  (.seq (.seq (.keep [6, 7]) (.ops [⟨none, (some 36), .mv 36 (.s 7), false⟩,
    ⟨none, (some 37), .isnil 37 true true (.s 36), false⟩,
    ⟨none, (some 38), .mv 38 (.s 37), false⟩,
    ⟨(some (38, false)), (some 39), .mv 39 (.s 6), false⟩,
    ⟨(some (38, false)), (some 40), .bin 40 .gtr (.s 39) (.k (Value.int .i64 2147483647)), false⟩,
    ⟨none, (some 41), .pk 41 (.s 38) (.k (Value.bool true)) (.s 40), false⟩]))
  (.cond (.s 41) (.seq (.ops [⟨none, (some 2), .mv 2 (.k (Value.int .i64 0)), false⟩,
    ⟨none, (some 3), .mv 3 (.k (Value.int .i64 2)), false⟩])
  .ret) .skip))
def S30_5 : SCode :=
  (.seq (.keep [6]) (.ops [⟨none, (some 42), .mv 42 (.s 6), false⟩,
    ⟨none, (some 2), .mv 2 (.s 42), false⟩,
    ⟨none, (some 3), .mv 3 (.k (Value.int .i64 0)), false⟩]))
def S30r6 : SCode := .ret
def S30r5 : SCode := .seq S30_5 S30r6
def S30r4 : SCode := .seq S30_4 S30r5
def S30r3 : SCode := .seq S30_3 S30r4
def S30r2 : SCode := .seq S30_2 S30r3
def S30r1 : SCode := .seq S30_1 S30r2
def S30 : SCode := .seq S30_0 S30r1
theorem cc30 : (Tryd.f30.body).bind (cc Tryd.prog Tryd.f30.ntmps A30) = some S30 := by kernel_rfl
def R30 : List RR := [.sl 2, .sl 3]
theorem cr30 : Tryd.f30.results.toList.map (crr Tryd.prog) = R30.map some := by kernel_rfl
theorem nm30 : (Tryd.f30.name == "runtime.NumGoroutine") = false := by kernel_rfl
theorem fn30 : Tryd.prog.funcs[30]? = some Tryd.f30 := by kernel_rfl
theorem bd30 : ∃ b, Tryd.f30.body = some b ∧ cc Tryd.prog Tryd.f30.ntmps A30 b = some S30 := Option.bind_eq_some_iff.1 cc30
theorem sd30 {G : World → Prop} {T : FuncId → Contract} {C : Contract} (hT : ∀ f, Sound G Tryd.prog f (T f)) (hl : C.lawful) (hC : ∀ args st K, C.wp args st K → args.length ≤ 43 ∧ ∃ os op, xv T st.n S30 (st0 args st) (retK R30 st.n os K) (panK st.n op K)) : Sound G Tryd.prog 30 C := by
  obtain ⟨b, hb, hc⟩ := bd30
  rw [xv_eq] at hC
  exact sound_of_ev mo fn30 hb nm30 hc cr30 hT hl hC

/-! 31: redline/redlineref01.Parse -/
def A31 : Ann := ⟨fun r i => if r = 1 ∧ i = 5 then 1 else 0, fun _ => none, fun r => if r = 1 then some (false, [0]) else if r = 5 then some (false, [0, 4, 5]) else if r = 6 then some (false, [0, 4, 5]) else if r = 7 then some (false, [0, 4, 5]) else if r = 9 then some (false, [0, 4, 5]) else if r = 12 then some (false, [4]) else none, fun r => if r = 5 then [0, 4, 5] else []⟩
def S31 : SCode :=
  (.seq (.ops [⟨none, (some 2), .mv 2 (.k (Value.int .i64 0)), false⟩,
    ⟨none, (some 3), .mv 3 (.k (Value.int .i64 0)), false⟩])
  (.seq (.seq (.seq (.keep [0]) (.ops [⟨none, (some 6), .mv 6 (.s 0), false⟩,
    ⟨none, (some 7), .lens 7 (.s 6), false⟩,
    ⟨none, (some 8), .bin 8 .eql (.s 7) (.k (Value.int .i64 0)), false⟩,
    ⟨none, (some 9), .mv 9 (.s 8), false⟩,
    ⟨(some (9, false)), (some 10), .mv 10 (.s 0), false⟩,
    ⟨(some (9, false)), (some 11), .lens 11 (.s 10), false⟩,
    ⟨(some (9, false)), (some 12), .bin 12 .gtr (.s 11) (.k (Value.int .i64 1)), false⟩,
    ⟨(some (9, false)), (some 13), .mv 13 (.s 12), false⟩,
    ⟨(some (13, true)), (some 14), .mv 14 (.s 0), false⟩,
    ⟨(some (13, true)), (some 15), .ixs 15 (.s 14) (.k (Value.int .i64 0)), true⟩,
    ⟨(some (13, true)), (some 16), .bin 16 .eql (.s 15) (.k (Value.int .u8 48)), false⟩,
    ⟨(some (9, false)), (some 17), .pk 17 (.s 13) (.s 16) (.k (Value.bool false)), false⟩,
    ⟨none, (some 18), .pk 18 (.s 9) (.k (Value.bool true)) (.s 17), false⟩]))
  (.cond (.s 18) (.seq (.ops [⟨none, (some 2), .mv 2 (.k (Value.int .i64 0)), false⟩,
    ⟨none, (some 3), .mv 3 (.k (Value.int .i64 3)), false⟩])
  .ret) .skip))
  (.seq (.ops [⟨none, (some 4), .mv 4 (.k (Value.int .i64 0)), false⟩])
  (.seq (.seq (.ops [⟨none, (some 5), .mv 5 (.k (Value.int .i64 0)), false⟩])
  (.block 0 (.loop [0, 4, 5] (.seq (.seq (.seq (.keep [0, 4, 5]) (.ops [⟨none, (some 19), .mv 19 (.s 5), false⟩,
    ⟨none, (some 20), .mv 20 (.s 0), false⟩,
    ⟨none, (some 21), .lens 21 (.s 20), false⟩,
    ⟨none, (some 22), .bin 22 .lss (.s 19) (.s 21), false⟩]))
  (.cond (.s 22) .skip (.exit 0)))
  (.seq (.block 1 (.seq (.seq (.seq (.keep [0, 4, 5]) (.ops [⟨none, (some 25), .mv 25 (.s 0), false⟩,
    ⟨none, (some 26), .mv 26 (.s 5), false⟩,
    ⟨none, (some 27), .ixs 27 (.s 25) (.s 26), false⟩,
    ⟨none, (some 28), .bin 28 .lss (.s 27) (.k (Value.int .u8 48)), false⟩,
    ⟨none, (some 29), .mv 29 (.s 28), false⟩,
    ⟨(some (29, false)), (some 30), .mv 30 (.s 0), false⟩,
    ⟨(some (29, false)), (some 31), .mv 31 (.s 5), false⟩,
    ⟨(some (29, false)), (some 32), .ixs 32 (.s 30) (.s 31), false⟩,
    ⟨(some (29, false)), (some 33), .bin 33 .gtr (.s 32) (.k (Value.int .u8 57)), false⟩,
    ⟨none, (some 34), .pk 34 (.s 29) (.k (Value.bool true)) (.s 33), true⟩]))
  (.cond (.s 34) (.seq (.ops [⟨none, (some 2), .mv 2 (.k (Value.int .i64 0)), false⟩,
    ⟨none, (some 3), .mv 3 (.k (Value.int .i64 3)), false⟩])
  .ret) .skip))
  (.seq (.keep [0, 4, 5]) (.ops [⟨none, (some 35), .mv 35 (.s 4), false⟩,
    ⟨none, (some 36), .binc 36 .mul (.s 35) (.k (Value.int .i64 10)), false⟩,
    ⟨none, (some 37), .mv 37 (.s 0), false⟩,
    ⟨none, (some 38), .mv 38 (.s 5), false⟩,
    ⟨none, (some 39), .ixs 39 (.s 37) (.s 38), false⟩,
    ⟨none, (some 40), .bin 40 .sub (.s 39) (.k (Value.int .u8 48)), false⟩,
    ⟨none, (some 41), .cvi 41 .i64 (.s 40), false⟩,
    ⟨none, (some 42), .binc 42 .add (.s 36) (.s 41), false⟩,
    ⟨none, (some 43), .mm 43 true (.s 42) [(.k (Value.int .i64 2147483648))], false⟩,
    ⟨none, (some 4), .mv 4 (.s 43), true⟩]))))
  (.seq (.keep [0, 4, 5]) (.ops [⟨none, (some 23), .mv 23 (.s 5), false⟩,
    ⟨none, (some 24), .binc 24 .add (.s 23) (.k (Value.int .i64 1)), false⟩,
    ⟨none, (some 5), .mv 5 (.s 24), false⟩])))))))
  (.seq (.seq (.ops [⟨none, (some 44), .mv 44 (.s 4), false⟩,
    ⟨none, (some 45), .bin 45 .gtr (.s 44) (.k (Value.int .i64 2147483647)), false⟩])
  (.cond (.s 45) (.seq (.ops [⟨none, (some 2), .mv 2 (.k (Value.int .i64 0)), false⟩,
    ⟨none, (some 3), .mv 3 (.k (Value.int .i64 2)), false⟩])
  .ret) .skip))
  (.seq (.seq (.keep [4]) (.ops [⟨none, (some 46), .mv 46 (.s 4), false⟩,
    ⟨none, (some 2), .mv 2 (.s 46), false⟩,
    ⟨none, (some 3), .mv 3 (.k (Value.int .i64 0)), false⟩]))
  .ret))))))
theorem cc31 : (Tryd.f31.body).bind (cc Tryd.prog Tryd.f31.ntmps A31) = some S31 := by kernel_rfl
def R31 : List RR := [.sl 2, .sl 3]
theorem cr31 : Tryd.f31.results.toList.map (crr Tryd.prog) = R31.map some := by kernel_rfl
theorem nm31 : (Tryd.f31.name == "runtime.NumGoroutine") = false := by kernel_rfl
theorem fn31 : Tryd.prog.funcs[31]? = some Tryd.f31 := by kernel_rfl
theorem bd31 : ∃ b, Tryd.f31.body = some b ∧ cc Tryd.prog Tryd.f31.ntmps A31 b = some S31 := Option.bind_eq_some_iff.1 cc31
theorem sd31 {G : World → Prop} {T : FuncId → Contract} {C : Contract} (hT : ∀ f, Sound G Tryd.prog f (T f)) (hl : C.lawful) (hC : ∀ args st K, C.wp args st K → args.length ≤ 47 ∧ ∃ os op, xv T st.n S31 (st0 args st) (retK R31 st.n os K) (panK st.n op K)) : Sound G Tryd.prog 31 C := by
  obtain ⟨b, hb, hc⟩ := bd31
  rw [xv_eq] at hC
  exact sound_of_ev mo fn31 hb nm31 hc cr31 hT hl hC

end Go.Proofs.YtpbkdcfjlbdgfaaDoor
