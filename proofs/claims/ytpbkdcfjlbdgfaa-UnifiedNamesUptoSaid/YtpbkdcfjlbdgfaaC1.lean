/- The compiled code of functions, by program (gen.py): each theorem says that the loaded program compiles to it. -/
import Derived.Test.YtpbkdcfjlbdgfaaEvU
import Derived.Test.YtpbkdcfjlbdgfaaProg
set_option linter.unusedVariables false
namespace Go.Proofs.Ytpbkdcfjlbdgfaa
open Go Go.Ev
set_option maxRecDepth 100000
theorem mo : Try.prog.follows .mixedOrders = true := by kernel_rfl

/-! 3: redline/redlinelaw01.NumQuotes -/
def A3 : Ann := ⟨fun _ _ => 0, fun _ => none, fun r => if r = 1 then some (false, [0, 1]) else if r = 2 then some (false, [0, 1, 5, 6, 7]) else if r = 3 then some (false, [0, 5, 6, 7, 8, 9, 10]) else none, fun _ => []⟩
def S3 : SCode :=
  (.seq (.ops [⟨none, (some 4), .mv 4 (.k (Value.bool false)), false⟩])
  (.seq (.seq (.keep [0, 1]) (.ops [⟨none, (some 12), .mv 12 (.s 1), false⟩,
    ⟨none, (some 13), .call (some 13) 5 false [(.s 12)], false⟩,
    ⟨none, (some 11), .mv 11 (.s 13), false⟩,
    ⟨none, (some 14), .ex 14 (.s 11) 0, false⟩,
    ⟨none, (some 15), .ex 15 (.s 11) 1, false⟩,
    ⟨none, (some 16), .ex 16 (.s 11) 2, false⟩,
    ⟨none, (some 5), .mv 5 (.s 14), false⟩,
    ⟨none, (some 6), .mv 6 (.s 15), false⟩,
    ⟨none, (some 7), .mv 7 (.s 16), false⟩]))
  (.seq (.seq (.keep [0, 1, 5, 6, 7]) (.ops [⟨none, (some 18), .mv 18 (.s 1), false⟩,
    ⟨none, (some 19), .call (some 19) 6 false [(.s 18)], false⟩,
    ⟨none, (some 17), .mv 17 (.s 19), false⟩,
    ⟨none, (some 20), .ex 20 (.s 17) 0, false⟩,
    ⟨none, (some 21), .ex 21 (.s 17) 1, false⟩,
    ⟨none, (some 22), .ex 22 (.s 17) 2, false⟩,
    ⟨none, (some 8), .mv 8 (.s 20), false⟩,
    ⟨none, (some 9), .mv 9 (.s 21), false⟩,
    ⟨none, (some 10), .mv 10 (.s 22), false⟩]))
  (.seq (.seq (.keep [0, 5, 6, 7, 8, 9, 10]) (.ops [⟨none, (some 23), .mv 23 (.s 0), false⟩,
    ⟨none, (some 24), .call (some 24) 7 false [(.s 23)], false⟩,
    ⟨none, (some 25), .mv 25 (.s 0), false⟩,
    ⟨none, (some 26), .call (some 26) 8 false [(.s 25)], false⟩,
    ⟨none, (some 27), .bin 27 .eql (.s 24) (.s 26), false⟩,
    ⟨none, (some 28), .mv 28 (.s 27), false⟩,
    ⟨(some (28, true)), (some 29), .mv 29 (.s 5), false⟩,
    ⟨(some (28, true)), (some 30), .mv 30 (.s 8), false⟩,
    ⟨(some (28, true)), (some 31), .bin 31 .eql (.s 29) (.s 30), false⟩,
    ⟨none, (some 32), .pk 32 (.s 28) (.s 31) (.k (Value.bool false)), true⟩,
    ⟨none, (some 33), .mv 33 (.s 32), false⟩,
    ⟨(some (33, true)), (some 34), .mv 34 (.s 6), false⟩,
    ⟨(some (33, true)), (some 35), .mv 35 (.s 9), false⟩,
    ⟨(some (33, true)), (some 36), .bin 36 .eql (.s 34) (.s 35), false⟩,
    ⟨none, (some 37), .pk 37 (.s 33) (.s 36) (.k (Value.bool false)), false⟩,
    ⟨none, (some 38), .mv 38 (.s 37), false⟩,
    ⟨(some (38, true)), (some 39), .mv 39 (.s 7), false⟩,
    ⟨(some (38, true)), (some 40), .mv 40 (.s 10), false⟩,
    ⟨(some (38, true)), (some 41), .bin 41 .eql (.s 39) (.s 40), false⟩,
    ⟨none, (some 42), .pk 42 (.s 38) (.s 41) (.k (Value.bool false)), true⟩,
    ⟨none, (some 4), .mv 4 (.s 42), false⟩]))
  .ret))))
theorem cc3 : (Try.f3.body).bind (cc Try.prog Try.f3.ntmps A3) = some S3 := by kernel_rfl
def R3 : List RR := [.sl 4]
theorem cr3 : Try.f3.results.toList.map (crr Try.prog) = R3.map some := by kernel_rfl
theorem nm3 : (Try.f3.name == "runtime.NumGoroutine") = false := by kernel_rfl
theorem fn3 : Try.prog.funcs[3]? = some Try.f3 := by kernel_rfl
theorem bd3 : ∃ b, Try.f3.body = some b ∧ cc Try.prog Try.f3.ntmps A3 b = some S3 := Option.bind_eq_some_iff.1 cc3
theorem sd3 {T : FuncId → Contract} {C : Contract} (hT : ∀ f, Sound Try.prog f (T f)) (hl : C.lawful) (hC : ∀ args st K, C.wp args st K → args.length ≤ 43 ∧ ∃ os op, xv T st.n S3 (st0 args st) (retK R3 st.n os K) (panK st.n op K)) : Sound Try.prog 3 C := by
  obtain ⟨b, hb, hc⟩ := bd3
  rw [xv_eq] at hC
  exact sound_of_ev mo fn3 hb nm3 hc cr3 hT hl hC

/-! 4: redline/redlinelaw16.UnifiedNames -/
def A4 : Ann := ⟨fun r i => if r = 6 ∧ i = 9 then 1 else 0, fun _ => none, fun r => if r = 1 then some (false, [0, 1]) else if r = 2 then some (false, [0, 1, 5, 6]) else if r = 3 then some (false, [0, 5, 6, 7, 8]) else if r = 5 then some (false, [0]) else if r = 6 then some (false, [0, 9, 10]) else none, fun _ => []⟩
def S4 : SCode :=
  (.seq (.ops [⟨none, (some 4), .mv 4 (.k (Value.bool false)), false⟩])
  (.seq (.seq (.keep [0, 1]) (.ops [⟨none, (some 12), .mv 12 (.s 1), false⟩,
    ⟨none, (some 13), .call (some 13) 9 false [(.s 12)], false⟩,
    ⟨none, (some 11), .mv 11 (.s 13), false⟩,
    ⟨none, (some 14), .ex 14 (.s 11) 0, false⟩,
    ⟨none, (some 15), .ex 15 (.s 11) 1, false⟩,
    ⟨none, (some 5), .mv 5 (.s 14), false⟩,
    ⟨none, (some 6), .mv 6 (.s 15), false⟩]))
  (.seq (.seq (.keep [0, 1, 5, 6]) (.ops [⟨none, (some 17), .mv 17 (.s 1), false⟩,
    ⟨none, (some 18), .call (some 18) 10 false [(.s 17)], false⟩,
    ⟨none, (some 16), .mv 16 (.s 18), false⟩,
    ⟨none, (some 19), .ex 19 (.s 16) 0, false⟩,
    ⟨none, (some 20), .ex 20 (.s 16) 1, false⟩,
    ⟨none, (some 7), .mv 7 (.s 19), false⟩,
    ⟨none, (some 8), .mv 8 (.s 20), false⟩]))
  (.seq (.seq (.seq (.keep [0, 5, 6, 7, 8]) (.ops [⟨none, (some 21), .mv 21 (.s 0), false⟩,
    ⟨none, (some 22), .call (some 22) 11 false [(.s 21)], false⟩,
    ⟨none, (some 23), .mv 23 (.s 0), false⟩,
    ⟨none, (some 24), .call (some 24) 12 false [(.s 23)], false⟩,
    ⟨none, (some 25), .bin 25 .neq (.s 22) (.s 24), false⟩,
    ⟨none, (some 26), .mv 26 (.s 25), false⟩,
    ⟨(some (26, false)), (some 27), .mv 27 (.s 5), false⟩,
    ⟨(some (26, false)), (some 28), .mv 28 (.s 7), false⟩,
    ⟨(some (26, false)), (some 29), .bin 29 .neq (.s 27) (.s 28), false⟩,
    ⟨none, (some 30), .pk 30 (.s 26) (.k (Value.bool true)) (.s 29), true⟩,
    ⟨none, (some 31), .mv 31 (.s 30), false⟩,
    ⟨(some (31, false)), (some 32), .mv 32 (.s 6), false⟩,
    ⟨(some (31, false)), (some 33), .mv 33 (.s 8), false⟩,
    ⟨(some (31, false)), (some 34), .bin 34 .neq (.s 32) (.s 33), false⟩,
    ⟨none, (some 35), .pk 35 (.s 31) (.k (Value.bool true)) (.s 34), false⟩]))
  (.cond (.s 35) (.seq (.ops [⟨none, (some 4), .mv 4 (.k (Value.bool false)), false⟩])
  .ret) .skip))
  (.seq (.seq (.keep [0]) (.ops [⟨none, (some 37), .mv 37 (.s 0), false⟩,
    ⟨none, (some 38), .call (some 38) 11 false [(.s 37)], false⟩,
    ⟨none, (some 39), .call (some 39) 9 false [(.s 38)], false⟩,
    ⟨none, (some 36), .mv 36 (.s 39), false⟩,
    ⟨none, (some 40), .ex 40 (.s 36) 0, false⟩,
    ⟨none, (some 41), .ex 41 (.s 36) 1, false⟩,
    ⟨none, (some 9), .mv 9 (.s 40), false⟩,
    ⟨none, (some 10), .mv 10 (.s 41), false⟩]))
  (.seq (.seq (.keep [0, 9, 10]) (.ops [⟨none, (some 42), .mv 42 (.s 0), false⟩,
    ⟨none, (some 43), .lens 43 (.s 42), false⟩,
    ⟨none, (some 44), .bin 44 .gtr (.s 43) (.k (Value.int .i64 64)), false⟩,
    ⟨none, (some 45), .mv 45 (.s 44), false⟩,
    ⟨(some (45, true)), (some 46), .mv 46 (.s 10), false⟩,
    ⟨(some (45, true)), (some 47), .bin 47 .eql (.s 46) (.k (Value.int .i64 253)), false⟩,
    ⟨none, (some 48), .pk 48 (.s 45) (.s 47) (.k (Value.bool false)), false⟩,
    ⟨none, (some 49), .mv 49 (.s 48), false⟩,
    ⟨(some (49, false)), (some 50), .mv 50 (.s 0), false⟩,
    ⟨(some (49, false)), (some 51), .lens 51 (.s 50), true⟩,
    ⟨(some (49, false)), (some 52), .bin 52 .leq (.s 51) (.k (Value.int .i64 64)), false⟩,
    ⟨(some (49, false)), (some 53), .mv 53 (.s 52), false⟩,
    ⟨(some (53, true)), (some 54), .mv 54 (.s 10), false⟩,
    ⟨(some (53, true)), (some 55), .bin 55 .eql (.s 54) (.k (Value.int .i64 0)), false⟩,
    ⟨(some (49, false)), (some 56), .pk 56 (.s 53) (.s 55) (.k (Value.bool false)), false⟩,
    ⟨(some (49, false)), (some 57), .mv 57 (.s 56), false⟩,
    ⟨(some (57, true)), (some 58), .mv 58 (.s 9), false⟩,
    ⟨(some (57, true)), (some 59), .mv 59 (.s 0), false⟩,
    ⟨(some (57, true)), (some 60), .bin 60 .eql (.s 58) (.s 59), false⟩,
    ⟨(some (49, false)), (some 61), .pk 61 (.s 57) (.s 60) (.k (Value.bool false)), true⟩,
    ⟨none, (some 62), .pk 62 (.s 49) (.k (Value.bool true)) (.s 61), false⟩,
    ⟨none, (some 4), .mv 4 (.s 62), false⟩]))
  .ret))))))
theorem cc4 : (Try.f4.body).bind (cc Try.prog Try.f4.ntmps A4) = some S4 := by kernel_rfl
def R4 : List RR := [.sl 4]
theorem cr4 : Try.f4.results.toList.map (crr Try.prog) = R4.map some := by kernel_rfl
theorem nm4 : (Try.f4.name == "runtime.NumGoroutine") = false := by kernel_rfl
theorem fn4 : Try.prog.funcs[4]? = some Try.f4 := by kernel_rfl
theorem bd4 : ∃ b, Try.f4.body = some b ∧ cc Try.prog Try.f4.ntmps A4 b = some S4 := Option.bind_eq_some_iff.1 cc4
theorem sd4 {T : FuncId → Contract} {C : Contract} (hT : ∀ f, Sound Try.prog f (T f)) (hl : C.lawful) (hC : ∀ args st K, C.wp args st K → args.length ≤ 63 ∧ ∃ os op, xv T st.n S4 (st0 args st) (retK R4 st.n os K) (panK st.n op K)) : Sound Try.prog 4 C := by
  obtain ⟨b, hb, hc⟩ := bd4
  rw [xv_eq] at hC
  exact sound_of_ev mo fn4 hb nm4 hc cr4 hT hl hC

/-! 5: redline/num.Unquote -/
def A5 : Ann := ⟨fun r i => if r = 4 ∧ i = 0 then 7 else 0, fun _ => none, fun r => if r = 1 then some (false, [0]) else if r = 3 then some (false, []) else if r = 6 then some (false, [5, 7]) else if r = 7 then some (false, [5, 7, 8]) else if r = 8 then some (false, [5, 7, 8]) else if r = 9 then some (false, [5, 7, 8, 9, 10]) else if r = 10 then some (false, []) else if r = 11 then some (false, [5, 7, 9]) else if r = 12 then some (false, [5, 7]) else if r = 13 then some (false, [5, 7, 8]) else if r = 14 then some (false, [5, 7]) else if r = 15 then some (false, [5, 7, 8]) else if r = 16 then some (false, [5, 7, 8]) else if r = 17 then some (false, []) else none, fun r => if r = 5 then [5, 7] else []⟩
def S5 : SCode :=
  (.seq (.ops [⟨none, (some 2), .mv 2 (.k (Value.string ⟨#[]⟩)), false⟩,
    ⟨none, (some 3), .mv 3 (.k (Value.string ⟨#[]⟩)), false⟩,
    ⟨none, (some 4), .mv 4 (.k (Value.int .i64 0)), false⟩])
  (.seq (.seq (.keep [0]) (.ops [⟨none, (some 12), .mv 12 (.s 0), false⟩,
    ⟨none, (some 13), .call (some 13) 13 false [(.s 12), (.k (Value.string ⟨#[34]⟩))], false⟩,
    ⟨none, (some 11), .mv 11 (.s 13), false⟩,
    ⟨none, (some 14), .ex 14 (.s 11) 0, false⟩,
    ⟨none, (some 15), .ex 15 (.s 11) 1, false⟩,
    ⟨none, (some 5), .mv 5 (.s 14), false⟩,
    ⟨none, (some 6), .mv 6 (.s 15), false⟩]))
  (.seq (.seq (.ops [⟨none, (some 16), .mv 16 (.s 6), false⟩,
    ⟨none, (some 17), .not 17 (.s 16), false⟩])
  (.cond (.s 17) (.seq (.seq (.keep []) (.ops [⟨none, (some 2), .mv 2 (.k (Value.string ⟨#[]⟩)), false⟩,
    ⟨none, (some 3), .mv 3 (.k (Value.string ⟨#[]⟩)), false⟩,
    ⟨none, (some 4), .mv 4 (.k (Value.int .i64 3)), false⟩]))
  .ret) .skip))
  (.seq (.ops [⟨none, (some 7), .nr 7 5 1, false⟩])
  (.seq (.block 0 (.loop [5, 7] (.seq (.seq (.ops [⟨none, (some 18), .mv 18 (.s 5), false⟩,
    ⟨none, (some 19), .bin 19 .neq (.s 18) (.k (Value.string ⟨#[]⟩)), false⟩])
  (.cond (.s 19) .skip (.exit 0)))
  (.block 1 (.seq (.seq (.keep [5, 7]) (.ops [⟨none, (some 20), .mv 20 (.s 5), false⟩,
    ⟨none, (some 21), .ixs 21 (.s 20) (.k (Value.int .i64 0)), false⟩,
    ⟨none, (some 8), .mv 8 (.s 21), false⟩]))
  (.seq (.seq (.keep [5, 7, 8]) (.ops [⟨none, (some 22), .mv 22 (.s 5), false⟩,
    ⟨none, (some 23), .sls 23 (.s 22) (some (.k (Value.int .i64 1))) none, false⟩,
    ⟨none, (some 5), .mv 5 (.s 23), false⟩]))
  (.block 2 (.seq (.seq (.keep [5, 7, 8]) (.ops [⟨none, (some 42), .mv 42 (.s 8), false⟩,
    ⟨none, (some 43), .bin 43 .eql (.s 42) (.k (Value.int .u8 34)), false⟩,
    ⟨none, (some 41), .mv 41 (.s 43), false⟩]))
  (.cond (.s 41) (.seq (.seq (.keep [5, 7]) (.ops [⟨none, (some 44), .mv 44 (.s 7), false⟩,
    ⟨none, (some 45), .b2s 45 (.s 44), false⟩,
    ⟨none, (some 46), .mv 46 (.s 5), false⟩,
    ⟨none, (some 2), .mv 2 (.s 45), false⟩,
    ⟨none, (some 3), .mv 3 (.s 46), false⟩,
    ⟨none, (some 4), .mv 4 (.k (Value.int .i64 0)), false⟩]))
  .ret) (.seq (.seq (.keep [5, 7, 8]) (.ops [⟨none, (some 48), .mv 48 (.s 8), false⟩,
    ⟨none, (some 49), .call (some 49) 14 false [(.s 48)], false⟩,
    ⟨none, (some 47), .mv 47 (.s 49), false⟩]))
  (.cond (.s 47) (.seq (.keep [5, 7, 8]) (.ops [⟨none, (some 50), .mv 50 (.s 7), false⟩,
    ⟨none, (some 51), .mv 51 (.s 8), false⟩,
    ⟨none, (some 52), .bs 52 5 1 [(.s 51)], false⟩,
    ⟨none, (some 53), .ap 53 5 1 1 (.s 50) (.s 52), false⟩,
    ⟨none, (some 7), .mv 7 (.s 53), false⟩])) (.seq (.seq (.keep [5, 7, 8]) (.ops [⟨none, (some 25), .mv 25 (.s 5), false⟩,
    ⟨none, (some 26), .call (some 26) 15 false [(.s 25)], false⟩,
    ⟨none, (some 24), .mv 24 (.s 26), false⟩,
    ⟨none, (some 27), .ex 27 (.s 24) 0, false⟩,
    ⟨none, (some 28), .ex 28 (.s 24) 1, false⟩,
    ⟨none, (some 9), .mv 9 (.s 27), false⟩,
    ⟨none, (some 10), .mv 10 (.s 28), false⟩]))
  (.seq (.seq (.seq (.keep [5, 7, 8, 9, 10]) (.ops [⟨none, (some 29), .mv 29 (.s 8), false⟩,
    ⟨none, (some 30), .bin 30 .neq (.s 29) (.k (Value.int .u8 92)), false⟩,
    ⟨none, (some 31), .mv 31 (.s 30), false⟩,
    ⟨(some (31, false)), (some 32), .mv 32 (.s 10), false⟩,
    ⟨(some (31, false)), (some 33), .not 33 (.s 32), false⟩,
    ⟨none, (some 34), .pk 34 (.s 31) (.k (Value.bool true)) (.s 33), false⟩]))
  (.cond (.s 34) (.seq (.seq (.keep []) (.ops [⟨none, (some 2), .mv 2 (.k (Value.string ⟨#[]⟩)), false⟩,
    ⟨none, (some 3), .mv 3 (.k (Value.string ⟨#[]⟩)), false⟩,
    ⟨none, (some 4), .mv 4 (.k (Value.int .i64 3)), false⟩]))
  .ret) .skip))
  (.seq (.seq (.keep [5, 7, 9]) (.ops [⟨none, (some 35), .mv 35 (.s 7), false⟩,
    ⟨none, (some 36), .mv 36 (.s 9), false⟩,
    ⟨none, (some 37), .bs 37 5 1 [(.s 36)], false⟩,
    ⟨none, (some 38), .ap 38 5 1 1 (.s 35) (.s 37), false⟩,
    ⟨none, (some 7), .mv 7 (.s 38), false⟩]))
  (.seq (.keep [5, 7]) (.ops [⟨none, (some 39), .mv 39 (.s 5), false⟩,
    ⟨none, (some 40), .sls 40 (.s 39) (some (.k (Value.int .i64 2))) none, false⟩,
    ⟨none, (some 5), .mv 5 (.s 40), false⟩]))))))))))))))))
  (.seq (.seq (.keep []) (.ops [⟨none, (some 2), .mv 2 (.k (Value.string ⟨#[]⟩)), false⟩,
    ⟨none, (some 3), .mv 3 (.k (Value.string ⟨#[]⟩)), false⟩,
    ⟨none, (some 4), .mv 4 (.k (Value.int .i64 3)), false⟩]))
  .ret))))))
theorem cc5 : (Try.f5.body).bind (cc Try.prog Try.f5.ntmps A5) = some S5 := by kernel_rfl
def R5 : List RR := [.sl 2, .sl 3, .sl 4]
theorem cr5 : Try.f5.results.toList.map (crr Try.prog) = R5.map some := by kernel_rfl
theorem nm5 : (Try.f5.name == "runtime.NumGoroutine") = false := by kernel_rfl
theorem fn5 : Try.prog.funcs[5]? = some Try.f5 := by kernel_rfl
theorem bd5 : ∃ b, Try.f5.body = some b ∧ cc Try.prog Try.f5.ntmps A5 b = some S5 := Option.bind_eq_some_iff.1 cc5
theorem sd5 {T : FuncId → Contract} {C : Contract} (hT : ∀ f, Sound Try.prog f (T f)) (hl : C.lawful) (hC : ∀ args st K, C.wp args st K → args.length ≤ 54 ∧ ∃ os op, xv T st.n S5 (st0 args st) (retK R5 st.n os K) (panK st.n op K)) : Sound Try.prog 5 C := by
  obtain ⟨b, hb, hc⟩ := bd5
  rw [xv_eq] at hC
  exact sound_of_ev mo fn5 hb nm5 hc cr5 hT hl hC

/-! 6: redline/redlineref01.Unquote -/
def A6 : Ann := ⟨fun r i => if r = 3 ∧ i = 0 then 7 else if r = 12 ∧ i = 8 then 1 else if r = 12 ∧ i = 16 then 1 else if r = 12 ∧ i = 24 then 1 else if r = 12 ∧ i = 32 then 1 else if r = 12 ∧ i = 38 then 1 else if r = 12 ∧ i = 41 then 1 else 0, fun r => if r = 9 then some ([0, 1, 2, 3, 4, 5, 6, 7, 8, 9, 10, 11, 12, 13, 14, 15], [(0, true), (2, true), (3, true), (4, true), (5, true), (1, false), (6, true), (7, true), (8, true)]) else if r = 13 then some ([0, 1, 2, 3, 4, 5, 6, 7, 8, 9, 10, 11, 12, 13, 14, 15], [(0, true), (1, true), (2, true), (3, true), (4, true), (7, true), (8, true), (9, true), (10, true), (5, false), (6, true), (11, false), (12, true), (13, true), (14, false), (15, false), (16, true)]) else if r = 12 then some ([0, 1, 2, 3, 4, 5, 6, 7, 8, 9, 10, 11, 12, 13, 14, 15], [(0, true), (1, true), (2, true), (3, true), (4, true), (5, true), (6, true), (7, true), (8, true), (9, true), (10, true), (11, true), (12, true), (13, true), (14, true), (15, true), (16, false), (17, true), (18, true), (19, true), (20, true), (21, true), (22, true), (23, true), (24, false), (25, true), (26, true), (27, true), (28, true), (29, true), (30, true), (31, true), (34, true), (35, true), (36, true), (37, true), (32, false), (33, true), (38, false), (39, true), (40, true), (41, false), (42, true), (43, true), (44, true)]) else none, fun r => if r = 1 then some (false, [0]) else if r = 2 then some (false, []) else if r = 5 then some (false, [0, 5, 6]) else if r = 6 then some (false, [0, 5, 6]) else if r = 7 then some (false, []) else if r = 8 then some (false, [0, 5, 6]) else if r = 9 then some (false, [0, 5, 6]) else if r = 10 then some (false, [0, 5, 6]) else if r = 11 then some (false, [0, 5, 6]) else if r = 12 then some (false, [0, 5, 6]) else if r = 13 then some (false, [0, 5, 6]) else if r = 14 then some (false, [0, 5, 6]) else if r = 15 then some (false, []) else none, fun r => if r = 5 then [0, 5, 6] else []⟩
def S6 : SCode :=
  (.seq (.ops [⟨none, (some 2), .mv 2 (.k (Value.string ⟨#[]⟩)), false⟩,
    ⟨none, (some 3), .mv 3 (.k (Value.string ⟨#[]⟩)), false⟩,
    ⟨none, (some 4), .mv 4 (.k (Value.int .i64 0)), false⟩])
  (.seq (.seq (.seq (.keep [0]) (.ops [⟨none, (some 7), .mv 7 (.s 0), false⟩,
    ⟨none, (some 8), .lens 8 (.s 7), false⟩,
    ⟨none, (some 9), .bin 9 .eql (.s 8) (.k (Value.int .i64 0)), false⟩,
    ⟨none, (some 10), .mv 10 (.s 9), false⟩,
    ⟨(some (10, false)), (some 11), .mv 11 (.s 0), false⟩,
    ⟨(some (10, false)), (some 12), .ixs 12 (.s 11) (.k (Value.int .i64 0)), false⟩,
    ⟨(some (10, false)), (some 13), .bin 13 .neq (.s 12) (.k (Value.int .u8 34)), false⟩,
    ⟨none, (some 14), .pk 14 (.s 10) (.k (Value.bool true)) (.s 13), false⟩]))
  (.cond (.s 14) (.seq (.seq (.keep []) (.ops [⟨none, (some 2), .mv 2 (.k (Value.string ⟨#[]⟩)), false⟩,
    ⟨none, (some 3), .mv 3 (.k (Value.string ⟨#[]⟩)), false⟩,
    ⟨none, (some 4), .mv 4 (.k (Value.int .i64 3)), false⟩]))
  .ret) .skip))
  (.seq (.ops [⟨none, (some 5), .nr 5 5 1, false⟩])
  (.seq (.seq (.ops [⟨none, (some 6), .mv 6 (.k (Value.int .i64 1)), false⟩])
  (.block 0 (.loop [0, 5, 6] (.seq (.seq (.seq (.keep [0, 5, 6]) (.ops [⟨none, (some 15), .mv 15 (.s 6), false⟩,
    ⟨none, (some 16), .mv 16 (.s 0), false⟩,
    ⟨none, (some 17), .lens 17 (.s 16), false⟩,
    ⟨none, (some 18), .bin 18 .lss (.s 15) (.s 17), false⟩]))
  (.cond (.s 18) .skip (.exit 0)))
  (.seq (.block 1 (.block 2 (.seq (.seq (.keep [0, 5, 6]) (.ops [⟨none, (some 22), .mv 22 (.s 0), false⟩,
    ⟨none, (some 23), .mv 23 (.s 6), false⟩,
    ⟨none, (some 24), .ixs 24 (.s 22) (.s 23), false⟩,
    ⟨none, (some 25), .bin 25 .eql (.s 24) (.k (Value.int .u8 34)), false⟩,
    ⟨none, (some 21), .mv 21 (.s 25), false⟩]))
  (.cond (.s 21) (.seq (.seq (.keep [0, 5, 6]) (.dr [0, 1, 2, 3, 4, 5, 6, 7, 8, 9, 10, 11, 12, 13, 14, 15] [(0, true, ⟨none, (some 26), .mv 26 (.s 5), false⟩),
    (2, true, ⟨none, (some 28), .mv 28 (.s 0), false⟩),
    (3, true, ⟨none, (some 29), .mv 29 (.s 6), false⟩),
    (4, true, ⟨none, (some 30), .binc 30 .add (.s 29) (.k (Value.int .i64 1)), false⟩),
    (5, true, ⟨none, (some 31), .sls 31 (.s 28) (some (.s 30)) none, false⟩),
    (1, false, ⟨none, (some 27), .b2s 27 (.s 26), false⟩),
    (6, true, ⟨none, (some 2), .mv 2 (.s 27), false⟩),
    (7, true, ⟨none, (some 3), .mv 3 (.s 31), false⟩),
    (8, true, ⟨none, (some 4), .mv 4 (.k (Value.int .i64 0)), false⟩)]))
  .ret) (.seq (.seq (.keep [0, 5, 6]) (.ops [⟨none, (some 33), .mv 33 (.s 0), false⟩,
    ⟨none, (some 34), .mv 34 (.s 6), false⟩,
    ⟨none, (some 35), .ixs 35 (.s 33) (.s 34), false⟩,
    ⟨none, (some 36), .call (some 36) 16 false [(.s 35)], false⟩,
    ⟨none, (some 32), .mv 32 (.s 36), false⟩]))
  (.cond (.s 32) (.seq (.keep [0, 5, 6]) (.ops [⟨none, (some 37), .mv 37 (.s 5), false⟩,
    ⟨none, (some 38), .mv 38 (.s 0), false⟩,
    ⟨none, (some 39), .mv 39 (.s 6), false⟩,
    ⟨none, (some 40), .ixs 40 (.s 38) (.s 39), false⟩,
    ⟨none, (some 41), .bs 41 5 1 [(.s 40)], false⟩,
    ⟨none, (some 42), .ap 42 5 1 1 (.s 37) (.s 41), false⟩,
    ⟨none, (some 5), .mv 5 (.s 42), false⟩])) (.seq (.seq (.keep [0, 5, 6]) (.dr [0, 1, 2, 3, 4, 5, 6, 7, 8, 9, 10, 11, 12, 13, 14, 15] [(0, true, ⟨none, (some 44), .mv 44 (.s 0), false⟩),
    (1, true, ⟨none, (some 45), .mv 45 (.s 6), false⟩),
    (2, true, ⟨none, (some 46), .ixs 46 (.s 44) (.s 45), false⟩),
    (3, true, ⟨none, (some 47), .bin 47 .eql (.s 46) (.k (Value.int .u8 92)), false⟩),
    (4, true, ⟨none, (some 48), .mv 48 (.s 47), false⟩),
    (5, true, ⟨(some (48, true)), (some 49), .mv 49 (.s 6), false⟩),
    (6, true, ⟨(some (48, true)), (some 50), .binc 50 .add (.s 49) (.k (Value.int .i64 2)), false⟩),
    (7, true, ⟨(some (48, true)), (some 51), .mv 51 (.s 0), false⟩),
    (8, true, ⟨(some (48, true)), (some 52), .lens 52 (.s 51), false⟩),
    (9, true, ⟨(some (48, true)), (some 53), .bin 53 .lss (.s 50) (.s 52), true⟩),
    (10, true, ⟨none, (some 54), .pk 54 (.s 48) (.s 53) (.k (Value.bool false)), false⟩),
    (11, true, ⟨none, (some 55), .mv 55 (.s 54), false⟩),
    (12, true, ⟨(some (55, true)), (some 56), .mv 56 (.s 0), false⟩),
    (13, true, ⟨(some (55, true)), (some 57), .mv 57 (.s 6), false⟩),
    (14, true, ⟨(some (55, true)), (some 58), .binc 58 .add (.s 57) (.k (Value.int .i64 1)), false⟩),
    (15, true, ⟨(some (55, true)), (some 59), .ixs 59 (.s 56) (.s 58), false⟩),
    (16, false, ⟨(some (55, true)), (some 60), .call (some 60) 17 true [(.s 59)], false⟩),
    (17, true, ⟨(some (55, true)), (some 61), .bin 61 .geq (.s 60) (.k (Value.int .i64 0)), false⟩),
    (18, true, ⟨none, (some 62), .pk 62 (.s 55) (.s 61) (.k (Value.bool false)), false⟩),
    (19, true, ⟨none, (some 63), .mv 63 (.s 62), true⟩),
    (20, true, ⟨(some (63, true)), (some 64), .mv 64 (.s 0), false⟩),
    (21, true, ⟨(some (63, true)), (some 65), .mv 65 (.s 6), false⟩),
    (22, true, ⟨(some (63, true)), (some 66), .binc 66 .add (.s 65) (.k (Value.int .i64 2)), false⟩),
    (23, true, ⟨(some (63, true)), (some 67), .ixs 67 (.s 64) (.s 66), false⟩),
    (24, false, ⟨(some (63, true)), (some 68), .call (some 68) 17 true [(.s 67)], false⟩),
    (25, true, ⟨(some (63, true)), (some 69), .bin 69 .geq (.s 68) (.k (Value.int .i64 0)), false⟩),
    (26, true, ⟨none, (some 70), .pk 70 (.s 63) (.s 69) (.k (Value.bool false)), false⟩),
    (27, true, ⟨none, (some 71), .mv 71 (.s 70), false⟩),
    (28, true, ⟨(some (71, true)), (some 72), .mv 72 (.s 0), false⟩),
    (29, true, ⟨(some (71, true)), (some 73), .mv 73 (.s 6), true⟩),
    (30, true, ⟨(some (71, true)), (some 74), .binc 74 .add (.s 73) (.k (Value.int .i64 1)), false⟩),
    (31, true, ⟨(some (71, true)), (some 75), .ixs 75 (.s 72) (.s 74), false⟩),
    (34, true, ⟨(some (71, true)), (some 78), .mv 78 (.s 0), false⟩),
    (35, true, ⟨(some (71, true)), (some 79), .mv 79 (.s 6), false⟩),
    (36, true, ⟨(some (71, true)), (some 80), .binc 80 .add (.s 79) (.k (Value.int .i64 2)), false⟩),
    (37, true, ⟨(some (71, true)), (some 81), .ixs 81 (.s 78) (.s 80), false⟩),
    (32, false, ⟨(some (71, true)), (some 76), .call (some 76) 17 true [(.s 75)], false⟩),
    (33, true, ⟨(some (71, true)), (some 77), .binc 77 .mul (.k (Value.int .i64 16)) (.s 76), false⟩),
    (38, false, ⟨(some (71, true)), (some 82), .call (some 82) 17 true [(.s 81)], false⟩),
    (39, true, ⟨(some (71, true)), (some 83), .binc 83 .add (.s 77) (.s 82), true⟩),
    (40, true, ⟨(some (71, true)), (some 84), .cvi 84 .u8 (.s 83), false⟩),
    (41, false, ⟨(some (71, true)), (some 85), .call (some 85) 16 true [(.s 84)], false⟩),
    (42, true, ⟨(some (71, true)), (some 86), .not 86 (.s 85), false⟩),
    (43, true, ⟨none, (some 87), .pk 87 (.s 71) (.s 86) (.k (Value.bool false)), false⟩),
    (44, true, ⟨none, (some 43), .mv 43 (.s 87), false⟩)]))
  (.cond (.s 43) (.seq (.seq (.keep [0, 5, 6]) (.dr [0, 1, 2, 3, 4, 5, 6, 7, 8, 9, 10, 11, 12, 13, 14, 15] [(0, true, ⟨none, (some 88), .mv 88 (.s 5), false⟩),
    (1, true, ⟨none, (some 89), .mv 89 (.s 0), false⟩),
    (2, true, ⟨none, (some 90), .mv 90 (.s 6), false⟩),
    (3, true, ⟨none, (some 91), .binc 91 .add (.s 90) (.k (Value.int .i64 1)), false⟩),
    (4, true, ⟨none, (some 92), .ixs 92 (.s 89) (.s 91), false⟩),
    (7, true, ⟨none, (some 95), .mv 95 (.s 0), false⟩),
    (8, true, ⟨none, (some 96), .mv 96 (.s 6), false⟩),
    (9, true, ⟨none, (some 97), .binc 97 .add (.s 96) (.k (Value.int .i64 2)), true⟩),
    (10, true, ⟨none, (some 98), .ixs 98 (.s 95) (.s 97), false⟩),
    (5, false, ⟨none, (some 93), .call (some 93) 17 false [(.s 92)], false⟩),
    (6, true, ⟨none, (some 94), .binc 94 .mul (.k (Value.int .i64 16)) (.s 93), false⟩),
    (11, false, ⟨none, (some 99), .call (some 99) 17 false [(.s 98)], false⟩),
    (12, true, ⟨none, (some 100), .binc 100 .add (.s 94) (.s 99), false⟩),
    (13, true, ⟨none, (some 101), .cvi 101 .u8 (.s 100), false⟩),
    (14, false, ⟨none, (some 102), .bs 102 5 1 [(.s 101)], false⟩),
    (15, false, ⟨none, (some 103), .ap 103 5 1 1 (.s 88) (.s 102), false⟩),
    (16, true, ⟨none, (some 5), .mv 5 (.s 103), false⟩)]))
  (.seq (.keep [0, 5, 6]) (.ops [⟨none, (some 104), .mv 104 (.s 6), false⟩,
    ⟨none, (some 105), .binc 105 .add (.s 104) (.k (Value.int .i64 2)), false⟩,
    ⟨none, (some 6), .mv 6 (.s 105), false⟩]))) (.seq (.seq (.keep []) (.ops [⟨none, (some 2), .mv 2 (.k (Value.string ⟨#[]⟩)), false⟩,
    ⟨none, (some 3), .mv 3 (.k (Value.string ⟨#[]⟩)), false⟩,
    ⟨none, (some 4), .mv 4 (.k (Value.int .i64 3)), false⟩]))
  .ret)))))))))
  (.seq (.keep [0, 5, 6]) (.ops [⟨none, (some 19), .mv 19 (.s 6), false⟩,
    ⟨none, (some 20), .binc 20 .add (.s 19) (.k (Value.int .i64 1)), false⟩,
    ⟨none, (some 6), .mv 6 (.s 20), false⟩])))))))
  (.seq (.seq (.keep []) (.ops [⟨none, (some 2), .mv 2 (.k (Value.string ⟨#[]⟩)), false⟩,
    ⟨none, (some 3), .mv 3 (.k (Value.string ⟨#[]⟩)), false⟩,
    ⟨none, (some 4), .mv 4 (.k (Value.int .i64 3)), false⟩]))
  .ret)))))
theorem cc6 : (Try.f6.body).bind (cc Try.prog Try.f6.ntmps A6) = some S6 := by kernel_rfl
def R6 : List RR := [.sl 2, .sl 3, .sl 4]
theorem cr6 : Try.f6.results.toList.map (crr Try.prog) = R6.map some := by kernel_rfl
theorem nm6 : (Try.f6.name == "runtime.NumGoroutine") = false := by kernel_rfl
theorem fn6 : Try.prog.funcs[6]? = some Try.f6 := by kernel_rfl
theorem bd6 : ∃ b, Try.f6.body = some b ∧ cc Try.prog Try.f6.ntmps A6 b = some S6 := Option.bind_eq_some_iff.1 cc6
theorem sd6 {T : FuncId → Contract} {C : Contract} (hT : ∀ f, Sound Try.prog f (T f)) (hl : C.lawful) (hC : ∀ args st K, C.wp args st K → args.length ≤ 106 ∧ ∃ os op, xv T st.n S6 (st0 args st) (retK R6 st.n os K) (panK st.n op K)) : Sound Try.prog 6 C := by
  obtain ⟨b, hb, hc⟩ := bd6
  rw [xv_eq] at hC
  exact sound_of_ev mo fn6 hb nm6 hc cr6 hT hl hC

/-! 7: redline/num.Quote -/
def A7 : Ann := ⟨fun r i => if r = 1 ∧ i = 0 then 7 else 0, fun r => if r = 9 then some ([0, 1, 2, 3, 4, 5, 6, 7, 8, 9, 10, 11, 12, 13, 14, 15], [(0, true), (1, true), (2, true), (3, true), (4, true), (5, true), (6, false), (7, false)]) else none, fun r => if r = 3 then some (false, [0, 3]) else if r = 6 then some (false, [0, 3, 4, 8, 9]) else if r = 9 then some (false, [0, 3, 5, 8, 9]) else none, fun r => if r = 4 then [0, 3, 8, 9] else []⟩
def S7 : SCode :=
  (.seq (.ops [⟨none, (some 2), .mv 2 (.k (Value.string ⟨#[]⟩)), false⟩])
  (.seq (.ops [⟨none, (some 3), .alb 3 38 5, false⟩])
  (.seq (.ops [⟨none, (some 6), .call (some 6) 18 false [(.s 3), (.k (Value.int .u8 34))], false⟩])
  (.seq (.seq (.seq (.keep [0, 3]) (.ops [⟨none, (some 7), .mv 7 (.s 0), false⟩,
    ⟨none, (some 8), .lens 8 (.s 7), false⟩,
    ⟨none, (some 9), .mv 9 (.k (Value.int .i64 0)), false⟩]))
  (.block 0 (.loop [0, 3, 8, 9] (.seq (.ops [⟨none, (some 10), .bin 10 .lss (.s 9) (.s 8), false⟩])
  (.seq (.cond (.s 10) .skip (.exit 0))
  (.seq (.block 1 (.seq (.ops [⟨none, (some 11), .mv 11 (.s 9), false⟩,
    ⟨none, (some 4), .mv 4 (.s 11), false⟩])
  (.seq (.seq (.keep [0, 3, 4, 8, 9]) (.ops [⟨none, (some 12), .mv 12 (.s 0), false⟩,
    ⟨none, (some 13), .mv 13 (.s 4), false⟩,
    ⟨none, (some 14), .ixs 14 (.s 12) (.s 13), false⟩,
    ⟨none, (some 5), .mv 5 (.s 14), false⟩]))
  (.seq (.ops [⟨none, (some 15), .mv 15 (.s 5), false⟩,
    ⟨none, (some 16), .call (some 16) 14 false [(.s 15)], false⟩])
  (.cond (.s 16) (.ops [⟨none, (some 17), .mv 17 (.s 5), false⟩,
    ⟨none, (some 18), .call (some 18) 18 false [(.s 3), (.s 17)], false⟩]) (.seq (.keep [0, 3, 5, 8, 9]) (.dr [0, 1, 2, 3, 4, 5, 6, 7, 8, 9, 10, 11, 12, 13, 14, 15] [(0, true, ⟨none, (some 19), .mv 19 (.s 5), false⟩),
    (1, true, ⟨none, (some 20), .bin 20 .shr (.s 19) (.k (Value.int .u64 4)), false⟩),
    (2, true, ⟨none, (some 21), .ixs 21 (.k (Value.string ⟨#[48, 49, 50, 51, 52, 53, 54, 55, 56, 57, 97, 98, 99, 100, 101, 102]⟩)) (.s 20), false⟩),
    (3, true, ⟨none, (some 22), .mv 22 (.s 5), false⟩),
    (4, true, ⟨none, (some 23), .bin 23 .and (.s 22) (.k (Value.int .u8 15)), false⟩),
    (5, true, ⟨none, (some 24), .ixs 24 (.k (Value.string ⟨#[48, 49, 50, 51, 52, 53, 54, 55, 56, 57, 97, 98, 99, 100, 101, 102]⟩)) (.s 23), false⟩),
    (6, false, ⟨none, (some 25), .bs 25 5 1 [(.k (Value.int .u8 92)), (.s 21), (.s 24)], false⟩),
    (7, false, ⟨none, (some 26), .call (some 26) 19 false [(.s 3), (.s 25)], false⟩)])))))))
  (.ops [⟨none, (some 27), .binc 27 .add (.s 9) (.k (Value.int .i64 1)), false⟩,
    ⟨none, (some 9), .mv 9 (.s 27), false⟩])))))))
  (.seq (.ops [⟨none, (some 28), .call (some 28) 18 false [(.s 3), (.k (Value.int .u8 34))], false⟩])
  (.seq (.ops [⟨none, (some 29), .call (some 29) 20 false [(.s 3)], false⟩,
    ⟨none, (some 2), .mv 2 (.s 29), false⟩])
  .ret))))))
theorem cc7 : (Try.f7.body).bind (cc Try.prog Try.f7.ntmps A7) = some S7 := by kernel_rfl
def R7 : List RR := [.sl 2]
theorem cr7 : Try.f7.results.toList.map (crr Try.prog) = R7.map some := by kernel_rfl
theorem nm7 : (Try.f7.name == "runtime.NumGoroutine") = false := by kernel_rfl
theorem fn7 : Try.prog.funcs[7]? = some Try.f7 := by kernel_rfl
theorem bd7 : ∃ b, Try.f7.body = some b ∧ cc Try.prog Try.f7.ntmps A7 b = some S7 := Option.bind_eq_some_iff.1 cc7
theorem sd7 {T : FuncId → Contract} {C : Contract} (hT : ∀ f, Sound Try.prog f (T f)) (hl : C.lawful) (hC : ∀ args st K, C.wp args st K → args.length ≤ 30 ∧ ∃ os op, xv T st.n S7 (st0 args st) (retK R7 st.n os K) (panK st.n op K)) : Sound Try.prog 7 C := by
  obtain ⟨b, hb, hc⟩ := bd7
  rw [xv_eq] at hC
  exact sound_of_ev mo fn7 hb nm7 hc cr7 hT hl hC

/-! 8: redline/redlineref01.Quote -/
def A8 : Ann := ⟨fun _ _ => 0, fun r => if r = 7 then some ([0, 1, 2, 3, 4, 5, 6, 7, 8, 9, 10, 11, 12, 13, 14, 15], [(0, true), (1, true), (2, true), (3, true), (4, true), (5, true), (6, true), (7, true), (8, true), (9, true), (10, true), (11, false), (12, false), (13, true)]) else none, fun r => if r = 3 then some (false, [0, 3, 4]) else if r = 4 then some (false, [0, 3, 4]) else if r = 5 then some (false, [0, 3, 4]) else if r = 6 then some (false, [0, 3, 4]) else if r = 7 then some (false, [0, 3, 4]) else if r = 8 then some (false, [3]) else none, fun r => if r = 3 then [0, 3, 4] else []⟩
def S8 : SCode :=
  (.seq (.ops [⟨none, (some 2), .mv 2 (.k (Value.string ⟨#[]⟩)), false⟩])
  (.seq (.ops [⟨none, (some 5), .bs 5 5 1 [(.k (Value.int .u8 34))], false⟩,
    ⟨none, (some 3), .mv 3 (.s 5), false⟩])
  (.seq (.seq (.ops [⟨none, (some 4), .mv 4 (.k (Value.int .i64 0)), false⟩])
  (.block 0 (.loop [0, 3, 4] (.seq (.seq (.seq (.keep [0, 3, 4]) (.ops [⟨none, (some 6), .mv 6 (.s 4), false⟩,
    ⟨none, (some 7), .mv 7 (.s 0), false⟩,
    ⟨none, (some 8), .lens 8 (.s 7), false⟩,
    ⟨none, (some 9), .bin 9 .lss (.s 6) (.s 8), false⟩]))
  (.cond (.s 9) .skip (.exit 0)))
  (.seq (.block 1 (.seq (.seq (.keep [0, 3, 4]) (.ops [⟨none, (some 12), .mv 12 (.s 0), false⟩,
    ⟨none, (some 13), .mv 13 (.s 4), false⟩,
    ⟨none, (some 14), .ixs 14 (.s 12) (.s 13), false⟩,
    ⟨none, (some 15), .call (some 15) 16 false [(.s 14)], false⟩]))
  (.cond (.s 15) (.seq (.keep [0, 3, 4]) (.ops [⟨none, (some 16), .mv 16 (.s 3), false⟩,
    ⟨none, (some 17), .mv 17 (.s 0), false⟩,
    ⟨none, (some 18), .mv 18 (.s 4), false⟩,
    ⟨none, (some 19), .ixs 19 (.s 17) (.s 18), false⟩,
    ⟨none, (some 20), .bs 20 5 1 [(.s 19)], false⟩,
    ⟨none, (some 21), .ap 21 5 1 1 (.s 16) (.s 20), false⟩,
    ⟨none, (some 3), .mv 3 (.s 21), false⟩])) (.seq (.keep [0, 3, 4]) (.dr [0, 1, 2, 3, 4, 5, 6, 7, 8, 9, 10, 11, 12, 13, 14, 15] [(0, true, ⟨none, (some 22), .mv 22 (.s 3), false⟩),
    (1, true, ⟨none, (some 23), .mv 23 (.s 0), false⟩),
    (2, true, ⟨none, (some 24), .mv 24 (.s 4), false⟩),
    (3, true, ⟨none, (some 25), .ixs 25 (.s 23) (.s 24), false⟩),
    (4, true, ⟨none, (some 26), .bin 26 .quo (.s 25) (.k (Value.int .u8 16)), false⟩),
    (5, true, ⟨none, (some 27), .ixs 27 (.k (Value.string ⟨#[48, 49, 50, 51, 52, 53, 54, 55, 56, 57, 97, 98, 99, 100, 101, 102]⟩)) (.s 26), false⟩),
    (6, true, ⟨none, (some 28), .mv 28 (.s 0), false⟩),
    (7, true, ⟨none, (some 29), .mv 29 (.s 4), false⟩),
    (8, true, ⟨none, (some 30), .ixs 30 (.s 28) (.s 29), false⟩),
    (9, true, ⟨none, (some 31), .bin 31 .rem (.s 30) (.k (Value.int .u8 16)), true⟩),
    (10, true, ⟨none, (some 32), .ixs 32 (.k (Value.string ⟨#[48, 49, 50, 51, 52, 53, 54, 55, 56, 57, 97, 98, 99, 100, 101, 102]⟩)) (.s 31), false⟩),
    (11, false, ⟨none, (some 33), .bs 33 5 1 [(.k (Value.int .u8 92)), (.s 27), (.s 32)], false⟩),
    (12, false, ⟨none, (some 34), .ap 34 5 1 1 (.s 22) (.s 33), false⟩),
    (13, true, ⟨none, (some 3), .mv 3 (.s 34), false⟩)])))))
  (.seq (.keep [0, 3, 4]) (.ops [⟨none, (some 10), .mv 10 (.s 4), false⟩,
    ⟨none, (some 11), .binc 11 .add (.s 10) (.k (Value.int .i64 1)), false⟩,
    ⟨none, (some 4), .mv 4 (.s 11), false⟩])))))))
  (.seq (.seq (.keep [3]) (.ops [⟨none, (some 35), .mv 35 (.s 3), false⟩,
    ⟨none, (some 36), .bs 36 5 1 [(.k (Value.int .u8 34))], false⟩,
    ⟨none, (some 37), .ap 37 5 1 1 (.s 35) (.s 36), false⟩,
    ⟨none, (some 38), .b2s 38 (.s 37), false⟩,
    ⟨none, (some 2), .mv 2 (.s 38), false⟩]))
  .ret))))
theorem cc8 : (Try.f8.body).bind (cc Try.prog Try.f8.ntmps A8) = some S8 := by kernel_rfl
def R8 : List RR := [.sl 2]
theorem cr8 : Try.f8.results.toList.map (crr Try.prog) = R8.map some := by kernel_rfl
theorem nm8 : (Try.f8.name == "runtime.NumGoroutine") = false := by kernel_rfl
theorem fn8 : Try.prog.funcs[8]? = some Try.f8 := by kernel_rfl
theorem bd8 : ∃ b, Try.f8.body = some b ∧ cc Try.prog Try.f8.ntmps A8 b = some S8 := Option.bind_eq_some_iff.1 cc8
theorem sd8 {T : FuncId → Contract} {C : Contract} (hT : ∀ f, Sound Try.prog f (T f)) (hl : C.lawful) (hC : ∀ args st K, C.wp args st K → args.length ≤ 39 ∧ ∃ os op, xv T st.n S8 (st0 args st) (retK R8 st.n os K) (panK st.n op K)) : Sound Try.prog 8 C := by
  obtain ⟨b, hb, hc⟩ := bd8
  rw [xv_eq] at hC
  exact sound_of_ev mo fn8 hb nm8 hc cr8 hT hl hC

/-! 9: redline/unified.Named -/
def A9 : Ann := ⟨fun r i => if r = 6 ∧ i = 5 then 1 else 0, fun _ => none, fun r => if r = 2 then some (false, [0, 4]) else if r = 4 then some (false, [0, 4]) else if r = 5 then some (false, [0]) else if r = 6 then some (false, [0, 4]) else if r = 8 then some (false, [4]) else none, fun _ => []⟩
def S9 : SCode :=
  (.seq (.ops [⟨none, (some 2), .mv 2 (.k (Value.string ⟨#[]⟩)), false⟩,
    ⟨none, (some 3), .mv 3 (.k (Value.int .i64 0)), false⟩])
  (.seq (.ops [⟨none, (some 5), .mv 5 (.s 0), false⟩,
    ⟨none, (some 4), .mv 4 (.s 5), false⟩])
  (.seq (.block 0 (.seq (.seq (.keep [0, 4]) (.ops [⟨none, (some 7), .mv 7 (.s 0), false⟩,
    ⟨none, (some 8), .bin 8 .eql (.s 7) (.k (Value.string ⟨#[47, 100, 101, 118, 47, 110, 117, 108, 108]⟩)), false⟩,
    ⟨none, (some 6), .mv 6 (.s 8), false⟩]))
  (.cond (.s 6) (.ops [⟨none, (some 4), .mv 4 (.k (Value.string ⟨#[]⟩)), false⟩]) (.seq (.seq (.keep [0, 4]) (.ops [⟨none, (some 10), .mv 10 (.s 0), false⟩,
    ⟨none, (some 11), .call (some 11) 21 false [(.s 10), (.k (Value.string ⟨#[34]⟩))], false⟩,
    ⟨none, (some 9), .mv 9 (.s 11), false⟩]))
  (.cond (.s 9) (.seq (.keep [0]) (.ops [⟨none, (some 13), .mv 13 (.s 0), false⟩,
    ⟨none, (some 14), .call (some 14) 5 false [(.s 13)], false⟩,
    ⟨none, (some 12), .mv 12 (.s 14), false⟩,
    ⟨none, (some 15), .ex 15 (.s 12) 0, false⟩,
    ⟨none, (some 16), .ex 16 (.s 12) 1, false⟩,
    ⟨none, (some 17), .ex 17 (.s 12) 2, false⟩,
    ⟨none, (some 4), .mv 4 (.s 15), false⟩])) .skip)))))
  (.seq (.seq (.seq (.keep [0, 4]) (.ops [⟨none, (some 18), .mv 18 (.s 4), false⟩,
    ⟨none, (some 19), .lens 19 (.s 18), false⟩,
    ⟨none, (some 20), .bin 20 .gtr (.s 19) (.k (Value.int .i64 64)), false⟩,
    ⟨none, (some 21), .mv 21 (.s 20), false⟩,
    ⟨(some (21, false)), (some 22), .mv 22 (.s 4), false⟩,
    ⟨(some (21, false)), (some 23), .call (some 23) 11 true [(.s 22)], false⟩,
    ⟨(some (21, false)), (some 24), .mv 24 (.s 0), false⟩,
    ⟨(some (21, false)), (some 25), .bin 25 .neq (.s 23) (.s 24), false⟩,
    ⟨none, (some 26), .pk 26 (.s 21) (.k (Value.bool true)) (.s 25), false⟩]))
  (.cond (.s 26) (.seq (.ops [⟨none, (some 2), .mv 2 (.k (Value.string ⟨#[]⟩)), false⟩,
    ⟨none, (some 3), .mv 3 (.k (Value.int .i64 253)), false⟩])
  .ret) .skip))
  (.seq (.seq (.keep [4]) (.ops [⟨none, (some 27), .mv 27 (.s 4), false⟩,
    ⟨none, (some 2), .mv 2 (.s 27), false⟩,
    ⟨none, (some 3), .mv 3 (.k (Value.int .i64 0)), false⟩]))
  .ret)))))
theorem cc9 : (Try.f9.body).bind (cc Try.prog Try.f9.ntmps A9) = some S9 := by kernel_rfl
def R9 : List RR := [.sl 2, .sl 3]
theorem cr9 : Try.f9.results.toList.map (crr Try.prog) = R9.map some := by kernel_rfl
theorem nm9 : (Try.f9.name == "runtime.NumGoroutine") = false := by kernel_rfl
theorem fn9 : Try.prog.funcs[9]? = some Try.f9 := by kernel_rfl
theorem bd9 : ∃ b, Try.f9.body = some b ∧ cc Try.prog Try.f9.ntmps A9 b = some S9 := Option.bind_eq_some_iff.1 cc9
theorem sd9 {T : FuncId → Contract} {C : Contract} (hT : ∀ f, Sound Try.prog f (T f)) (hl : C.lawful) (hC : ∀ args st K, C.wp args st K → args.length ≤ 28 ∧ ∃ os op, xv T st.n S9 (st0 args st) (retK R9 st.n os K) (panK st.n op K)) : Sound Try.prog 9 C := by
  obtain ⟨b, hb, hc⟩ := bd9
  rw [xv_eq] at hC
  exact sound_of_ev mo fn9 hb nm9 hc cr9 hT hl hC

/-! 10: redline/redlineref16.Named -/
def A10 : Ann := ⟨fun _ _ => 0, fun _ => none, fun r => if r = 1 then some (false, [0]) else none, fun _ => []⟩
def S10 : SCode :=
  (.seq (.ops [⟨none, (some 2), .mv 2 (.k (Value.string ⟨#[]⟩)), false⟩,
    ⟨none, (some 3), .mv 3 (.k (Value.int .i64 0)), false⟩])
  (.seq (.seq (.keep [0]) (.ops [⟨none, (some 4), .mv 4 (.s 0), false⟩,
    ⟨none, (some 5), .call (some 5) 22 false [(.s 4)], false⟩,
    ⟨none, (some 6), .ex 6 (.s 5) 0, false⟩,
    ⟨none, (some 7), .ex 7 (.s 5) 1, false⟩,
    ⟨none, (some 2), .mv 2 (.s 6), false⟩,
    ⟨none, (some 3), .mv 3 (.s 7), false⟩]))
  .ret))
theorem cc10 : (Try.f10.body).bind (cc Try.prog Try.f10.ntmps A10) = some S10 := by kernel_rfl
def R10 : List RR := [.sl 2, .sl 3]
theorem cr10 : Try.f10.results.toList.map (crr Try.prog) = R10.map some := by kernel_rfl
theorem nm10 : (Try.f10.name == "runtime.NumGoroutine") = false := by kernel_rfl
theorem fn10 : Try.prog.funcs[10]? = some Try.f10 := by kernel_rfl
theorem bd10 : ∃ b, Try.f10.body = some b ∧ cc Try.prog Try.f10.ntmps A10 b = some S10 := Option.bind_eq_some_iff.1 cc10
theorem sd10 {T : FuncId → Contract} {C : Contract} (hT : ∀ f, Sound Try.prog f (T f)) (hl : C.lawful) (hC : ∀ args st K, C.wp args st K → args.length ≤ 8 ∧ ∃ os op, xv T st.n S10 (st0 args st) (retK R10 st.n os K) (panK st.n op K)) : Sound Try.prog 10 C := by
  obtain ⟨b, hb, hc⟩ := bd10
  rw [xv_eq] at hC
  exact sound_of_ev mo fn10 hb nm10 hc cr10 hT hl hC

/-! 11: redline/unified.Name -/
def A11 : Ann := ⟨fun _ _ => 0, fun _ => none, fun r => if r = 1 then some (false, [0]) else if r = 2 then some (false, [0, 3]) else if r = 5 then some (false, [0, 3, 4, 8, 9]) else if r = 7 then some (false, [0, 3]) else if r = 10 then some (false, [0]) else none, fun r => if r = 3 then [0, 3, 8, 9] else []⟩
def S11 : SCode :=
  (.seq (.ops [⟨none, (some 2), .mv 2 (.k (Value.string ⟨#[]⟩)), false⟩])
  (.seq (.seq (.keep [0]) (.ops [⟨none, (some 5), .mv 5 (.s 0), false⟩,
    ⟨none, (some 6), .bin 6 .eql (.s 5) (.k (Value.string ⟨#[47, 100, 101, 118, 47, 110, 117, 108, 108]⟩)), false⟩,
    ⟨none, (some 3), .mv 3 (.s 6), false⟩]))
  (.seq (.seq (.seq (.keep [0, 3]) (.ops [⟨none, (some 7), .mv 7 (.s 0), false⟩,
    ⟨none, (some 8), .lens 8 (.s 7), false⟩,
    ⟨none, (some 9), .mv 9 (.k (Value.int .i64 0)), false⟩]))
  (.block 0 (.loop [0, 3, 8, 9] (.seq (.ops [⟨none, (some 10), .bin 10 .lss (.s 9) (.s 8), false⟩])
  (.seq (.cond (.s 10) .skip (.exit 0))
  (.seq (.block 1 (.seq (.ops [⟨none, (some 11), .mv 11 (.s 9), false⟩,
    ⟨none, (some 4), .mv 4 (.s 11), false⟩])
  (.seq (.keep [0, 3, 4, 8, 9]) (.ops [⟨none, (some 12), .mv 12 (.s 3), false⟩,
    ⟨none, (some 13), .mv 13 (.s 12), false⟩,
    ⟨(some (13, false)), (some 14), .mv 14 (.s 0), false⟩,
    ⟨(some (13, false)), (some 15), .mv 15 (.s 4), false⟩,
    ⟨(some (13, false)), (some 16), .ixs 16 (.s 14) (.s 15), false⟩,
    ⟨(some (13, false)), (some 17), .bin 17 .lss (.s 16) (.k (Value.int .u8 33)), false⟩,
    ⟨none, (some 18), .pk 18 (.s 13) (.k (Value.bool true)) (.s 17), false⟩,
    ⟨none, (some 19), .mv 19 (.s 18), false⟩,
    ⟨(some (19, false)), (some 20), .mv 20 (.s 0), false⟩,
    ⟨(some (19, false)), (some 21), .mv 21 (.s 4), true⟩,
    ⟨(some (19, false)), (some 22), .ixs 22 (.s 20) (.s 21), false⟩,
    ⟨(some (19, false)), (some 23), .bin 23 .gtr (.s 22) (.k (Value.int .u8 126)), false⟩,
    ⟨none, (some 24), .pk 24 (.s 19) (.k (Value.bool true)) (.s 23), false⟩,
    ⟨none, (some 25), .mv 25 (.s 24), false⟩,
    ⟨(some (25, false)), (some 26), .mv 26 (.s 0), false⟩,
    ⟨(some (25, false)), (some 27), .mv 27 (.s 4), false⟩,
    ⟨(some (25, false)), (some 28), .ixs 28 (.s 26) (.s 27), false⟩,
    ⟨(some (25, false)), (some 29), .bin 29 .eql (.s 28) (.k (Value.int .u8 34)), false⟩,
    ⟨none, (some 30), .pk 30 (.s 25) (.k (Value.bool true)) (.s 29), false⟩,
    ⟨none, (some 3), .mv 3 (.s 30), true⟩]))))
  (.ops [⟨none, (some 31), .binc 31 .add (.s 9) (.k (Value.int .i64 1)), false⟩,
    ⟨none, (some 9), .mv 9 (.s 31), false⟩])))))))
  (.seq (.block 2 (.seq (.seq (.keep [0, 3]) (.ops [⟨none, (some 33), .mv 33 (.s 0), false⟩,
    ⟨none, (some 34), .bin 34 .eql (.s 33) (.k (Value.string ⟨#[]⟩)), false⟩,
    ⟨none, (some 32), .mv 32 (.s 34), false⟩]))
  (.cond (.s 32) (.seq (.ops [⟨none, (some 2), .mv 2 (.k (Value.string ⟨#[47, 100, 101, 118, 47, 110, 117, 108, 108]⟩)), false⟩])
  .ret) (.seq (.ops [⟨none, (some 36), .mv 36 (.s 3), false⟩,
    ⟨none, (some 35), .mv 35 (.s 36), false⟩])
  (.cond (.s 35) (.seq (.seq (.keep [0]) (.ops [⟨none, (some 37), .mv 37 (.s 0), false⟩,
    ⟨none, (some 38), .call (some 38) 7 false [(.s 37)], false⟩,
    ⟨none, (some 2), .mv 2 (.s 38), false⟩]))
  .ret) .skip)))))
  (.seq (.ops [⟨none, (some 39), .mv 39 (.s 0), false⟩,
    ⟨none, (some 2), .mv 2 (.s 39), false⟩])
  .ret)))))
theorem cc11 : (Try.f11.body).bind (cc Try.prog Try.f11.ntmps A11) = some S11 := by kernel_rfl
def R11 : List RR := [.sl 2]
theorem cr11 : Try.f11.results.toList.map (crr Try.prog) = R11.map some := by kernel_rfl
theorem nm11 : (Try.f11.name == "runtime.NumGoroutine") = false := by kernel_rfl
theorem fn11 : Try.prog.funcs[11]? = some Try.f11 := by kernel_rfl
theorem bd11 : ∃ b, Try.f11.body = some b ∧ cc Try.prog Try.f11.ntmps A11 b = some S11 := Option.bind_eq_some_iff.1 cc11
theorem sd11 {T : FuncId → Contract} {C : Contract} (hT : ∀ f, Sound Try.prog f (T f)) (hl : C.lawful) (hC : ∀ args st K, C.wp args st K → args.length ≤ 40 ∧ ∃ os op, xv T st.n S11 (st0 args st) (retK R11 st.n os K) (panK st.n op K)) : Sound Try.prog 11 C := by
  obtain ⟨b, hb, hc⟩ := bd11
  rw [xv_eq] at hC
  exact sound_of_ev mo fn11 hb nm11 hc cr11 hT hl hC

/-! 12: redline/redlineref16.Name -/
def A12 : Ann := ⟨fun _ _ => 0, fun _ => none, fun r => if r = 1 then some (false, [0]) else none, fun _ => []⟩
def S12 : SCode :=
  (.seq (.ops [⟨none, (some 2), .mv 2 (.k (Value.string ⟨#[]⟩)), false⟩])
  (.seq (.seq (.keep [0]) (.ops [⟨none, (some 3), .mv 3 (.s 0), false⟩,
    ⟨none, (some 4), .call (some 4) 23 false [(.s 3)], false⟩,
    ⟨none, (some 2), .mv 2 (.s 4), false⟩]))
  .ret))
theorem cc12 : (Try.f12.body).bind (cc Try.prog Try.f12.ntmps A12) = some S12 := by kernel_rfl
def R12 : List RR := [.sl 2]
theorem cr12 : Try.f12.results.toList.map (crr Try.prog) = R12.map some := by kernel_rfl
theorem nm12 : (Try.f12.name == "runtime.NumGoroutine") = false := by kernel_rfl
theorem fn12 : Try.prog.funcs[12]? = some Try.f12 := by kernel_rfl
theorem bd12 : ∃ b, Try.f12.body = some b ∧ cc Try.prog Try.f12.ntmps A12 b = some S12 := Option.bind_eq_some_iff.1 cc12
theorem sd12 {T : FuncId → Contract} {C : Contract} (hT : ∀ f, Sound Try.prog f (T f)) (hl : C.lawful) (hC : ∀ args st K, C.wp args st K → args.length ≤ 5 ∧ ∃ os op, xv T st.n S12 (st0 args st) (retK R12 st.n os K) (panK st.n op K)) : Sound Try.prog 12 C := by
  obtain ⟨b, hb, hc⟩ := bd12
  rw [xv_eq] at hC
  exact sound_of_ev mo fn12 hb nm12 hc cr12 hT hl hC

/-! 13: strings.CutPrefix -/
def A13 : Ann := ⟨fun _ _ => 0, fun _ => none, fun r => if r = 1 then some (false, [0, 1]) else none, fun _ => []⟩
def S13 : SCode :=
  (.seq (.ops [⟨none, (some 4), .mv 4 (.k (Value.string ⟨#[]⟩)), false⟩,
    ⟨none, (some 5), .mv 5 (.k (Value.bool false)), false⟩])
  (.seq (.seq (.keep [0, 1]) (.ops [⟨none, (some 6), .mv 6 (.s 0), false⟩,
    ⟨none, (some 7), .mv 7 (.s 1), false⟩,
    ⟨none, (some 8), .call (some 8) 24 false [(.s 6), (.s 7)], false⟩,
    ⟨none, (some 9), .ex 9 (.s 8) 0, false⟩,
    ⟨none, (some 10), .ex 10 (.s 8) 1, false⟩,
    ⟨none, (some 4), .mv 4 (.s 9), false⟩,
    ⟨none, (some 5), .mv 5 (.s 10), false⟩]))
  .ret))
theorem cc13 : (Try.f13.body).bind (cc Try.prog Try.f13.ntmps A13) = some S13 := by kernel_rfl
def R13 : List RR := [.sl 4, .sl 5]
theorem cr13 : Try.f13.results.toList.map (crr Try.prog) = R13.map some := by kernel_rfl
theorem nm13 : (Try.f13.name == "runtime.NumGoroutine") = false := by kernel_rfl
theorem fn13 : Try.prog.funcs[13]? = some Try.f13 := by kernel_rfl
theorem bd13 : ∃ b, Try.f13.body = some b ∧ cc Try.prog Try.f13.ntmps A13 b = some S13 := Option.bind_eq_some_iff.1 cc13
theorem sd13 {T : FuncId → Contract} {C : Contract} (hT : ∀ f, Sound Try.prog f (T f)) (hl : C.lawful) (hC : ∀ args st K, C.wp args st K → args.length ≤ 11 ∧ ∃ os op, xv T st.n S13 (st0 args st) (retK R13 st.n os K) (panK st.n op K)) : Sound Try.prog 13 C := by
  obtain ⟨b, hb, hc⟩ := bd13
  rw [xv_eq] at hC
  exact sound_of_ev mo fn13 hb nm13 hc cr13 hT hl hC

/-! 14: redline/num.plain -/
def A14 : Ann := ⟨fun _ _ => 0, fun _ => none, fun r => if r = 1 then some (false, [0]) else none, fun _ => []⟩
def S14 : SCode :=
  (.seq (.ops [⟨none, (some 2), .mv 2 (.k (Value.bool false)), false⟩])
  (.seq (.seq (.keep [0]) (.ops [⟨none, (some 3), .mv 3 (.s 0), false⟩,
    ⟨none, (some 4), .bin 4 .geq (.s 3) (.k (Value.int .u8 32)), false⟩,
    ⟨none, (some 5), .mv 5 (.s 4), false⟩,
    ⟨(some (5, true)), (some 6), .mv 6 (.s 0), false⟩,
    ⟨(some (5, true)), (some 7), .bin 7 .leq (.s 6) (.k (Value.int .u8 126)), false⟩,
    ⟨none, (some 8), .pk 8 (.s 5) (.s 7) (.k (Value.bool false)), false⟩,
    ⟨none, (some 9), .mv 9 (.s 8), false⟩,
    ⟨(some (9, true)), (some 10), .mv 10 (.s 0), false⟩,
    ⟨(some (9, true)), (some 11), .bin 11 .neq (.s 10) (.k (Value.int .u8 34)), false⟩,
    ⟨none, (some 12), .pk 12 (.s 9) (.s 11) (.k (Value.bool false)), true⟩,
    ⟨none, (some 13), .mv 13 (.s 12), false⟩,
    ⟨(some (13, true)), (some 14), .mv 14 (.s 0), false⟩,
    ⟨(some (13, true)), (some 15), .bin 15 .neq (.s 14) (.k (Value.int .u8 92)), false⟩,
    ⟨none, (some 16), .pk 16 (.s 13) (.s 15) (.k (Value.bool false)), false⟩,
    ⟨none, (some 2), .mv 2 (.s 16), false⟩]))
  .ret))
theorem cc14 : (Try.f14.body).bind (cc Try.prog Try.f14.ntmps A14) = some S14 := by kernel_rfl
def R14 : List RR := [.sl 2]
theorem cr14 : Try.f14.results.toList.map (crr Try.prog) = R14.map some := by kernel_rfl
theorem nm14 : (Try.f14.name == "runtime.NumGoroutine") = false := by kernel_rfl
theorem fn14 : Try.prog.funcs[14]? = some Try.f14 := by kernel_rfl
theorem bd14 : ∃ b, Try.f14.body = some b ∧ cc Try.prog Try.f14.ntmps A14 b = some S14 := Option.bind_eq_some_iff.1 cc14
theorem sd14 {T : FuncId → Contract} {C : Contract} (hT : ∀ f, Sound Try.prog f (T f)) (hl : C.lawful) (hC : ∀ args st K, C.wp args st K → args.length ≤ 17 ∧ ∃ os op, xv T st.n S14 (st0 args st) (retK R14 st.n os K) (panK st.n op K)) : Sound Try.prog 14 C := by
  obtain ⟨b, hb, hc⟩ := bd14
  rw [xv_eq] at hC
  exact sound_of_ev mo fn14 hb nm14 hc cr14 hT hl hC

/-! 15: redline/num.octet -/
def A15 : Ann := ⟨fun r i => if r = 5 ∧ i = 9 then 1 else 0, fun r => if r = 3 then some ([0, 1, 2, 3, 4, 5, 6, 7, 8, 9, 10, 11, 12, 13, 14, 15], [(0, true), (1, true), (3, true), (4, true), (2, false), (5, false), (6, true), (7, true)]) else none, fun r => if r = 1 then some (false, [0]) else if r = 3 then some (false, [0]) else if r = 4 then some (false, [4, 5]) else if r = 5 then some (false, [4, 5, 6]) else none, fun _ => []⟩
def S15 : SCode :=
  (.seq (.ops [⟨none, (some 2), .mv 2 (.k (Value.int .u8 0)), false⟩,
    ⟨none, (some 3), .mv 3 (.k (Value.bool false)), false⟩])
  (.seq (.seq (.seq (.keep [0]) (.ops [⟨none, (some 7), .mv 7 (.s 0), false⟩,
    ⟨none, (some 8), .lens 8 (.s 7), false⟩,
    ⟨none, (some 9), .bin 9 .lss (.s 8) (.k (Value.int .i64 2)), false⟩]))
  (.cond (.s 9) (.seq (.ops [⟨none, (some 2), .mv 2 (.k (Value.int .u8 0)), false⟩,
    ⟨none, (some 3), .mv 3 (.k (Value.bool false)), false⟩])
  .ret) .skip))
  (.seq (.seq (.keep [0]) (.dr [0, 1, 2, 3, 4, 5, 6, 7, 8, 9, 10, 11, 12, 13, 14, 15] [(0, true, ⟨none, (some 10), .mv 10 (.s 0), false⟩),
    (1, true, ⟨none, (some 11), .ixs 11 (.s 10) (.k (Value.int .i64 0)), false⟩),
    (3, true, ⟨none, (some 13), .mv 13 (.s 0), false⟩),
    (4, true, ⟨none, (some 14), .ixs 14 (.s 13) (.k (Value.int .i64 1)), false⟩),
    (2, false, ⟨none, (some 12), .call (some 12) 25 false [(.k (Value.string ⟨#[48, 49, 50, 51, 52, 53, 54, 55, 56, 57, 97, 98, 99, 100, 101, 102]⟩)), (.s 11)], false⟩),
    (5, false, ⟨none, (some 15), .call (some 15) 25 false [(.k (Value.string ⟨#[48, 49, 50, 51, 52, 53, 54, 55, 56, 57, 97, 98, 99, 100, 101, 102]⟩)), (.s 14)], false⟩),
    (6, true, ⟨none, (some 4), .mv 4 (.s 12), false⟩),
    (7, true, ⟨none, (some 5), .mv 5 (.s 15), false⟩)]))
  (.seq (.seq (.keep [4, 5]) (.ops [⟨none, (some 16), .mv 16 (.s 4), false⟩,
    ⟨none, (some 17), .bin 17 .shl (.s 16) (.k (Value.int .u64 4)), false⟩,
    ⟨none, (some 18), .mv 18 (.s 5), false⟩,
    ⟨none, (some 19), .bin 19 .or (.s 17) (.s 18), false⟩,
    ⟨none, (some 20), .cvi 20 .u8 (.s 19), false⟩,
    ⟨none, (some 6), .mv 6 (.s 20), false⟩]))
  (.seq (.seq (.keep [4, 5, 6]) (.ops [⟨none, (some 21), .mv 21 (.s 6), false⟩,
    ⟨none, (some 22), .mv 22 (.s 4), false⟩,
    ⟨none, (some 23), .bin 23 .geq (.s 22) (.k (Value.int .i64 0)), false⟩,
    ⟨none, (some 24), .mv 24 (.s 23), false⟩,
    ⟨(some (24, true)), (some 25), .mv 25 (.s 5), false⟩,
    ⟨(some (24, true)), (some 26), .bin 26 .geq (.s 25) (.k (Value.int .i64 0)), false⟩,
    ⟨none, (some 27), .pk 27 (.s 24) (.s 26) (.k (Value.bool false)), false⟩,
    ⟨none, (some 28), .mv 28 (.s 27), false⟩,
    ⟨(some (28, true)), (some 29), .mv 29 (.s 6), false⟩,
    ⟨(some (28, true)), (some 30), .call (some 30) 14 true [(.s 29)], true⟩,
    ⟨(some (28, true)), (some 31), .not 31 (.s 30), false⟩,
    ⟨none, (some 32), .pk 32 (.s 28) (.s 31) (.k (Value.bool false)), false⟩,
    ⟨none, (some 2), .mv 2 (.s 21), false⟩,
    ⟨none, (some 3), .mv 3 (.s 32), false⟩]))
  .ret)))))
theorem cc15 : (Try.f15.body).bind (cc Try.prog Try.f15.ntmps A15) = some S15 := by kernel_rfl
def R15 : List RR := [.sl 2, .sl 3]
theorem cr15 : Try.f15.results.toList.map (crr Try.prog) = R15.map some := by kernel_rfl
theorem nm15 : (Try.f15.name == "runtime.NumGoroutine") = false := by kernel_rfl
theorem fn15 : Try.prog.funcs[15]? = some Try.f15 := by kernel_rfl
theorem bd15 : ∃ b, Try.f15.body = some b ∧ cc Try.prog Try.f15.ntmps A15 b = some S15 := Option.bind_eq_some_iff.1 cc15
theorem sd15 {T : FuncId → Contract} {C : Contract} (hT : ∀ f, Sound Try.prog f (T f)) (hl : C.lawful) (hC : ∀ args st K, C.wp args st K → args.length ≤ 33 ∧ ∃ os op, xv T st.n S15 (st0 args st) (retK R15 st.n os K) (panK st.n op K)) : Sound Try.prog 15 C := by
  obtain ⟨b, hb, hc⟩ := bd15
  rw [xv_eq] at hC
  exact sound_of_ev mo fn15 hb nm15 hc cr15 hT hl hC

/-! 16: redline/redlineref01.plain -/
def A16 : Ann := ⟨fun _ _ => 0, fun _ => none, fun r => if r = 1 then some (false, [0]) else none, fun _ => []⟩
def S16 : SCode :=
  (.seq (.ops [⟨none, (some 2), .mv 2 (.k (Value.bool false)), false⟩])
  (.seq (.seq (.keep [0]) (.ops [⟨none, (some 3), .mv 3 (.s 0), false⟩,
    ⟨none, (some 4), .bin 4 .geq (.s 3) (.k (Value.int .u8 32)), false⟩,
    ⟨none, (some 5), .mv 5 (.s 4), false⟩,
    ⟨(some (5, true)), (some 6), .mv 6 (.s 0), false⟩,
    ⟨(some (5, true)), (some 7), .bin 7 .leq (.s 6) (.k (Value.int .u8 126)), false⟩,
    ⟨none, (some 8), .pk 8 (.s 5) (.s 7) (.k (Value.bool false)), false⟩,
    ⟨none, (some 9), .mv 9 (.s 8), false⟩,
    ⟨(some (9, true)), (some 10), .mv 10 (.s 0), false⟩,
    ⟨(some (9, true)), (some 11), .bin 11 .neq (.s 10) (.k (Value.int .u8 34)), false⟩,
    ⟨none, (some 12), .pk 12 (.s 9) (.s 11) (.k (Value.bool false)), true⟩,
    ⟨none, (some 13), .mv 13 (.s 12), false⟩,
    ⟨(some (13, true)), (some 14), .mv 14 (.s 0), false⟩,
    ⟨(some (13, true)), (some 15), .bin 15 .neq (.s 14) (.k (Value.int .u8 92)), false⟩,
    ⟨none, (some 16), .pk 16 (.s 13) (.s 15) (.k (Value.bool false)), false⟩,
    ⟨none, (some 2), .mv 2 (.s 16), false⟩]))
  .ret))
theorem cc16 : (Try.f16.body).bind (cc Try.prog Try.f16.ntmps A16) = some S16 := by kernel_rfl
def R16 : List RR := [.sl 2]
theorem cr16 : Try.f16.results.toList.map (crr Try.prog) = R16.map some := by kernel_rfl
theorem nm16 : (Try.f16.name == "runtime.NumGoroutine") = false := by kernel_rfl
theorem fn16 : Try.prog.funcs[16]? = some Try.f16 := by kernel_rfl
theorem bd16 : ∃ b, Try.f16.body = some b ∧ cc Try.prog Try.f16.ntmps A16 b = some S16 := Option.bind_eq_some_iff.1 cc16
theorem sd16 {T : FuncId → Contract} {C : Contract} (hT : ∀ f, Sound Try.prog f (T f)) (hl : C.lawful) (hC : ∀ args st K, C.wp args st K → args.length ≤ 17 ∧ ∃ os op, xv T st.n S16 (st0 args st) (retK R16 st.n os K) (panK st.n op K)) : Sound Try.prog 16 C := by
  obtain ⟨b, hb, hc⟩ := bd16
  rw [xv_eq] at hC
  exact sound_of_ev mo fn16 hb nm16 hc cr16 hT hl hC

/-! 17: redline/redlineref01.digit -/
def A17 : Ann := ⟨fun _ _ => 0, fun _ => none, fun r => if r = 3 then some (false, [0, 3]) else if r = 4 then some (false, [0, 3]) else none, fun r => if r = 2 then [0, 3] else []⟩
def S17 : SCode :=
  (.seq (.ops [⟨none, (some 2), .mv 2 (.k (Value.int .i64 0)), false⟩])
  (.seq (.seq (.ops [⟨none, (some 3), .mv 3 (.k (Value.int .i64 0)), false⟩])
  (.block 0 (.loop [0, 3] (.seq (.seq (.ops [⟨none, (some 4), .mv 4 (.s 3), false⟩,
    ⟨none, (some 5), .bin 5 .lss (.s 4) (.k (Value.int .i64 16)), false⟩])
  (.cond (.s 5) .skip (.exit 0)))
  (.seq (.block 1 (.seq (.seq (.keep [0, 3]) (.ops [⟨none, (some 8), .mv 8 (.s 3), false⟩,
    ⟨none, (some 9), .ixs 9 (.k (Value.string ⟨#[48, 49, 50, 51, 52, 53, 54, 55, 56, 57, 97, 98, 99, 100, 101, 102]⟩)) (.s 8), false⟩,
    ⟨none, (some 10), .mv 10 (.s 0), false⟩,
    ⟨none, (some 11), .bin 11 .eql (.s 9) (.s 10), false⟩]))
  (.cond (.s 11) (.seq (.ops [⟨none, (some 12), .mv 12 (.s 3), false⟩,
    ⟨none, (some 2), .mv 2 (.s 12), false⟩])
  .ret) .skip)))
  (.seq (.keep [0, 3]) (.ops [⟨none, (some 6), .mv 6 (.s 3), false⟩,
    ⟨none, (some 7), .binc 7 .add (.s 6) (.k (Value.int .i64 1)), false⟩,
    ⟨none, (some 3), .mv 3 (.s 7), false⟩])))))))
  (.seq (.ops [⟨none, (some 2), .mv 2 (.k (Value.int .i64 (-1))), false⟩])
  .ret)))
theorem cc17 : (Try.f17.body).bind (cc Try.prog Try.f17.ntmps A17) = some S17 := by kernel_rfl
def R17 : List RR := [.sl 2]
theorem cr17 : Try.f17.results.toList.map (crr Try.prog) = R17.map some := by kernel_rfl
theorem nm17 : (Try.f17.name == "runtime.NumGoroutine") = false := by kernel_rfl
theorem fn17 : Try.prog.funcs[17]? = some Try.f17 := by kernel_rfl
theorem bd17 : ∃ b, Try.f17.body = some b ∧ cc Try.prog Try.f17.ntmps A17 b = some S17 := Option.bind_eq_some_iff.1 cc17
theorem sd17 {T : FuncId → Contract} {C : Contract} (hT : ∀ f, Sound Try.prog f (T f)) (hl : C.lawful) (hC : ∀ args st K, C.wp args st K → args.length ≤ 13 ∧ ∃ os op, xv T st.n S17 (st0 args st) (retK R17 st.n os K) (panK st.n op K)) : Sound Try.prog 17 C := by
  obtain ⟨b, hb, hc⟩ := bd17
  rw [xv_eq] at hC
  exact sound_of_ev mo fn17 hb nm17 hc cr17 hT hl hC

/-! 18: (*strings.Builder).WriteByte -/
def A18 : Ann := ⟨fun _ _ => 0, fun _ => none, fun r => if r = 2 then some (false, [0, 1]) else none, fun _ => []⟩
def S18 : SCode :=
  (.seq (.ops [⟨none, (some 4), .mv 4 (.k Value.nilIface), false⟩])
  (.seq (.ops [⟨none, (some 5), .mv 5 (.s 0), false⟩,
    ⟨none, (some 6), .call (some 6) 26 false [(.s 5)], false⟩])
  (.seq (.seq (.keep [0, 1]) (.ops [⟨none, (some 7), .mv 7 (.s 0), false⟩,
    ⟨none, (some 8), .mv 8 (.s 0), false⟩,
    ⟨none, (some 9), .nc 9 (.s 8), false⟩,
    ⟨none, (some 10), .fa 10 1 (.s 9), false⟩,
    ⟨none, (some 11), .ld 11 false 1 (.s 10), false⟩,
    ⟨none, (some 12), .mv 12 (.s 1), false⟩,
    ⟨none, (some 13), .bs 13 5 1 [(.s 12)], false⟩,
    ⟨none, (some 14), .ap 14 5 1 1 (.s 11) (.s 13), false⟩,
    ⟨none, (some 15), .nc 15 (.s 7), false⟩,
    ⟨none, (some 16), .fa 16 1 (.s 15), true⟩,
    ⟨none, none, .st false 1 (.s 16) (.s 14), false⟩]))
  (.seq (.ops [⟨none, (some 4), .mv 4 (.k Value.nilIface), false⟩])
  .ret))))
theorem cc18 : (Try.f18.body).bind (cc Try.prog Try.f18.ntmps A18) = some S18 := by kernel_rfl
def R18 : List RR := [.sl 4]
theorem cr18 : Try.f18.results.toList.map (crr Try.prog) = R18.map some := by kernel_rfl
theorem nm18 : (Try.f18.name == "runtime.NumGoroutine") = false := by kernel_rfl
theorem fn18 : Try.prog.funcs[18]? = some Try.f18 := by kernel_rfl
theorem bd18 : ∃ b, Try.f18.body = some b ∧ cc Try.prog Try.f18.ntmps A18 b = some S18 := Option.bind_eq_some_iff.1 cc18
theorem sd18 {T : FuncId → Contract} {C : Contract} (hT : ∀ f, Sound Try.prog f (T f)) (hl : C.lawful) (hC : ∀ args st K, C.wp args st K → args.length ≤ 17 ∧ ∃ os op, xv T st.n S18 (st0 args st) (retK R18 st.n os K) (panK st.n op K)) : Sound Try.prog 18 C := by
  obtain ⟨b, hb, hc⟩ := bd18
  rw [xv_eq] at hC
  exact sound_of_ev mo fn18 hb nm18 hc cr18 hT hl hC

/-! 19: (*strings.Builder).Write -/
def A19 : Ann := ⟨fun _ _ => 0, fun _ => none, fun r => if r = 2 then some (false, [0, 1]) else if r = 3 then some (false, [1]) else none, fun _ => []⟩
def S19 : SCode :=
  (.seq (.ops [⟨none, (some 4), .mv 4 (.k (Value.int .i64 0)), false⟩,
    ⟨none, (some 5), .mv 5 (.k Value.nilIface), false⟩])
  (.seq (.ops [⟨none, (some 6), .mv 6 (.s 0), false⟩,
    ⟨none, (some 7), .call (some 7) 26 false [(.s 6)], false⟩])
  (.seq (.seq (.keep [0, 1]) (.ops [⟨none, (some 8), .mv 8 (.s 0), false⟩,
    ⟨none, (some 9), .mv 9 (.s 0), false⟩,
    ⟨none, (some 10), .nc 10 (.s 9), false⟩,
    ⟨none, (some 11), .fa 11 1 (.s 10), false⟩,
    ⟨none, (some 12), .ld 12 false 1 (.s 11), false⟩,
    ⟨none, (some 13), .mv 13 (.s 1), false⟩,
    ⟨none, (some 14), .ap 14 5 1 1 (.s 12) (.s 13), false⟩,
    ⟨none, (some 15), .nc 15 (.s 8), false⟩,
    ⟨none, (some 16), .fa 16 1 (.s 15), false⟩,
    ⟨none, none, .st false 1 (.s 16) (.s 14), true⟩]))
  (.seq (.seq (.keep [1]) (.ops [⟨none, (some 17), .mv 17 (.s 1), false⟩,
    ⟨none, (some 18), .len 18 (.s 17), false⟩,
    ⟨none, (some 4), .mv 4 (.s 18), false⟩,
    ⟨none, (some 5), .mv 5 (.k Value.nilIface), false⟩]))
  .ret))))
theorem cc19 : (Try.f19.body).bind (cc Try.prog Try.f19.ntmps A19) = some S19 := by kernel_rfl
def R19 : List RR := [.sl 4, .sl 5]
theorem cr19 : Try.f19.results.toList.map (crr Try.prog) = R19.map some := by kernel_rfl
theorem nm19 : (Try.f19.name == "runtime.NumGoroutine") = false := by kernel_rfl
theorem fn19 : Try.prog.funcs[19]? = some Try.f19 := by kernel_rfl
theorem bd19 : ∃ b, Try.f19.body = some b ∧ cc Try.prog Try.f19.ntmps A19 b = some S19 := Option.bind_eq_some_iff.1 cc19
theorem sd19 {T : FuncId → Contract} {C : Contract} (hT : ∀ f, Sound Try.prog f (T f)) (hl : C.lawful) (hC : ∀ args st K, C.wp args st K → args.length ≤ 19 ∧ ∃ os op, xv T st.n S19 (st0 args st) (retK R19 st.n os K) (panK st.n op K)) : Sound Try.prog 19 C := by
  obtain ⟨b, hb, hc⟩ := bd19
  rw [xv_eq] at hC
  exact sound_of_ev mo fn19 hb nm19 hc cr19 hT hl hC

/-! 21: strings.HasPrefix -/
def A21 : Ann := ⟨fun _ _ => 0, fun _ => none, fun r => if r = 1 then some (false, [0, 1]) else none, fun _ => []⟩
def S21 : SCode :=
  (.seq (.ops [⟨none, (some 4), .mv 4 (.k (Value.bool false)), false⟩])
  (.seq (.seq (.keep [0, 1]) (.ops [⟨none, (some 5), .mv 5 (.s 0), false⟩,
    ⟨none, (some 6), .mv 6 (.s 1), false⟩,
    ⟨none, (some 7), .call (some 7) 27 false [(.s 5), (.s 6)], false⟩,
    ⟨none, (some 4), .mv 4 (.s 7), false⟩]))
  .ret))
theorem cc21 : (Try.f21.body).bind (cc Try.prog Try.f21.ntmps A21) = some S21 := by kernel_rfl
def R21 : List RR := [.sl 4]
theorem cr21 : Try.f21.results.toList.map (crr Try.prog) = R21.map some := by kernel_rfl
theorem nm21 : (Try.f21.name == "runtime.NumGoroutine") = false := by kernel_rfl
theorem fn21 : Try.prog.funcs[21]? = some Try.f21 := by kernel_rfl
theorem bd21 : ∃ b, Try.f21.body = some b ∧ cc Try.prog Try.f21.ntmps A21 b = some S21 := Option.bind_eq_some_iff.1 cc21
theorem sd21 {T : FuncId → Contract} {C : Contract} (hT : ∀ f, Sound Try.prog f (T f)) (hl : C.lawful) (hC : ∀ args st K, C.wp args st K → args.length ≤ 8 ∧ ∃ os op, xv T st.n S21 (st0 args st) (retK R21 st.n os K) (panK st.n op K)) : Sound Try.prog 21 C := by
  obtain ⟨b, hb, hc⟩ := bd21
  rw [xv_eq] at hC
  exact sound_of_ev mo fn21 hb nm21 hc cr21 hT hl hC

/-! 22: redline/redlineref15.Named -/
def A22 : Ann := ⟨fun r i => if r = 9 ∧ i = 5 then 1 else 0, fun _ => none, fun r => if r = 4 then some (false, [0, 4]) else if r = 5 then some (false, [0]) else if r = 6 then some (false, [0, 5, 6, 7]) else if r = 9 then some (false, [0, 4]) else if r = 11 then some (false, [4]) else none, fun _ => []⟩
def S22 : SCode :=
  (.seq (.ops [⟨none, (some 2), .mv 2 (.k (Value.string ⟨#[]⟩)), false⟩,
    ⟨none, (some 3), .mv 3 (.k (Value.int .i64 0)), false⟩])
  (.seq (.ops [⟨none, (some 8), .mv 8 (.s 0), false⟩,
    ⟨none, (some 4), .mv 4 (.s 8), false⟩])
  (.seq (.seq (.ops [⟨none, (some 9), .mv 9 (.s 0), false⟩,
    ⟨none, (some 10), .bin 10 .eql (.s 9) (.k (Value.string ⟨#[47, 100, 101, 118, 47, 110, 117, 108, 108]⟩)), false⟩])
  (.cond (.s 10) (.ops [⟨none, (some 4), .mv 4 (.k (Value.string ⟨#[]⟩)), false⟩]) .skip))
  (.seq (.seq (.seq (.keep [0, 4]) (.ops [⟨none, (some 11), .mv 11 (.s 0), false⟩,
    ⟨none, (some 12), .lens 12 (.s 11), false⟩,
    ⟨none, (some 13), .bin 13 .gtr (.s 12) (.k (Value.int .i64 0)), false⟩,
    ⟨none, (some 14), .mv 14 (.s 13), false⟩,
    ⟨(some (14, true)), (some 15), .mv 15 (.s 0), false⟩,
    ⟨(some (14, true)), (some 16), .ixs 16 (.s 15) (.k (Value.int .i64 0)), false⟩,
    ⟨(some (14, true)), (some 17), .bin 17 .eql (.s 16) (.k (Value.int .u8 34)), false⟩,
    ⟨none, (some 18), .pk 18 (.s 14) (.s 17) (.k (Value.bool false)), false⟩]))
  (.cond (.s 18) (.seq (.seq (.keep [0]) (.ops [⟨none, (some 20), .mv 20 (.s 0), false⟩,
    ⟨none, (some 21), .call (some 21) 6 false [(.s 20)], false⟩,
    ⟨none, (some 19), .mv 19 (.s 21), false⟩,
    ⟨none, (some 22), .ex 22 (.s 19) 0, false⟩,
    ⟨none, (some 23), .ex 23 (.s 19) 1, false⟩,
    ⟨none, (some 24), .ex 24 (.s 19) 2, false⟩,
    ⟨none, (some 5), .mv 5 (.s 22), false⟩,
    ⟨none, (some 6), .mv 6 (.s 23), false⟩,
    ⟨none, (some 7), .mv 7 (.s 24), false⟩]))
  (.seq (.seq (.seq (.keep [0, 5, 6, 7]) (.ops [⟨none, (some 25), .mv 25 (.s 7), false⟩,
    ⟨none, (some 26), .bin 26 .neq (.s 25) (.k (Value.int .i64 0)), false⟩,
    ⟨none, (some 27), .mv 27 (.s 26), false⟩,
    ⟨(some (27, false)), (some 28), .mv 28 (.s 6), false⟩,
    ⟨(some (27, false)), (some 29), .bin 29 .neq (.s 28) (.k (Value.string ⟨#[]⟩)), false⟩,
    ⟨none, (some 30), .pk 30 (.s 27) (.k (Value.bool true)) (.s 29), false⟩]))
  (.cond (.s 30) (.seq (.ops [⟨none, (some 2), .mv 2 (.k (Value.string ⟨#[]⟩)), false⟩,
    ⟨none, (some 3), .mv 3 (.k (Value.int .i64 253)), false⟩])
  .ret) .skip))
  (.ops [⟨none, (some 31), .mv 31 (.s 5), false⟩,
    ⟨none, (some 4), .mv 4 (.s 31), false⟩]))) .skip))
  (.seq (.seq (.seq (.keep [0, 4]) (.ops [⟨none, (some 32), .mv 32 (.s 4), false⟩,
    ⟨none, (some 33), .lens 33 (.s 32), false⟩,
    ⟨none, (some 34), .bin 34 .gtr (.s 33) (.k (Value.int .i64 64)), false⟩,
    ⟨none, (some 35), .mv 35 (.s 34), false⟩,
    ⟨(some (35, false)), (some 36), .mv 36 (.s 4), false⟩,
    ⟨(some (35, false)), (some 37), .call (some 37) 23 true [(.s 36)], false⟩,
    ⟨(some (35, false)), (some 38), .mv 38 (.s 0), false⟩,
    ⟨(some (35, false)), (some 39), .bin 39 .neq (.s 37) (.s 38), false⟩,
    ⟨none, (some 40), .pk 40 (.s 35) (.k (Value.bool true)) (.s 39), false⟩]))
  (.cond (.s 40) (.seq (.ops [⟨none, (some 2), .mv 2 (.k (Value.string ⟨#[]⟩)), false⟩,
    ⟨none, (some 3), .mv 3 (.k (Value.int .i64 253)), false⟩])
  .ret) .skip))
  (.seq (.seq (.keep [4]) (.ops [⟨none, (some 41), .mv 41 (.s 4), false⟩,
    ⟨none, (some 2), .mv 2 (.s 41), false⟩,
    ⟨none, (some 3), .mv 3 (.k (Value.int .i64 0)), false⟩]))
  .ret))))))
theorem cc22 : (Try.f22.body).bind (cc Try.prog Try.f22.ntmps A22) = some S22 := by kernel_rfl
def R22 : List RR := [.sl 2, .sl 3]
theorem cr22 : Try.f22.results.toList.map (crr Try.prog) = R22.map some := by kernel_rfl
theorem nm22 : (Try.f22.name == "runtime.NumGoroutine") = false := by kernel_rfl
theorem fn22 : Try.prog.funcs[22]? = some Try.f22 := by kernel_rfl
theorem bd22 : ∃ b, Try.f22.body = some b ∧ cc Try.prog Try.f22.ntmps A22 b = some S22 := Option.bind_eq_some_iff.1 cc22
theorem sd22 {T : FuncId → Contract} {C : Contract} (hT : ∀ f, Sound Try.prog f (T f)) (hl : C.lawful) (hC : ∀ args st K, C.wp args st K → args.length ≤ 42 ∧ ∃ os op, xv T st.n S22 (st0 args st) (retK R22 st.n os K) (panK st.n op K)) : Sound Try.prog 22 C := by
  obtain ⟨b, hb, hc⟩ := bd22
  rw [xv_eq] at hC
  exact sound_of_ev mo fn22 hb nm22 hc cr22 hT hl hC

/-! 23: redline/redlineref15.Name -/
def A23 : Ann := ⟨fun _ _ => 0, fun _ => none, fun r => if r = 4 then some (false, [0, 3]) else if r = 5 then some (false, [0, 3]) else if r = 6 then some (false, [0, 3]) else if r = 7 then some (false, [0]) else if r = 9 then some (false, [0]) else none, fun r => if r = 4 then [0, 3] else []⟩
def S23 : SCode :=
  (.seq (.ops [⟨none, (some 2), .mv 2 (.k (Value.string ⟨#[]⟩)), false⟩])
  (.seq (.seq (.ops [⟨none, (some 4), .mv 4 (.s 0), false⟩,
    ⟨none, (some 5), .bin 5 .eql (.s 4) (.k (Value.string ⟨#[]⟩)), false⟩])
  (.cond (.s 5) (.seq (.ops [⟨none, (some 2), .mv 2 (.k (Value.string ⟨#[47, 100, 101, 118, 47, 110, 117, 108, 108]⟩)), false⟩])
  .ret) .skip))
  (.seq (.seq (.ops [⟨none, (some 3), .mv 3 (.k (Value.int .i64 0)), false⟩])
  (.block 0 (.loop [0, 3] (.seq (.seq (.seq (.keep [0, 3]) (.ops [⟨none, (some 6), .mv 6 (.s 3), false⟩,
    ⟨none, (some 7), .mv 7 (.s 0), false⟩,
    ⟨none, (some 8), .lens 8 (.s 7), false⟩,
    ⟨none, (some 9), .bin 9 .lss (.s 6) (.s 8), false⟩]))
  (.cond (.s 9) .skip (.exit 0)))
  (.seq (.block 1 (.seq (.seq (.keep [0, 3]) (.ops [⟨none, (some 12), .mv 12 (.s 0), false⟩,
    ⟨none, (some 13), .mv 13 (.s 3), false⟩,
    ⟨none, (some 14), .ixs 14 (.s 12) (.s 13), false⟩,
    ⟨none, (some 15), .bin 15 .lss (.s 14) (.k (Value.int .u8 33)), false⟩,
    ⟨none, (some 16), .mv 16 (.s 15), false⟩,
    ⟨(some (16, false)), (some 17), .mv 17 (.s 0), false⟩,
    ⟨(some (16, false)), (some 18), .mv 18 (.s 3), false⟩,
    ⟨(some (16, false)), (some 19), .ixs 19 (.s 17) (.s 18), false⟩,
    ⟨(some (16, false)), (some 20), .bin 20 .gtr (.s 19) (.k (Value.int .u8 126)), false⟩,
    ⟨none, (some 21), .pk 21 (.s 16) (.k (Value.bool true)) (.s 20), true⟩,
    ⟨none, (some 22), .mv 22 (.s 21), false⟩,
    ⟨(some (22, false)), (some 23), .mv 23 (.s 0), false⟩,
    ⟨(some (22, false)), (some 24), .mv 24 (.s 3), false⟩,
    ⟨(some (22, false)), (some 25), .ixs 25 (.s 23) (.s 24), false⟩,
    ⟨(some (22, false)), (some 26), .bin 26 .eql (.s 25) (.k (Value.int .u8 34)), false⟩,
    ⟨none, (some 27), .pk 27 (.s 22) (.k (Value.bool true)) (.s 26), false⟩]))
  (.cond (.s 27) (.seq (.seq (.keep [0]) (.ops [⟨none, (some 28), .mv 28 (.s 0), false⟩,
    ⟨none, (some 29), .call (some 29) 8 false [(.s 28)], false⟩,
    ⟨none, (some 2), .mv 2 (.s 29), false⟩]))
  .ret) .skip)))
  (.seq (.keep [0, 3]) (.ops [⟨none, (some 10), .mv 10 (.s 3), false⟩,
    ⟨none, (some 11), .binc 11 .add (.s 10) (.k (Value.int .i64 1)), false⟩,
    ⟨none, (some 3), .mv 3 (.s 11), false⟩])))))))
  (.seq (.seq (.ops [⟨none, (some 30), .mv 30 (.s 0), false⟩,
    ⟨none, (some 31), .bin 31 .eql (.s 30) (.k (Value.string ⟨#[47, 100, 101, 118, 47, 110, 117, 108, 108]⟩)), false⟩])
  (.cond (.s 31) (.seq (.seq (.keep [0]) (.ops [⟨none, (some 32), .mv 32 (.s 0), false⟩,
    ⟨none, (some 33), .call (some 33) 8 false [(.s 32)], false⟩,
    ⟨none, (some 2), .mv 2 (.s 33), false⟩]))
  .ret) .skip))
  (.seq (.ops [⟨none, (some 34), .mv 34 (.s 0), false⟩,
    ⟨none, (some 2), .mv 2 (.s 34), false⟩])
  .ret)))))
theorem cc23 : (Try.f23.body).bind (cc Try.prog Try.f23.ntmps A23) = some S23 := by kernel_rfl
def R23 : List RR := [.sl 2]
theorem cr23 : Try.f23.results.toList.map (crr Try.prog) = R23.map some := by kernel_rfl
theorem nm23 : (Try.f23.name == "runtime.NumGoroutine") = false := by kernel_rfl
theorem fn23 : Try.prog.funcs[23]? = some Try.f23 := by kernel_rfl
theorem bd23 : ∃ b, Try.f23.body = some b ∧ cc Try.prog Try.f23.ntmps A23 b = some S23 := Option.bind_eq_some_iff.1 cc23
theorem sd23 {T : FuncId → Contract} {C : Contract} (hT : ∀ f, Sound Try.prog f (T f)) (hl : C.lawful) (hC : ∀ args st K, C.wp args st K → args.length ≤ 35 ∧ ∃ os op, xv T st.n S23 (st0 args st) (retK R23 st.n os K) (panK st.n op K)) : Sound Try.prog 23 C := by
  obtain ⟨b, hb, hc⟩ := bd23
  rw [xv_eq] at hC
  exact sound_of_ev mo fn23 hb nm23 hc cr23 hT hl hC

/-! 24: internal/stringslite.CutPrefix -/
def A24 : Ann := ⟨fun _ _ => 0, fun _ => none, fun r => if r = 1 then some (false, [0, 1]) else if r = 2 then some (false, [0]) else if r = 3 then some (false, [0, 1]) else none, fun _ => []⟩
def S24 : SCode :=
  (.seq (.ops [⟨none, (some 4), .mv 4 (.k (Value.string ⟨#[]⟩)), false⟩,
    ⟨none, (some 5), .mv 5 (.k (Value.bool false)), false⟩])
  (.seq (.seq (.seq (.keep [0, 1]) (.ops [⟨none, (some 6), .mv 6 (.s 0), false⟩,
    ⟨none, (some 7), .mv 7 (.s 1), false⟩,
    ⟨none, (some 8), .call (some 8) 27 false [(.s 6), (.s 7)], false⟩,
    ⟨none, (some 9), .not 9 (.s 8), false⟩]))
  (.cond (.s 9) (.seq (.seq (.keep [0]) (.ops [⟨none, (some 10), .mv 10 (.s 0), false⟩,
    ⟨none, (some 4), .mv 4 (.s 10), false⟩,
    ⟨none, (some 5), .mv 5 (.k (Value.bool false)), false⟩]))
  .ret) .skip))
  (.seq (.seq (.keep [0, 1]) (.ops [⟨none, (some 11), .mv 11 (.s 0), false⟩,
    ⟨none, (some 12), .mv 12 (.s 1), false⟩,
    ⟨none, (some 13), .lens 13 (.s 12), false⟩,
    ⟨none, (some 14), .sls 14 (.s 11) (some (.s 13)) none, false⟩,
    ⟨none, (some 4), .mv 4 (.s 14), false⟩,
    ⟨none, (some 5), .mv 5 (.k (Value.bool true)), false⟩]))
  .ret)))
theorem cc24 : (Try.f24.body).bind (cc Try.prog Try.f24.ntmps A24) = some S24 := by kernel_rfl
def R24 : List RR := [.sl 4, .sl 5]
theorem cr24 : Try.f24.results.toList.map (crr Try.prog) = R24.map some := by kernel_rfl
theorem nm24 : (Try.f24.name == "runtime.NumGoroutine") = false := by kernel_rfl
theorem fn24 : Try.prog.funcs[24]? = some Try.f24 := by kernel_rfl
theorem bd24 : ∃ b, Try.f24.body = some b ∧ cc Try.prog Try.f24.ntmps A24 b = some S24 := Option.bind_eq_some_iff.1 cc24
theorem sd24 {T : FuncId → Contract} {C : Contract} (hT : ∀ f, Sound Try.prog f (T f)) (hl : C.lawful) (hC : ∀ args st K, C.wp args st K → args.length ≤ 15 ∧ ∃ os op, xv T st.n S24 (st0 args st) (retK R24 st.n os K) (panK st.n op K)) : Sound Try.prog 24 C := by
  obtain ⟨b, hb, hc⟩ := bd24
  rw [xv_eq] at hC
  exact sound_of_ev mo fn24 hb nm24 hc cr24 hT hl hC

/-! 25: strings.IndexByte -/
def A25 : Ann := ⟨fun _ _ => 0, fun _ => none, fun r => if r = 1 then some (false, [0, 1]) else none, fun _ => []⟩
def S25 : SCode :=
  (.seq (.ops [⟨none, (some 4), .mv 4 (.k (Value.int .i64 0)), false⟩])
  (.seq (.seq (.keep [0, 1]) (.ops [⟨none, (some 5), .mv 5 (.s 0), false⟩,
    ⟨none, (some 6), .mv 6 (.s 1), false⟩,
    ⟨none, (some 7), .call (some 7) 28 false [(.s 5), (.s 6)], false⟩,
    ⟨none, (some 4), .mv 4 (.s 7), false⟩]))
  .ret))
theorem cc25 : (Try.f25.body).bind (cc Try.prog Try.f25.ntmps A25) = some S25 := by kernel_rfl
def R25 : List RR := [.sl 4]
theorem cr25 : Try.f25.results.toList.map (crr Try.prog) = R25.map some := by kernel_rfl
theorem nm25 : (Try.f25.name == "runtime.NumGoroutine") = false := by kernel_rfl
theorem fn25 : Try.prog.funcs[25]? = some Try.f25 := by kernel_rfl
theorem bd25 : ∃ b, Try.f25.body = some b ∧ cc Try.prog Try.f25.ntmps A25 b = some S25 := Option.bind_eq_some_iff.1 cc25
theorem sd25 {T : FuncId → Contract} {C : Contract} (hT : ∀ f, Sound Try.prog f (T f)) (hl : C.lawful) (hC : ∀ args st K, C.wp args st K → args.length ≤ 8 ∧ ∃ os op, xv T st.n S25 (st0 args st) (retK R25 st.n os K) (panK st.n op K)) : Sound Try.prog 25 C := by
  obtain ⟨b, hb, hc⟩ := bd25
  rw [xv_eq] at hC
  exact sound_of_ev mo fn25 hb nm25 hc cr25 hT hl hC

/-! 27: internal/stringslite.HasPrefix -/
def A27 : Ann := ⟨fun r i => if r = 1 ∧ i = 8 then 1 else 0, fun _ => none, fun r => if r = 1 then some (false, [0, 1]) else none, fun _ => []⟩
def S27 : SCode :=
  (.seq (.ops [⟨none, (some 4), .mv 4 (.k (Value.bool false)), false⟩])
  (.seq (.seq (.keep [0, 1]) (.ops [⟨none, (some 5), .mv 5 (.s 0), false⟩,
    ⟨none, (some 6), .lens 6 (.s 5), false⟩,
    ⟨none, (some 7), .mv 7 (.s 1), false⟩,
    ⟨none, (some 8), .lens 8 (.s 7), false⟩,
    ⟨none, (some 9), .bin 9 .geq (.s 6) (.s 8), false⟩,
    ⟨none, (some 10), .mv 10 (.s 9), false⟩,
    ⟨(some (10, true)), (some 11), .mv 11 (.s 0), false⟩,
    ⟨(some (10, true)), (some 12), .mv 12 (.s 1), false⟩,
    ⟨(some (10, true)), (some 13), .lens 13 (.s 12), false⟩,
    ⟨(some (10, true)), (some 14), .sls 14 (.s 11) none (some (.s 13)), true⟩,
    ⟨(some (10, true)), (some 15), .mv 15 (.s 1), false⟩,
    ⟨(some (10, true)), (some 16), .bin 16 .eql (.s 14) (.s 15), false⟩,
    ⟨none, (some 17), .pk 17 (.s 10) (.s 16) (.k (Value.bool false)), false⟩,
    ⟨none, (some 4), .mv 4 (.s 17), false⟩]))
  .ret))
theorem cc27 : (Try.f27.body).bind (cc Try.prog Try.f27.ntmps A27) = some S27 := by kernel_rfl
def R27 : List RR := [.sl 4]
theorem cr27 : Try.f27.results.toList.map (crr Try.prog) = R27.map some := by kernel_rfl
theorem nm27 : (Try.f27.name == "runtime.NumGoroutine") = false := by kernel_rfl
theorem fn27 : Try.prog.funcs[27]? = some Try.f27 := by kernel_rfl
theorem bd27 : ∃ b, Try.f27.body = some b ∧ cc Try.prog Try.f27.ntmps A27 b = some S27 := Option.bind_eq_some_iff.1 cc27
theorem sd27 {T : FuncId → Contract} {C : Contract} (hT : ∀ f, Sound Try.prog f (T f)) (hl : C.lawful) (hC : ∀ args st K, C.wp args st K → args.length ≤ 18 ∧ ∃ os op, xv T st.n S27 (st0 args st) (retK R27 st.n os K) (panK st.n op K)) : Sound Try.prog 27 C := by
  obtain ⟨b, hb, hc⟩ := bd27
  rw [xv_eq] at hC
  exact sound_of_ev mo fn27 hb nm27 hc cr27 hT hl hC

end Go.Proofs.Ytpbkdcfjlbdgfaa
