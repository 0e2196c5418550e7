/- EdfmtRuns: any text is run as commands over any lines, or refused with the line and the reason Part 3 of 5. -/
import Derived.Test.YtlghobefhmpfkaaGreatDoorProg
import Derived.Shelf.Strings.Builder1
import Derived.Shelf.Small.Utf8
import Derived.Shelf.Small.Strs
import Derived.Shelf.Strings.BuilderF
import Derived.Shelf.Strconv.Atoi
import Derived.Shelf.Strconv.Itoa0
import Derived.Shelf.Strconv.Itoa1
import Derived.Shelf.LaysM
import Derived.Shelf.Strconv.Itoa2
import Derived.Shelf.Strconv.Itoa3
import Derived.Shelf.Strconv.AtoiErrFast
import Derived.Shelf.Strconv.ParseIntEmpty
import Derived.Shelf.Strconv.AtoiFail
import Derived.Shelf.Strconv.Clone
import Derived.Shelf.Strconv.SyntaxError
import Derived.Shelf.LaysC
import Derived.Shelf.Strconv.ToError
import Derived.Shelf.Strconv.Lower
import Derived.Shelf.Strconv.ParseUint10
import Derived.Shelf.Strconv.ParseUint10Empty
import Derived.Shelf.Strconv.ParseUint10Any
import Derived.Shelf.Strconv.ParseInt10
import Derived.Shelf.Strconv.AtoiLong
import Derived.Shelf.Strconv.AtoiInnerAll
import Derived.Shelf.Strconv.RangeError
import Derived.Shelf.Strconv.ToErrorRange
import Derived.Shelf.Strconv.AtoiAll
import Derived.Shelf.Strconv.ErrVarAll
import Derived.Shelf.Strings.Search1
import Derived.Shelf.Strings.Search2
import Derived.Shelf.Strings.Search3
import Derived.Shelf.Strings.Cut
import Derived.Shelf.Strings.Count
import Derived.Shelf.Strings.Shaped
import Derived.Shelf.Strings.Prefix
import Derived.Shelf.Strings.Split
import Derived.Shelf.Strings.Runes
import Derived.Shelf.Strings.IndexAny
import Derived.Shelf.Strings.AsciiSet
import Derived.Shelf.Strings.IndexAnyAll
import Derived.Shelf.Unicode.DecodeSlow
import Derived.Lib.ItoaLen
import Derived.Lib.Strings
import Derived.Lib.Slices
import Derived.Lib.Walk
import Derived.Lib.Builder
import Derived.Lib.UnsafeStr
import Derived.WalkKit
import Derived.Laws.Externs
import Derived.SliceStrings
import Derived.Lib.LaidTab
import Derived.Below
import Derived.ChangeSame
import Derived.ProofKit
import Derived.OpenShut
import Derived.Test.YtlghobefhmpfkaaGreatDoorRows
import Derived.Deep.Slices
import Derived.Deep.Fields
import Derived.Lib.IndexBytes
import Derived.Lib.AtoiErrMem
import Derived.Laws.RangeAny
import Derived.Lib.Bytealg
import Derived.Test.YtlghobefhmpfkaaGreatDoorEp1
import Derived.Test.YtlghobefhmpfkaaGreatDoorEp2
set_option linter.unusedVariables false
namespace Go.Proofs.YtlghobefhmpfkaaGreatDoor
open Go Go.Ev
set_option maxRecDepth 100000
theorem mo : Tryz.prog.follows .mixedOrders = true := by kernel_rfl
def A14 : Ann := ⟨fun _ _ => 0, fun r => if r = 6 then some [(0, true, []), (1, true, []), (2, true, []), (4, true, []), (5, true, []), (6, true, []), (3, true, []), (7, true, []), (8, true, [])] else none, fun r => if r = 1 then some (false, [0, 1]) else if r = 4 then some (false, [0, 1, 5]) else if r = 5 then some (false, [0, 1, 5]) else if r = 6 then some (false, [0, 1, 5]) else none, fun r => if r = 4 then [0, 1, 5] else []⟩
def S14 : SCode :=
  (.seq (.ops [⟨none, (some 4), .mv 4 (.k (Value.bool false)), false⟩])
  (.seq (.seq (.seq (.keep [0, 1]) (.ops [⟨none, (some 6), .mv 6 (.s 0), false⟩,
    ⟨none, (some 7), .len 7 (.s 6), false⟩,
    ⟨none, (some 8), .mv 8 (.s 1), false⟩,
    ⟨none, (some 9), .len 9 (.s 8), false⟩,
    ⟨none, (some 10), .bin 10 .neq (.s 7) (.s 9), false⟩]))
  (.cond (.s 10) (.seq (.ops [⟨none, (some 4), .mv 4 (.k (Value.bool false)), false⟩])
  .ret) .skip))
  (.seq (.seq (.ops [⟨none, (some 5), .mv 5 (.k (Value.int .i64 0)), false⟩])
  (.block 0 (.loop [0, 1, 5] (.seq (.seq (.seq (.keep [0, 1, 5]) (.ops [⟨none, (some 11), .mv 11 (.s 5), false⟩,
    ⟨none, (some 12), .mv 12 (.s 0), false⟩,
    ⟨none, (some 13), .len 13 (.s 12), false⟩,
    ⟨none, (some 14), .bin 14 .lss (.s 11) (.s 13), false⟩]))
  (.cond (.s 14) .skip (.exit 0)))
  (.seq (.block 1 (.seq (.seq (.keep [0, 1, 5]) (.dr [([], true, ⟨none, (some 17), .mv 17 (.s 0), false⟩),
    ([], true, ⟨none, (some 18), .mv 18 (.s 5), false⟩),
    ([], true, ⟨none, (some 19), .ia 19 1 (.s 17) (.s 18), false⟩),
    ([], true, ⟨none, (some 21), .mv 21 (.s 1), false⟩),
    ([], true, ⟨none, (some 22), .mv 22 (.s 5), false⟩),
    ([], true, ⟨none, (some 23), .ia 23 1 (.s 21) (.s 22), false⟩),
    ([], true, ⟨none, (some 20), .ld 20 false 1 (.s 19), false⟩),
    ([], true, ⟨none, (some 24), .ld 24 false 1 (.s 23), false⟩),
    ([], true, ⟨none, (some 25), .bin 25 .neq (.s 20) (.s 24), false⟩)]))
  (.cond (.s 25) (.seq (.ops [⟨none, (some 4), .mv 4 (.k (Value.bool false)), false⟩])
  .ret) .skip)))
  (.seq (.keep [0, 1, 5]) (.ops [⟨none, (some 15), .mv 15 (.s 5), false⟩,
    ⟨none, (some 16), .binc 16 .add (.s 15) (.k (Value.int .i64 1)), false⟩,
    ⟨none, (some 5), .mv 5 (.s 16), false⟩])))))))
  (.seq (.ops [⟨none, (some 4), .mv 4 (.k (Value.bool true)), false⟩])
  .ret))))
theorem cc14 : (Tryz.f14.body).bind (cc Tryz.prog Tryz.f14.ntmps A14) = some S14 := by kernel_rfl
def R14 : List RR := [.sl 4]
theorem cr14 : Tryz.f14.results.toList.map (crr Tryz.prog) = R14.map some := by kernel_rfl
theorem nm14 : (Tryz.f14.name == "runtime.NumGoroutine") = false := by kernel_rfl
theorem fn14 : Tryz.prog.funcs[14]? = some Tryz.f14 := by kernel_rfl
theorem bd14 : ∃ b, Tryz.f14.body = some b ∧ cc Tryz.prog Tryz.f14.ntmps A14 b = some S14 := Option.bind_eq_some_iff.1 cc14
theorem sd14 {G : World → Prop} {T : FuncId → Contract} {C : Contract} (hT : ∀ f, Sound G Tryz.prog f (T f)) (hl : C.lawful) (hC : ∀ args st K, C.wp args st K → args.length ≤ 26 ∧ ∃ os op, xv T st.n S14 (st0 args st) (retK R14 st.n os K) (panK st.n op K)) (hit : SoundIt G Tryz.prog 14 C.it := by exact SoundIt.none) : Sound G Tryz.prog 14 C := by
  obtain ⟨b, hb, hc⟩ := bd14
  rw [xv_eq] at hC
  exact sound_of_ev mo fn14 hb nm14 hc cr14 hT hl hit hC
def A18 : Ann := ⟨fun _ _ => 0, fun _ => none, fun r => if r = 1 then some (false, [0]) else none, fun _ => []⟩
def S18 : SCode :=
  (.seq (.ops [⟨none, (some 2), .mv 2 (.k (Value.string ⟨#[]⟩)), false⟩,
    ⟨none, (some 3), .mv 3 (.k (Value.bool false)), false⟩])
  (.seq (.seq (.keep [0]) (.ops [⟨none, (some 4), .mv 4 (.s 0), false⟩,
    ⟨none, (some 5), .call (some 5) 52 false [(.s 4), (.k (Value.string ⟨#[10]⟩))], false⟩,
    ⟨none, (some 6), .ex 6 (.s 5) 0, false⟩,
    ⟨none, (some 7), .ex 7 (.s 5) 1, false⟩,
    ⟨none, (some 2), .mv 2 (.s 6), false⟩,
    ⟨none, (some 3), .mv 3 (.s 7), false⟩]))
  .ret))
theorem cc18 : (Tryz.f18.body).bind (cc Tryz.prog Tryz.f18.ntmps A18) = some S18 := by kernel_rfl
def R18 : List RR := [.sl 2, .sl 3]
theorem cr18 : Tryz.f18.results.toList.map (crr Tryz.prog) = R18.map some := by kernel_rfl
theorem nm18 : (Tryz.f18.name == "runtime.NumGoroutine") = false := by kernel_rfl
theorem fn18 : Tryz.prog.funcs[18]? = some Tryz.f18 := by kernel_rfl
theorem bd18 : ∃ b, Tryz.f18.body = some b ∧ cc Tryz.prog Tryz.f18.ntmps A18 b = some S18 := Option.bind_eq_some_iff.1 cc18
theorem sd18 {G : World → Prop} {T : FuncId → Contract} {C : Contract} (hT : ∀ f, Sound G Tryz.prog f (T f)) (hl : C.lawful) (hC : ∀ args st K, C.wp args st K → args.length ≤ 8 ∧ ∃ os op, xv T st.n S18 (st0 args st) (retK R18 st.n os K) (panK st.n op K)) (hit : SoundIt G Tryz.prog 18 C.it := by exact SoundIt.none) : Sound G Tryz.prog 18 C := by
  obtain ⟨b, hb, hc⟩ := bd18
  rw [xv_eq] at hC
  exact sound_of_ev mo fn18 hb nm18 hc cr18 hT hl hit hC
def A49 : Ann := ⟨fun r i => if r = 1 ∧ i = 6 then 1 else 0, fun _ => none, fun r => if r = 1 then some (false, [0]) else if r = 2 then some (false, [0]) else if r = 3 then some (false, [0]) else none, fun _ => []⟩
def S49 : SCode :=
  (.seq (.ops [⟨none, (some 2), .mv 2 (.k (Value.string ⟨#[]⟩)), false⟩,
    ⟨none, (some 3), .mv 3 (.k (Value.bool false)), false⟩])
  (.seq (.seq (.seq (.keep [0]) (.ops [⟨none, (some 4), .mv 4 (.s 0), false⟩,
    ⟨none, (some 5), .lens 5 (.s 4), false⟩,
    ⟨none, (some 6), .bin 6 .eql (.s 5) (.k (Value.int .i64 0)), false⟩,
    ⟨none, (some 7), .mv 7 (.s 6), false⟩,
    ⟨(some (7, false)), (some 8), .mv 8 (.s 0), false⟩,
    ⟨(some (7, false)), (some 9), .mv 9 (.s 0), false⟩,
    ⟨(some (7, false)), (some 10), .lens 10 (.s 9), false⟩,
    ⟨(some (7, false)), (some 11), .binc 11 .sub (.s 10) (.k (Value.int .i64 1)), false⟩,
    ⟨(some (7, false)), (some 12), .ixs 12 (.s 8) (.s 11), false⟩,
    ⟨(some (7, false)), (some 13), .bin 13 .neq (.s 12) (.k (Value.int .u8 10)), true⟩,
    ⟨none, (some 14), .pk 14 (.s 7) (.k (Value.bool true)) (.s 13), false⟩]))
  (.cond (.s 14) (.seq (.seq (.keep [0]) (.ops [⟨none, (some 15), .mv 15 (.s 0), false⟩,
    ⟨none, (some 2), .mv 2 (.s 15), false⟩,
    ⟨none, (some 3), .mv 3 (.k (Value.bool false)), false⟩]))
  .ret) .skip))
  (.seq (.seq (.keep [0]) (.ops [⟨none, (some 16), .mv 16 (.s 0), false⟩,
    ⟨none, (some 17), .mv 17 (.s 0), false⟩,
    ⟨none, (some 18), .lens 18 (.s 17), false⟩,
    ⟨none, (some 19), .binc 19 .sub (.s 18) (.k (Value.int .i64 1)), false⟩,
    ⟨none, (some 20), .sls 20 (.s 16) none (some (.s 19)), false⟩,
    ⟨none, (some 2), .mv 2 (.s 20), false⟩,
    ⟨none, (some 3), .mv 3 (.k (Value.bool true)), false⟩]))
  .ret)))
theorem cc49 : (Tryz.f49.body).bind (cc Tryz.prog Tryz.f49.ntmps A49) = some S49 := by kernel_rfl
def R49 : List RR := [.sl 2, .sl 3]
theorem cr49 : Tryz.f49.results.toList.map (crr Tryz.prog) = R49.map some := by kernel_rfl
theorem nm49 : (Tryz.f49.name == "runtime.NumGoroutine") = false := by kernel_rfl
theorem fn49 : Tryz.prog.funcs[49]? = some Tryz.f49 := by kernel_rfl
theorem bd49 : ∃ b, Tryz.f49.body = some b ∧ cc Tryz.prog Tryz.f49.ntmps A49 b = some S49 := Option.bind_eq_some_iff.1 cc49
theorem sd49 {G : World → Prop} {T : FuncId → Contract} {C : Contract} (hT : ∀ f, Sound G Tryz.prog f (T f)) (hl : C.lawful) (hC : ∀ args st K, C.wp args st K → args.length ≤ 21 ∧ ∃ os op, xv T st.n S49 (st0 args st) (retK R49 st.n os K) (panK st.n op K)) (hit : SoundIt G Tryz.prog 49 C.it := by exact SoundIt.none) : Sound G Tryz.prog 49 C := by
  obtain ⟨b, hb, hc⟩ := bd49
  rw [xv_eq] at hC
  exact sound_of_ev mo fn49 hb nm49 hc cr49 hT hl hit hC
def A52 : Ann := ⟨fun _ _ => 0, fun _ => none, fun r => if r = 1 then some (false, [0, 1]) else none, fun _ => []⟩
def S52 : SCode :=
  (.seq (.ops [⟨none, (some 4), .mv 4 (.k (Value.string ⟨#[]⟩)), false⟩,
    ⟨none, (some 5), .mv 5 (.k (Value.bool false)), false⟩])
  (.seq (.seq (.keep [0, 1]) (.ops [⟨none, (some 6), .mv 6 (.s 0), false⟩,
    ⟨none, (some 7), .mv 7 (.s 1), false⟩,
    ⟨none, (some 8), .call (some 8) 107 false [(.s 6), (.s 7)], false⟩,
    ⟨none, (some 9), .ex 9 (.s 8) 0, false⟩,
    ⟨none, (some 10), .ex 10 (.s 8) 1, false⟩,
    ⟨none, (some 4), .mv 4 (.s 9), false⟩,
    ⟨none, (some 5), .mv 5 (.s 10), false⟩]))
  .ret))
theorem cc52 : (Tryz.f52.body).bind (cc Tryz.prog Tryz.f52.ntmps A52) = some S52 := by kernel_rfl
def R52 : List RR := [.sl 4, .sl 5]
theorem cr52 : Tryz.f52.results.toList.map (crr Tryz.prog) = R52.map some := by kernel_rfl
theorem nm52 : (Tryz.f52.name == "runtime.NumGoroutine") = false := by kernel_rfl
theorem fn52 : Tryz.prog.funcs[52]? = some Tryz.f52 := by kernel_rfl
theorem bd52 : ∃ b, Tryz.f52.body = some b ∧ cc Tryz.prog Tryz.f52.ntmps A52 b = some S52 := Option.bind_eq_some_iff.1 cc52
theorem sd52 {G : World → Prop} {T : FuncId → Contract} {C : Contract} (hT : ∀ f, Sound G Tryz.prog f (T f)) (hl : C.lawful) (hC : ∀ args st K, C.wp args st K → args.length ≤ 11 ∧ ∃ os op, xv T st.n S52 (st0 args st) (retK R52 st.n os K) (panK st.n op K)) (hit : SoundIt G Tryz.prog 52 C.it := by exact SoundIt.none) : Sound G Tryz.prog 52 C := by
  obtain ⟨b, hb, hc⟩ := bd52
  rw [xv_eq] at hC
  exact sound_of_ev mo fn52 hb nm52 hc cr52 hT hl hit hC
def A107 : Ann := ⟨fun _ _ => 0, fun _ => none, fun r => if r = 1 then some (false, [0, 1]) else if r = 2 then some (false, [0]) else if r = 3 then some (false, [0, 1]) else none, fun _ => []⟩
def S107 : SCode :=
  (.seq (.ops [⟨none, (some 4), .mv 4 (.k (Value.string ⟨#[]⟩)), false⟩,
    ⟨none, (some 5), .mv 5 (.k (Value.bool false)), false⟩])
  (.seq (.seq (.seq (.keep [0, 1]) (.ops [⟨none, (some 6), .mv 6 (.s 0), false⟩,
    ⟨none, (some 7), .mv 7 (.s 1), false⟩,
    ⟨none, (some 8), .call (some 8) 148 false [(.s 6), (.s 7)], false⟩,
    ⟨none, (some 9), .not 9 (.s 8), false⟩]))
  (.cond (.s 9) (.seq (.seq (.keep [0]) (.ops [⟨none, (some 10), .mv 10 (.s 0), false⟩,
    ⟨none, (some 4), .mv 4 (.s 10), false⟩,
    ⟨none, (some 5), .mv 5 (.k (Value.bool false)), false⟩]))
  .ret) .skip))
  (.seq (.seq (.keep [0, 1]) (.ops [⟨none, (some 11), .mv 11 (.s 0), false⟩,
    ⟨none, (some 12), .mv 12 (.s 0), false⟩,
    ⟨none, (some 13), .lens 13 (.s 12), false⟩,
    ⟨none, (some 14), .mv 14 (.s 1), false⟩,
    ⟨none, (some 15), .lens 15 (.s 14), false⟩,
    ⟨none, (some 16), .binc 16 .sub (.s 13) (.s 15), false⟩,
    ⟨none, (some 17), .sls 17 (.s 11) none (some (.s 16)), false⟩,
    ⟨none, (some 4), .mv 4 (.s 17), false⟩,
    ⟨none, (some 5), .mv 5 (.k (Value.bool true)), false⟩]))
  .ret)))
theorem cc107 : (Tryz.f107.body).bind (cc Tryz.prog Tryz.f107.ntmps A107) = some S107 := by kernel_rfl
def R107 : List RR := [.sl 4, .sl 5]
theorem cr107 : Tryz.f107.results.toList.map (crr Tryz.prog) = R107.map some := by kernel_rfl
theorem nm107 : (Tryz.f107.name == "runtime.NumGoroutine") = false := by kernel_rfl
theorem fn107 : Tryz.prog.funcs[107]? = some Tryz.f107 := by kernel_rfl
theorem bd107 : ∃ b, Tryz.f107.body = some b ∧ cc Tryz.prog Tryz.f107.ntmps A107 b = some S107 := Option.bind_eq_some_iff.1 cc107
theorem sd107 {G : World → Prop} {T : FuncId → Contract} {C : Contract} (hT : ∀ f, Sound G Tryz.prog f (T f)) (hl : C.lawful) (hC : ∀ args st K, C.wp args st K → args.length ≤ 18 ∧ ∃ os op, xv T st.n S107 (st0 args st) (retK R107 st.n os K) (panK st.n op K)) (hit : SoundIt G Tryz.prog 107 C.it := by exact SoundIt.none) : Sound G Tryz.prog 107 C := by
  obtain ⟨b, hb, hc⟩ := bd107
  rw [xv_eq] at hC
  exact sound_of_ev mo fn107 hb nm107 hc cr107 hT hl hit hC
def A148 : Ann := ⟨fun r i => if r = 1 ∧ i = 8 then 1 else if r = 1 ∧ i = 10 then 1 else 0, fun _ => none, fun r => if r = 1 then some (false, [0, 1]) else none, fun _ => []⟩
def S148 : SCode :=
  (.seq (.ops [⟨none, (some 4), .mv 4 (.k (Value.bool false)), false⟩])
  (.seq (.seq (.keep [0, 1]) (.ops [⟨none, (some 5), .mv 5 (.s 0), false⟩,
    ⟨none, (some 6), .lens 6 (.s 5), false⟩,
    ⟨none, (some 7), .mv 7 (.s 1), false⟩,
    ⟨none, (some 8), .lens 8 (.s 7), false⟩,
    ⟨none, (some 9), .bin 9 .geq (.s 6) (.s 8), false⟩,
    ⟨none, (some 10), .mv 10 (.s 9), false⟩,
    ⟨(some (10, true)), (some 11), .mv 11 (.s 0), false⟩,
    ⟨(some (10, true)), (some 12), .mv 12 (.s 0), false⟩,
    ⟨(some (10, true)), (some 13), .lens 13 (.s 12), false⟩,
    ⟨(some (10, true)), (some 14), .mv 14 (.s 1), true⟩,
    ⟨(some (10, true)), (some 15), .lens 15 (.s 14), false⟩,
    ⟨(some (10, true)), (some 16), .binc 16 .sub (.s 13) (.s 15), false⟩,
    ⟨(some (10, true)), (some 17), .sls 17 (.s 11) (some (.s 16)) none, false⟩,
    ⟨(some (10, true)), (some 18), .mv 18 (.s 1), false⟩,
    ⟨(some (10, true)), (some 19), .bin 19 .eql (.s 17) (.s 18), false⟩,
    ⟨none, (some 20), .pk 20 (.s 10) (.s 19) (.k (Value.bool false)), false⟩,
    ⟨none, (some 4), .mv 4 (.s 20), false⟩]))
  .ret))
theorem cc148 : (Tryz.f148.body).bind (cc Tryz.prog Tryz.f148.ntmps A148) = some S148 := by kernel_rfl
def R148 : List RR := [.sl 4]
theorem cr148 : Tryz.f148.results.toList.map (crr Tryz.prog) = R148.map some := by kernel_rfl
theorem nm148 : (Tryz.f148.name == "runtime.NumGoroutine") = false := by kernel_rfl
theorem fn148 : Tryz.prog.funcs[148]? = some Tryz.f148 := by kernel_rfl
theorem bd148 : ∃ b, Tryz.f148.body = some b ∧ cc Tryz.prog Tryz.f148.ntmps A148 b = some S148 := Option.bind_eq_some_iff.1 cc148
theorem sd148 {G : World → Prop} {T : FuncId → Contract} {C : Contract} (hT : ∀ f, Sound G Tryz.prog f (T f)) (hl : C.lawful) (hC : ∀ args st K, C.wp args st K → args.length ≤ 21 ∧ ∃ os op, xv T st.n S148 (st0 args st) (retK R148 st.n os K) (panK st.n op K)) (hit : SoundIt G Tryz.prog 148 C.it := by exact SoundIt.none) : Sound G Tryz.prog 148 C := by
  obtain ⟨b, hb, hc⟩ := bd148
  rw [xv_eq] at hC
  exact sound_of_ev mo fn148 hb nm148 hc cr148 hT hl hit hC
end Go.Proofs.YtlghobefhmpfkaaGreatDoor
namespace Go.Proofs
open Go.Shelf
end Go.Proofs
set_option linter.unusedVariables false
set_option linter.unusedSimpArgs false
namespace Go.Proofs.YtlghobefhmpfkaaGreatDoor
open Go Go.Ev
set_option maxRecDepth 100000
variable {G : World → Prop}
def Pow10 (w : World) : Prop := Lib.TabIs Tryz.prog w "internal/strconv.uint64pow10" .u64 Lib.pow10Tab
end Go.Proofs.YtlghobefhmpfkaaGreatDoor
set_option linter.unusedVariables false
set_option linter.unusedSimpArgs false
namespace Go.Ev
open Go
def strRows (l : List (List UInt8)) : List (List D) := l.map fun s => [.v (.string ⟨s.toArray⟩)]
theorem strRows_len (l : List (List UInt8)) : (strRows l).length = l.length := by simp [strRows]
theorem strRows_get {l : List (List UInt8)} {i : Nat} (h : i < l.length) : (strRows l)[i]? = some [.v (.string ⟨(l.getD i []).toArray⟩)] := by
  simp [strRows, List.getD_eq_getElem?_getD, List.getElem?_eq_getElem h]
theorem strRows_all (l : List (List UInt8)) : (∀ r ∈ strRows l, r.length = 1) = True := by
  simp only [strRows, List.mem_map, eq_iff_iff, iff_true]
  rintro r ⟨s, _, rfl⟩; rfl
def unStr : List (List D) → Option (List (List UInt8))
  | [] => some []
  | [.v (.string s)] :: r => (unStr r).map (s.data.toList :: ·)
  | _ :: _ => none
theorem unStr_rows : ∀ l : List (List UInt8), unStr (strRows l) = some l
  | [] => rfl
  | s :: l => by
    have h := unStr_rows l
    unfold strRows at h
    simp [strRows, unStr, h]
theorem unStr_eq : ∀ {rows : List (List D)} {l : List (List UInt8)}, unStr rows = some l → rows = strRows l
  | [], l, h => by simp only [unStr, Option.some.injEq] at h; subst h; rfl
  | r :: rs, l, h => by
    unfold unStr at h
    split at h
    · rename_i e; cases e
    · rename_i s r' e
      simp only [List.cons.injEq] at e
      obtain ⟨rfl, rfl⟩ := e
      obtain ⟨m, h1, rfl⟩ := Option.map_eq_some_iff.1 h
      rw [unStr_eq h1]
      simp [strRows]
    · cases h
end Go.Ev
namespace Go.Proofs.YtlghobefhmpfkaaGreatDoor
open Go Go.Ev
set_option maxRecDepth 100000
variable {G : World → Prop}
def bareS (s : List UInt8) : List UInt8 × Bool := if s.getLast? = some 10 then (s.dropLast, true) else (s, false)
def CBare : Contract := pureC fun args => match args with
  | [.d (.v (.string s))] => some (s.size ≤ 1099511627776, .tup [.d (.v (str (bareS s.data.toList).1)), .d (.v (.bool (bareS s.data.toList).2))])
  | _ => none
def hasSuf (s p : List UInt8) : Bool := decide ((p.length : Int) ≤ (s.length : Int)) && decide (s.drop (s.length - p.length) = p)
def CSuf : Contract := pureC fun args => match args with
  | [.d (.v (.string s)), .d (.v (.string p))] => some (s.size ≤ 1099511627776 ∧ p.size ≤ 1099511627776, .d (.v (.bool (hasSuf s.data.toList p.data.toList))))
  | _ => none
theorem s148 : Sound G Tryz.prog 148 CSuf := by
  refine sd148 (T := tabT []) tab_nil (pureC_lawful _) (pure_hX fun args p x K h hp hk => ?_)
  split at h <;> simp only [Option.some.injEq, Prod.mk.injEq, reduceCtorEq] at h
  obtain ⟨rfl, rfl⟩ := h
  refine ⟨Nat.le_of_ble_eq_true rfl, ?_⟩
  rename_i s p
  obtain ⟨s, rfl⟩ := ex_str s
  obtain ⟨p, rfl⟩ := ex_str p
  simp only [sem_str] at hk hp
  simp -dsimp -implicitDefEqProofs only [S148, R148, ↓Ev.xStp_eq, ↓Ev.P, Ev.Q, Bool.cond_true, Bool.cond_false, eq_self, forall_eq_or_imp, implies_true, forall_const, forall_eq, ↓reduceIte, reduceIte, Nat.reduceEqDiff, Nat.reduceAdd, reduceCtorEq, Nat.reduceSub, Int.reduceToNat, Int.reduceLE, Int.reduceLT, Int.reduceNeg, Nat.reduceBEq, Nat.reduceMul, Nat.reduceLeDiff, Nat.reduceMod, UInt8.reduceOfNat, Nat.reduceLT, Int.reduceEq, Int.reduceAdd, Int.reduceSub, Int.reduceMul]
  repeat' (first | with_reducible assumption | refine And.intro ?_ ?_ | intro _)
  all_goals first | omega | exact hk
def CCutS : Contract := pureC fun args => match args with
  | [.d (.v (.string s)), .d (.v (.string p))] => some (s.size ≤ 1099511627776 ∧ p.size ≤ 1099511627776, .tup [.d (.v (str (if hasSuf s.data.toList p.data.toList then s.data.toList.take (s.data.toList.length - p.data.toList.length) else s.data.toList))), .d (.v (.bool (hasSuf s.data.toList p.data.toList)))])
  | _ => none
theorem s107 : Sound G Tryz.prog 107 CCutS := by
  refine sd107 (T := tabT [(148, CSuf)]) (tab_cons s148 tab_nil) (pureC_lawful _) (pure_hX fun args p x K h hp hk => ?_)
  split at h <;> simp only [Option.some.injEq, Prod.mk.injEq, reduceCtorEq] at h
  obtain ⟨rfl, rfl⟩ := h
  refine ⟨Nat.le_of_ble_eq_true rfl, ?_⟩
  rename_i s p
  obtain ⟨s, rfl⟩ := ex_str s
  obtain ⟨p, rfl⟩ := ex_str p
  simp only [sem_str] at hk hp
  simp -dsimp -implicitDefEqProofs only [S107, R107, CSuf, ↓Ev.xStp_eq, ↓Ev.P, Ev.Q, Bool.cond_true, Bool.cond_false, eq_self, forall_eq_or_imp, implies_true, forall_const, forall_eq, ↓reduceIte, reduceIte, Nat.reduceEqDiff, Nat.reduceAdd, reduceCtorEq, Nat.reduceSub, Int.reduceToNat, Int.reduceLE, Int.reduceLT, Int.reduceNeg, Nat.reduceBEq, Nat.reduceMul, Nat.reduceLeDiff, Nat.reduceMod, UInt8.reduceOfNat, Nat.reduceLT, Int.reduceEq, Int.reduceAdd, Int.reduceSub, Int.reduceMul]
  refine ⟨hp, fun h => ?_, fun h => ?_⟩
  · rw [h] at hk; exact hk
  · have : p.length ≤ s.length := by simp only [hasSuf, Bool.and_eq_true, decide_eq_true_eq] at h; omega
    rw [h] at hk
    repeat' (first | with_reducible assumption | refine And.intro ?_ ?_ | intro _)
    all_goals first | omega | exact hk
theorem s52 : Sound G Tryz.prog 52 CCutS := by
  refine sd52 (T := tabT [(107, CCutS)]) (tab_cons s107 tab_nil) (pureC_lawful _) (pure_hX fun args p x K h hp hk => ?_)
  split at h <;> simp only [Option.some.injEq, Prod.mk.injEq, reduceCtorEq] at h
  obtain ⟨rfl, rfl⟩ := h
  refine ⟨Nat.le_of_ble_eq_true rfl, ?_⟩
  simp -dsimp -implicitDefEqProofs only [S52, R52, CCutS, ↓Ev.xStp_eq, ↓Ev.P, Ev.Q, Bool.cond_true, Bool.cond_false, eq_self, forall_eq_or_imp, implies_true, forall_const, forall_eq, ↓reduceIte, reduceIte, Nat.reduceEqDiff, Nat.reduceAdd, reduceCtorEq, Nat.reduceSub, Int.reduceToNat, Int.reduceLE, Int.reduceLT, Int.reduceNeg, Nat.reduceBEq, Nat.reduceMul, Nat.reduceLeDiff, Nat.reduceMod, UInt8.reduceOfNat, Nat.reduceLT, Int.reduceEq, Int.reduceAdd, Int.reduceSub, Int.reduceMul]
  exact ⟨hp, hk⟩
theorem suf10 (s : List UInt8) : hasSuf s [10] = (bareS s).2 ∧ (if hasSuf s [10] then s.take (s.length - 1) else s) = (bareS s).1 := by
  rcases List.eq_nil_or_concat s with rfl | ⟨m, c, rfl⟩
  · exact ⟨rfl, rfl⟩
  · rw [List.concat_eq_append]
    have e : hasSuf (m ++ [c]) [10] = decide (c = 10) := by
      unfold hasSuf
      have h1 : decide ((([10] : List UInt8).length : Int) ≤ ((m ++ [c]).length : Int)) = true := by simp; omega
      have h2 : (m ++ [c]).drop ((m ++ [c]).length - ([10] : List UInt8).length) = [c] := by simp
      rw [h1, h2]; simp
    rw [e]
    unfold bareS
    by_cases h : c = 10
    · subst h; simp
    · simp [h]
theorem s18 : Sound G Tryz.prog 18 CBare := by
  refine sd18 (T := tabT [(52, CCutS)]) (tab_cons s52 tab_nil) (pureC_lawful _) (pure_hX fun args p x K h hp hk => ?_)
  split at h <;> simp only [Option.some.injEq, Prod.mk.injEq, reduceCtorEq] at h
  obtain ⟨rfl, rfl⟩ := h
  refine ⟨Nat.le_of_ble_eq_true rfl, ?_⟩
  rename_i s
  obtain ⟨s, rfl⟩ := ex_str s
  simp only [sem_str] at hk hp
  obtain ⟨h1, h2⟩ := suf10 s
  rw [← h1, ← h2] at hk
  simp -dsimp -implicitDefEqProofs only [S18, R18, CCutS, ↓Ev.xStp_eq, ↓Ev.P, Ev.Q, Bool.cond_true, Bool.cond_false, eq_self, forall_eq_or_imp, implies_true, forall_const, forall_eq, ↓reduceIte, reduceIte, Nat.reduceEqDiff, Nat.reduceAdd, reduceCtorEq, Nat.reduceSub, Int.reduceToNat, Int.reduceLE, Int.reduceLT, Int.reduceNeg, Nat.reduceBEq, Nat.reduceMul, Nat.reduceLeDiff, Nat.reduceMod, UInt8.reduceOfNat, Nat.reduceLT, Int.reduceEq, Int.reduceAdd, Int.reduceSub, Int.reduceMul]
  exact ⟨hp, hk⟩
theorem bare_get (s : List UInt8) : (bareS s).2 = (decide (0 < s.length) && decide ((s.getD (s.length - 1) 0) = 10)) ∧ (bareS s).1 = if (bareS s).2 then s.take (s.length - 1) else s := by
  rcases List.eq_nil_or_concat s with rfl | ⟨m, c, rfl⟩
  · exact ⟨rfl, rfl⟩
  · rw [List.concat_eq_append]
    unfold bareS
    by_cases h : c = 10
    · subst h; simp
    · simp [h]
theorem s49 : Sound G Tryz.prog 49 CBare := by
  refine sd49 (T := tabT []) tab_nil (pureC_lawful _) (pure_hX fun args p x K h hp hk => ?_)
  split at h <;> simp only [Option.some.injEq, Prod.mk.injEq, reduceCtorEq] at h
  obtain ⟨rfl, rfl⟩ := h
  refine ⟨Nat.le_of_ble_eq_true rfl, ?_⟩
  rename_i s
  obtain ⟨s, rfl⟩ := ex_str s
  simp only [sem_str] at hk hp
  obtain ⟨h1, h2⟩ := bare_get s
  simp -dsimp -implicitDefEqProofs only [S49, R49, ↓Ev.xStp_eq, ↓Ev.P, Ev.Q, Bool.cond_true, Bool.cond_false, eq_self, forall_eq_or_imp, implies_true, forall_const, forall_eq, ↓reduceIte, reduceIte, Nat.reduceEqDiff, Nat.reduceAdd, reduceCtorEq, Nat.reduceSub, Int.reduceToNat, Int.reduceLE, Int.reduceLT, Int.reduceNeg, Nat.reduceBEq, Nat.reduceMul, Nat.reduceLeDiff, Nat.reduceMod, UInt8.reduceOfNat, Nat.reduceLT, Int.reduceEq, Int.reduceAdd, Int.reduceSub, Int.reduceMul]
  repeat' (first | with_reducible assumption | refine And.intro ?_ ?_ | intro _)
  all_goals try omega
  · rename_i h
    have : (bareS s).2 = false := by
      rw [h1, Bool.and_eq_false_iff]
      rcases h with h | h
      · left; rw [decide_eq_false_iff_not]; omega
      · right; rw [decide_eq_false_iff_not]; exact fun e => h (by rw [e]; rfl)
    rw [this, if_neg (by decide)] at h2
    rw [h2, this] at hk; exact hk
  · rename_i h
    have : (bareS s).2 = true := by
      rw [h1, Bool.and_eq_true]
      exact ⟨by rw [decide_eq_true_eq]; omega, by rw [decide_eq_true_eq]; exact UInt8.toNat_inj.1 (by have := h.2; show _ = 10; omega)⟩
    rw [this, if_pos rfl] at h2
    rw [h2, this] at hk; exact hk
end Go.Proofs.YtlghobefhmpfkaaGreatDoor
set_option linter.unusedVariables false
set_option linter.unusedSimpArgs false
namespace Go.Proofs.YtlghobefhmpfkaaGreatDoor
open Go Go.Ev Go.RowKit
end Go.Proofs.YtlghobefhmpfkaaGreatDoor
set_option linter.unusedVariables false
set_option linter.unusedSimpArgs false
namespace Go.Proofs.YtlghobefhmpfkaaGreatDoor
open Go Go.Ev Go.RowKit
end Go.Proofs.YtlghobefhmpfkaaGreatDoor
set_option linter.unusedVariables false
set_option linter.unusedSimpArgs false
namespace Go.Proofs.YtlghobefhmpfkaaGreatDoor
open Go Go.Ev
set_option maxRecDepth 100000
variable {G : World → Prop}
def cntB (n : Int) : Bool := decide (0 ≤ n) && decide (n ≤ 2147483647)
end Go.Proofs.YtlghobefhmpfkaaGreatDoor
set_option linter.unusedVariables false
set_option linter.unusedSimpArgs false
namespace Go.Proofs.YtlghobefhmpfkaaGreatDoor
open Go Go.Ev
set_option maxRecDepth 100000
variable {G : World → Prop}
abbrev Q4 := Int × Int × Int × Int
def badC (c : Q4) : Prop := ((((cntB c.1 = false ∨ cntB c.2.1 = false) ∨ cntB c.2.2.1 = false) ∨ cntB c.2.2.2 = false) ∨ (c.2.1 = 0 ∧ c.2.2.2 = 0))
instance (c : Q4) : Decidable (badC c) := by unfold badC; infer_instance
theorem cnt_in {n : Int} (h : ¬ cntB n = false) : 0 ≤ n ∧ n ≤ 2147483647 := by simpa [cntB] using h
theorem okC {c : Q4} (h : ¬ badC c) : (0 ≤ c.1 ∧ c.1 ≤ 2147483647) ∧ (0 ≤ c.2.1 ∧ c.2.1 ≤ 2147483647) ∧ (0 ≤ c.2.2.1 ∧ c.2.2.1 ≤ 2147483647) ∧ (0 ≤ c.2.2.2 ∧ c.2.2.2 ≤ 2147483647) ∧ ¬ (c.2.1 = 0 ∧ c.2.2.2 = 0) :=
  ⟨cnt_in fun e => h (.inl (.inl (.inl (.inl e)))), cnt_in fun e => h (.inl (.inl (.inl (.inr e)))), cnt_in fun e => h (.inl (.inl (.inr e))), cnt_in fun e => h (.inl (.inr e)), fun e => h (.inr e)⟩
end Go.Proofs.YtlghobefhmpfkaaGreatDoor
set_option linter.unusedVariables false
set_option linter.unusedSimpArgs false
namespace Go.Proofs.YtlghobefhmpfkaaGreatDoor
open Go Go.Ev
set_option maxRecDepth 100000
variable {G : World → Prop}
end Go.Proofs.YtlghobefhmpfkaaGreatDoor
set_option linter.unusedVariables false
set_option linter.unusedSimpArgs false
namespace Go.Proofs.YtlghobefhmpfkaaGreatDoor
open Go Go.Ev
set_option maxRecDepth 100000
variable {G : World → Prop}
def CSame : Contract := pureC fun args => match args with
  | [.d (.sl a), .d (.sl b)] => (unStr a).bind fun x => (unStr b).map fun y => (x.length ≤ 1099511627776 ∧ y.length ≤ 1099511627776, .d (.v (.bool (decide (x = y)))))
  | _ => none
theorem getD_ext {l m : List (List UInt8)} (h : l.length = m.length) (h2 : ∀ i, i < l.length → l.getD i [] = m.getD i []) : l = m := by
  refine List.ext_getElem h fun i h3 h4 => ?_
  have := h2 i h3
  simpa [List.getD_eq_getElem?_getD, List.getElem?_eq_getElem h3, List.getElem?_eq_getElem h4] using this
theorem s14 : Sound G Tryz.prog 14 CSame := by
  refine sd14 (T := tabT []) tab_nil (pureC_lawful _) (pure_hX fun args p x K h hp hk => ?_)
  split at h <;> simp only [Option.bind_eq_some_iff, Option.map_eq_some_iff, Prod.mk.injEq, reduceCtorEq] at h
  obtain ⟨l, hl, m, hm, rfl, rfl⟩ := h
  rw [unStr_eq hl, unStr_eq hm] at *
  refine ⟨Nat.le_of_ble_eq_true rfl, ?_⟩
  obtain ⟨h1, h2⟩ := hp
  simp -dsimp -implicitDefEqProofs only [S14, R14, strRows_len, ↓Ev.xStp_eq, ↓Ev.P, Ev.Q, Bool.cond_true, Bool.cond_false, eq_self, forall_eq_or_imp, implies_true, forall_const, forall_eq, ↓reduceIte, reduceIte, Nat.reduceEqDiff, Nat.reduceAdd, reduceCtorEq, Nat.reduceSub, Int.reduceToNat, Int.reduceLE, Int.reduceLT, Int.reduceNeg, Nat.reduceBEq, Nat.reduceMul, Nat.reduceLeDiff, Nat.reduceMod, UInt8.reduceOfNat, Nat.reduceLT, Int.reduceEq, Int.reduceAdd, Int.reduceSub, Int.reduceMul]
  refine ⟨fun h => ?_, fun h => ?_⟩
  · rw [decide_eq_false (fun e => h (by rw [e]))] at hk; exact hk
  have hlm : l.length = m.length := by omega
  refine xLoop_intro (fun k st => ∃ (i : Nat), i ≤ l.length ∧ k = l.length - i ∧ (∀ j, j < i → l.getD j [] = m.getD j []) ∧
      st = ⟨[(0, .d (.sl (strRows l))), (1, .d (.sl (strRows m))), (5, .d (.v (.int .i64 i)))], 0, []⟩) l.length [] ?_ ?_ ?_
  · simp -dsimp -implicitDefEqProofs only [↓Ev.xStp_eq, ↓Ev.P, Ev.Q, Bool.cond_true, Bool.cond_false, eq_self, forall_eq_or_imp, implies_true, forall_const, forall_eq, ↓reduceIte, reduceIte, Nat.reduceEqDiff, Nat.reduceAdd, reduceCtorEq, Nat.reduceSub, Int.reduceToNat, Int.reduceLE, Int.reduceLT, Int.reduceNeg, Nat.reduceBEq, Nat.reduceMul, Nat.reduceLeDiff, Nat.reduceMod, UInt8.reduceOfNat, Nat.reduceLT, Int.reduceEq, Int.reduceAdd, Int.reduceSub, Int.reduceMul]
  · simp -dsimp -implicitDefEqProofs only [↓Ev.xStp_eq, ↓Ev.P, Ev.Q, Bool.cond_true, Bool.cond_false, eq_self, forall_eq_or_imp, implies_true, forall_const, forall_eq, ↓reduceIte, reduceIte, Nat.reduceEqDiff, Nat.reduceAdd, reduceCtorEq, Nat.reduceSub, Int.reduceToNat, Int.reduceLE, Int.reduceLT, Int.reduceNeg, Nat.reduceBEq, Nat.reduceMul, Nat.reduceLeDiff, Nat.reduceMod, UInt8.reduceOfNat, Nat.reduceLT, Int.reduceEq, Int.reduceAdd, Int.reduceSub, Int.reduceMul]
    exact ⟨0, by omega, by omega, fun j hj => by omega, rfl⟩
  · rintro k st ⟨i, hi, hk2, hj, rfl⟩
    by_cases hil : i < l.length
    · have hi3 : (i : Int) < l.length := by omega
      simp -dsimp -implicitDefEqProofs only [strRows_get hil, strRows_get (show i < m.length by omega), hi3, strRows_len, ↓Ev.xStp_eq, ↓Ev.P, Ev.Q, Bool.cond_true, Bool.cond_false, eq_self, forall_eq_or_imp, implies_true, forall_const, forall_eq, ↓reduceIte, reduceIte, Nat.reduceEqDiff, Nat.reduceAdd, reduceCtorEq, Nat.reduceSub, Int.reduceToNat, Int.reduceLE, Int.reduceLT, Int.reduceNeg, Nat.reduceBEq, Nat.reduceMul, Nat.reduceLeDiff, Nat.reduceMod, UInt8.reduceOfNat, Nat.reduceLT, Int.reduceEq, Int.reduceAdd, Int.reduceSub, Int.reduceMul]
      repeat' (first | with_reducible assumption | refine And.intro ?_ ?_ | intro _)
      all_goals try omega
      · rename_i h
        rw [decide_eq_false (fun e => h (by rw [e]))] at hk; exact hk
      · rename_i h
        refine xAgain_intro (l.length - (i + 1)) [] (by omega) (by simp -dsimp -implicitDefEqProofs only [↓Ev.xStp_eq, ↓Ev.P, Ev.Q, Bool.cond_true, Bool.cond_false, eq_self, forall_eq_or_imp, implies_true, forall_const, forall_eq, ↓reduceIte, reduceIte, Nat.reduceEqDiff, Nat.reduceAdd, reduceCtorEq, Nat.reduceSub, Int.reduceToNat, Int.reduceLE, Int.reduceLT, Int.reduceNeg, Nat.reduceBEq, Nat.reduceMul, Nat.reduceLeDiff, Nat.reduceMod, UInt8.reduceOfNat, Nat.reduceLT, Int.reduceEq, Int.reduceAdd, Int.reduceSub, Int.reduceMul]) ⟨i + 1, by omega, rfl, fun j hj2 => ?_, ?_⟩
        · by_cases e : j = i
          · rw [e]; exact h
          · exact hj j (by omega)
        · simp -dsimp -implicitDefEqProofs only [↓Ev.xStp_eq, ↓Ev.P, Ev.Q, Bool.cond_true, Bool.cond_false, eq_self, forall_eq_or_imp, implies_true, forall_const, forall_eq, ↓reduceIte, reduceIte, Nat.reduceEqDiff, Nat.reduceAdd, reduceCtorEq, Nat.reduceSub, Int.reduceToNat, Int.reduceLE, Int.reduceLT, Int.reduceNeg, Nat.reduceBEq, Nat.reduceMul, Nat.reduceLeDiff, Nat.reduceMod, UInt8.reduceOfNat, Nat.reduceLT, Int.reduceEq, Int.reduceAdd, Int.reduceSub, Int.reduceMul]
          rfl
    · have hi3 : ¬ (i : Int) < l.length := by omega
      simp -dsimp -implicitDefEqProofs only [hi3, strRows_len, ↓Ev.xStp_eq, ↓Ev.P, Ev.Q, Bool.cond_true, Bool.cond_false, eq_self, forall_eq_or_imp, implies_true, forall_const, forall_eq, ↓reduceIte, reduceIte, Nat.reduceEqDiff, Nat.reduceAdd, reduceCtorEq, Nat.reduceSub, Int.reduceToNat, Int.reduceLE, Int.reduceLT, Int.reduceNeg, Nat.reduceBEq, Nat.reduceMul, Nat.reduceLeDiff, Nat.reduceMod, UInt8.reduceOfNat, Nat.reduceLT, Int.reduceEq, Int.reduceAdd, Int.reduceSub, Int.reduceMul]
      rw [decide_eq_true (getD_ext hlm fun j hj2 => hj j (by omega))] at hk; exact hk
end Go.Proofs.YtlghobefhmpfkaaGreatDoor
set_option linter.unusedVariables false
set_option linter.unusedSimpArgs false
namespace Go.Proofs.YtlghobefhmpfkaaGreatDoor
open Go Go.Ev
set_option maxRecDepth 100000
variable {G : World → Prop}
def part (l : List (List UInt8)) (x n : Nat) : List (List UInt8) := (l.drop x).take n
end Go.Proofs.YtlghobefhmpfkaaGreatDoor
set_option linter.unusedVariables false
set_option linter.unusedSimpArgs false
namespace Go.Proofs.YtlghobefhmpfkaaGreatDoor
open Go Go.Ev
set_option maxRecDepth 100000
variable {G : World → Prop}
end Go.Proofs.YtlghobefhmpfkaaGreatDoor
set_option linter.unusedVariables false
set_option linter.unusedSimpArgs false
namespace Go.Proofs.YtlghobefhmpfkaaGreatDoor
open Go Go.Ev Go.RowKit
end Go.Proofs.YtlghobefhmpfkaaGreatDoor
set_option linter.unusedVariables false
set_option linter.unusedSimpArgs false
namespace Go.Proofs.YtlghobefhmpfkaaGreatDoor
open Go Go.Ev
set_option maxRecDepth 100000
variable {G : World → Prop}
end Go.Proofs.YtlghobefhmpfkaaGreatDoor
set_option linter.unusedVariables false
set_option linter.unusedSimpArgs false
namespace Go.Proofs.YtlghobefhmpfkaaGreatDoor
open Go Go.Ev
set_option maxRecDepth 100000
theorem rdStr {c : Rdr} {a : Addr} : ∀ {l : List (List UInt8)} {k : Nat}, (∀ i, i < l.length → c (a.add (k + i)) (.string ⟨(l.getD i []).toArray⟩)) → RdRows c a 1 k (strRows l)
  | [], k, h => by simp [strRows, RdRows]
  | s :: l, k, h => by
    have h0 := h 0 (by simp)
    have hr : RdRows c a 1 (k + 1) (strRows l) := rdStr fun i hi => by
      have := h (i + 1) (by simp; omega)
      rw [show k + 1 + i = k + (i + 1) by omega]
      simpa using this
    have e : strRows (s :: l) = [.v (.string ⟨s.toArray⟩)] :: strRows l := rfl
    rw [e]
    simp only [RdRows, RdCells, Rd]
    exact ⟨rfl, ⟨⟨_, by simpa using h0, rfl, rfl⟩, trivial⟩, hr⟩
theorem tab_only {P : Program} {W : World} {name : String} {k : IntKind} {zs : List Int} {g : Nat} (h : Lib.TabIs P W name k zs) (hg : P.globalNamed name = some g) {a : Addr} {u : Value} (ha : W.cell? a = some u) (hb : a.block = g) : ∃ z, u = .int k z := by
  unfold Lib.TabIs World.var? at h
  rw [hg] at h
  simp only [Option.bind_some] at h
  unfold World.cell? at ha
  rw [hb] at ha
  split at h
  · rename_i cs t f e
    rw [e] at ha
    simp only [Option.some.injEq] at h
    subst h
    simp only at ha
    split at ha
    · cases ha
    · have hm := Array.mem_of_getElem? ha
      simp only [List.mem_toArray, List.mem_map] at hm
      obtain ⟨z, _, rfl⟩ := hm
      exact ⟨z, rfl⟩
  · cases h
noncomputable def HP : Hd Pow10 := ⟨fun b => some b = Tryz.prog.globalNamed "internal/strconv.uint64pow10", fun b => some b = Tryz.prog.globalNamed "internal/strconv.uint64pow10", fun _ h => h, fun w w' h hb => by
  unfold Pow10 Lib.TabIs World.var? at h ⊢
  cases e : Tryz.prog.globalNamed "internal/strconv.uint64pow10" with
  | none => rw [e] at h; cases h
  | some g => rw [e] at h; simp only [Option.bind_some] at h ⊢; rw [hb g (by rw [e])]; exact h, 0, []⟩
theorem HP_no {W : World} (h : Pow10 W) {a : Addr} {u : Value} (ha : W.cell? a = some u) (hu : ∀ z, u ≠ .int .u64 z) : ¬ HP a.block := fun hb => by
  obtain ⟨z, e⟩ := tab_only h hb.symm ha rfl
  exact hu z e
theorem HP_lt {W : World} (h : Pow10 W) {b : Nat} (hb : HP b) : b < W.heap.size := by
  have hb' : some b = Tryz.prog.globalNamed "internal/strconv.uint64pow10" := hb
  unfold Pow10 Lib.TabIs World.var? at h
  rw [← hb'] at h
  simp only [Option.bind_some] at h
  split at h
  · rename_i e
    exact (Array.getElem?_eq_some_iff.1 e).1
  · cases h
end Go.Proofs.YtlghobefhmpfkaaGreatDoor
set_option linter.unusedVariables false
set_option linter.unusedSimpArgs false
namespace Go.Ev
open Go Go.RowKit Go.WideShapes Go.ChangeShapes
theorem law_calls {G : World → Prop} (H : Hd G) {P : Program} {f : FuncId} {C : Contract} (h : Sound G P f C) {args : List SV} {vs : List Value} {W : World} (hg : G W) (hh : ∀ b, H b → b < W.heap.size) (hw : C.wp args ⟨0, []⟩ fun out s => out = .ret (.d (.v (.bool true))))
    (hvs : CnL (fun _ => undef) 0 (fun a u => W.cell? a = some u ∧ ¬ H a.block) args vs) : Calls P f vs.toArray W fun e W' => e = .returned (.bool true) ∧ Below W.heap.size W W' := by
  obtain ⟨_, hc⟩ := h.2.1 H W (fun _ => undef) (fun _ _ => False) ⟨0, []⟩ args vs _ hw (SOk.empty hh hg _ _)
    (CnL_mono (Nat.le_refl _) (fun _ _ => rfl) (fun a u hau => ⟨hau.1, fun ⟨_, _, h1, _⟩ => by simp [lk] at h1, hau.2⟩) _ _ hvs)
  refine hc.mono ?_
  rintro e W' ⟨m', B', s', out, rfl, hO, hS, hout⟩
  cases e with
  | returned v =>
    simp only [OutOk, Cn, Rd] at hout
    refine ⟨by rw [hout.1], ⟨hS.os, hS.tape, hS.output, hS.size, fun k hk => hS.block k hk fun ⟨_, _, h1, _⟩ => by simp [lk] at h1⟩⟩
  | _ => exact hout.elim
section
variable {H : Type} {enc : TypeId × Value → H} {P : Program}
theorem post_of_below {f : Func} {s : ChangeSpec} {apart fresh handsOn again : Bool} {W W' : World} {args : Array Value} {v : Value} {ds gs : List (DataW H)} {before pa pv : List MemPlace}
    (hW : DataW.Whole enc P f.params.toList s.vars apart W args.toList ds gs before)
    (hres : ∀ (b : Nat) (sp : Nat → Bool) (hd : Bool), DataW.TrodAll enc P W' b sp hd f.resultTypes.toList (v.resultList f.resultTypes.size) (s.fn H (ds ++ gs)).results [])
    (hargs : ∀ sp : Nat → Bool, (∀ p ∈ before, sp p.block = true) → DataW.TrodAll enc P W' 0 sp true f.params.toList args.toList (s.fn H (ds ++ gs)).args pa)
    (hvars : ∀ sp : Nat → Bool, (∀ p ∈ before, sp p.block = true) → DataW.TrodVars enc P W' sp s.vars (s.fn H (ds ++ gs)).vars pv)
    (hps : before = pa ++ pv) (hb : Below W.heap.size W W')
    (hok : ∀ (j : Nat) (t : TypeId) (r : Value), f.resultTypes[j]? = some t → (v.resultList f.resultTypes.size)[j]? = some r → Value.okWide P W' .any 0 t r) :
    s.post enc P f apart fresh handsOn again W args v W' := by
  have hlt : ∀ p ∈ before, p.block < W.heap.size := fun p hp => hW.lt p hp
  have hold : ∀ p ∈ before, (fun b => decide (b < W.heap.size)) p.block = true := fun p hp => by simpa using hlt p hp
  refine ⟨ds, gs, before, [], pa, pv, hW, hres _ _ _, hargs _ hold, hvars _ hold, World.keptBut_mono (fun p hp => ⟨hp, ?_⟩) (hb.frame (· ∈ before)), fun _ => ?_⟩
  · rw [hps, List.mem_append] at hp
    exact Or.inr hp
  · obtain ⟨_, _, _, _, _, hz, hn⟩ := hW
    refine ⟨hok, _, _, ([] ++ pa) ++ pv, ⟨[] ++ pa, pv, trodAll_append (hargs _ (fun _ _ => rfl)) (hres _ _ _), hvars _ (fun _ _ => rfl), rfl, ?_, ?_⟩, ?_⟩
    · intro b off hp
      have hin : MemPlace.cell b off ∈ before := by rw [hps]; simpa using hp
      rw [hb.frozen (hlt _ hin)]
      exact hz b off hin
    · intro ha
      have := hn ha
      rw [hps] at this
      simpa using this
    · intro p hp _
      rw [hps]
      simpa using hp
end
end Go.Ev
set_option linter.unusedVariables false
set_option linter.unusedSimpArgs false
namespace Go.Proofs.YtlghobefhmpfkaaGreatDoor
open Go Go.Ev
open Go.ChangeShapes Go.WideShapes Go.ChangeAt Go.RowKit
set_option maxRecDepth 100000
section
variable {H : Type} {enc : TypeId × Value → H} {P : Program} {W : World} {c : Rdr}
theorem rdRows_of {a : Addr} {sz : Nat} : ∀ {l : List (List D)} {k : Nat}, (∀ i r, l[i]? = some r → r.length = sz ∧ RdCells c a (k + i * sz) r) → RdRows c a sz k l
  | [], k, h => by simp [RdRows]
  | r :: l, k, h => by
    have h0 := h 0 r rfl
    simp only [RdRows]
    refine ⟨h0.1, by simpa using h0.2, rdRows_of fun i x hx => ?_⟩
    have := h (i + 1) x (by simpa using hx)
    rw [show k + sz + i * sz = k + (i + 1) * sz by rw [Nat.add_mul]; omega]
    exact this
end
end Go.Proofs.YtlghobefhmpfkaaGreatDoor
set_option linter.unusedVariables false
namespace Go.Proofs.YtlghobefhmpfkaaGreatDoor
open Go Go.Ev
set_option maxRecDepth 100000
def A34 : Ann := ⟨fun _ _ => 0, fun _ => none, fun r => if r = 1 then some (false, [0]) else if r = 2 then some (false, [3]) else if r = 3 then some (false, [3]) else none, fun _ => []⟩
def S34 : SCode :=
  (.seq (.ops [⟨none, (some 2), .mv 2 (.k (Value.slice none 0 0)), false⟩])
  (.seq (.seq (.keep [0]) (.ops [⟨none, (some 4), .mv 4 (.s 0), false⟩,
    ⟨none, (some 5), .call (some 5) 83 false [(.s 4), (.k (Value.string ⟨#[10]⟩))], false⟩,
    ⟨none, (some 3), .mv 3 (.s 5), false⟩]))
  (.seq (.seq (.seq (.keep [3]) (.ops [⟨none, (some 6), .mv 6 (.s 3), false⟩,
    ⟨none, (some 7), .mv 7 (.s 3), false⟩,
    ⟨none, (some 8), .len 8 (.s 7), false⟩,
    ⟨none, (some 9), .binc 9 .sub (.s 8) (.k (Value.int .i64 1)), false⟩,
    ⟨none, (some 10), .ia 10 1 (.s 6) (.s 9), false⟩,
    ⟨none, (some 11), .ld 11 false 1 (.s 10), false⟩,
    ⟨none, (some 12), .bin 12 .eql (.s 11) (.k (Value.string ⟨#[]⟩)), false⟩]))
  (.cond (.s 12) (.seq (.keep [3]) (.ops [⟨none, (some 13), .mv 13 (.s 3), false⟩,
    ⟨none, (some 14), .mv 14 (.s 3), false⟩,
    ⟨none, (some 15), .len 15 (.s 14), false⟩,
    ⟨none, (some 16), .binc 16 .sub (.s 15) (.k (Value.int .i64 1)), false⟩,
    ⟨none, (some 17), .slr 17 1 (.s 13) none (some (.s 16)), false⟩,
    ⟨none, (some 3), .mv 3 (.s 17), false⟩])) .skip))
  (.seq (.ops [⟨none, (some 18), .mv 18 (.s 3), false⟩,
    ⟨none, (some 2), .mv 2 (.s 18), false⟩])
  .ret))))
theorem cc34 : (Tryz.f34.body).bind (cc Tryz.prog Tryz.f34.ntmps A34) = some S34 := by kernel_rfl
def R34 : List RR := [.sl 2]
theorem cr34 : Tryz.f34.results.toList.map (crr Tryz.prog) = R34.map some := by kernel_rfl
theorem nm34 : (Tryz.f34.name == "runtime.NumGoroutine") = false := by kernel_rfl
theorem fn34 : Tryz.prog.funcs[34]? = some Tryz.f34 := by kernel_rfl
theorem bd34 : ∃ b, Tryz.f34.body = some b ∧ cc Tryz.prog Tryz.f34.ntmps A34 b = some S34 := Option.bind_eq_some_iff.1 cc34
theorem sd34 {G : World → Prop} {T : FuncId → Contract} {C : Contract} (hT : ∀ f, Sound G Tryz.prog f (T f)) (hl : C.lawful) (hC : ∀ args st K, C.wp args st K → args.length ≤ 19 ∧ ∃ os op, xv T st.n S34 (st0 args st) (retK R34 st.n os K) (panK st.n op K)) (hit : SoundIt G Tryz.prog 34 C.it := by exact SoundIt.none) : Sound G Tryz.prog 34 C := by
  obtain ⟨b, hb, hc⟩ := bd34
  rw [xv_eq] at hC
  exact sound_of_ev mo fn34 hb nm34 hc cr34 hT hl hit hC
def A83 : Ann := ⟨fun _ _ => 0, fun _ => none, fun r => if r = 1 then some (false, [0, 1]) else none, fun _ => []⟩
def S83 : SCode :=
  (.seq (.ops [⟨none, (some 4), .mv 4 (.k (Value.slice none 0 0)), false⟩])
  (.seq (.seq (.keep [0, 1]) (.ops [⟨none, (some 5), .mv 5 (.s 0), false⟩,
    ⟨none, (some 6), .mv 6 (.s 1), false⟩,
    ⟨none, (some 7), .mv 7 (.s 1), false⟩,
    ⟨none, (some 8), .lens 8 (.s 7), false⟩,
    ⟨none, (some 9), .call (some 9) 145 false [(.s 5), (.s 6), (.s 8), (.k (Value.int .i64 (-1)))], false⟩,
    ⟨none, (some 4), .mv 4 (.s 9), false⟩]))
  .ret))
theorem cc83 : (Tryz.f83.body).bind (cc Tryz.prog Tryz.f83.ntmps A83) = some S83 := by kernel_rfl
def R83 : List RR := [.sl 4]
theorem cr83 : Tryz.f83.results.toList.map (crr Tryz.prog) = R83.map some := by kernel_rfl
theorem nm83 : (Tryz.f83.name == "runtime.NumGoroutine") = false := by kernel_rfl
theorem fn83 : Tryz.prog.funcs[83]? = some Tryz.f83 := by kernel_rfl
theorem bd83 : ∃ b, Tryz.f83.body = some b ∧ cc Tryz.prog Tryz.f83.ntmps A83 b = some S83 := Option.bind_eq_some_iff.1 cc83
theorem sd83 {G : World → Prop} {T : FuncId → Contract} {C : Contract} (hT : ∀ f, Sound G Tryz.prog f (T f)) (hl : C.lawful) (hC : ∀ args st K, C.wp args st K → args.length ≤ 10 ∧ ∃ os op, xv T st.n S83 (st0 args st) (retK R83 st.n os K) (panK st.n op K)) (hit : SoundIt G Tryz.prog 83 C.it := by exact SoundIt.none) : Sound G Tryz.prog 83 C := by
  obtain ⟨b, hb, hc⟩ := bd83
  rw [xv_eq] at hC
  exact sound_of_ev mo fn83 hb nm83 hc cr83 hT hl hit hC
def A85 : Ann := ⟨fun _ _ => 0, fun _ => none, fun r => if r = 1 then some (false, [0, 1]) else none, fun _ => []⟩
def S85 : SCode :=
  (.seq (.ops [⟨none, (some 4), .mv 4 (.k (Value.string ⟨#[]⟩)), false⟩,
    ⟨none, (some 5), .mv 5 (.k (Value.string ⟨#[]⟩)), false⟩,
    ⟨none, (some 6), .mv 6 (.k (Value.bool false)), false⟩])
  (.seq (.seq (.keep [0, 1]) (.ops [⟨none, (some 7), .mv 7 (.s 0), false⟩,
    ⟨none, (some 8), .mv 8 (.s 1), false⟩,
    ⟨none, (some 9), .call (some 9) 146 false [(.s 7), (.s 8)], false⟩,
    ⟨none, (some 10), .ex 10 (.s 9) 0, false⟩,
    ⟨none, (some 11), .ex 11 (.s 9) 1, false⟩,
    ⟨none, (some 12), .ex 12 (.s 9) 2, false⟩,
    ⟨none, (some 4), .mv 4 (.s 10), false⟩,
    ⟨none, (some 5), .mv 5 (.s 11), false⟩,
    ⟨none, (some 6), .mv 6 (.s 12), false⟩]))
  .ret))
theorem cc85 : (Tryz.f85.body).bind (cc Tryz.prog Tryz.f85.ntmps A85) = some S85 := by kernel_rfl
def R85 : List RR := [.sl 4, .sl 5, .sl 6]
theorem cr85 : Tryz.f85.results.toList.map (crr Tryz.prog) = R85.map some := by kernel_rfl
theorem nm85 : (Tryz.f85.name == "runtime.NumGoroutine") = false := by kernel_rfl
theorem fn85 : Tryz.prog.funcs[85]? = some Tryz.f85 := by kernel_rfl
theorem bd85 : ∃ b, Tryz.f85.body = some b ∧ cc Tryz.prog Tryz.f85.ntmps A85 b = some S85 := Option.bind_eq_some_iff.1 cc85
theorem sd85 {G : World → Prop} {T : FuncId → Contract} {C : Contract} (hT : ∀ f, Sound G Tryz.prog f (T f)) (hl : C.lawful) (hC : ∀ args st K, C.wp args st K → args.length ≤ 13 ∧ ∃ os op, xv T st.n S85 (st0 args st) (retK R85 st.n os K) (panK st.n op K)) (hit : SoundIt G Tryz.prog 85 C.it := by exact SoundIt.none) : Sound G Tryz.prog 85 C := by
  obtain ⟨b, hb, hc⟩ := bd85
  rw [xv_eq] at hC
  exact sound_of_ev mo fn85 hb nm85 hc cr85 hT hl hit hC
def A146 : Ann := ⟨fun _ _ => 0, fun r => if r = 3 then some [(0, true, []), (1, true, []), (2, true, []), (3, true, []), (4, true, []), (5, true, []), (6, true, []), (7, true, []), (8, true, []), (9, true, []), (10, true, []), (11, true, [])] else none, fun r => if r = 1 then some (false, [0, 1]) else if r = 3 then some (false, [0, 1, 7]) else if r = 4 then some (false, [0]) else none, fun _ => []⟩
def S146 : SCode :=
  (.seq (.ops [⟨none, (some 4), .mv 4 (.k (Value.string ⟨#[]⟩)), false⟩,
    ⟨none, (some 5), .mv 5 (.k (Value.string ⟨#[]⟩)), false⟩,
    ⟨none, (some 6), .mv 6 (.k (Value.bool false)), false⟩])
  (.seq (.seq (.seq (.keep [0, 1]) (.ops [⟨none, (some 8), .mv 8 (.s 0), false⟩,
    ⟨none, (some 9), .mv 9 (.s 1), false⟩,
    ⟨none, (some 10), .call (some 10) 149 false [(.s 8), (.s 9)], false⟩,
    ⟨none, (some 7), .mv 7 (.s 10), false⟩]))
  (.seq (.ops [⟨none, (some 11), .mv 11 (.s 7), false⟩,
    ⟨none, (some 12), .bin 12 .geq (.s 11) (.k (Value.int .i64 0)), false⟩])
  (.cond (.s 12) (.seq (.seq (.keep [0, 1, 7]) (.dr [([], true, ⟨none, (some 13), .mv 13 (.s 0), false⟩),
    ([], true, ⟨none, (some 14), .mv 14 (.s 7), false⟩),
    ([], true, ⟨none, (some 15), .sls 15 (.s 13) none (some (.s 14)), false⟩),
    ([], true, ⟨none, (some 16), .mv 16 (.s 0), false⟩),
    ([], true, ⟨none, (some 17), .mv 17 (.s 7), false⟩),
    ([], true, ⟨none, (some 18), .mv 18 (.s 1), false⟩),
    ([], true, ⟨none, (some 19), .lens 19 (.s 18), false⟩),
    ([], true, ⟨none, (some 20), .binc 20 .add (.s 17) (.s 19), false⟩),
    ([], true, ⟨none, (some 21), .sls 21 (.s 16) (some (.s 20)) none, false⟩),
    ([], true, ⟨none, (some 4), .mv 4 (.s 15), true⟩),
    ([], true, ⟨none, (some 5), .mv 5 (.s 21), false⟩),
    ([], true, ⟨none, (some 6), .mv 6 (.k (Value.bool true)), false⟩)]))
  .ret) .skip)))
  (.seq (.seq (.keep [0]) (.ops [⟨none, (some 22), .mv 22 (.s 0), false⟩,
    ⟨none, (some 4), .mv 4 (.s 22), false⟩,
    ⟨none, (some 5), .mv 5 (.k (Value.string ⟨#[]⟩)), false⟩,
    ⟨none, (some 6), .mv 6 (.k (Value.bool false)), false⟩]))
  .ret)))
theorem cc146 : (Tryz.f146.body).bind (cc Tryz.prog Tryz.f146.ntmps A146) = some S146 := by kernel_rfl
def R146 : List RR := [.sl 4, .sl 5, .sl 6]
theorem cr146 : Tryz.f146.results.toList.map (crr Tryz.prog) = R146.map some := by kernel_rfl
theorem nm146 : (Tryz.f146.name == "runtime.NumGoroutine") = false := by kernel_rfl
theorem fn146 : Tryz.prog.funcs[146]? = some Tryz.f146 := by kernel_rfl
theorem bd146 : ∃ b, Tryz.f146.body = some b ∧ cc Tryz.prog Tryz.f146.ntmps A146 b = some S146 := Option.bind_eq_some_iff.1 cc146
theorem sd146 {G : World → Prop} {T : FuncId → Contract} {C : Contract} (hT : ∀ f, Sound G Tryz.prog f (T f)) (hl : C.lawful) (hC : ∀ args st K, C.wp args st K → args.length ≤ 23 ∧ ∃ os op, xv T st.n S146 (st0 args st) (retK R146 st.n os K) (panK st.n op K)) (hit : SoundIt G Tryz.prog 146 C.it := by exact SoundIt.none) : Sound G Tryz.prog 146 C := by
  obtain ⟨b, hb, hc⟩ := bd146
  rw [xv_eq] at hC
  exact sound_of_ev mo fn146 hb nm146 hc cr146 hT hl hit hC
def A39 : Ann := ⟨fun _ _ => 0, fun _ => none, fun r => if r = 1 then some (false, [0]) else if r = 2 then some (false, []) else if r = 3 then some (false, [0]) else none, fun _ => []⟩
def S39 : SCode :=
  (.seq (.ops [⟨none, (some 2), .mv 2 (.k (Value.pointer none)), false⟩])
  (.seq (.seq (.seq (.keep [0]) (.ops [⟨none, (some 3), .mv 3 (.s 0), false⟩,
    ⟨none, (some 4), .lens 4 (.s 3), false⟩,
    ⟨none, (some 5), .bin 5 .gtr (.s 4) (.k (Value.int .i64 1048576)), false⟩]))
  (.cond (.s 5) (.seq (.seq (.keep []) (.ops [⟨none, (some 6), .bd 6 [(Value.int .i64 0), (Value.int .i64 0)] [(1, 1, (.k (Value.int .i64 9)))], false⟩,
    ⟨none, (some 7), .bd 7 [(Value.slice none 0 0), (Value.int .i64 0), (Value.int .i64 0), (Value.int .i64 0)] [(2, 2, (.s 6))], false⟩,
    ⟨none, (some 8), .bx 8 77 4 (.s 7), false⟩,
    ⟨none, (some 2), .mv 2 (.s 8), false⟩]))
  .ret) .skip))
  (.seq (.seq (.keep [0]) (.ops [⟨none, (some 9), .mv 9 (.s 0), false⟩,
    ⟨none, (some 10), .call (some 10) 89 false [(.s 9)], false⟩,
    ⟨none, (some 11), .bd 11 [(Value.slice none 0 0), (Value.int .i64 0), (Value.int .i64 0), (Value.int .i64 0)] [(0, 1, (.s 10))], false⟩,
    ⟨none, (some 12), .bx 12 77 4 (.s 11), false⟩,
    ⟨none, (some 2), .mv 2 (.s 12), false⟩]))
  .ret)))
theorem cc39 : (Tryz.f39.body).bind (cc Tryz.prog Tryz.f39.ntmps A39) = some S39 := by kernel_rfl
def R39 : List RR := [.sl 2]
theorem cr39 : Tryz.f39.results.toList.map (crr Tryz.prog) = R39.map some := by kernel_rfl
theorem nm39 : (Tryz.f39.name == "runtime.NumGoroutine") = false := by kernel_rfl
theorem fn39 : Tryz.prog.funcs[39]? = some Tryz.f39 := by kernel_rfl
theorem bd39 : ∃ b, Tryz.f39.body = some b ∧ cc Tryz.prog Tryz.f39.ntmps A39 b = some S39 := Option.bind_eq_some_iff.1 cc39
theorem sd39 {G : World → Prop} {T : FuncId → Contract} {C : Contract} (hT : ∀ f, Sound G Tryz.prog f (T f)) (hl : C.lawful) (hC : ∀ args st K, C.wp args st K → args.length ≤ 13 ∧ ∃ os op, xv T st.n S39 (st0 args st) (retK R39 st.n os K) (panK st.n op K)) (hit : SoundIt G Tryz.prog 39 C.it := by exact SoundIt.none) : Sound G Tryz.prog 39 C := by
  obtain ⟨b, hb, hc⟩ := bd39
  rw [xv_eq] at hC
  exact sound_of_ev mo fn39 hb nm39 hc cr39 hT hl hit hC
def A42 : Ann := ⟨fun _ _ => 0, fun r => if r = 7 then some [(0, true, []), (1, true, []), (2, true, []), (4, true, []), (5, true, []), (6, true, []), (3, true, []), (7, true, []), (8, true, []), (9, true, []), (10, true, []), (11, false, [0, 1, 2, 3, 4, 5, 6, 7, 8, 9, 10, 11, 12, 13, 14, 15]), (12, true, []), (13, true, []), (14, true, []), (15, true, []), (16, true, [])] else if r = 4 then some [(0, true, []), (1, true, []), (2, true, []), (4, true, []), (5, true, []), (6, true, []), (3, true, []), (7, true, []), (8, true, []), (9, true, [])] else none, fun r => if r = 1 then some (false, [0]) else if r = 3 then some (false, [0]) else if r = 4 then some (false, [0]) else if r = 7 then some (false, [0]) else none, fun _ => []⟩
def S42 : SCode :=
  (.seq (.ops [⟨none, (some 2), .mv 2 (.k (Value.string ⟨#[]⟩)), false⟩])
  (.seq (.seq (.seq (.keep [0]) (.ops [⟨none, (some 5), .mv 5 (.s 0), false⟩,
    ⟨none, (some 6), .nc 6 (.s 5), false⟩,
    ⟨none, (some 7), .fa 7 2 (.s 6), false⟩,
    ⟨none, (some 8), .fa 8 1 (.s 7), false⟩,
    ⟨none, (some 9), .ld 9 false 1 (.s 8), false⟩,
    ⟨none, (some 10), .bin 10 .neq (.s 9) (.k (Value.int .i64 0)), false⟩]))
  (.cond (.s 10) (.seq (.ops [⟨none, (some 2), .mv 2 (.k (Value.string ⟨#[]⟩)), false⟩])
  .ret) .skip))
  (.seq (.seq (.keep [0]) (.ops [⟨none, (some 11), .mv 11 (.s 0), false⟩,
    ⟨none, (some 12), .nc 12 (.s 11), false⟩,
    ⟨none, (some 13), .fa 13 1 (.s 12), false⟩,
    ⟨none, (some 14), .ld 14 false 1 (.s 13), false⟩,
    ⟨none, (some 15), .binc 15 .add (.s 14) (.k (Value.int .i64 1)), false⟩,
    ⟨none, (some 16), .nc 16 (.s 11), false⟩,
    ⟨none, (some 17), .fa 17 1 (.s 16), false⟩,
    ⟨none, none, .st false 1 (.s 17) (.s 15), false⟩]))
  (.seq (.seq (.seq (.keep [0]) (.dr [([], true, ⟨none, (some 18), .mv 18 (.s 0), false⟩),
    ([], true, ⟨none, (some 19), .nc 19 (.s 18), false⟩),
    ([], true, ⟨none, (some 20), .fa 20 1 (.s 19), false⟩),
    ([], true, ⟨none, (some 22), .mv 22 (.s 0), false⟩),
    ([], true, ⟨none, (some 23), .nc 23 (.s 22), false⟩),
    ([], true, ⟨none, (some 24), .fa 24 0 (.s 23), false⟩),
    ([], true, ⟨none, (some 21), .ld 21 false 1 (.s 20), false⟩),
    ([], true, ⟨none, (some 25), .ld 25 false 1 (.s 24), false⟩),
    ([], true, ⟨none, (some 26), .len 26 (.s 25), false⟩),
    ([], true, ⟨none, (some 27), .bin 27 .gtr (.s 21) (.s 26), true⟩)]))
  (.cond (.s 27) (.seq (.ops [⟨none, (some 28), .mv 28 (.s 0), false⟩,
    ⟨none, (some 29), .call (some 29) 43 false [(.s 28), (.k (Value.int .i64 1))], false⟩])
  (.seq (.ops [⟨none, (some 2), .mv 2 (.k (Value.string ⟨#[]⟩)), false⟩])
  .ret)) .skip))
  (.seq (.seq (.keep [0]) (.dr [([], true, ⟨none, (some 31), .mv 31 (.s 0), false⟩),
    ([], true, ⟨none, (some 32), .nc 32 (.s 31), false⟩),
    ([], true, ⟨none, (some 33), .fa 33 0 (.s 32), false⟩),
    ([], true, ⟨none, (some 35), .mv 35 (.s 0), false⟩),
    ([], true, ⟨none, (some 36), .nc 36 (.s 35), false⟩),
    ([], true, ⟨none, (some 37), .fa 37 1 (.s 36), false⟩),
    ([], true, ⟨none, (some 34), .ld 34 false 1 (.s 33), false⟩),
    ([], true, ⟨none, (some 38), .ld 38 false 1 (.s 37), false⟩),
    ([], true, ⟨none, (some 39), .binc 39 .sub (.s 38) (.k (Value.int .i64 1)), false⟩),
    ([], true, ⟨none, (some 40), .ia 40 1 (.s 34) (.s 39), true⟩),
    ([], true, ⟨none, (some 41), .ld 41 false 1 (.s 40), false⟩),
    ([0, 1, 2, 3, 4, 5, 6, 7, 8, 9, 10, 11, 12, 13, 14, 15], false, ⟨none, (some 42), .call (some 42) 49 false [(.s 41)], false⟩),
    ([], true, ⟨none, (some 30), .mv 30 (.s 42), false⟩),
    ([], true, ⟨none, (some 43), .ex 43 (.s 30) 0, false⟩),
    ([], true, ⟨none, (some 44), .ex 44 (.s 30) 1, false⟩),
    ([], true, ⟨none, (some 3), .mv 3 (.s 43), false⟩),
    ([], true, ⟨none, (some 4), .mv 4 (.s 44), false⟩)]))
  (.seq (.seq (.ops [⟨none, (some 45), .mv 45 (.s 4), false⟩,
    ⟨none, (some 46), .not 46 (.s 45), false⟩])
  (.cond (.s 46) (.seq (.ops [⟨none, (some 47), .mv 47 (.s 0), false⟩,
    ⟨none, (some 48), .call (some 48) 43 false [(.s 47), (.k (Value.int .i64 3))], false⟩])
  (.seq (.ops [⟨none, (some 2), .mv 2 (.k (Value.string ⟨#[]⟩)), false⟩])
  .ret)) .skip))
  (.seq (.ops [⟨none, (some 49), .mv 49 (.s 3), false⟩,
    ⟨none, (some 2), .mv 2 (.s 49), false⟩])
  .ret)))))))
theorem cc42 : (Tryz.f42.body).bind (cc Tryz.prog Tryz.f42.ntmps A42) = some S42 := by kernel_rfl
def R42 : List RR := [.sl 2]
theorem cr42 : Tryz.f42.results.toList.map (crr Tryz.prog) = R42.map some := by kernel_rfl
theorem nm42 : (Tryz.f42.name == "runtime.NumGoroutine") = false := by kernel_rfl
theorem fn42 : Tryz.prog.funcs[42]? = some Tryz.f42 := by kernel_rfl
theorem bd42 : ∃ b, Tryz.f42.body = some b ∧ cc Tryz.prog Tryz.f42.ntmps A42 b = some S42 := Option.bind_eq_some_iff.1 cc42
theorem sd42 {G : World → Prop} {T : FuncId → Contract} {C : Contract} (hT : ∀ f, Sound G Tryz.prog f (T f)) (hl : C.lawful) (hC : ∀ args st K, C.wp args st K → args.length ≤ 50 ∧ ∃ os op, xv T st.n S42 (st0 args st) (retK R42 st.n os K) (panK st.n op K)) (hit : SoundIt G Tryz.prog 42 C.it := by exact SoundIt.none) : Sound G Tryz.prog 42 C := by
  obtain ⟨b, hb, hc⟩ := bd42
  rw [xv_eq] at hC
  exact sound_of_ev mo fn42 hb nm42 hc cr42 hT hl hit hC
def A40 : Ann := ⟨fun r i => if r = 1 ∧ i = 15 then 1 else 0, fun r => if r = 1 then some [(0, true, []), (1, true, []), (2, true, []), (3, true, []), (4, true, []), (5, true, []), (6, true, []), (7, true, []), (8, true, []), (9, true, []), (11, true, []), (12, true, []), (13, true, []), (10, true, []), (14, true, []), (15, true, []), (16, true, []), (17, true, []), (18, true, [])] else none, fun r => if r = 1 then some (false, [0]) else none, fun _ => []⟩
def S40 : SCode :=
  (.seq (.ops [⟨none, (some 2), .mv 2 (.k (Value.bool false)), false⟩])
  (.seq (.seq (.keep [0]) (.dr [([], true, ⟨none, (some 3), .mv 3 (.s 0), false⟩),
    ([], true, ⟨none, (some 4), .nc 4 (.s 3), false⟩),
    ([], true, ⟨none, (some 5), .fa 5 2 (.s 4), false⟩),
    ([], true, ⟨none, (some 6), .fa 6 1 (.s 5), false⟩),
    ([], true, ⟨none, (some 7), .ld 7 false 1 (.s 6), false⟩),
    ([], true, ⟨none, (some 8), .bin 8 .eql (.s 7) (.k (Value.int .i64 0)), false⟩),
    ([], true, ⟨none, (some 9), .mv 9 (.s 8), false⟩),
    ([], true, ⟨(some (9, true)), (some 10), .mv 10 (.s 0), false⟩),
    ([], true, ⟨(some (9, true)), (some 11), .nc 11 (.s 10), false⟩),
    ([], true, ⟨(some (9, true)), (some 12), .fa 12 1 (.s 11), true⟩),
    ([], true, ⟨(some (9, true)), (some 14), .mv 14 (.s 0), false⟩),
    ([], true, ⟨(some (9, true)), (some 15), .nc 15 (.s 14), false⟩),
    ([], true, ⟨(some (9, true)), (some 16), .fa 16 0 (.s 15), false⟩),
    ([], true, ⟨(some (9, true)), (some 13), .ld 13 false 1 (.s 12), false⟩),
    ([], true, ⟨(some (9, true)), (some 17), .ld 17 false 1 (.s 16), false⟩),
    ([], true, ⟨(some (9, true)), (some 18), .len 18 (.s 17), false⟩),
    ([], true, ⟨(some (9, true)), (some 19), .bin 19 .lss (.s 13) (.s 18), false⟩),
    ([], true, ⟨none, (some 20), .pk 20 (.s 9) (.s 19) (.k (Value.bool false)), false⟩),
    ([], true, ⟨none, (some 2), .mv 2 (.s 20), false⟩)]))
  .ret))
theorem cc40 : (Tryz.f40.body).bind (cc Tryz.prog Tryz.f40.ntmps A40) = some S40 := by kernel_rfl
def R40 : List RR := [.sl 2]
theorem cr40 : Tryz.f40.results.toList.map (crr Tryz.prog) = R40.map some := by kernel_rfl
theorem nm40 : (Tryz.f40.name == "runtime.NumGoroutine") = false := by kernel_rfl
theorem fn40 : Tryz.prog.funcs[40]? = some Tryz.f40 := by kernel_rfl
theorem bd40 : ∃ b, Tryz.f40.body = some b ∧ cc Tryz.prog Tryz.f40.ntmps A40 b = some S40 := Option.bind_eq_some_iff.1 cc40
theorem sd40 {G : World → Prop} {T : FuncId → Contract} {C : Contract} (hT : ∀ f, Sound G Tryz.prog f (T f)) (hl : C.lawful) (hC : ∀ args st K, C.wp args st K → args.length ≤ 21 ∧ ∃ os op, xv T st.n S40 (st0 args st) (retK R40 st.n os K) (panK st.n op K)) (hit : SoundIt G Tryz.prog 40 C.it := by exact SoundIt.none) : Sound G Tryz.prog 40 C := by
  obtain ⟨b, hb, hc⟩ := bd40
  rw [xv_eq] at hC
  exact sound_of_ev mo fn40 hb nm40 hc cr40 hT hl hit hC
def A43 : Ann := ⟨fun _ _ => 0, fun _ => none, fun r => if r = 1 then some (false, [0, 1]) else none, fun _ => []⟩
def S43 : SCode :=
  (.seq (.ops [⟨none, (some 4), .mv 4 (.s 0), false⟩,
    ⟨none, (some 5), .nc 5 (.s 4), false⟩,
    ⟨none, (some 6), .fa 6 2 (.s 5), false⟩,
    ⟨none, (some 7), .fa 7 1 (.s 6), false⟩,
    ⟨none, (some 8), .ld 8 false 1 (.s 7), false⟩,
    ⟨none, (some 9), .bin 9 .eql (.s 8) (.k (Value.int .i64 0)), false⟩])
  (.cond (.s 9) (.seq (.keep [0, 1]) (.ops [⟨none, (some 10), .mv 10 (.s 0), false⟩,
    ⟨none, (some 11), .mv 11 (.s 0), false⟩,
    ⟨none, (some 12), .nc 12 (.s 11), false⟩,
    ⟨none, (some 13), .fa 13 1 (.s 12), false⟩,
    ⟨none, (some 14), .ld 14 false 1 (.s 13), false⟩,
    ⟨none, (some 15), .mv 15 (.s 1), false⟩,
    ⟨none, (some 16), .bd 16 [(Value.int .i64 0), (Value.int .i64 0)] [(0, 1, (.s 14)), (1, 1, (.s 15))], false⟩,
    ⟨none, (some 17), .nc 17 (.s 10), false⟩,
    ⟨none, (some 18), .fa 18 2 (.s 17), false⟩,
    ⟨none, none, .st true 2 (.s 18) (.s 16), true⟩])) .skip))
theorem cc43 : (Tryz.f43.body).bind (cc Tryz.prog Tryz.f43.ntmps A43) = some S43 := by kernel_rfl
def R43 : List RR := []
theorem cr43 : Tryz.f43.results.toList.map (crr Tryz.prog) = R43.map some := by kernel_rfl
theorem nm43 : (Tryz.f43.name == "runtime.NumGoroutine") = false := by kernel_rfl
theorem fn43 : Tryz.prog.funcs[43]? = some Tryz.f43 := by kernel_rfl
theorem bd43 : ∃ b, Tryz.f43.body = some b ∧ cc Tryz.prog Tryz.f43.ntmps A43 b = some S43 := Option.bind_eq_some_iff.1 cc43
theorem sd43 {G : World → Prop} {T : FuncId → Contract} {C : Contract} (hT : ∀ f, Sound G Tryz.prog f (T f)) (hl : C.lawful) (hC : ∀ args st K, C.wp args st K → args.length ≤ 19 ∧ ∃ os op, xv T st.n S43 (st0 args st) (retK R43 st.n os K) (panK st.n op K)) (hit : SoundIt G Tryz.prog 43 C.it := by exact SoundIt.none) : Sound G Tryz.prog 43 C := by
  obtain ⟨b, hb, hc⟩ := bd43
  rw [xv_eq] at hC
  exact sound_of_ev mo fn43 hb nm43 hc cr43 hT hl hit hC
def A89 : Ann := ⟨fun r i => if r = 1 ∧ i = 0 then 11 else 0, fun _ => none, fun r => if r = 4 then some (false, [0, 3, 4, 5]) else if r = 5 then some (false, [0, 3, 4, 5]) else if r = 6 then some (false, [0, 3, 4, 5]) else if r = 7 then some (false, [0, 3, 4, 5]) else if r = 8 then some (false, [0, 3, 5]) else if r = 9 then some (false, [0, 3, 4]) else if r = 10 then some (false, [0, 3, 4]) else none, fun r => if r = 4 then [0, 3, 4, 5] else []⟩
def S89 : SCode :=
  (.seq (.ops [⟨none, (some 2), .mv 2 (.k (Value.slice none 0 0)), false⟩])
  (.seq (.ops [⟨none, (some 3), .nr 3 9 1, false⟩])
  (.seq (.ops [⟨none, (some 4), .mv 4 (.k (Value.int .i64 0)), false⟩])
  (.seq (.seq (.ops [⟨none, (some 5), .mv 5 (.k (Value.int .i64 0)), false⟩])
  (.block 0 (.loop [0, 3, 4, 5] (.seq (.seq (.seq (.keep [0, 3, 4, 5]) (.ops [⟨none, (some 6), .mv 6 (.s 5), false⟩,
    ⟨none, (some 7), .mv 7 (.s 0), false⟩,
    ⟨none, (some 8), .lens 8 (.s 7), false⟩,
    ⟨none, (some 9), .bin 9 .lss (.s 6) (.s 8), false⟩]))
  (.cond (.s 9) .skip (.exit 0)))
  (.seq (.block 1 (.seq (.seq (.keep [0, 3, 4, 5]) (.ops [⟨none, (some 12), .mv 12 (.s 0), false⟩,
    ⟨none, (some 13), .mv 13 (.s 5), false⟩,
    ⟨none, (some 14), .ixs 14 (.s 12) (.s 13), false⟩,
    ⟨none, (some 15), .bin 15 .eql (.s 14) (.k (Value.int .u8 10)), false⟩]))
  (.cond (.s 15) (.seq (.seq (.keep [0, 3, 4, 5]) (.ops [⟨none, (some 16), .mv 16 (.s 3), false⟩,
    ⟨none, (some 17), .mv 17 (.s 0), false⟩,
    ⟨none, (some 18), .mv 18 (.s 4), false⟩,
    ⟨none, (some 19), .mv 19 (.s 5), false⟩,
    ⟨none, (some 20), .binc 20 .add (.s 19) (.k (Value.int .i64 1)), false⟩,
    ⟨none, (some 21), .sls 21 (.s 17) (some (.s 18)) (some (.s 20)), false⟩,
    ⟨none, (some 22), .bs 22 9 1 [(.s 21)], false⟩,
    ⟨none, (some 23), .ap 23 9 1 16 (.s 16) (.s 22), false⟩,
    ⟨none, (some 3), .mv 3 (.s 23), false⟩]))
  (.seq (.keep [0, 3, 5]) (.ops [⟨none, (some 24), .mv 24 (.s 5), false⟩,
    ⟨none, (some 25), .binc 25 .add (.s 24) (.k (Value.int .i64 1)), false⟩,
    ⟨none, (some 4), .mv 4 (.s 25), false⟩]))) .skip)))
  (.seq (.keep [0, 3, 4, 5]) (.ops [⟨none, (some 10), .mv 10 (.s 5), false⟩,
    ⟨none, (some 11), .binc 11 .add (.s 10) (.k (Value.int .i64 1)), false⟩,
    ⟨none, (some 5), .mv 5 (.s 11), false⟩])))))))
  (.seq (.seq (.seq (.keep [0, 3, 4]) (.ops [⟨none, (some 26), .mv 26 (.s 4), false⟩,
    ⟨none, (some 27), .mv 27 (.s 0), false⟩,
    ⟨none, (some 28), .lens 28 (.s 27), false⟩,
    ⟨none, (some 29), .bin 29 .lss (.s 26) (.s 28), false⟩]))
  (.cond (.s 29) (.seq (.keep [0, 3, 4]) (.ops [⟨none, (some 30), .mv 30 (.s 3), false⟩,
    ⟨none, (some 31), .mv 31 (.s 0), false⟩,
    ⟨none, (some 32), .mv 32 (.s 4), false⟩,
    ⟨none, (some 33), .sls 33 (.s 31) (some (.s 32)) none, false⟩,
    ⟨none, (some 34), .bs 34 9 1 [(.s 33)], false⟩,
    ⟨none, (some 35), .ap 35 9 1 16 (.s 30) (.s 34), false⟩,
    ⟨none, (some 3), .mv 3 (.s 35), false⟩])) .skip))
  (.seq (.ops [⟨none, (some 36), .mv 36 (.s 3), false⟩,
    ⟨none, (some 2), .mv 2 (.s 36), false⟩])
  .ret))))))
theorem cc89 : (Tryz.f89.body).bind (cc Tryz.prog Tryz.f89.ntmps A89) = some S89 := by kernel_rfl
def R89 : List RR := [.sl 2]
theorem cr89 : Tryz.f89.results.toList.map (crr Tryz.prog) = R89.map some := by kernel_rfl
theorem nm89 : (Tryz.f89.name == "runtime.NumGoroutine") = false := by kernel_rfl
theorem fn89 : Tryz.prog.funcs[89]? = some Tryz.f89 := by kernel_rfl
theorem bd89 : ∃ b, Tryz.f89.body = some b ∧ cc Tryz.prog Tryz.f89.ntmps A89 b = some S89 := Option.bind_eq_some_iff.1 cc89
theorem sd89 {G : World → Prop} {T : FuncId → Contract} {C : Contract} (hT : ∀ f, Sound G Tryz.prog f (T f)) (hl : C.lawful) (hC : ∀ args st K, C.wp args st K → args.length ≤ 37 ∧ ∃ os op, xv T st.n S89 (st0 args st) (retK R89 st.n os K) (panK st.n op K)) (hit : SoundIt G Tryz.prog 89 C.it := by exact SoundIt.none) : Sound G Tryz.prog 89 C := by
  obtain ⟨b, hb, hc⟩ := bd89
  rw [xv_eq] at hC
  exact sound_of_ev mo fn89 hb nm89 hc cr89 hT hl hit hC
end Go.Proofs.YtlghobefhmpfkaaGreatDoor
namespace Go.Proofs
open Go.Shelf
def Tryz.lays219_ren : Go.Shelf.Ren := ⟨fun | 219 => 149 | 217 => 163 | 225 => 191 | 224 => 192 | 267 => 193 | 266 => 197 | 314 => 215 | n => n, fun | 9 => 9 | 3 => 3 | 4 => 4 | 5 => 5 | 46 => 226 | 146 => 265 | 51 => 264 | n => n, fun | 1 => 1 | n => n⟩
theorem Tryz.lays219 : Go.Proofs.Lays.n219 Tryz.prog Tryz.lays219_ren := {
  mixed := by kernel_rfl
  f217 := Tryz.func163.trans (congrArg some (by kernel_rfl))
  f219 := Tryz.func149.trans (congrArg some (by kernel_rfl))
  f224 := Tryz.func192.trans (congrArg some (by kernel_rfl))
  f225 := Tryz.func191.trans (congrArg some (by kernel_rfl))
  f266 := Tryz.func197.trans (congrArg some (by kernel_rfl))
  f267 := Tryz.func193.trans (congrArg some (by kernel_rfl))
  f314 := Tryz.func215.trans (congrArg some (by kernel_rfl))
  t3 := Tryz.underlying3
  a3 := Tryz.isAgg3
  z3 := Tryz.sizeOf3
  v3 := Tryz.zeroValue3
  t4 := Tryz.underlying4
  a4 := Tryz.isAgg4
  z4 := Tryz.sizeOf4
  v4 := Tryz.zeroValue4
  t5 := Tryz.underlying5
  a5 := Tryz.isAgg5
  z5 := Tryz.sizeOf5
  v5 := Tryz.zeroValue5
  t9 := Tryz.underlying9
  a9 := Tryz.isAgg9
  z9 := Tryz.sizeOf9
  v9 := Tryz.zeroValue9
  t46 := Tryz.underlying226
  a46 := Tryz.isAgg226
  z46 := Tryz.sizeOf226
  v46 := Tryz.zeroValue226
  t51 := Tryz.underlying264
  a51 := Tryz.isAgg264
  z51 := Tryz.sizeOf264
  v51 := Tryz.zeroValue264
  t146 := Tryz.underlying265
  a146 := Tryz.isAgg265
  z146 := Tryz.sizeOf265
  v146 := Tryz.zeroValue265
  g1 := by kernel_rfl }
open Go.RowKit Go.Lib in
theorem Tryz.stringslite_Index_one (s : ByteArray) (c : UInt8) (w : World) :
    Calls Tryz.prog 149 #[.string s, .string ⟨#[c]⟩] w fun e w' => e = .returned (.int .i64 (Lib.indexByte s.data.toList c)) ∧ w' = w := Any.stringslite_Index_one Tryz.lays219 s c w
def Tryz.lays143_ren : Go.Shelf.Ren := ⟨fun | 143 => 88 | 219 => 149 | 217 => 163 | 225 => 191 | 224 => 192 | 267 => 193 | 266 => 197 | 314 => 215 | n => n, fun | 9 => 9 | 3 => 3 | 4 => 4 | 5 => 5 | 46 => 226 | 146 => 265 | 51 => 264 | n => n, fun | 1 => 1 | n => n⟩
theorem Tryz.lays143 : Go.Proofs.Lays.n143 Tryz.prog Tryz.lays143_ren := {
  mixed := by kernel_rfl
  f143 := Tryz.func88.trans (congrArg some (by kernel_rfl))
  f217 := Tryz.func163.trans (congrArg some (by kernel_rfl))
  f219 := Tryz.func149.trans (congrArg some (by kernel_rfl))
  f224 := Tryz.func192.trans (congrArg some (by kernel_rfl))
  f225 := Tryz.func191.trans (congrArg some (by kernel_rfl))
  f266 := Tryz.func197.trans (congrArg some (by kernel_rfl))
  f267 := Tryz.func193.trans (congrArg some (by kernel_rfl))
  f314 := Tryz.func215.trans (congrArg some (by kernel_rfl))
  t3 := Tryz.underlying3
  a3 := Tryz.isAgg3
  z3 := Tryz.sizeOf3
  v3 := Tryz.zeroValue3
  t4 := Tryz.underlying4
  a4 := Tryz.isAgg4
  z4 := Tryz.sizeOf4
  v4 := Tryz.zeroValue4
  t5 := Tryz.underlying5
  a5 := Tryz.isAgg5
  z5 := Tryz.sizeOf5
  v5 := Tryz.zeroValue5
  t9 := Tryz.underlying9
  a9 := Tryz.isAgg9
  z9 := Tryz.sizeOf9
  v9 := Tryz.zeroValue9
  t46 := Tryz.underlying226
  a46 := Tryz.isAgg226
  z46 := Tryz.sizeOf226
  v46 := Tryz.zeroValue226
  t51 := Tryz.underlying264
  a51 := Tryz.isAgg264
  z51 := Tryz.sizeOf264
  v51 := Tryz.zeroValue264
  t146 := Tryz.underlying265
  a146 := Tryz.isAgg265
  z146 := Tryz.sizeOf265
  v146 := Tryz.zeroValue265
  g1 := by kernel_rfl }
open Go.RowKit Go.Lib in
theorem Tryz.strings_Index_one (s : ByteArray) (c : UInt8) (w : World) :
    Calls Tryz.prog 88 #[.string s, .string ⟨#[c]⟩] w fun e w' => e = .returned (.int .i64 (Lib.indexByte s.data.toList c)) ∧ w' = w := Any.strings_Index_one Tryz.lays143 s c w
def Tryz.lays138_ren : Go.Shelf.Ren := ⟨fun | 138 => 188 | 195 => 207 | 218 => 209 | 143 => 88 | 219 => 149 | 217 => 163 | 225 => 191 | 224 => 192 | 267 => 193 | 266 => 197 | 314 => 215 | n => n, fun | 9 => 9 | 3 => 3 | 4 => 4 | 5 => 5 | 0 => 0 | 46 => 226 | 146 => 265 | 51 => 264 | n => n, fun | 1 => 1 | n => n⟩
theorem Tryz.lays138 : Go.Proofs.Lays.n138 Tryz.prog Tryz.lays138_ren := {
  mixed := by kernel_rfl
  f138 := Tryz.func188.trans (congrArg some (by kernel_rfl))
  f143 := Tryz.func88.trans (congrArg some (by kernel_rfl))
  f195 := Tryz.func207.trans (congrArg some (by kernel_rfl))
  f217 := Tryz.func163.trans (congrArg some (by kernel_rfl))
  f218 := Tryz.func209.trans (congrArg some (by kernel_rfl))
  f219 := Tryz.func149.trans (congrArg some (by kernel_rfl))
  f224 := Tryz.func192.trans (congrArg some (by kernel_rfl))
  f225 := Tryz.func191.trans (congrArg some (by kernel_rfl))
  f266 := Tryz.func197.trans (congrArg some (by kernel_rfl))
  f267 := Tryz.func193.trans (congrArg some (by kernel_rfl))
  f314 := Tryz.func215.trans (congrArg some (by kernel_rfl))
  t0 := Tryz.underlying0
  a0 := Tryz.isAgg0
  z0 := Tryz.sizeOf0
  v0 := Tryz.zeroValue0
  t3 := Tryz.underlying3
  a3 := Tryz.isAgg3
  z3 := Tryz.sizeOf3
  v3 := Tryz.zeroValue3
  t4 := Tryz.underlying4
  a4 := Tryz.isAgg4
  z4 := Tryz.sizeOf4
  v4 := Tryz.zeroValue4
  t5 := Tryz.underlying5
  a5 := Tryz.isAgg5
  z5 := Tryz.sizeOf5
  v5 := Tryz.zeroValue5
  t9 := Tryz.underlying9
  a9 := Tryz.isAgg9
  z9 := Tryz.sizeOf9
  v9 := Tryz.zeroValue9
  t46 := Tryz.underlying226
  a46 := Tryz.isAgg226
  z46 := Tryz.sizeOf226
  v46 := Tryz.zeroValue226
  t51 := Tryz.underlying264
  a51 := Tryz.isAgg264
  z51 := Tryz.sizeOf264
  v51 := Tryz.zeroValue264
  t146 := Tryz.underlying265
  a146 := Tryz.isAgg265
  z146 := Tryz.sizeOf265
  v146 := Tryz.zeroValue265
  g1 := by kernel_rfl }
open Go.RowKit Go.Lib in
theorem Tryz.strings_Count_one (s : ByteArray) (c : UInt8) (w : World) :
    Calls Tryz.prog 188 #[.string s, .string ⟨#[c]⟩] w fun e w' => e = .returned (.int .i64 (Lib.countByte s.data.toList c)) ∧ w' = w := Any.strings_Count_one Tryz.lays138 s c w
def Tryz.lays221_ren : Go.Shelf.Ren := ⟨fun | 221 => 145 | 268 => 187 | 138 => 188 | 143 => 88 | 195 => 207 | 197 => 208 | 218 => 209 | 219 => 149 | 260 => 218 | 217 => 163 | 225 => 191 | 224 => 192 | 267 => 193 | 266 => 197 | 314 => 215 | n => n, fun | 9 => 9 | 3 => 3 | 31 => 22 | 4 => 4 | 0 => 0 | 105 => 256 | 21 => 21 | 5 => 5 | 46 => 226 | 119 => 281 | 139 => 284 | 138 => 283 | 146 => 265 | 51 => 264 | n => n, fun | 1 => 1 | 3 => 4 | 4 => 5 | n => n⟩
theorem Tryz.lays221 : Go.Proofs.Lays.n221 Tryz.prog Tryz.lays221_ren := {
  mixed := by kernel_rfl
  f138 := Tryz.func188.trans (congrArg some (by kernel_rfl))
  f143 := Tryz.func88.trans (congrArg some (by kernel_rfl))
  f195 := Tryz.func207.trans (congrArg some (by kernel_rfl))
  f197 := Tryz.func208.trans (congrArg some (by kernel_rfl))
  f217 := Tryz.func163.trans (congrArg some (by kernel_rfl))
  f218 := Tryz.func209.trans (congrArg some (by kernel_rfl))
  f219 := Tryz.func149.trans (congrArg some (by kernel_rfl))
  f221 := Tryz.func145.trans (congrArg some (by kernel_rfl))
  f224 := Tryz.func192.trans (congrArg some (by kernel_rfl))
  f225 := Tryz.func191.trans (congrArg some (by kernel_rfl))
  f260 := Tryz.func218.trans (congrArg some (by kernel_rfl))
  f266 := Tryz.func197.trans (congrArg some (by kernel_rfl))
  f267 := Tryz.func193.trans (congrArg some (by kernel_rfl))
  f268 := Tryz.func187.trans (congrArg some (by kernel_rfl))
  f314 := Tryz.func215.trans (congrArg some (by kernel_rfl))
  t0 := Tryz.underlying0
  a0 := Tryz.isAgg0
  z0 := Tryz.sizeOf0
  v0 := Tryz.zeroValue0
  t3 := Tryz.underlying3
  a3 := Tryz.isAgg3
  z3 := Tryz.sizeOf3
  v3 := Tryz.zeroValue3
  t4 := Tryz.underlying4
  a4 := Tryz.isAgg4
  z4 := Tryz.sizeOf4
  v4 := Tryz.zeroValue4
  t5 := Tryz.underlying5
  a5 := Tryz.isAgg5
  z5 := Tryz.sizeOf5
  v5 := Tryz.zeroValue5
  t9 := Tryz.underlying9
  a9 := Tryz.isAgg9
  z9 := Tryz.sizeOf9
  v9 := Tryz.zeroValue9
  t21 := Tryz.underlying21
  a21 := Tryz.isAgg21
  z21 := Tryz.sizeOf21
  v21 := Tryz.zeroValue21
  t31 := Tryz.underlying22
  a31 := Tryz.isAgg22
  z31 := Tryz.sizeOf22
  v31 := Tryz.zeroValue22
  t46 := Tryz.underlying226
  a46 := Tryz.isAgg226
  z46 := Tryz.sizeOf226
  v46 := Tryz.zeroValue226
  t51 := Tryz.underlying264
  a51 := Tryz.isAgg264
  z51 := Tryz.sizeOf264
  v51 := Tryz.zeroValue264
  t105 := Tryz.underlying256
  a105 := Tryz.isAgg256
  z105 := Tryz.sizeOf256
  v105 := Tryz.zeroValue256
  t119 := Tryz.underlying281
  a119 := Tryz.isAgg281
  z119 := Tryz.sizeOf281
  t138 := Tryz.underlying283
  a138 := Tryz.isAgg283
  z138 := Tryz.sizeOf283
  v138 := Tryz.zeroValue283
  t139 := Tryz.underlying284
  a139 := Tryz.isAgg284
  z139 := Tryz.sizeOf284
  v139 := Tryz.zeroValue284
  t146 := Tryz.underlying265
  a146 := Tryz.isAgg265
  z146 := Tryz.sizeOf265
  v146 := Tryz.zeroValue265
  g1 := by kernel_rfl
  g3 := by kernel_rfl
  g4 := by kernel_rfl }
end Go.Proofs
set_option linter.unusedVariables false
set_option linter.unusedSimpArgs false
namespace Go.Proofs.YtlghobefhmpfkaaGreatDoor
open Go Go.Ev
set_option maxRecDepth 100000
variable {G : World → Prop}
theorem sound_lib3 {G : World → Prop} {P : Program} {f : FuncId} {g : List SV → Option (Prop × SV)} (hb : HasBody P f)
    (h : ∀ args p x, g args = some (p, x) → p → ∀ w, G w → ∀ m c vs, (∀ a u, c a u → w.cell? a = some u) → CnL m 0 c args vs → Calls P f vs.toArray w fun e w' => (∃ v, e = .returned v ∧ ∀ m n c', (∀ a u, c a u → c' a u) → (∀ a u, w'.cell? a = some u → w.heap.size ≤ a.block → c' a u) → Cn m n c' x v) ∧ RowKit.Below w.heap.size w w') : Sound G P f (pureC g) := by
  refine ⟨pureC_lawful g, ?_, SoundIt.none⟩
  intro H w m B s args vs K hK hO ha
  rw [pureC_wp] at hK
  obtain ⟨p, h1, rfl, h3, h4⟩ := need_ex hK
  refine ⟨hb, (h args p.1 p.2 h1 h3 w hO.gw m _ vs (fun a u hau => hau.1) ha).mono ?_⟩
  rintro e w' ⟨⟨v, rfl, hv⟩, hB⟩
  have hS : Since w m B ⟨0, []⟩ w' m B ⟨0, []⟩ := ⟨hB.os, hB.tape, hB.output, hB.size, fun b hb _ => hB.block b hb, fun b hb => .inl hb, Nat.le_refl _, fun _ _ => rfl, fun o x b _ h1 h2 h3 => .inl ⟨x, h1, h2, h3⟩⟩
  exact ⟨m, B, ⟨0, []⟩, .ret p.2, h4, SOk.empty (fun b hb => Nat.lt_of_lt_of_le (hO.hid b hb) hB.size) (hO.gs hS) _ _, hS, hv _ _ _ hS.vw fun a u h1 h2 => ⟨h1, fun ⟨o, x, e, _⟩ => by simp [lk] at e, fun hh => by have := hO.hid _ hh; omega⟩⟩
def lns : List UInt8 → List (List UInt8)
  | [] => []
  | c :: r => if c = 10 then [10] :: lns r else match lns r with
    | [] => [[c]]
    | p :: ps => (c :: p) :: ps
def pcs : List UInt8 → List (List UInt8)
  | [] => [[]]
  | c :: r => if c = 10 then [10] :: pcs r else match pcs r with
    | [] => [[c]]
    | p :: ps => (c :: p) :: ps
theorem pcs_ne : ∀ l, pcs l ≠ []
  | [] => by simp [pcs]
  | c :: r => by
    simp only [pcs]
    split
    · simp
    · split <;> simp
theorem pcs_lns : ∀ l, pcs l = lns l ++ (if l = [] ∨ l.getLast? = some 10 then [[]] else [])
  | [] => by simp [pcs, lns]
  | c :: r => by
    have h := pcs_lns r
    simp only [pcs, lns]
    by_cases hc : c = 10
    · subst hc
      rw [if_pos rfl, if_pos rfl, h, List.cons_append]
      congr 2
      cases r with
      | nil => simp
      | cons d r => simp [List.getLast?_cons_cons]
    · rw [if_neg hc, if_neg hc]
      cases r with
      | nil => simp [pcs, lns, hc]
      | cons d r =>
        have hn : lns (d :: r) ≠ [] := by
          simp only [lns]
          split
          · simp
          · split <;> simp
        cases hl : lns (d :: r) with
        | nil => exact absurd hl hn
        | cons p ps =>
          rw [h, hl]
          simp [List.getLast?_cons_cons]
theorem pcs_pre (p r : List UInt8) (hp : ∀ c ∈ p, c ≠ 10) : pcs (p ++ 10 :: r) = (p ++ [10]) :: pcs r := by
  induction p with
  | nil => simp [pcs]
  | cons c p ih =>
    have h := ih fun d hd => hp d (List.mem_cons_of_mem _ hd)
    simp only [List.cons_append, pcs, if_neg (hp c (List.mem_cons_self ..)), h]
theorem pcs_no (p : List UInt8) (hp : ∀ c ∈ p, c ≠ 10) : pcs p = [p] := by
  induction p with
  | nil => rfl
  | cons c p ih =>
    have h := ih fun d hd => hp d (List.mem_cons_of_mem _ hd)
    simp only [pcs, if_neg (hp c (List.mem_cons_self ..)), h]
theorem feed_or : ∀ l : List UInt8, (∀ c ∈ l, c ≠ 10) ∨ ∃ p r, l = p ++ 10 :: r ∧ ∀ c ∈ p, c ≠ 10
  | [] => .inl (by simp)
  | c :: l => by
    by_cases hc : c = 10
    · exact .inr ⟨[], l, by rw [hc]; rfl, by simp⟩
    · rcases feed_or l with h | ⟨p, r, rfl, h⟩
      · exact .inl (by simp only [List.mem_cons, forall_eq_or_imp]; exact ⟨hc, h⟩)
      · exact .inr ⟨c :: p, r, rfl, by simp only [List.mem_cons, forall_eq_or_imp]; exact ⟨hc, h⟩⟩
theorem occ_at (l : List UInt8) (i : Nat) : Lib.occAt l [10] i = decide (l[i]? = some 10) := by
  unfold Lib.occAt
  cases h : l.drop i with
  | nil =>
    have := List.drop_eq_nil_iff.1 h
    rw [List.getElem?_eq_none this]; rfl
  | cons c r =>
    have : l[i]? = some c := by rw [← List.head?_drop, h]; rfl
    rw [this]
    by_cases hc : c = 10
    · subst hc; simp [List.isPrefixOf]
    · have : ¬ (10 : UInt8) = c := fun e => hc e.symm
      simp [List.isPrefixOf, hc, this]
theorem index_feed (p r : List UInt8) (hp : ∀ c ∈ p, c ≠ 10) : Lib.index (p ++ 10 :: r) [10] = p.length := by
  refine Lib.index_first (by simp) (by rw [occ_at]; simp) fun j hj => ?_
  rw [occ_at, List.getElem?_append_left hj, List.getElem?_eq_getElem hj]
  simpa using hp _ (List.getElem_mem hj)
theorem splitK_pcs : ∀ (n : Nat) (l : List UInt8), l.count 10 = n → Lib.splitK [10] 1 n l = pcs l
  | 0, l, h => by
    have h2 : ∀ c ∈ l, c ≠ 10 := fun c hc e => by subst e; exact absurd (List.count_pos_iff.2 hc) (by omega)
    rw [pcs_no l h2]; rfl
  | n + 1, l, h => by
    rcases feed_or l with h2 | ⟨p, r, rfl, h2⟩
    · have : l.count 10 = 0 := List.count_eq_zero.2 fun hm => h2 _ hm rfl
      omega
    · have hc : p.count 10 = 0 := List.count_eq_zero.2 fun hm => h2 _ hm rfl
      rw [List.count_append, List.count_cons, hc] at h
      simp only [Lib.splitK, index_feed p r h2]
      have e1 : ((p.length : Int) == -1) = false := by simp
      rw [e1, pcs_pre p r h2]
      simp only [Bool.false_eq_true, if_false, Int.toNat_natCast, List.length_cons, List.length_nil]
      rw [splitK_pcs n _ (by rw [show p ++ 10 :: r = (p ++ [10]) ++ r by simp, List.drop_left' (by simp)]; simpa using h)]
      rw [show p ++ 10 :: r = (p ++ [10]) ++ r by simp, List.take_left' (by simp), List.drop_left' (by simp)]
theorem pcs_len : ∀ l, (pcs l).length = l.count 10 + 1
  | [] => rfl
  | c :: r => by
    have h := pcs_len r
    simp only [pcs]
    by_cases hc : c = 10
    · subst hc; simp [h]
    · rw [if_neg hc, List.count_cons_of_ne (fun e => hc e)]
      cases hp : pcs r with
      | nil => exact absurd hp (pcs_ne r)
      | cons p ps => rw [hp] at h; simpa using h
def CGen : Contract := pureC fun args => match args with
  | [.d (.v (.string s)), .d (.v (.string p)), .d (.v (.int .i64 sv)), .d (.v (.int .i64 n))] => some ((s.size ≤ 1099511627 ∧ p.data.toList = [10] ∧ sv = 1 ∧ n = -1), .d (.sl (strRows (pcs s.data.toList))))
  | _ => none
theorem sGen : Sound G Tryz.prog 145 CGen := by
  refine sound_lib3 ⟨Tryz.f145, by kernel_rfl, by kernel_rfl, by kernel_rfl⟩ fun args p x h hp => ?_
  split at h <;> simp only [Option.some.injEq, Prod.mk.injEq, reduceCtorEq] at h
  obtain ⟨rfl, rfl⟩ := h
  rename_i s q sv n
  obtain ⟨h1, h2, rfl, rfl⟩ := hp
  obtain ⟨q', rfl⟩ := ex_str q
  simp only [sem_str] at h2
  subst h2
  intro w hw m c vs hc hv
  match vs, hv with
  | [a, b, d, e], hv =>
    simp only [CnL, and_true] at hv
    obtain ⟨v1, v2, v3, v4⟩ := hv
    rw [of_v v1, of_v v2, of_v v3, of_v v4]
    have hi : ∀ x : ByteArray, Lib.indexB x ⟨#[10]⟩ = Lib.indexByte x.data.toList 10 := fun x => Lib.index_one _ _
    have hcn : Lib.countB s ⟨#[10]⟩ = s.data.toList.count 10 := Lib.count_one _ _
    have hle := Lib.countB_le ⟨#[10]⟩ (Nat.le_refl _) s.size s (Nat.le_refl _)
    have hlen := Lib.splitB_all ⟨#[10]⟩ (Nat.le_refl _) 1 _ s rfl
    have hd := Lib.splitB_data ⟨#[10]⟩ 1 (Lib.countB s ⟨#[10]⟩) s
    rw [show (⟨#[10]⟩ : ByteArray).data.toList = [10] from rfl, splitK_pcs _ _ hcn.symm] at hd
    have hcc := Any.strings_genSplit_core Tryz.lays221 (by kernel_rfl) s ⟨#[10]⟩ 1 (-1) (Lib.countB s ⟨#[10]⟩ + 1) w (by omega) (Nat.le_refl _) (Nat.le_refl _)
      (fun x cs hx => (Tryz.strings_Index_one x 10 _).mono fun e w' ⟨he, hw⟩ => ⟨by rw [he, hi], hw⟩)
      ((Tryz.strings_Count_one s 10 w).mono fun e w' ⟨he, hw⟩ => ⟨by rw [he, hcn]; rfl, hw⟩) (by decide) (by decide) (by rw [if_pos (by decide)]; omega)
    rw [Nat.add_sub_cancel, hlen] at hcc
    have e2 : Lib.cellsOf (Lib.splitB ⟨#[10]⟩ 1 (Lib.countB s ⟨#[10]⟩) s) (Lib.countB s ⟨#[10]⟩ + 1) = ((Lib.splitB ⟨#[10]⟩ 1 (Lib.countB s ⟨#[10]⟩) s).map Value.string).toArray := by rw [← hlen]; exact Lib.cellsOf_full _
    rw [e2] at hcc
    refine hcc.mono ?_
    rintro e w' ⟨rfl, rfl⟩
    have hpl : (pcs s.data.toList).length = Lib.countB s ⟨#[10]⟩ + 1 := by rw [pcs_len, hcn]
    refine ⟨⟨_, rfl, fun m n c' _ h2 => ?_⟩, (RowKit.Below.refl _ _).alloc (Nat.le_refl _) _⟩
    simp only [Cn, Rd]
    refine ⟨_, _, by rw [strRows_len, hpl], by rw [strRows_len, hpl]; exact Nat.le_refl _, by rw [strRows_len, hpl]; omega, .inr ⟨_, 1, rfl, rfl, ?_⟩⟩
    refine rdRows_of fun i r hir => ?_
    have hil : i < (pcs s.data.toList).length := by
      have := (List.getElem?_eq_some_iff.1 hir).1
      rwa [strRows_len] at this
    rw [strRows_get hil] at hir
    obtain rfl := Option.some.inj hir
    have hbl : i < (Lib.splitB ⟨#[10]⟩ 1 (Lib.countB s ⟨#[10]⟩) s).length := by rw [hlen, ← hpl]; exact hil
    refine ⟨rfl, ⟨.string (Lib.splitB ⟨#[10]⟩ 1 (Lib.countB s ⟨#[10]⟩) s)[i], h2 _ _ ?_ ?_, ?_⟩, trivial⟩
    · have hadd : (⟨w.heap.size, 0, none⟩ : Addr).add (0 + i * 1) = ⟨w.heap.size, i, none⟩ := by
        unfold Addr.add
        by_cases hz : i = 0
        · subst hz; rfl
        · rw [if_neg (by omega)]; simp
      rw [hadd, World.cell?_alloc_at _ _ _ _ (by simp)]
      simp [List.getElem?_eq_getElem hbl]
    · have hb : ((⟨w.heap.size, 0, none⟩ : Addr).add (0 + i * 1)).block = w.heap.size := by unfold Addr.add; split <;> rfl
      rw [hb]; exact Nat.le_refl _
    · simp only [Rd, Value.oneCell', and_true]
      have e3 : (pcs s.data.toList).getD i [] = ((Lib.splitB ⟨#[10]⟩ 1 (Lib.countB s ⟨#[10]⟩) s)[i]).data.toList := by
        rw [← hd, List.getD_eq_getElem?_getD, List.getElem?_map, List.getElem?_eq_getElem hbl]; rfl
      rw [e3]
  | [], hv => simp [CnL] at hv
  | [_], hv => simp [CnL] at hv
  | [_, _], hv => simp [CnL] at hv
  | [_, _, _], hv => simp [CnL] at hv
  | _ :: _ :: _ :: _ :: _ :: _, hv => simp [CnL] at hv
def CAfter : Contract := pureC fun args => match args with
  | [.d (.v (.string s)), .d (.v (.string p))] => some ((s.size ≤ 1099511627 ∧ p.data.toList = [10]), .d (.sl (strRows (pcs s.data.toList))))
  | _ => none
theorem s83 : Sound G Tryz.prog 83 CAfter := by
  refine sd83 (T := tabT [(145, CGen)]) (tab_cons sGen tab_nil) (pureC_lawful _) (pure_hX fun args p x K h hp hk => ?_)
  split at h <;> simp only [Option.some.injEq, Prod.mk.injEq, reduceCtorEq] at h
  obtain ⟨rfl, rfl⟩ := h
  rename_i s q
  obtain ⟨h1, h2⟩ := hp
  obtain ⟨q', rfl⟩ := ex_str q
  simp only [sem_str] at h2
  subst h2
  refine ⟨Nat.le_of_ble_eq_true rfl, ?_⟩
  simp -dsimp -implicitDefEqProofs only [S83, R83, CGen, h1, ↓Ev.xStp_eq, ↓Ev.P, Ev.Q, Bool.cond_true, Bool.cond_false, eq_self, forall_eq_or_imp, implies_true, forall_const, forall_eq, ↓reduceIte, reduceIte, Nat.reduceEqDiff, Nat.reduceAdd, reduceCtorEq, Nat.reduceSub, Int.reduceToNat, Int.reduceLE, Int.reduceLT, Int.reduceNeg, Nat.reduceBEq, Nat.reduceMul, Nat.reduceLeDiff, Nat.reduceMod, UInt8.reduceOfNat, Nat.reduceLT, Int.reduceEq, Int.reduceAdd, Int.reduceSub, Int.reduceMul]
  exact ⟨rfl, hk⟩
def CSplit : Contract := pureC fun args => match args with
  | [.d (.v (.string s))] => some (s.size ≤ 1099511627, .d (.sl (strRows (lns s.data.toList))))
  | _ => none
theorem pcs_last (l : List UInt8) : (pcs l).getD ((pcs l).length - 1) [] = if l = [] ∨ l.getLast? = some 10 then [] else (lns l).getLast?.getD [] := by
  rw [pcs_lns]
  split
  · simp [List.getD_eq_getElem?_getD]
  · rw [List.append_nil, List.getD_eq_getElem?_getD, List.getLast?_eq_getElem?]
theorem lns_ne : ∀ l, ∀ s ∈ lns l, s ≠ []
  | [], s, h => by simp [lns] at h
  | c :: r, s, h => by
    simp only [lns] at h
    split at h
    · rcases List.mem_cons.1 h with rfl | h
      · simp
      · exact lns_ne r s h
    · split at h
      · obtain rfl := List.mem_singleton.1 h; simp
      · rename_i p ps e
        rcases List.mem_cons.1 h with rfl | h
        · simp
        · exact lns_ne r s (by rw [e]; exact List.mem_cons_of_mem _ h)
theorem s34 : Sound G Tryz.prog 34 CSplit := by
  refine sd34 (T := tabT [(83, CAfter)]) (tab_cons s83 tab_nil) (pureC_lawful _) (pure_hX fun args p x K h hp hk => ?_)
  split at h <;> simp only [Option.some.injEq, Prod.mk.injEq, reduceCtorEq] at h
  obtain ⟨rfl, rfl⟩ := h
  rename_i s
  obtain ⟨s, rfl⟩ := ex_str s
  simp only [sem_str] at hp hk
  refine ⟨Nat.le_of_ble_eq_true rfl, ?_⟩
  have hl := pcs_len s
  have hcl := List.count_le_length (a := (10 : UInt8)) (l := s)
  have hg := strRows_get (l := pcs s) (i := (pcs s).length - 1) (by omega)
  have hlast := pcs_last s
  have hL := pcs_lns s
  by_cases hc : s = [] ∨ s.getLast? = some 10
  · rw [if_pos hc] at hlast hL
    rw [hlast] at hg
    have ht : (strRows (pcs s)).take ((pcs s).length - 1) = strRows (lns s) := by rw [hL]; simp [strRows]
    simp -dsimp -implicitDefEqProofs only [S34, R34, CAfter, hp, hg, strRows_len, ↓Ev.xStp_eq, ↓Ev.P, Ev.Q, Bool.cond_true, Bool.cond_false, eq_self, forall_eq_or_imp, implies_true, forall_const, forall_eq, ↓reduceIte, reduceIte, Nat.reduceEqDiff, Nat.reduceAdd, reduceCtorEq, Nat.reduceSub, Int.reduceToNat, Int.reduceLE, Int.reduceLT, Int.reduceNeg, Nat.reduceBEq, Nat.reduceMul, Nat.reduceLeDiff, Nat.reduceMod, UInt8.reduceOfNat, Nat.reduceLT, Int.reduceEq, Int.reduceAdd, Int.reduceSub, Int.reduceMul]
    refine ⟨by omega, by omega, by omega, by omega, by rw [strRows_all]; trivial, ?_⟩
    rw [ht]; exact hk
  · rw [if_neg hc] at hlast hL
    rw [hlast] at hg
    have hne : ¬ (lns s).getLast?.getD [] = [] := by
      cases hq : (lns s).getLast? with
      | none =>
        have h1 := List.getLast?_eq_none_iff.1 hq
        rw [h1, List.append_nil] at hL
        exact absurd hL (pcs_ne s)
      | some x => exact lns_ne s x (List.mem_of_getLast? hq)
    simp -dsimp -implicitDefEqProofs only [S34, R34, CAfter, hp, hg, strRows_len, ↓Ev.xStp_eq, ↓Ev.P, Ev.Q, Bool.cond_true, Bool.cond_false, eq_self, forall_eq_or_imp, implies_true, forall_const, forall_eq, ↓reduceIte, reduceIte, Nat.reduceEqDiff, Nat.reduceAdd, reduceCtorEq, Nat.reduceSub, Int.reduceToNat, Int.reduceLE, Int.reduceLT, Int.reduceNeg, Nat.reduceBEq, Nat.reduceMul, Nat.reduceLeDiff, Nat.reduceMod, UInt8.reduceOfNat, Nat.reduceLT, Int.reduceEq, Int.reduceAdd, Int.reduceSub, Int.reduceMul]
    refine ⟨by omega, by omega, fun h => absurd h hne, fun _ => ?_⟩
    rw [hL, List.append_nil]; exact hk
end Go.Proofs.YtlghobefhmpfkaaGreatDoor
set_option linter.unusedVariables false
set_option linter.unusedSimpArgs false
namespace Go.Proofs.YtlghobefhmpfkaaGreatDoor
open Go Go.Ev
set_option maxRecDepth 100000
variable {G : World → Prop}
theorem u8_ten (x : UInt8) : ((x.toNat : Int) = 10) ↔ x = 10 := ⟨fun h => UInt8.toNat_inj.1 (by show _ = 10; omega), fun h => by rw [h]; rfl⟩
theorem lns_pre (p r : List UInt8) (hp : ∀ c ∈ p, c ≠ 10) : lns (p ++ 10 :: r) = (p ++ [10]) :: lns r := by
  induction p with
  | nil => simp [lns]
  | cons c p ih =>
    have h := ih fun d hd => hp d (List.mem_cons_of_mem _ hd)
    simp only [List.cons_append, lns, if_neg (hp c (List.mem_cons_self ..)), h]
theorem lns_no (p : List UInt8) (hp : ∀ c ∈ p, c ≠ 10) (hn : p ≠ []) : lns p = [p] := by
  induction p with
  | nil => exact absurd rfl hn
  | cons c p ih =>
    by_cases hq : p = []
    · subst hq; simp [lns, hp c (List.mem_cons_self ..)]
    · have h := ih (fun d hd => hp d (List.mem_cons_of_mem _ hd)) hq
      simp only [lns, if_neg (hp c (List.mem_cons_self ..)), h]
theorem lns_len : ∀ l, (lns l).length ≤ l.length
  | [] => by simp [lns]
  | c :: r => by
    have h := lns_len r
    simp only [lns]
    split
    · simpa using h
    · split
      · simp
      · rename_i p ps e
        rw [e] at h; simp at h ⊢; omega
theorem lns_flat : ∀ l, (lns l).flatten = l
  | [] => rfl
  | c :: r => by
    have h := lns_flat r
    simp only [lns]
    split
    · rename_i e; subst e; simp [h]
    · split
      · rename_i e; rw [e] at h; simp at h; subst h; rfl
      · rename_i p ps e
        rw [e] at h; simp at h ⊢; exact h
structure Cutting (s : List UInt8) (acc : List (List UInt8)) (at_ i : Nat) : Prop where
  le : at_ ≤ i
  all : acc ++ lns (s.drop at_) = lns s
  no : ∀ c ∈ (s.drop at_).take (i - at_), c ≠ 10
  len : acc.length ≤ i
theorem Cutting.step {s : List UInt8} {acc : List (List UInt8)} {at_ i : Nat} (h : Cutting s acc at_ i) (hi : i < s.length) (hc : ¬ s.getD i 0 = 10) : Cutting s acc at_ (i + 1) := by
  obtain ⟨h1, h2, h3, h4⟩ := h
  refine ⟨by omega, h2, fun c hm => ?_, by omega⟩
  rw [show i + 1 - at_ = (i - at_) + 1 by omega, List.take_succ_eq_append_getElem (by rw [List.length_drop]; omega), List.mem_append] at hm
  rcases hm with hm | hm
  · exact h3 c hm
  · rw [List.mem_singleton.1 hm, List.getElem_drop]
    rw [List.getD_eq_getElem?_getD, List.getElem?_eq_getElem hi] at hc
    simpa [show at_ + (i - at_) = i by omega] using hc
theorem Cutting.cut {s : List UInt8} {acc : List (List UInt8)} {at_ i : Nat} (h : Cutting s acc at_ i) (hi : i < s.length) (hc : s.getD i 0 = 10) : Cutting s (acc ++ [(s.drop at_).take (i + 1 - at_)]) (i + 1) (i + 1) := by
  obtain ⟨h1, h2, h3, h4⟩ := h
  have e : s.drop at_ = (s.drop at_).take (i - at_) ++ 10 :: s.drop (i + 1) := by
    conv => lhs; rw [← List.take_append_drop (i - at_) (s.drop at_)]
    rw [List.drop_drop, show at_ + (i - at_) = i by omega, List.drop_eq_getElem_cons hi]
    rw [List.getD_eq_getElem?_getD, List.getElem?_eq_getElem hi] at hc
    simp only [Option.getD_some] at hc
    rw [hc]
  have e2 : (s.drop at_).take (i + 1 - at_) = (s.drop at_).take (i - at_) ++ [10] := by
    rw [show i + 1 - at_ = (i - at_) + 1 by omega, List.take_succ_eq_append_getElem (by rw [List.length_drop]; omega), List.getElem_drop]
    rw [List.getD_eq_getElem?_getD, List.getElem?_eq_getElem hi] at hc
    simp only [Option.getD_some] at hc
    simp only [show at_ + (i - at_) = i by omega, hc]
  refine ⟨Nat.le_refl _, ?_, by simp, by simp; omega⟩
  rw [← h2, e2]
  conv => rhs; rw [e, lns_pre _ _ h3]
  rw [List.append_assoc]
  rfl
theorem Cutting.fin {s : List UInt8} {acc : List (List UInt8)} {at_ i : Nat} (h : Cutting s acc at_ i) (hi : s.length ≤ i) : (s.length ≤ at_ → lns s = acc) ∧ (at_ < s.length → lns s = acc ++ [s.drop at_]) := by
  obtain ⟨h1, h2, h3, h4⟩ := h
  refine ⟨fun h => ?_, fun h => ?_⟩
  · rw [← h2, List.drop_eq_nil_of_le h]; simp [lns]
  · rw [← h2, lns_no]
    · intro c hc; exact h3 c (by rw [List.take_of_length_le (by rw [List.length_drop]; omega)]; exact hc)
    · intro e; have := congrArg List.length e; rw [List.length_drop] at this; simp at this; omega
theorem strRows_snoc (a : List (List UInt8)) (x : List UInt8) : strRows (a ++ [x]) = strRows a ++ [[.v (.string ⟨x.toArray⟩)]] := by simp [strRows]
theorem s89 : Sound G Tryz.prog 89 CSplit := by
  refine sd89 (T := tabT []) tab_nil (pureC_lawful _) (pure_hX fun args p x K h hp hk => ?_)
  split at h <;> simp only [Option.some.injEq, Prod.mk.injEq, reduceCtorEq] at h
  obtain ⟨rfl, rfl⟩ := h
  rename_i q
  obtain ⟨q, rfl⟩ := ex_str q
  simp only [sem_str] at hp hk
  refine ⟨Nat.le_of_ble_eq_true rfl, ?_⟩
  simp -dsimp -implicitDefEqProofs only [S89, R89, ↓Ev.xStp_eq, ↓Ev.P, Ev.Q, Bool.cond_true, Bool.cond_false, eq_self, forall_eq_or_imp, implies_true, forall_const, forall_eq, ↓reduceIte, reduceIte, Nat.reduceEqDiff, Nat.reduceAdd, reduceCtorEq, Nat.reduceSub, Int.reduceToNat, Int.reduceLE, Int.reduceLT, Int.reduceNeg, Nat.reduceBEq, Nat.reduceMul, Nat.reduceLeDiff, Nat.reduceMod, UInt8.reduceOfNat, Nat.reduceLT, Int.reduceEq, Int.reduceAdd, Int.reduceSub, Int.reduceMul]
  refine xLoop_intro (fun n st => ∃ (acc : List (List UInt8)) (at_ i : Nat), i ≤ q.length ∧ n = q.length - i ∧ Cutting q acc at_ i ∧
      st = ⟨[(0, .d (.v (.string ⟨q.toArray⟩))), (3, .own 0), (4, .d (.v (.int .i64 at_))), (5, .d (.v (.int .i64 i)))], 1, [(0, .row 9 1 (strRows acc))]⟩) q.length [0] ?_ ?_ ?_
  · simp -dsimp -implicitDefEqProofs only [↓Ev.xStp_eq, ↓Ev.P, Ev.Q, Bool.cond_true, Bool.cond_false, eq_self, forall_eq_or_imp, implies_true, forall_const, forall_eq, ↓reduceIte, reduceIte, Nat.reduceEqDiff, Nat.reduceAdd, reduceCtorEq, Nat.reduceSub, Int.reduceToNat, Int.reduceLE, Int.reduceLT, Int.reduceNeg, Nat.reduceBEq, Nat.reduceMul, Nat.reduceLeDiff, Nat.reduceMod, UInt8.reduceOfNat, Nat.reduceLT, Int.reduceEq, Int.reduceAdd, Int.reduceSub, Int.reduceMul]
  · simp -dsimp -implicitDefEqProofs only [↓Ev.xStp_eq, ↓Ev.P, Ev.Q, Bool.cond_true, Bool.cond_false, eq_self, forall_eq_or_imp, implies_true, forall_const, forall_eq, ↓reduceIte, reduceIte, Nat.reduceEqDiff, Nat.reduceAdd, reduceCtorEq, Nat.reduceSub, Int.reduceToNat, Int.reduceLE, Int.reduceLT, Int.reduceNeg, Nat.reduceBEq, Nat.reduceMul, Nat.reduceLeDiff, Nat.reduceMod, UInt8.reduceOfNat, Nat.reduceLT, Int.reduceEq, Int.reduceAdd, Int.reduceSub, Int.reduceMul]
    exact ⟨[], 0, 0, by omega, by omega, ⟨Nat.le_refl _, rfl, by simp, by simp⟩, rfl⟩
  · rintro n st ⟨acc, at_, i, hi, hn, hc, rfl⟩
    have hal := hc.le
    have hacc := hc.len
    by_cases hil : i < q.length
    · have hi3 : (i : Int) < q.length := by omega
      by_cases hf : q.getD i 0 = 10
      · have hf2 : ((q.getD i 0).toNat : Int) = 10 := (u8_ten _).2 hf
        simp -dsimp -implicitDefEqProofs only [hi3, hf2, strRows_len, ↓Ev.xStp_eq, ↓Ev.P, Ev.Q, Bool.cond_true, Bool.cond_false, eq_self, forall_eq_or_imp, implies_true, forall_const, forall_eq, ↓reduceIte, reduceIte, Nat.reduceEqDiff, Nat.reduceAdd, reduceCtorEq, Nat.reduceSub, Int.reduceToNat, Int.reduceLE, Int.reduceLT, Int.reduceNeg, Nat.reduceBEq, Nat.reduceMul, Nat.reduceLeDiff, Nat.reduceMod, UInt8.reduceOfNat, Nat.reduceLT, Int.reduceEq, Int.reduceAdd, Int.reduceSub, Int.reduceMul]
        repeat' (first | with_reducible assumption | refine And.intro ?_ ?_ | intro _)
        all_goals try omega
        refine xAgain_intro (q.length - (i + 1)) [2] (by omega) (by simp -dsimp -implicitDefEqProofs only [↓Ev.xStp_eq, ↓Ev.P, Ev.Q, Bool.cond_true, Bool.cond_false, eq_self, forall_eq_or_imp, implies_true, forall_const, forall_eq, ↓reduceIte, reduceIte, Nat.reduceEqDiff, Nat.reduceAdd, reduceCtorEq, Nat.reduceSub, Int.reduceToNat, Int.reduceLE, Int.reduceLT, Int.reduceNeg, Nat.reduceBEq, Nat.reduceMul, Nat.reduceLeDiff, Nat.reduceMod, UInt8.reduceOfNat, Nat.reduceLT, Int.reduceEq, Int.reduceAdd, Int.reduceSub, Int.reduceMul]) ⟨acc ++ [(q.drop at_).take (i + 1 - at_)], i + 1, i + 1, by omega, rfl, hc.cut hil hf, ?_⟩
        rw [strRows_snoc]
        simp -dsimp -implicitDefEqProofs only [↓Ev.xStp_eq, ↓Ev.P, Ev.Q, Bool.cond_true, Bool.cond_false, eq_self, forall_eq_or_imp, implies_true, forall_const, forall_eq, ↓reduceIte, reduceIte, Nat.reduceEqDiff, Nat.reduceAdd, reduceCtorEq, Nat.reduceSub, Int.reduceToNat, Int.reduceLE, Int.reduceLT, Int.reduceNeg, Nat.reduceBEq, Nat.reduceMul, Nat.reduceLeDiff, Nat.reduceMod, UInt8.reduceOfNat, Nat.reduceLT, Int.reduceEq, Int.reduceAdd, Int.reduceSub, Int.reduceMul]
        rfl
      · have hf2 : ¬ ((q.getD i 0).toNat : Int) = 10 := fun h => hf ((u8_ten _).1 h)
        simp -dsimp -implicitDefEqProofs only [hi3, hf2, strRows_len, ↓Ev.xStp_eq, ↓Ev.P, Ev.Q, Bool.cond_true, Bool.cond_false, eq_self, forall_eq_or_imp, implies_true, forall_const, forall_eq, ↓reduceIte, reduceIte, Nat.reduceEqDiff, Nat.reduceAdd, reduceCtorEq, Nat.reduceSub, Int.reduceToNat, Int.reduceLE, Int.reduceLT, Int.reduceNeg, Nat.reduceBEq, Nat.reduceMul, Nat.reduceLeDiff, Nat.reduceMod, UInt8.reduceOfNat, Nat.reduceLT, Int.reduceEq, Int.reduceAdd, Int.reduceSub, Int.reduceMul]
        repeat' (first | with_reducible assumption | refine And.intro ?_ ?_ | intro _)
        all_goals try omega
        refine xAgain_intro (q.length - (i + 1)) [0] (by omega) (by simp -dsimp -implicitDefEqProofs only [↓Ev.xStp_eq, ↓Ev.P, Ev.Q, Bool.cond_true, Bool.cond_false, eq_self, forall_eq_or_imp, implies_true, forall_const, forall_eq, ↓reduceIte, reduceIte, Nat.reduceEqDiff, Nat.reduceAdd, reduceCtorEq, Nat.reduceSub, Int.reduceToNat, Int.reduceLE, Int.reduceLT, Int.reduceNeg, Nat.reduceBEq, Nat.reduceMul, Nat.reduceLeDiff, Nat.reduceMod, UInt8.reduceOfNat, Nat.reduceLT, Int.reduceEq, Int.reduceAdd, Int.reduceSub, Int.reduceMul]) ⟨acc, at_, i + 1, by omega, rfl, hc.step hil hf, ?_⟩
        simp -dsimp -implicitDefEqProofs only [↓Ev.xStp_eq, ↓Ev.P, Ev.Q, Bool.cond_true, Bool.cond_false, eq_self, forall_eq_or_imp, implies_true, forall_const, forall_eq, ↓reduceIte, reduceIte, Nat.reduceEqDiff, Nat.reduceAdd, reduceCtorEq, Nat.reduceSub, Int.reduceToNat, Int.reduceLE, Int.reduceLT, Int.reduceNeg, Nat.reduceBEq, Nat.reduceMul, Nat.reduceLeDiff, Nat.reduceMod, UInt8.reduceOfNat, Nat.reduceLT, Int.reduceEq, Int.reduceAdd, Int.reduceSub, Int.reduceMul]
        rfl
    · have hi3 : ¬ (i : Int) < q.length := by omega
      obtain ⟨f1, f2⟩ := hc.fin (by omega)
      by_cases ha : at_ < q.length
      · have ha3 : (at_ : Int) < q.length := by omega
        rw [f2 ha] at hk
        rw [strRows_snoc] at hk
        simp -dsimp -implicitDefEqProofs only [hi3, ha3, strRows_len, ↓Ev.xStp_eq, ↓Ev.P, Ev.Q, Bool.cond_true, Bool.cond_false, eq_self, forall_eq_or_imp, implies_true, forall_const, forall_eq, ↓reduceIte, reduceIte, Nat.reduceEqDiff, Nat.reduceAdd, reduceCtorEq, Nat.reduceSub, Int.reduceToNat, Int.reduceLE, Int.reduceLT, Int.reduceNeg, Nat.reduceBEq, Nat.reduceMul, Nat.reduceLeDiff, Nat.reduceMod, UInt8.reduceOfNat, Nat.reduceLT, Int.reduceEq, Int.reduceAdd, Int.reduceSub, Int.reduceMul]
        repeat' (first | with_reducible assumption | refine And.intro ?_ ?_ | intro _)
        all_goals try omega
      · have ha3 : ¬ (at_ : Int) < q.length := by omega
        rw [f1 (by omega)] at hk
        simp -dsimp -implicitDefEqProofs only [hi3, ha3, strRows_len, ↓Ev.xStp_eq, ↓Ev.P, Ev.Q, Bool.cond_true, Bool.cond_false, eq_self, forall_eq_or_imp, implies_true, forall_const, forall_eq, ↓reduceIte, reduceIte, Nat.reduceEqDiff, Nat.reduceAdd, reduceCtorEq, Nat.reduceSub, Int.reduceToNat, Int.reduceLE, Int.reduceLT, Int.reduceNeg, Nat.reduceBEq, Nat.reduceMul, Nat.reduceLeDiff, Nat.reduceMod, UInt8.reduceOfNat, Nat.reduceLT, Int.reduceEq, Int.reduceAdd, Int.reduceSub, Int.reduceMul]
        exact hk
end Go.Proofs.YtlghobefhmpfkaaGreatDoor
set_option linter.unusedVariables false
set_option linter.unusedSimpArgs false
namespace Go.Proofs.YtlghobefhmpfkaaGreatDoor
open Go Go.Ev
set_option maxRecDepth 100000
variable {G : World → Prop}
theorem getD_in {l : List (List UInt8)} {i : Nat} (h : i < l.length) : l.getD i [] ∈ l := by
  rw [List.getD_eq_getElem?_getD, List.getElem?_eq_getElem h]; exact List.getElem_mem h
end Go.Proofs.YtlghobefhmpfkaaGreatDoor
set_option linter.unusedVariables false
namespace Go.Proofs.YtlghobefhmpfkaaGreatDoor
open Go Go.Ev
set_option maxRecDepth 100000
def A86 : Ann := ⟨fun r i => if r = 1 ∧ i = 4 then 1 else 0, fun _ => none, fun r => if r = 1 then some (false, [0]) else if r = 6 then some (false, [0, 5, 21]) else if r = 8 then some (false, [0]) else if r = 9 then some (false, [6, 7]) else if r = 11 then some (false, [6]) else none, fun r => if r = 4 then [0, 21] else []⟩
def S86_0 : SCode :=
  (.ops [⟨none, (some 2), .mv 2 (.k (Value.int .i64 0)), false⟩,
    ⟨none, (some 3), .mv 3 (.k (Value.int .i64 0)), false⟩])
def S86_1 : SCode :=
  (.seq (.seq (.keep [0]) (.ops [⟨none, (some 8), .mv 8 (.s 0), false⟩,
    ⟨none, (some 9), .bin 9 .eql (.s 8) (.k (Value.string ⟨#[]⟩)), false⟩,
    ⟨none, (some 10), .mv 10 (.s 9), false⟩,
    ⟨(some (10, false)), (some 11), .mv 11 (.s 0), false⟩,
    ⟨(some (10, false)), (some 12), .lens 12 (.s 11), false⟩,
    ⟨(some (10, false)), (some 13), .bin 13 .gtr (.s 12) (.k (Value.int .i64 1)), false⟩,
    ⟨(some (10, false)), (some 14), .mv 14 (.s 13), false⟩,
    ⟨(some (14, true)), (some 15), .mv 15 (.s 0), false⟩,
    ⟨(some (14, true)), (some 16), .ixs 16 (.s 15) (.k (Value.int .i64 0)), false⟩,
    ⟨(some (14, true)), (some 17), .bin 17 .eql (.s 16) (.k (Value.int .u8 48)), true⟩,
    ⟨(some (10, false)), (some 18), .pk 18 (.s 14) (.s 17) (.k (Value.bool false)), false⟩,
    ⟨none, (some 19), .pk 19 (.s 10) (.k (Value.bool true)) (.s 18), false⟩]))
  (.cond (.s 19) (.seq (.ops [⟨none, (some 2), .mv 2 (.k (Value.int .i64 0)), false⟩,
    ⟨none, (some 3), .mv 3 (.k (Value.int .i64 3)), false⟩])
  .ret) .skip))
def S86_2 : SCode :=
  (.seq (.ops [⟨none, (some 20), .mv 20 (.s 0), false⟩,
    ⟨none, (some 21), .rg 21 (.s 20), false⟩])
  (.block 0 (.loop [0, 21] (.seq (.ops [⟨none, (some 22), .nx 22 (.s 21), false⟩,
    ⟨none, (some 23), .ex 23 (.s 22) 0, false⟩])
  (.seq (.cond (.s 23) .skip (.exit 0))
  (.block 1 (.seq (.ops [⟨none, (some 24), .ex 24 (.s 22) 2, false⟩,
    ⟨none, (some 5), .mv 5 (.s 24), false⟩])
  (.seq (.seq (.keep [0, 5, 21]) (.ops [⟨none, (some 25), .mv 25 (.s 5), false⟩,
    ⟨none, (some 26), .bin 26 .lss (.s 25) (.k (Value.int .i32 48)), false⟩,
    ⟨none, (some 27), .mv 27 (.s 26), false⟩,
    ⟨(some (27, false)), (some 28), .mv 28 (.s 5), false⟩,
    ⟨(some (27, false)), (some 29), .bin 29 .gtr (.s 28) (.k (Value.int .i32 57)), false⟩,
    ⟨none, (some 30), .pk 30 (.s 27) (.k (Value.bool true)) (.s 29), false⟩]))
  (.cond (.s 30) (.seq (.ops [⟨none, (some 2), .mv 2 (.k (Value.int .i64 0)), false⟩,
    ⟨none, (some 3), .mv 3 (.k (Value.int .i64 3)), false⟩])
  .ret) .skip)))))))))
def S86_3 : SCode :=
  (.seq (.keep [0]) (.ops [⟨none, (some 32), .mv 32 (.s 0), false⟩,
    ⟨none, (some 33), .call (some 33) 147 false [(.s 32)], false⟩,
    ⟨none, (some 31), .mv 31 (.s 33), false⟩,
    ⟨none, (some 34), .ex 34 (.s 31) 0, false⟩,
    ⟨none, (some 35), .ex 35 (.s 31) 1, false⟩,
    ⟨none, (some 6), .mv 6 (.s 34), false⟩,
    ⟨none, (some 7), .mv 7 (.s 35), false⟩]))
def S86_4 : SCode :=
  (.seq (.seq (.keep [6, 7]) (.ops [⟨none, (some 36), .mv 36 (.s 7), false⟩,
    ⟨none, (some 37), .isnil 37 true true (.s 36), false⟩,
    ⟨none, (some 38), .mv 38 (.s 37), false⟩,
    ⟨(some (38, false)), (some 39), .mv 39 (.s 6), false⟩,
    ⟨(some (38, false)), (some 40), .bin 40 .gtr (.s 39) (.k (Value.int .i64 2147483647)), false⟩,
    ⟨none, (some 41), .pk 41 (.s 38) (.k (Value.bool true)) (.s 40), false⟩]))
  (.cond (.s 41) (.seq (.ops [⟨none, (some 2), .mv 2 (.k (Value.int .i64 0)), false⟩,
    ⟨none, (some 3), .mv 3 (.k (Value.int .i64 2)), false⟩])
  .ret) .skip))
def S86_5 : SCode :=
  (.seq (.keep [6]) (.ops [⟨none, (some 42), .mv 42 (.s 6), false⟩,
    ⟨none, (some 2), .mv 2 (.s 42), false⟩,
    ⟨none, (some 3), .mv 3 (.k (Value.int .i64 0)), false⟩]))
def S86r6 : SCode := .ret
def S86r5 : SCode := .seq S86_5 S86r6
def S86r4 : SCode := .seq S86_4 S86r5
def S86r3 : SCode := .seq S86_3 S86r4
def S86r2 : SCode := .seq S86_2 S86r3
def S86r1 : SCode := .seq S86_1 S86r2
def S86 : SCode := .seq S86_0 S86r1
theorem cc86 : (Tryz.f86.body).bind (cc Tryz.prog Tryz.f86.ntmps A86) = some S86 := by kernel_rfl
def R86 : List RR := [.sl 2, .sl 3]
theorem cr86 : Tryz.f86.results.toList.map (crr Tryz.prog) = R86.map some := by kernel_rfl
theorem nm86 : (Tryz.f86.name == "runtime.NumGoroutine") = false := by kernel_rfl
theorem fn86 : Tryz.prog.funcs[86]? = some Tryz.f86 := by kernel_rfl
theorem bd86 : ∃ b, Tryz.f86.body = some b ∧ cc Tryz.prog Tryz.f86.ntmps A86 b = some S86 := Option.bind_eq_some_iff.1 cc86
theorem sd86 {G : World → Prop} {T : FuncId → Contract} {C : Contract} (hT : ∀ f, Sound G Tryz.prog f (T f)) (hl : C.lawful) (hC : ∀ args st K, C.wp args st K → args.length ≤ 43 ∧ ∃ os op, xv T st.n S86 (st0 args st) (retK R86 st.n os K) (panK st.n op K)) (hit : SoundIt G Tryz.prog 86 C.it := by exact SoundIt.none) : Sound G Tryz.prog 86 C := by
  obtain ⟨b, hb, hc⟩ := bd86
  rw [xv_eq] at hC
  exact sound_of_ev mo fn86 hb nm86 hc cr86 hT hl hit hC
def A90 : Ann := ⟨fun r i => if r = 1 ∧ i = 5 then 1 else 0, fun _ => none, fun r => if r = 1 then some (false, [0]) else if r = 5 then some (false, [0, 4, 5]) else if r = 6 then some (false, [0, 4, 5]) else if r = 7 then some (false, [0, 4, 5]) else if r = 9 then some (false, [0, 4, 5]) else if r = 12 then some (false, [4]) else none, fun r => if r = 5 then [0, 4, 5] else []⟩
def S90 : SCode :=
  (.seq (.ops [⟨none, (some 2), .mv 2 (.k (Value.int .i64 0)), false⟩,
    ⟨none, (some 3), .mv 3 (.k (Value.int .i64 0)), false⟩])
  (.seq (.seq (.seq (.keep [0]) (.ops [⟨none, (some 6), .mv 6 (.s 0), false⟩,
    ⟨none, (some 7), .lens 7 (.s 6), false⟩,
    ⟨none, (some 8), .bin 8 .eql (.s 7) (.k (Value.int .i64 0)), false⟩,
    ⟨none, (some 9), .mv 9 (.s 8), false⟩,
    ⟨(some (9, false)), (some 10), .mv 10 (.s 0), false⟩,
    ⟨(some (9, false)), (some 11), .lens 11 (.s 10), false⟩,
    ⟨(some (9, false)), (some 12), .bin 12 .gtr (.s 11) (.k (Value.int .i64 1)), false⟩,
    ⟨(some (9, false)), (some 13), .mv 13 (.s 12), false⟩,
    ⟨(some (13, true)), (some 14), .mv 14 (.s 0), false⟩,
    ⟨(some (13, true)), (some 15), .ixs 15 (.s 14) (.k (Value.int .i64 0)), true⟩,
    ⟨(some (13, true)), (some 16), .bin 16 .eql (.s 15) (.k (Value.int .u8 48)), false⟩,
    ⟨(some (9, false)), (some 17), .pk 17 (.s 13) (.s 16) (.k (Value.bool false)), false⟩,
    ⟨none, (some 18), .pk 18 (.s 9) (.k (Value.bool true)) (.s 17), false⟩]))
  (.cond (.s 18) (.seq (.ops [⟨none, (some 2), .mv 2 (.k (Value.int .i64 0)), false⟩,
    ⟨none, (some 3), .mv 3 (.k (Value.int .i64 3)), false⟩])
  .ret) .skip))
  (.seq (.ops [⟨none, (some 4), .mv 4 (.k (Value.int .i64 0)), false⟩])
  (.seq (.seq (.ops [⟨none, (some 5), .mv 5 (.k (Value.int .i64 0)), false⟩])
  (.block 0 (.loop [0, 4, 5] (.seq (.seq (.seq (.keep [0, 4, 5]) (.ops [⟨none, (some 19), .mv 19 (.s 5), false⟩,
    ⟨none, (some 20), .mv 20 (.s 0), false⟩,
    ⟨none, (some 21), .lens 21 (.s 20), false⟩,
    ⟨none, (some 22), .bin 22 .lss (.s 19) (.s 21), false⟩]))
  (.cond (.s 22) .skip (.exit 0)))
  (.seq (.block 1 (.seq (.seq (.seq (.keep [0, 4, 5]) (.ops [⟨none, (some 25), .mv 25 (.s 0), false⟩,
    ⟨none, (some 26), .mv 26 (.s 5), false⟩,
    ⟨none, (some 27), .ixs 27 (.s 25) (.s 26), false⟩,
    ⟨none, (some 28), .bin 28 .lss (.s 27) (.k (Value.int .u8 48)), false⟩,
    ⟨none, (some 29), .mv 29 (.s 28), false⟩,
    ⟨(some (29, false)), (some 30), .mv 30 (.s 0), false⟩,
    ⟨(some (29, false)), (some 31), .mv 31 (.s 5), false⟩,
    ⟨(some (29, false)), (some 32), .ixs 32 (.s 30) (.s 31), false⟩,
    ⟨(some (29, false)), (some 33), .bin 33 .gtr (.s 32) (.k (Value.int .u8 57)), false⟩,
    ⟨none, (some 34), .pk 34 (.s 29) (.k (Value.bool true)) (.s 33), true⟩]))
  (.cond (.s 34) (.seq (.ops [⟨none, (some 2), .mv 2 (.k (Value.int .i64 0)), false⟩,
    ⟨none, (some 3), .mv 3 (.k (Value.int .i64 3)), false⟩])
  .ret) .skip))
  (.seq (.keep [0, 4, 5]) (.ops [⟨none, (some 35), .mv 35 (.s 4), false⟩,
    ⟨none, (some 36), .binc 36 .mul (.s 35) (.k (Value.int .i64 10)), false⟩,
    ⟨none, (some 37), .mv 37 (.s 0), false⟩,
    ⟨none, (some 38), .mv 38 (.s 5), false⟩,
    ⟨none, (some 39), .ixs 39 (.s 37) (.s 38), false⟩,
    ⟨none, (some 40), .bin 40 .sub (.s 39) (.k (Value.int .u8 48)), false⟩,
    ⟨none, (some 41), .cvi 41 .i64 (.s 40), false⟩,
    ⟨none, (some 42), .binc 42 .add (.s 36) (.s 41), false⟩,
    ⟨none, (some 43), .mm 43 true (.s 42) [(.k (Value.int .i64 2147483648))], false⟩,
    ⟨none, (some 4), .mv 4 (.s 43), true⟩]))))
  (.seq (.keep [0, 4, 5]) (.ops [⟨none, (some 23), .mv 23 (.s 5), false⟩,
    ⟨none, (some 24), .binc 24 .add (.s 23) (.k (Value.int .i64 1)), false⟩,
    ⟨none, (some 5), .mv 5 (.s 24), false⟩])))))))
  (.seq (.seq (.ops [⟨none, (some 44), .mv 44 (.s 4), false⟩,
    ⟨none, (some 45), .bin 45 .gtr (.s 44) (.k (Value.int .i64 2147483647)), false⟩])
  (.cond (.s 45) (.seq (.ops [⟨none, (some 2), .mv 2 (.k (Value.int .i64 0)), false⟩,
    ⟨none, (some 3), .mv 3 (.k (Value.int .i64 2)), false⟩])
  .ret) .skip))
  (.seq (.seq (.keep [4]) (.ops [⟨none, (some 46), .mv 46 (.s 4), false⟩,
    ⟨none, (some 2), .mv 2 (.s 46), false⟩,
    ⟨none, (some 3), .mv 3 (.k (Value.int .i64 0)), false⟩]))
  .ret))))))
theorem cc90 : (Tryz.f90.body).bind (cc Tryz.prog Tryz.f90.ntmps A90) = some S90 := by kernel_rfl
def R90 : List RR := [.sl 2, .sl 3]
theorem cr90 : Tryz.f90.results.toList.map (crr Tryz.prog) = R90.map some := by kernel_rfl
theorem nm90 : (Tryz.f90.name == "runtime.NumGoroutine") = false := by kernel_rfl
theorem fn90 : Tryz.prog.funcs[90]? = some Tryz.f90 := by kernel_rfl
theorem bd90 : ∃ b, Tryz.f90.body = some b ∧ cc Tryz.prog Tryz.f90.ntmps A90 b = some S90 := Option.bind_eq_some_iff.1 cc90
theorem sd90 {G : World → Prop} {T : FuncId → Contract} {C : Contract} (hT : ∀ f, Sound G Tryz.prog f (T f)) (hl : C.lawful) (hC : ∀ args st K, C.wp args st K → args.length ≤ 47 ∧ ∃ os op, xv T st.n S90 (st0 args st) (retK R90 st.n os K) (panK st.n op K)) (hit : SoundIt G Tryz.prog 90 C.it := by exact SoundIt.none) : Sound G Tryz.prog 90 C := by
  obtain ⟨b, hb, hc⟩ := bd90
  rw [xv_eq] at hC
  exact sound_of_ev mo fn90 hb nm90 hc cr90 hT hl hit hC
end Go.Proofs.YtlghobefhmpfkaaGreatDoor
namespace Go.Proofs
open Go.Shelf
def Tryz.laysC172_ren : Go.Shelf.Ren := ⟨fun | 172 => 147 | 244 => 189 | 245 => 190 | 247 => 210 | 279 => 211 | 280 => 212 | 281 => 213 | 282 => 214 | 287 => 219 | 316 => 220 | 171 => 155 | 205 => 221 | 321 => 226 | 322 => 227 | 243 => 194 | 246 => 216 | 283 => 222 | 284 => 223 | 285 => 224 | 286 => 225 | 129 => 229 | 317 => 228 | 318 => 230 | 319 => 231 | 320 => 232 | 337 => 233 | 338 => 234 | n => n, fun | 9 => 9 | 3 => 3 | 75 => 24 | 76 => 118 | 4 => 4 | 5 => 5 | 167 => 258 | 37 => 115 | 0 => 0 | 85 => 259 | 2 => 2 | 168 => 261 | 53 => 270 | 175 => 271 | 46 => 226 | 210 => 274 | 127 => 178 | 145 => 288 | 143 => 286 | 21 => 21 | 171 => 276 | 173 => 279 | 212 => 290 | 51 => 264 | 20 => 20 | 213 => 291 | 232 => 294 | 233 => 295 | 80 => 75 | n => n, fun | 15 => 2 | 16 => 3 | 17 => 6 | 18 => 7 | 19 => 8 | n => n⟩
theorem Tryz.laysC172 : Go.Proofs.LaysC.n172 Tryz.prog Tryz.laysC172_ren := {
  mixed := by kernel_rfl
  f129 := Tryz.func229.trans (congrArg some (by kernel_rfl))
  f171 := Tryz.func155.trans (congrArg some (by kernel_rfl))
  f172 := Tryz.func147.trans (congrArg some (by kernel_rfl))
  f205 := Tryz.func221.trans (congrArg some (by kernel_rfl))
  f243 := Tryz.func194.trans (congrArg some (by kernel_rfl))
  f244 := Tryz.func189.trans (congrArg some (by kernel_rfl))
  f245 := Tryz.func190.trans (congrArg some (by kernel_rfl))
  f246 := Tryz.func216.trans (congrArg some (by kernel_rfl))
  f247 := Tryz.func210.trans (congrArg some (by kernel_rfl))
  f279 := Tryz.func211.trans (congrArg some (by kernel_rfl))
  f280 := Tryz.func212.trans (congrArg some (by kernel_rfl))
  f281 := Tryz.func213.trans (congrArg some (by kernel_rfl))
  f282 := Tryz.func214.trans (congrArg some (by kernel_rfl))
  f283 := Tryz.func222.trans (congrArg some (by kernel_rfl))
  f284 := Tryz.func223.trans (congrArg some (by kernel_rfl))
  f285 := Tryz.func224.trans (congrArg some (by kernel_rfl))
  f286 := Tryz.func225.trans (congrArg some (by kernel_rfl))
  f287 := Tryz.func219.trans (congrArg some (by kernel_rfl))
  f316 := Tryz.func220.trans (congrArg some (by kernel_rfl))
  f317 := Tryz.func228.trans (congrArg some (by kernel_rfl))
  f318 := Tryz.func230.trans (congrArg some (by kernel_rfl))
  f319 := Tryz.func231.trans (congrArg some (by kernel_rfl))
  f320 := Tryz.func232.trans (congrArg some (by kernel_rfl))
  f321 := Tryz.func226.trans (congrArg some (by kernel_rfl))
  f322 := Tryz.func227.trans (congrArg some (by kernel_rfl))
  f337 := Tryz.func233.trans (congrArg some (by kernel_rfl))
  f338 := Tryz.func234.trans (congrArg some (by kernel_rfl))
  t0 := Tryz.underlying0
  a0 := Tryz.isAgg0
  z0 := Tryz.sizeOf0
  v0 := Tryz.zeroValue0
  t2 := Tryz.underlying2
  a2 := Tryz.isAgg2
  z2 := Tryz.sizeOf2
  v2 := Tryz.zeroValue2
  t3 := Tryz.underlying3
  a3 := Tryz.isAgg3
  z3 := Tryz.sizeOf3
  v3 := Tryz.zeroValue3
  t4 := Tryz.underlying4
  a4 := Tryz.isAgg4
  z4 := Tryz.sizeOf4
  v4 := Tryz.zeroValue4
  t5 := Tryz.underlying5
  a5 := Tryz.isAgg5
  z5 := Tryz.sizeOf5
  v5 := Tryz.zeroValue5
  t9 := Tryz.underlying9
  a9 := Tryz.isAgg9
  z9 := Tryz.sizeOf9
  v9 := Tryz.zeroValue9
  t20 := Tryz.underlying20
  a20 := Tryz.isAgg20
  z20 := Tryz.sizeOf20
  v20 := Tryz.zeroValue20
  t21 := Tryz.underlying21
  a21 := Tryz.isAgg21
  z21 := Tryz.sizeOf21
  v21 := Tryz.zeroValue21
  t37 := Tryz.underlying115
  a37 := Tryz.isAgg115
  z37 := Tryz.sizeOf115
  v37 := Tryz.zeroValue115
  t46 := Tryz.underlying226
  a46 := Tryz.isAgg226
  z46 := Tryz.sizeOf226
  v46 := Tryz.zeroValue226
  t51 := Tryz.underlying264
  a51 := Tryz.isAgg264
  z51 := Tryz.sizeOf264
  v51 := Tryz.zeroValue264
  t53 := Tryz.underlying270
  a53 := Tryz.isAgg270
  z53 := Tryz.sizeOf270
  v53 := Tryz.zeroValue270
  t75 := Tryz.underlying24
  a75 := Tryz.isAgg24
  z75 := Tryz.sizeOf24
  v75 := Tryz.zeroValue24
  t76 := Tryz.underlying118
  a76 := Tryz.isAgg118
  z76 := Tryz.sizeOf118
  v76 := Tryz.zeroValue118
  t85 := Tryz.underlying259
  a85 := Tryz.isAgg259
  z85 := Tryz.sizeOf259
  v85 := Tryz.zeroValue259
  t127 := Tryz.underlying178
  a127 := Tryz.isAgg178
  z127 := Tryz.sizeOf178
  v127 := Tryz.zeroValue178
  t143 := Tryz.underlying286
  a143 := Tryz.isAgg286
  z143 := Tryz.sizeOf286
  v143 := Tryz.zeroValue286
  t145 := Tryz.underlying288
  a145 := Tryz.isAgg288
  z145 := Tryz.sizeOf288
  v145 := Tryz.zeroValue288
  t167 := Tryz.underlying258
  a167 := Tryz.isAgg258
  z167 := Tryz.sizeOf258
  v167 := Tryz.zeroValue258
  t168 := Tryz.underlying261
  a168 := Tryz.isAgg261
  z168 := Tryz.sizeOf261
  v168 := Tryz.zeroValue261
  t171 := Tryz.underlying276
  a171 := Tryz.isAgg276
  z171 := Tryz.sizeOf276
  v171 := Tryz.zeroValue276
  t173 := Tryz.underlying279
  a173 := Tryz.isAgg279
  z173 := Tryz.sizeOf279
  v173 := Tryz.zeroValue279
  t175 := Tryz.underlying271
  a175 := Tryz.isAgg271
  z175 := Tryz.sizeOf271
  v175 := Tryz.zeroValue271
  t210 := Tryz.underlying274
  a210 := Tryz.isAgg274
  z210 := Tryz.sizeOf274
  v210 := Tryz.zeroValue274
  t212 := Tryz.underlying290
  a212 := Tryz.isAgg290
  z212 := Tryz.sizeOf290
  v212 := Tryz.zeroValue290
  t213 := Tryz.underlying291
  a213 := Tryz.isAgg291
  z213 := Tryz.sizeOf291
  t232 := Tryz.underlying294
  a232 := Tryz.isAgg294
  z232 := Tryz.sizeOf294
  v232 := Tryz.zeroValue294
  t233 := Tryz.underlying295
  a233 := Tryz.isAgg295
  z233 := Tryz.sizeOf295
  v233 := Tryz.zeroValue295
  g15 := by kernel_rfl
  g16 := by kernel_rfl
  g17 := by kernel_rfl
  g18 := by kernel_rfl
  g19 := by kernel_rfl
  t80 := Tryz.underlying75
  a80 := Tryz.isAgg75
  z80 := Tryz.sizeOf75
  v80 := Tryz.zeroValue75
  i0 := by kernel_rfl
  i2 := by kernel_rfl
  i3 := by kernel_rfl
  i4 := by kernel_rfl
  i5 := by kernel_rfl
  i9 := by kernel_rfl
  i20 := by kernel_rfl
  i21 := by kernel_rfl
  i37 := by kernel_rfl
  i46 := by kernel_rfl
  i51 := by kernel_rfl
  i53 := by kernel_rfl
  i75 := by kernel_rfl
  i76 := by kernel_rfl
  i80 := by kernel_rfl
  i85 := by kernel_rfl
  i127 := by kernel_rfl
  i143 := by kernel_rfl
  i145 := by kernel_rfl
  i167 := by kernel_rfl
  i168 := by kernel_rfl
  i171 := by kernel_rfl
  i173 := by kernel_rfl
  i175 := by kernel_rfl
  i210 := by kernel_rfl
  i212 := by kernel_rfl
  i232 := by kernel_rfl
  i233 := by kernel_rfl
  m15 := by kernel_rfl
  m16 := by kernel_rfl
  m17 := by kernel_rfl
  m18 := by kernel_rfl
  m19 := by kernel_rfl
  c0 := by kernel_rfl
  c2 := by kernel_rfl
  c3 := by kernel_rfl
  c4 := by kernel_rfl
  c5 := by kernel_rfl
  c9 := by kernel_rfl
  c20 := by kernel_rfl
  c21 := by kernel_rfl
  c37 := by kernel_rfl
  c46 := by kernel_rfl
  c51 := by kernel_rfl
  c53 := by kernel_rfl
  c75 := by kernel_rfl
  c76 := by kernel_rfl
  c80 := by kernel_rfl
  c85 := by kernel_rfl
  c127 := by kernel_rfl
  c143 := by kernel_rfl
  c145 := by kernel_rfl
  c167 := by kernel_rfl
  c168 := by kernel_rfl
  c171 := by kernel_rfl
  c173 := by kernel_rfl
  c175 := by kernel_rfl
  c210 := by kernel_rfl
  c212 := by kernel_rfl
  c213 := by kernel_rfl
  c232 := by kernel_rfl
  c233 := by kernel_rfl }
open Go.RowKit in
theorem Tryz.strconv_Atoi_ok (s : ByteArray) (hmax : s.size ≤ 9223372036854775806) (v : Int) (h : Lib.atoiAll s.data.toList = .ok v) (w : World) :
    Calls Tryz.prog 147 #[.string s] w fun e w' => e = .returned (.tuple #[.int .i64 v, .nilIface]) ∧ (w' = w ∨ ∃ t, w' = Lib.bytesWorld w 5 t) := Any.strconv_Atoi_ok Tryz.laysC172 s hmax v h w
open Go.RowKit in
theorem Tryz.strconv_Atoi_range_var (s : ByteArray) (hlim : s.size ≤ 281474976710656) (h : Lib.atoiAll s.data.toList = .range) (tp : TypeId) (p : Value) (w : World) (hvar : w.var? Tryz.prog "strconv.ErrRange" = some #[.iface tp p]) :
    Calls Tryz.prog 147 #[.string s] w fun e w' => ∃ N, e = .returned (.tuple #[.int .i64 (Lib.atoiSat s.data.toList), .iface 261 (.pointer (some ⟨N, 0, none⟩))]) ∧ w.heap.size ≤ N ∧ w'.heap[N]? = some (.cells #[.string ⟨#[65, 116, 111, 105]⟩, .string s, .iface tp p] 274 (0, 0)) ∧ Below w.heap.size w w' := Any.strconv_Atoi_range_var Tryz.laysC172 s hlim h tp p w hvar
end Go.Proofs
set_option linter.unusedVariables false
set_option linter.unusedSimpArgs false
namespace Go.Proofs.YtlghobefhmpfkaaGreatDoor
open Go Go.Ev
set_option maxRecDepth 100000
variable {G : World → Prop}
def dig (c : UInt8) : Bool := decide (48 ≤ (c.toNat : Int)) && decide ((c.toNat : Int) ≤ 57)
def valT (l : List UInt8) : Nat := l.foldl (fun n c => n * 10 + (c.toNat - 48)) 0
theorem val_app (l : List UInt8) (c : UInt8) : valT (l ++ [c]) = valT l * 10 + (c.toNat - 48) := by simp [valT]
theorem val_snoc {l : List UInt8} {i : Nat} (h : i < l.length) : valT (l.take (i + 1)) = valT (l.take i) * 10 + ((l.getD i 0).toNat - 48) := by
  rw [List.take_succ_eq_append_getElem h, val_app]
  simp [List.getD_eq_getElem?_getD, List.getElem?_eq_getElem h]
theorem all_take {l : List UInt8} {i : Nat} (h : i < l.length) : (l.take (i + 1)).all dig = ((l.take i).all dig && dig (l.getD i 0)) := by
  rw [List.take_succ_eq_append_getElem h, List.all_append]
  simp [List.getD_eq_getElem?_getD, List.getElem?_eq_getElem h]
theorem not_all {l : List UInt8} {i : Nat} (h : i < l.length) (hd : dig (l.getD i 0) = false) : l.all dig = false := by
  rw [List.all_eq_false]
  exact ⟨l.getD i 0, by simp [List.getD_eq_getElem?_getD, List.getElem?_eq_getElem h], by rw [hd]; decide⟩
def badP (l : List UInt8) : Prop := l = [] ∨ (1 < l.length ∧ l.getD 0 0 = 48)
instance (l : List UInt8) : Decidable (badP l) := by unfold badP; infer_instance
def parseS (l : List UInt8) : Int × Int := if badP l then (0, 3) else if l.all dig = false then (0, 3) else if 2147483647 < valT l then (0, 2) else (valT l, 0)
def CParse : Contract := pureC fun args => match args with
  | [.d (.v (.string s))] => some (s.size ≤ 1099511627776, .tup [.d (.v (.int .i64 (parseS s.data.toList).1)), .d (.v (.int .i64 (parseS s.data.toList).2))])
  | _ => none
def valA (a : Nat) (l : List UInt8) : Nat := l.foldl (fun n c => n * 10 + (c.toNat - 48)) a
theorem valA_le : ∀ (l : List UInt8) (a : Nat), a ≤ valA a l
  | [], a => Nat.le_refl _
  | c :: l, a => Nat.le_trans (by omega) (valA_le l (a * 10 + (c.toNat - 48)))
theorem dig_nat {c : UInt8} (h : dig c = true) : 48 ≤ c.toNat ∧ c.toNat ≤ 57 := by
  simp only [dig, Bool.and_eq_true, decide_eq_true_eq] at h; omega
theorem pu10 : ∀ (l : List UInt8) (a : Nat), l.all dig = true → a < 18446744073709551616 → Lib.parseUint10 a l = if 18446744073709551616 ≤ valA a l then .range else .ok (valA a l)
  | [], a, _, ha => by simp only [Lib.parseUint10, valA, List.foldl_nil]; exact (if_neg (Nat.not_le.2 ha)).symm
  | c :: l, a, h, ha => by
    simp only [List.all_cons, Bool.and_eq_true] at h
    obtain ⟨h1, h2⟩ := dig_nat h.1
    have hle := valA_le l (a * 10 + (c.toNat - 48))
    have e : valA a (c :: l) = valA (a * 10 + (c.toNat - 48)) l := rfl
    rw [Lib.parseUint10, if_pos ⟨h1, h2⟩, e]
    by_cases k1 : 1844674407370955162 ≤ a
    · rw [if_pos k1, if_pos (by omega)]
    · rw [if_neg k1]
      by_cases k2 : 18446744073709551616 ≤ a * 10 + (c.toNat - 48)
      · rw [if_pos k2, if_pos (by omega)]
      · rw [if_neg k2, pu10 l _ h.2 (by omega)]
theorem atoi_dig {l : List UInt8} (hne : l ≠ []) (h : l.all dig = true) : Lib.atoiAll l = if 9223372036854775808 ≤ valT l then .range else .ok (valT l) := by
  cases l with
  | nil => exact absurd rfl hne
  | cons c r =>
    have hd := dig_nat (List.all_eq_true.1 h c (by simp))
    have hp := pu10 (c :: r) 0 h (by omega)
    have e : valA 0 (c :: r) = valT (c :: r) := rfl
    rw [e] at hp
    simp only [Lib.atoiAll]
    rw [if_neg (by omega), Lib.parseMag, if_neg (by simp), hp]
    by_cases k : 18446744073709551616 ≤ valT (c :: r)
    · rw [if_pos k, if_pos (by omega)]
    · rw [if_neg k]
      simp only
      by_cases k2 : 9223372036854775808 ≤ valT (c :: r)
      · rw [if_pos ⟨by omega, k2⟩, if_pos k2]
      · rw [if_neg (by omega), if_neg (by omega), if_neg k2, if_neg (by omega)]
theorem sat_dig {l : List UInt8} (h : l.all dig = true) : Lib.atoiSat l = 9223372036854775807 := by
  unfold Lib.atoiSat
  cases l with
  | nil => simp
  | cons c r =>
    have hd := dig_nat (List.all_eq_true.1 h c (by simp))
    simp only [List.head?_cons, Option.map_some, Option.some.injEq]
    rw [if_neg (by omega)]
def ErrR (w : World) : Prop := ∃ tp p, w.var? Tryz.prog "strconv.ErrRange" = some #[.iface tp p]
def CAtoi : Contract := pureC fun args => match args with
  | [.d (.v (.string s))] => some (s.size ≤ 1099511627776 ∧ s.data.toList ≠ [] ∧ s.data.toList.all dig = true, .tup [.d (.v (.int .i64 (if 9223372036854775808 ≤ valT s.data.toList then 9223372036854775807 else valT s.data.toList))), .d (if 9223372036854775808 ≤ valT s.data.toList then .ifc 261 (.pt []) else .v .nilIface)])
  | _ => none
theorem sAtoi (hG : ∀ w, G w → ErrR w) : Sound G Tryz.prog 147 CAtoi := by
  refine sound_lib2 ⟨Tryz.f147, by kernel_rfl, by kernel_rfl, by kernel_rfl⟩ fun args p x h hp => ?_
  split at h <;> simp only [Option.some.injEq, Prod.mk.injEq, reduceCtorEq] at h
  obtain ⟨rfl, rfl⟩ := h
  rename_i s
  obtain ⟨h1, h2, h3⟩ := hp
  intro w hw m c vs hc hv
  match vs, hv with
  | [a], hv =>
    simp only [CnL, and_true] at hv
    rw [of_v hv]
    have hA := atoi_dig h2 h3
    by_cases k : 9223372036854775808 ≤ valT s.data.toList
    · rw [if_pos k] at hA
      obtain ⟨tp, p, he⟩ := hG w hw
      refine (Tryz.strconv_Atoi_range_var s (by omega) hA tp p w he).mono ?_
      rintro e w' ⟨N, rfl, _, _, hB⟩
      refine ⟨⟨_, rfl, fun m n c => ?_⟩, hB⟩
      rw [if_pos k, if_pos k, sat_dig h3]
      simp [Cn, CnL, Rd, RdCells, Value.oneCell']
    · rw [if_neg k] at hA
      refine (Tryz.strconv_Atoi_ok s (by omega) _ hA w).mono ?_
      rintro e w' ⟨rfl, hB⟩
      refine ⟨⟨_, rfl, fun m n c => ?_⟩, ?_⟩
      · rw [if_neg k, if_neg k]
        simp [Cn, CnL, Rd, Value.oneCell']
      · rcases hB with rfl | ⟨t, rfl⟩
        · exact RowKit.Below.refl _ _
        · exact Lib.bytesWorld_below w _ t
  | [], hv => simp [CnL] at hv
  | _ :: _ :: _, hv => simp [CnL] at hv
end Go.Proofs.YtlghobefhmpfkaaGreatDoor
set_option linter.unusedVariables false
set_option linter.unusedSimpArgs false
namespace Go.Proofs.YtlghobefhmpfkaaGreatDoor
open Go Go.Ev
set_option maxRecDepth 100000
variable {G : World → Prop}
def capN (n : Nat) : Nat := if 2147483648 < n then 2147483648 else n
theorem cap_step (n d : Nat) : capN (n * 10 + d) = if 2147483648 < capN n * 10 + d then 2147483648 else capN n * 10 + d := by
  unfold capN; (repeat' split) <;> first | rfl | omega
theorem cap_le (n : Nat) : capN n ≤ 2147483648 := by unfold capN; split <;> omega
theorem u8s (c : Nat) (h : 48 ≤ c ∧ c ≤ 57) : IntKind.u8.wrap ((c : Int) - 48) = ((c - 48 : Nat) : Int) := by
  simp only [IntKind.wrap, IntKind.bits, IntKind.signed]
  simp
  omega
theorem i64n (c : Nat) (h : c ≤ 1000) : IntKind.i64.wrap (c : Int) = (c : Int) := wrap64 _ (by omega) (by omega)
theorem bad_head {l : List UInt8} (h : badP l) : (decide ((l.length : Int) = 0) || (decide (1 < (l.length : Int)) && decide (((l.getD 0 0).toNat : Int) = 48))) = true := by
  rcases h with rfl | ⟨h1, h2⟩
  · rfl
  · rw [h2]; simp; right; omega
theorem bad_not {l : List UInt8} (h : ¬ badP l) : (0 < l.length) ∧ ¬ (1 < (l.length : Int) ∧ ((l.getD 0 0).toNat : Int) = 48) := by
  refine ⟨?_, fun ⟨h1, h2⟩ => h (.inr ⟨by omega, UInt8.toNat_inj.1 (by show _ = 48; omega)⟩)⟩
  cases l with
  | nil => exact absurd (.inl rfl) h
  | cons => simp
set_option maxHeartbeats 1000000 in
theorem s90 : Sound G Tryz.prog 90 CParse := by
  refine sd90 (T := tabT []) tab_nil (pureC_lawful _) (pure_hX fun args p x K h hp hk => ?_)
  split at h <;> simp only [Option.some.injEq, Prod.mk.injEq, reduceCtorEq] at h
  obtain ⟨rfl, rfl⟩ := h
  refine ⟨Nat.le_of_ble_eq_true rfl, ?_⟩
  rename_i s
  obtain ⟨l, rfl⟩ := ex_str s
  simp only [sem_str] at hk hp
  by_cases hb : badP l
  · rw [show parseS l = (0, 3) by rw [parseS, if_pos hb]] at hk
    simp -dsimp -implicitDefEqProofs only [S90, R90, ↓Ev.xStp_eq, ↓Ev.P, Ev.Q, Bool.cond_true, Bool.cond_false, eq_self, forall_eq_or_imp, implies_true, forall_const, forall_eq, ↓reduceIte, reduceIte, Nat.reduceEqDiff, Nat.reduceAdd, reduceCtorEq, Nat.reduceSub, Int.reduceToNat, Int.reduceLE, Int.reduceLT, Int.reduceNeg, Nat.reduceBEq, Nat.reduceMul, Nat.reduceLeDiff, Nat.reduceMod, UInt8.reduceOfNat, Nat.reduceLT, Int.reduceEq, Int.reduceAdd, Int.reduceSub, Int.reduceMul]
    have hh := bad_head hb
    simp only [Bool.or_eq_true, Bool.and_eq_true, decide_eq_true_eq] at hh
    refine ⟨by omega, by omega, fun _ => hk, fun h => ?_⟩
    omega
  · obtain ⟨h1, h2⟩ := bad_not hb
    simp -dsimp -implicitDefEqProofs only [S90, R90, ↓Ev.xStp_eq, ↓Ev.P, Ev.Q, Bool.cond_true, Bool.cond_false, eq_self, forall_eq_or_imp, implies_true, forall_const, forall_eq, ↓reduceIte, reduceIte, Nat.reduceEqDiff, Nat.reduceAdd, reduceCtorEq, Nat.reduceSub, Int.reduceToNat, Int.reduceLE, Int.reduceLT, Int.reduceNeg, Nat.reduceBEq, Nat.reduceMul, Nat.reduceLeDiff, Nat.reduceMod, UInt8.reduceOfNat, Nat.reduceLT, Int.reduceEq, Int.reduceAdd, Int.reduceSub, Int.reduceMul]
    refine ⟨by omega, by omega, fun h => by omega, fun _ => ?_⟩
    refine xLoop_intro (fun k st => ∃ i : Nat, i ≤ l.length ∧ k = l.length - i ∧ (l.take i).all dig = true ∧
      st = ⟨[(0, .d (.v (.string ⟨l.toArray⟩))), (4, .d (.v (.int .i64 (capN (valT (l.take i)))))), (5, .d (.v (.int .i64 i)))], 0, []⟩) l.length [] ?_ ?_ ?_
    · simp -dsimp -implicitDefEqProofs only [↓Ev.xStp_eq, ↓Ev.P, Ev.Q, Bool.cond_true, Bool.cond_false, eq_self, forall_eq_or_imp, implies_true, forall_const, forall_eq, ↓reduceIte, reduceIte, Nat.reduceEqDiff, Nat.reduceAdd, reduceCtorEq, Nat.reduceSub, Int.reduceToNat, Int.reduceLE, Int.reduceLT, Int.reduceNeg, Nat.reduceBEq, Nat.reduceMul, Nat.reduceLeDiff, Nat.reduceMod, UInt8.reduceOfNat, Nat.reduceLT, Int.reduceEq, Int.reduceAdd, Int.reduceSub, Int.reduceMul]
    · simp -dsimp -implicitDefEqProofs only [↓Ev.xStp_eq, ↓Ev.P, Ev.Q, Bool.cond_true, Bool.cond_false, eq_self, forall_eq_or_imp, implies_true, forall_const, forall_eq, ↓reduceIte, reduceIte, Nat.reduceEqDiff, Nat.reduceAdd, reduceCtorEq, Nat.reduceSub, Int.reduceToNat, Int.reduceLE, Int.reduceLT, Int.reduceNeg, Nat.reduceBEq, Nat.reduceMul, Nat.reduceLeDiff, Nat.reduceMod, UInt8.reduceOfNat, Nat.reduceLT, Int.reduceEq, Int.reduceAdd, Int.reduceSub, Int.reduceMul]
      exact ⟨0, by omega, by omega, rfl, rfl⟩
    · rintro k st ⟨i, hi, hk2, hall, rfl⟩
      by_cases hil : i < l.length
      · have hi3 : (i : Int) < l.length := by omega
        have hcl := cap_le (valT (l.take i))
        by_cases hd : dig (l.getD i 0) = true
        · obtain ⟨d1, d2⟩ := dig_nat hd
          have d3 : ¬ ((l.getD i 0).toNat : Int) < 48 := by omega
          have d4 : ¬ (57 : Int) < ((l.getD i 0).toNat : Int) := by omega
          have hu := u8s _ ⟨d1, d2⟩
          have hc := i64n ((l.getD i 0).toNat - 48) (by omega)
          simp -dsimp -implicitDefEqProofs only [hi3, d3, d4, hu, hc, ↓Ev.xStp_eq, ↓Ev.P, Ev.Q, Bool.cond_true, Bool.cond_false, eq_self, forall_eq_or_imp, implies_true, forall_const, forall_eq, ↓reduceIte, reduceIte, Nat.reduceEqDiff, Nat.reduceAdd, reduceCtorEq, Nat.reduceSub, Int.reduceToNat, Int.reduceLE, Int.reduceLT, Int.reduceNeg, Nat.reduceBEq, Nat.reduceMul, Nat.reduceLeDiff, Nat.reduceMod, UInt8.reduceOfNat, Nat.reduceLT, Int.reduceEq, Int.reduceAdd, Int.reduceSub, Int.reduceMul]
          repeat' (first | with_reducible assumption | refine And.intro ?_ ?_ | intro _)
          all_goals try omega
          refine xAgain_intro (l.length - (i + 1)) [] (by omega) (by simp -dsimp -implicitDefEqProofs only [↓Ev.xStp_eq, ↓Ev.P, Ev.Q, Bool.cond_true, Bool.cond_false, eq_self, forall_eq_or_imp, implies_true, forall_const, forall_eq, ↓reduceIte, reduceIte, Nat.reduceEqDiff, Nat.reduceAdd, reduceCtorEq, Nat.reduceSub, Int.reduceToNat, Int.reduceLE, Int.reduceLT, Int.reduceNeg, Nat.reduceBEq, Nat.reduceMul, Nat.reduceLeDiff, Nat.reduceMod, UInt8.reduceOfNat, Nat.reduceLT, Int.reduceEq, Int.reduceAdd, Int.reduceSub, Int.reduceMul]) ⟨i + 1, by omega, rfl, by rw [all_take hil, hall, hd]; rfl, ?_⟩
          rw [val_snoc hil, cap_step]
          simp -dsimp -implicitDefEqProofs only [↓Ev.xStp_eq, ↓Ev.P, Ev.Q, Bool.cond_true, Bool.cond_false, eq_self, forall_eq_or_imp, implies_true, forall_const, forall_eq, ↓reduceIte, reduceIte, Nat.reduceEqDiff, Nat.reduceAdd, reduceCtorEq, Nat.reduceSub, Int.reduceToNat, Int.reduceLE, Int.reduceLT, Int.reduceNeg, Nat.reduceBEq, Nat.reduceMul, Nat.reduceLeDiff, Nat.reduceMod, UInt8.reduceOfNat, Nat.reduceLT, Int.reduceEq, Int.reduceAdd, Int.reduceSub, Int.reduceMul]
          simp
          (repeat' split) <;> omega
        · simp only [Bool.not_eq_true] at hd
          have hna := not_all hil hd
          rw [show parseS l = (0, 3) by rw [parseS, if_neg hb, if_pos hna]] at hk
          have hd2 : ((l.getD i 0).toNat : Int) < 48 ∨ (57 : Int) < ((l.getD i 0).toNat : Int) := by
            simp only [dig, Bool.and_eq_false_iff, decide_eq_false_iff_not] at hd; omega
          simp -dsimp -implicitDefEqProofs only [hi3, ↓Ev.xStp_eq, ↓Ev.P, Ev.Q, Bool.cond_true, Bool.cond_false, eq_self, forall_eq_or_imp, implies_true, forall_const, forall_eq, ↓reduceIte, reduceIte, Nat.reduceEqDiff, Nat.reduceAdd, reduceCtorEq, Nat.reduceSub, Int.reduceToNat, Int.reduceLE, Int.reduceLT, Int.reduceNeg, Nat.reduceBEq, Nat.reduceMul, Nat.reduceLeDiff, Nat.reduceMod, UInt8.reduceOfNat, Nat.reduceLT, Int.reduceEq, Int.reduceAdd, Int.reduceSub, Int.reduceMul]
          repeat' (first | with_reducible assumption | refine And.intro ?_ ?_ | intro _)
          all_goals first | omega | exact hk | skip
      · have hi3 : ¬ (i : Int) < l.length := by omega
        obtain rfl : i = l.length := by omega
        rw [List.take_length] at hall
        rw [show parseS l = if 2147483647 < valT l then (0, 2) else ((valT l : Int), 0) by rw [parseS, if_neg hb, if_neg (by rw [hall]; decide)]] at hk
        simp -dsimp -implicitDefEqProofs only [hi3, List.take_length, ↓Ev.xStp_eq, ↓Ev.P, Ev.Q, Bool.cond_true, Bool.cond_false, eq_self, forall_eq_or_imp, implies_true, forall_const, forall_eq, ↓reduceIte, reduceIte, Nat.reduceEqDiff, Nat.reduceAdd, reduceCtorEq, Nat.reduceSub, Int.reduceToNat, Int.reduceLE, Int.reduceLT, Int.reduceNeg, Nat.reduceBEq, Nat.reduceMul, Nat.reduceLeDiff, Nat.reduceMod, UInt8.reduceOfNat, Nat.reduceLT, Int.reduceEq, Int.reduceAdd, Int.reduceSub, Int.reduceMul]
        refine ⟨fun h => ?_, fun h => ?_⟩
        · rw [if_pos (by unfold capN at h; split at h <;> omega)] at hk; exact hk
        · have hv : valT l ≤ 2147483647 := by unfold capN at h; split at h <;> omega
          rw [if_neg (by omega)] at hk
          rw [show capN (valT l) = valT l by unfold capN; rw [if_neg (by omega)]]
          exact hk
end Go.Proofs.YtlghobefhmpfkaaGreatDoor
set_option linter.unusedVariables false
set_option linter.unusedSimpArgs false
namespace Go.Proofs.YtlghobefhmpfkaaGreatDoor
open Go Go.Ev
set_option maxRecDepth 100000
variable {G : World → Prop}
theorem dec_at (l : List UInt8) (i : Nat) (h : i < l.length) : (dig (l.getD i 0) = true → Utf8.decode ⟨l.toArray⟩ i = ((l.getD i 0).toNat, 1)) ∧ (dig (l.getD i 0) = false → ((Utf8.decode ⟨l.toArray⟩ i).1 : Int) < 48 ∨ (57 : Int) < ((Utf8.decode ⟨l.toArray⟩ i).1 : Int)) := by
  have hs : i < (⟨l.toArray⟩ : ByteArray).size := h
  have hg : (⟨l.toArray⟩ : ByteArray)[i]'hs = l.getD i 0 := by
    simp [List.getD_eq_getElem?_getD, List.getElem?_eq_getElem h]
    rfl
  by_cases ha : ((⟨l.toArray⟩ : ByteArray)[i]'hs).toNat < 128
  · have := decode_ascii _ i hs ha
    rw [hg] at this
    refine ⟨fun _ => this, fun hd => ?_⟩
    rw [this]
    simp only [dig, Bool.and_eq_false_iff, decide_eq_false_iff_not] at hd
    omega
  · have h2 := (decode_high _ i hs (by omega)).1
    rw [hg] at ha
    refine ⟨fun hd => ?_, fun _ => .inr (by omega)⟩
    have := dig_nat hd
    omega
theorem empty_iff (l : List UInt8) : ((⟨l.toArray⟩ : ByteArray) = ⟨#[]⟩) = (l = []) := by simp
set_option maxHeartbeats 1000000 in
theorem s86 (hG : ∀ w, G w → ErrR w) : Sound G Tryz.prog 86 CParse := by
  refine sd86 (T := tabT [(147, CAtoi)]) (tab_cons (sAtoi hG) tab_nil) (pureC_lawful _) (pure_hX fun args p x K h hp hk => ?_)
  split at h <;> simp only [Option.some.injEq, Prod.mk.injEq, reduceCtorEq] at h
  obtain ⟨rfl, rfl⟩ := h
  refine ⟨Nat.le_of_ble_eq_true rfl, ?_⟩
  rename_i s
  obtain ⟨l, rfl⟩ := ex_str s
  simp only [sem_str] at hk hp
  by_cases hb : badP l
  · rw [show parseS l = (0, 3) by rw [parseS, if_pos hb]] at hk
    simp -dsimp -implicitDefEqProofs only [S86, S86_0, S86r1, S86_1, S86r2, R86, empty_iff, ↓Ev.xStp_eq, ↓Ev.P, Ev.Q, Bool.cond_true, Bool.cond_false, eq_self, forall_eq_or_imp, implies_true, forall_const, forall_eq, ↓reduceIte, reduceIte, Nat.reduceEqDiff, Nat.reduceAdd, reduceCtorEq, Nat.reduceSub, Int.reduceToNat, Int.reduceLE, Int.reduceLT, Int.reduceNeg, Nat.reduceBEq, Nat.reduceMul, Nat.reduceLeDiff, Nat.reduceMod, UInt8.reduceOfNat, Nat.reduceLT, Int.reduceEq, Int.reduceAdd, Int.reduceSub, Int.reduceMul]
    have hh := bad_head hb
    simp only [Bool.or_eq_true, Bool.and_eq_true, decide_eq_true_eq] at hh
    repeat' (first | with_reducible assumption | refine And.intro ?_ ?_ | intro _)
    all_goals first | omega | exact hk | skip
    all_goals (rename_i h; rcases hb with rfl | hb <;> first | exact absurd rfl h.1 | omega)
  · obtain ⟨h1, h2⟩ := bad_not hb
    have hne : ¬ l = [] := fun e => hb (.inl e)
    simp -dsimp -implicitDefEqProofs only [S86, S86_0, S86r1, S86_1, S86r2, S86_2, S86r3, R86, empty_iff, hne, ↓Ev.xStp_eq, ↓Ev.P, Ev.Q, Bool.cond_true, Bool.cond_false, eq_self, forall_eq_or_imp, implies_true, forall_const, forall_eq, ↓reduceIte, reduceIte, Nat.reduceEqDiff, Nat.reduceAdd, reduceCtorEq, Nat.reduceSub, Int.reduceToNat, Int.reduceLE, Int.reduceLT, Int.reduceNeg, Nat.reduceBEq, Nat.reduceMul, Nat.reduceLeDiff, Nat.reduceMod, UInt8.reduceOfNat, Nat.reduceLT, Int.reduceEq, Int.reduceAdd, Int.reduceSub, Int.reduceMul]
    refine ⟨by omega, fun h => by omega, fun _ => ?_⟩
    refine xLoop_intro (fun k st => ∃ i : Nat, i ≤ l.length ∧ k = l.length - i ∧ (l.take i).all dig = true ∧
      st = ⟨[(0, .d (.v (.string ⟨l.toArray⟩))), (21, .own 0)], 1, [(0, .iter ⟨l.toArray⟩ i)]⟩) l.length [0] ?_ ?_ ?_
    · simp -dsimp -implicitDefEqProofs only [↓Ev.xStp_eq, ↓Ev.P, Ev.Q, Bool.cond_true, Bool.cond_false, eq_self, forall_eq_or_imp, implies_true, forall_const, forall_eq, ↓reduceIte, reduceIte, Nat.reduceEqDiff, Nat.reduceAdd, reduceCtorEq, Nat.reduceSub, Int.reduceToNat, Int.reduceLE, Int.reduceLT, Int.reduceNeg, Nat.reduceBEq, Nat.reduceMul, Nat.reduceLeDiff, Nat.reduceMod, UInt8.reduceOfNat, Nat.reduceLT, Int.reduceEq, Int.reduceAdd, Int.reduceSub, Int.reduceMul]
    · simp -dsimp -implicitDefEqProofs only [↓Ev.xStp_eq, ↓Ev.P, Ev.Q, Bool.cond_true, Bool.cond_false, eq_self, forall_eq_or_imp, implies_true, forall_const, forall_eq, ↓reduceIte, reduceIte, Nat.reduceEqDiff, Nat.reduceAdd, reduceCtorEq, Nat.reduceSub, Int.reduceToNat, Int.reduceLE, Int.reduceLT, Int.reduceNeg, Nat.reduceBEq, Nat.reduceMul, Nat.reduceLeDiff, Nat.reduceMod, UInt8.reduceOfNat, Nat.reduceLT, Int.reduceEq, Int.reduceAdd, Int.reduceSub, Int.reduceMul]
      exact ⟨0, by omega, by omega, rfl, rfl⟩
    · rintro k st ⟨i, hi, hk2, hall, rfl⟩
      by_cases hil : i < l.length
      · obtain ⟨e1, e2⟩ := dec_at l i hil
        by_cases hd : dig (l.getD i 0) = true
        · obtain ⟨d1, d2⟩ := dig_nat hd
          have e1 := e1 hd
          have d3 : ¬ ((l.getD i 0).toNat : Int) < 48 := by omega
          have d4 : ¬ (57 : Int) < ((l.getD i 0).toNat : Int) := by omega
          simp -dsimp -implicitDefEqProofs only [hil, e1, d3, d4, ↓Ev.xStp_eq, ↓Ev.P, Ev.Q, Bool.cond_true, Bool.cond_false, eq_self, forall_eq_or_imp, implies_true, forall_const, forall_eq, ↓reduceIte, reduceIte, Nat.reduceEqDiff, Nat.reduceAdd, reduceCtorEq, Nat.reduceSub, Int.reduceToNat, Int.reduceLE, Int.reduceLT, Int.reduceNeg, Nat.reduceBEq, Nat.reduceMul, Nat.reduceLeDiff, Nat.reduceMod, UInt8.reduceOfNat, Nat.reduceLT, Int.reduceEq, Int.reduceAdd, Int.reduceSub, Int.reduceMul]
          repeat' (first | with_reducible assumption | refine And.intro ?_ ?_ | intro _)
          all_goals try omega
          refine xAgain_intro (l.length - (i + 1)) [0] (by omega) (by simp -dsimp -implicitDefEqProofs only [↓Ev.xStp_eq, ↓Ev.P, Ev.Q, Bool.cond_true, Bool.cond_false, eq_self, forall_eq_or_imp, implies_true, forall_const, forall_eq, ↓reduceIte, reduceIte, Nat.reduceEqDiff, Nat.reduceAdd, reduceCtorEq, Nat.reduceSub, Int.reduceToNat, Int.reduceLE, Int.reduceLT, Int.reduceNeg, Nat.reduceBEq, Nat.reduceMul, Nat.reduceLeDiff, Nat.reduceMod, UInt8.reduceOfNat, Nat.reduceLT, Int.reduceEq, Int.reduceAdd, Int.reduceSub, Int.reduceMul]) ⟨i + 1, by omega, rfl, by rw [all_take hil, hall, hd]; rfl, ?_⟩
          simp -dsimp -implicitDefEqProofs only [↓Ev.xStp_eq, ↓Ev.P, Ev.Q, Bool.cond_true, Bool.cond_false, eq_self, forall_eq_or_imp, implies_true, forall_const, forall_eq, ↓reduceIte, reduceIte, Nat.reduceEqDiff, Nat.reduceAdd, reduceCtorEq, Nat.reduceSub, Int.reduceToNat, Int.reduceLE, Int.reduceLT, Int.reduceNeg, Nat.reduceBEq, Nat.reduceMul, Nat.reduceLeDiff, Nat.reduceMod, UInt8.reduceOfNat, Nat.reduceLT, Int.reduceEq, Int.reduceAdd, Int.reduceSub, Int.reduceMul]
        · simp only [Bool.not_eq_true] at hd
          have hna := not_all hil hd
          rw [show parseS l = (0, 3) by rw [parseS, if_neg hb, if_pos hna]] at hk
          have e2 := e2 hd
          simp -dsimp -implicitDefEqProofs only [hil, ↓Ev.xStp_eq, ↓Ev.P, Ev.Q, Bool.cond_true, Bool.cond_false, eq_self, forall_eq_or_imp, implies_true, forall_const, forall_eq, ↓reduceIte, reduceIte, Nat.reduceEqDiff, Nat.reduceAdd, reduceCtorEq, Nat.reduceSub, Int.reduceToNat, Int.reduceLE, Int.reduceLT, Int.reduceNeg, Nat.reduceBEq, Nat.reduceMul, Nat.reduceLeDiff, Nat.reduceMod, UInt8.reduceOfNat, Nat.reduceLT, Int.reduceEq, Int.reduceAdd, Int.reduceSub, Int.reduceMul]
          repeat' (first | with_reducible assumption | refine And.intro ?_ ?_ | intro _)
          all_goals first | omega | exact hk | skip
      · obtain rfl : i = l.length := by omega
        rw [List.take_length] at hall
        rw [show parseS l = if 2147483647 < valT l then (0, 2) else ((valT l : Int), 0) by rw [parseS, if_neg hb, if_neg (by rw [hall]; decide)]] at hk
        by_cases k : 9223372036854775808 ≤ valT l
        · rw [if_pos (by omega)] at hk
          simp -dsimp -implicitDefEqProofs only [Nat.lt_irrefl, S86_3, S86r4, S86_4, S86r5, S86_5, S86r6, CAtoi, k, ↓Ev.xStp_eq, ↓Ev.P, Ev.Q, Bool.cond_true, Bool.cond_false, eq_self, forall_eq_or_imp, implies_true, forall_const, forall_eq, ↓reduceIte, reduceIte, Nat.reduceEqDiff, Nat.reduceAdd, reduceCtorEq, Nat.reduceSub, Int.reduceToNat, Int.reduceLE, Int.reduceLT, Int.reduceNeg, Nat.reduceBEq, Nat.reduceMul, Nat.reduceLeDiff, Nat.reduceMod, UInt8.reduceOfNat, Nat.reduceLT, Int.reduceEq, Int.reduceAdd, Int.reduceSub, Int.reduceMul]
          repeat' (first | with_reducible assumption | refine And.intro ?_ ?_ | intro _)
          all_goals first | omega | exact hk | skip
        · simp -dsimp -implicitDefEqProofs only [Nat.lt_irrefl, S86_3, S86r4, S86_4, S86r5, S86_5, S86r6, CAtoi, k, ↓Ev.xStp_eq, ↓Ev.P, Ev.Q, Bool.cond_true, Bool.cond_false, eq_self, forall_eq_or_imp, implies_true, forall_const, forall_eq, ↓reduceIte, reduceIte, Nat.reduceEqDiff, Nat.reduceAdd, reduceCtorEq, Nat.reduceSub, Int.reduceToNat, Int.reduceLE, Int.reduceLT, Int.reduceNeg, Nat.reduceBEq, Nat.reduceMul, Nat.reduceLeDiff, Nat.reduceMod, UInt8.reduceOfNat, Nat.reduceLT, Int.reduceEq, Int.reduceAdd, Int.reduceSub, Int.reduceMul]
          refine ⟨⟨by omega, hne, hall⟩, fun h => ?_, fun h => ?_⟩
          · rw [if_pos (by first | omega | (simp at h; omega))] at hk; exact hk
          · rw [if_neg (by first | omega | (simp at h; omega))] at hk; exact hk
end Go.Proofs.YtlghobefhmpfkaaGreatDoor
set_option linter.unusedVariables false
set_option linter.unusedSimpArgs false
namespace Go.Proofs.YtlghobefhmpfkaaGreatDoor
open Go Go.Ev Go.Rcs
set_option maxRecDepth 100000
variable {G : World → Prop}
theorem ix_lt (l : List UInt8) (c : UInt8) : Lib.indexByte l c < l.length := by
  induction l with
  | nil => simp [Lib.indexByte]
  | cons b l ih =>
    simp only [Lib.indexByte, List.length_cons]
    split
    · omega
    · split <;> omega
end Go.Proofs.YtlghobefhmpfkaaGreatDoor
set_option linter.unusedVariables false
set_option linter.unusedSimpArgs false
namespace Go.Proofs.YtlghobefhmpfkaaGreatDoor
open Go Go.Ev Go.Rcs
set_option maxRecDepth 100000
variable {G : World → Prop}
theorem u8_k (x : UInt8) (k : Nat) (hk : k < 256) : ((x.toNat : Int) = k) = (x = UInt8.ofNat k) := by
  rw [eq_iff_iff]
  refine ⟨fun h => UInt8.toNat_inj.1 ?_, fun h => ?_⟩
  · rw [UInt8.toNat_ofNat', Nat.mod_eq_of_lt hk]; omega
  · rw [h, UInt8.toNat_ofNat', Nat.mod_eq_of_lt hk]
end Go.Proofs.YtlghobefhmpfkaaGreatDoor
set_option linter.unusedVariables false
set_option linter.unusedSimpArgs false
namespace Go.Proofs.YtlghobefhmpfkaaGreatDoor
open Go Go.Ev Go.Rcs
set_option maxRecDepth 100000
variable {G : World → Prop}
end Go.Proofs.YtlghobefhmpfkaaGreatDoor
set_option linter.unusedVariables false
set_option linter.unusedSimpArgs false
namespace Go.Proofs.YtlghobefhmpfkaaGreatDoor
open Go Go.Ev Go.Rcs
set_option maxRecDepth 100000
variable {G : World → Prop}
end Go.Proofs.YtlghobefhmpfkaaGreatDoor
set_option linter.unusedVariables false
set_option linter.unusedSimpArgs false
namespace Go.Proofs.YtlghobefhmpfkaaGreatDoor
open Go Go.Ev Go.Rcs
set_option maxRecDepth 100000
variable {G : World → Prop}
end Go.Proofs.YtlghobefhmpfkaaGreatDoor
set_option linter.unusedVariables false
set_option linter.unusedSimpArgs false
namespace Go.Proofs.YtlghobefhmpfkaaGreatDoor
open Go Go.Ev Go.Rcs
set_option maxRecDepth 100000
variable {G : World → Prop}
abbrev rdr (t : TypeId) (l : D) (at_ fa fe : Int) : Ob := .cells t [.d l, .d (.v (.int .i64 at_)), .d (.v (.int .i64 fa)), .d (.v (.int .i64 fe))]
def nilS : D := .v (.slice none 0 0)
def CFail : Contract := stC fun args st => match args, st with
  | [.ptr 0 0, .d (.v (.int .i64 e))], ⟨1, [(0, .cells t [.d l, .d (.v (.int .i64 at_)), .d (.v (.int .i64 fa)), .d (.v (.int .i64 fe))])]⟩ =>
    some (True, .tup [], ⟨1, [(0, rdr t l at_ (if fe = 0 then at_ else fa) (if fe = 0 then e else fe))]⟩)
  | _, _ => none
theorem s43 : Sound G Tryz.prog 43 CFail := by
  refine sd43 (T := tabT []) tab_nil (stC_lawful _) (st_hX fun args st p x st' K h hp hk => ?_)
  split at h <;> simp only [Option.some.injEq, Prod.mk.injEq, reduceCtorEq] at h
  obtain ⟨rfl, rfl, rfl⟩ := h
  rename_i e t l at_ fa fe
  refine ⟨Nat.le_of_ble_eq_true rfl, [0], ?_⟩
  by_cases h0 : fe = 0
  · rw [if_pos h0, if_pos h0] at hk
    simp -dsimp -implicitDefEqProofs only [S43, R43, h0, ↓Ev.xStp_eq, ↓Ev.P, Ev.Q, Bool.cond_true, Bool.cond_false, eq_self, forall_eq_or_imp, implies_true, forall_const, forall_eq, ↓reduceIte, reduceIte, Nat.reduceEqDiff, Nat.reduceAdd, reduceCtorEq, Nat.reduceSub, Int.reduceToNat, Int.reduceLE, Int.reduceLT, Int.reduceNeg, Nat.reduceBEq, Nat.reduceMul, Nat.reduceLeDiff, Nat.reduceMod, UInt8.reduceOfNat, Nat.reduceLT, Int.reduceEq, Int.reduceAdd, Int.reduceSub, Int.reduceMul]
    exact hk
  · rw [if_neg h0, if_neg h0] at hk
    simp -dsimp -implicitDefEqProofs only [S43, R43, h0, ↓Ev.xStp_eq, ↓Ev.P, Ev.Q, Bool.cond_true, Bool.cond_false, eq_self, forall_eq_or_imp, implies_true, forall_const, forall_eq, ↓reduceIte, reduceIte, Nat.reduceEqDiff, Nat.reduceAdd, reduceCtorEq, Nat.reduceSub, Int.reduceToNat, Int.reduceLE, Int.reduceLT, Int.reduceNeg, Nat.reduceBEq, Nat.reduceMul, Nat.reduceLeDiff, Nat.reduceMod, UInt8.reduceOfNat, Nat.reduceLT, Int.reduceEq, Int.reduceAdd, Int.reduceSub, Int.reduceMul]
    exact hk
def CMore : Contract := stC fun args st => match args, st with
  | [.ptr 0 0], ⟨1, [(0, .cells t [.d (.sl a), .d (.v (.int .i64 at_)), .d (.v (.int .i64 fa)), .d (.v (.int .i64 fe))])]⟩ =>
    some (True, .d (.v (.bool (decide (fe = 0) && decide (at_ < a.length)))), ⟨1, [(0, rdr t (.sl a) at_ fa fe)]⟩)
  | [.ptr 0 0], ⟨1, [(0, .cells t [.d (.v (.slice none 0 0)), .d (.v (.int .i64 at_)), .d (.v (.int .i64 fa)), .d (.v (.int .i64 fe))])]⟩ =>
    some (¬ fe = 0, .d (.v (.bool false)), ⟨1, [(0, rdr t (.v (.slice none 0 0)) at_ fa fe)]⟩)
  | _, _ => none
theorem s40 : Sound G Tryz.prog 40 CMore := by
  refine sd40 (T := tabT []) tab_nil (stC_lawful _) (st_hX fun args st p x st' K h hp hk => ?_)
  split at h <;> simp only [Option.some.injEq, Prod.mk.injEq, reduceCtorEq] at h
  · obtain ⟨rfl, rfl, rfl⟩ := h
    rename_i t a at_ fa fe
    refine ⟨Nat.le_of_ble_eq_true rfl, [0], ?_⟩
    by_cases h0 : fe = 0
    · simp only [h0, decide_true, Bool.true_and] at hk
      simp -dsimp -implicitDefEqProofs only [S40, R40, h0, ↓Ev.xStp_eq, ↓Ev.P, Ev.Q, Bool.cond_true, Bool.cond_false, eq_self, forall_eq_or_imp, implies_true, forall_const, forall_eq, ↓reduceIte, reduceIte, Nat.reduceEqDiff, Nat.reduceAdd, reduceCtorEq, Nat.reduceSub, Int.reduceToNat, Int.reduceLE, Int.reduceLT, Int.reduceNeg, Nat.reduceBEq, Nat.reduceMul, Nat.reduceLeDiff, Nat.reduceMod, UInt8.reduceOfNat, Nat.reduceLT, Int.reduceEq, Int.reduceAdd, Int.reduceSub, Int.reduceMul]
      exact hk
    · simp only [h0, decide_false, Bool.false_and] at hk
      simp -dsimp -implicitDefEqProofs only [S40, R40, h0, ↓Ev.xStp_eq, ↓Ev.P, Ev.Q, Bool.cond_true, Bool.cond_false, eq_self, forall_eq_or_imp, implies_true, forall_const, forall_eq, ↓reduceIte, reduceIte, Nat.reduceEqDiff, Nat.reduceAdd, reduceCtorEq, Nat.reduceSub, Int.reduceToNat, Int.reduceLE, Int.reduceLT, Int.reduceNeg, Nat.reduceBEq, Nat.reduceMul, Nat.reduceLeDiff, Nat.reduceMod, UInt8.reduceOfNat, Nat.reduceLT, Int.reduceEq, Int.reduceAdd, Int.reduceSub, Int.reduceMul]
      exact hk
  · obtain ⟨rfl, rfl, rfl⟩ := h
    rename_i t at_ fa fe
    refine ⟨Nat.le_of_ble_eq_true rfl, [0], ?_⟩
    simp -dsimp -implicitDefEqProofs only [S40, R40, hp, ↓Ev.xStp_eq, ↓Ev.P, Ev.Q, Bool.cond_true, Bool.cond_false, eq_self, forall_eq_or_imp, implies_true, forall_const, forall_eq, ↓reduceIte, reduceIte, Nat.reduceEqDiff, Nat.reduceAdd, reduceCtorEq, Nat.reduceSub, Int.reduceToNat, Int.reduceLE, Int.reduceLT, Int.reduceNeg, Nat.reduceBEq, Nat.reduceMul, Nat.reduceLeDiff, Nat.reduceMod, UInt8.reduceOfNat, Nat.reduceLT, Int.reduceEq, Int.reduceAdd, Int.reduceSub, Int.reduceMul]
    exact hk
def nxC (a : List (List UInt8)) (at_ fa fe : Int) : List UInt8 × Int × Int × Int :=
  if fe = 0 then if (a.length : Int) < at_ + 1 then ([], at_ + 1, at_ + 1, 1) else if (bareS (a.getD at_.toNat [])).2 = true then ((bareS (a.getD at_.toNat [])).1, at_ + 1, fa, 0) else ([], at_ + 1, at_ + 1, 3)
  else ([], at_, fa, fe)
def CNext : Contract := stC fun args st => match args, st with
  | [.ptr 0 0], ⟨1, [(0, .cells t [.d (.sl rows), .d (.v (.int .i64 at_)), .d (.v (.int .i64 fa)), .d (.v (.int .i64 fe))])]⟩ =>
    (unStr rows).map fun a => ((0 ≤ at_ ∧ at_ ≤ 1099511627776 ∧ ∀ s ∈ a, s.length ≤ 1099511627776), .d (.v (.string ⟨(nxC a at_ fa fe).1.toArray⟩)), ⟨1, [(0, rdr t (.sl rows) (nxC a at_ fa fe).2.1 (nxC a at_ fa fe).2.2.1 (nxC a at_ fa fe).2.2.2)]⟩)
  | _, _ => none
set_option maxHeartbeats 1000000 in
theorem s42 : Sound G Tryz.prog 42 CNext := by
  refine sd42 (T := tabT [(43, CFail), (49, CBare)]) (tab_cons s43 (tab_cons s49 tab_nil)) (stC_lawful _) (st_hX fun args st p x st' K h hp hk => ?_)
  split at h <;> simp only [Option.map_eq_some_iff, Prod.mk.injEq, reduceCtorEq] at h
  obtain ⟨a, hl, rfl, rfl, rfl⟩ := h
  rename_i t rows at_ fa fe
  rw [unStr_eq hl] at *
  obtain ⟨h1, h2, h3⟩ := hp
  refine ⟨Nat.le_of_ble_eq_true rfl, [0], ?_⟩
  unfold nxC at hk
  by_cases h0 : fe = 0
  · subst h0
    rw [if_pos rfl] at hk
    by_cases h4 : (a.length : Int) < at_ + 1
    · rw [if_pos h4] at hk
      simp -dsimp -implicitDefEqProofs only [S42, R42, h4, strRows_len, CFail, ↓Ev.xStp_eq, ↓Ev.P, Ev.Q, Bool.cond_true, Bool.cond_false, eq_self, forall_eq_or_imp, implies_true, forall_const, forall_eq, ↓reduceIte, reduceIte, Nat.reduceEqDiff, Nat.reduceAdd, reduceCtorEq, Nat.reduceSub, Int.reduceToNat, Int.reduceLE, Int.reduceLT, Int.reduceNeg, Nat.reduceBEq, Nat.reduceMul, Nat.reduceLeDiff, Nat.reduceMod, UInt8.reduceOfNat, Nat.reduceLT, Int.reduceEq, Int.reduceAdd, Int.reduceSub, Int.reduceMul]
      repeat' (first | with_reducible assumption | refine And.intro ?_ ?_ | intro _)
      all_goals try omega
      all_goals exact hk
    · rw [if_neg h4] at hk
      obtain ⟨k, rfl⟩ := Int.eq_ofNat_of_zero_le h1
      have hg := strRows_get (l := a) (i := k) (by omega)
      have hb := h3 _ (getD_in (l := a) (i := k) (by omega))
      rw [Int.toNat_natCast] at hk
      have e1 : ((k : Int) + 1 - 1).toNat = k := by omega
      generalize a.getD k [] = s at hg hb hk
      cases hbs : (bareS s).2 with
      | true =>
        rw [if_pos hbs] at hk
        simp -dsimp -implicitDefEqProofs only [S42, R42, h4, hg, e1, hbs, strRows_len, CFail, CBare, ↓Ev.xStp_eq, ↓Ev.P, Ev.Q, Bool.cond_true, Bool.cond_false, eq_self, forall_eq_or_imp, implies_true, forall_const, forall_eq, ↓reduceIte, reduceIte, Nat.reduceEqDiff, Nat.reduceAdd, reduceCtorEq, Nat.reduceSub, Int.reduceToNat, Int.reduceLE, Int.reduceLT, Int.reduceNeg, Nat.reduceBEq, Nat.reduceMul, Nat.reduceLeDiff, Nat.reduceMod, UInt8.reduceOfNat, Nat.reduceLT, Int.reduceEq, Int.reduceAdd, Int.reduceSub, Int.reduceMul]
        repeat' (first | with_reducible assumption | refine And.intro ?_ ?_ | intro _)
        all_goals try omega
        all_goals exact hk
      | false =>
        rw [if_neg (by rw [hbs]; decide)] at hk
        simp -dsimp -implicitDefEqProofs only [S42, R42, h4, hg, e1, hbs, strRows_len, CFail, CBare, ↓Ev.xStp_eq, ↓Ev.P, Ev.Q, Bool.cond_true, Bool.cond_false, eq_self, forall_eq_or_imp, implies_true, forall_const, forall_eq, ↓reduceIte, reduceIte, Nat.reduceEqDiff, Nat.reduceAdd, reduceCtorEq, Nat.reduceSub, Int.reduceToNat, Int.reduceLE, Int.reduceLT, Int.reduceNeg, Nat.reduceBEq, Nat.reduceMul, Nat.reduceLeDiff, Nat.reduceMod, UInt8.reduceOfNat, Nat.reduceLT, Int.reduceEq, Int.reduceAdd, Int.reduceSub, Int.reduceMul]
        repeat' (first | with_reducible assumption | refine And.intro ?_ ?_ | intro _)
        all_goals try omega
        all_goals exact hk
  · rw [if_neg h0] at hk
    simp -dsimp -implicitDefEqProofs only [S42, R42, h0, ↓Ev.xStp_eq, ↓Ev.P, Ev.Q, Bool.cond_true, Bool.cond_false, eq_self, forall_eq_or_imp, implies_true, forall_const, forall_eq, ↓reduceIte, reduceIte, Nat.reduceEqDiff, Nat.reduceAdd, reduceCtorEq, Nat.reduceSub, Int.reduceToNat, Int.reduceLE, Int.reduceLT, Int.reduceNeg, Nat.reduceBEq, Nat.reduceMul, Nat.reduceLeDiff, Nat.reduceMod, UInt8.reduceOfNat, Nat.reduceLT, Int.reduceEq, Int.reduceAdd, Int.reduceSub, Int.reduceMul]
    exact hk
def CRdr : Contract := stC fun args st => match args, st with
  | [.d (.v (.string s))], ⟨0, []⟩ => some (s.size ≤ 1099511627776, .ptr 0 0, ⟨1, [(0, if 1048576 < s.size then rdr 77 nilS 0 0 9 else rdr 77 (.sl (strRows (lns s.data.toList))) 0 0 0)]⟩)
  | _, _ => none
set_option maxHeartbeats 1000000 in
theorem s39 : Sound G Tryz.prog 39 CRdr := by
  refine sd39 (T := tabT [(89, CSplit)]) (tab_cons s89 tab_nil) (stC_lawful _) (st_hX fun args st p x st' K h hp hk => ?_)
  split at h <;> simp only [Option.some.injEq, Prod.mk.injEq, reduceCtorEq] at h
  obtain ⟨rfl, rfl, rfl⟩ := h
  rename_i s
  obtain ⟨s, rfl⟩ := ex_str s
  simp only [sem_str] at hp hk
  refine ⟨Nat.le_of_ble_eq_true rfl, [0], ?_⟩
  by_cases h4 : 1048576 < s.length
  · rw [if_pos h4] at hk
    have h5 : (1048576 : Int) < (s.length : Int) := by omega
    simp -dsimp -implicitDefEqProofs only [S39, R39, h5, nilS, CSplit, ↓Ev.xStp_eq, ↓Ev.P, Ev.Q, Bool.cond_true, Bool.cond_false, eq_self, forall_eq_or_imp, implies_true, forall_const, forall_eq, ↓reduceIte, reduceIte, Nat.reduceEqDiff, Nat.reduceAdd, reduceCtorEq, Nat.reduceSub, Int.reduceToNat, Int.reduceLE, Int.reduceLT, Int.reduceNeg, Nat.reduceBEq, Nat.reduceMul, Nat.reduceLeDiff, Nat.reduceMod, UInt8.reduceOfNat, Nat.reduceLT, Int.reduceEq, Int.reduceAdd, Int.reduceSub, Int.reduceMul]
    exact hk
  · rw [if_neg h4] at hk
    have h5 : ¬ (1048576 : Int) < (s.length : Int) := by omega
    simp -dsimp -implicitDefEqProofs only [S39, R39, h5, nilS, CSplit, ↓Ev.xStp_eq, ↓Ev.P, Ev.Q, Bool.cond_true, Bool.cond_false, eq_self, forall_eq_or_imp, implies_true, forall_const, forall_eq, ↓reduceIte, reduceIte, Nat.reduceEqDiff, Nat.reduceAdd, reduceCtorEq, Nat.reduceSub, Int.reduceToNat, Int.reduceLE, Int.reduceLT, Int.reduceNeg, Nat.reduceBEq, Nat.reduceMul, Nat.reduceLeDiff, Nat.reduceMod, UInt8.reduceOfNat, Nat.reduceLT, Int.reduceEq, Int.reduceAdd, Int.reduceSub, Int.reduceMul]
    exact ⟨by omega, hk⟩
end Go.Proofs.YtlghobefhmpfkaaGreatDoor
set_option linter.unusedVariables false
set_option linter.unusedSimpArgs false
namespace Go.Proofs.YtlghobefhmpfkaaGreatDoor
open Go Go.Ev Go.Rcs
set_option maxRecDepth 100000
variable {G : World → Prop}
theorem parseS_bd (l : List UInt8) : 0 ≤ (parseS l).1 ∧ (parseS l).1 ≤ 2147483647 := by
  unfold parseS
  repeat' split
  all_goals dsimp only
  all_goals omega
def fltV (at_ e : Int) : D := .ifc 79 (.pt [.v (.int .i64 at_), .ifc 27 (.v (.int .i64 e))])
end Go.Proofs.YtlghobefhmpfkaaGreatDoor
set_option linter.unusedVariables false
namespace Go.Proofs.YtlghobefhmpfkaaGreatDoor
open Go Go.Ev
set_option maxRecDepth 100000
def A101 : Ann := ⟨fun _ _ => 0, fun _ => none, fun r => if r = 2 then some (false, [0, 5]) else if r = 3 then some (false, [0, 5]) else if r = 4 then some (false, [0, 5]) else if r = 5 then some (false, [0, 5]) else if r = 6 then some (false, [0, 5, 6, 7]) else if r = 7 then some (false, [6, 7, 8, 9]) else if r = 8 then some (false, [0]) else if r = 9 then some (false, [10, 11]) else none, fun r => if r = 2 then [0, 5] else []⟩
def S101 : SCode :=
  (.seq (.ops [⟨none, (some 2), .mv 2 (.k (Value.int .i64 0)), false⟩,
    ⟨none, (some 3), .mv 3 (.k (Value.int .i64 0)), false⟩,
    ⟨none, (some 4), .mv 4 (.k (Value.bool false)), false⟩])
  (.seq (.seq (.ops [⟨none, (some 5), .mv 5 (.k (Value.int .i64 0)), false⟩])
  (.block 0 (.loop [0, 5] (.seq (.seq (.seq (.keep [0, 5]) (.ops [⟨none, (some 12), .mv 12 (.s 5), false⟩,
    ⟨none, (some 13), .mv 13 (.s 0), false⟩,
    ⟨none, (some 14), .lens 14 (.s 13), false⟩,
    ⟨none, (some 15), .bin 15 .lss (.s 12) (.s 14), false⟩]))
  (.cond (.s 15) .skip (.exit 0)))
  (.seq (.block 1 (.seq (.seq (.keep [0, 5]) (.ops [⟨none, (some 18), .mv 18 (.s 0), false⟩,
    ⟨none, (some 19), .mv 19 (.s 5), false⟩,
    ⟨none, (some 20), .ixs 20 (.s 18) (.s 19), false⟩,
    ⟨none, (some 21), .bin 21 .eql (.s 20) (.k (Value.int .u8 44)), false⟩]))
  (.cond (.s 21) (.seq (.seq (.keep [0, 5]) (.ops [⟨none, (some 23), .mv 23 (.s 0), false⟩,
    ⟨none, (some 24), .mv 24 (.s 5), false⟩,
    ⟨none, (some 25), .sls 25 (.s 23) none (some (.s 24)), false⟩,
    ⟨none, (some 26), .call (some 26) 90 false [(.s 25)], false⟩,
    ⟨none, (some 22), .mv 22 (.s 26), false⟩,
    ⟨none, (some 27), .ex 27 (.s 22) 0, false⟩,
    ⟨none, (some 28), .ex 28 (.s 22) 1, false⟩,
    ⟨none, (some 6), .mv 6 (.s 27), false⟩,
    ⟨none, (some 7), .mv 7 (.s 28), false⟩]))
  (.seq (.seq (.keep [0, 5, 6, 7]) (.ops [⟨none, (some 30), .mv 30 (.s 0), false⟩,
    ⟨none, (some 31), .mv 31 (.s 5), false⟩,
    ⟨none, (some 32), .binc 32 .add (.s 31) (.k (Value.int .i64 1)), false⟩,
    ⟨none, (some 33), .sls 33 (.s 30) (some (.s 32)) none, false⟩,
    ⟨none, (some 34), .call (some 34) 90 false [(.s 33)], false⟩,
    ⟨none, (some 29), .mv 29 (.s 34), false⟩,
    ⟨none, (some 35), .ex 35 (.s 29) 0, false⟩,
    ⟨none, (some 36), .ex 36 (.s 29) 1, false⟩,
    ⟨none, (some 8), .mv 8 (.s 35), false⟩,
    ⟨none, (some 9), .mv 9 (.s 36), true⟩]))
  (.seq (.seq (.keep [6, 7, 8, 9]) (.ops [⟨none, (some 37), .mv 37 (.s 6), false⟩,
    ⟨none, (some 38), .mv 38 (.s 8), false⟩,
    ⟨none, (some 39), .mv 39 (.s 6), false⟩,
    ⟨none, (some 40), .binc 40 .sub (.s 38) (.s 39), false⟩,
    ⟨none, (some 41), .binc 41 .add (.s 40) (.k (Value.int .i64 1)), false⟩,
    ⟨none, (some 42), .mv 42 (.s 7), false⟩,
    ⟨none, (some 43), .bin 43 .eql (.s 42) (.k (Value.int .i64 0)), false⟩,
    ⟨none, (some 44), .mv 44 (.s 43), false⟩,
    ⟨(some (44, true)), (some 45), .mv 45 (.s 9), false⟩,
    ⟨(some (44, true)), (some 46), .bin 46 .eql (.s 45) (.k (Value.int .i64 0)), true⟩,
    ⟨none, (some 47), .pk 47 (.s 44) (.s 46) (.k (Value.bool false)), false⟩,
    ⟨none, (some 48), .mv 48 (.s 47), false⟩,
    ⟨(some (48, true)), (some 49), .mv 49 (.s 6), false⟩,
    ⟨(some (48, true)), (some 50), .bin 50 .geq (.s 49) (.k (Value.int .i64 1)), false⟩,
    ⟨none, (some 51), .pk 51 (.s 48) (.s 50) (.k (Value.bool false)), false⟩,
    ⟨none, (some 52), .mv 52 (.s 51), false⟩,
    ⟨(some (52, true)), (some 53), .mv 53 (.s 8), false⟩,
    ⟨(some (52, true)), (some 54), .mv 54 (.s 6), false⟩,
    ⟨(some (52, true)), (some 55), .bin 55 .gtr (.s 53) (.s 54), false⟩,
    ⟨none, (some 56), .pk 56 (.s 52) (.s 55) (.k (Value.bool false)), true⟩,
    ⟨none, (some 2), .mv 2 (.s 37), false⟩,
    ⟨none, (some 3), .mv 3 (.s 41), false⟩,
    ⟨none, (some 4), .mv 4 (.s 56), false⟩]))
  .ret))) .skip)))
  (.seq (.keep [0, 5]) (.ops [⟨none, (some 16), .mv 16 (.s 5), false⟩,
    ⟨none, (some 17), .binc 17 .add (.s 16) (.k (Value.int .i64 1)), false⟩,
    ⟨none, (some 5), .mv 5 (.s 17), false⟩])))))))
  (.seq (.seq (.keep [0]) (.ops [⟨none, (some 58), .mv 58 (.s 0), false⟩,
    ⟨none, (some 59), .call (some 59) 90 false [(.s 58)], false⟩,
    ⟨none, (some 57), .mv 57 (.s 59), false⟩,
    ⟨none, (some 60), .ex 60 (.s 57) 0, false⟩,
    ⟨none, (some 61), .ex 61 (.s 57) 1, false⟩,
    ⟨none, (some 10), .mv 10 (.s 60), false⟩,
    ⟨none, (some 11), .mv 11 (.s 61), false⟩]))
  (.seq (.seq (.keep [10, 11]) (.ops [⟨none, (some 62), .mv 62 (.s 10), false⟩,
    ⟨none, (some 63), .mv 63 (.s 11), false⟩,
    ⟨none, (some 64), .bin 64 .eql (.s 63) (.k (Value.int .i64 0)), false⟩,
    ⟨none, (some 65), .mv 65 (.s 64), false⟩,
    ⟨(some (65, true)), (some 66), .mv 66 (.s 10), false⟩,
    ⟨(some (65, true)), (some 67), .bin 67 .geq (.s 66) (.k (Value.int .i64 1)), false⟩,
    ⟨none, (some 68), .pk 68 (.s 65) (.s 67) (.k (Value.bool false)), false⟩,
    ⟨none, (some 2), .mv 2 (.s 62), false⟩,
    ⟨none, (some 3), .mv 3 (.k (Value.int .i64 1)), false⟩,
    ⟨none, (some 4), .mv 4 (.s 68), true⟩]))
  .ret))))
theorem cc101 : (Tryz.f101.body).bind (cc Tryz.prog Tryz.f101.ntmps A101) = some S101 := by kernel_rfl
def R101 : List RR := [.sl 2, .sl 3, .sl 4]
theorem cr101 : Tryz.f101.results.toList.map (crr Tryz.prog) = R101.map some := by kernel_rfl
theorem nm101 : (Tryz.f101.name == "runtime.NumGoroutine") = false := by kernel_rfl
theorem fn101 : Tryz.prog.funcs[101]? = some Tryz.f101 := by kernel_rfl
theorem bd101 : ∃ b, Tryz.f101.body = some b ∧ cc Tryz.prog Tryz.f101.ntmps A101 b = some S101 := Option.bind_eq_some_iff.1 cc101
theorem sd101 {G : World → Prop} {T : FuncId → Contract} {C : Contract} (hT : ∀ f, Sound G Tryz.prog f (T f)) (hl : C.lawful) (hC : ∀ args st K, C.wp args st K → args.length ≤ 69 ∧ ∃ os op, xv T st.n S101 (st0 args st) (retK R101 st.n os K) (panK st.n op K)) (hit : SoundIt G Tryz.prog 101 C.it := by exact SoundIt.none) : Sound G Tryz.prog 101 C := by
  obtain ⟨b, hb, hc⟩ := bd101
  rw [xv_eq] at hC
  exact sound_of_ev mo fn101 hb nm101 hc cr101 hT hl hit hC
end Go.Proofs.YtlghobefhmpfkaaGreatDoor
set_option linter.unusedVariables false
set_option linter.unusedSimpArgs false
namespace Go.Proofs.YtlghobefhmpfkaaGreatDoor
open Go Go.Ev Go.Rcs
set_option maxRecDepth 100000
variable {G : World → Prop}
abbrev Fl := Int × Int
def nextL (L : List (List UInt8)) (at_ : Nat) : Except Fl (List UInt8 × Nat) :=
  if at_ < L.length then if (bareS (L.getD at_ [])).2 = true then .ok ((bareS (L.getD at_ [])).1, at_ + 1) else .error ((at_ : Int) + 1, 3) else .error ((at_ : Int) + 1, 1)
theorem nextL_ok {L : List (List UInt8)} {k : Nat} (h : k < L.length) (hb : (bareS (L.getD k [])).2 = true) : nextL L k = .ok ((bareS (L.getD k [])).1, k + 1) := by rw [nextL, if_pos h, if_pos hb]
theorem nextL_bad {L : List (List UInt8)} {k : Nat} (h : k < L.length) (hb : (bareS (L.getD k [])).2 = false) : nextL L k = .error ((k : Int) + 1, 3) := by rw [nextL, if_pos h, if_neg (by rw [hb]; decide)]
theorem nextL_end {L : List (List UInt8)} {k : Nat} (h : ¬ k < L.length) : nextL L k = .error ((k : Int) + 1, 1) := by rw [nextL, if_neg h]
def strA (x : List UInt8 × Nat) : SV × Int := (.d (.v (.string ⟨x.1.toArray⟩)), (x.2 : Int))
def smL (L : List (List UInt8)) : Prop := L.length ≤ 1099511627776 ∧ ∀ s ∈ L, s.length ≤ 1099511627776
theorem map_ok {α β : Type} {f : α → β} {x : α} : (Except.ok x : Except Fl α).map f = .ok (f x) := rfl
theorem map_error {α β : Type} {f : α → β} {e : Fl} : (Except.error e : Except Fl α).map f = .error e := rfl
end Go.Proofs.YtlghobefhmpfkaaGreatDoor
set_option linter.unusedVariables false
set_option linter.unusedSimpArgs false
namespace Go.Proofs.YtlghobefhmpfkaaGreatDoor
open Go Go.Ev Go.Rcs
set_option maxRecDepth 100000
variable {G : World → Prop}
def cutK (k : UInt8) : List UInt8 → Option (List UInt8 × List UInt8)
  | [] => none
  | c :: r => if c = k then some ([], r) else (cutK k r).map fun p => (c :: p.1, p.2)
theorem cutK_ix (k : UInt8) : ∀ l : List UInt8, cutK k l = if Lib.indexByte l k < 0 then none else some (l.take (Lib.indexByte l k).toNat, l.drop ((Lib.indexByte l k).toNat + 1))
  | [] => rfl
  | c :: r => by
    have ih := cutK_ix k r
    have hge := Lib.indexByte_ge r k
    by_cases h : c = k
    · subst h; simp [cutK, Lib.indexByte]
    · have h1 : (c == k) = false := by simpa using h
      have hx : Lib.indexByte (c :: r) k = if Lib.indexByte r k = -1 then -1 else Lib.indexByte r k + 1 := by
        simp only [Lib.indexByte, h1, beq_iff_eq, Bool.false_eq_true, if_false]
      rw [hx, cutK, if_neg h, ih]
      by_cases h2 : Lib.indexByte r k = -1
      · rw [if_pos h2, h2]; rfl
      · rw [if_neg h2, if_neg (by omega), if_neg (by omega)]
        have e : (Lib.indexByte r k + 1).toNat = (Lib.indexByte r k).toNat + 1 := by omega
        rw [e]; rfl
theorem cutK_at {b : UInt8} : ∀ {r : List UInt8} {k : Nat}, k < r.length → b ∉ r.take k → r.getD k 0 = b → cutK b r = some (r.take k, r.drop (k + 1))
  | [], _, h, _, _ => by simp at h
  | c :: r, 0, _, _, h => by
    have : c = b := by simpa using h
    rw [cutK, if_pos this]; rfl
  | c :: r, k + 1, h, hn, hc => by
    simp only [List.take_succ_cons, List.mem_cons, not_or] at hn
    rw [cutK, if_neg (fun e => hn.1 e.symm), cutK_at (r := r) (k := k) (by simpa using h) hn.2 (by simpa using hc)]
    rfl
theorem cutK_non {b : UInt8} : ∀ {r : List UInt8}, b ∉ r → cutK b r = none
  | [], _ => rfl
  | c :: r, h => by
    simp only [List.mem_cons, not_or] at h
    rw [cutK, if_neg (fun e => h.1 e.symm), cutK_non h.2]; rfl
def cutG (k : UInt8) (l : List UInt8) : List UInt8 × List UInt8 := (cutK k l).getD (l, [])
def CIxC : Contract := pureC fun args => match args with
  | [.d (.v (.string s)), .d (.v (.string p))] => some (p.data.toList = [44], .d (.v (.int .i64 (Lib.indexByte s.data.toList 44))))
  | _ => none
theorem sIxC : Sound G Tryz.prog 149 CIxC := by
  refine sound_lib ⟨Tryz.f149, by kernel_rfl, by kernel_rfl, by kernel_rfl⟩ fun args p x h hp => ?_
  split at h <;> simp only [Option.some.injEq, Prod.mk.injEq, reduceCtorEq] at h
  obtain ⟨rfl, rfl⟩ := h
  rename_i s q
  obtain ⟨q', rfl⟩ := ex_str q
  simp only [sem_str] at hp
  subst hp
  refine ⟨_, fun m n c => ⟨rfl, rfl⟩, fun w hw m c vs hc hv => ?_⟩
  match vs, hv with
  | [a, b], hv =>
    simp only [CnL, and_true] at hv
    obtain ⟨v1, v2⟩ := hv
    rw [of_v v1, of_v v2]
    refine (Tryz.stringslite_Index_one s 44 w).mono ?_
    rintro e w' ⟨rfl, rfl⟩
    exact ⟨rfl, RowKit.Below.refl _ _⟩
  | [], hv => simp [CnL] at hv
  | [_], hv => simp [CnL] at hv
  | _ :: _ :: _ :: _, hv => simp [CnL] at hv
def CCutC : Contract := pureC fun args => match args with
  | [.d (.v (.string s)), .d (.v (.string p))] => some (s.size ≤ 1099511627776 ∧ p.data.toList = [44], .tup [.d (.v (str (cutG 44 s.data.toList).1)), .d (.v (str (cutG 44 s.data.toList).2)), .d (.v (.bool (cutK 44 s.data.toList).isSome))])
  | _ => none
theorem sCutC : Sound G Tryz.prog 146 CCutC := by
  refine sd146 (T := tabT [(149, CIxC)]) (tab_cons sIxC tab_nil) (pureC_lawful _) (pure_hX fun args p x K h hp hk => ?_)
  split at h <;> simp only [Option.some.injEq, Prod.mk.injEq, reduceCtorEq] at h
  obtain ⟨rfl, rfl⟩ := h
  rename_i s q
  obtain ⟨q, rfl⟩ := ex_str q
  obtain ⟨s, rfl⟩ := ex_str s
  simp only [sem_str] at hp hk
  obtain ⟨h1, rfl⟩ := hp
  refine ⟨Nat.le_of_ble_eq_true rfl, ?_⟩
  have hc := cutK_ix 44 s
  have hlt := ix_lt s 44
  by_cases hn : Lib.indexByte s 44 < 0
  · rw [if_pos hn] at hc
    rw [cutG, hc] at hk
    have hn2 : ¬ 0 ≤ Lib.indexByte s 44 := by omega
    simp -dsimp -implicitDefEqProofs only [S146, R146, CIxC, hn2, ↓Ev.xStp_eq, ↓Ev.P, Ev.Q, Bool.cond_true, Bool.cond_false, eq_self, forall_eq_or_imp, implies_true, forall_const, forall_eq, ↓reduceIte, reduceIte, Nat.reduceEqDiff, Nat.reduceAdd, reduceCtorEq, Nat.reduceSub, Int.reduceToNat, Int.reduceLE, Int.reduceLT, Int.reduceNeg, Nat.reduceBEq, Nat.reduceMul, Nat.reduceLeDiff, Nat.reduceMod, UInt8.reduceOfNat, Nat.reduceLT, Int.reduceEq, Int.reduceAdd, Int.reduceSub, Int.reduceMul]
    exact hk
  · rw [if_neg hn] at hc
    rw [cutG, hc] at hk
    have hn2 : 0 ≤ Lib.indexByte s 44 := by omega
    simp -dsimp -implicitDefEqProofs only [S146, R146, CIxC, hn2, ↓Ev.xStp_eq, ↓Ev.P, Ev.Q, Bool.cond_true, Bool.cond_false, eq_self, forall_eq_or_imp, implies_true, forall_const, forall_eq, ↓reduceIte, reduceIte, Nat.reduceEqDiff, Nat.reduceAdd, reduceCtorEq, Nat.reduceSub, Int.reduceToNat, Int.reduceLE, Int.reduceLT, Int.reduceNeg, Nat.reduceBEq, Nat.reduceMul, Nat.reduceLeDiff, Nat.reduceMod, UInt8.reduceOfNat, Nat.reduceLT, Int.reduceEq, Int.reduceAdd, Int.reduceSub, Int.reduceMul]
    obtain ⟨i, hi⟩ := Int.eq_ofNat_of_zero_le hn2
    rw [hi] at hk hlt ⊢
    refine ⟨by omega, by omega, by omega, ?_⟩
    rw [show ((i : Int) + ((1 : Nat) : Int)).toNat = i + 1 by omega]
    exact hk
theorem sCutCs : Sound G Tryz.prog 85 CCutC := by
  refine sd85 (T := tabT [(146, CCutC)]) (tab_cons sCutC tab_nil) (pureC_lawful _) (pure_hX fun args p x K h hp hk => ?_)
  split at h <;> simp only [Option.some.injEq, Prod.mk.injEq, reduceCtorEq] at h
  obtain ⟨rfl, rfl⟩ := h
  refine ⟨Nat.le_of_ble_eq_true rfl, ?_⟩
  simp -dsimp -implicitDefEqProofs only [S85, R85, CCutC, ↓Ev.xStp_eq, ↓Ev.P, Ev.Q, Bool.cond_true, Bool.cond_false, eq_self, forall_eq_or_imp, implies_true, forall_const, forall_eq, ↓reduceIte, reduceIte, Nat.reduceEqDiff, Nat.reduceAdd, reduceCtorEq, Nat.reduceSub, Int.reduceToNat, Int.reduceLE, Int.reduceLT, Int.reduceNeg, Nat.reduceBEq, Nat.reduceMul, Nat.reduceLeDiff, Nat.reduceMod, UInt8.reduceOfNat, Nat.reduceLT, Int.reduceEq, Int.reduceAdd, Int.reduceSub, Int.reduceMul]
  exact ⟨hp, hk⟩
theorem cutG_len (k : UInt8) (l : List UInt8) : (cutG k l).1.length ≤ l.length ∧ (cutG k l).2.length ≤ l.length := by
  rw [cutG, cutK_ix]
  split
  · simp
  · simp only [Option.getD_some, List.length_take, List.length_drop]; omega
def sevL (s : List UInt8) : (Int × Int) × Bool := match cutK 44 s with
  | none => (((parseS s).1, 1), decide ((parseS s).2 = 0 ∧ 1 ≤ (parseS s).1))
  | some (p, q) => (((parseS p).1, (parseS q).1 - (parseS p).1 + 1), decide (((parseS p).2 = 0 ∧ (parseS q).2 = 0) ∧ 1 ≤ (parseS p).1 ∧ (parseS p).1 < (parseS q).1))
def tri (x : (Int × Int) × Bool) : SV := .tup [.d (.v (.int .i64 x.1.1)), .d (.v (.int .i64 x.1.2)), .d (.v (.bool x.2))]
def CLinR : Contract := pureC fun args => match args with
  | [.d (.v (.string s))] => some (s.size ≤ 1099511627776, tri (sevL s.data.toList))
  | _ => none
set_option maxHeartbeats 2000000 in
theorem s101 : Sound G Tryz.prog 101 CLinR := by
  refine sd101 (T := tabT [(90, CParse)]) (tab_cons s90 tab_nil) (pureC_lawful _) (pure_hX fun args p x K h hp hk => ?_)
  split at h <;> simp only [Option.some.injEq, Prod.mk.injEq, reduceCtorEq] at h
  obtain ⟨rfl, rfl⟩ := h
  rename_i s
  obtain ⟨s, rfl⟩ := ex_str s
  simp only [sem_str] at hp hk
  refine ⟨Nat.le_of_ble_eq_true rfl, ?_⟩
  simp -dsimp -implicitDefEqProofs only [S101, R101, ↓Ev.xStp_eq, ↓Ev.P, Ev.Q, Bool.cond_true, Bool.cond_false, eq_self, forall_eq_or_imp, implies_true, forall_const, forall_eq, ↓reduceIte, reduceIte, Nat.reduceEqDiff, Nat.reduceAdd, reduceCtorEq, Nat.reduceSub, Int.reduceToNat, Int.reduceLE, Int.reduceLT, Int.reduceNeg, Nat.reduceBEq, Nat.reduceMul, Nat.reduceLeDiff, Nat.reduceMod, UInt8.reduceOfNat, Nat.reduceLT, Int.reduceEq, Int.reduceAdd, Int.reduceSub, Int.reduceMul]
  refine xLoop_intro (fun n st => ∃ k : Nat, k ≤ s.length ∧ n = s.length - k ∧ 44 ∉ s.take k ∧ st = ⟨[(0, .d (.v (.string ⟨s.toArray⟩))), (5, .d (.v (.int .i64 k)))], 0, []⟩) s.length [] ?_ ?_ ?_
  · simp -dsimp -implicitDefEqProofs only [↓Ev.xStp_eq, ↓Ev.P, Ev.Q, Bool.cond_true, Bool.cond_false, eq_self, forall_eq_or_imp, implies_true, forall_const, forall_eq, ↓reduceIte, reduceIte, Nat.reduceEqDiff, Nat.reduceAdd, reduceCtorEq, Nat.reduceSub, Int.reduceToNat, Int.reduceLE, Int.reduceLT, Int.reduceNeg, Nat.reduceBEq, Nat.reduceMul, Nat.reduceLeDiff, Nat.reduceMod, UInt8.reduceOfNat, Nat.reduceLT, Int.reduceEq, Int.reduceAdd, Int.reduceSub, Int.reduceMul]
  · simp -dsimp -implicitDefEqProofs only [↓Ev.xStp_eq, ↓Ev.P, Ev.Q, Bool.cond_true, Bool.cond_false, eq_self, forall_eq_or_imp, implies_true, forall_const, forall_eq, ↓reduceIte, reduceIte, Nat.reduceEqDiff, Nat.reduceAdd, reduceCtorEq, Nat.reduceSub, Int.reduceToNat, Int.reduceLE, Int.reduceLT, Int.reduceNeg, Nat.reduceBEq, Nat.reduceMul, Nat.reduceLeDiff, Nat.reduceMod, UInt8.reduceOfNat, Nat.reduceLT, Int.reduceEq, Int.reduceAdd, Int.reduceSub, Int.reduceMul]
    exact ⟨0, by omega, by omega, by simp, rfl⟩
  · rintro n st ⟨k, hk1, hn, hno, rfl⟩
    by_cases hkl : k < s.length
    · have hi3 : (k : Int) < (s.length : Int) := by omega
      have v3 : (((s.getD k 0).toNat : Int) = 44) = (s.getD k 0 = 44) := u8_k _ 44 (by decide)
      by_cases hc : s.getD k 0 = 44
      · have hcut := cutK_at hkl hno hc
        have b1 := parseS_bd (s.take k)
        have b2 := parseS_bd (s.drop (k + 1))
        unfold tri sevL at hk
        rw [hcut] at hk
        dsimp only at hk
        have v4 : (((s.getD k 0).toNat : Int) = 44) = True := v3.trans (eq_true hc)
        simp -dsimp -implicitDefEqProofs only [hi3, v4, CParse, ↓Ev.P, Ev.Q, Bool.cond_true, Bool.cond_false, eq_self, forall_eq_or_imp, implies_true, forall_const, forall_eq, ↓reduceIte, reduceIte, Nat.reduceEqDiff, Nat.reduceAdd, reduceCtorEq, Nat.reduceSub, Int.reduceToNat, Int.reduceLE, Int.reduceLT, Int.reduceNeg, Nat.reduceBEq, Nat.reduceMul, Nat.reduceLeDiff, Nat.reduceMod, UInt8.reduceOfNat, Nat.reduceLT, Int.reduceEq, Int.reduceAdd, Int.reduceSub, Int.reduceMul]
        repeat' (first | with_reducible assumption | refine And.intro ?_ ?_ | intro _ | (rw [Ev.xStp_eq]; simp -dsimp -implicitDefEqProofs only [hi3, v4, CParse, ↓Ev.P, Ev.Q, Bool.cond_true, Bool.cond_false, eq_self, forall_eq_or_imp, implies_true, forall_const, forall_eq, ↓reduceIte, reduceIte, Nat.reduceEqDiff, Nat.reduceAdd, reduceCtorEq, Nat.reduceSub, Int.reduceToNat, Int.reduceLE, Int.reduceLT, Int.reduceNeg, Nat.reduceBEq, Nat.reduceMul, Nat.reduceLeDiff, Nat.reduceMod, UInt8.reduceOfNat, Nat.reduceLT, Int.reduceEq, Int.reduceAdd, Int.reduceSub, Int.reduceMul]))
        all_goals try omega
        all_goals try (simp only [List.length_take, List.length_drop]; omega)
        have e : (decide ((parseS (List.take k s)).snd = 0) && decide ((parseS (List.drop (k + 1) s)).snd = 0) && decide (1 ≤ (parseS (List.take k s)).fst) && decide ((parseS (List.take k s)).fst < (parseS (List.drop (k + 1) s)).fst)) = decide (((parseS (List.take k s)).2 = 0 ∧ (parseS (List.drop (k + 1) s)).2 = 0) ∧ 1 ≤ (parseS (List.take k s)).1 ∧ (parseS (List.take k s)).1 < (parseS (List.drop (k + 1) s)).1) := by
          rw [Bool.eq_iff_iff, decide_eq_true_eq]
          simp only [Bool.and_eq_true, decide_eq_true_eq, and_assoc]
        first
          | (rw [e]; exact hk)
          | (rw [List.take_of_length_le (l := List.drop (k + 1) s) (by rw [List.length_drop]; omega)]; rw [e]; exact hk)
      · simp -dsimp -implicitDefEqProofs only [hi3, v3, hc, CParse, ↓Ev.xStp_eq, ↓Ev.P, Ev.Q, Bool.cond_true, Bool.cond_false, eq_self, forall_eq_or_imp, implies_true, forall_const, forall_eq, ↓reduceIte, reduceIte, Nat.reduceEqDiff, Nat.reduceAdd, reduceCtorEq, Nat.reduceSub, Int.reduceToNat, Int.reduceLE, Int.reduceLT, Int.reduceNeg, Nat.reduceBEq, Nat.reduceMul, Nat.reduceLeDiff, Nat.reduceMod, UInt8.reduceOfNat, Nat.reduceLT, Int.reduceEq, Int.reduceAdd, Int.reduceSub, Int.reduceMul]
        repeat' (first | with_reducible assumption | refine And.intro ?_ ?_ | intro _)
        all_goals try omega
        refine xAgain_intro (s.length - (k + 1)) [] (by omega) (by simp -dsimp -implicitDefEqProofs only [↓Ev.xStp_eq, ↓Ev.P, Ev.Q, Bool.cond_true, Bool.cond_false, eq_self, forall_eq_or_imp, implies_true, forall_const, forall_eq, ↓reduceIte, reduceIte, Nat.reduceEqDiff, Nat.reduceAdd, reduceCtorEq, Nat.reduceSub, Int.reduceToNat, Int.reduceLE, Int.reduceLT, Int.reduceNeg, Nat.reduceBEq, Nat.reduceMul, Nat.reduceLeDiff, Nat.reduceMod, UInt8.reduceOfNat, Nat.reduceLT, Int.reduceEq, Int.reduceAdd, Int.reduceSub, Int.reduceMul]) ⟨k + 1, by omega, rfl, ?_, ?_⟩
        · rw [List.take_succ_eq_append_getElem hkl, List.mem_append]
          rintro (hm | hm)
          · exact hno hm
          · have e := List.mem_singleton.1 hm
            refine hc ?_
            rw [List.getD_eq_getElem?_getD, List.getElem?_eq_getElem hkl, Option.getD_some, e]
        · simp -dsimp -implicitDefEqProofs only [↓Ev.xStp_eq, ↓Ev.P, Ev.Q, Bool.cond_true, Bool.cond_false, eq_self, forall_eq_or_imp, implies_true, forall_const, forall_eq, ↓reduceIte, reduceIte, Nat.reduceEqDiff, Nat.reduceAdd, reduceCtorEq, Nat.reduceSub, Int.reduceToNat, Int.reduceLE, Int.reduceLT, Int.reduceNeg, Nat.reduceBEq, Nat.reduceMul, Nat.reduceLeDiff, Nat.reduceMod, UInt8.reduceOfNat, Nat.reduceLT, Int.reduceEq, Int.reduceAdd, Int.reduceSub, Int.reduceMul]
          all_goals rfl
    · have hi3 : ¬ (k : Int) < (s.length : Int) := by omega
      obtain rfl : k = s.length := by omega
      rw [List.take_length] at hno
      unfold tri sevL at hk
      rw [cutK_non hno] at hk
      dsimp only at hk
      simp -dsimp -implicitDefEqProofs only [hi3, CParse, ↓Ev.xStp_eq, ↓Ev.P, Ev.Q, Bool.cond_true, Bool.cond_false, eq_self, forall_eq_or_imp, implies_true, forall_const, forall_eq, ↓reduceIte, reduceIte, Nat.reduceEqDiff, Nat.reduceAdd, reduceCtorEq, Nat.reduceSub, Int.reduceToNat, Int.reduceLE, Int.reduceLT, Int.reduceNeg, Nat.reduceBEq, Nat.reduceMul, Nat.reduceLeDiff, Nat.reduceMod, UInt8.reduceOfNat, Nat.reduceLT, Int.reduceEq, Int.reduceAdd, Int.reduceSub, Int.reduceMul]
      refine ⟨hp, ?_⟩
      simpa using hk
end Go.Proofs.YtlghobefhmpfkaaGreatDoor
set_option linter.unusedVariables false
namespace Go.Proofs.YtlghobefhmpfkaaGreatDoor
open Go Go.Ev
set_option maxRecDepth 100000
end Go.Proofs.YtlghobefhmpfkaaGreatDoor
set_option linter.unusedVariables false
set_option linter.unusedSimpArgs false
namespace Go.Proofs.YtlghobefhmpfkaaGreatDoor
open Go Go.Ev
end Go.Proofs.YtlghobefhmpfkaaGreatDoor
set_option linter.unusedVariables false
set_option linter.unusedSimpArgs false
namespace Go.Proofs.YtlghobefhmpfkaaGreatDoor
open Go Go.Ev
set_option maxRecDepth 100000
variable {G : World → Prop}
def plainB (c : Int) : Bool := decide (32 ≤ c) && decide (c ≤ 126) && !decide (c = 34) && !decide (c = 92)
end Go.Proofs.YtlghobefhmpfkaaGreatDoor
set_option linter.unusedVariables false
set_option linter.unusedSimpArgs false
namespace Go.Proofs.YtlghobefhmpfkaaGreatDoor
open Go Go.Ev
set_option maxRecDepth 100000
variable {G : World → Prop}
def hx (c : UInt8) : Int := Lib.indexByte [48, 49, 50, 51, 52, 53, 54, 55, 56, 57, 97, 98, 99, 100, 101, 102] c
end Go.Proofs.YtlghobefhmpfkaaGreatDoor
set_option linter.unusedVariables false
set_option linter.unusedSimpArgs false
namespace Go.Proofs.YtlghobefhmpfkaaGreatDoor
open Go Go.Ev
set_option maxRecDepth 100000
variable {G : World → Prop}
end Go.Proofs.YtlghobefhmpfkaaGreatDoor
set_option linter.unusedVariables false
set_option linter.unusedSimpArgs false
namespace Go.Proofs.YtlghobefhmpfkaaGreatDoor
open Go Go.Ev
set_option maxRecDepth 100000
variable {G : World → Prop}
abbrev hexs : List UInt8 := [48, 49, 50, 51, 52, 53, 54, 55, 56, 57, 97, 98, 99, 100, 101, 102]
end Go.Proofs.YtlghobefhmpfkaaGreatDoor
set_option linter.unusedVariables false
set_option linter.unusedSimpArgs false
namespace Go.Proofs.YtlghobefhmpfkaaGreatDoor
open Go Go.Ev
set_option maxRecDepth 100000
variable {G : World → Prop}
section
variable {q out : List UInt8} {i : Nat} (hi : (i : Int) < (q.length : Int))
include hi
end
end Go.Proofs.YtlghobefhmpfkaaGreatDoor
set_option linter.unusedVariables false
set_option linter.unusedSimpArgs false
namespace Go.Proofs.YtlghobefhmpfkaaGreatDoor
open Go Go.Ev
set_option maxRecDepth 100000
variable {G : World → Prop}
end Go.Proofs.YtlghobefhmpfkaaGreatDoor
set_option linter.unusedVariables false
set_option linter.unusedSimpArgs false
namespace Go.Proofs.YtlghobefhmpfkaaGreatDoor
open Go Go.Ev Go.RowKit
end Go.Proofs.YtlghobefhmpfkaaGreatDoor
set_option linter.unusedVariables false
set_option linter.unusedSimpArgs false
namespace Go.Proofs.YtlghobefhmpfkaaGreatDoor
open Go Go.Ev Go.RowKit
end Go.Proofs.YtlghobefhmpfkaaGreatDoor
set_option linter.unusedVariables false
set_option linter.unusedSimpArgs false
namespace Go.Proofs.YtlghobefhmpfkaaGreatDoor
open Go Go.Ev
set_option maxRecDepth 100000
variable {G : World → Prop}
def qb (c : UInt8) : List UInt8 := if plainB c.toNat = true then [c] else [92, hexs.getD (c.toNat / 16) 0, hexs.getD (c.toNat % 16) 0]
def quo (l : List UInt8) : List UInt8 := 34 :: l.flatMap qb ++ [34]
end Go.Proofs.YtlghobefhmpfkaaGreatDoor
set_option linter.unusedVariables false
set_option linter.unusedSimpArgs false
namespace Go.Proofs.YtlghobefhmpfkaaGreatDoor
open Go Go.Ev
set_option maxRecDepth 100000
variable {G : World → Prop}
end Go.Proofs.YtlghobefhmpfkaaGreatDoor
set_option linter.unusedVariables false
set_option linter.unusedSimpArgs false
namespace Go.Proofs.YtlghobefhmpfkaaGreatDoor
open Go Go.Ev
set_option maxRecDepth 100000
variable {G : World → Prop}
end Go.Proofs.YtlghobefhmpfkaaGreatDoor
set_option linter.unusedVariables false
set_option linter.unusedSimpArgs false
namespace Go.Proofs.YtlghobefhmpfkaaGreatDoor
open Go Go.Ev
set_option maxRecDepth 100000
variable {G : World → Prop}
end Go.Proofs.YtlghobefhmpfkaaGreatDoor
set_option linter.unusedVariables false
namespace Go.Proofs.YtlghobefhmpfkaaGreatDoor
open Go Go.Ev
set_option maxRecDepth 100000
end Go.Proofs.YtlghobefhmpfkaaGreatDoor
set_option linter.unusedVariables false
set_option linter.unusedSimpArgs false
namespace Go.Ev
open Go
abbrev IKs := Ex → List Nat → St → Option Nat → Prop
section
variable {P : Program} {T : FuncId → Contract} {N l : Nat} {xs : List (List SV)} {S : Nat → Prop} {w : World} {J : Nat → World → Prop} {Jx : World → Prop}
def rdS (S : Nat → Prop) (w : World) : Rdr := fun a u => w.cell? a = some u ∧ S a.block
def WJ (J : Nat → World → Prop) (Jx : World → Prop) : Option Nat → World → Prop
  | some k, W => J k W
  | none, W => Jx W
structure IS (S : Nat → Prop) (w : World) (N l : Nat) (a : Act) (yl : List Nat) (st : St) : Prop where
  size : a.tmps.size = N
  defers : a.defers = []
  slots : SlOk (fun _ => undef) 0 (rdS S w) a st
  ob : st.ob = []
  n : st.n = 0
  yl : ∀ t ∈ yl, a.tmps.getD t undef = .func (.yield l) #[] #[]
def LiftI (S : Nat → Prop) (w : World) (N l : Nat) (J : Nat → World → Prop) (Jx : World → Prop) (K : IKs) : Exit → Act → World → Prop
  | .normal, a, W => ∃ yl st md, K .normal yl st md ∧ IS S w N l a yl st ∧ WJ J Jx md W
  | .exit id, a, W => ∃ yl st md, K (.exit id) yl st md ∧ IS S w N l a yl st ∧ WJ J Jx md W
  | .ret, a, W => ∃ yl st md, K .ret yl st md ∧ IS S w N l a yl st ∧ WJ J Jx md W
  | _, _, _ => False
def hS (S : Nat → Prop) (n : Nat) (W : World) : Hd (fun _ => True) := ⟨fun b => b < W.heap.size ∧ ¬ (S b ∧ b < n), fun _ => False, fun _ h => h.elim, fun _ _ _ _ => trivial, 0, []⟩
theorem IS.put {a : Act} {yl : List Nat} {st : St} (h : IS S w N l a yl st) {d : Nat} (hd : d < N) (hy : d ∉ yl) {x : SV} {v : Value} (hx : Cn (fun _ => undef) 0 (rdS S w) x v) : IS S w N l (a.put (some d) v) yl (st.put d x) :=
  ⟨by simp [Act.put, h.size], h.defers, h.slots.put (by rw [h.size]; exact hd) hx, h.ob, h.n, fun t ht => by
    rw [getD_put _ _ _ _ (by rw [h.size]; exact hd)]
    rw [if_neg (fun (e : d = t) => hy (e ▸ ht))]; exact h.yl t ht⟩
theorem IS.putO {a : Act} {yl : List Nat} {st : St} (h : IS S w N l a yl st) {d : Option Nat} (hd : ∀ k, d = some k → k < N) (hy : ∀ k, d = some k → k ∉ yl) {x : SV} {v : Value} (hx : Cn (fun _ => undef) 0 (rdS S w) x v) : IS S w N l (a.put d v) yl (st.putO d x) := by
  cases d with
  | none => exact h
  | some d => exact h.put (hd d rfl) (hy d rfl) hx
theorem IS.keep {a : Act} {yl : List Nat} {st : St} (h : IS S w N l a yl st) {ks : List Nat} : IS S w N l a yl (st.keep ks) := by
  refine ⟨h.size, h.defers, fun k => ?_, h.ob, h.n, h.yl⟩
  have key : ∀ ks : List Nat, Cn (fun _ => undef) 0 (rdS S w) ((lk (ks.map fun k => (k, st.get k)) k).getD .any) (a.tmps.getD k undef) := by
    intro ks
    induction ks with
    | nil => simp [lk, Cn]
    | cons j r ih =>
      simp only [List.map_cons, lk_cons]
      by_cases e : j = k
      · subst e
        simp only [if_true, Option.getD_some]
        exact h.slots j
      · simp only [e, if_false]; exact ih
  exact key ks
theorem LiftI.notOut {K : IKs} : ¬ LetsOut (LiftI S w N l J Jx K) := fun ⟨_, _, h⟩ => h
end
end Go.Ev
set_option linter.unusedVariables false
set_option linter.unusedSimpArgs false
namespace Go.Proofs.YtlghobefhmpfkaaGreatDoor
open Go Go.Ev
set_option maxRecDepth 100000
variable {G : World → Prop}
end Go.Proofs.YtlghobefhmpfkaaGreatDoor
set_option linter.unusedVariables false
set_option linter.unusedSimpArgs false
namespace Go.Proofs.YtlghobefhmpfkaaGreatDoor
open Go Go.Ev Go.Rcs
set_option maxRecDepth 100000
variable {G : World → Prop}
def markS : List UInt8 := [92, 32, 78, 111, 32, 110, 101, 119, 108, 105, 110, 101, 32, 97, 116, 32, 101, 110, 100, 32, 111, 102, 32, 102, 105, 108, 101, 10]
theorem nextL_le {L : List (List UInt8)} {k a : Nat} {s : List UInt8} (h : nextL L k = .ok (s, a)) : a = k + 1 ∧ k < L.length ∧ s = (bareS (L.getD k [])).1 := by
  unfold nextL at h
  split at h
  · split at h
    · simp only [Except.ok.injEq, Prod.mk.injEq] at h
      exact ⟨h.2.symm, by assumption, h.1.symm⟩
    · cases h
  · cases h
theorem impF (o : Option Prop) (X : Prop) : Ev.impC false o X = X := by rw [eq_iff_iff, Ev.impC_iff]; simp
theorem bare_len (l : List UInt8) : (bareS l).1.length ≤ l.length := by unfold bareS; split <;> simp
end Go.Proofs.YtlghobefhmpfkaaGreatDoor
set_option linter.unusedVariables false
set_option linter.unusedSimpArgs false
namespace Go.Proofs.YtlghobefhmpfkaaGreatDoor
open Go Go.Ev Go.Rcs
set_option maxRecDepth 100000
def bodyL (L : List (List UInt8)) : Nat → Nat → List (List UInt8) → Except Fl (List (List UInt8) × Nat)
  | 0, k, _ => .error ((k : Int) + 1, 1)
  | n + 1, k, acc => match nextL L k with
    | .error e => .error e
    | .ok (s, a) => if s = [46] then .ok (acc, a) else bodyL L n a (acc ++ [s])
abbrev Ed := List (List UInt8) × Int
def putE (T : List (List UInt8)) (p n : Nat) (l : List (List UInt8)) : Ed := (T.take p ++ l ++ T.drop (p + n), if l = [] then -1 else (p : Int) + l.length - 1)
def placeE (len : Nat) (s : List UInt8) (v : Int) : Except Int (Int × Int) :=
  if v = 97 then (if (parseS s).2 = 0 then (if (len : Int) < (parseS s).1 then .error 2 else .ok ((parseS s).1, 0)) else .error 3)
  else if (sevL s).2 = true then (if (len : Int) < (sevL s).1.1 + (sevL s).1.2 - 1 then .error 2 else .ok ((sevL s).1.1 - 1, (sevL s).1.2)) else .error 3
def bodyE (L : List (List UInt8)) (T : List (List UInt8)) (p n : Nat) (k : Nat) : Except Fl (Ed × Nat) := match bodyL L (L.length - k) k [] with
  | .error e => .error e
  | .ok (l, b) => .ok (putE T p n l, b)
def numE (L : List (List UInt8)) (T : List (List UInt8)) (s : List UInt8) (v : Int) (a : Nat) : Except Fl (Ed × Nat) :=
  if v = 97 ∨ v = 99 ∨ v = 100 then match placeE T.length s v with
    | .error e => .error ((a : Int), e)
    | .ok (p, n) => if v = 100 then .ok (putE T p.toNat n.toNat [], a) else bodyE L T p.toNat n.toNat a
  else .error ((a : Int), 3)
def stripS : List UInt8 := [115, 47, 46, 47, 47]
def cmdE (L : List (List UInt8)) (x : Ed) (k : Nat) : Except Fl (Ed × Nat) := match nextL L k with
  | .error e => .error e
  | .ok (s, a) =>
    if s = [] then .error ((a : Int), 3)
    else if s = [97] then (if x.2 = -1 then .error ((a : Int), 130) else bodyE L x.1 (x.2 + 1).toNat 0 a)
    else if s = stripS then (if x.2 = -1 ∨ x.1.getD x.2.toNat [] = [] then .error ((a : Int), 130) else .ok ((x.1.set x.2.toNat ((x.1.getD x.2.toNat []).drop 1), x.2), a))
    else numE L x.1 (s.take (s.length - 1)) ((s.getD (s.length - 1) 0).toNat : Int) a
def runE (L : List (List UInt8)) : Nat → Ed → Nat → Except Fl (List (List UInt8) × Bool)
  | 0, x, _ => .ok (x.1, false)
  | n + 1, x, k => if k < L.length then
      (if L.getD k [] = markS then (if k + 1 = L.length then .ok (x.1, true) else .error ((k : Int) + 2, 7))
       else match cmdE L x k with
        | .error e => .error e
        | .ok (y, a) => runE L n y a)
    else .ok (x.1, false)
def fedT (T : List (List UInt8)) (j : Nat) : List (List UInt8) := (T.take j).map (· ++ [10]) ++ T.drop j
def fedM (T : List (List UInt8)) (c : Bool) : Nat := if c = true then T.length - 1 else T.length
def fedE (x : List (List UInt8) × Bool) : List (List UInt8) := fedT x.1 (fedM x.1 x.2)
def bareT (a : List (List UInt8)) : List (List UInt8) := a.map fun s => (bareS s).1
def edN (s : List UInt8) (a : List (List UInt8)) : Except Fl (List (List UInt8)) :=
  if 1048576 < s.length then .error (0, 9) else (runE (lns s) ((lns s).length + 1) (bareT a, -1) 0).map fedE
def okE (x : Ed) : Prop := x.2 = -1 ∨ (0 ≤ x.2 ∧ x.2 < x.1.length)
theorem bodyL_le {L : List (List UInt8)} : ∀ {n k : Nat} {acc l : List (List UInt8)} {b : Nat}, bodyL L n k acc = .ok (l, b) → k < b ∧ b ≤ L.length ∧ l.length + k + 1 ≤ acc.length + b
  | 0, k, acc, l, b, h => by cases h
  | n + 1, k, acc, l, b, h => by
    rw [bodyL] at h
    cases hx : nextL L k with
    | error e => rw [hx] at h; cases h
    | ok y =>
      obtain ⟨s, a⟩ := y
      rw [hx] at h; dsimp only at h
      obtain ⟨rfl, hlt, _⟩ := nextL_le hx
      split at h
      · simp only [Except.ok.injEq, Prod.mk.injEq] at h
        obtain ⟨rfl, rfl⟩ := h
        omega
      · have := bodyL_le h
        rw [List.length_append, List.length_singleton] at this
        omega
theorem bodyL_sz {L : List (List UInt8)} {m : Nat} (hL : ∀ x ∈ L, x.length ≤ m) : ∀ {n k : Nat} {acc l : List (List UInt8)} {b : Nat}, bodyL L n k acc = .ok (l, b) → (∀ x ∈ acc, x.length ≤ m) → ∀ x ∈ l, x.length ≤ m
  | 0, k, acc, l, b, h, _ => by cases h
  | n + 1, k, acc, l, b, h, ha => by
    rw [bodyL] at h
    cases hx : nextL L k with
    | error e => rw [hx] at h; cases h
    | ok y =>
      obtain ⟨s, a⟩ := y
      rw [hx] at h; dsimp only at h
      obtain ⟨rfl, hlt, hs⟩ := nextL_le hx
      split at h
      · simp only [Except.ok.injEq, Prod.mk.injEq] at h
        obtain ⟨rfl, rfl⟩ := h
        exact ha
      · refine bodyL_sz hL h fun x hx2 => ?_
        rcases List.mem_append.1 hx2 with h2 | h2
        · exact ha x h2
        · rw [List.mem_singleton.1 h2, hs]
          exact Nat.le_trans (bare_len _) (hL _ (getD_in hlt))
theorem sevL_le {s : List UInt8} (h : (sevL s).2 = true) : 1 ≤ (sevL s).1.1 ∧ (sevL s).1.1 ≤ 2147483647 ∧ 1 ≤ (sevL s).1.2 ∧ (sevL s).1.2 ≤ 2147483647 := by
  unfold sevL at h ⊢
  cases hc : cutK 44 s with
  | none =>
    rw [hc] at h
    have b := parseS_bd s
    simp only [decide_eq_true_eq] at h
    dsimp only
    omega
  | some pq =>
    rw [hc] at h
    obtain ⟨p, q⟩ := pq
    have b1 := parseS_bd p
    have b2 := parseS_bd q
    simp only [decide_eq_true_eq] at h
    dsimp only
    omega
theorem placeE_le {len : Nat} {s : List UInt8} {v : Int} {p n : Int} (h : placeE len s v = .ok (p, n)) : 0 ≤ p ∧ 0 ≤ n ∧ p + n ≤ len := by
  unfold placeE at h
  repeat' split at h
  all_goals simp only [Except.ok.injEq, Prod.mk.injEq, reduceCtorEq] at h
  · obtain ⟨rfl, rfl⟩ := h
    have b := parseS_bd s
    omega
  · obtain ⟨rfl, rfl⟩ := h
    rename_i h1 h2 h3
    have b := sevL_le h2
    omega
theorem putE_ok (T : List (List UInt8)) (p n : Nat) (l : List (List UInt8)) (h : p + n ≤ T.length) : okE (putE T p n l) ∧ (putE T p n l).1.length = T.length - n + l.length := by
  have e : (putE T p n l).1.length = T.length - n + l.length := by
    simp only [putE, List.length_append, List.length_take, List.length_drop]; omega
  refine ⟨?_, e⟩
  unfold okE
  rw [e]
  unfold putE
  by_cases hl : l = []
  · simp [hl]
  · have : 0 < l.length := List.length_pos_iff.2 hl
    simp only [hl, if_false]
    right; omega
theorem putE_sz {m : Nat} {T l : List (List UInt8)} {p n : Nat} (hT : ∀ x ∈ T, x.length ≤ m) (hl : ∀ x ∈ l, x.length ≤ m) : ∀ x ∈ (putE T p n l).1, x.length ≤ m := by
  intro x hx
  simp only [putE, List.mem_append] at hx
  rcases hx with (h | h) | h
  · exact hT x (List.mem_of_mem_take h)
  · exact hl x h
  · exact hT x (List.mem_of_mem_drop h)
theorem bodyE_le {L T : List (List UInt8)} {p n k b : Nat} {y : Ed} (h : bodyE L T p n k = .ok (y, b)) (hp : p + n ≤ T.length) : okE y ∧ k < b ∧ b ≤ L.length ∧ y.1.length + k ≤ T.length + b := by
  unfold bodyE at h
  cases hb : bodyL L (L.length - k) k [] with
  | error e => rw [hb] at h; cases h
  | ok z =>
    obtain ⟨l, c⟩ := z
    rw [hb] at h
    simp only [Except.ok.injEq, Prod.mk.injEq] at h
    obtain ⟨rfl, rfl⟩ := h
    have h1 := bodyL_le hb
    obtain ⟨h2, h3⟩ := putE_ok T p n l hp
    simp at h1
    exact ⟨h2, by omega, by omega, by omega⟩
theorem bodyE_sz {L T : List (List UInt8)} {m : Nat} (hL : ∀ x ∈ L, x.length ≤ m) (hT : ∀ x ∈ T, x.length ≤ m) {p n k b : Nat} {y : Ed} (h : bodyE L T p n k = .ok (y, b)) : ∀ x ∈ y.1, x.length ≤ m := by
  unfold bodyE at h
  cases hb : bodyL L (L.length - k) k [] with
  | error e => rw [hb] at h; cases h
  | ok z =>
    obtain ⟨l, c⟩ := z
    rw [hb] at h
    simp only [Except.ok.injEq, Prod.mk.injEq] at h
    obtain ⟨rfl, rfl⟩ := h
    exact putE_sz hT (bodyL_sz hL hb (by simp))
theorem cmdE_le {L : List (List UInt8)} {x y : Ed} {k a : Nat} (h : cmdE L x k = .ok (y, a)) (hx : okE x) : okE y ∧ k < a ∧ a ≤ L.length ∧ y.1.length + k ≤ x.1.length + a := by
  unfold cmdE at h
  cases hn : nextL L k with
  | error e => rw [hn] at h; cases h
  | ok z =>
    obtain ⟨s, b⟩ := z
    rw [hn] at h; dsimp only at h
    obtain ⟨rfl, hlt, _⟩ := nextL_le hn
    by_cases h1 : s = []
    · rw [if_pos h1] at h; cases h
    rw [if_neg h1] at h
    by_cases h2 : s = [97]
    · rw [if_pos h2] at h
      by_cases h3 : x.2 = -1
      · rw [if_pos h3] at h; cases h
      · rw [if_neg h3] at h
        have := hx.resolve_left h3
        have := bodyE_le h (by omega)
        exact ⟨this.1, by omega, by omega, by omega⟩
    rw [if_neg h2] at h
    by_cases h3 : s = stripS
    · rw [if_pos h3] at h
      split at h
      · cases h
      · simp only [Except.ok.injEq, Prod.mk.injEq] at h
        obtain ⟨rfl, rfl⟩ := h
        refine ⟨?_, by omega, by omega, by simp only [List.length_set]; omega⟩
        unfold okE at hx ⊢
        simpa using hx
    rw [if_neg h3] at h
    unfold numE at h
    split at h
    · cases hp : placeE x.1.length (s.take (s.length - 1)) ((s.getD (s.length - 1) 0).toNat : Int) with
      | error e => rw [hp] at h; cases h
      | ok z =>
        obtain ⟨p, n⟩ := z
        rw [hp] at h; dsimp only at h
        have hle := placeE_le hp
        split at h
        · simp only [Except.ok.injEq, Prod.mk.injEq] at h
          obtain ⟨rfl, rfl⟩ := h
          obtain ⟨h5, h6⟩ := putE_ok x.1 p.toNat n.toNat [] (by omega)
          refine ⟨h5, by omega, by omega, ?_⟩
          rw [h6]; simp; omega
        · have := bodyE_le h (by omega)
          exact ⟨this.1, by omega, by omega, by omega⟩
    · cases h
theorem cmdE_sz {L : List (List UInt8)} {m : Nat} (hL : ∀ x ∈ L, x.length ≤ m) {x y : Ed} {k a : Nat} (h : cmdE L x k = .ok (y, a)) (hT : ∀ z ∈ x.1, z.length ≤ m) : ∀ z ∈ y.1, z.length ≤ m := by
  unfold cmdE at h
  cases hn : nextL L k with
  | error e => rw [hn] at h; cases h
  | ok z =>
    obtain ⟨s, b⟩ := z
    rw [hn] at h; dsimp only at h
    by_cases h1 : s = []
    · rw [if_pos h1] at h; cases h
    rw [if_neg h1] at h
    by_cases h2 : s = [97]
    · rw [if_pos h2] at h
      split at h
      · cases h
      · exact bodyE_sz hL hT h
    rw [if_neg h2] at h
    by_cases h3 : s = stripS
    · rw [if_pos h3] at h
      split at h
      · cases h
      · simp only [Except.ok.injEq, Prod.mk.injEq] at h
        obtain ⟨rfl, rfl⟩ := h
        intro z hz
        rcases List.mem_or_eq_of_mem_set hz with h4 | h4
        · exact hT z h4
        · rw [h4, List.length_drop]
          by_cases h5 : x.2.toNat < x.1.length
          · have := hT _ (getD_in h5); omega
          · rw [List.getD_eq_getElem?_getD, List.getElem?_eq_none (by omega)]; simp
    rw [if_neg h3] at h
    unfold numE at h
    split at h
    · cases hp : placeE x.1.length (s.take (s.length - 1)) ((s.getD (s.length - 1) 0).toNat : Int) with
      | error e => rw [hp] at h; cases h
      | ok z =>
        obtain ⟨p, n⟩ := z
        rw [hp] at h; dsimp only at h
        split at h
        · simp only [Except.ok.injEq, Prod.mk.injEq] at h
          obtain ⟨rfl, rfl⟩ := h
          exact putE_sz hT (by simp)
        · exact bodyE_sz hL hT h
    · cases h
end Go.Proofs.YtlghobefhmpfkaaGreatDoor
set_option linter.unusedVariables false
set_option linter.unusedSimpArgs false
namespace Go.Proofs.YtlghobefhmpfkaaGreatDoor
open Go Go.Ev Go.Rcs
set_option maxRecDepth 100000
variable {G : World → Prop}
end Go.Proofs.YtlghobefhmpfkaaGreatDoor
set_option linter.unusedVariables false
set_option linter.unusedSimpArgs false
namespace Go.Proofs.YtlghobefhmpfkaaGreatDoor
open Go Go.Ev Go.Rcs
set_option maxRecDepth 100000
variable {G : World → Prop}
theorem nx_next_ok {L : List (List UInt8)} {k a : Nat} {s : List UInt8} (fa : Int) (h : nextL L k = .ok (s, a)) : nxC L k fa 0 = (s, (k : Int) + 1, fa, 0) := by
  unfold nextL at h
  split at h
  · rename_i h1
    split at h
    · rename_i h2
      simp only [Except.ok.injEq, Prod.mk.injEq] at h
      rw [nxC, if_pos rfl, if_neg (by omega), Int.toNat_natCast, if_pos h2, h.1]
    · cases h
  · cases h
theorem nx_next_err {L : List (List UInt8)} {k : Nat} {a e : Int} (fa : Int) (h : nextL L k = .error (a, e)) : nxC L k fa 0 = ([], (k : Int) + 1, (k : Int) + 1, e) ∧ a = (k : Int) + 1 ∧ ¬ e = 0 := by
  unfold nextL at h
  split at h
  · rename_i h1
    split at h
    · cases h
    · rename_i h2
      simp only [Except.error.injEq, Prod.mk.injEq] at h
      obtain ⟨rfl, rfl⟩ := h
      rw [nxC, if_pos rfl, if_neg (by omega), Int.toNat_natCast, if_neg h2]
      exact ⟨rfl, rfl, by decide⟩
  · rename_i h1
    simp only [Except.error.injEq, Prod.mk.injEq] at h
    obtain ⟨rfl, rfl⟩ := h
    rw [nxC, if_pos rfl, if_pos (by omega)]
    exact ⟨rfl, rfl, by decide⟩
end Go.Proofs.YtlghobefhmpfkaaGreatDoor
