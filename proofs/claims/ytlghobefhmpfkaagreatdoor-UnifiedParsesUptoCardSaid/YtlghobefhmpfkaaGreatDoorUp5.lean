/- UnifiedParses: any text is read as patches, or refused with line and reason Part 5 of 7. -/
import Derived.Test.YtlghobefhmpfkaaGreatDoorProg
import Derived.Lib.IndexLaws
import Derived.Lib.IndexMore
import Derived.Shelf.Strings.Builder1
import Derived.Shelf.Small.Utf8
import Derived.Shelf.Small.Strs
import Derived.Shelf.Strings.BuilderF
import Derived.Shelf.Utf8.RuneCount
import Derived.Shelf.Strconv.Atoi
import Derived.Shelf.Strconv.Itoa0
import Derived.Shelf.Strconv.Itoa1
import Derived.Shelf.LaysM
import Derived.Shelf.Strconv.Itoa2
import Derived.Shelf.Strconv.Itoa3
import Derived.Shelf.Strconv.AtoiErrFast
import Derived.Shelf.Strconv.ParseIntEmpty
import Derived.Shelf.Strconv.AtoiFail
import Derived.Shelf.Strconv.Clone
import Derived.Shelf.Strconv.SyntaxError
import Derived.Shelf.LaysC
import Derived.Shelf.Strconv.ToError
import Derived.Shelf.Strconv.Lower
import Derived.Shelf.Strconv.ParseUint10
import Derived.Shelf.Strconv.ParseUint10Empty
import Derived.Shelf.Strconv.ParseUint10Any
import Derived.Shelf.Strconv.ParseInt10
import Derived.Shelf.Strconv.AtoiLong
import Derived.Shelf.Strconv.AtoiInnerAll
import Derived.Shelf.Strconv.RangeError
import Derived.Shelf.Strconv.ToErrorRange
import Derived.Shelf.Strconv.AtoiAll
import Derived.Shelf.Strconv.ErrVarAll
import Derived.Shelf.Strings.Search1
import Derived.Shelf.Strings.Search2
import Derived.Shelf.Strings.Search3
import Derived.Shelf.Strings.Cut
import Derived.Shelf.Strings.Count
import Derived.Shelf.Strings.Shaped
import Derived.Shelf.Strings.Prefix
import Derived.Shelf.Strings.Split
import Derived.Shelf.Unicode.Decode
import Derived.Shelf.Strings.Runes
import Derived.Shelf.Strings.RuneCount
import Derived.Shelf.Strings.IndexAny
import Derived.Shelf.Strings.AsciiSet
import Derived.Shelf.Strings.IndexAnyAll
import Derived.Shelf.Strings.Explode
import Derived.Shelf.Unicode.DecodeSlow
import Derived.Shelf.Unicode.DecodeAny
import Derived.Laws.RangeAny
import Derived.Test.YtlghobefhmpfkaaGreatDoorUp1
import Derived.Test.YtlghobefhmpfkaaGreatDoorUp2
import Derived.Test.YtlghobefhmpfkaaGreatDoorUp3
import Derived.Test.YtlghobefhmpfkaaGreatDoorUp4
set_option linter.unusedSimpArgs false
set_option linter.unusedVariables false
namespace Go.Proofs.YtlghobefhmpfkaaGreatDoor
open Go Go.Ev
set_option maxRecDepth 100000
def A10 : Ann := ⟨fun r i => if r = 3 ∧ i = 7 then 1 else 0, fun r => if r = 3 then some [(0, true, []), (2, true, []), (1, false, []), (3, true, []), (4, true, []), (5, true, []), (6, true, []), (7, false, []), (8, true, []), (9, true, [])] else none, fun r => if r = 1 then some (false, [0]) else if r = 2 then some (false, [0, 3, 4]) else if r = 3 then some (false, [3, 4, 5, 6]) else if r = 6 then some (false, [3, 7]) else if r = 7 then some (false, [3, 7]) else if r = 8 then some (false, [3, 7]) else if r = 11 then some (false, [3, 7, 8]) else if r = 12 then some (false, [3, 7, 8]) else if r = 13 then some (false, [3, 7, 8]) else none, fun r => if r = 6 then [3, 7] else if r = 11 then [3, 7, 8] else []⟩
def S10 : SCode :=
 (.seq (.ops [⟨none, (some 2), .mv 2 (.k (Value.bool false)), false⟩])
 (.seq (.seq (.keep [0]) (.ops [⟨none, (some 10), .mv 10 (.s 0), false⟩,
   ⟨none, (some 11), .call (some 11) 24 false [(.s 10)], false⟩,
   ⟨none, (some 9), .mv 9 (.s 11), false⟩,
   ⟨none, (some 12), .ex 12 (.s 9) 0, false⟩,
   ⟨none, (some 13), .ex 13 (.s 9) 1, false⟩,
   ⟨none, (some 3), .mv 3 (.s 12), false⟩,
   ⟨none, (some 4), .mv 4 (.s 13), false⟩]))
 (.seq (.seq (.keep [0, 3, 4]) (.ops [⟨none, (some 15), .mv 15 (.s 0), false⟩,
   ⟨none, (some 16), .call (some 16) 32 false [(.s 15)], false⟩,
   ⟨none, (some 14), .mv 14 (.s 16), false⟩,
   ⟨none, (some 17), .ex 17 (.s 14) 0, false⟩,
   ⟨none, (some 18), .ex 18 (.s 14) 1, false⟩,
   ⟨none, (some 6), .al 6 29 [(Value.int .i64 0), (Value.int .i64 0)], false⟩,
   ⟨none, (some 5), .mv 5 (.s 17), false⟩,
   ⟨none, none, .st true 2 (.s 6) (.s 18), false⟩]))
 (.seq (.seq (.seq (.keep [3, 4, 5, 6]) (.dr [([], true, ⟨none, (some 19), .mv 19 (.s 4), false⟩),
   ([], true, ⟨none, (some 21), .ld 21 true 2 (.s 6), false⟩),
   ([], false, ⟨none, (some 20), .call (some 20) 13 false [(.s 19)], false⟩),
   ([], true, ⟨none, (some 22), .eqa 22 true [0, 0] (.s 20) (.s 21), false⟩),
   ([], true, ⟨none, (some 23), .mv 23 (.s 22), false⟩),
   ([], true, ⟨(some (23, false)), (some 24), .mv 24 (.s 3), false⟩),
   ([], true, ⟨(some (23, false)), (some 25), .mv 25 (.s 5), false⟩),
   ([], false, ⟨(some (23, false)), (some 26), .call (some 26) 26 true [(.s 24), (.s 25)], false⟩),
   ([], true, ⟨(some (23, false)), (some 27), .not 27 (.s 26), false⟩),
   ([], true, ⟨none, (some 28), .pk 28 (.s 23) (.k (Value.bool true)) (.s 27), true⟩)]))
 (.cond (.s 28) (.seq (.ops [⟨none, (some 2), .mv 2 (.k (Value.bool false)), false⟩])
 .ret) .skip))
 (.seq (.seq (.ops [⟨none, (some 7), .mv 7 (.k (Value.int .i64 0)), false⟩])
 (.block 0 (.loop [3, 7] (.seq (.seq (.seq (.keep [3, 7]) (.ops [⟨none, (some 29), .mv 29 (.s 7), false⟩,
   ⟨none, (some 30), .mv 30 (.s 3), false⟩,
   ⟨none, (some 31), .len 31 (.s 30), false⟩,
   ⟨none, (some 32), .bin 32 .lss (.s 29) (.s 31), false⟩]))
 (.cond (.s 32) .skip (.exit 0)))
 (.seq (.block 1 (.seq (.seq (.seq (.keep [3, 7]) (.ops [⟨none, (some 35), .mv 35 (.s 3), false⟩,
   ⟨none, (some 36), .mv 36 (.s 7), false⟩,
   ⟨none, (some 37), .ia 37 3 (.s 35) (.s 36), false⟩,
   ⟨none, (some 38), .fa 38 2 (.s 37), false⟩,
   ⟨none, (some 39), .ld 39 false 1 (.s 38), false⟩,
   ⟨none, (some 40), .len 40 (.s 39), false⟩,
   ⟨none, (some 41), .bin 41 .eql (.s 40) (.k (Value.int .i64 0)), false⟩]))
 (.cond (.s 41) (.seq (.ops [⟨none, (some 2), .mv 2 (.k (Value.bool false)), false⟩])
 .ret) .skip))
 (.seq (.ops [⟨none, (some 8), .mv 8 (.k (Value.int .i64 0)), false⟩])
 (.block 2 (.loop [3, 7, 8] (.seq (.seq (.seq (.keep [3, 7, 8]) (.ops [⟨none, (some 42), .mv 42 (.s 8), false⟩,
   ⟨none, (some 43), .mv 43 (.s 3), false⟩,
   ⟨none, (some 44), .mv 44 (.s 7), false⟩,
   ⟨none, (some 45), .ia 45 3 (.s 43) (.s 44), false⟩,
   ⟨none, (some 46), .fa 46 2 (.s 45), false⟩,
   ⟨none, (some 47), .ld 47 false 1 (.s 46), false⟩,
   ⟨none, (some 48), .len 48 (.s 47), false⟩,
   ⟨none, (some 49), .bin 49 .lss (.s 42) (.s 48), false⟩]))
 (.cond (.s 49) .skip (.exit 2)))
 (.seq (.block 3 (.seq (.seq (.keep [3, 7, 8]) (.ops [⟨none, (some 52), .mv 52 (.s 3), false⟩,
   ⟨none, (some 53), .mv 53 (.s 7), false⟩,
   ⟨none, (some 54), .ia 54 3 (.s 52) (.s 53), false⟩,
   ⟨none, (some 55), .fa 55 2 (.s 54), false⟩,
   ⟨none, (some 56), .ld 56 false 1 (.s 55), false⟩,
   ⟨none, (some 57), .mv 57 (.s 8), false⟩,
   ⟨none, (some 58), .ia 58 5 (.s 56) (.s 57), false⟩,
   ⟨none, (some 59), .ld 59 true 5 (.s 58), false⟩,
   ⟨none, (some 60), .call (some 60) 22 false [(.s 59)], false⟩,
   ⟨none, (some 61), .bin 61 .neq (.s 60) (.k (Value.int .i64 0)), true⟩]))
 (.cond (.s 61) (.seq (.ops [⟨none, (some 2), .mv 2 (.k (Value.bool false)), false⟩])
 .ret) .skip)))
 (.seq (.keep [3, 7, 8]) (.ops [⟨none, (some 50), .mv 50 (.s 8), false⟩,
   ⟨none, (some 51), .binc 51 .add (.s 50) (.k (Value.int .i64 1)), false⟩,
   ⟨none, (some 8), .mv 8 (.s 51), false⟩])))))))))
 (.seq (.keep [3, 7]) (.ops [⟨none, (some 33), .mv 33 (.s 7), false⟩,
   ⟨none, (some 34), .binc 34 .add (.s 33) (.k (Value.int .i64 1)), false⟩,
   ⟨none, (some 7), .mv 7 (.s 34), false⟩])))))))
 (.seq (.ops [⟨none, (some 2), .mv 2 (.k (Value.bool true)), false⟩])
 .ret))))))
def R10 : List RR := [.sl 2]
theorem sd10 : SdT Tryz.prog 10 62 S10 R10 := fun hT hl hC hit => sdX (F := Tryz.f10) (A := A10) mo (by kernel_rfl) (by kernel_rfl) (by kernel_rfl) (by kernel_rfl) hT hl hC hit
def A24 : Ann := ⟨fun r i => if r = 0 ∧ i = 0 then 57 else 0, fun r => if r = 6 then some [(1, true, []), (2, true, []), (3, true, []), (0, true, [3]), (4, false, [3]), (5, false, []), (6, false, [0, 1, 2, 3, 4, 5, 6, 7, 8, 9, 10, 11, 12, 13, 14, 15]), (7, false, [0, 1, 2, 3, 4, 5, 6, 7, 8, 9, 10, 11, 12, 13, 14, 15])] else none, fun r => if r = 1 then some (false, [0, 2, 3]) else if r = 2 then some (false, [2, 3]) else if r = 4 then some (false, [0, 2, 3]) else if r = 6 then some (false, [2, 3, 4]) else if r = 7 then some (false, [2, 3]) else none, fun r => if r = 5 then [2, 3, 4] else []⟩
def S24 : SCode :=
 (.seq (.seq (.keep [0, 2, 3]) (.ops [⟨none, (some 13), .mv 13 (.s 0), false⟩,
   ⟨none, (some 14), .call (some 14) 34 false [(.s 13)], false⟩,
   ⟨none, (some 15), .bd 15 [(Value.slice none 0 0), (Value.int .i64 0)] [(0, 1, (.s 14))], false⟩,
   ⟨none, (some 16), .bx 16 112 2 (.s 15), false⟩,
   ⟨none, (some 4), .mv 4 (.s 16), false⟩]))
 (.seq (.block 0 (.loop [2, 3, 4] (.seq (.seq (.ops [⟨none, (some 17), .mv 17 (.s 4), false⟩,
   ⟨none, (some 18), .call (some 18) 65 false [(.s 17)], false⟩])
 (.cond (.s 18) .skip (.exit 0)))
 (.block 1 (.seq (.keep [2, 3, 4]) (.dr [([], true, ⟨none, (some 20), .mv 20 (.s 4), false⟩),
   ([], true, ⟨none, (some 21), .ld 21 false 1 (.s 2), false⟩),
   ([], true, ⟨none, (some 22), .len 22 (.s 21), false⟩),
   ([3], true, ⟨none, (some 19), .ld 19 false 1 (.s 2), false⟩),
   ([3], false, ⟨none, (some 23), .call (some 23) 66 false [(.s 20), (.s 22)], false⟩),
   ([], false, ⟨none, (some 24), .bs 24 55 3 [(.s 23)], false⟩),
   ([0, 1, 2, 3, 4, 5, 6, 7, 8, 9, 10, 11, 12, 13, 14, 15], false, ⟨none, (some 25), .ap 25 55 3 56 (.s 19) (.s 24), false⟩),
   ([0, 1, 2, 3, 4, 5, 6, 7, 8, 9, 10, 11, 12, 13, 14, 15], false, ⟨none, none, .st false 1 (.s 2) (.s 25), false⟩)]))))))
 (.seq (.seq (.keep [2, 3]) (.ops [⟨none, (some 26), .ld 26 false 1 (.s 2), false⟩,
   ⟨none, none, .st false 1 (.s 2) (.s 26), false⟩,
   ⟨none, none, .st false 1 (.s 3) (.k Value.nilIface), false⟩]))
 .ret)))
def SP24 : List SCode := [(.ops [⟨none, (some 2), .aln 2 49 [(Value.slice none 0 0)] 0 55 3, false⟩,
   ⟨none, (some 3), .al 3 24 [Value.nilIface], false⟩]),
 (.seq (.seq (.keep [0, 2, 3]) (.ops [⟨none, (some 5), .mv 5 (.s 0), false⟩,
   ⟨none, (some 6), .lens 6 (.s 5), false⟩,
   ⟨none, (some 7), .bin 7 .gtr (.s 6) (.k (Value.int .i64 1048576)), false⟩]))
 (.cond (.s 7) (.seq (.seq (.keep [2, 3]) (.ops [⟨none, (some 8), .mi 8 27 (.k (Value.int .i64 9)), false⟩,
   ⟨none, (some 9), .bd 9 [(Value.int .i64 0), Value.nilIface] [(1, 1, (.s 8))], false⟩,
   ⟨none, (some 10), .bx 10 83 2 (.s 9), false⟩,
   ⟨none, (some 11), .mi 11 79 (.s 10), false⟩,
   ⟨none, none, .st false 1 (.s 2) (.k (Value.slice none 0 0)), false⟩,
   ⟨none, none, .st false 1 (.s 3) (.s 11), false⟩]))
 .ret) .skip))]
theorem cc24 : (Tryz.f24.body).bind (ccD Tryz.prog Tryz.f24.ntmps A24) = some (SP24, S24, 12, 64, [(.s 2), (.s 3)]) := by kernel_rfl
def R24 : List RR := [.ce 2 false 1, .ce 3 false 1]
theorem cr24 : Tryz.f24.results.toList.map (crr Tryz.prog) = R24.map some := by kernel_rfl
theorem nm24 : (Tryz.f24.name == "runtime.NumGoroutine") = false := by kernel_rfl
theorem fn24 : Tryz.prog.funcs[24]? = some Tryz.f24 := by kernel_rfl
theorem bd24 : ∃ b, Tryz.f24.body = some b ∧ ccD Tryz.prog Tryz.f24.ntmps A24 b = some (SP24, S24, 12, 64, [(.s 2), (.s 3)]) := Option.bind_eq_some_iff.1 cc24
theorem sd24 {G : World → Prop} {T : FuncId → Contract} {D : DCon} {C : Contract} (hT : ∀ f, Sound G Tryz.prog f (T f)) (hD : SoundD G Tryz.prog 64 D) (hl : C.lawful) (hC : ∀ args st K, C.wp args st K → args.length ≤ 27 ∧ ∃ os, xvs T st.n (endK R24 st.n os K) SP24 (fun st1 => xv T st1.n S24 (st1.put 12 (.fn 64 (([(.s 2), (.s 3)] : List Rv).map fun x => x.get st1))) (defE D R24 st.n os K (([(.s 2), (.s 3)] : List Rv).map fun x => x.get st1)) (fun x s => defK D R24 st.n os K (some x) (([(.s 2), (.s 3)] : List Rv).map fun x => x.get st1) s)) (st0 args st)) (hit : SoundIt G Tryz.prog 24 C.it := by exact SoundIt.none) : Sound G Tryz.prog 24 C := by
 obtain ⟨b, hb, hc⟩ := bd24
 rw [xvs_eq, xv_eq] at hC
 exact sound_of_ccD mo fn24 hb nm24 hc cr24 hT hD hl hit hC
def A66 : Ann := ⟨fun r i => if r = 5 ∧ i = 18 then 1 else 0, fun r => if r = 6 then some [(0, true, [0]), (2, true, []), (3, true, []), (4, true, []), (5, true, []), (1, true, [0]), (6, false, [0]), (7, false, []), (8, false, [0, 1, 2, 3, 4, 5, 6, 7, 8, 9, 10, 11, 12, 13, 14, 15]), (9, true, []), (10, false, [0, 1, 2, 3, 4, 5, 6, 7, 8, 9, 10, 11, 12, 13, 14, 15])] else if r = 5 then some [(0, true, []), (1, true, []), (2, true, []), (3, true, []), (4, true, []), (5, true, []), (6, false, [0, 1, 2, 3, 4, 5, 6, 7, 8, 9, 10, 11, 12, 13, 14, 15]), (7, true, []), (8, true, []), (9, true, []), (10, true, []), (12, true, []), (13, true, []), (14, true, []), (11, true, []), (15, true, []), (16, true, []), (17, true, []), (18, false, [0, 1, 2, 3, 4, 5, 6, 7, 8, 9, 10, 11, 12, 13, 14, 15]), (19, true, []), (20, true, [])] else none, fun r => if r = 1 then some (false, [0, 1, 4]) else if r = 3 then some (false, [0, 4, 5]) else if r = 4 then some (false, [0, 4, 5]) else if r = 5 then some (false, [0, 4, 5]) else if r = 6 then some (false, [0, 4, 5]) else none, fun r => if r = 5 then [0, 4, 5] else []⟩
def S66 : SCode :=
 (.seq (.ops [⟨none, (some 4), .al 4 55 [(Value.string ⟨#[]⟩), (Value.string ⟨#[]⟩), (Value.slice none 0 0)], false⟩])
 (.seq (.seq (.keep [0, 1, 4]) (.ops [⟨none, (some 6), .mv 6 (.s 0), false⟩,
   ⟨none, (some 7), .call (some 7) 119 false [(.s 6), (.k (Value.string ⟨#[45, 45, 45, 32]⟩))], false⟩,
   ⟨none, (some 8), .bd 8 [(Value.string ⟨#[]⟩), (Value.string ⟨#[]⟩), (Value.slice none 0 0)] [(0, 1, (.s 7))], false⟩,
   ⟨none, (some 5), .al 5 55 [(Value.string ⟨#[]⟩), (Value.string ⟨#[]⟩), (Value.slice none 0 0)], false⟩,
   ⟨none, none, .st true 3 (.s 5) (.s 8), false⟩]))
 (.seq (.seq (.ops [⟨none, (some 9), .mv 9 (.s 1), false⟩,
   ⟨none, (some 10), .bin 10 .geq (.s 9) (.k (Value.int .i64 64)), false⟩])
 (.cond (.s 10) (.seq (.keep [0, 4, 5]) (.ops [⟨none, (some 11), .mv 11 (.s 0), false⟩,
   ⟨none, (some 12), .mv 12 (.s 0), false⟩,
   ⟨none, (some 13), .nc 13 (.s 12), false⟩,
   ⟨none, (some 14), .fa 14 1 (.s 13), false⟩,
   ⟨none, (some 15), .ld 15 false 1 (.s 14), false⟩,
   ⟨none, (some 16), .call (some 16) 120 false [(.s 11), (.s 15), (.k (Value.int .i64 9))], false⟩])) .skip))
 (.seq (.seq (.keep [0, 4, 5]) (.ops [⟨none, (some 17), .mv 17 (.s 0), false⟩,
   ⟨none, (some 18), .call (some 18) 119 false [(.s 17), (.k (Value.string ⟨#[43, 43, 43, 32]⟩))], false⟩,
   ⟨none, (some 19), .fa 19 1 (.s 5), false⟩,
   ⟨none, none, .st false 1 (.s 19) (.s 18), false⟩]))
 (.seq (.block 0 (.loop [0, 4, 5] (.seq (.seq (.seq (.keep [0, 4, 5]) (.dr [([], true, ⟨none, (some 20), .fa 20 2 (.s 5), false⟩),
   ([], true, ⟨none, (some 21), .ld 21 false 1 (.s 20), false⟩),
   ([], true, ⟨none, (some 22), .len 22 (.s 21), false⟩),
   ([], true, ⟨none, (some 23), .bin 23 .eql (.s 22) (.k (Value.int .i64 0)), false⟩),
   ([], true, ⟨none, (some 24), .mv 24 (.s 23), false⟩),
   ([], true, ⟨(some (24, false)), (some 25), .mv 25 (.s 0), false⟩),
   ([0, 1, 2, 3, 4, 5, 6, 7, 8, 9, 10, 11, 12, 13, 14, 15], false, ⟨(some (24, false)), (some 26), .call (some 26) 65 false [(.s 25)], false⟩),
   ([], true, ⟨(some (24, false)), (some 27), .mv 27 (.s 26), false⟩),
   ([], true, ⟨(some (27, true)), (some 28), .mv 28 (.s 0), false⟩),
   ([], true, ⟨(some (27, true)), (some 29), .nc 29 (.s 28), true⟩),
   ([], true, ⟨(some (27, true)), (some 30), .fa 30 0 (.s 29), false⟩),
   ([], true, ⟨(some (27, true)), (some 32), .mv 32 (.s 0), false⟩),
   ([], true, ⟨(some (27, true)), (some 33), .nc 33 (.s 32), false⟩),
   ([], true, ⟨(some (27, true)), (some 34), .fa 34 1 (.s 33), false⟩),
   ([], true, ⟨(some (27, true)), (some 31), .ld 31 false 1 (.s 30), false⟩),
   ([], true, ⟨(some (27, true)), (some 35), .ld 35 false 1 (.s 34), false⟩),
   ([], true, ⟨(some (27, true)), (some 36), .ia 36 1 (.s 31) (.s 35), false⟩),
   ([], true, ⟨(some (27, true)), (some 37), .ld 37 false 1 (.s 36), false⟩),
   ([0, 1, 2, 3, 4, 5, 6, 7, 8, 9, 10, 11, 12, 13, 14, 15], false, ⟨(some (27, true)), (some 38), .call (some 38) 121 true [(.s 37), (.k (Value.string ⟨#[64, 64]⟩))], false⟩),
   ([], true, ⟨(some (24, false)), (some 39), .pk 39 (.s 27) (.s 38) (.k (Value.bool false)), true⟩),
   ([], true, ⟨none, (some 40), .pk 40 (.s 24) (.k (Value.bool true)) (.s 39), false⟩)]))
 (.cond (.s 40) .skip (.exit 0)))
 (.block 1 (.seq (.keep [0, 4, 5]) (.dr [([0], true, ⟨none, (some 41), .fa 41 2 (.s 5), false⟩),
   ([], true, ⟨none, (some 43), .mv 43 (.s 0), false⟩),
   ([], true, ⟨none, (some 44), .fa 44 2 (.s 5), false⟩),
   ([], true, ⟨none, (some 45), .ld 45 false 1 (.s 44), false⟩),
   ([], true, ⟨none, (some 46), .len 46 (.s 45), false⟩),
   ([0], true, ⟨none, (some 42), .ld 42 false 1 (.s 41), false⟩),
   ([0], false, ⟨none, (some 47), .call (some 47) 122 false [(.s 43), (.s 46)], false⟩),
   ([], false, ⟨none, (some 48), .bs 48 47 5 [(.s 47)], false⟩),
   ([0, 1, 2, 3, 4, 5, 6, 7, 8, 9, 10, 11, 12, 13, 14, 15], false, ⟨none, (some 49), .ap 49 47 5 56 (.s 42) (.s 48), false⟩),
   ([], true, ⟨none, (some 50), .fa 50 2 (.s 5), true⟩),
   ([0, 1, 2, 3, 4, 5, 6, 7, 8, 9, 10, 11, 12, 13, 14, 15], false, ⟨none, none, .st false 1 (.s 50) (.s 49), false⟩)]))))))
 (.seq (.ops [⟨none, (some 51), .ld 51 true 3 (.s 5), false⟩,
   ⟨none, none, .st true 3 (.s 4) (.s 51), false⟩])
 .ret))))))
def R66 : List RR := [.ce 4 true 3]
theorem sd66 : SdT Tryz.prog 66 52 S66 R66 := fun hT hl hC hit => sdX (F := Tryz.f66) (A := A66) mo (by kernel_rfl) (by kernel_rfl) (by kernel_rfl) (by kernel_rfl) hT hl hC hit
def A122 : Ann := ⟨fun r i => if r = 7 ∧ i = 11 then 1 else 0, fun _ => none, fun r => if r = 1 then some (false, [0, 1, 4]) else if r = 2 then some (false, [0, 1, 4, 5, 6]) else if r = 3 then some (false, [0, 1, 4, 5, 6, 7]) else if r = 4 then some (false, [0, 4, 5, 7]) else if r = 5 then some (false, [0, 1, 4, 5, 7]) else if r = 6 then some (false, [0, 4, 5, 7]) else if r = 7 then some (false, [0, 4, 5, 7]) else if r = 8 then some (false, [0, 4, 5, 7]) else if r = 10 then some (false, [0, 4, 5, 7, 8]) else if r = 11 then some (false, [0, 4, 5, 7, 8, 9]) else if r = 12 then some (false, [0, 4, 5, 7, 8, 9]) else if r = 13 then some (false, [0, 4, 5, 7, 8, 9, 10]) else if r = 14 then some (false, [0, 4, 5, 7, 8, 9, 10]) else if r = 18 then some (false, [0, 4, 5, 7]) else none, fun r => if r = 11 then [0, 4, 5, 7, 8, 9] else []⟩
def S122_0 : SCode :=
 (.ops [⟨none, (some 4), .al 4 47 [(Value.int .i64 0), (Value.int .i64 0), (Value.int .i64 0), (Value.int .i64 0), (Value.slice none 0 0)], false⟩])
def S122_1 : SCode :=
 (.seq (.keep [0, 1, 4]) (.ops [⟨none, (some 12), .mv 12 (.s 0), false⟩,
   ⟨none, (some 13), .call (some 13) 164 false [(.s 12)], false⟩,
   ⟨none, (some 14), .call (some 14) 167 false [(.s 13)], false⟩,
   ⟨none, (some 11), .mv 11 (.s 14), false⟩,
   ⟨none, (some 15), .ex 15 (.s 11) 0, false⟩,
   ⟨none, (some 16), .ex 16 (.s 11) 1, false⟩,
   ⟨none, (some 5), .al 5 47 [(Value.int .i64 0), (Value.int .i64 0), (Value.int .i64 0), (Value.int .i64 0), (Value.slice none 0 0)], false⟩,
   ⟨none, none, .st true 5 (.s 5) (.s 15), false⟩,
   ⟨none, (some 6), .mv 6 (.s 16), false⟩]))
def S122_2 : SCode :=
 (.seq (.keep [0, 1, 4, 5, 6]) (.ops [⟨none, (some 17), .mv 17 (.s 0), false⟩,
   ⟨none, (some 18), .nc 18 (.s 17), false⟩,
   ⟨none, (some 19), .fa 19 1 (.s 18), false⟩,
   ⟨none, (some 20), .ld 20 false 1 (.s 19), false⟩,
   ⟨none, (some 7), .mv 7 (.s 20), false⟩]))
def S122_3 : SCode :=
 (.block 0 (.seq (.seq (.keep [0, 1, 4, 5, 6, 7]) (.ops [⟨none, (some 22), .mv 22 (.s 6), false⟩,
   ⟨none, (some 23), .not 23 (.s 22), false⟩,
   ⟨none, (some 21), .mv 21 (.s 23), false⟩]))
 (.cond (.s 21) (.seq (.keep [0, 4, 5, 7]) (.ops [⟨none, (some 24), .mv 24 (.s 0), false⟩,
   ⟨none, (some 25), .mv 25 (.s 7), false⟩,
   ⟨none, (some 26), .call (some 26) 120 false [(.s 24), (.s 25), (.k (Value.int .i64 3))], false⟩])) (.seq (.seq (.keep [0, 1, 4, 5, 7]) (.ops [⟨none, (some 28), .mv 28 (.s 1), false⟩,
   ⟨none, (some 29), .bin 29 .geq (.s 28) (.k (Value.int .i64 4096)), false⟩,
   ⟨none, (some 27), .mv 27 (.s 29), false⟩]))
 (.cond (.s 27) (.seq (.keep [0, 4, 5, 7]) (.ops [⟨none, (some 30), .mv 30 (.s 0), false⟩,
   ⟨none, (some 31), .mv 31 (.s 7), false⟩,
   ⟨none, (some 32), .call (some 32) 120 false [(.s 30), (.s 31), (.k (Value.int .i64 9))], false⟩])) (.seq (.seq (.keep [0, 4, 5, 7]) (.ops [⟨none, (some 34), .fa 34 0 (.s 5), false⟩,
   ⟨none, (some 35), .ld 35 false 1 (.s 34), false⟩,
   ⟨none, (some 36), .fa 36 1 (.s 5), false⟩,
   ⟨none, (some 37), .ld 37 false 1 (.s 36), false⟩,
   ⟨none, (some 38), .mm 38 true (.k (Value.int .i64 1)) [(.s 37)], false⟩,
   ⟨none, (some 39), .bin 39 .lss (.s 35) (.s 38), false⟩,
   ⟨none, (some 40), .mv 40 (.s 39), false⟩,
   ⟨(some (40, false)), (some 41), .fa 41 2 (.s 5), false⟩,
   ⟨(some (40, false)), (some 42), .ld 42 false 1 (.s 41), false⟩,
   ⟨(some (40, false)), (some 43), .fa 43 3 (.s 5), true⟩,
   ⟨(some (40, false)), (some 44), .ld 44 false 1 (.s 43), false⟩,
   ⟨(some (40, false)), (some 45), .mm 45 true (.k (Value.int .i64 1)) [(.s 44)], false⟩,
   ⟨(some (40, false)), (some 46), .bin 46 .lss (.s 42) (.s 45), false⟩,
   ⟨none, (some 47), .pk 47 (.s 40) (.k (Value.bool true)) (.s 46), false⟩,
   ⟨none, (some 33), .mv 33 (.s 47), false⟩]))
 (.cond (.s 33) (.seq (.keep [0, 4, 5, 7]) (.ops [⟨none, (some 48), .mv 48 (.s 0), false⟩,
   ⟨none, (some 49), .mv 49 (.s 7), false⟩,
   ⟨none, (some 50), .call (some 50) 120 false [(.s 48), (.s 49), (.k (Value.int .i64 2))], false⟩])) .skip)))))))
def S122_4 : SCode :=
 (.ops [⟨none, (some 8), .mv 8 (.k (Value.bool false)), false⟩])
def S122_5 : SCode :=
 (.seq (.seq (.keep [0, 4, 5, 7, 8]) (.ops [⟨none, (some 51), .fa 51 1 (.s 5), false⟩,
   ⟨none, (some 52), .ld 52 false 1 (.s 51), false⟩,
   ⟨none, (some 53), .fa 53 3 (.s 5), false⟩,
   ⟨none, (some 54), .ld 54 false 1 (.s 53), false⟩,
   ⟨none, (some 55), .bd 55 [(Value.int .i64 0), (Value.int .i64 0)] [(0, 1, (.s 52)), (1, 1, (.s 54))], false⟩,
   ⟨none, (some 9), .al 9 220 [(Value.int .i64 0), (Value.int .i64 0)], false⟩,
   ⟨none, none, .st true 2 (.s 9) (.s 55), false⟩]))
 (.block 1 (.loop [0, 4, 5, 7, 8, 9] (.seq (.seq (.seq (.keep [0, 4, 5, 7, 8, 9]) (.ops [⟨none, (some 56), .ld 56 true 2 (.s 9), false⟩,
   ⟨none, (some 57), .bd 57 [(Value.int .i64 0), (Value.int .i64 0)] [], false⟩,
   ⟨none, (some 58), .eqa 58 true [0, 0] (.s 56) (.s 57), false⟩]))
 (.cond (.s 58) .skip (.exit 1)))
 (.seq (.block 2 (.seq (.seq (.keep [0, 4, 5, 7, 8, 9]) (.ops [⟨none, (some 59), .mv 59 (.s 0), false⟩,
   ⟨none, (some 60), .call (some 60) 168 false [(.s 59), (.s 9)], false⟩,
   ⟨none, (some 10), .al 10 103 [(Value.int .u8 0), (Value.string ⟨#[]⟩)], false⟩,
   ⟨none, none, .st true 2 (.s 10) (.s 60), false⟩]))
 (.seq (.seq (.keep [0, 4, 5, 7, 8, 9, 10]) (.ops [⟨none, (some 61), .mv 61 (.s 8), false⟩,
   ⟨none, (some 62), .mv 62 (.s 61), false⟩,
   ⟨(some (62, false)), (some 63), .fa 63 0 (.s 10), false⟩,
   ⟨(some (62, false)), (some 64), .ld 64 false 1 (.s 63), false⟩,
   ⟨(some (62, false)), (some 65), .bin 65 .neq (.s 64) (.k (Value.int .u8 32)), false⟩,
   ⟨none, (some 66), .pk 66 (.s 62) (.k (Value.bool true)) (.s 65), false⟩,
   ⟨none, (some 8), .mv 8 (.s 66), false⟩]))
 (.seq (.keep [0, 4, 5, 7, 8, 9, 10]) (.ops [⟨none, (some 67), .fa 67 4 (.s 5), false⟩,
   ⟨none, (some 68), .ld 68 false 1 (.s 67), false⟩,
   ⟨none, (some 69), .ld 69 true 2 (.s 10), false⟩,
   ⟨none, (some 70), .bs 70 103 2 [(.s 69)], false⟩,
   ⟨none, (some 71), .ap 71 103 2 24 (.s 68) (.s 70), false⟩,
   ⟨none, (some 72), .fa 72 4 (.s 5), false⟩,
   ⟨none, none, .st false 1 (.s 72) (.s 71), false⟩])))))
 (.seq (.ops [⟨none, (some 73), .ld 73 true 2 (.s 9), false⟩])
 (.ops [⟨none, (some 9), .al 9 220 [(Value.int .i64 0), (Value.int .i64 0)], false⟩,
   ⟨none, none, .st true 2 (.s 9) (.s 73), false⟩])))))))
def S122_6 : SCode :=
 (.seq (.ops [⟨none, (some 74), .mv 74 (.s 8), false⟩,
   ⟨none, (some 75), .not 75 (.s 74), false⟩])
 (.cond (.s 75) (.seq (.keep [0, 4, 5, 7]) (.ops [⟨none, (some 76), .mv 76 (.s 0), false⟩,
   ⟨none, (some 77), .mv 77 (.s 7), false⟩,
   ⟨none, (some 78), .call (some 78) 120 false [(.s 76), (.s 77), (.k (Value.int .i64 50))], false⟩])) .skip))
def S122_7 : SCode :=
 (.ops [⟨none, (some 79), .ld 79 true 5 (.s 5), false⟩,
   ⟨none, none, .st true 5 (.s 4) (.s 79), false⟩])
def S122r8 : SCode := .ret
def S122r7 : SCode := .seq S122_7 S122r8
def S122r6 : SCode := .seq S122_6 S122r7
def S122r5 : SCode := .seq S122_5 S122r6
def S122r4 : SCode := .seq S122_4 S122r5
def S122r3 : SCode := .seq S122_3 S122r4
def S122r2 : SCode := .seq S122_2 S122r3
def S122r1 : SCode := .seq S122_1 S122r2
def S122 : SCode := .seq S122_0 S122r1
def R122 : List RR := [.ce 4 true 5]
theorem sd122 : SdT Tryz.prog 122 80 S122 R122 := fun hT hl hC hit => sdX (F := Tryz.f122) (A := A122) mo (by kernel_rfl) (by kernel_rfl) (by kernel_rfl) (by kernel_rfl) hT hl hC hit
def A168 : Ann := ⟨fun r i => if r = 2 ∧ i = 6 then 1 else 0, fun r => if r = 16 then some [(0, true, []), (1, true, []), (2, true, []), (3, true, []), (4, true, []), (5, true, []), (6, true, []), (7, true, []), (8, false, [0, 1, 2, 3, 4, 5, 6, 7, 8, 9, 10, 11, 12, 13, 14, 15]), (9, true, []), (10, true, []), (11, true, []), (12, true, []), (13, true, []), (15, true, []), (16, true, []), (17, true, []), (14, true, []), (18, true, []), (19, true, []), (20, true, []), (21, true, []), (22, true, [])] else if r = 11 then some [(0, true, []), (1, true, []), (2, true, []), (3, true, []), (6, true, []), (4, true, []), (5, true, []), (7, true, []), (8, false, [0, 1, 2, 3, 4, 5, 6, 7, 8, 9, 10, 11, 12, 13, 14, 15])] else if r = 4 then some [(0, true, []), (1, true, []), (2, true, []), (3, true, []), (4, true, []), (5, false, []), (6, false, [999])] else none, fun r => if r = 1 then some (false, [0, 1, 4]) else if r = 2 then some (false, [0, 1, 4, 5]) else if r = 3 then some (false, [0, 1, 4, 5]) else if r = 4 then some (false, [0, 1, 4, 5]) else if r = 5 then some (false, [0, 1, 4, 6]) else if r = 9 then some (false, [0, 1, 4, 6, 8, 40, 41]) else if r = 11 then some (false, [0, 1, 4, 6, 8, 9, 40, 41]) else if r = 12 then some (false, [0, 1, 4, 6, 8, 9, 40, 41]) else if r = 13 then some (false, [0, 1, 4, 6, 8, 9, 40, 41]) else if r = 14 then some (false, [0, 1, 4, 6, 8, 9, 40, 41]) else if r = 16 then some (false, [0, 4, 6, 8]) else if r = 17 then some (false, [0, 4, 6]) else if r = 19 then some (false, [4, 6]) else none, fun r => if r = 8 then [0, 1, 4, 6, 8, 40, 41] else []⟩
def S168 : SCode :=
 (.seq (.ops [⟨none, (some 4), .al 4 103 [(Value.int .u8 0), (Value.string ⟨#[]⟩)], false⟩])
 (.seq (.seq (.keep [0, 1, 4]) (.ops [⟨none, (some 11), .mv 11 (.s 0), false⟩,
   ⟨none, (some 12), .call (some 12) 164 false [(.s 11)], false⟩,
   ⟨none, (some 5), .mv 5 (.s 12), false⟩]))
 (.seq (.seq (.seq (.keep [0, 1, 4, 5]) (.ops [⟨none, (some 13), .mv 13 (.s 5), false⟩,
   ⟨none, (some 14), .bin 14 .eql (.s 13) (.k (Value.string ⟨#[]⟩)), false⟩,
   ⟨none, (some 15), .mv 15 (.s 14), false⟩,
   ⟨(some (15, false)), (some 16), .mv 16 (.s 5), false⟩,
   ⟨(some (15, false)), (some 17), .ixs 17 (.s 16) (.k (Value.int .i64 0)), false⟩,
   ⟨(some (15, false)), (some 18), .cvi 18 .i32 (.s 17), false⟩,
   ⟨(some (15, false)), (some 19), .call (some 19) 200 true [(.k (Value.string ⟨#[32, 45, 43]⟩)), (.s 18)], false⟩,
   ⟨(some (15, false)), (some 20), .not 20 (.s 19), false⟩,
   ⟨none, (some 21), .pk 21 (.s 15) (.k (Value.bool true)) (.s 20), false⟩]))
 (.cond (.s 21) (.seq (.keep [0, 1, 4, 5]) (.ops [⟨none, (some 22), .mv 22 (.s 0), false⟩,
   ⟨none, (some 23), .mv 23 (.s 0), false⟩,
   ⟨none, (some 24), .nc 24 (.s 23), false⟩,
   ⟨none, (some 25), .fa 25 1 (.s 24), false⟩,
   ⟨none, (some 26), .ld 26 false 1 (.s 25), false⟩,
   ⟨none, (some 27), .call (some 27) 120 false [(.s 22), (.s 26), (.k (Value.int .i64 3))], false⟩])) .skip))
 (.seq (.seq (.keep [0, 1, 4, 5]) (.dr [([], true, ⟨none, (some 28), .mv 28 (.s 5), false⟩),
   ([], true, ⟨none, (some 29), .ixs 29 (.s 28) (.k (Value.int .i64 0)), false⟩),
   ([], true, ⟨none, (some 30), .mv 30 (.s 5), false⟩),
   ([], true, ⟨none, (some 31), .sls 31 (.s 30) (some (.k (Value.int .i64 1))) none, false⟩),
   ([], true, ⟨none, (some 32), .bd 32 [(Value.int .u8 0), (Value.string ⟨#[]⟩)] [(0, 1, (.s 29)), (1, 1, (.s 31))], false⟩),
   ([], false, ⟨none, (some 6), .al 6 103 [(Value.int .u8 0), (Value.string ⟨#[]⟩)], false⟩),
   ([999], false, ⟨none, none, .st true 2 (.s 6) (.s 32), false⟩)]))
 (.seq (.seq (.keep [0, 1, 4, 6]) (.ops [⟨none, (some 33), .fa 33 0 (.s 6), false⟩,
   ⟨none, (some 34), .ld 34 false 1 (.s 33), false⟩,
   ⟨none, (some 35), .bin 35 .neq (.s 34) (.k (Value.int .u8 43)), false⟩,
   ⟨none, (some 36), .fa 36 0 (.s 6), false⟩,
   ⟨none, (some 37), .ld 37 false 1 (.s 36), false⟩,
   ⟨none, (some 38), .bin 38 .neq (.s 37) (.k (Value.int .u8 45)), false⟩,
   ⟨none, (some 39), .bd 39 [(Value.bool false), (Value.bool false)] [(0, 1, (.s 35)), (1, 1, (.s 38))], false⟩,
   ⟨none, (some 7), .al 7 247 [(Value.bool false), (Value.bool false)], false⟩,
   ⟨none, none, .st true 2 (.s 7) (.s 39), false⟩]))
 (.seq (.ops [⟨none, (some 8), .mv 8 (.k (Value.bool true)), false⟩])
 (.seq (.seq (.ops [⟨none, (some 40), .ld 40 true 2 (.s 7), false⟩,
   ⟨none, (some 41), .mv 41 (.k (Value.int .i64 0)), false⟩])
 (.block 0 (.loop [0, 1, 4, 6, 8, 40, 41] (.seq (.ops [⟨none, (some 42), .bin 42 .lss (.s 41) (.k (Value.int .i64 2)), false⟩])
 (.seq (.cond (.s 42) .skip (.exit 0))
 (.seq (.block 1 (.seq (.seq (.keep [0, 1, 4, 6, 8, 40, 41]) (.ops [⟨none, (some 43), .mv 43 (.s 41), false⟩,
   ⟨none, (some 44), .ixa 44 false 2 1 (.s 40) (.s 41), false⟩,
   ⟨none, (some 9), .mv 9 (.s 43), false⟩,
   ⟨none, (some 10), .mv 10 (.s 44), false⟩]))
 (.seq (.seq (.ops [⟨none, (some 45), .mv 45 (.s 10), false⟩,
   ⟨none, (some 46), .not 46 (.s 45), false⟩])
 (.cond (.s 46) (.exit 1) .skip))
 (.seq (.seq (.keep [0, 1, 4, 6, 8, 9, 40, 41]) (.dr [([], true, ⟨none, (some 47), .mv 47 (.s 1), false⟩),
   ([], true, ⟨none, (some 48), .mv 48 (.s 9), false⟩),
   ([], true, ⟨none, (some 49), .nc 49 (.s 47), false⟩),
   ([], true, ⟨none, (some 50), .ipa 50 2 1 (.s 49) (.s 48), false⟩),
   ([], true, ⟨none, (some 53), .nc 53 (.s 47), false⟩),
   ([], true, ⟨none, (some 51), .ld 51 false 1 (.s 50), false⟩),
   ([], true, ⟨none, (some 52), .binc 52 .sub (.s 51) (.k (Value.int .i64 1)), false⟩),
   ([], true, ⟨none, (some 54), .ipa 54 2 1 (.s 53) (.s 48), false⟩),
   ([0, 1, 2, 3, 4, 5, 6, 7, 8, 9, 10, 11, 12, 13, 14, 15], false, ⟨none, none, .st false 1 (.s 54) (.s 52), false⟩)]))
 (.seq (.seq (.seq (.keep [0, 1, 4, 6, 8, 9, 40, 41]) (.ops [⟨none, (some 55), .mv 55 (.s 1), false⟩,
   ⟨none, (some 56), .mv 56 (.s 9), false⟩,
   ⟨none, (some 57), .nc 57 (.s 55), false⟩,
   ⟨none, (some 58), .ipa 58 2 1 (.s 57) (.s 56), false⟩,
   ⟨none, (some 59), .ld 59 false 1 (.s 58), false⟩,
   ⟨none, (some 60), .bin 60 .lss (.s 59) (.k (Value.int .i64 0)), false⟩]))
 (.cond (.s 60) (.seq (.keep [0, 1, 4, 6, 8, 9, 40, 41]) (.ops [⟨none, (some 61), .mv 61 (.s 0), false⟩,
   ⟨none, (some 62), .mv 62 (.s 0), false⟩,
   ⟨none, (some 63), .nc 63 (.s 62), false⟩,
   ⟨none, (some 64), .fa 64 1 (.s 63), false⟩,
   ⟨none, (some 65), .ld 65 false 1 (.s 64), false⟩,
   ⟨none, (some 66), .call (some 66) 120 false [(.s 61), (.s 65), (.k (Value.int .i64 3))], false⟩])) .skip))
 (.seq (.keep [0, 1, 4, 6, 8, 9, 40, 41]) (.ops [⟨none, (some 67), .mv 67 (.s 8), false⟩,
   ⟨none, (some 68), .mv 68 (.s 67), false⟩,
   ⟨(some (68, true)), (some 69), .mv 69 (.s 1), false⟩,
   ⟨(some (68, true)), (some 70), .mv 70 (.s 9), false⟩,
   ⟨(some (68, true)), (some 71), .nc 71 (.s 69), false⟩,
   ⟨(some (68, true)), (some 72), .ipa 72 2 1 (.s 71) (.s 70), false⟩,
   ⟨(some (68, true)), (some 73), .ld 73 false 1 (.s 72), false⟩,
   ⟨(some (68, true)), (some 74), .bin 74 .eql (.s 73) (.k (Value.int .i64 0)), false⟩,
   ⟨none, (some 75), .pk 75 (.s 68) (.s 74) (.k (Value.bool false)), false⟩,
   ⟨none, (some 8), .mv 8 (.s 75), true⟩])))))))
 (.ops [⟨none, (some 76), .binc 76 .add (.s 41) (.k (Value.int .i64 1)), false⟩,
   ⟨none, (some 41), .mv 41 (.s 76), false⟩])))))))
 (.seq (.seq (.seq (.keep [0, 4, 6, 8]) (.dr [([], true, ⟨none, (some 77), .mv 77 (.s 8), false⟩),
   ([], true, ⟨none, (some 78), .mv 78 (.s 77), false⟩),
   ([], true, ⟨(some (78, true)), (some 79), .fa 79 1 (.s 6), false⟩),
   ([], true, ⟨(some (78, true)), (some 80), .ld 80 false 1 (.s 79), false⟩),
   ([], true, ⟨(some (78, true)), (some 81), .bin 81 .neq (.s 80) (.k (Value.string ⟨#[]⟩)), false⟩),
   ([], true, ⟨none, (some 82), .pk 82 (.s 78) (.s 81) (.k (Value.bool false)), false⟩),
   ([], true, ⟨none, (some 83), .mv 83 (.s 82), false⟩),
   ([], true, ⟨(some (83, true)), (some 84), .mv 84 (.s 0), false⟩),
   ([0, 1, 2, 3, 4, 5, 6, 7, 8, 9, 10, 11, 12, 13, 14, 15], false, ⟨(some (83, true)), (some 85), .call (some 85) 65 false [(.s 84)], false⟩),
   ([], true, ⟨none, (some 86), .pk 86 (.s 83) (.s 85) (.k (Value.bool false)), true⟩),
   ([], true, ⟨none, (some 87), .mv 87 (.s 86), false⟩),
   ([], true, ⟨(some (87, true)), (some 88), .mv 88 (.s 0), false⟩),
   ([], true, ⟨(some (87, true)), (some 89), .nc 89 (.s 88), false⟩),
   ([], true, ⟨(some (87, true)), (some 90), .fa 90 0 (.s 89), false⟩),
   ([], true, ⟨(some (87, true)), (some 92), .mv 92 (.s 0), false⟩),
   ([], true, ⟨(some (87, true)), (some 93), .nc 93 (.s 92), false⟩),
   ([], true, ⟨(some (87, true)), (some 94), .fa 94 1 (.s 93), false⟩),
   ([], true, ⟨(some (87, true)), (some 91), .ld 91 false 1 (.s 90), false⟩),
   ([], true, ⟨(some (87, true)), (some 95), .ld 95 false 1 (.s 94), false⟩),
   ([], true, ⟨(some (87, true)), (some 96), .ia 96 1 (.s 91) (.s 95), true⟩),
   ([], true, ⟨(some (87, true)), (some 97), .ld 97 false 1 (.s 96), false⟩),
   ([], true, ⟨(some (87, true)), (some 98), .bin 98 .eql (.s 97) (.k (Value.string ⟨#[92, 32, 78, 111, 32, 110, 101, 119, 108, 105, 110, 101, 32, 97, 116, 32, 101, 110, 100, 32, 111, 102, 32, 102, 105, 108, 101, 10]⟩)), false⟩),
   ([], true, ⟨none, (some 99), .pk 99 (.s 87) (.s 98) (.k (Value.bool false)), false⟩)]))
 (.cond (.s 99) (.seq (.seq (.keep [0, 4, 6]) (.ops [⟨none, (some 100), .mv 100 (.s 0), false⟩,
   ⟨none, (some 101), .nc 101 (.s 100), false⟩,
   ⟨none, (some 102), .fa 102 1 (.s 101), false⟩,
   ⟨none, (some 103), .ld 103 false 1 (.s 102), false⟩,
   ⟨none, (some 104), .binc 104 .add (.s 103) (.k (Value.int .i64 1)), false⟩,
   ⟨none, (some 105), .nc 105 (.s 100), false⟩,
   ⟨none, (some 106), .fa 106 1 (.s 105), false⟩,
   ⟨none, none, .st false 1 (.s 106) (.s 104), false⟩]))
 (.seq (.ops [⟨none, (some 107), .ld 107 true 2 (.s 6), false⟩,
   ⟨none, none, .st true 2 (.s 4) (.s 107), false⟩])
 .ret)) .skip))
 (.seq (.seq (.keep [4, 6]) (.ops [⟨none, (some 108), .fa 108 1 (.s 6), false⟩,
   ⟨none, (some 109), .ld 109 false 1 (.s 108), false⟩,
   ⟨none, (some 110), .bin 110 .add (.s 109) (.k (Value.string ⟨#[10]⟩)), false⟩,
   ⟨none, (some 111), .fa 111 1 (.s 6), false⟩,
   ⟨none, none, .st false 1 (.s 111) (.s 110), false⟩]))
 (.seq (.ops [⟨none, (some 112), .ld 112 true 2 (.s 6), false⟩,
   ⟨none, none, .st true 2 (.s 4) (.s 112), false⟩])
 .ret))))))))))
def R168 : List RR := [.ce 4 true 2]
theorem sd168 : SdT Tryz.prog 168 113 S168 R168 := fun hT hl hC hit => sdX (F := Tryz.f168) (A := A168) mo (by kernel_rfl) (by kernel_rfl) (by kernel_rfl) (by kernel_rfl) hT hl hC hit
def A119 : Ann := ⟨fun _ _ => 0, fun _ => none, fun r => if r = 1 then some (false, [0, 1]) else if r = 3 then some (false, [0, 5]) else if r = 4 then some (false, [0, 5]) else if r = 6 then some (false, [0, 7, 8]) else none, fun _ => []⟩
def S119 : SCode :=
 (.seq (.ops [⟨none, (some 4), .mv 4 (.k (Value.string ⟨#[]⟩)), false⟩])
 (.seq (.seq (.keep [0, 1]) (.ops [⟨none, (some 10), .mv 10 (.s 0), false⟩,
   ⟨none, (some 11), .call (some 11) 164 false [(.s 10)], false⟩,
   ⟨none, (some 12), .mv 12 (.s 1), false⟩,
   ⟨none, (some 13), .call (some 13) 161 false [(.s 11), (.s 12)], false⟩,
   ⟨none, (some 9), .mv 9 (.s 13), false⟩,
   ⟨none, (some 14), .ex 14 (.s 9) 0, false⟩,
   ⟨none, (some 15), .ex 15 (.s 9) 1, false⟩,
   ⟨none, (some 5), .mv 5 (.s 14), false⟩,
   ⟨none, (some 6), .mv 6 (.s 15), false⟩]))
 (.seq (.seq (.ops [⟨none, (some 16), .mv 16 (.s 6), false⟩,
   ⟨none, (some 17), .not 17 (.s 16), false⟩])
 (.cond (.s 17) (.seq (.keep [0, 5]) (.ops [⟨none, (some 18), .mv 18 (.s 0), false⟩,
   ⟨none, (some 19), .mv 19 (.s 0), false⟩,
   ⟨none, (some 20), .nc 20 (.s 19), false⟩,
   ⟨none, (some 21), .fa 21 1 (.s 20), false⟩,
   ⟨none, (some 22), .ld 22 false 1 (.s 21), false⟩,
   ⟨none, (some 23), .call (some 23) 120 false [(.s 18), (.s 22), (.k (Value.int .i64 3))], false⟩])) .skip))
 (.seq (.seq (.keep [0, 5]) (.ops [⟨none, (some 25), .mv 25 (.s 5), false⟩,
   ⟨none, (some 26), .call (some 26) 165 false [(.s 25)], false⟩,
   ⟨none, (some 24), .mv 24 (.s 26), false⟩,
   ⟨none, (some 27), .ex 27 (.s 24) 0, false⟩,
   ⟨none, (some 28), .ex 28 (.s 24) 1, false⟩,
   ⟨none, (some 7), .mv 7 (.s 27), false⟩,
   ⟨none, (some 8), .mv 8 (.s 28), false⟩]))
 (.seq (.seq (.ops [⟨none, (some 29), .mv 29 (.s 8), false⟩,
   ⟨none, (some 30), .bin 30 .neq (.s 29) (.k (Value.int .i64 0)), false⟩])
 (.cond (.s 30) (.seq (.keep [0, 7, 8]) (.ops [⟨none, (some 31), .mv 31 (.s 0), false⟩,
   ⟨none, (some 32), .mv 32 (.s 0), false⟩,
   ⟨none, (some 33), .nc 33 (.s 32), false⟩,
   ⟨none, (some 34), .fa 34 1 (.s 33), false⟩,
   ⟨none, (some 35), .ld 35 false 1 (.s 34), false⟩,
   ⟨none, (some 36), .mv 36 (.s 8), false⟩,
   ⟨none, (some 37), .call (some 37) 120 false [(.s 31), (.s 35), (.s 36)], false⟩])) .skip))
 (.seq (.ops [⟨none, (some 38), .mv 38 (.s 7), false⟩,
   ⟨none, (some 4), .mv 4 (.s 38), false⟩])
 .ret))))))
def R119 : List RR := [.sl 4]
theorem sd119 : SdT Tryz.prog 119 39 S119 R119 := fun hT hl hC hit => sdX (F := Tryz.f119) (A := A119) mo (by kernel_rfl) (by kernel_rfl) (by kernel_rfl) (by kernel_rfl) hT hl hC hit
def A164 : Ann := ⟨fun _ _ => 0, fun r => if r = 4 then some [(0, true, []), (1, true, []), (2, true, []), (4, true, []), (5, true, []), (6, true, []), (3, true, []), (7, true, []), (8, true, []), (9, true, []), (10, true, []), (11, false, [0, 1, 2, 3, 4, 5, 6, 7, 8, 9, 10, 11, 12, 13, 14, 15]), (12, true, []), (13, true, []), (14, true, []), (15, true, []), (16, true, [])] else if r = 2 then some [(0, true, []), (1, true, []), (2, true, []), (4, true, []), (5, true, []), (6, true, []), (3, true, []), (7, true, []), (8, true, []), (9, true, [])] else none, fun r => if r = 1 then some (false, [0]) else if r = 2 then some (false, [0]) else if r = 3 then some (false, [0]) else if r = 4 then some (false, [0]) else if r = 6 then some (false, [0, 3]) else none, fun _ => []⟩
def S164 : SCode :=
 (.seq (.ops [⟨none, (some 2), .mv 2 (.k (Value.string ⟨#[]⟩)), false⟩])
 (.seq (.seq (.keep [0]) (.ops [⟨none, (some 5), .mv 5 (.s 0), false⟩,
   ⟨none, (some 6), .nc 6 (.s 5), false⟩,
   ⟨none, (some 7), .fa 7 1 (.s 6), false⟩,
   ⟨none, (some 8), .ld 8 false 1 (.s 7), false⟩,
   ⟨none, (some 9), .binc 9 .add (.s 8) (.k (Value.int .i64 1)), false⟩,
   ⟨none, (some 10), .nc 10 (.s 5), false⟩,
   ⟨none, (some 11), .fa 11 1 (.s 10), false⟩,
   ⟨none, none, .st false 1 (.s 11) (.s 9), false⟩]))
 (.seq (.seq (.seq (.keep [0]) (.dr [([], true, ⟨none, (some 12), .mv 12 (.s 0), false⟩),
   ([], true, ⟨none, (some 13), .nc 13 (.s 12), false⟩),
   ([], true, ⟨none, (some 14), .fa 14 1 (.s 13), false⟩),
   ([], true, ⟨none, (some 16), .mv 16 (.s 0), false⟩),
   ([], true, ⟨none, (some 17), .nc 17 (.s 16), false⟩),
   ([], true, ⟨none, (some 18), .fa 18 0 (.s 17), false⟩),
   ([], true, ⟨none, (some 15), .ld 15 false 1 (.s 14), false⟩),
   ([], true, ⟨none, (some 19), .ld 19 false 1 (.s 18), false⟩),
   ([], true, ⟨none, (some 20), .len 20 (.s 19), false⟩),
   ([], true, ⟨none, (some 21), .bin 21 .gtr (.s 15) (.s 20), true⟩)]))
 (.cond (.s 21) (.seq (.keep [0]) (.ops [⟨none, (some 22), .mv 22 (.s 0), false⟩,
   ⟨none, (some 23), .mv 23 (.s 0), false⟩,
   ⟨none, (some 24), .nc 24 (.s 23), false⟩,
   ⟨none, (some 25), .fa 25 1 (.s 24), false⟩,
   ⟨none, (some 26), .ld 26 false 1 (.s 25), false⟩,
   ⟨none, (some 27), .call (some 27) 120 false [(.s 22), (.s 26), (.k (Value.int .i64 1))], false⟩])) .skip))
 (.seq (.seq (.keep [0]) (.dr [([], true, ⟨none, (some 29), .mv 29 (.s 0), false⟩),
   ([], true, ⟨none, (some 30), .nc 30 (.s 29), false⟩),
   ([], true, ⟨none, (some 31), .fa 31 0 (.s 30), false⟩),
   ([], true, ⟨none, (some 33), .mv 33 (.s 0), false⟩),
   ([], true, ⟨none, (some 34), .nc 34 (.s 33), false⟩),
   ([], true, ⟨none, (some 35), .fa 35 1 (.s 34), false⟩),
   ([], true, ⟨none, (some 32), .ld 32 false 1 (.s 31), false⟩),
   ([], true, ⟨none, (some 36), .ld 36 false 1 (.s 35), false⟩),
   ([], true, ⟨none, (some 37), .binc 37 .sub (.s 36) (.k (Value.int .i64 1)), false⟩),
   ([], true, ⟨none, (some 38), .ia 38 1 (.s 32) (.s 37), true⟩),
   ([], true, ⟨none, (some 39), .ld 39 false 1 (.s 38), false⟩),
   ([0, 1, 2, 3, 4, 5, 6, 7, 8, 9, 10, 11, 12, 13, 14, 15], false, ⟨none, (some 40), .call (some 40) 18 false [(.s 39)], false⟩),
   ([], true, ⟨none, (some 28), .mv 28 (.s 40), false⟩),
   ([], true, ⟨none, (some 41), .ex 41 (.s 28) 0, false⟩),
   ([], true, ⟨none, (some 42), .ex 42 (.s 28) 1, false⟩),
   ([], true, ⟨none, (some 3), .mv 3 (.s 41), false⟩),
   ([], true, ⟨none, (some 4), .mv 4 (.s 42), false⟩)]))
 (.seq (.seq (.ops [⟨none, (some 43), .mv 43 (.s 4), false⟩,
   ⟨none, (some 44), .not 44 (.s 43), false⟩])
 (.cond (.s 44) (.seq (.keep [0, 3]) (.ops [⟨none, (some 45), .mv 45 (.s 0), false⟩,
   ⟨none, (some 46), .mv 46 (.s 0), false⟩,
   ⟨none, (some 47), .nc 47 (.s 46), false⟩,
   ⟨none, (some 48), .fa 48 1 (.s 47), false⟩,
   ⟨none, (some 49), .ld 49 false 1 (.s 48), false⟩,
   ⟨none, (some 50), .call (some 50) 120 false [(.s 45), (.s 49), (.k (Value.int .i64 3))], false⟩])) .skip))
 (.seq (.ops [⟨none, (some 51), .mv 51 (.s 3), false⟩,
   ⟨none, (some 2), .mv 2 (.s 51), false⟩])
 .ret))))))
def R164 : List RR := [.sl 2]
theorem sd164 : SdT Tryz.prog 164 52 S164 R164 := fun hT hl hC hit => sdX (F := Tryz.f164) (A := A164) mo (by kernel_rfl) (by kernel_rfl) (by kernel_rfl) (by kernel_rfl) hT hl hC hit
def A65 : Ann := ⟨fun _ _ => 0, fun r => if r = 1 then some [(0, true, []), (1, true, []), (2, true, []), (4, true, []), (5, true, []), (6, true, []), (3, true, []), (7, true, []), (8, true, []), (9, true, []), (10, true, [])] else none, fun r => if r = 1 then some (false, [0]) else none, fun _ => []⟩
def S65 : SCode :=
 (.seq (.ops [⟨none, (some 2), .mv 2 (.k (Value.bool false)), false⟩])
 (.seq (.seq (.keep [0]) (.dr [([], true, ⟨none, (some 3), .mv 3 (.s 0), false⟩),
   ([], true, ⟨none, (some 4), .nc 4 (.s 3), false⟩),
   ([], true, ⟨none, (some 5), .fa 5 1 (.s 4), false⟩),
   ([], true, ⟨none, (some 7), .mv 7 (.s 0), false⟩),
   ([], true, ⟨none, (some 8), .nc 8 (.s 7), false⟩),
   ([], true, ⟨none, (some 9), .fa 9 0 (.s 8), false⟩),
   ([], true, ⟨none, (some 6), .ld 6 false 1 (.s 5), false⟩),
   ([], true, ⟨none, (some 10), .ld 10 false 1 (.s 9), false⟩),
   ([], true, ⟨none, (some 11), .len 11 (.s 10), false⟩),
   ([], true, ⟨none, (some 12), .bin 12 .lss (.s 6) (.s 11), true⟩),
   ([], true, ⟨none, (some 2), .mv 2 (.s 12), false⟩)]))
 .ret))
def R65 : List RR := [.sl 2]
theorem sd65 : SdT Tryz.prog 65 13 S65 R65 := fun hT hl hC hit => sdX (F := Tryz.f65) (A := A65) mo (by kernel_rfl) (by kernel_rfl) (by kernel_rfl) (by kernel_rfl) hT hl hC hit
def A120 : Ann := ⟨fun _ _ => 0, fun _ => none, fun _ => none, fun _ => []⟩
def S120 : SCode :=
 (.ops [⟨none, (some 6), .mv 6 (.s 1), false⟩,
   ⟨none, (some 7), .mv 7 (.s 2), false⟩,
   ⟨none, (some 8), .mi 8 27 (.s 7), false⟩,
   ⟨none, (some 9), .bd 9 [(Value.int .i64 0), Value.nilIface] [(0, 1, (.s 6)), (1, 1, (.s 8))], false⟩,
   ⟨none, (some 10), .bx 10 83 2 (.s 9), false⟩,
   ⟨none, (some 11), .mi 11 79 (.s 10), false⟩,
   ⟨none, none, .pn (.s 11), false⟩])
def R120 : List RR := []
theorem sd120 : SdT Tryz.prog 120 12 S120 R120 := fun hT hl hC hit => sdX (F := Tryz.f120) (A := A120) mo (by kernel_rfl) (by kernel_rfl) (by kernel_rfl) (by kernel_rfl) hT hl hC hit
def A167 : Ann := ⟨fun r i => if r = 0 ∧ i = 0 then 105 else 0, fun r => if r = 7 then some [(1, true, []), (2, true, []), (3, true, []), (4, true, []), (5, true, []), (6, true, []), (7, true, []), (8, true, []), (9, true, []), (10, true, []), (11, true, []), (12, true, []), (13, true, []), (14, true, []), (15, true, []), (16, true, []), (17, true, []), (18, true, [0, 1, 2, 3, 4, 5, 6, 7, 8, 9, 10, 11, 12, 13, 14, 15]), (19, true, [0, 1, 2, 3, 4, 5, 6, 7, 8, 9, 10, 11, 12, 13, 14, 15]), (20, true, [0, 1, 2, 3, 4, 5, 6, 7, 8, 9, 10, 11, 12, 13, 14, 15]), (21, true, [0, 1, 2, 3, 4, 5, 6, 7, 8, 9, 10, 11, 12, 13, 14, 15]), (22, true, [0, 1, 2, 3, 4, 5, 6, 7, 8, 9, 10, 11, 12, 13, 14, 15]), (0, true, []), (23, false, [0, 1, 2, 3, 4, 5, 6, 7, 8, 9, 10, 11, 12, 13, 14, 15]), (24, true, [])] else none, fun r => if r = 1 then some (false, [0, 2]) else if r = 2 then some (false, [0, 2, 4]) else if r = 3 then some (false, [2, 4, 5, 6, 7]) else if r = 5 then some (false, [2, 4, 5, 7, 8, 9, 10]) else if r = 6 then some (false, [2, 4, 7, 8, 9, 10, 11]) else if r = 7 then some (false, [2, 4, 7, 9, 10, 11, 12]) else none, fun _ => []⟩
def S167 : SCode :=
 (.seq (.ops [⟨none, (some 2), .aln 2 47 [(Value.int .i64 0), (Value.int .i64 0), (Value.int .i64 0), (Value.int .i64 0), (Value.slice none 0 0)] 4 103 2, false⟩,
   ⟨none, (some 3), .mv 3 (.k (Value.bool false)), false⟩])
 (.seq (.seq (.keep [0, 2]) (.ops [⟨none, (some 14), .mv 14 (.s 0), false⟩,
   ⟨none, (some 15), .call (some 15) 161 false [(.s 14), (.k (Value.string ⟨#[64, 64, 32, 45]⟩))], false⟩,
   ⟨none, (some 13), .mv 13 (.s 15), false⟩,
   ⟨none, (some 16), .ex 16 (.s 13) 0, false⟩,
   ⟨none, (some 17), .ex 17 (.s 13) 1, false⟩,
   ⟨none, (some 0), .mv 0 (.s 16), false⟩,
   ⟨none, (some 4), .mv 4 (.s 17), false⟩]))
 (.seq (.seq (.keep [0, 2, 4]) (.ops [⟨none, (some 19), .mv 19 (.s 0), false⟩,
   ⟨none, (some 20), .call (some 20) 85 false [(.s 19), (.k (Value.string ⟨#[32, 43]⟩))], false⟩,
   ⟨none, (some 18), .mv 18 (.s 20), false⟩,
   ⟨none, (some 21), .ex 21 (.s 18) 0, false⟩,
   ⟨none, (some 22), .ex 22 (.s 18) 1, false⟩,
   ⟨none, (some 23), .ex 23 (.s 18) 2, false⟩,
   ⟨none, (some 5), .mv 5 (.s 21), false⟩,
   ⟨none, (some 6), .mv 6 (.s 22), false⟩,
   ⟨none, (some 7), .mv 7 (.s 23), false⟩]))
 (.seq (.seq (.keep [2, 4, 5, 6, 7]) (.ops [⟨none, (some 25), .mv 25 (.s 6), false⟩,
   ⟨none, (some 26), .call (some 26) 85 false [(.s 25), (.k (Value.string ⟨#[32, 64, 64]⟩))], false⟩,
   ⟨none, (some 24), .mv 24 (.s 26), false⟩,
   ⟨none, (some 27), .ex 27 (.s 24) 0, false⟩,
   ⟨none, (some 28), .ex 28 (.s 24) 1, false⟩,
   ⟨none, (some 29), .ex 29 (.s 24) 2, false⟩,
   ⟨none, (some 8), .mv 8 (.s 27), false⟩,
   ⟨none, (some 9), .mv 9 (.s 28), false⟩,
   ⟨none, (some 10), .mv 10 (.s 29), false⟩]))
 (.seq (.ops [⟨none, (some 11), .mv 11 (.k (Value.bool false)), false⟩,
   ⟨none, (some 12), .mv 12 (.k (Value.bool false)), false⟩])
 (.seq (.seq (.keep [2, 4, 5, 7, 8, 9, 10]) (.ops [⟨none, (some 31), .mv 31 (.s 5), false⟩,
   ⟨none, (some 32), .call (some 32) 199 false [(.s 31)], false⟩,
   ⟨none, (some 30), .mv 30 (.s 32), false⟩,
   ⟨none, (some 33), .ex 33 (.s 30) 0, false⟩,
   ⟨none, (some 34), .ex 34 (.s 30) 1, false⟩,
   ⟨none, (some 35), .ex 35 (.s 30) 2, false⟩,
   ⟨none, (some 36), .fa 36 0 (.s 2), false⟩,
   ⟨none, none, .st false 1 (.s 36) (.s 33), false⟩,
   ⟨none, (some 37), .fa 37 1 (.s 2), false⟩,
   ⟨none, none, .st false 1 (.s 37) (.s 34), true⟩,
   ⟨none, (some 11), .mv 11 (.s 35), false⟩]))
 (.seq (.seq (.keep [2, 4, 7, 8, 9, 10, 11]) (.ops [⟨none, (some 39), .mv 39 (.s 8), false⟩,
   ⟨none, (some 40), .call (some 40) 199 false [(.s 39)], false⟩,
   ⟨none, (some 38), .mv 38 (.s 40), false⟩,
   ⟨none, (some 41), .ex 41 (.s 38) 0, false⟩,
   ⟨none, (some 42), .ex 42 (.s 38) 1, false⟩,
   ⟨none, (some 43), .ex 43 (.s 38) 2, false⟩,
   ⟨none, (some 44), .fa 44 2 (.s 2), false⟩,
   ⟨none, none, .st false 1 (.s 44) (.s 41), false⟩,
   ⟨none, (some 45), .fa 45 3 (.s 2), false⟩,
   ⟨none, none, .st false 1 (.s 45) (.s 42), true⟩,
   ⟨none, (some 12), .mv 12 (.s 43), false⟩]))
 (.seq (.seq (.keep [2, 4, 7, 9, 10, 11, 12]) (.dr [([], true, ⟨none, (some 47), .mv 47 (.s 4), false⟩),
   ([], true, ⟨none, (some 48), .mv 48 (.s 47), false⟩),
   ([], true, ⟨(some (48, true)), (some 49), .mv 49 (.s 7), false⟩),
   ([], true, ⟨none, (some 50), .pk 50 (.s 48) (.s 49) (.k (Value.bool false)), false⟩),
   ([], true, ⟨none, (some 51), .mv 51 (.s 50), false⟩),
   ([], true, ⟨(some (51, true)), (some 52), .mv 52 (.s 10), false⟩),
   ([], true, ⟨none, (some 53), .pk 53 (.s 51) (.s 52) (.k (Value.bool false)), false⟩),
   ([], true, ⟨none, (some 54), .mv 54 (.s 53), false⟩),
   ([], true, ⟨(some (54, true)), (some 55), .mv 55 (.s 11), true⟩),
   ([], true, ⟨none, (some 56), .pk 56 (.s 54) (.s 55) (.k (Value.bool false)), false⟩),
   ([], true, ⟨none, (some 57), .mv 57 (.s 56), false⟩),
   ([], true, ⟨(some (57, true)), (some 58), .mv 58 (.s 12), false⟩),
   ([], true, ⟨none, (some 59), .pk 59 (.s 57) (.s 58) (.k (Value.bool false)), false⟩),
   ([], true, ⟨none, (some 60), .mv 60 (.s 59), false⟩),
   ([], true, ⟨(some (60, true)), (some 61), .mv 61 (.s 9), false⟩),
   ([], true, ⟨(some (60, true)), (some 62), .bin 62 .eql (.s 61) (.k (Value.string ⟨#[]⟩)), false⟩),
   ([], true, ⟨(some (60, true)), (some 63), .mv 63 (.s 62), false⟩),
   ([0, 1, 2, 3, 4, 5, 6, 7, 8, 9, 10, 11, 12, 13, 14, 15], true, ⟨(some (63, false)), (some 64), .mv 64 (.s 9), false⟩),
   ([0, 1, 2, 3, 4, 5, 6, 7, 8, 9, 10, 11, 12, 13, 14, 15], true, ⟨(some (63, false)), (some 65), .ixs 65 (.s 64) (.k (Value.int .i64 0)), true⟩),
   ([0, 1, 2, 3, 4, 5, 6, 7, 8, 9, 10, 11, 12, 13, 14, 15], true, ⟨(some (63, false)), (some 66), .bin 66 .eql (.s 65) (.k (Value.int .u8 32)), false⟩),
   ([0, 1, 2, 3, 4, 5, 6, 7, 8, 9, 10, 11, 12, 13, 14, 15], true, ⟨(some (60, true)), (some 67), .pk 67 (.s 63) (.k (Value.bool true)) (.s 66), false⟩),
   ([0, 1, 2, 3, 4, 5, 6, 7, 8, 9, 10, 11, 12, 13, 14, 15], true, ⟨none, (some 68), .pk 68 (.s 60) (.s 67) (.k (Value.bool false)), false⟩),
   ([], true, ⟨none, (some 46), .ld 46 true 5 (.s 2), false⟩),
   ([0, 1, 2, 3, 4, 5, 6, 7, 8, 9, 10, 11, 12, 13, 14, 15], false, ⟨none, none, .st true 5 (.s 2) (.s 46), false⟩),
   ([], true, ⟨none, (some 3), .mv 3 (.s 68), false⟩)]))
 .ret))))))))
def R167 : List RR := [.ce 2 true 5, .sl 3]
theorem sd167 : SdT Tryz.prog 167 69 S167 R167 := fun hT hl hC hit => sdX (F := Tryz.f167) (A := A167) mo (by kernel_rfl) (by kernel_rfl) (by kernel_rfl) (by kernel_rfl) hT hl hC hit
def A199 : Ann := ⟨fun _ _ => 0, fun _ => none, fun r => if r = 1 then some (false, [0]) else if r = 2 then some (false, [5, 6, 7]) else if r = 5 then some (false, [6, 8, 9]) else if r = 6 then some (false, [8, 9, 10, 11]) else none, fun _ => []⟩
def S199 : SCode :=
 (.seq (.ops [⟨none, (some 2), .mv 2 (.k (Value.int .i64 0)), false⟩,
   ⟨none, (some 3), .mv 3 (.k (Value.int .i64 0)), false⟩,
   ⟨none, (some 4), .mv 4 (.k (Value.bool false)), false⟩])
 (.seq (.seq (.keep [0]) (.ops [⟨none, (some 13), .mv 13 (.s 0), false⟩,
   ⟨none, (some 14), .call (some 14) 85 false [(.s 13), (.k (Value.string ⟨#[44]⟩))], false⟩,
   ⟨none, (some 12), .mv 12 (.s 14), false⟩,
   ⟨none, (some 15), .ex 15 (.s 12) 0, false⟩,
   ⟨none, (some 16), .ex 16 (.s 12) 1, false⟩,
   ⟨none, (some 17), .ex 17 (.s 12) 2, false⟩,
   ⟨none, (some 5), .mv 5 (.s 15), false⟩,
   ⟨none, (some 6), .mv 6 (.s 16), false⟩,
   ⟨none, (some 7), .mv 7 (.s 17), false⟩]))
 (.seq (.seq (.keep [5, 6, 7]) (.ops [⟨none, (some 19), .mv 19 (.s 5), false⟩,
   ⟨none, (some 20), .call (some 20) 86 false [(.s 19)], false⟩,
   ⟨none, (some 18), .mv 18 (.s 20), false⟩,
   ⟨none, (some 21), .ex 21 (.s 18) 0, false⟩,
   ⟨none, (some 22), .ex 22 (.s 18) 1, false⟩,
   ⟨none, (some 8), .mv 8 (.s 21), false⟩,
   ⟨none, (some 9), .mv 9 (.s 22), false⟩]))
 (.seq (.ops [⟨none, (some 10), .mv 10 (.k (Value.int .i64 1)), false⟩,
   ⟨none, (some 11), .mv 11 (.k (Value.int .i64 0)), false⟩])
 (.seq (.seq (.ops [⟨none, (some 23), .mv 23 (.s 7), false⟩])
 (.cond (.s 23) (.seq (.keep [6, 8, 9]) (.ops [⟨none, (some 25), .mv 25 (.s 6), false⟩,
   ⟨none, (some 26), .call (some 26) 86 false [(.s 25)], false⟩,
   ⟨none, (some 24), .mv 24 (.s 26), false⟩,
   ⟨none, (some 27), .ex 27 (.s 24) 0, false⟩,
   ⟨none, (some 28), .ex 28 (.s 24) 1, false⟩,
   ⟨none, (some 10), .mv 10 (.s 27), false⟩,
   ⟨none, (some 11), .mv 11 (.s 28), false⟩])) .skip))
 (.seq (.seq (.keep [8, 9, 10, 11]) (.ops [⟨none, (some 29), .mv 29 (.s 8), false⟩,
   ⟨none, (some 30), .mv 30 (.s 10), false⟩,
   ⟨none, (some 31), .mv 31 (.s 9), false⟩,
   ⟨none, (some 32), .bin 32 .eql (.s 31) (.k (Value.int .i64 0)), false⟩,
   ⟨none, (some 33), .mv 33 (.s 32), false⟩,
   ⟨(some (33, true)), (some 34), .mv 34 (.s 11), false⟩,
   ⟨(some (33, true)), (some 35), .bin 35 .eql (.s 34) (.k (Value.int .i64 0)), false⟩,
   ⟨none, (some 36), .pk 36 (.s 33) (.s 35) (.k (Value.bool false)), false⟩,
   ⟨none, (some 2), .mv 2 (.s 29), false⟩,
   ⟨none, (some 3), .mv 3 (.s 30), true⟩,
   ⟨none, (some 4), .mv 4 (.s 36), false⟩]))
 .ret))))))
def R199 : List RR := [.sl 2, .sl 3, .sl 4]
theorem sd199 : SdT Tryz.prog 199 37 S199 R199 := fun hT hl hC hit => sdX (F := Tryz.f199) (A := A199) mo (by kernel_rfl) (by kernel_rfl) (by kernel_rfl) (by kernel_rfl) hT hl hC hit
def A165 : Ann := ⟨fun r i => if r = 6 ∧ i = 5 then 1 else 0, fun _ => none, fun r => if r = 2 then some (false, [0, 4]) else if r = 4 then some (false, [0, 4]) else if r = 5 then some (false, [0]) else if r = 6 then some (false, [0, 4]) else if r = 8 then some (false, [4]) else none, fun _ => []⟩
def S165 : SCode :=
 (.seq (.ops [⟨none, (some 2), .mv 2 (.k (Value.string ⟨#[]⟩)), false⟩,
   ⟨none, (some 3), .mv 3 (.k (Value.int .i64 0)), false⟩])
 (.seq (.ops [⟨none, (some 5), .mv 5 (.s 0), false⟩,
   ⟨none, (some 4), .mv 4 (.s 5), false⟩])
 (.seq (.block 0 (.seq (.seq (.keep [0, 4]) (.ops [⟨none, (some 7), .mv 7 (.s 0), false⟩,
   ⟨none, (some 8), .bin 8 .eql (.s 7) (.k (Value.string ⟨#[47, 100, 101, 118, 47, 110, 117, 108, 108]⟩)), false⟩,
   ⟨none, (some 6), .mv 6 (.s 8), false⟩]))
 (.cond (.s 6) (.ops [⟨none, (some 4), .mv 4 (.k (Value.string ⟨#[]⟩)), false⟩]) (.seq (.seq (.keep [0, 4]) (.ops [⟨none, (some 10), .mv 10 (.s 0), false⟩,
   ⟨none, (some 11), .call (some 11) 121 false [(.s 10), (.k (Value.string ⟨#[34]⟩))], false⟩,
   ⟨none, (some 9), .mv 9 (.s 11), false⟩]))
 (.cond (.s 9) (.seq (.keep [0]) (.ops [⟨none, (some 13), .mv 13 (.s 0), false⟩,
   ⟨none, (some 14), .call (some 14) 198 false [(.s 13)], false⟩,
   ⟨none, (some 12), .mv 12 (.s 14), false⟩,
   ⟨none, (some 15), .ex 15 (.s 12) 0, false⟩,
   ⟨none, (some 16), .ex 16 (.s 12) 1, false⟩,
   ⟨none, (some 17), .ex 17 (.s 12) 2, false⟩,
   ⟨none, (some 4), .mv 4 (.s 15), false⟩])) .skip)))))
 (.seq (.seq (.seq (.keep [0, 4]) (.ops [⟨none, (some 18), .mv 18 (.s 4), false⟩,
   ⟨none, (some 19), .lens 19 (.s 18), false⟩,
   ⟨none, (some 20), .bin 20 .gtr (.s 19) (.k (Value.int .i64 64)), false⟩,
   ⟨none, (some 21), .mv 21 (.s 20), false⟩,
   ⟨(some (21, false)), (some 22), .mv 22 (.s 4), false⟩,
   ⟨(some (21, false)), (some 23), .call (some 23) 68 true [(.s 22)], false⟩,
   ⟨(some (21, false)), (some 24), .mv 24 (.s 0), false⟩,
   ⟨(some (21, false)), (some 25), .bin 25 .neq (.s 23) (.s 24), false⟩,
   ⟨none, (some 26), .pk 26 (.s 21) (.k (Value.bool true)) (.s 25), false⟩]))
 (.cond (.s 26) (.seq (.ops [⟨none, (some 2), .mv 2 (.k (Value.string ⟨#[]⟩)), false⟩,
   ⟨none, (some 3), .mv 3 (.k (Value.int .i64 253)), false⟩])
 .ret) .skip))
 (.seq (.seq (.keep [4]) (.ops [⟨none, (some 27), .mv 27 (.s 4), false⟩,
   ⟨none, (some 2), .mv 2 (.s 27), false⟩,
   ⟨none, (some 3), .mv 3 (.k (Value.int .i64 0)), false⟩]))
 .ret)))))
def R165 : List RR := [.sl 2, .sl 3]
theorem sd165 : SdT Tryz.prog 165 28 S165 R165 := fun hT hl hC hit => sdX (F := Tryz.f165) (A := A165) mo (by kernel_rfl) (by kernel_rfl) (by kernel_rfl) (by kernel_rfl) hT hl hC hit
def A142 : Ann := ⟨fun _ _ => 0, fun _ => none, fun r => if r = 1 then some (false, [0]) else none, fun _ => []⟩
def S142 : SCode :=
 (.seq (.ops [⟨none, (some 2), .mv 2 (.k (Value.string ⟨#[]⟩)), false⟩,
   ⟨none, (some 3), .mv 3 (.k (Value.int .i64 0)), false⟩])
 (.seq (.seq (.keep [0]) (.ops [⟨none, (some 4), .mv 4 (.s 0), false⟩,
   ⟨none, (some 5), .call (some 5) 135 false [(.s 4)], false⟩,
   ⟨none, (some 6), .ex 6 (.s 5) 0, false⟩,
   ⟨none, (some 7), .ex 7 (.s 5) 1, false⟩,
   ⟨none, (some 2), .mv 2 (.s 6), false⟩,
   ⟨none, (some 3), .mv 3 (.s 7), false⟩]))
 .ret))
def R142 : List RR := [.sl 2, .sl 3]
theorem sd142 : SdT Tryz.prog 142 8 S142 R142 := fun hT hl hC hit => sdX (F := Tryz.f142) (A := A142) mo (by kernel_rfl) (by kernel_rfl) (by kernel_rfl) (by kernel_rfl) hT hl hC hit
def A135 : Ann := ⟨fun r i => if r = 9 ∧ i = 5 then 1 else 0, fun _ => none, fun r => if r = 4 then some (false, [0, 4]) else if r = 5 then some (false, [0]) else if r = 6 then some (false, [0, 5, 6, 7]) else if r = 9 then some (false, [0, 4]) else if r = 11 then some (false, [4]) else none, fun _ => []⟩
def S135 : SCode :=
 (.seq (.ops [⟨none, (some 2), .mv 2 (.k (Value.string ⟨#[]⟩)), false⟩,
   ⟨none, (some 3), .mv 3 (.k (Value.int .i64 0)), false⟩])
 (.seq (.ops [⟨none, (some 8), .mv 8 (.s 0), false⟩,
   ⟨none, (some 4), .mv 4 (.s 8), false⟩])
 (.seq (.seq (.ops [⟨none, (some 9), .mv 9 (.s 0), false⟩,
   ⟨none, (some 10), .bin 10 .eql (.s 9) (.k (Value.string ⟨#[47, 100, 101, 118, 47, 110, 117, 108, 108]⟩)), false⟩])
 (.cond (.s 10) (.ops [⟨none, (some 4), .mv 4 (.k (Value.string ⟨#[]⟩)), false⟩]) .skip))
 (.seq (.seq (.seq (.keep [0, 4]) (.ops [⟨none, (some 11), .mv 11 (.s 0), false⟩,
   ⟨none, (some 12), .lens 12 (.s 11), false⟩,
   ⟨none, (some 13), .bin 13 .gtr (.s 12) (.k (Value.int .i64 0)), false⟩,
   ⟨none, (some 14), .mv 14 (.s 13), false⟩,
   ⟨(some (14, true)), (some 15), .mv 15 (.s 0), false⟩,
   ⟨(some (14, true)), (some 16), .ixs 16 (.s 15) (.k (Value.int .i64 0)), false⟩,
   ⟨(some (14, true)), (some 17), .bin 17 .eql (.s 16) (.k (Value.int .u8 34)), false⟩,
   ⟨none, (some 18), .pk 18 (.s 14) (.s 17) (.k (Value.bool false)), false⟩]))
 (.cond (.s 18) (.seq (.seq (.keep [0]) (.ops [⟨none, (some 20), .mv 20 (.s 0), false⟩,
   ⟨none, (some 21), .call (some 21) 182 false [(.s 20)], false⟩,
   ⟨none, (some 19), .mv 19 (.s 21), false⟩,
   ⟨none, (some 22), .ex 22 (.s 19) 0, false⟩,
   ⟨none, (some 23), .ex 23 (.s 19) 1, false⟩,
   ⟨none, (some 24), .ex 24 (.s 19) 2, false⟩,
   ⟨none, (some 5), .mv 5 (.s 22), false⟩,
   ⟨none, (some 6), .mv 6 (.s 23), false⟩,
   ⟨none, (some 7), .mv 7 (.s 24), false⟩]))
 (.seq (.seq (.seq (.keep [0, 5, 6, 7]) (.ops [⟨none, (some 25), .mv 25 (.s 7), false⟩,
   ⟨none, (some 26), .bin 26 .neq (.s 25) (.k (Value.int .i64 0)), false⟩,
   ⟨none, (some 27), .mv 27 (.s 26), false⟩,
   ⟨(some (27, false)), (some 28), .mv 28 (.s 6), false⟩,
   ⟨(some (27, false)), (some 29), .bin 29 .neq (.s 28) (.k (Value.string ⟨#[]⟩)), false⟩,
   ⟨none, (some 30), .pk 30 (.s 27) (.k (Value.bool true)) (.s 29), false⟩]))
 (.cond (.s 30) (.seq (.ops [⟨none, (some 2), .mv 2 (.k (Value.string ⟨#[]⟩)), false⟩,
   ⟨none, (some 3), .mv 3 (.k (Value.int .i64 253)), false⟩])
 .ret) .skip))
 (.ops [⟨none, (some 31), .mv 31 (.s 5), false⟩,
   ⟨none, (some 4), .mv 4 (.s 31), false⟩]))) .skip))
 (.seq (.seq (.seq (.keep [0, 4]) (.ops [⟨none, (some 32), .mv 32 (.s 4), false⟩,
   ⟨none, (some 33), .lens 33 (.s 32), false⟩,
   ⟨none, (some 34), .bin 34 .gtr (.s 33) (.k (Value.int .i64 64)), false⟩,
   ⟨none, (some 35), .mv 35 (.s 34), false⟩,
   ⟨(some (35, false)), (some 36), .mv 36 (.s 4), false⟩,
   ⟨(some (35, false)), (some 37), .call (some 37) 183 true [(.s 36)], false⟩,
   ⟨(some (35, false)), (some 38), .mv 38 (.s 0), false⟩,
   ⟨(some (35, false)), (some 39), .bin 39 .neq (.s 37) (.s 38), false⟩,
   ⟨none, (some 40), .pk 40 (.s 35) (.k (Value.bool true)) (.s 39), false⟩]))
 (.cond (.s 40) (.seq (.ops [⟨none, (some 2), .mv 2 (.k (Value.string ⟨#[]⟩)), false⟩,
   ⟨none, (some 3), .mv 3 (.k (Value.int .i64 253)), false⟩])
 .ret) .skip))
 (.seq (.seq (.keep [4]) (.ops [⟨none, (some 41), .mv 41 (.s 4), false⟩,
   ⟨none, (some 2), .mv 2 (.s 41), false⟩,
   ⟨none, (some 3), .mv 3 (.k (Value.int .i64 0)), false⟩]))
 .ret))))))
def R135 : List RR := [.sl 2, .sl 3]
theorem sd135 : SdT Tryz.prog 135 42 S135 R135 := fun hT hl hC hit => sdX (F := Tryz.f135) (A := A135) mo (by kernel_rfl) (by kernel_rfl) (by kernel_rfl) (by kernel_rfl) hT hl hC hit
def A32 : Ann := ⟨fun r i => if r = 2 ∧ i = 0 then 57 else if r = 4 ∧ i = 0 then 49 else if r = 9 ∧ i = 9 then 1 else 0, fun r => if r = 13 then some [(0, true, []), (1, true, []), (2, true, []), (4, true, []), (3, true, []), (5, false, [0, 1, 2, 3, 4, 5, 6, 7, 8, 9, 10, 11, 12, 13, 14, 15])] else if r = 10 then some [(0, true, [1]), (2, true, []), (3, true, []), (4, true, []), (5, true, []), (1, true, [1]), (6, false, [1]), (7, false, []), (8, false, [0, 1, 2, 3, 4, 5, 6, 7, 8, 9, 10, 11, 12, 13, 14, 15]), (9, true, []), (10, false, [0, 1, 2, 3, 4, 5, 6, 7, 8, 9, 10, 11, 12, 13, 14, 15])] else none, fun r => if r = 1 then some (false, [0, 3]) else if r = 5 then some (false, [3, 4, 5, 6]) else if r = 6 then some (false, [3, 4, 5, 6]) else if r = 8 then some (false, [3, 4, 5, 6]) else if r = 9 then some (false, [3, 4, 5, 6]) else if r = 10 then some (false, [3, 4, 5, 6]) else if r = 11 then some (false, [3, 4, 5, 6]) else if r = 12 then some (false, [3, 4, 5]) else if r = 13 then some (false, [3, 4]) else if r = 14 then some (false, [3, 5]) else none, fun r => if r = 3 then [3, 4, 5] else if r = 9 then [3, 4, 5, 6] else []⟩
def S32 : SCode :=
 (.seq (.ops [⟨none, (some 2), .mv 2 (.k (Value.slice none 0 0)), false⟩,
   ⟨none, (some 3), .al 3 29 [(Value.int .i64 0), (Value.int .i64 0)], false⟩])
 (.seq (.seq (.keep [0, 3]) (.ops [⟨none, (some 7), .mv 7 (.s 0), false⟩,
   ⟨none, (some 8), .call (some 8) 39 false [(.s 7)], false⟩,
   ⟨none, (some 4), .mv 4 (.s 8), false⟩]))
 (.seq (.ops [⟨none, (some 5), .nr 5 55 3, false⟩])
 (.seq (.block 0 (.loop [3, 4, 5] (.seq (.seq (.ops [⟨none, (some 9), .mv 9 (.s 4), false⟩,
   ⟨none, (some 10), .call (some 10) 40 false [(.s 9)], false⟩])
 (.cond (.s 10) .skip (.exit 0)))
 (.block 1 (.seq (.ops [⟨none, (some 6), .aln 6 55 [(Value.string ⟨#[]⟩), (Value.string ⟨#[]⟩), (Value.slice none 0 0)] 2 47 5, false⟩])
 (.seq (.seq (.keep [3, 4, 5, 6]) (.ops [⟨none, (some 11), .mv 11 (.s 4), false⟩,
   ⟨none, (some 12), .call (some 12) 81 false [(.s 11), (.k (Value.string ⟨#[45, 45, 45, 32]⟩))], false⟩,
   ⟨none, (some 13), .fa 13 0 (.s 6), false⟩,
   ⟨none, none, .st false 1 (.s 13) (.s 12), false⟩]))
 (.seq (.seq (.seq (.keep [3, 4, 5, 6]) (.ops [⟨none, (some 14), .mv 14 (.s 5), false⟩,
   ⟨none, (some 15), .len 15 (.s 14), false⟩,
   ⟨none, (some 16), .bin 16 .geq (.s 15) (.k (Value.int .i64 64)), false⟩]))
 (.cond (.s 16) (.ops [⟨none, (some 17), .mv 17 (.s 4), false⟩,
   ⟨none, (some 18), .call (some 18) 43 false [(.s 17), (.k (Value.int .i64 9))], false⟩]) .skip))
 (.seq (.seq (.keep [3, 4, 5, 6]) (.ops [⟨none, (some 19), .mv 19 (.s 4), false⟩,
   ⟨none, (some 20), .call (some 20) 81 false [(.s 19), (.k (Value.string ⟨#[43, 43, 43, 32]⟩))], false⟩,
   ⟨none, (some 21), .fa 21 1 (.s 6), false⟩,
   ⟨none, none, .st false 1 (.s 21) (.s 20), false⟩]))
 (.seq (.block 2 (.loop [3, 4, 5, 6] (.seq (.seq (.seq (.keep [3, 4, 5, 6]) (.ops [⟨none, (some 22), .mv 22 (.s 4), false⟩,
   ⟨none, (some 23), .nc 23 (.s 22), false⟩,
   ⟨none, (some 24), .fa 24 2 (.s 23), false⟩,
   ⟨none, (some 25), .fa 25 1 (.s 24), false⟩,
   ⟨none, (some 26), .ld 26 false 1 (.s 25), false⟩,
   ⟨none, (some 27), .bin 27 .eql (.s 26) (.k (Value.int .i64 0)), false⟩,
   ⟨none, (some 28), .mv 28 (.s 27), false⟩,
   ⟨(some (28, true)), (some 29), .fa 29 2 (.s 6), false⟩,
   ⟨(some (28, true)), (some 30), .ld 30 false 1 (.s 29), false⟩,
   ⟨(some (28, true)), (some 31), .len 31 (.s 30), true⟩,
   ⟨(some (28, true)), (some 32), .bin 32 .eql (.s 31) (.k (Value.int .i64 0)), false⟩,
   ⟨(some (28, true)), (some 33), .mv 33 (.s 32), false⟩,
   ⟨(some (33, false)), (some 34), .mv 34 (.s 4), false⟩,
   ⟨(some (33, false)), (some 35), .call (some 35) 79 false [(.s 34), (.k (Value.string ⟨#[64, 64]⟩))], false⟩,
   ⟨(some (28, true)), (some 36), .pk 36 (.s 33) (.k (Value.bool true)) (.s 35), false⟩,
   ⟨none, (some 37), .pk 37 (.s 28) (.s 36) (.k (Value.bool false)), false⟩]))
 (.cond (.s 37) .skip (.exit 2)))
 (.block 3 (.seq (.keep [3, 4, 5, 6]) (.dr [([1], true, ⟨none, (some 38), .fa 38 2 (.s 6), false⟩),
   ([], true, ⟨none, (some 40), .mv 40 (.s 4), false⟩),
   ([], true, ⟨none, (some 41), .fa 41 2 (.s 6), false⟩),
   ([], true, ⟨none, (some 42), .ld 42 false 1 (.s 41), false⟩),
   ([], true, ⟨none, (some 43), .len 43 (.s 42), false⟩),
   ([1], true, ⟨none, (some 39), .ld 39 false 1 (.s 38), false⟩),
   ([1], false, ⟨none, (some 44), .call (some 44) 82 false [(.s 40), (.s 43)], false⟩),
   ([], false, ⟨none, (some 45), .bs 45 47 5 [(.s 44)], false⟩),
   ([0, 1, 2, 3, 4, 5, 6, 7, 8, 9, 10, 11, 12, 13, 14, 15], false, ⟨none, (some 46), .ap 46 47 5 56 (.s 39) (.s 45), false⟩),
   ([], true, ⟨none, (some 47), .fa 47 2 (.s 6), true⟩),
   ([0, 1, 2, 3, 4, 5, 6, 7, 8, 9, 10, 11, 12, 13, 14, 15], false, ⟨none, none, .st false 1 (.s 47) (.s 46), false⟩)]))))))
 (.seq (.keep [3, 4, 5, 6]) (.ops [⟨none, (some 48), .mv 48 (.s 5), false⟩,
   ⟨none, (some 49), .ld 49 true 3 (.s 6), false⟩,
   ⟨none, (some 50), .bs 50 55 3 [(.s 49)], false⟩,
   ⟨none, (some 51), .ap 51 55 3 56 (.s 48) (.s 50), false⟩,
   ⟨none, (some 5), .mv 5 (.s 51), false⟩])))))))))))
 (.seq (.seq (.seq (.keep [3, 4, 5]) (.ops [⟨none, (some 52), .mv 52 (.s 4), false⟩,
   ⟨none, (some 53), .nc 53 (.s 52), false⟩,
   ⟨none, (some 54), .fa 54 2 (.s 53), false⟩,
   ⟨none, (some 55), .fa 55 1 (.s 54), false⟩,
   ⟨none, (some 56), .ld 56 false 1 (.s 55), false⟩,
   ⟨none, (some 57), .bin 57 .neq (.s 56) (.k (Value.int .i64 0)), false⟩]))
 (.cond (.s 57) (.seq (.seq (.keep [3, 4]) (.dr [([], true, ⟨none, (some 58), .mv 58 (.s 4), false⟩),
   ([], true, ⟨none, (some 59), .nc 59 (.s 58), false⟩),
   ([], true, ⟨none, (some 60), .fa 60 2 (.s 59), false⟩),
   ([], true, ⟨none, (some 2), .mv 2 (.k (Value.slice none 0 0)), false⟩),
   ([], true, ⟨none, (some 61), .ld 61 true 2 (.s 60), false⟩),
   ([0, 1, 2, 3, 4, 5, 6, 7, 8, 9, 10, 11, 12, 13, 14, 15], false, ⟨none, none, .st true 2 (.s 3) (.s 61), false⟩)]))
 .ret) .skip))
 (.seq (.seq (.keep [3, 5]) (.ops [⟨none, (some 62), .mv 62 (.s 5), false⟩,
   ⟨none, (some 63), .bd 63 [(Value.int .i64 0), (Value.int .i64 0)] [], false⟩,
   ⟨none, (some 2), .mv 2 (.s 62), false⟩,
   ⟨none, none, .st true 2 (.s 3) (.s 63), false⟩]))
 .ret))))))
def R32 : List RR := [.sl 2, .ce 3 true 2]
theorem sd32 : SdT Tryz.prog 32 64 S32 R32 := fun hT hl hC hit => sdX (F := Tryz.f32) (A := A32) mo (by kernel_rfl) (by kernel_rfl) (by kernel_rfl) (by kernel_rfl) hT hl hC hit
def A82 : Ann := ⟨fun _ _ => 0, fun r => if r = 11 then some [(0, true, []), (2, true, []), (1, true, []), (4, true, []), (3, true, []), (5, true, [])] else none, fun r => if r = 1 then some (false, [0, 1, 4]) else if r = 2 then some (false, [0, 1, 4, 5]) else if r = 3 then some (false, [0, 1, 4, 5, 6]) else if r = 4 then some (false, [0, 1, 4, 6, 7, 8]) else if r = 6 then some (false, [0, 1, 4, 6, 7]) else if r = 8 then some (false, [0, 4, 6, 7]) else if r = 9 then some (false, [0, 4, 6, 7]) else if r = 11 then some (false, [0, 4, 6, 7]) else if r = 13 then some (false, [0, 4, 6, 7, 9, 10, 11]) else if r = 15 then some (false, [0, 4, 6, 7, 9, 10, 11, 12]) else if r = 16 then some (false, [0, 4, 6, 7, 9, 10, 11, 12]) else if r = 17 then some (false, [0, 4, 6, 7, 9, 10, 11, 12]) else if r = 18 then some (false, [0, 4, 6, 7, 11]) else if r = 19 then some (false, [0, 4, 6, 7]) else none, fun r => if r = 13 then [0, 4, 6, 7, 9, 10, 11] else []⟩
def S82_0 : SCode :=
 (.ops [⟨none, (some 4), .al 4 47 [(Value.int .i64 0), (Value.int .i64 0), (Value.int .i64 0), (Value.int .i64 0), (Value.slice none 0 0)], false⟩])
def S82_1 : SCode :=
 (.seq (.keep [0, 1, 4]) (.ops [⟨none, (some 13), .mv 13 (.s 0), false⟩,
   ⟨none, (some 14), .call (some 14) 42 false [(.s 13)], false⟩,
   ⟨none, (some 5), .mv 5 (.s 14), false⟩]))
def S82_2 : SCode :=
 (.seq (.keep [0, 1, 4, 5]) (.ops [⟨none, (some 15), .mv 15 (.s 0), false⟩,
   ⟨none, (some 16), .nc 16 (.s 15), false⟩,
   ⟨none, (some 17), .fa 17 1 (.s 16), false⟩,
   ⟨none, (some 18), .ld 18 false 1 (.s 17), false⟩,
   ⟨none, (some 6), .mv 6 (.s 18), false⟩]))
def S82_3 : SCode :=
 (.seq (.keep [0, 1, 4, 5, 6]) (.ops [⟨none, (some 20), .mv 20 (.s 5), false⟩,
   ⟨none, (some 21), .call (some 21) 143 false [(.s 20)], false⟩,
   ⟨none, (some 19), .mv 19 (.s 21), false⟩,
   ⟨none, (some 22), .ex 22 (.s 19) 0, false⟩,
   ⟨none, (some 23), .ex 23 (.s 19) 1, false⟩,
   ⟨none, (some 7), .al 7 47 [(Value.int .i64 0), (Value.int .i64 0), (Value.int .i64 0), (Value.int .i64 0), (Value.slice none 0 0)], false⟩,
   ⟨none, none, .st true 5 (.s 7) (.s 22), false⟩,
   ⟨none, (some 8), .mv 8 (.s 23), false⟩]))
def S82_4 : SCode :=
 (.block 0 (.seq (.seq (.keep [0, 1, 4, 6, 7, 8]) (.ops [⟨none, (some 25), .mv 25 (.s 8), false⟩,
   ⟨none, (some 26), .not 26 (.s 25), false⟩,
   ⟨none, (some 24), .mv 24 (.s 26), false⟩]))
 (.cond (.s 24) (.ops [⟨none, (some 27), .mv 27 (.s 0), false⟩,
   ⟨none, (some 28), .call (some 28) 43 false [(.s 27), (.k (Value.int .i64 3))], false⟩]) (.seq (.seq (.keep [0, 1, 4, 6, 7]) (.ops [⟨none, (some 30), .mv 30 (.s 1), false⟩,
   ⟨none, (some 31), .bin 31 .geq (.s 30) (.k (Value.int .i64 4096)), false⟩,
   ⟨none, (some 29), .mv 29 (.s 31), false⟩]))
 (.cond (.s 29) (.ops [⟨none, (some 32), .mv 32 (.s 0), false⟩,
   ⟨none, (some 33), .call (some 33) 43 false [(.s 32), (.k (Value.int .i64 9))], false⟩]) (.seq (.seq (.seq (.keep [0, 4, 6, 7]) (.ops [⟨none, (some 35), .fa 35 0 (.s 7), false⟩,
   ⟨none, (some 36), .ld 36 false 1 (.s 35), false⟩,
   ⟨none, (some 37), .bin 37 .eql (.s 36) (.k (Value.int .i64 0)), false⟩,
   ⟨none, (some 38), .mv 38 (.s 37), false⟩,
   ⟨(some (38, true)), (some 39), .fa 39 1 (.s 7), false⟩,
   ⟨(some (38, true)), (some 40), .ld 40 false 1 (.s 39), false⟩,
   ⟨(some (38, true)), (some 41), .bin 41 .gtr (.s 40) (.k (Value.int .i64 0)), false⟩,
   ⟨none, (some 42), .pk 42 (.s 38) (.s 41) (.k (Value.bool false)), false⟩,
   ⟨none, (some 34), .mv 34 (.s 42), false⟩]))
 (.cond (.s 34) .skip (.seq (.keep [0, 4, 6, 7]) (.ops [⟨none, (some 43), .fa 43 2 (.s 7), false⟩,
   ⟨none, (some 44), .ld 44 false 1 (.s 43), false⟩,
   ⟨none, (some 45), .bin 45 .eql (.s 44) (.k (Value.int .i64 0)), false⟩,
   ⟨none, (some 46), .mv 46 (.s 45), false⟩,
   ⟨(some (46, true)), (some 47), .fa 47 3 (.s 7), false⟩,
   ⟨(some (46, true)), (some 48), .ld 48 false 1 (.s 47), false⟩,
   ⟨(some (46, true)), (some 49), .bin 49 .gtr (.s 48) (.k (Value.int .i64 0)), false⟩,
   ⟨none, (some 50), .pk 50 (.s 46) (.s 49) (.k (Value.bool false)), false⟩,
   ⟨none, (some 34), .mv 34 (.s 50), false⟩]))))
 (.cond (.s 34) (.ops [⟨none, (some 51), .mv 51 (.s 0), false⟩,
   ⟨none, (some 52), .call (some 52) 43 false [(.s 51), (.k (Value.int .i64 2))], false⟩]) .skip)))))))
def S82_5 : SCode :=
 (.seq (.keep [0, 4, 6, 7]) (.dr [([], true, ⟨none, (some 53), .fa 53 1 (.s 7), false⟩),
   ([], true, ⟨none, (some 55), .fa 55 3 (.s 7), false⟩),
   ([], true, ⟨none, (some 54), .ld 54 false 1 (.s 53), false⟩),
   ([], true, ⟨none, (some 9), .mv 9 (.s 54), false⟩),
   ([], true, ⟨none, (some 56), .ld 56 false 1 (.s 55), false⟩),
   ([], true, ⟨none, (some 10), .mv 10 (.s 56), false⟩)]))
def S82_6 : SCode :=
 (.ops [⟨none, (some 11), .mv 11 (.k (Value.bool false)), false⟩])
def S82_7 : SCode :=
 (.block 1 (.loop [0, 4, 6, 7, 9, 10, 11] (.seq (.seq (.seq (.keep [0, 4, 6, 7, 9, 10, 11]) (.ops [⟨none, (some 57), .mv 57 (.s 9), false⟩,
   ⟨none, (some 58), .mv 58 (.s 10), false⟩,
   ⟨none, (some 59), .binc 59 .add (.s 57) (.s 58), false⟩,
   ⟨none, (some 60), .bin 60 .gtr (.s 59) (.k (Value.int .i64 0)), false⟩,
   ⟨none, (some 61), .mv 61 (.s 60), false⟩,
   ⟨(some (61, true)), (some 62), .mv 62 (.s 0), false⟩,
   ⟨(some (61, true)), (some 63), .nc 63 (.s 62), false⟩,
   ⟨(some (61, true)), (some 64), .fa 64 2 (.s 63), false⟩,
   ⟨(some (61, true)), (some 65), .fa 65 1 (.s 64), false⟩,
   ⟨(some (61, true)), (some 66), .ld 66 false 1 (.s 65), true⟩,
   ⟨(some (61, true)), (some 67), .bin 67 .eql (.s 66) (.k (Value.int .i64 0)), false⟩,
   ⟨none, (some 68), .pk 68 (.s 61) (.s 67) (.k (Value.bool false)), false⟩]))
 (.cond (.s 68) .skip (.exit 1)))
 (.block 2 (.seq (.ops [⟨none, (some 12), .al 12 103 [(Value.int .u8 0), (Value.string ⟨#[]⟩)], false⟩])
 (.seq (.seq (.keep [0, 4, 6, 7, 9, 10, 11, 12]) (.ops [⟨none, (some 70), .mv 70 (.s 0), false⟩,
   ⟨none, (some 71), .mv 71 (.s 9), false⟩,
   ⟨none, (some 72), .mv 72 (.s 10), false⟩,
   ⟨none, (some 73), .call (some 73) 144 false [(.s 70), (.s 71), (.s 72)], false⟩,
   ⟨none, (some 69), .mv 69 (.s 73), false⟩,
   ⟨none, (some 74), .ex 74 (.s 69) 0, false⟩,
   ⟨none, (some 75), .ex 75 (.s 69) 1, false⟩,
   ⟨none, (some 76), .ex 76 (.s 69) 2, false⟩,
   ⟨none, none, .st true 2 (.s 12) (.s 74), false⟩,
   ⟨none, (some 9), .mv 9 (.s 75), true⟩,
   ⟨none, (some 10), .mv 10 (.s 76), false⟩]))
 (.seq (.seq (.keep [0, 4, 6, 7, 9, 10, 11, 12]) (.ops [⟨none, (some 77), .mv 77 (.s 11), false⟩,
   ⟨none, (some 78), .mv 78 (.s 77), false⟩,
   ⟨(some (78, false)), (some 79), .fa 79 0 (.s 12), false⟩,
   ⟨(some (78, false)), (some 80), .ld 80 false 1 (.s 79), false⟩,
   ⟨(some (78, false)), (some 81), .bin 81 .neq (.s 80) (.k (Value.int .u8 32)), false⟩,
   ⟨none, (some 82), .pk 82 (.s 78) (.k (Value.bool true)) (.s 81), false⟩,
   ⟨none, (some 11), .mv 11 (.s 82), false⟩]))
 (.seq (.keep [0, 4, 6, 7, 9, 10, 11, 12]) (.ops [⟨none, (some 83), .fa 83 4 (.s 7), false⟩,
   ⟨none, (some 84), .ld 84 false 1 (.s 83), false⟩,
   ⟨none, (some 85), .ld 85 true 2 (.s 12), false⟩,
   ⟨none, (some 86), .bs 86 103 2 [(.s 85)], false⟩,
   ⟨none, (some 87), .ap 87 103 2 24 (.s 84) (.s 86), false⟩,
   ⟨none, (some 88), .fa 88 4 (.s 7), false⟩,
   ⟨none, none, .st false 1 (.s 88) (.s 87), false⟩])))))))))
def S82_8 : SCode :=
 (.seq (.seq (.keep [0, 4, 6, 7, 11]) (.ops [⟨none, (some 89), .mv 89 (.s 0), false⟩,
   ⟨none, (some 90), .nc 90 (.s 89), false⟩,
   ⟨none, (some 91), .fa 91 2 (.s 90), false⟩,
   ⟨none, (some 92), .fa 92 1 (.s 91), false⟩,
   ⟨none, (some 93), .ld 93 false 1 (.s 92), false⟩,
   ⟨none, (some 94), .bin 94 .eql (.s 93) (.k (Value.int .i64 0)), false⟩,
   ⟨none, (some 95), .mv 95 (.s 94), false⟩,
   ⟨(some (95, true)), (some 96), .mv 96 (.s 11), false⟩,
   ⟨(some (95, true)), (some 97), .not 97 (.s 96), false⟩,
   ⟨none, (some 98), .pk 98 (.s 95) (.s 97) (.k (Value.bool false)), true⟩]))
 (.cond (.s 98) (.seq (.keep [0, 4, 6, 7]) (.ops [⟨none, (some 99), .mv 99 (.s 0), false⟩,
   ⟨none, (some 100), .mv 100 (.s 6), false⟩,
   ⟨none, (some 101), .bd 101 [(Value.int .i64 0), (Value.int .i64 0)] [(0, 1, (.s 100)), (1, 1, (.k (Value.int .i64 50)))], false⟩,
   ⟨none, (some 102), .nc 102 (.s 99), false⟩,
   ⟨none, (some 103), .fa 103 2 (.s 102), false⟩,
   ⟨none, none, .st true 2 (.s 103) (.s 101), false⟩])) .skip))
def S82_9 : SCode :=
 (.ops [⟨none, (some 104), .ld 104 true 5 (.s 7), false⟩,
   ⟨none, none, .st true 5 (.s 4) (.s 104), false⟩])
def S82r10 : SCode := .ret
def S82r9 : SCode := .seq S82_9 S82r10
def S82r8 : SCode := .seq S82_8 S82r9
def S82r7 : SCode := .seq S82_7 S82r8
def S82r6 : SCode := .seq S82_6 S82r7
def S82r5 : SCode := .seq S82_5 S82r6
def S82r4 : SCode := .seq S82_4 S82r5
def S82r3 : SCode := .seq S82_3 S82r4
def S82r2 : SCode := .seq S82_2 S82r3
def S82r1 : SCode := .seq S82_1 S82r2
def S82 : SCode := .seq S82_0 S82r1
def R82 : List RR := [.ce 4 true 5]
theorem sd82 : SdT Tryz.prog 82 105 S82 R82 := fun hT hl hC hit => sdX (F := Tryz.f82) (A := A82) mo (by kernel_rfl) (by kernel_rfl) (by kernel_rfl) (by kernel_rfl) hT hl hC hit
def A144 : Ann := ⟨fun _ _ => 0, fun r => if r = 5 then some [(0, true, []), (1, true, []), (2, true, []), (3, true, []), (4, true, []), (5, false, []), (6, false, [999])] else none, fun r => if r = 1 then some (false, [0, 1, 2, 6]) else if r = 2 then some (false, [0, 1, 2, 6, 9]) else if r = 4 then some (false, [6]) else if r = 5 then some (false, [0, 1, 2, 6, 9]) else if r = 6 then some (false, [0, 1, 2, 6, 10]) else if r = 7 then some (false, [0, 1, 2, 6, 10]) else if r = 8 then some (false, [0, 1, 2, 6, 10]) else if r = 9 then some (false, [0, 1, 2, 6, 10]) else if r = 10 then some (false, [0, 1, 2, 6, 10]) else if r = 12 then some (false, [6]) else if r = 13 then some (false, [0, 1, 2, 6, 10]) else if r = 14 then some (false, [0, 1, 2, 6, 10, 11]) else if r = 15 then some (false, [0, 1, 2, 6, 10]) else if r = 16 then some (false, [1, 2, 6, 10]) else if r = 17 then some (false, [1, 2, 6, 10]) else none, fun _ => []⟩
def S144 : SCode :=
 (.seq (.ops [⟨none, (some 6), .al 6 103 [(Value.int .u8 0), (Value.string ⟨#[]⟩)], false⟩,
   ⟨none, (some 7), .mv 7 (.k (Value.int .i64 0)), false⟩,
   ⟨none, (some 8), .mv 8 (.k (Value.int .i64 0)), false⟩])
 (.seq (.seq (.keep [0, 1, 2, 6]) (.ops [⟨none, (some 12), .mv 12 (.s 0), false⟩,
   ⟨none, (some 13), .call (some 13) 42 false [(.s 12)], false⟩,
   ⟨none, (some 9), .mv 9 (.s 13), false⟩]))
 (.seq (.seq (.seq (.keep [0, 1, 2, 6, 9]) (.ops [⟨none, (some 14), .mv 14 (.s 9), false⟩,
   ⟨none, (some 15), .lens 15 (.s 14), false⟩,
   ⟨none, (some 16), .bin 16 .eql (.s 15) (.k (Value.int .i64 0)), false⟩,
   ⟨none, (some 17), .mv 17 (.s 16), false⟩,
   ⟨(some (17, false)), (some 18), .mv 18 (.s 9), false⟩,
   ⟨(some (17, false)), (some 19), .ixs 19 (.s 18) (.k (Value.int .i64 0)), false⟩,
   ⟨(some (17, false)), (some 20), .bin 20 .neq (.s 19) (.k (Value.int .u8 32)), false⟩,
   ⟨(some (17, false)), (some 21), .mv 21 (.s 20), false⟩,
   ⟨(some (21, true)), (some 22), .mv 22 (.s 9), false⟩,
   ⟨(some (21, true)), (some 23), .ixs 23 (.s 22) (.k (Value.int .i64 0)), true⟩,
   ⟨(some (21, true)), (some 24), .bin 24 .neq (.s 23) (.k (Value.int .u8 45)), false⟩,
   ⟨(some (17, false)), (some 25), .pk 25 (.s 21) (.s 24) (.k (Value.bool false)), false⟩,
   ⟨(some (17, false)), (some 26), .mv 26 (.s 25), false⟩,
   ⟨(some (26, true)), (some 27), .mv 27 (.s 9), false⟩,
   ⟨(some (26, true)), (some 28), .ixs 28 (.s 27) (.k (Value.int .i64 0)), false⟩,
   ⟨(some (26, true)), (some 29), .bin 29 .neq (.s 28) (.k (Value.int .u8 43)), false⟩,
   ⟨(some (17, false)), (some 30), .pk 30 (.s 26) (.s 29) (.k (Value.bool false)), false⟩,
   ⟨none, (some 31), .pk 31 (.s 17) (.k (Value.bool true)) (.s 30), false⟩]))
 (.cond (.s 31) (.seq (.ops [⟨none, (some 32), .mv 32 (.s 0), false⟩,
   ⟨none, (some 33), .call (some 33) 43 false [(.s 32), (.k (Value.int .i64 3))], false⟩])
 (.seq (.seq (.keep [6]) (.ops [⟨none, (some 34), .bd 34 [(Value.int .u8 0), (Value.string ⟨#[]⟩)] [], false⟩,
   ⟨none, none, .st true 2 (.s 6) (.s 34), false⟩,
   ⟨none, (some 7), .mv 7 (.k (Value.int .i64 0)), false⟩,
   ⟨none, (some 8), .mv 8 (.k (Value.int .i64 0)), false⟩]))
 .ret)) .skip))
 (.seq (.seq (.keep [0, 1, 2, 6, 9]) (.dr [([], true, ⟨none, (some 35), .mv 35 (.s 9), false⟩),
   ([], true, ⟨none, (some 36), .ixs 36 (.s 35) (.k (Value.int .i64 0)), false⟩),
   ([], true, ⟨none, (some 37), .mv 37 (.s 9), false⟩),
   ([], true, ⟨none, (some 38), .sls 38 (.s 37) (some (.k (Value.int .i64 1))) none, false⟩),
   ([], true, ⟨none, (some 39), .bd 39 [(Value.int .u8 0), (Value.string ⟨#[]⟩)] [(0, 1, (.s 36)), (1, 1, (.s 38))], false⟩),
   ([], false, ⟨none, (some 10), .al 10 103 [(Value.int .u8 0), (Value.string ⟨#[]⟩)], false⟩),
   ([999], false, ⟨none, none, .st true 2 (.s 10) (.s 39), false⟩)]))
 (.seq (.seq (.seq (.keep [0, 1, 2, 6, 10]) (.ops [⟨none, (some 40), .fa 40 0 (.s 10), false⟩,
   ⟨none, (some 41), .ld 41 false 1 (.s 40), false⟩,
   ⟨none, (some 42), .bin 42 .neq (.s 41) (.k (Value.int .u8 43)), false⟩]))
 (.cond (.s 42) (.seq (.keep [0, 1, 2, 6, 10]) (.ops [⟨none, (some 43), .mv 43 (.s 1), false⟩,
   ⟨none, (some 44), .binc 44 .sub (.s 43) (.k (Value.int .i64 1)), false⟩,
   ⟨none, (some 1), .mv 1 (.s 44), false⟩])) .skip))
 (.seq (.seq (.seq (.keep [0, 1, 2, 6, 10]) (.ops [⟨none, (some 45), .fa 45 0 (.s 10), false⟩,
   ⟨none, (some 46), .ld 46 false 1 (.s 45), false⟩,
   ⟨none, (some 47), .bin 47 .neq (.s 46) (.k (Value.int .u8 45)), false⟩]))
 (.cond (.s 47) (.seq (.keep [0, 1, 2, 6, 10]) (.ops [⟨none, (some 48), .mv 48 (.s 2), false⟩,
   ⟨none, (some 49), .binc 49 .sub (.s 48) (.k (Value.int .i64 1)), false⟩,
   ⟨none, (some 2), .mv 2 (.s 49), false⟩])) .skip))
 (.seq (.seq (.seq (.keep [0, 1, 2, 6, 10]) (.ops [⟨none, (some 50), .mv 50 (.s 1), false⟩,
   ⟨none, (some 51), .bin 51 .lss (.s 50) (.k (Value.int .i64 0)), false⟩,
   ⟨none, (some 52), .mv 52 (.s 51), false⟩,
   ⟨(some (52, false)), (some 53), .mv 53 (.s 2), false⟩,
   ⟨(some (52, false)), (some 54), .bin 54 .lss (.s 53) (.k (Value.int .i64 0)), false⟩,
   ⟨none, (some 55), .pk 55 (.s 52) (.k (Value.bool true)) (.s 54), false⟩]))
 (.cond (.s 55) (.seq (.ops [⟨none, (some 56), .mv 56 (.s 0), false⟩,
   ⟨none, (some 57), .call (some 57) 43 false [(.s 56), (.k (Value.int .i64 3))], false⟩])
 (.seq (.seq (.keep [6]) (.ops [⟨none, (some 58), .bd 58 [(Value.int .u8 0), (Value.string ⟨#[]⟩)] [], false⟩,
   ⟨none, none, .st true 2 (.s 6) (.s 58), false⟩,
   ⟨none, (some 7), .mv 7 (.k (Value.int .i64 0)), false⟩,
   ⟨none, (some 8), .mv 8 (.k (Value.int .i64 0)), false⟩]))
 .ret)) .skip))
 (.seq (.seq (.keep [0, 1, 2, 6, 10]) (.ops [⟨none, (some 59), .fa 59 0 (.s 10), false⟩,
   ⟨none, (some 60), .ld 60 false 1 (.s 59), false⟩,
   ⟨none, (some 61), .bin 61 .eql (.s 60) (.k (Value.int .u8 43)), false⟩,
   ⟨none, (some 62), .mv 62 (.s 61), false⟩,
   ⟨(some (62, false)), (some 63), .mv 63 (.s 1), false⟩,
   ⟨(some (62, false)), (some 64), .bin 64 .eql (.s 63) (.k (Value.int .i64 0)), false⟩,
   ⟨none, (some 65), .pk 65 (.s 62) (.k (Value.bool true)) (.s 64), false⟩,
   ⟨none, (some 66), .mv 66 (.s 65), false⟩,
   ⟨(some (66, true)), (some 67), .fa 67 0 (.s 10), false⟩,
   ⟨(some (66, true)), (some 68), .ld 68 false 1 (.s 67), true⟩,
   ⟨(some (66, true)), (some 69), .bin 69 .eql (.s 68) (.k (Value.int .u8 45)), false⟩,
   ⟨(some (66, true)), (some 70), .mv 70 (.s 69), false⟩,
   ⟨(some (70, false)), (some 71), .mv 71 (.s 2), false⟩,
   ⟨(some (70, false)), (some 72), .bin 72 .eql (.s 71) (.k (Value.int .i64 0)), false⟩,
   ⟨(some (66, true)), (some 73), .pk 73 (.s 70) (.k (Value.bool true)) (.s 72), false⟩,
   ⟨none, (some 74), .pk 74 (.s 66) (.s 73) (.k (Value.bool false)), false⟩,
   ⟨none, (some 11), .mv 11 (.s 74), false⟩]))
 (.seq (.seq (.seq (.keep [0, 1, 2, 6, 10, 11]) (.ops [⟨none, (some 75), .mv 75 (.s 11), false⟩,
   ⟨none, (some 76), .mv 76 (.s 75), false⟩,
   ⟨(some (76, true)), (some 77), .fa 77 1 (.s 10), false⟩,
   ⟨(some (76, true)), (some 78), .ld 78 false 1 (.s 77), false⟩,
   ⟨(some (76, true)), (some 79), .bin 79 .neq (.s 78) (.k (Value.string ⟨#[]⟩)), false⟩,
   ⟨none, (some 80), .pk 80 (.s 76) (.s 79) (.k (Value.bool false)), false⟩,
   ⟨none, (some 81), .mv 81 (.s 80), false⟩,
   ⟨(some (81, true)), (some 82), .mv 82 (.s 0), false⟩,
   ⟨(some (81, true)), (some 83), .call (some 83) 79 false [(.s 82), (.k (Value.string ⟨#[92, 32, 78, 111, 32, 110, 101, 119, 108, 105, 110, 101, 32, 97, 116, 32, 101, 110, 100, 32, 111, 102, 32, 102, 105, 108, 101, 10]⟩))], false⟩,
   ⟨none, (some 84), .pk 84 (.s 81) (.s 83) (.k (Value.bool false)), true⟩]))
 (.cond (.s 84) (.seq (.keep [0, 1, 2, 6, 10]) (.ops [⟨none, (some 85), .mv 85 (.s 0), false⟩,
   ⟨none, (some 86), .nc 86 (.s 85), false⟩,
   ⟨none, (some 87), .fa 87 1 (.s 86), false⟩,
   ⟨none, (some 88), .ld 88 false 1 (.s 87), false⟩,
   ⟨none, (some 89), .binc 89 .add (.s 88) (.k (Value.int .i64 1)), false⟩,
   ⟨none, (some 90), .nc 90 (.s 85), false⟩,
   ⟨none, (some 91), .fa 91 1 (.s 90), false⟩,
   ⟨none, none, .st false 1 (.s 91) (.s 89), false⟩])) (.seq (.keep [1, 2, 6, 10]) (.ops [⟨none, (some 92), .fa 92 1 (.s 10), false⟩,
   ⟨none, (some 93), .ld 93 false 1 (.s 92), false⟩,
   ⟨none, (some 94), .bin 94 .add (.s 93) (.k (Value.string ⟨#[10]⟩)), false⟩,
   ⟨none, (some 95), .fa 95 1 (.s 10), false⟩,
   ⟨none, none, .st false 1 (.s 95) (.s 94), false⟩]))))
 (.seq (.seq (.keep [1, 2, 6, 10]) (.ops [⟨none, (some 96), .ld 96 true 2 (.s 10), false⟩,
   ⟨none, (some 97), .mv 97 (.s 1), false⟩,
   ⟨none, (some 98), .mv 98 (.s 2), false⟩,
   ⟨none, none, .st true 2 (.s 6) (.s 96), false⟩,
   ⟨none, (some 7), .mv 7 (.s 97), false⟩,
   ⟨none, (some 8), .mv 8 (.s 98), false⟩]))
 .ret))))))))))
def R144 : List RR := [.ce 6 true 2, .sl 7, .sl 8]
theorem sd144 : SdT Tryz.prog 144 99 S144 R144 := fun hT hl hC hit => sdX (F := Tryz.f144) (A := A144) mo (by kernel_rfl) (by kernel_rfl) (by kernel_rfl) (by kernel_rfl) hT hl hC hit
def A143 : Ann := ⟨fun r i => if r = 1 ∧ i = 0 then 105 else 0, fun _ => none, fun r => if r = 2 then some (false, [0, 2, 4]) else if r = 3 then some (false, [2, 4]) else if r = 4 then some (false, [0, 2, 4]) else if r = 5 then some (false, [2, 4, 5, 6, 7]) else if r = 6 then some (false, [2, 4, 5, 7, 8, 9, 10]) else if r = 7 then some (false, [2, 4]) else if r = 9 then some (false, [2, 4, 5, 8]) else if r = 10 then some (false, [2, 4, 8, 11]) else if r = 11 then some (false, [2, 4, 11, 12]) else none, fun _ => []⟩
def S143 : SCode :=
 (.seq (.ops [⟨none, (some 2), .al 2 47 [(Value.int .i64 0), (Value.int .i64 0), (Value.int .i64 0), (Value.int .i64 0), (Value.slice none 0 0)], false⟩,
   ⟨none, (some 3), .mv 3 (.k (Value.bool false)), false⟩])
 (.seq (.ops [⟨none, (some 4), .aln 4 47 [(Value.int .i64 0), (Value.int .i64 0), (Value.int .i64 0), (Value.int .i64 0), (Value.slice none 0 0)] 4 103 2, false⟩])
 (.seq (.seq (.seq (.keep [0, 2, 4]) (.ops [⟨none, (some 13), .mv 13 (.s 0), false⟩,
   ⟨none, (some 14), .lens 14 (.s 13), false⟩,
   ⟨none, (some 15), .bin 15 .lss (.s 14) (.k (Value.int .i64 4)), false⟩,
   ⟨none, (some 16), .mv 16 (.s 15), false⟩,
   ⟨(some (16, false)), (some 17), .mv 17 (.s 0), false⟩,
   ⟨(some (16, false)), (some 18), .sls 18 (.s 17) none (some (.k (Value.int .i64 4))), false⟩,
   ⟨(some (16, false)), (some 19), .bin 19 .neq (.s 18) (.k (Value.string ⟨#[64, 64, 32, 45]⟩)), false⟩,
   ⟨none, (some 20), .pk 20 (.s 16) (.k (Value.bool true)) (.s 19), false⟩]))
 (.cond (.s 20) (.seq (.seq (.keep [2, 4]) (.ops [⟨none, (some 21), .ld 21 true 5 (.s 4), false⟩,
   ⟨none, none, .st true 5 (.s 2) (.s 21), false⟩,
   ⟨none, (some 3), .mv 3 (.k (Value.bool false)), false⟩]))
 .ret) .skip))
 (.seq (.seq (.keep [0, 2, 4]) (.ops [⟨none, (some 23), .mv 23 (.s 0), false⟩,
   ⟨none, (some 24), .sls 24 (.s 23) (some (.k (Value.int .i64 4))) none, false⟩,
   ⟨none, (some 25), .call (some 25) 185 false [(.s 24), (.k (Value.string ⟨#[32, 43]⟩))], false⟩,
   ⟨none, (some 22), .mv 22 (.s 25), false⟩,
   ⟨none, (some 26), .ex 26 (.s 22) 0, false⟩,
   ⟨none, (some 27), .ex 27 (.s 22) 1, false⟩,
   ⟨none, (some 28), .ex 28 (.s 22) 2, false⟩,
   ⟨none, (some 5), .mv 5 (.s 26), false⟩,
   ⟨none, (some 6), .mv 6 (.s 27), false⟩,
   ⟨none, (some 7), .mv 7 (.s 28), true⟩]))
 (.seq (.seq (.keep [2, 4, 5, 6, 7]) (.ops [⟨none, (some 30), .mv 30 (.s 6), false⟩,
   ⟨none, (some 31), .call (some 31) 185 false [(.s 30), (.k (Value.string ⟨#[32, 64, 64]⟩))], false⟩,
   ⟨none, (some 29), .mv 29 (.s 31), false⟩,
   ⟨none, (some 32), .ex 32 (.s 29) 0, false⟩,
   ⟨none, (some 33), .ex 33 (.s 29) 1, false⟩,
   ⟨none, (some 34), .ex 34 (.s 29) 2, false⟩,
   ⟨none, (some 8), .mv 8 (.s 32), false⟩,
   ⟨none, (some 9), .mv 9 (.s 33), false⟩,
   ⟨none, (some 10), .mv 10 (.s 34), false⟩]))
 (.seq (.seq (.seq (.keep [2, 4, 5, 7, 8, 9, 10]) (.ops [⟨none, (some 35), .mv 35 (.s 7), false⟩,
   ⟨none, (some 36), .not 36 (.s 35), false⟩,
   ⟨none, (some 37), .mv 37 (.s 36), false⟩,
   ⟨(some (37, false)), (some 38), .mv 38 (.s 10), false⟩,
   ⟨(some (37, false)), (some 39), .not 39 (.s 38), false⟩,
   ⟨none, (some 40), .pk 40 (.s 37) (.k (Value.bool true)) (.s 39), false⟩,
   ⟨none, (some 41), .mv 41 (.s 40), false⟩,
   ⟨(some (41, false)), (some 42), .mv 42 (.s 9), false⟩,
   ⟨(some (41, false)), (some 43), .bin 43 .neq (.s 42) (.k (Value.string ⟨#[]⟩)), false⟩,
   ⟨(some (41, false)), (some 44), .mv 44 (.s 43), true⟩,
   ⟨(some (44, true)), (some 45), .mv 45 (.s 9), false⟩,
   ⟨(some (44, true)), (some 46), .ixs 46 (.s 45) (.k (Value.int .i64 0)), false⟩,
   ⟨(some (44, true)), (some 47), .bin 47 .neq (.s 46) (.k (Value.int .u8 32)), false⟩,
   ⟨(some (41, false)), (some 48), .pk 48 (.s 44) (.s 47) (.k (Value.bool false)), false⟩,
   ⟨none, (some 49), .pk 49 (.s 41) (.k (Value.bool true)) (.s 48), false⟩]))
 (.cond (.s 49) (.seq (.seq (.keep [2, 4]) (.ops [⟨none, (some 50), .ld 50 true 5 (.s 4), false⟩,
   ⟨none, none, .st true 5 (.s 2) (.s 50), false⟩,
   ⟨none, (some 3), .mv 3 (.k (Value.bool false)), false⟩]))
 .ret) .skip))
 (.seq (.ops [⟨none, (some 11), .mv 11 (.k (Value.bool true)), false⟩,
   ⟨none, (some 12), .mv 12 (.k (Value.bool true)), false⟩])
 (.seq (.seq (.keep [2, 4, 5, 8]) (.ops [⟨none, (some 52), .mv 52 (.s 5), false⟩,
   ⟨none, (some 53), .call (some 53) 186 false [(.s 52)], false⟩,
   ⟨none, (some 51), .mv 51 (.s 53), false⟩,
   ⟨none, (some 54), .ex 54 (.s 51) 0, false⟩,
   ⟨none, (some 55), .ex 55 (.s 51) 1, false⟩,
   ⟨none, (some 56), .ex 56 (.s 51) 2, false⟩,
   ⟨none, (some 57), .fa 57 0 (.s 4), false⟩,
   ⟨none, none, .st false 1 (.s 57) (.s 54), false⟩,
   ⟨none, (some 58), .fa 58 1 (.s 4), false⟩,
   ⟨none, none, .st false 1 (.s 58) (.s 55), true⟩,
   ⟨none, (some 11), .mv 11 (.s 56), false⟩]))
 (.seq (.seq (.keep [2, 4, 8, 11]) (.ops [⟨none, (some 60), .mv 60 (.s 8), false⟩,
   ⟨none, (some 61), .call (some 61) 186 false [(.s 60)], false⟩,
   ⟨none, (some 59), .mv 59 (.s 61), false⟩,
   ⟨none, (some 62), .ex 62 (.s 59) 0, false⟩,
   ⟨none, (some 63), .ex 63 (.s 59) 1, false⟩,
   ⟨none, (some 64), .ex 64 (.s 59) 2, false⟩,
   ⟨none, (some 65), .fa 65 2 (.s 4), false⟩,
   ⟨none, none, .st false 1 (.s 65) (.s 62), false⟩,
   ⟨none, (some 66), .fa 66 3 (.s 4), false⟩,
   ⟨none, none, .st false 1 (.s 66) (.s 63), true⟩,
   ⟨none, (some 12), .mv 12 (.s 64), false⟩]))
 (.seq (.seq (.keep [2, 4, 11, 12]) (.ops [⟨none, (some 67), .ld 67 true 5 (.s 4), false⟩,
   ⟨none, (some 68), .mv 68 (.s 11), false⟩,
   ⟨none, (some 69), .mv 69 (.s 68), false⟩,
   ⟨(some (69, true)), (some 70), .mv 70 (.s 12), false⟩,
   ⟨none, (some 71), .pk 71 (.s 69) (.s 70) (.k (Value.bool false)), false⟩,
   ⟨none, none, .st true 5 (.s 2) (.s 67), false⟩,
   ⟨none, (some 3), .mv 3 (.s 71), false⟩]))
 .ret))))))))))
def R143 : List RR := [.ce 2 true 5, .sl 3]
theorem sd143 : SdT Tryz.prog 143 72 S143 R143 := fun hT hl hC hit => sdX (F := Tryz.f143) (A := A143) mo (by kernel_rfl) (by kernel_rfl) (by kernel_rfl) (by kernel_rfl) hT hl hC hit
def A185 : Ann := ⟨fun _ _ => 0, fun r => if r = 5 then some [(0, true, []), (1, true, []), (2, true, []), (3, true, []), (4, true, []), (5, true, []), (6, true, []), (7, true, []), (8, true, []), (9, true, []), (10, true, []), (11, true, [])] else none, fun r => if r = 2 then some (false, [0, 1, 7]) else if r = 3 then some (false, [0, 1, 7]) else if r = 4 then some (false, [0, 1, 7]) else if r = 5 then some (false, [0, 1, 7]) else if r = 6 then some (false, [0]) else none, fun r => if r = 2 then [0, 1, 7] else []⟩
def S185 : SCode :=
 (.seq (.ops [⟨none, (some 4), .mv 4 (.k (Value.string ⟨#[]⟩)), false⟩,
   ⟨none, (some 5), .mv 5 (.k (Value.string ⟨#[]⟩)), false⟩,
   ⟨none, (some 6), .mv 6 (.k (Value.bool false)), false⟩])
 (.seq (.seq (.ops [⟨none, (some 7), .mv 7 (.k (Value.int .i64 0)), false⟩])
 (.block 0 (.loop [0, 1, 7] (.seq (.seq (.seq (.keep [0, 1, 7]) (.ops [⟨none, (some 8), .mv 8 (.s 7), false⟩,
   ⟨none, (some 9), .mv 9 (.s 1), false⟩,
   ⟨none, (some 10), .lens 10 (.s 9), false⟩,
   ⟨none, (some 11), .binc 11 .add (.s 8) (.s 10), false⟩,
   ⟨none, (some 12), .mv 12 (.s 0), false⟩,
   ⟨none, (some 13), .lens 13 (.s 12), false⟩,
   ⟨none, (some 14), .bin 14 .leq (.s 11) (.s 13), false⟩]))
 (.cond (.s 14) .skip (.exit 0)))
 (.seq (.block 1 (.seq (.seq (.keep [0, 1, 7]) (.ops [⟨none, (some 17), .mv 17 (.s 0), false⟩,
   ⟨none, (some 18), .mv 18 (.s 7), false⟩,
   ⟨none, (some 19), .mv 19 (.s 7), false⟩,
   ⟨none, (some 20), .mv 20 (.s 1), false⟩,
   ⟨none, (some 21), .lens 21 (.s 20), false⟩,
   ⟨none, (some 22), .binc 22 .add (.s 19) (.s 21), false⟩,
   ⟨none, (some 23), .sls 23 (.s 17) (some (.s 18)) (some (.s 22)), false⟩,
   ⟨none, (some 24), .mv 24 (.s 1), false⟩,
   ⟨none, (some 25), .bin 25 .eql (.s 23) (.s 24), false⟩]))
 (.cond (.s 25) (.seq (.seq (.keep [0, 1, 7]) (.dr [([], true, ⟨none, (some 26), .mv 26 (.s 0), false⟩),
   ([], true, ⟨none, (some 27), .mv 27 (.s 7), false⟩),
   ([], true, ⟨none, (some 28), .sls 28 (.s 26) none (some (.s 27)), false⟩),
   ([], true, ⟨none, (some 29), .mv 29 (.s 0), false⟩),
   ([], true, ⟨none, (some 30), .mv 30 (.s 7), false⟩),
   ([], true, ⟨none, (some 31), .mv 31 (.s 1), false⟩),
   ([], true, ⟨none, (some 32), .lens 32 (.s 31), false⟩),
   ([], true, ⟨none, (some 33), .binc 33 .add (.s 30) (.s 32), false⟩),
   ([], true, ⟨none, (some 34), .sls 34 (.s 29) (some (.s 33)) none, false⟩),
   ([], true, ⟨none, (some 4), .mv 4 (.s 28), true⟩),
   ([], true, ⟨none, (some 5), .mv 5 (.s 34), false⟩),
   ([], true, ⟨none, (some 6), .mv 6 (.k (Value.bool true)), false⟩)]))
 .ret) .skip)))
 (.seq (.keep [0, 1, 7]) (.ops [⟨none, (some 15), .mv 15 (.s 7), false⟩,
   ⟨none, (some 16), .binc 16 .add (.s 15) (.k (Value.int .i64 1)), false⟩,
   ⟨none, (some 7), .mv 7 (.s 16), false⟩])))))))
 (.seq (.seq (.keep [0]) (.ops [⟨none, (some 35), .mv 35 (.s 0), false⟩,
   ⟨none, (some 4), .mv 4 (.s 35), false⟩,
   ⟨none, (some 5), .mv 5 (.k (Value.string ⟨#[]⟩)), false⟩,
   ⟨none, (some 6), .mv 6 (.k (Value.bool false)), false⟩]))
 .ret)))
def R185 : List RR := [.sl 4, .sl 5, .sl 6]
theorem sd185 : SdT Tryz.prog 185 36 S185 R185 := fun hT hl hC hit => sdX (F := Tryz.f185) (A := A185) mo (by kernel_rfl) (by kernel_rfl) (by kernel_rfl) (by kernel_rfl) hT hl hC hit
def A186 : Ann := ⟨fun _ _ => 0, fun _ => none, fun r => if r = 2 then some (false, [0, 5]) else if r = 3 then some (false, [0, 5]) else if r = 4 then some (false, [0, 5]) else if r = 5 then some (false, [0, 5]) else if r = 6 then some (false, [0, 5, 6, 7]) else if r = 7 then some (false, [6, 7, 8, 9]) else if r = 8 then some (false, [0]) else if r = 9 then some (false, [10, 11]) else none, fun r => if r = 2 then [0, 5] else []⟩
def S186 : SCode :=
 (.seq (.ops [⟨none, (some 2), .mv 2 (.k (Value.int .i64 0)), false⟩,
   ⟨none, (some 3), .mv 3 (.k (Value.int .i64 0)), false⟩,
   ⟨none, (some 4), .mv 4 (.k (Value.bool false)), false⟩])
 (.seq (.seq (.ops [⟨none, (some 5), .mv 5 (.k (Value.int .i64 0)), false⟩])
 (.block 0 (.loop [0, 5] (.seq (.seq (.seq (.keep [0, 5]) (.ops [⟨none, (some 12), .mv 12 (.s 5), false⟩,
   ⟨none, (some 13), .mv 13 (.s 0), false⟩,
   ⟨none, (some 14), .lens 14 (.s 13), false⟩,
   ⟨none, (some 15), .bin 15 .lss (.s 12) (.s 14), false⟩]))
 (.cond (.s 15) .skip (.exit 0)))
 (.seq (.block 1 (.seq (.seq (.keep [0, 5]) (.ops [⟨none, (some 18), .mv 18 (.s 0), false⟩,
   ⟨none, (some 19), .mv 19 (.s 5), false⟩,
   ⟨none, (some 20), .ixs 20 (.s 18) (.s 19), false⟩,
   ⟨none, (some 21), .bin 21 .eql (.s 20) (.k (Value.int .u8 44)), false⟩]))
 (.cond (.s 21) (.seq (.seq (.keep [0, 5]) (.ops [⟨none, (some 23), .mv 23 (.s 0), false⟩,
   ⟨none, (some 24), .mv 24 (.s 5), false⟩,
   ⟨none, (some 25), .sls 25 (.s 23) none (some (.s 24)), false⟩,
   ⟨none, (some 26), .call (some 26) 90 false [(.s 25)], false⟩,
   ⟨none, (some 22), .mv 22 (.s 26), false⟩,
   ⟨none, (some 27), .ex 27 (.s 22) 0, false⟩,
   ⟨none, (some 28), .ex 28 (.s 22) 1, false⟩,
   ⟨none, (some 6), .mv 6 (.s 27), false⟩,
   ⟨none, (some 7), .mv 7 (.s 28), false⟩]))
 (.seq (.seq (.keep [0, 5, 6, 7]) (.ops [⟨none, (some 30), .mv 30 (.s 0), false⟩,
   ⟨none, (some 31), .mv 31 (.s 5), false⟩,
   ⟨none, (some 32), .binc 32 .add (.s 31) (.k (Value.int .i64 1)), false⟩,
   ⟨none, (some 33), .sls 33 (.s 30) (some (.s 32)) none, false⟩,
   ⟨none, (some 34), .call (some 34) 90 false [(.s 33)], false⟩,
   ⟨none, (some 29), .mv 29 (.s 34), false⟩,
   ⟨none, (some 35), .ex 35 (.s 29) 0, false⟩,
   ⟨none, (some 36), .ex 36 (.s 29) 1, false⟩,
   ⟨none, (some 8), .mv 8 (.s 35), false⟩,
   ⟨none, (some 9), .mv 9 (.s 36), true⟩]))
 (.seq (.seq (.keep [6, 7, 8, 9]) (.ops [⟨none, (some 37), .mv 37 (.s 6), false⟩,
   ⟨none, (some 38), .mv 38 (.s 8), false⟩,
   ⟨none, (some 39), .mv 39 (.s 7), false⟩,
   ⟨none, (some 40), .bin 40 .eql (.s 39) (.k (Value.int .i64 0)), false⟩,
   ⟨none, (some 41), .mv 41 (.s 40), false⟩,
   ⟨(some (41, true)), (some 42), .mv 42 (.s 9), false⟩,
   ⟨(some (41, true)), (some 43), .bin 43 .eql (.s 42) (.k (Value.int .i64 0)), false⟩,
   ⟨none, (some 44), .pk 44 (.s 41) (.s 43) (.k (Value.bool false)), false⟩,
   ⟨none, (some 2), .mv 2 (.s 37), false⟩,
   ⟨none, (some 3), .mv 3 (.s 38), true⟩,
   ⟨none, (some 4), .mv 4 (.s 44), false⟩]))
 .ret))) .skip)))
 (.seq (.keep [0, 5]) (.ops [⟨none, (some 16), .mv 16 (.s 5), false⟩,
   ⟨none, (some 17), .binc 17 .add (.s 16) (.k (Value.int .i64 1)), false⟩,
   ⟨none, (some 5), .mv 5 (.s 17), false⟩])))))))
 (.seq (.seq (.keep [0]) (.ops [⟨none, (some 46), .mv 46 (.s 0), false⟩,
   ⟨none, (some 47), .call (some 47) 90 false [(.s 46)], false⟩,
   ⟨none, (some 45), .mv 45 (.s 47), false⟩,
   ⟨none, (some 48), .ex 48 (.s 45) 0, false⟩,
   ⟨none, (some 49), .ex 49 (.s 45) 1, false⟩,
   ⟨none, (some 10), .mv 10 (.s 48), false⟩,
   ⟨none, (some 11), .mv 11 (.s 49), false⟩]))
 (.seq (.seq (.keep [10, 11]) (.ops [⟨none, (some 50), .mv 50 (.s 10), false⟩,
   ⟨none, (some 51), .mv 51 (.s 11), false⟩,
   ⟨none, (some 52), .bin 52 .eql (.s 51) (.k (Value.int .i64 0)), false⟩,
   ⟨none, (some 2), .mv 2 (.s 50), false⟩,
   ⟨none, (some 3), .mv 3 (.k (Value.int .i64 1)), false⟩,
   ⟨none, (some 4), .mv 4 (.s 52), false⟩]))
 .ret))))
def R186 : List RR := [.sl 2, .sl 3, .sl 4]
theorem sd186 : SdT Tryz.prog 186 53 S186 R186 := fun hT hl hC hit => sdX (F := Tryz.f186) (A := A186) mo (by kernel_rfl) (by kernel_rfl) (by kernel_rfl) (by kernel_rfl) hT hl hC hit
def A81 : Ann := ⟨fun _ _ => 0, fun _ => none, fun r => if r = 1 then some (false, [0, 1]) else if r = 2 then some (false, [0, 1, 5]) else if r = 4 then some (false, [0, 1, 5]) else if r = 7 then some (false, [0, 5]) else if r = 9 then some (false, [0, 6, 7]) else none, fun _ => []⟩
def S81 : SCode :=
 (.seq (.ops [⟨none, (some 4), .mv 4 (.k (Value.string ⟨#[]⟩)), false⟩])
 (.seq (.seq (.keep [0, 1]) (.ops [⟨none, (some 8), .mv 8 (.s 0), false⟩,
   ⟨none, (some 9), .call (some 9) 42 false [(.s 8)], false⟩,
   ⟨none, (some 5), .mv 5 (.s 9), false⟩]))
 (.seq (.seq (.seq (.keep [0, 1, 5]) (.ops [⟨none, (some 10), .mv 10 (.s 0), false⟩,
   ⟨none, (some 11), .nc 11 (.s 10), false⟩,
   ⟨none, (some 12), .fa 12 2 (.s 11), false⟩,
   ⟨none, (some 13), .fa 13 1 (.s 12), false⟩,
   ⟨none, (some 14), .ld 14 false 1 (.s 13), false⟩,
   ⟨none, (some 15), .bin 15 .neq (.s 14) (.k (Value.int .i64 0)), false⟩]))
 (.cond (.s 15) (.seq (.ops [⟨none, (some 4), .mv 4 (.k (Value.string ⟨#[]⟩)), false⟩])
 .ret) .skip))
 (.seq (.seq (.seq (.keep [0, 1, 5]) (.ops [⟨none, (some 16), .mv 16 (.s 5), false⟩,
   ⟨none, (some 17), .lens 17 (.s 16), false⟩,
   ⟨none, (some 18), .bin 18 .lss (.s 17) (.k (Value.int .i64 4)), false⟩,
   ⟨none, (some 19), .mv 19 (.s 18), false⟩,
   ⟨(some (19, false)), (some 20), .mv 20 (.s 5), false⟩,
   ⟨(some (19, false)), (some 21), .sls 21 (.s 20) none (some (.k (Value.int .i64 4))), false⟩,
   ⟨(some (19, false)), (some 22), .mv 22 (.s 1), false⟩,
   ⟨(some (19, false)), (some 23), .bin 23 .neq (.s 21) (.s 22), false⟩,
   ⟨none, (some 24), .pk 24 (.s 19) (.k (Value.bool true)) (.s 23), false⟩]))
 (.cond (.s 24) (.seq (.ops [⟨none, (some 25), .mv 25 (.s 0), false⟩,
   ⟨none, (some 26), .call (some 26) 43 false [(.s 25), (.k (Value.int .i64 3))], false⟩])
 (.seq (.ops [⟨none, (some 4), .mv 4 (.k (Value.string ⟨#[]⟩)), false⟩])
 .ret)) .skip))
 (.seq (.seq (.keep [0, 5]) (.ops [⟨none, (some 28), .mv 28 (.s 5), false⟩,
   ⟨none, (some 29), .sls 29 (.s 28) (some (.k (Value.int .i64 4))) none, false⟩,
   ⟨none, (some 30), .call (some 30) 142 false [(.s 29)], false⟩,
   ⟨none, (some 27), .mv 27 (.s 30), false⟩,
   ⟨none, (some 31), .ex 31 (.s 27) 0, false⟩,
   ⟨none, (some 32), .ex 32 (.s 27) 1, false⟩,
   ⟨none, (some 6), .mv 6 (.s 31), false⟩,
   ⟨none, (some 7), .mv 7 (.s 32), false⟩]))
 (.seq (.seq (.ops [⟨none, (some 33), .mv 33 (.s 7), false⟩,
   ⟨none, (some 34), .bin 34 .neq (.s 33) (.k (Value.int .i64 0)), false⟩])
 (.cond (.s 34) (.seq (.keep [0, 6, 7]) (.ops [⟨none, (some 35), .mv 35 (.s 0), false⟩,
   ⟨none, (some 36), .mv 36 (.s 7), false⟩,
   ⟨none, (some 37), .call (some 37) 43 false [(.s 35), (.s 36)], false⟩])) .skip))
 (.seq (.ops [⟨none, (some 38), .mv 38 (.s 6), false⟩,
   ⟨none, (some 4), .mv 4 (.s 38), false⟩])
 .ret)))))))
def R81 : List RR := [.sl 4]
theorem sd81 : SdT Tryz.prog 81 39 S81 R81 := fun hT hl hC hit => sdX (F := Tryz.f81) (A := A81) mo (by kernel_rfl) (by kernel_rfl) (by kernel_rfl) (by kernel_rfl) hT hl hC hit
def A26 : Ann := ⟨fun _ _ => 0, fun _ => none, fun r => if r = 1 then some (false, [0, 1]) else none, fun _ => []⟩
def S26 : SCode :=
 (.seq (.ops [⟨none, (some 4), .mv 4 (.k (Value.bool false)), false⟩])
 (.seq (.seq (.keep [0, 1]) (.ops [⟨none, (some 5), .mv 5 (.s 0), false⟩,
   ⟨none, (some 6), .mv 6 (.s 1), false⟩,
   ⟨none, (some 7), .call (some 7) 30 false [(.s 5), (.s 6)], false⟩,
   ⟨none, (some 4), .mv 4 (.s 7), false⟩]))
 .ret))
def R26 : List RR := [.sl 4]
theorem sd26 : SdT Tryz.prog 26 8 S26 R26 := fun hT hl hC hit => sdX (F := Tryz.f26) (A := A26) mo (by kernel_rfl) (by kernel_rfl) (by kernel_rfl) (by kernel_rfl) hT hl hC hit
def A30 : Ann := ⟨fun _ _ => 0, fun r => if r = 6 then some [(0, true, []), (1, true, []), (2, true, []), (4, true, []), (5, true, []), (6, true, []), (3, true, []), (7, true, []), (8, false, [0, 1, 2, 3, 4, 5, 6, 7, 8, 9, 10, 11, 12, 13, 14, 15]), (9, true, [])] else none, fun r => if r = 1 then some (false, [0, 1]) else if r = 4 then some (false, [0, 1, 5]) else if r = 5 then some (false, [0, 1, 5]) else if r = 6 then some (false, [0, 1, 5]) else none, fun r => if r = 4 then [0, 1, 5] else []⟩
def S30 : SCode :=
 (.seq (.ops [⟨none, (some 4), .mv 4 (.k (Value.bool false)), false⟩])
 (.seq (.seq (.seq (.keep [0, 1]) (.ops [⟨none, (some 6), .mv 6 (.s 0), false⟩,
   ⟨none, (some 7), .len 7 (.s 6), false⟩,
   ⟨none, (some 8), .mv 8 (.s 1), false⟩,
   ⟨none, (some 9), .len 9 (.s 8), false⟩,
   ⟨none, (some 10), .bin 10 .neq (.s 7) (.s 9), false⟩]))
 (.cond (.s 10) (.seq (.ops [⟨none, (some 4), .mv 4 (.k (Value.bool false)), false⟩])
 .ret) .skip))
 (.seq (.seq (.ops [⟨none, (some 5), .mv 5 (.k (Value.int .i64 0)), false⟩])
 (.block 0 (.loop [0, 1, 5] (.seq (.seq (.seq (.keep [0, 1, 5]) (.ops [⟨none, (some 11), .mv 11 (.s 5), false⟩,
   ⟨none, (some 12), .mv 12 (.s 0), false⟩,
   ⟨none, (some 13), .len 13 (.s 12), false⟩,
   ⟨none, (some 14), .bin 14 .lss (.s 11) (.s 13), false⟩]))
 (.cond (.s 14) .skip (.exit 0)))
 (.seq (.block 1 (.seq (.seq (.keep [0, 1, 5]) (.dr [([], true, ⟨none, (some 17), .mv 17 (.s 0), false⟩),
   ([], true, ⟨none, (some 18), .mv 18 (.s 5), false⟩),
   ([], true, ⟨none, (some 19), .ia 19 3 (.s 17) (.s 18), false⟩),
   ([], true, ⟨none, (some 21), .mv 21 (.s 1), false⟩),
   ([], true, ⟨none, (some 22), .mv 22 (.s 5), false⟩),
   ([], true, ⟨none, (some 23), .ia 23 3 (.s 21) (.s 22), false⟩),
   ([], true, ⟨none, (some 20), .ld 20 true 3 (.s 19), false⟩),
   ([], true, ⟨none, (some 24), .ld 24 true 3 (.s 23), false⟩),
   ([0, 1, 2, 3, 4, 5, 6, 7, 8, 9, 10, 11, 12, 13, 14, 15], false, ⟨none, (some 25), .call (some 25) 71 false [(.s 20), (.s 24)], false⟩),
   ([], true, ⟨none, (some 26), .not 26 (.s 25), true⟩)]))
 (.cond (.s 26) (.seq (.ops [⟨none, (some 4), .mv 4 (.k (Value.bool false)), false⟩])
 .ret) .skip)))
 (.seq (.keep [0, 1, 5]) (.ops [⟨none, (some 15), .mv 15 (.s 5), false⟩,
   ⟨none, (some 16), .binc 16 .add (.s 15) (.k (Value.int .i64 1)), false⟩,
   ⟨none, (some 5), .mv 5 (.s 16), false⟩])))))))
 (.seq (.ops [⟨none, (some 4), .mv 4 (.k (Value.bool true)), false⟩])
 .ret))))
def R30 : List RR := [.sl 4]
theorem sd30 : SdT Tryz.prog 30 27 S30 R30 := fun hT hl hC hit => sdX (F := Tryz.f30) (A := A30) mo (by kernel_rfl) (by kernel_rfl) (by kernel_rfl) (by kernel_rfl) hT hl hC hit
def A200 : Ann := ⟨fun _ _ => 0, fun _ => none, fun r => if r = 1 then some (false, [0, 1]) else none, fun _ => []⟩
def S200 : SCode :=
 (.seq (.ops [⟨none, (some 4), .mv 4 (.k (Value.bool false)), false⟩])
 (.seq (.seq (.keep [0, 1]) (.ops [⟨none, (some 5), .mv 5 (.s 0), false⟩,
   ⟨none, (some 6), .mv 6 (.s 1), false⟩,
   ⟨none, (some 7), .call (some 7) 156 false [(.s 5), (.s 6)], false⟩,
   ⟨none, (some 8), .bin 8 .geq (.s 7) (.k (Value.int .i64 0)), false⟩,
   ⟨none, (some 4), .mv 4 (.s 8), false⟩]))
 .ret))
def R200 : List RR := [.sl 4]
theorem sd200 : SdT Tryz.prog 200 9 S200 R200 := fun hT hl hC hit => sdX (F := Tryz.f200) (A := A200) mo (by kernel_rfl) (by kernel_rfl) (by kernel_rfl) (by kernel_rfl) hT hl hC hit
def A156 : Ann := ⟨fun r i => if r = 18 ∧ i = 3 then 1 else if r = 18 ∧ i = 9 then 1 else if r = 18 ∧ i = 23 then 1 else 0, fun r => if r = 31 then some [(0, true, []), (1, true, []), (2, true, []), (3, true, []), (4, true, []), (5, true, []), (6, true, []), (7, true, []), (8, true, []), (9, true, []), (10, true, [])] else if r = 14 then some [(0, true, []), (1, true, []), (2, true, []), (3, true, []), (4, true, []), (5, true, []), (6, true, []), (7, true, []), (8, true, []), (9, true, []), (10, true, [])] else if r = 7 then some [(0, true, []), (1, true, []), (2, true, []), (3, true, []), (4, true, []), (5, true, []), (6, true, []), (7, false, [0, 1, 2, 3, 4, 5, 6, 7, 8, 9, 10, 11, 12, 13, 14, 15]), (8, true, [])] else if r = 6 then some [(0, true, []), (1, true, []), (2, true, []), (3, true, []), (4, true, []), (5, true, []), (6, true, [])] else none, fun r => if r = 1 then some (false, [0, 1]) else if r = 2 then some (false, [0, 7]) else if r = 5 then some (false, [0, 7, 8, 9]) else if r = 6 then some (false, [0, 7, 8, 9]) else if r = 7 then some (false, [0, 7, 8, 9]) else if r = 10 then some (false, [0, 7, 8, 9, 11]) else if r = 12 then some (false, [0, 7, 8, 9, 12]) else if r = 13 then some (false, [0, 7, 8, 9, 12]) else if r = 14 then some (false, [0, 7, 8, 9, 12]) else if r = 15 then some (false, [8, 9]) else if r = 16 then some (false, [0, 7, 8, 9, 10]) else if r = 17 then some (false, [0, 7, 8, 9, 10]) else if r = 18 then some (false, [0, 7, 8, 9, 10]) else if r = 20 then some (false, [0, 1, 8, 9]) else if r = 22 then some (false, [8, 9, 13]) else if r = 23 then some (false, [0, 7, 8, 9]) else if r = 24 then some (false, [0, 7, 8, 9, 14]) else if r = 25 then some (false, [0, 7, 8, 9, 14, 15]) else if r = 26 then some (false, [0, 7, 8, 9, 14, 15]) else if r = 27 then some (false, [0, 7, 8, 9, 14, 15]) else if r = 29 then some (false, [0, 7, 8, 9, 14, 15, 16]) else if r = 30 then some (false, [0, 7, 8, 9, 14, 15, 16]) else if r = 31 then some (false, [0, 7, 8, 9, 14, 15, 16]) else if r = 32 then some (false, [8, 9]) else if r = 34 then some (false, [0, 1]) else if r = 35 then some (false, [0, 1]) else if r = 36 then some (false, [0, 1]) else if r = 39 then some (false, [175, 176]) else if r = 43 then some (false, [0, 1]) else none, fun r => if r = 5 then [0, 7, 8, 9] else if r = 12 then [0, 7, 8, 9, 12] else if r = 25 then [0, 7, 8, 9, 14, 15] else if r = 29 then [0, 7, 8, 9, 14, 15, 16] else if r = 38 then [175] else []⟩
def S156 : SCode :=
 (.seq (.ops [⟨none, (some 4), .mv 4 (.k (Value.int .i64 0)), false⟩])
 (.block 0 (.seq (.seq (.keep [0, 1]) (.ops [⟨none, (some 161), .mv 161 (.s 1), false⟩,
   ⟨none, (some 162), .bin 162 .leq (.k (Value.int .i32 0)) (.s 161), false⟩,
   ⟨none, (some 163), .mv 163 (.s 162), false⟩,
   ⟨(some (163, true)), (some 164), .mv 164 (.s 1), false⟩,
   ⟨(some (163, true)), (some 165), .bin 165 .lss (.s 164) (.k (Value.int .i32 128)), false⟩,
   ⟨none, (some 166), .pk 166 (.s 163) (.s 165) (.k (Value.bool false)), false⟩,
   ⟨none, (some 160), .mv 160 (.s 166), false⟩]))
 (.cond (.s 160) (.seq (.seq (.keep [0, 1]) (.ops [⟨none, (some 167), .mv 167 (.s 0), false⟩,
   ⟨none, (some 168), .mv 168 (.s 1), false⟩,
   ⟨none, (some 169), .cvi 169 .u8 (.s 168), false⟩,
   ⟨none, (some 170), .call (some 170) 116 false [(.s 167), (.s 169)], false⟩,
   ⟨none, (some 4), .mv 4 (.s 170), false⟩]))
 .ret) (.seq (.seq (.keep [0, 1]) (.ops [⟨none, (some 172), .mv 172 (.s 1), false⟩,
   ⟨none, (some 173), .bin 173 .eql (.s 172) (.k (Value.int .i32 65533)), false⟩,
   ⟨none, (some 171), .mv 171 (.s 173), false⟩]))
 (.cond (.s 171) (.seq (.seq (.ops [⟨none, (some 174), .mv 174 (.s 0), false⟩,
   ⟨none, (some 175), .rg 175 (.s 174), false⟩])
 (.block 9 (.loop [175] (.seq (.ops [⟨none, (some 176), .nx 176 (.s 175), false⟩,
   ⟨none, (some 177), .ex 177 (.s 176) 0, false⟩])
 (.seq (.cond (.s 177) .skip (.exit 9))
 (.block 10 (.seq (.seq (.keep [175, 176]) (.ops [⟨none, (some 178), .ex 178 (.s 176) 1, false⟩,
   ⟨none, (some 179), .ex 179 (.s 176) 2, false⟩,
   ⟨none, (some 5), .mv 5 (.s 178), false⟩,
   ⟨none, (some 6), .mv 6 (.s 179), false⟩]))
 (.seq (.ops [⟨none, (some 180), .mv 180 (.s 6), false⟩,
   ⟨none, (some 181), .bin 181 .eql (.s 180) (.k (Value.int .i32 65533)), false⟩])
 (.cond (.s 181) (.seq (.ops [⟨none, (some 182), .mv 182 (.s 5), false⟩,
   ⟨none, (some 4), .mv 4 (.s 182), false⟩])
 .ret) .skip)))))))))
 (.seq (.ops [⟨none, (some 4), .mv 4 (.k (Value.int .i64 (-1))), false⟩])
 .ret)) (.seq (.seq (.keep [0, 1]) (.ops [⟨none, (some 184), .mv 184 (.s 1), false⟩,
   ⟨none, (some 185), .call (some 185) 195 false [(.s 184)], false⟩,
   ⟨none, (some 186), .not 186 (.s 185), false⟩,
   ⟨none, (some 183), .mv 183 (.s 186), false⟩]))
 (.cond (.s 183) (.seq (.ops [⟨none, (some 4), .mv 4 (.k (Value.int .i64 (-1))), false⟩])
 .ret) (.seq (.seq (.keep [0, 1]) (.ops [⟨none, (some 17), .mv 17 (.s 1), false⟩,
   ⟨none, (some 18), .i2s 18 (.s 17), false⟩,
   ⟨none, (some 7), .mv 7 (.s 18), false⟩]))
 (.seq (.seq (.keep [0, 7]) (.ops [⟨none, (some 19), .mv 19 (.s 7), false⟩,
   ⟨none, (some 20), .lens 20 (.s 19), false⟩,
   ⟨none, (some 21), .binc 21 .sub (.s 20) (.k (Value.int .i64 1)), false⟩,
   ⟨none, (some 8), .mv 8 (.s 21), false⟩]))
 (.seq (.ops [⟨none, (some 22), .mv 22 (.s 8), false⟩,
   ⟨none, (some 9), .mv 9 (.s 22), false⟩])
 (.seq (.ops [⟨none, (some 10), .mv 10 (.k (Value.int .i64 0)), false⟩])
 (.seq (.block 1 (.loop [0, 7, 8, 9] (.seq (.seq (.seq (.keep [0, 7, 8, 9]) (.ops [⟨none, (some 23), .mv 23 (.s 9), false⟩,
   ⟨none, (some 24), .mv 24 (.s 0), false⟩,
   ⟨none, (some 25), .lens 25 (.s 24), false⟩,
   ⟨none, (some 26), .bin 26 .lss (.s 23) (.s 25), false⟩]))
 (.cond (.s 26) .skip (.exit 1)))
 (.block 2 (.seq (.seq (.seq (.keep [0, 7, 8, 9]) (.dr [([], true, ⟨none, (some 27), .mv 27 (.s 0), false⟩),
   ([], true, ⟨none, (some 28), .mv 28 (.s 9), false⟩),
   ([], true, ⟨none, (some 29), .ixs 29 (.s 27) (.s 28), false⟩),
   ([], true, ⟨none, (some 30), .mv 30 (.s 7), false⟩),
   ([], true, ⟨none, (some 31), .mv 31 (.s 8), false⟩),
   ([], true, ⟨none, (some 32), .ixs 32 (.s 30) (.s 31), false⟩),
   ([], true, ⟨none, (some 33), .bin 33 .neq (.s 29) (.s 32), false⟩)]))
 (.cond (.s 33) (.seq (.seq (.keep [0, 7, 8, 9]) (.dr [([], true, ⟨none, (some 34), .mv 34 (.s 0), false⟩),
   ([], true, ⟨none, (some 35), .mv 35 (.s 9), false⟩),
   ([], true, ⟨none, (some 36), .binc 36 .add (.s 35) (.k (Value.int .i64 1)), false⟩),
   ([], true, ⟨none, (some 37), .sls 37 (.s 34) (some (.s 36)) none, false⟩),
   ([], true, ⟨none, (some 38), .mv 38 (.s 7), false⟩),
   ([], true, ⟨none, (some 39), .mv 39 (.s 8), false⟩),
   ([], true, ⟨none, (some 40), .ixs 40 (.s 38) (.s 39), false⟩),
   ([0, 1, 2, 3, 4, 5, 6, 7, 8, 9, 10, 11, 12, 13, 14, 15], false, ⟨none, (some 41), .call (some 41) 116 false [(.s 37), (.s 40)], false⟩),
   ([], true, ⟨none, (some 11), .mv 11 (.s 41), false⟩)]))
 (.seq (.seq (.ops [⟨none, (some 42), .mv 42 (.s 11), false⟩,
   ⟨none, (some 43), .bin 43 .lss (.s 42) (.k (Value.int .i64 0)), false⟩])
 (.cond (.s 43) (.seq (.ops [⟨none, (some 4), .mv 4 (.k (Value.int .i64 (-1))), false⟩])
 .ret) .skip))
 (.seq (.keep [0, 7, 8, 9, 11]) (.ops [⟨none, (some 44), .mv 44 (.s 9), false⟩,
   ⟨none, (some 45), .mv 45 (.s 11), false⟩,
   ⟨none, (some 46), .binc 46 .add (.s 45) (.k (Value.int .i64 1)), false⟩,
   ⟨none, (some 47), .binc 47 .add (.s 44) (.s 46), false⟩,
   ⟨none, (some 9), .mv 9 (.s 47), false⟩])))) .skip))
 (.seq (.seq (.ops [⟨none, (some 12), .mv 12 (.k (Value.int .i64 1)), false⟩])
 (.block 3 (.loop [0, 7, 8, 9, 12] (.seq (.seq (.seq (.keep [0, 7, 8, 9, 12]) (.ops [⟨none, (some 48), .mv 48 (.s 12), false⟩,
   ⟨none, (some 49), .mv 49 (.s 7), false⟩,
   ⟨none, (some 50), .lens 50 (.s 49), false⟩,
   ⟨none, (some 51), .bin 51 .lss (.s 48) (.s 50), false⟩]))
 (.cond (.s 51) .skip (.exit 3)))
 (.seq (.block 4 (.seq (.seq (.keep [0, 7, 8, 9, 12]) (.dr [([], true, ⟨none, (some 54), .mv 54 (.s 0), false⟩),
   ([], true, ⟨none, (some 55), .mv 55 (.s 9), false⟩),
   ([], true, ⟨none, (some 56), .mv 56 (.s 12), false⟩),
   ([], true, ⟨none, (some 57), .binc 57 .sub (.s 55) (.s 56), false⟩),
   ([], true, ⟨none, (some 58), .ixs 58 (.s 54) (.s 57), false⟩),
   ([], true, ⟨none, (some 59), .mv 59 (.s 7), false⟩),
   ([], true, ⟨none, (some 60), .mv 60 (.s 8), false⟩),
   ([], true, ⟨none, (some 61), .mv 61 (.s 12), false⟩),
   ([], true, ⟨none, (some 62), .binc 62 .sub (.s 60) (.s 61), false⟩),
   ([], true, ⟨none, (some 63), .ixs 63 (.s 59) (.s 62), true⟩),
   ([], true, ⟨none, (some 64), .bin 64 .neq (.s 58) (.s 63), false⟩)]))
 (.cond (.s 64) .bad .skip)))
 (.seq (.keep [0, 7, 8, 9, 12]) (.ops [⟨none, (some 52), .mv 52 (.s 12), false⟩,
   ⟨none, (some 53), .binc 53 .add (.s 52) (.k (Value.int .i64 1)), false⟩,
   ⟨none, (some 12), .mv 12 (.s 53), false⟩])))))))
 (.seq (.seq (.seq (.keep [8, 9]) (.ops [⟨none, (some 65), .mv 65 (.s 9), false⟩,
   ⟨none, (some 66), .mv 66 (.s 8), false⟩,
   ⟨none, (some 67), .binc 67 .sub (.s 65) (.s 66), false⟩,
   ⟨none, (some 4), .mv 4 (.s 67), false⟩]))
 .ret)
 (.seq .skip
 (.seq (.seq (.keep [0, 7, 8, 9, 10]) (.ops [⟨none, (some 68), .mv 68 (.s 10), false⟩,
   ⟨none, (some 69), .binc 69 .add (.s 68) (.k (Value.int .i64 1)), false⟩,
   ⟨none, (some 10), .mv 10 (.s 69), false⟩]))
 (.seq (.seq (.keep [0, 7, 8, 9, 10]) (.ops [⟨none, (some 70), .mv 70 (.s 9), false⟩,
   ⟨none, (some 71), .binc 71 .add (.s 70) (.k (Value.int .i64 1)), false⟩,
   ⟨none, (some 9), .mv 9 (.s 71), false⟩]))
 (.seq (.seq (.keep [0, 7, 8, 9, 10]) (.ops [⟨none, (some 72), .mv 72 (.k (Value.bool true)), false⟩,
   ⟨(some (72, true)), (some 73), .mv 73 (.s 10), false⟩,
   ⟨(some (72, true)), (some 74), .mv 74 (.s 9), false⟩,
   ⟨(some (72, true)), (some 75), .call (some 75) 192 true [(.s 74)], false⟩,
   ⟨(some (72, true)), (some 76), .bin 76 .gtr (.s 73) (.s 75), false⟩,
   ⟨none, (some 77), .pk 77 (.s 72) (.s 76) (.k (Value.bool false)), false⟩,
   ⟨none, (some 78), .mv 78 (.s 77), false⟩,
   ⟨(some (78, true)), (some 79), .mv 79 (.s 9), false⟩,
   ⟨(some (78, true)), (some 80), .mv 80 (.s 0), false⟩,
   ⟨(some (78, true)), (some 81), .lens 81 (.s 80), true⟩,
   ⟨(some (78, true)), (some 82), .bin 82 .lss (.s 79) (.s 81), false⟩,
   ⟨none, (some 83), .pk 83 (.s 78) (.s 82) (.k (Value.bool false)), false⟩,
   ⟨none, (some 84), .mv 84 (.s 83), false⟩,
   ⟨(some (84, false)), (some 85), .mv 85 (.k (Value.bool false)), false⟩,
   ⟨(some (85, true)), (some 86), .mv 86 (.s 10), false⟩,
   ⟨(some (85, true)), (some 87), .mv 87 (.s 9), false⟩,
   ⟨(some (85, true)), (some 88), .bin 88 .shr (.s 87) (.k (Value.int .u64 4)), false⟩,
   ⟨(some (85, true)), (some 89), .binc 89 .add (.k (Value.int .i64 4)) (.s 88), false⟩,
   ⟨(some (85, true)), (some 90), .bin 90 .geq (.s 86) (.s 89), false⟩,
   ⟨(some (84, false)), (some 91), .pk 91 (.s 85) (.s 90) (.k (Value.bool false)), true⟩,
   ⟨(some (84, false)), (some 92), .mv 92 (.s 91), false⟩,
   ⟨(some (92, true)), (some 93), .mv 93 (.s 9), false⟩,
   ⟨(some (92, true)), (some 94), .mv 94 (.s 0), false⟩,
   ⟨(some (92, true)), (some 95), .lens 95 (.s 94), false⟩,
   ⟨(some (92, true)), (some 96), .bin 96 .lss (.s 93) (.s 95), false⟩,
   ⟨(some (84, false)), (some 97), .pk 97 (.s 92) (.s 96) (.k (Value.bool false)), false⟩,
   ⟨none, (some 98), .pk 98 (.s 84) (.k (Value.bool true)) (.s 97), false⟩]))
 (.cond (.s 98) .bad .skip))))))))))))
 (.seq (.seq (.ops [⟨none, (some 4), .mv 4 (.k (Value.int .i64 (-1))), false⟩])
 .ret)
 (.seq .skip
 (.seq (.cond (.k (Value.bool true)) (.seq (.seq (.keep [0, 1, 8, 9]) (.ops [⟨none, (some 99), .mv 99 (.s 0), false⟩,
   ⟨none, (some 100), .mv 100 (.s 9), false⟩,
   ⟨none, (some 101), .mv 101 (.s 8), false⟩,
   ⟨none, (some 102), .binc 102 .sub (.s 100) (.s 101), false⟩,
   ⟨none, (some 103), .sls 103 (.s 99) (some (.s 102)) none, false⟩,
   ⟨none, (some 104), .mv 104 (.s 1), false⟩,
   ⟨none, (some 105), .i2s 105 (.s 104), false⟩,
   ⟨none, (some 106), .stuck, false⟩,
   ⟨none, (some 13), .mv 13 (.s 106), false⟩]))
 (.seq (.ops [⟨none, (some 107), .mv 107 (.s 13), false⟩,
   ⟨none, (some 108), .bin 108 .geq (.s 107) (.k (Value.int .i64 0)), false⟩])
 (.cond (.s 108) (.seq (.seq (.keep [8, 9, 13]) (.ops [⟨none, (some 109), .mv 109 (.s 9), false⟩,
   ⟨none, (some 110), .mv 110 (.s 13), false⟩,
   ⟨none, (some 111), .binc 111 .add (.s 109) (.s 110), false⟩,
   ⟨none, (some 112), .mv 112 (.s 8), false⟩,
   ⟨none, (some 113), .binc 113 .sub (.s 111) (.s 112), false⟩,
   ⟨none, (some 4), .mv 4 (.s 113), false⟩]))
 .ret) .skip))) (.seq (.seq (.keep [0, 7, 8, 9]) (.ops [⟨none, (some 114), .mv 114 (.s 7), false⟩,
   ⟨none, (some 115), .mv 115 (.s 8), false⟩,
   ⟨none, (some 116), .ixs 116 (.s 114) (.s 115), false⟩,
   ⟨none, (some 14), .mv 14 (.s 116), false⟩]))
 (.seq (.seq (.keep [0, 7, 8, 9, 14]) (.ops [⟨none, (some 117), .mv 117 (.s 7), false⟩,
   ⟨none, (some 118), .mv 118 (.s 8), false⟩,
   ⟨none, (some 119), .binc 119 .sub (.s 118) (.k (Value.int .i64 1)), false⟩,
   ⟨none, (some 120), .ixs 120 (.s 117) (.s 119), false⟩,
   ⟨none, (some 15), .mv 15 (.s 120), false⟩]))
 (.seq .skip
 (.block 5 (.loop [0, 7, 8, 9, 14, 15] (.seq (.seq (.seq (.keep [0, 7, 8, 9, 14, 15]) (.ops [⟨none, (some 121), .mv 121 (.s 9), false⟩,
   ⟨none, (some 122), .mv 122 (.s 0), false⟩,
   ⟨none, (some 123), .lens 123 (.s 122), false⟩,
   ⟨none, (some 124), .bin 124 .lss (.s 121) (.s 123), false⟩]))
 (.cond (.s 124) .skip (.exit 5)))
 (.seq (.block 6 (.seq (.seq (.keep [0, 7, 8, 9, 14, 15]) (.ops [⟨none, (some 127), .mv 127 (.s 0), false⟩,
   ⟨none, (some 128), .mv 128 (.s 9), false⟩,
   ⟨none, (some 129), .ixs 129 (.s 127) (.s 128), false⟩,
   ⟨none, (some 130), .mv 130 (.s 14), false⟩,
   ⟨none, (some 131), .bin 131 .eql (.s 129) (.s 130), false⟩,
   ⟨none, (some 132), .mv 132 (.s 131), false⟩,
   ⟨(some (132, true)), (some 133), .mv 133 (.s 0), false⟩,
   ⟨(some (132, true)), (some 134), .mv 134 (.s 9), false⟩,
   ⟨(some (132, true)), (some 135), .binc 135 .sub (.s 134) (.k (Value.int .i64 1)), false⟩,
   ⟨(some (132, true)), (some 136), .ixs 136 (.s 133) (.s 135), true⟩,
   ⟨(some (132, true)), (some 137), .mv 137 (.s 15), false⟩,
   ⟨(some (132, true)), (some 138), .bin 138 .eql (.s 136) (.s 137), false⟩,
   ⟨none, (some 139), .pk 139 (.s 132) (.s 138) (.k (Value.bool false)), false⟩]))
 (.cond (.s 139) (.seq (.seq (.ops [⟨none, (some 16), .mv 16 (.k (Value.int .i64 2)), false⟩])
 (.block 7 (.loop [0, 7, 8, 9, 14, 15, 16] (.seq (.seq (.seq (.keep [0, 7, 8, 9, 14, 15, 16]) (.ops [⟨none, (some 140), .mv 140 (.s 16), false⟩,
   ⟨none, (some 141), .mv 141 (.s 7), false⟩,
   ⟨none, (some 142), .lens 142 (.s 141), false⟩,
   ⟨none, (some 143), .bin 143 .lss (.s 140) (.s 142), false⟩]))
 (.cond (.s 143) .skip (.exit 7)))
 (.seq (.block 8 (.seq (.seq (.keep [0, 7, 8, 9, 14, 15, 16]) (.dr [([], true, ⟨none, (some 146), .mv 146 (.s 0), false⟩),
   ([], true, ⟨none, (some 147), .mv 147 (.s 9), false⟩),
   ([], true, ⟨none, (some 148), .mv 148 (.s 16), false⟩),
   ([], true, ⟨none, (some 149), .binc 149 .sub (.s 147) (.s 148), false⟩),
   ([], true, ⟨none, (some 150), .ixs 150 (.s 146) (.s 149), false⟩),
   ([], true, ⟨none, (some 151), .mv 151 (.s 7), false⟩),
   ([], true, ⟨none, (some 152), .mv 152 (.s 8), false⟩),
   ([], true, ⟨none, (some 153), .mv 153 (.s 16), false⟩),
   ([], true, ⟨none, (some 154), .binc 154 .sub (.s 152) (.s 153), false⟩),
   ([], true, ⟨none, (some 155), .ixs 155 (.s 151) (.s 154), true⟩),
   ([], true, ⟨none, (some 156), .bin 156 .neq (.s 150) (.s 155), false⟩)]))
 (.cond (.s 156) (.exit 6) .skip)))
 (.seq (.keep [0, 7, 8, 9, 14, 15, 16]) (.ops [⟨none, (some 144), .mv 144 (.s 16), false⟩,
   ⟨none, (some 145), .binc 145 .add (.s 144) (.k (Value.int .i64 1)), false⟩,
   ⟨none, (some 16), .mv 16 (.s 145), false⟩])))))))
 (.seq (.seq (.keep [8, 9]) (.ops [⟨none, (some 157), .mv 157 (.s 9), false⟩,
   ⟨none, (some 158), .mv 158 (.s 8), false⟩,
   ⟨none, (some 159), .binc 159 .sub (.s 157) (.s 158), false⟩,
   ⟨none, (some 4), .mv 4 (.s 159), false⟩]))
 .ret)) .skip)))
 (.seq (.keep [0, 7, 8, 9, 14, 15]) (.ops [⟨none, (some 125), .mv 125 (.s 9), false⟩,
   ⟨none, (some 126), .binc 126 .add (.s 125) (.k (Value.int .i64 1)), false⟩,
   ⟨none, (some 9), .mv 9 (.s 126), false⟩]))))))))))
 (.seq (.ops [⟨none, (some 4), .mv 4 (.k (Value.int .i64 (-1))), false⟩])
 .ret)))))))))))))))))
def R156 : List RR := [.sl 4]
theorem sd156 : SdT Tryz.prog 156 187 S156 R156 := fun hT hl hC hit => sdX (F := Tryz.f156) (A := A156) mo (by kernel_rfl) (by kernel_rfl) (by kernel_rfl) (by kernel_rfl) hT hl hC hit
end Go.Proofs.YtlghobefhmpfkaaGreatDoor
namespace Go.Proofs.YtlghobefhmpfkaaGreatDoor
open Go Go.Ev
set_option maxRecDepth 100000
variable {G : World → Prop}
def C165 : Contract := pureC fun args => match args with
 | [.d (.v (.string s))] => some (s.size ≤ 1099511627776, .tup [.d (.v (str (namedS s.data.toList).1)), .d (.v (.int .i64 (namedS s.data.toList).2))])
 | _ => none
theorem unqS_1 (o : Option (List UInt8 × List UInt8)) : ∃ b c, unqS o = .tup [.d (.v (.string ⟨((o.map (·.1)).getD []).toArray⟩)), .d (.v (.string b)), .d (.v (.int .i64 c))] := by
 cases o with
 | none => exact ⟨_, _, rfl⟩
 | some z => exact ⟨_, _, rfl⟩
theorem dec0 {q : List UInt8} (h : q = nowh) : decS q = [] := by unfold decS; rw [if_pos h]
def st34 (l : List UInt8) : Bool := match l with | c :: _ => decide (c = 34) | [] => false
theorem dec1 {q : List UInt8} (h : ¬ q = nowh) (h2 : st34 q = true) : decS q = ((unqL q).map (·.1)).getD [] := by
 cases q with
 | nil => cases h2
 | cons c r =>
   have : c = 34 := by simpa [st34] using h2
   subst this
   unfold decS
   rw [if_neg h]
   rfl
theorem dec2 {q : List UInt8} (h : ¬ q = nowh) (h2 : st34 q = false) : decS q = q := by
 unfold decS
 rw [if_neg h]
 split
 · simp [st34] at h2
 · rfl
theorem st34_iff (q : List UInt8) : st34 q = true ↔ 0 < (q.length : Int) ∧ (((q.getD 0 0).toNat : Nat) : Int) = 34 := by
 cases q with
 | nil => simp [st34]
 | cons c r =>
   have := u8_eq c 34 (by omega)
   simp only [st34, decide_eq_true_eq, List.length_cons, List.getD_cons_zero]
   constructor
   · intro h; exact ⟨by omega, this.2 h⟩
   · intro h; exact this.1 h.2
theorem nm_bad {q m : List UInt8} (h : decS q = m) (h2 : 64 < (m.length : Int) ∨ ¬ nameS m = q) : namedS q = ([], 253) := by
 subst h
 rw [namedS, if_pos]
 rcases h2 with h | h
 · exact .inl (by omega)
 · exact .inr h
theorem nm_good {q m : List UInt8} (h : decS q = m) (h2 : ¬ 64 < (m.length : Int) ∧ nameS m = q) : namedS q = (m, 0) := by
 subst h
 rw [namedS, if_neg]
 rintro (h | h)
 · exact h2.1 (by omega)
 · exact h h2.2
theorem s165 : Sound G Tryz.prog 165 C165 := by
 refine sd165 (T := tabT [(198, C198), (68, C68), (121, C166)]) (tab_cons s198 (tab_cons s68 (tab_cons s121 tab_nil))) (pureC_lawful _) (pure_hX fun args p x K h hp hk => ?_)
 split at h <;> simp only [Option.some.injEq, Prod.mk.injEq, reduceCtorEq] at h
 obtain ⟨rfl, rfl⟩ := h
 refine ⟨Nat.le_of_ble_eq_true rfl, ?_⟩
 rename_i s
 obtain ⟨q, rfl⟩ := ex_str s
 simp only [sem_str] at hk hp
 have hpre : hasPre ⟨q.toArray⟩ ⟨[34].toArray⟩ = st34 q := pre34 q
 obtain ⟨b, c, hu⟩ := unqS_1 (unqL q)
 have hl := decS_len q
 simp -dsimp -implicitDefEqProofs only [S165, R165, C198, C68, C166, hpre, hu, ↓Ev.xStp_eq, ↓Ev.P, Ev.Q, Bool.cond_true, Bool.cond_false, eq_self, forall_eq_or_imp, implies_true, forall_const, forall_eq, ↓reduceIte, reduceIte, Nat.reduceEqDiff, Nat.reduceAdd, reduceCtorEq, Nat.reduceSub, Int.reduceToNat, Int.reduceLE, Int.reduceLT, Int.reduceNeg, Nat.reduceBEq, Nat.reduceMul, Nat.reduceLeDiff, Nat.reduceMod, UInt8.reduceOfNat, Nat.reduceLT, Int.reduceEq, Int.reduceAdd, Int.reduceSub, Int.reduceMul]
 repeat' (first | with_reducible assumption | refine And.intro ?_ ?_ | intro _)
 · rename_i h0 h
   rw [nm_bad (dec0 h0) (.inr h)] at hk; exact hk
 · rename_i h0 h
   rw [nm_good (dec0 h0) ⟨by simp, h⟩] at hk; exact hk
 · rename_i h0 h1 h
   rw [dec1 h0 h1] at hl; omega
 · rename_i h0 h1 h
   rw [nm_bad (dec1 h0 h1) h] at hk; exact hk
 · rename_i h0 h1 h
   rw [nm_good (dec1 h0 h1) h] at hk; exact hk
 · rename_i h0 h1 h
   rw [nm_bad (dec2 h0 h1) h] at hk; exact hk
 · rename_i h0 h1 h
   rw [nm_good (dec2 h0 h1) h] at hk; exact hk
theorem s135 : Sound G Tryz.prog 135 C165 := by
 refine sd135 (T := tabT [(182, C198), (183, C68)]) (tab_cons s182 (tab_cons s183 tab_nil)) (pureC_lawful _) (pure_hX fun args p x K h hp hk => ?_)
 split at h <;> simp only [Option.some.injEq, Prod.mk.injEq, reduceCtorEq] at h
 obtain ⟨rfl, rfl⟩ := h
 refine ⟨Nat.le_of_ble_eq_true rfl, ?_⟩
 rename_i s
 obtain ⟨q, rfl⟩ := ex_str s
 simp only [sem_str] at hk hp
 have hl := decS_len q
 by_cases h0 : q = nowh
 · subst h0
   have hq : unqL nowh = none := rfl
   simp -dsimp -implicitDefEqProofs only [S135, R135, C198, C68, hq, unqS, ↓Ev.xStp_eq, ↓Ev.P, Ev.Q, Bool.cond_true, Bool.cond_false, eq_self, forall_eq_or_imp, implies_true, forall_const, forall_eq, ↓reduceIte, reduceIte, Nat.reduceEqDiff, Nat.reduceAdd, reduceCtorEq, Nat.reduceSub, Int.reduceToNat, Int.reduceLE, Int.reduceLT, Int.reduceNeg, Nat.reduceBEq, Nat.reduceMul, Nat.reduceLeDiff, Nat.reduceMod, UInt8.reduceOfNat, Nat.reduceLT, Int.reduceEq, Int.reduceAdd, Int.reduceSub, Int.reduceMul]
   repeat' (first | with_reducible assumption | refine And.intro ?_ ?_ | intro _)
   · rename_i h; exact absurd h.2 (by decide)
   · rename_i h; exact absurd rfl h
   · rw [nm_good (m := []) (dec0 rfl) ⟨by simp, rfl⟩] at hk; exact hk
 · by_cases h1 : st34 q = true
   · have h1' := (st34_iff q).1 h1
     cases hq : unqL q with
     | none =>
       obtain ⟨m, rfl⟩ : ∃ m, q = 34 :: m := by
         cases q with
         | nil => cases h1
         | cons c r => have : c = 34 := by simpa [st34] using h1
                       exact ⟨r, by rw [this]⟩
       have hb := nm_bad rfl (.inr (named_bad hq rfl))
       simp -dsimp -implicitDefEqProofs only [S135, R135, C198, C68, hq, h0, h1', unqS, ↓Ev.xStp_eq, ↓Ev.P, Ev.Q, Bool.cond_true, Bool.cond_false, eq_self, forall_eq_or_imp, implies_true, forall_const, forall_eq, ↓reduceIte, reduceIte, Nat.reduceEqDiff, Nat.reduceAdd, reduceCtorEq, Nat.reduceSub, Int.reduceToNat, Int.reduceLE, Int.reduceLT, Int.reduceNeg, Nat.reduceBEq, Nat.reduceMul, Nat.reduceLeDiff, Nat.reduceMod, UInt8.reduceOfNat, Nat.reduceLT, Int.reduceEq, Int.reduceAdd, Int.reduceSub, Int.reduceMul]
       rw [hb] at hk
       repeat' (first | with_reducible assumption | refine And.intro ?_ ?_ | intro _)
       · simp only [List.length_cons] at hp; omega
       · simp only [List.length_cons] at hp; omega
       · rename_i h _
         exact h.elim (fun h => absurd (by omega) h) (fun h => absurd rfl h)
     | some z =>
       obtain ⟨o, r⟩ := z
       have hd : decS q = o := by rw [dec1 h0 h1, hq]; rfl
       simp -dsimp -implicitDefEqProofs only [S135, R135, C198, C68, hq, h0, h1', unqS, ↓Ev.xStp_eq, ↓Ev.P, Ev.Q, Bool.cond_true, Bool.cond_false, eq_self, forall_eq_or_imp, implies_true, forall_const, forall_eq, ↓reduceIte, reduceIte, Nat.reduceEqDiff, Nat.reduceAdd, reduceCtorEq, Nat.reduceSub, Int.reduceToNat, Int.reduceLE, Int.reduceLT, Int.reduceNeg, Nat.reduceBEq, Nat.reduceMul, Nat.reduceLeDiff, Nat.reduceMod, UInt8.reduceOfNat, Nat.reduceLT, Int.reduceEq, Int.reduceAdd, Int.reduceSub, Int.reduceMul]
       repeat' (first | with_reducible assumption | refine And.intro ?_ ?_ | intro _)
       · rename_i h
         rw [nm_bad hd (.inr (named_more hq h))] at hk; exact hk
       · rw [hd] at hl; omega
       · rename_i h
         rw [nm_bad hd h] at hk; exact hk
       · rename_i h
         rw [nm_good hd h] at hk; exact hk
   · have h1' : st34 q = false := by simpa using h1
     have h2 : ¬ (0 < (q.length : Int) ∧ (((q.getD 0 0).toNat : Nat) : Int) = 34) := fun h => h1 ((st34_iff q).2 h)
     have h3 : ¬ 0 < (q.length : Int) ∨ ¬ (((q.getD 0 0).toNat : Nat) : Int) = 34 := by
       by_cases h : 0 < (q.length : Int)
       · exact .inr fun e => h2 ⟨h, e⟩
       · exact .inl h
     have hd := dec2 h0 h1'
     simp -dsimp -implicitDefEqProofs only [S135, R135, C198, C68, h0, h2, h3, unqS, ↓Ev.xStp_eq, ↓Ev.P, Ev.Q, Bool.cond_true, Bool.cond_false, eq_self, forall_eq_or_imp, implies_true, forall_const, forall_eq, ↓reduceIte, reduceIte, Nat.reduceEqDiff, Nat.reduceAdd, reduceCtorEq, Nat.reduceSub, Int.reduceToNat, Int.reduceLE, Int.reduceLT, Int.reduceNeg, Nat.reduceBEq, Nat.reduceMul, Nat.reduceLeDiff, Nat.reduceMod, UInt8.reduceOfNat, Nat.reduceLT, Int.reduceEq, Int.reduceAdd, Int.reduceSub, Int.reduceMul]
     repeat' (first | with_reducible assumption | refine And.intro ?_ ?_ | intro _)
     · rename_i h
       rw [nm_bad hd h] at hk; exact hk
     · rename_i h
       rw [nm_good hd h] at hk; exact hk
theorem s142 : Sound G Tryz.prog 142 C165 := by
 refine sd142 (T := tabT [(135, C165)]) (tab_cons s135 tab_nil) (pureC_lawful _) (pure_hX fun args p x K h hp hk => ?_)
 split at h <;> simp only [Option.some.injEq, Prod.mk.injEq, reduceCtorEq] at h
 obtain ⟨rfl, rfl⟩ := h
 refine ⟨Nat.le_of_ble_eq_true rfl, ?_⟩
 simp -dsimp -implicitDefEqProofs only [S142, R142, C165, ↓Ev.xStp_eq, ↓Ev.P, Ev.Q, Bool.cond_true, Bool.cond_false, eq_self, forall_eq_or_imp, implies_true, forall_const, forall_eq, ↓reduceIte, reduceIte, Nat.reduceEqDiff, Nat.reduceAdd, reduceCtorEq, Nat.reduceSub, Int.reduceToNat, Int.reduceLE, Int.reduceLT, Int.reduceNeg, Nat.reduceBEq, Nat.reduceMul, Nat.reduceLeDiff, Nat.reduceMod, UInt8.reduceOfNat, Nat.reduceLT, Int.reduceEq, Int.reduceAdd, Int.reduceSub, Int.reduceMul]
 exact ⟨hp, hk⟩
end Go.Proofs.YtlghobefhmpfkaaGreatDoor
namespace Go.Proofs.YtlghobefhmpfkaaGreatDoor
open Go Go.Ev Go.Rcs
set_option maxRecDepth 100000
variable {G : World → Prop}
def nmG (p : List UInt8) (L : List (List UInt8)) (at_ : Nat) : Except Fl (List UInt8 × Nat) := match nextL L at_ with
 | .error e => .error e
 | .ok (s, a) => if s.take 4 = p then if (namedS (s.drop 4)).2 = 0 then .ok ((namedS (s.drop 4)).1, a) else .error ((a : Int), 253) else .error ((a : Int), 3)
abbrev HkF := List (List UInt8) → Int → Nat → Except Fl (Hk × Nat)
def goesH (bg : List UInt8) (L : List (List UInt8)) (at_ : Nat) (hs : List Hk) : Bool := decide (hs = []) || (decide (at_ < L.length) && decide ((L.getD at_ []).take bg.length = bg))
def hksG (hk : HkF) (bg : List UInt8) (L : List (List UInt8)) : Nat → Nat → List Hk → Except Fl (List Hk × Nat)
 | 0, at_, hs => .ok (hs, at_)
 | n + 1, at_, hs => if goesH bg L at_ hs = true then match hk L hs.length at_ with
     | .error e => .error e
     | .ok (h, a) => hksG hk bg L n a (hs ++ [h])
   else .ok (hs, at_)
def ptG (hk : HkF) (bg p1 p2 : List UInt8) (L : List (List UInt8)) (ahead : Int) (at_ : Nat) : Except Fl (Pt × Nat) := match nmG p1 L at_ with
 | .error e => .error e
 | .ok (o, a1) => if 64 ≤ ahead then .error ((a1 : Int), 9) else match nmG p2 L a1 with
   | .error e => .error e
   | .ok (n, a2) => match hksG hk bg L (L.length + 1) a2 [] with
     | .error e => .error e
     | .ok (hs, a) => .ok (((o, n), hs), a)
def psG (hk : HkF) (bg p1 p2 : List UInt8) (L : List (List UInt8)) : Nat → Nat → List Pt → Except Fl (List Pt)
 | 0, _, ps => .ok ps
 | n + 1, at_, ps => if at_ < L.length then match ptG hk bg p1 p2 L ps.length at_ with
     | .error e => .error e
     | .ok (p, a) => psG hk bg p1 p2 L n a (ps ++ [p])
   else .ok ps
def parG (hk : HkF) (bg p1 p2 : List UInt8) (s : List UInt8) : Except Fl (List Pt) := if 1048576 < s.length then .error (0, 9) else psG hk bg p1 p2 (lns s) (lns s).length 0 []
structure HkOk (hk : HkF) : Prop where
 le : ∀ {L ahead k h a}, hk L ahead k = .ok (h, a) → k < a ∧ a ≤ L.length ∧ h.2.length ≤ L.length ∧ ahead < 4096
 adv : ∀ {L ahead k h a}, k ≤ L.length → hk L ahead k = .ok (h, a) → h.2.length + k ≤ a
 err : ∀ {L ahead k} {a e : Int}, hk L ahead k = .error (a, e) → ¬ e = 0
 good : ∀ {L ahead k h a}, feedE L → hk L ahead k = .ok (h, a) → chkH h = 0
 sz : ∀ {L ahead k h a}, (∀ x ∈ L, x.length ≤ 1048576) → hk L ahead k = .ok (h, a) → ∀ m ∈ h.2, m.2.length ≤ 1048577
theorem nmG_le {p : List UInt8} {L : List (List UInt8)} {k a : Nat} {o : List UInt8} (h : nmG p L k = .ok (o, a)) : a = k + 1 ∧ k < L.length ∧ o.length ≤ 64 := by
 unfold nmG at h
 split at h
 · cases h
 · rename_i s a1 e
   obtain ⟨rfl, hlt, _⟩ := nextL_le e
   split at h
   · split at h
     · rename_i h0
       simp only [Except.ok.injEq, Prod.mk.injEq] at h
       refine ⟨h.2.symm, hlt, ?_⟩
       rw [← h.1]
       unfold namedS at h0 ⊢
       split
       · simp
       · rename_i h1
         simp only [not_or] at h1
         dsimp only
         omega
     · cases h
   · cases h
theorem nmG_err {p : List UInt8} {L : List (List UInt8)} {k : Nat} {a e : Int} (h : nmG p L k = .error (a, e)) : ¬ e = 0 := by
 unfold nmG at h
 split at h
 · rename_i x hx; cases h; exact (nx_next_err 0 hx).2.2
 · split at h
   · split at h
     · cases h
     · cases h; decide
   · cases h; decide
theorem hksG_le {hk : HkF} (H : HkOk hk) {bg : List UInt8} {L : List (List UInt8)} : ∀ (n at_ : Nat) (hs hh : List Hk) (a : Nat), hksG hk bg L n at_ hs = .ok (hh, a) → at_ ≤ L.length → hs.length ≤ 4096 → at_ ≤ a ∧ a ≤ L.length ∧ hh.length ≤ 4096
 | 0, at_, hs, hh, a, h, hl, h4 => by
   simp only [hksG, Except.ok.injEq, Prod.mk.injEq] at h
   obtain ⟨rfl, rfl⟩ := h
   exact ⟨Nat.le_refl _, hl, h4⟩
 | n + 1, at_, hs, hh, a, h, hl, h4 => by
   rw [hksG] at h
   split at h
   · split at h
     · cases h
     · rename_i x a1 hx
       obtain ⟨b1, b2, b3, b4⟩ := H.le hx
       have := hksG_le H n a1 _ hh a h b2 (by rw [List.length_append, List.length_singleton]; omega)
       omega
   · simp only [Except.ok.injEq, Prod.mk.injEq] at h
     obtain ⟨rfl, rfl⟩ := h
     exact ⟨Nat.le_refl _, hl, h4⟩
theorem hksG_ne {hk : HkF} {bg : List UInt8} {L : List (List UInt8)} : ∀ (n at_ : Nat) (hs hh : List Hk) (a : Nat), hksG hk bg L n at_ hs = .ok (hh, a) → (0 < n ∨ ¬ hs = []) → ¬ hh = []
 | 0, at_, hs, hh, a, h, h0 => by
   simp only [hksG, Except.ok.injEq, Prod.mk.injEq] at h
   obtain ⟨rfl, rfl⟩ := h
   exact h0.resolve_left (by omega)
 | n + 1, at_, hs, hh, a, h, h0 => by
   rw [hksG] at h
   split at h
   · split at h
     · cases h
     · exact hksG_ne n _ _ hh a h (.inr (by simp))
   · rename_i hg
     simp only [Except.ok.injEq, Prod.mk.injEq] at h
     obtain ⟨rfl, rfl⟩ := h
     intro e
     exact hg (by rw [goesH, decide_eq_true e]; rfl)
theorem hksG_all {hk : HkF} {bg : List UInt8} {L : List (List UInt8)} {Q : Hk → Prop} (hQ : ∀ {ahead k h a}, hk L ahead k = .ok (h, a) → Q h) : ∀ (n at_ : Nat) (hs hh : List Hk) (a : Nat), hksG hk bg L n at_ hs = .ok (hh, a) → (∀ h ∈ hs, Q h) → ∀ h ∈ hh, Q h
 | 0, at_, hs, hh, a, h, h0 => by
   simp only [hksG, Except.ok.injEq, Prod.mk.injEq] at h
   obtain ⟨rfl, rfl⟩ := h
   exact h0
 | n + 1, at_, hs, hh, a, h, h0 => by
   rw [hksG] at h
   split at h
   · split at h
     · cases h
     · rename_i x a1 hx
       refine hksG_all hQ n a1 _ hh a h fun y hy => ?_
       rcases List.mem_append.1 hy with hm | hm
       · exact h0 y hm
       · rw [List.mem_singleton.1 hm]; exact hQ hx
   · simp only [Except.ok.injEq, Prod.mk.injEq] at h
     obtain ⟨rfl, rfl⟩ := h
     exact h0
theorem ptG_le {hk : HkF} (H : HkOk hk) {bg p1 p2 : List UInt8} {L : List (List UInt8)} {ahead : Int} {k a : Nat} {p : Pt} (h : ptG hk bg p1 p2 L ahead k = .ok (p, a)) : k < a ∧ a ≤ L.length ∧ ahead < 64 := by
 unfold ptG at h
 split at h
 · cases h
 · rename_i o a1 h1
   obtain ⟨rfl, hlt, _⟩ := nmG_le h1
   split at h
   · cases h
   · rename_i h64
     split at h
     · cases h
     · rename_i nn a2 h2
       obtain ⟨rfl, hlt2, _⟩ := nmG_le h2
       split at h
       · cases h
       · rename_i hs a3 h3
         obtain ⟨b1, b2, _⟩ := hksG_le H _ _ _ _ _ h3 (by omega) (by simp)
         simp only [Except.ok.injEq, Prod.mk.injEq] at h
         omega
theorem psG_all {hk : HkF} {bg p1 p2 : List UInt8} {L : List (List UInt8)} {Q : Pt → Prop} (hQ : ∀ {ahead k p a}, ptG hk bg p1 p2 L ahead k = .ok (p, a) → Q p) : ∀ (n at_ : Nat) (ps pp : List Pt), psG hk bg p1 p2 L n at_ ps = .ok pp → (∀ p ∈ ps, Q p) → ∀ p ∈ pp, Q p
 | 0, at_, ps, pp, h, h0 => by
   simp only [psG, Except.ok.injEq] at h
   rw [← h]; exact h0
 | n + 1, at_, ps, pp, h, h0 => by
   rw [psG] at h
   split at h
   · split at h
     · cases h
     · rename_i x a1 hx
       refine psG_all hQ n a1 _ pp h fun y hy => ?_
       rcases List.mem_append.1 hy with hm | hm
       · exact h0 y hm
       · rw [List.mem_singleton.1 hm]; exact hQ hx
   · simp only [Except.ok.injEq] at h
     rw [← h]; exact h0
theorem psG_len {hk : HkF} (H : HkOk hk) {bg p1 p2 : List UInt8} {L : List (List UInt8)} : ∀ (n at_ : Nat) (ps pp : List Pt), psG hk bg p1 p2 L n at_ ps = .ok pp → ps.length ≤ 64 → pp.length ≤ 64
 | 0, at_, ps, pp, h, h0 => by
   simp only [psG, Except.ok.injEq] at h
   rw [← h]; exact h0
 | n + 1, at_, ps, pp, h, h0 => by
   rw [psG] at h
   split at h
   · split at h
     · cases h
     · rename_i x a1 hx
       obtain ⟨_, _, h6⟩ := ptG_le H hx
       exact psG_len H n a1 _ pp h (by rw [List.length_append, List.length_singleton]; omega)
   · simp only [Except.ok.injEq] at h
     rw [← h]; exact h0
def PtOk (p : Pt) : Prop := p.1.1.length ≤ 64 ∧ p.1.2.length ≤ 64 ∧ ¬ p.2 = [] ∧ p.2.length ≤ 4096 ∧ ∀ h ∈ p.2, chkH h = 0 ∧ h.2.length ≤ 1048576 ∧ ∀ m ∈ h.2, m.2.length ≤ 1048577
theorem ptG_ok {hk : HkF} (H : HkOk hk) {bg p1 p2 : List UInt8} {L : List (List UInt8)} (hf : feedE L) (hl : L.length ≤ 1048576) (hz : ∀ x ∈ L, x.length ≤ 1048576) {ahead : Int} {k a : Nat} {p : Pt} (h : ptG hk bg p1 p2 L ahead k = .ok (p, a)) : PtOk p := by
 unfold ptG at h
 split at h
 · cases h
 · rename_i o a1 h1
   obtain ⟨rfl, hlt, q1⟩ := nmG_le h1
   split at h
   · cases h
   · split at h
     · cases h
     · rename_i nn a2 h2
       obtain ⟨rfl, hlt2, q2⟩ := nmG_le h2
       split at h
       · cases h
       · rename_i hs a3 h3
         obtain ⟨b1, b2, b3⟩ := hksG_le H _ _ _ _ _ h3 (by omega) (by simp)
         simp only [Except.ok.injEq, Prod.mk.injEq] at h
         rw [← h.1]
         refine ⟨q1, q2, hksG_ne _ _ _ _ _ h3 (.inl (by omega)), b3, ?_⟩
         exact hksG_all (Q := fun h => chkH h = 0 ∧ h.2.length ≤ 1048576 ∧ ∀ m ∈ h.2, m.2.length ≤ 1048577) (fun hx => ⟨H.good hf hx, by have := (H.le hx).2.2.1; omega, H.sz hz hx⟩) _ _ _ _ _ h3 (by simp)
theorem parG_ok {hk : HkF} (H : HkOk hk) {bg p1 p2 : List UInt8} {s : List UInt8} {pp : List Pt} (h : parG hk bg p1 p2 s = .ok pp) : pp.length ≤ 64 ∧ ∀ p ∈ pp, PtOk p := by
 unfold parG at h
 split at h
 · cases h
 · rename_i h4
   obtain ⟨h1, h2⟩ := lns_szN s (by omega)
   exact ⟨psG_len H _ _ _ _ h (by simp), psG_all (fun hx => ptG_ok H (lns_feed s) h1 h2 hx) _ _ _ _ h (by simp)⟩
theorem psG_end {hk : HkF} {bg p1 p2 : List UInt8} {L : List (List UInt8)} {n at_ : Nat} {ps : List Pt} (h : ¬ at_ < L.length) : psG hk bg p1 p2 L n at_ ps = .ok ps := by
 cases n with
 | zero => rfl
 | succ n => rw [psG, if_neg h]
theorem hksG_end {hk : HkF} {bg : List UInt8} {L : List (List UInt8)} {n at_ : Nat} {hs : List Hk} (h : goesH bg L at_ hs = false) : hksG hk bg L n at_ hs = .ok (hs, at_) := by
 cases n with
 | zero => rfl
 | succ n => rw [hksG, if_neg (by rw [h]; decide)]
def cutS (p s : List UInt8) : Option (List UInt8 × List UInt8) := if Lib.index s p < 0 then none else some (s.take (Lib.index s p).toNat, s.drop ((Lib.index s p).toNat + p.length))
theorem cutS_len {p s a b : List UInt8} (h : cutS p s = some (a, b)) : a.length ≤ s.length ∧ b.length ≤ s.length := by
 unfold cutS at h
 split at h
 · cases h
 · simp only [Option.some.injEq, Prod.mk.injEq] at h
   rw [← h.1, ← h.2, List.length_take, List.length_drop]
   omega
def cntS (s : List UInt8) : (Int × Int) × Bool := match cutK 44 s with
 | none => (((parseS s).1, 1), decide ((parseS s).2 = 0))
 | some (p, q) => (((parseS p).1, (parseS q).1), decide ((parseS p).2 = 0) && decide ((parseS q).2 = 0))
theorem cntS_bd (s : List UInt8) : (0 ≤ (cntS s).1.1 ∧ (cntS s).1.1 ≤ 2147483647) ∧ 0 ≤ (cntS s).1.2 ∧ (cntS s).1.2 ≤ 2147483647 := by
 unfold cntS
 split
 · exact ⟨parseS_bd s, by dsimp only; omega⟩
 · exact ⟨parseS_bd _, parseS_bd _⟩
def pcsU (s : List UInt8) : Option (List UInt8 × List UInt8) := if s.take 4 = [64, 64, 32, 45] then
   match cutS [32, 43] (s.drop 4) with
   | none => none
   | some (old, rest) => match cutS [32, 64, 64] rest with
     | none => none
     | some (fresh, tail) => if tail = [] ∨ tail.getD 0 0 = 32 then some (old, fresh) else none
 else none
def hdU (s : List UInt8) : Option (Int × Int × Int × Int) := match pcsU s with
 | none => none
 | some (old, fresh) => if (cntS old).2 = true ∧ (cntS fresh).2 = true then some ((cntS old).1.1, (cntS old).1.2, (cntS fresh).1.1, (cntS fresh).1.2) else none
theorem hdU_bd {s : List UInt8} {c : Int × Int × Int × Int} (h : hdU s = some c) : (0 ≤ c.1 ∧ c.1 ≤ 2147483647) ∧ (0 ≤ c.2.1 ∧ c.2.1 ≤ 2147483647) ∧ (0 ≤ c.2.2.1 ∧ c.2.2.1 ≤ 2147483647) ∧ 0 ≤ c.2.2.2 ∧ c.2.2.2 ≤ 2147483647 := by
 unfold hdU at h
 split at h
 · cases h
 · rename_i old fresh e
   split at h
   · simp only [Option.some.injEq] at h
     subst h
     have h1 := cntS_bd old
     have h2 := cntS_bd fresh
     exact ⟨h1.1, h1.2, h2.1, h2.2⟩
   · cases h
def lnU (L : List (List UInt8)) (o f : Int) (at_ : Nat) : Except Fl ((Mk × Int × Int) × Nat) := match nextL L at_ with
 | .error e => .error e
 | .ok (s, a) => match s with
   | [] => .error ((a : Int), 3)
   | c :: r => if c = 32 then
       if o < 1 ∨ f < 1 then .error ((a : Int), 3)
       else if ((o = 1 ∧ f = 1) ∧ ¬ r = []) ∧ a < L.length ∧ L.getD a [] = markS then .ok (((32, r), o - 1, f - 1), a + 1)
       else .ok (((32, r ++ [10]), o - 1, f - 1), a)
     else if c = 45 then
       if o < 1 then .error ((a : Int), 3)
       else if (o = 1 ∧ ¬ r = []) ∧ a < L.length ∧ L.getD a [] = markS then .ok (((45, r), o - 1, f), a + 1)
       else .ok (((45, r ++ [10]), o - 1, f), a)
     else if c = 43 then
       if f < 1 then .error ((a : Int), 3)
       else if (f = 1 ∧ ¬ r = []) ∧ a < L.length ∧ L.getD a [] = markS then .ok (((43, r), o, f - 1), a + 1)
       else .ok (((43, r ++ [10]), o, f - 1), a)
     else .error ((a : Int), 3)
def lnsU (L : List (List UInt8)) : Nat → Int → Int → Nat → List Mk → Except Fl (List Mk × Nat)
 | 0, _, _, at_, ms => .ok (ms, at_)
 | n + 1, o, f, at_, ms => if o = 0 ∧ f = 0 then .ok (ms, at_) else match lnU L o f at_ with
   | .error e => .error e
   | .ok ((m, o', f'), a) => lnsU L n o' f' a (ms ++ [m])
def hkU : HkF := fun L ahead at_ => match nextL L at_ with
 | .error e => .error e
 | .ok (s, a) => match hdU s with
   | none => .error ((a : Int), 3)
   | some c => if 4096 ≤ ahead then .error ((a : Int), 9)
     else if (c.1 < 1 ∧ 0 < c.2.1) ∨ (c.2.2.1 < 1 ∧ 0 < c.2.2.2) then .error ((a : Int), 2)
     else match lnsU L (c.2.1 + c.2.2.2).toNat c.2.1 c.2.2.2 a [] with
       | .error e => .error e
       | .ok (ms, a') => if ms.any chgM = true then .ok ((c, ms), a') else .error ((a : Int), 50)
theorem nextL_bare {L : List (List UInt8)} {k a : Nat} {s : List UInt8} (h : nextL L k = .ok (s, a)) : (bareS (L.getD k [])).2 = true := by
 unfold nextL at h
 split at h
 · split at h
   · rename_i hb; exact hb
   · cases h
 · cases h
theorem lnU_spec {L : List (List UInt8)} (hL : feedE L) {o f : Int} {k a : Nat} {m : Mk} {o' f' : Int} (h : lnU L o f k = .ok ((m, o', f'), a)) (ho : 0 ≤ o) (hf : 0 ≤ f) :
   (k < a ∧ a ≤ L.length) ∧ (0 ≤ o' ∧ 0 ≤ f') ∧ (o = o' + if isO m = true then 1 else 0) ∧ (f = f' + if isN m = true then 1 else 0) ∧ (isO m || isN m) = true ∧ (lineQ m.2).1 = true ∧ ((lineQ m.2).2 = true ∨ ((isO m = true → o' = 0) ∧ (isN m = true → f' = 0))) := by
 unfold lnU at h
 split at h
 · cases h
 · rename_i s a1 hx
   obtain ⟨rfl, hlt, hs⟩ := nextL_le hx
   have h10 : 10 ∉ s := by
     rw [hs]
     refine bare_no (hL _ ?_) (nextL_bare hx)
     rw [List.getD_eq_getElem?_getD, List.getElem?_eq_getElem hlt, Option.getD_some]
     exact List.getElem_mem hlt
   split at h
   · cases h
   · rename_i c r
     have hr : 10 ∉ r := fun e => h10 (List.mem_cons_of_mem _ e)
     have q1 : lineQ (r ++ [10]) = (true, true) := by
       rw [lineQ, if_neg]
       · simp
       · rintro (e | e)
         · simp at e
         · simp at e; exact hr e
     have q2 : ¬ r = [] → (lineQ r).1 = true := fun hne => by
       rw [lineQ, if_neg]
       rintro (e | e)
       · exact hne e
       · exact hr (List.dropLast_subset _ e)
     have sg : ∀ w : List UInt8, isO (32, w) = true ∧ isN (32, w) = true ∧ isO (45, w) = true ∧ isN (45, w) = false ∧ isO (43, w) = false ∧ isN (43, w) = true := fun w => by simp [isO, isN]
     split at h
     · split at h
       · cases h
       · split at h
         · rename_i h1 h2
           simp only [Except.ok.injEq, Prod.mk.injEq] at h
           obtain ⟨⟨rfl, rfl, rfl⟩, rfl⟩ := h
           obtain ⟨s1, s2, s3, s4, s5, s6⟩ := sg r
           rw [s1, s2]
           exact ⟨by omega, by omega, by simp, by simp, rfl, q2 h2.1.2, .inr ⟨fun _ => by omega, fun _ => by omega⟩⟩
         · simp only [Except.ok.injEq, Prod.mk.injEq] at h
           obtain ⟨⟨rfl, rfl, rfl⟩, rfl⟩ := h
           obtain ⟨s1, s2, s3, s4, s5, s6⟩ := sg (r ++ [10])
           rw [s1, s2, q1]
           exact ⟨by omega, by omega, by simp, by simp, rfl, rfl, .inl rfl⟩
     · split at h
       · split at h
         · cases h
         · split at h
           · rename_i h1 h2
             simp only [Except.ok.injEq, Prod.mk.injEq] at h
             obtain ⟨⟨rfl, rfl, rfl⟩, rfl⟩ := h
             obtain ⟨s1, s2, s3, s4, s5, s6⟩ := sg r
             rw [s3, s4]
             exact ⟨by omega, by omega, by simp, by simp, rfl, q2 h2.1.2, .inr ⟨fun _ => by omega, fun e => (by cases e)⟩⟩
           · simp only [Except.ok.injEq, Prod.mk.injEq] at h
             obtain ⟨⟨rfl, rfl, rfl⟩, rfl⟩ := h
             obtain ⟨s1, s2, s3, s4, s5, s6⟩ := sg (r ++ [10])
             rw [s3, s4, q1]
             exact ⟨by omega, by omega, by simp, by simp, rfl, rfl, .inl rfl⟩
       · split at h
         · split at h
           · cases h
           · split at h
             · rename_i h1 h2
               simp only [Except.ok.injEq, Prod.mk.injEq] at h
               obtain ⟨⟨rfl, rfl, rfl⟩, rfl⟩ := h
               obtain ⟨s1, s2, s3, s4, s5, s6⟩ := sg r
               rw [s5, s6]
               exact ⟨by omega, by omega, by simp, by simp, rfl, q2 h2.1.2, .inr ⟨fun e => (by cases e), fun _ => by omega⟩⟩
             · simp only [Except.ok.injEq, Prod.mk.injEq] at h
               obtain ⟨⟨rfl, rfl, rfl⟩, rfl⟩ := h
               obtain ⟨s1, s2, s3, s4, s5, s6⟩ := sg (r ++ [10])
               rw [s5, s6, q1]
               exact ⟨by omega, by omega, by simp, by simp, rfl, rfl, .inl rfl⟩
         · cases h
theorem lnU_err {L : List (List UInt8)} {o f : Int} {k : Nat} {a e : Int} (h : lnU L o f k = .error (a, e)) : ¬ e = 0 := by
 unfold lnU at h
 split at h
 · rename_i x hx; cases h; exact (nx_next_err 0 hx).2.2
 · repeat' split at h
   all_goals first | (cases h; done) | (cases h; decide)
theorem lnU_sz {L : List (List UInt8)} (hL : ∀ x ∈ L, x.length ≤ 1048576) {o f : Int} {k a : Nat} {m : Mk} {o' f' : Int} (h : lnU L o f k = .ok ((m, o', f'), a)) : m.2.length ≤ 1048577 := by
 unfold lnU at h
 split at h
 · cases h
 · rename_i s a1 hx
   obtain ⟨_, hlt, hs⟩ := nextL_le hx
   have h1 : s.length ≤ 1048576 := by
     rw [hs]
     refine Nat.le_trans (bare_len _) (hL _ ?_)
     rw [List.getD_eq_getElem?_getD, List.getElem?_eq_getElem hlt, Option.getD_some]
     exact List.getElem_mem hlt
   clear hs
   repeat' split at h
   all_goals first
     | (cases h; done)
     | (simp only [Except.ok.injEq, Prod.mk.injEq] at h
        obtain ⟨⟨rfl, rfl, rfl⟩, rfl⟩ := h
        simp only [List.length_cons, List.length_append, List.length_nil] at h1 ⊢
        omega)
theorem lnU_le {L : List (List UInt8)} {o f : Int} {k a : Nat} {m : Mk} {o' f' : Int} (h : lnU L o f k = .ok ((m, o', f'), a)) (ho : 0 ≤ o) (hf : 0 ≤ f) : (k < a ∧ a ≤ L.length) ∧ (0 ≤ o' ∧ 0 ≤ f') ∧ o' + f' < o + f ∧ o' ≤ o ∧ f' ≤ f := by
 unfold lnU at h
 split at h
 · cases h
 · rename_i s a1 hx
   obtain ⟨rfl, hlt, hs⟩ := nextL_le hx
   clear hs
   repeat' split at h
   all_goals first
     | (cases h; done)
     | (simp only [Except.ok.injEq, Prod.mk.injEq] at h
        obtain ⟨⟨rfl, rfl, rfl⟩, rfl⟩ := h
        omega)
theorem lnsU_le {L : List (List UInt8)} : ∀ (n : Nat) (o f : Int) (k : Nat) (ms mm : List Mk) (a : Nat), lnsU L n o f k ms = .ok (mm, a) → 0 ≤ o → 0 ≤ f → k ≤ L.length → k ≤ a ∧ a ≤ L.length ∧ mm.length + k ≤ ms.length + a
 | 0, o, f, k, ms, mm, a, h, ho, hf, hk => by
   simp only [lnsU, Except.ok.injEq, Prod.mk.injEq] at h
   obtain ⟨rfl, rfl⟩ := h
   exact ⟨Nat.le_refl _, hk, Nat.le_refl _⟩
 | n + 1, o, f, k, ms, mm, a, h, ho, hf, hk => by
   rw [lnsU] at h
   split at h
   · simp only [Except.ok.injEq, Prod.mk.injEq] at h
     obtain ⟨rfl, rfl⟩ := h
     exact ⟨Nat.le_refl _, hk, Nat.le_refl _⟩
   · split at h
     · cases h
     · rename_i m o' f' a1 hx
       obtain ⟨⟨b1, b2⟩, ⟨b3, b4⟩, _⟩ := lnU_le hx ho hf
       have := lnsU_le n o' f' a1 _ mm a h b3 b4 b2
       rw [List.length_append, List.length_singleton] at this
       omega
theorem lnsU_err {L : List (List UInt8)} : ∀ (n : Nat) (o f : Int) (k : Nat) (ms : List Mk) (a e : Int), lnsU L n o f k ms = .error (a, e) → ¬ e = 0
 | 0, o, f, k, ms, a, e, h => by simp [lnsU] at h
 | n + 1, o, f, k, ms, a, e, h => by
   rw [lnsU] at h
   split at h
   · cases h
   · split at h
     · rename_i x hx; cases h; exact lnU_err hx
     · exact lnsU_err n _ _ _ _ _ _ h
theorem lnsU_sz {L : List (List UInt8)} (hL : ∀ x ∈ L, x.length ≤ 1048576) : ∀ (n : Nat) (o f : Int) (k : Nat) (ms mm : List Mk) (a : Nat), lnsU L n o f k ms = .ok (mm, a) → (∀ m ∈ ms, m.2.length ≤ 1048577) → ∀ m ∈ mm, m.2.length ≤ 1048577
 | 0, o, f, k, ms, mm, a, h, h0 => by
   simp only [lnsU, Except.ok.injEq, Prod.mk.injEq] at h
   obtain ⟨rfl, rfl⟩ := h
   exact h0
 | n + 1, o, f, k, ms, mm, a, h, h0 => by
   rw [lnsU] at h
   split at h
   · simp only [Except.ok.injEq, Prod.mk.injEq] at h
     obtain ⟨rfl, rfl⟩ := h
     exact h0
   · split at h
     · cases h
     · rename_i m o' f' a1 hx
       refine lnsU_sz hL n o' f' a1 _ mm a h fun y hy => ?_
       rcases List.mem_append.1 hy with hm | hm
       · exact h0 y hm
       · rw [List.mem_singleton.1 hm]; exact lnU_sz hL hx
theorem any_len {f : Mk → Bool} {l : List Mk} (h : (l.filter f).length = 0) : l.any f = false := by
 rw [List.any_eq_false]
 intro m hm hf
 have : m ∈ l.filter f := List.mem_filter.2 ⟨hm, hf⟩
 rw [List.length_eq_zero_iff.1 h] at this
 cases this
theorem lnsU_good {L : List (List UInt8)} (hL : feedE L) : ∀ (n : Nat) (o f : Int) (k : Nat) (ms mm : List Mk) (a : Nat), lnsU L n o f k ms = .ok (mm, a) → 0 ≤ o → 0 ≤ f → o + f ≤ n → ∃ l, mm = ms ++ l ∧ ((l.filter isO).length : Int) = o ∧ ((l.filter isN).length : Int) = f ∧ fieldsT l = true
 | 0, o, f, k, ms, mm, a, h, ho, hf, hn => by
   simp only [lnsU, Except.ok.injEq, Prod.mk.injEq] at h
   obtain ⟨rfl, rfl⟩ := h
   exact ⟨[], by simp, by simp; omega, by simp; omega, rfl⟩
 | n + 1, o, f, k, ms, mm, a, h, ho, hf, hn => by
   rw [lnsU] at h
   split at h
   · rename_i h0
     simp only [Except.ok.injEq, Prod.mk.injEq] at h
     obtain ⟨rfl, rfl⟩ := h
     exact ⟨[], by simp, by simp; omega, by simp; omega, rfl⟩
   · split at h
     · cases h
     · rename_i m o' f' a1 hx
       obtain ⟨_, ⟨b3, b4⟩, b5, b6, b7, b8, b9⟩ := lnU_spec hL hx ho hf
       obtain ⟨_, _, c1, _⟩ := lnU_le hx ho hf
       obtain ⟨l, e1, e2, e3, e4⟩ := lnsU_good hL n o' f' a1 _ mm a h b3 b4 (by omega)
       refine ⟨m :: l, by rw [e1]; simp, ?_, ?_, ?_⟩
       · rw [List.filter_cons]
         split
         · rename_i hm
           rw [if_pos hm] at b5
           rw [List.length_cons]; omega
         · rename_i hm
           rw [if_neg hm] at b5
           omega
       · rw [List.filter_cons]
         split
         · rename_i hm
           rw [if_pos hm] at b6
           rw [List.length_cons]; omega
         · rename_i hm
           rw [if_neg hm] at b6
           omega
       · rw [fieldsT, e4, okAt, b8, b7, Bool.and_true, Bool.true_and, Bool.true_and]
         rcases b9 with b9 | ⟨b9, b10⟩
         · rw [b9]; rfl
         · have h1 : (isO m && l.any isO) = false := by
             cases hm : isO m with
             | false => rfl
             | true => rw [any_len (by have := b9 hm; omega)]; rfl
           have h2 : (isN m && l.any isN) = false := by
             cases hm : isN m with
             | false => rfl
             | true => rw [any_len (by have := b10 hm; omega)]; rfl
           rw [h1, h2]; simp
theorem pick_O (l : List Mk) : (pickT 45 l).length = (l.filter isO).length := by
 unfold pickT isO
 rw [List.length_map]
 congr 2
 funext m
 rw [Bool.or_comm]
theorem pick_N (l : List Mk) : (pickT 43 l).length = (l.filter isN).length := by
 unfold pickT isN
 rw [List.length_map]
 congr 2
 funext m
 rw [Bool.or_comm]
theorem hkU_ok : HkOk hkU where
 le := by
   intro L ahead k h a e
   unfold hkU at e
   split at e
   · cases e
   · rename_i s a1 e1
     obtain ⟨rfl, hlt, _⟩ := nextL_le e1
     split at e
     · cases e
     · rename_i c hc
       split at e
       · cases e
       · split at e
         · cases e
         · split at e
           · cases e
           · rename_i ms a2 e2
             obtain ⟨d1, d2, d3, d4⟩ := hdU_bd hc
             obtain ⟨b1, b2, b3⟩ := lnsU_le _ _ _ _ _ _ _ e2 d2.1 d4.1 (by omega)
             split at e
             · simp only [Except.ok.injEq, Prod.mk.injEq] at e
               obtain ⟨rfl, rfl⟩ := e
               simp only [List.length_nil] at b3
               dsimp only
               omega
             · cases e
 adv := by
   intro L ahead k h a hk e
   unfold hkU at e
   split at e
   · cases e
   · rename_i s a1 e1
     obtain ⟨rfl, hlt, _⟩ := nextL_le e1
     split at e
     · cases e
     · rename_i c hc
       split at e
       · cases e
       · split at e
         · cases e
         · split at e
           · cases e
           · rename_i ms a2 e2
             obtain ⟨d1, d2, d3, d4⟩ := hdU_bd hc
             obtain ⟨b1, b2, b3⟩ := lnsU_le _ _ _ _ _ _ _ e2 d2.1 d4.1 (by omega)
             split at e
             · simp only [Except.ok.injEq, Prod.mk.injEq] at e
               obtain ⟨rfl, rfl⟩ := e
               simp only [List.length_nil] at b3
               dsimp only
               omega
             · cases e
 err := by
   intro L ahead k a e h
   unfold hkU at h
   split at h
   · rename_i x hx; cases h; exact (nx_next_err 0 hx).2.2
   · split at h
     · cases h; decide
     · split at h
       · cases h; decide
       · split at h
         · cases h; decide
         · split at h
           · rename_i x hx; cases h; exact lnsU_err _ _ _ _ _ _ _ hx
           · split at h
             · cases h
             · cases h; decide
 good := by
   intro L ahead k h a hL e
   unfold hkU at e
   split at e
   · cases e
   · split at e
     · cases e
     · rename_i c hc
       split at e
       · cases e
       · split at e
         · cases e
         · rename_i hr
           split at e
           · cases e
           · rename_i ms a2 e2
             split at e
             · rename_i hch
               obtain ⟨d1, d2, d3, d4⟩ := hdU_bd hc
               obtain ⟨l, e3, e4, e5, e6⟩ := lnsU_good hL _ _ _ _ _ _ _ e2 d2.1 d4.1 (by omega)
               rw [List.nil_append] at e3
               subst e3
               simp only [Except.ok.injEq, Prod.mk.injEq] at e
               obtain ⟨rfl, rfl⟩ := e
               unfold chkH hkChk
               dsimp only
               rw [cnt_inN d1, cnt_inN d2, cnt_inN d3, cnt_inN d4, pick_O, pick_N, e6, hch, if_neg, if_neg (by decide), if_neg (by omega), if_neg (by decide)]
               simp only [Bool.true_eq_false, false_or]
               omega
             · cases e
 sz := by
   intro L ahead k h a hL e
   unfold hkU at e
   split at e
   · cases e
   · split at e
     · cases e
     · split at e
       · cases e
       · split at e
         · cases e
         · split at e
           · cases e
           · rename_i ms a2 e2
             split at e
             · simp only [Except.ok.injEq, Prod.mk.injEq] at e
               obtain ⟨rfl, rfl⟩ := e
               exact lnsU_sz hL _ _ _ _ _ _ _ e2 (by simp)
             · cases e
end Go.Proofs.YtlghobefhmpfkaaGreatDoor
namespace Go.Proofs
open Go.Shelf
def Tryz.lays119_ren : Go.Shelf.Ren := ⟨fun | 119 => 195 | n => n, fun | 21 => 21 | 4 => 4 | n => n, fun | n => n⟩
theorem Tryz.lays119 : Go.Proofs.Lays.n119 Tryz.prog Tryz.lays119_ren := {
 mixed := by kernel_rfl
 f119 := Tryz.func195.trans (congrArg some (by kernel_rfl))
 t4 := Tryz.underlying4
 a4 := Tryz.isAgg4
 z4 := Tryz.sizeOf4
 v4 := Tryz.zeroValue4
 t21 := Tryz.underlying21
 a21 := Tryz.isAgg21
 z21 := Tryz.sizeOf21
 v21 := Tryz.zeroValue21 }
theorem Tryz.utf8_ValidRune (r : Int) (w : World) :
 Calls Tryz.prog 195 #[.int .i32 r] w fun e w' => e = .returned (.bool (Lib.validRune r)) ∧ w' = w := Any.utf8_ValidRune Tryz.lays119 r w
end Go.Proofs
namespace Go.Proofs.YtlghobefhmpfkaaGreatDoor
open Go Go.Ev
set_option maxRecDepth 100000
variable {G : World → Prop}
def CValM : Contract := pureC fun args => match args with
 | [.d (.v (.int .i32 r))] => some (True, .d (.v (.bool (Lib.validRune r))))
 | _ => none
theorem sValM : Sound G Tryz.prog 195 CValM := by
 refine sound_calls ⟨Tryz.f195, by kernel_rfl, by kernel_rfl, by kernel_rfl⟩ fun args p x h hp => ?_
 split at h <;> simp only [Option.some.injEq, Prod.mk.injEq, reduceCtorEq] at h
 obtain ⟨rfl, rfl⟩ := h
 refine ⟨_, fun m n c => ⟨rfl, rfl⟩, fun m c vs hv w => ?_⟩
 match vs, hv with
 | [v], hv =>
   simp only [CnL, and_true] at hv
   rw [of_v hv]
   exact Tryz.utf8_ValidRune _ w
 | [], hv => simp [CnL] at hv
 | _ :: _ :: _, hv => simp [CnL] at hv
def idxM (r : Int) : Int := if r = 32 then 0 else if r = 45 then 1 else if r = 43 then 2 else -1
def CIdxM : Contract := pureC fun args => match args with
 | [.d (.v (.string p)), .d (.v (.int .i32 r))] => some (p.data.toList = [32, 45, 43] ∧ 0 ≤ r ∧ r ≤ 1114111, .d (.v (.int .i64 (idxM r))))
 | _ => none
theorem idxM_low (r : Int) (h : 0 ≤ r ∧ r < 128) : Lib.indexByte [32, 45, 43] (r.toNat.toUInt8) = idxM r := by
 have : ∀ n : Fin 128, Lib.indexByte [32, 45, 43] (n.val.toUInt8) = idxM (n.val : Int) := by decide +kernel
 have h2 := this ⟨r.toNat, by omega⟩
 simpa [Int.toNat_of_nonneg h.1] using h2
theorem wrap8M (r : Int) (h : 0 ≤ r ∧ r < 256) : IntKind.u8.wrap r = r := by
 simp only [IntKind.wrap, IntKind.bits, IntKind.signed]
 simp
 omega
theorem encM (r : Int) (h : 128 ≤ r) : ∃ l : List UInt8, Utf8.encode r = ⟨l.toArray⟩ ∧ 2 ≤ l.length ∧ l.length ≤ 4 ∧ 128 ≤ (l.getD (l.length - 1) 0).toNat := by
 have ho : ∀ n : Nat, 128 ≤ (UInt8.ofNat (128 + n % 64)).toNat := fun n => by simp [UInt8.toNat_ofNat']; omega
 have hc : 128 ≤ (if Utf8.valid r then r.toNat else Utf8.runeError) := by
   split
   · omega
   · decide
 unfold Utf8.encode
 generalize (if Utf8.valid r then r.toNat else Utf8.runeError) = c at hc
 simp only
 rw [if_neg (by omega)]
 split
 · exact ⟨[_, _], rfl, by simp, by simp, ho _⟩
 · split
   · exact ⟨[_, _, _], rfl, by simp, by simp, ho _⟩
   · exact ⟨[_, _, _, _], rfl, by simp, by simp, ho _⟩
theorem decM0 : Utf8.decode ⟨#[32, 45, 43]⟩ 0 = (32, 1) := by decide
theorem decM1 : Utf8.decode ⟨#[32, 45, 43]⟩ 1 = (45, 1) := by decide
theorem decM2 : Utf8.decode ⟨#[32, 45, 43]⟩ 2 = (43, 1) := by decide
set_option maxHeartbeats 2000000 in
theorem sIdxM : Sound G Tryz.prog 156 CIdxM := by
 refine sd156 (T := tabT [(116, C163), (195, CValM)]) (tab_cons s116 (tab_cons sValM tab_nil)) (pureC_lawful _) (pure_hX fun args p x K h hp hk => ?_)
 split at h <;> simp only [Option.some.injEq, Prod.mk.injEq, reduceCtorEq] at h
 obtain ⟨rfl, rfl⟩ := h
 refine ⟨Nat.le_of_ble_eq_true rfl, ?_⟩
 rename_i p r
 obtain ⟨p, rfl⟩ := ex_str p
 simp only [sem_str] at hp
 obtain ⟨rfl, h0, h1⟩ := hp
 have e1 : ((3 : Nat) : Int) = 3 := rfl
 by_cases hl : r < 128
 · have hi := idxM_low r ⟨h0, hl⟩
   have hw := wrap8M r ⟨h0, by omega⟩
   simp -dsimp -implicitDefEqProofs only [S156, R156, C163, CValM, h0, hl, hi, hw, ↓Ev.xStp_eq, ↓Ev.P, Ev.Q, Bool.cond_true, Bool.cond_false, eq_self, forall_eq_or_imp, implies_true, forall_const, forall_eq, ↓reduceIte, reduceIte, Nat.reduceEqDiff, Nat.reduceAdd, reduceCtorEq, Nat.reduceSub, Int.reduceToNat, Int.reduceLE, Int.reduceLT, Int.reduceNeg, Nat.reduceBEq, Nat.reduceMul, Nat.reduceLeDiff, Nat.reduceMod, UInt8.reduceOfNat, Nat.reduceLT, Int.reduceEq, Int.reduceAdd, Int.reduceSub, Int.reduceMul]
   exact hk
 · have hi : idxM r = -1 := by unfold idxM; rw [if_neg (by omega), if_neg (by omega), if_neg (by omega)]
   rw [hi] at hk
   by_cases he : r = 65533
   · subst he
     simp -dsimp -implicitDefEqProofs only [S156, R156, C163, CValM, ↓Ev.xStp_eq, ↓Ev.P, Ev.Q, Bool.cond_true, Bool.cond_false, eq_self, forall_eq_or_imp, implies_true, forall_const, forall_eq, ↓reduceIte, reduceIte, Nat.reduceEqDiff, Nat.reduceAdd, reduceCtorEq, Nat.reduceSub, Int.reduceToNat, Int.reduceLE, Int.reduceLT, Int.reduceNeg, Nat.reduceBEq, Nat.reduceMul, Nat.reduceLeDiff, Nat.reduceMod, UInt8.reduceOfNat, Nat.reduceLT, Int.reduceEq, Int.reduceAdd, Int.reduceSub, Int.reduceMul]
     refine xLoop_intro (fun k st => ∃ i : Nat, i ≤ 3 ∧ k = 3 - i ∧ st = ⟨[(175, .own 0)], 1, [(0, .iter ⟨#[32, 45, 43]⟩ i)]⟩) 3 [0] ?_ ?_ ?_
     · simp -dsimp -implicitDefEqProofs only [↓Ev.xStp_eq, ↓Ev.P, Ev.Q, Bool.cond_true, Bool.cond_false, eq_self, forall_eq_or_imp, implies_true, forall_const, forall_eq, ↓reduceIte, reduceIte, Nat.reduceEqDiff, Nat.reduceAdd, reduceCtorEq, Nat.reduceSub, Int.reduceToNat, Int.reduceLE, Int.reduceLT, Int.reduceNeg, Nat.reduceBEq, Nat.reduceMul, Nat.reduceLeDiff, Nat.reduceMod, UInt8.reduceOfNat, Nat.reduceLT, Int.reduceEq, Int.reduceAdd, Int.reduceSub, Int.reduceMul]
     · simp -dsimp -implicitDefEqProofs only [↓Ev.xStp_eq, ↓Ev.P, Ev.Q, Bool.cond_true, Bool.cond_false, eq_self, forall_eq_or_imp, implies_true, forall_const, forall_eq, ↓reduceIte, reduceIte, Nat.reduceEqDiff, Nat.reduceAdd, reduceCtorEq, Nat.reduceSub, Int.reduceToNat, Int.reduceLE, Int.reduceLT, Int.reduceNeg, Nat.reduceBEq, Nat.reduceMul, Nat.reduceLeDiff, Nat.reduceMod, UInt8.reduceOfNat, Nat.reduceLT, Int.reduceEq, Int.reduceAdd, Int.reduceSub, Int.reduceMul]
       exact ⟨0, by omega, by omega, rfl⟩
     · rintro k st ⟨i, hi, hk2, rfl⟩
       have hc : i = 0 ∨ i = 1 ∨ i = 2 ∨ i = 3 := by omega
       rcases hc with rfl | rfl | rfl | rfl
       · simp -dsimp -implicitDefEqProofs only [decM0, ↓Ev.xStp_eq, ↓Ev.P, Ev.Q, Bool.cond_true, Bool.cond_false, eq_self, forall_eq_or_imp, implies_true, forall_const, forall_eq, ↓reduceIte, reduceIte, Nat.reduceEqDiff, Nat.reduceAdd, reduceCtorEq, Nat.reduceSub, Int.reduceToNat, Int.reduceLE, Int.reduceLT, Int.reduceNeg, Nat.reduceBEq, Nat.reduceMul, Nat.reduceLeDiff, Nat.reduceMod, UInt8.reduceOfNat, Nat.reduceLT, Int.reduceEq, Int.reduceAdd, Int.reduceSub, Int.reduceMul]
         refine ⟨fun h => by omega, fun _ => ?_⟩
         refine xAgain_intro 2 [0] (by omega) (by simp -dsimp -implicitDefEqProofs only [↓Ev.xStp_eq, ↓Ev.P, Ev.Q, Bool.cond_true, Bool.cond_false, eq_self, forall_eq_or_imp, implies_true, forall_const, forall_eq, ↓reduceIte, reduceIte, Nat.reduceEqDiff, Nat.reduceAdd, reduceCtorEq, Nat.reduceSub, Int.reduceToNat, Int.reduceLE, Int.reduceLT, Int.reduceNeg, Nat.reduceBEq, Nat.reduceMul, Nat.reduceLeDiff, Nat.reduceMod, UInt8.reduceOfNat, Nat.reduceLT, Int.reduceEq, Int.reduceAdd, Int.reduceSub, Int.reduceMul]) ⟨1, by omega, rfl, ?_⟩
         simp -dsimp -implicitDefEqProofs only [↓Ev.xStp_eq, ↓Ev.P, Ev.Q, Bool.cond_true, Bool.cond_false, eq_self, forall_eq_or_imp, implies_true, forall_const, forall_eq, ↓reduceIte, reduceIte, Nat.reduceEqDiff, Nat.reduceAdd, reduceCtorEq, Nat.reduceSub, Int.reduceToNat, Int.reduceLE, Int.reduceLT, Int.reduceNeg, Nat.reduceBEq, Nat.reduceMul, Nat.reduceLeDiff, Nat.reduceMod, UInt8.reduceOfNat, Nat.reduceLT, Int.reduceEq, Int.reduceAdd, Int.reduceSub, Int.reduceMul]
       · simp -dsimp -implicitDefEqProofs only [decM1, ↓Ev.xStp_eq, ↓Ev.P, Ev.Q, Bool.cond_true, Bool.cond_false, eq_self, forall_eq_or_imp, implies_true, forall_const, forall_eq, ↓reduceIte, reduceIte, Nat.reduceEqDiff, Nat.reduceAdd, reduceCtorEq, Nat.reduceSub, Int.reduceToNat, Int.reduceLE, Int.reduceLT, Int.reduceNeg, Nat.reduceBEq, Nat.reduceMul, Nat.reduceLeDiff, Nat.reduceMod, UInt8.reduceOfNat, Nat.reduceLT, Int.reduceEq, Int.reduceAdd, Int.reduceSub, Int.reduceMul]
         refine ⟨fun h => by omega, fun _ => ?_⟩
         refine xAgain_intro 1 [0] (by omega) (by simp -dsimp -implicitDefEqProofs only [↓Ev.xStp_eq, ↓Ev.P, Ev.Q, Bool.cond_true, Bool.cond_false, eq_self, forall_eq_or_imp, implies_true, forall_const, forall_eq, ↓reduceIte, reduceIte, Nat.reduceEqDiff, Nat.reduceAdd, reduceCtorEq, Nat.reduceSub, Int.reduceToNat, Int.reduceLE, Int.reduceLT, Int.reduceNeg, Nat.reduceBEq, Nat.reduceMul, Nat.reduceLeDiff, Nat.reduceMod, UInt8.reduceOfNat, Nat.reduceLT, Int.reduceEq, Int.reduceAdd, Int.reduceSub, Int.reduceMul]) ⟨2, by omega, rfl, ?_⟩
         simp -dsimp -implicitDefEqProofs only [↓Ev.xStp_eq, ↓Ev.P, Ev.Q, Bool.cond_true, Bool.cond_false, eq_self, forall_eq_or_imp, implies_true, forall_const, forall_eq, ↓reduceIte, reduceIte, Nat.reduceEqDiff, Nat.reduceAdd, reduceCtorEq, Nat.reduceSub, Int.reduceToNat, Int.reduceLE, Int.reduceLT, Int.reduceNeg, Nat.reduceBEq, Nat.reduceMul, Nat.reduceLeDiff, Nat.reduceMod, UInt8.reduceOfNat, Nat.reduceLT, Int.reduceEq, Int.reduceAdd, Int.reduceSub, Int.reduceMul]
       · simp -dsimp -implicitDefEqProofs only [decM2, ↓Ev.xStp_eq, ↓Ev.P, Ev.Q, Bool.cond_true, Bool.cond_false, eq_self, forall_eq_or_imp, implies_true, forall_const, forall_eq, ↓reduceIte, reduceIte, Nat.reduceEqDiff, Nat.reduceAdd, reduceCtorEq, Nat.reduceSub, Int.reduceToNat, Int.reduceLE, Int.reduceLT, Int.reduceNeg, Nat.reduceBEq, Nat.reduceMul, Nat.reduceLeDiff, Nat.reduceMod, UInt8.reduceOfNat, Nat.reduceLT, Int.reduceEq, Int.reduceAdd, Int.reduceSub, Int.reduceMul]
         refine ⟨fun h => by omega, fun _ => ?_⟩
         refine xAgain_intro 0 [0] (by omega) (by simp -dsimp -implicitDefEqProofs only [↓Ev.xStp_eq, ↓Ev.P, Ev.Q, Bool.cond_true, Bool.cond_false, eq_self, forall_eq_or_imp, implies_true, forall_const, forall_eq, ↓reduceIte, reduceIte, Nat.reduceEqDiff, Nat.reduceAdd, reduceCtorEq, Nat.reduceSub, Int.reduceToNat, Int.reduceLE, Int.reduceLT, Int.reduceNeg, Nat.reduceBEq, Nat.reduceMul, Nat.reduceLeDiff, Nat.reduceMod, UInt8.reduceOfNat, Nat.reduceLT, Int.reduceEq, Int.reduceAdd, Int.reduceSub, Int.reduceMul]) ⟨3, by omega, rfl, ?_⟩
         simp -dsimp -implicitDefEqProofs only [↓Ev.xStp_eq, ↓Ev.P, Ev.Q, Bool.cond_true, Bool.cond_false, eq_self, forall_eq_or_imp, implies_true, forall_const, forall_eq, ↓reduceIte, reduceIte, Nat.reduceEqDiff, Nat.reduceAdd, reduceCtorEq, Nat.reduceSub, Int.reduceToNat, Int.reduceLE, Int.reduceLT, Int.reduceNeg, Nat.reduceBEq, Nat.reduceMul, Nat.reduceLeDiff, Nat.reduceMod, UInt8.reduceOfNat, Nat.reduceLT, Int.reduceEq, Int.reduceAdd, Int.reduceSub, Int.reduceMul]
       · simp -dsimp -implicitDefEqProofs only [↓Ev.xStp_eq, ↓Ev.P, Ev.Q, Bool.cond_true, Bool.cond_false, eq_self, forall_eq_or_imp, implies_true, forall_const, forall_eq, ↓reduceIte, reduceIte, Nat.reduceEqDiff, Nat.reduceAdd, reduceCtorEq, Nat.reduceSub, Int.reduceToNat, Int.reduceLE, Int.reduceLT, Int.reduceNeg, Nat.reduceBEq, Nat.reduceMul, Nat.reduceLeDiff, Nat.reduceMod, UInt8.reduceOfNat, Nat.reduceLT, Int.reduceEq, Int.reduceAdd, Int.reduceSub, Int.reduceMul]
         exact hk
   · cases hv : Lib.validRune r with
     | false =>
       simp -dsimp -implicitDefEqProofs only [S156, R156, C163, CValM, h0, hl, he, hv, ↓Ev.xStp_eq, ↓Ev.P, Ev.Q, Bool.cond_true, Bool.cond_false, eq_self, forall_eq_or_imp, implies_true, forall_const, forall_eq, ↓reduceIte, reduceIte, Nat.reduceEqDiff, Nat.reduceAdd, reduceCtorEq, Nat.reduceSub, Int.reduceToNat, Int.reduceLE, Int.reduceLT, Int.reduceNeg, Nat.reduceBEq, Nat.reduceMul, Nat.reduceLeDiff, Nat.reduceMod, UInt8.reduceOfNat, Nat.reduceLT, Int.reduceEq, Int.reduceAdd, Int.reduceSub, Int.reduceMul]
       exact hk
     | true =>
       obtain ⟨q, q1, q2, q3, q4⟩ := encM r (by omega)
       simp -dsimp -implicitDefEqProofs only [S156, R156, C163, CValM, h0, hl, he, hv, q1, ↓Ev.xStp_eq, ↓Ev.P, Ev.Q, Bool.cond_true, Bool.cond_false, eq_self, forall_eq_or_imp, implies_true, forall_const, forall_eq, ↓reduceIte, reduceIte, Nat.reduceEqDiff, Nat.reduceAdd, reduceCtorEq, Nat.reduceSub, Int.reduceToNat, Int.reduceLE, Int.reduceLT, Int.reduceNeg, Nat.reduceBEq, Nat.reduceMul, Nat.reduceLeDiff, Nat.reduceMod, UInt8.reduceOfNat, Nat.reduceLT, Int.reduceEq, Int.reduceAdd, Int.reduceSub, Int.reduceMul]
       refine ⟨by omega, ?_⟩
       refine xLoop_intro (fun k st => k = 0 ∧ st = ⟨[(0, .d (.v (.string ⟨#[32, 45, 43]⟩))), (7, .d (.v (.string ⟨q.toArray⟩))), (8, .d (.v (.int .i64 ((q.length : Int) - 1)))), (9, .d (.v (.int .i64 ((q.length : Int) - 1))))], 0, []⟩) 0 [] ?_ ?_ ?_
       · simp -dsimp -implicitDefEqProofs only [↓Ev.xStp_eq, ↓Ev.P, Ev.Q, Bool.cond_true, Bool.cond_false, eq_self, forall_eq_or_imp, implies_true, forall_const, forall_eq, ↓reduceIte, reduceIte, Nat.reduceEqDiff, Nat.reduceAdd, reduceCtorEq, Nat.reduceSub, Int.reduceToNat, Int.reduceLE, Int.reduceLT, Int.reduceNeg, Nat.reduceBEq, Nat.reduceMul, Nat.reduceLeDiff, Nat.reduceMod, UInt8.reduceOfNat, Nat.reduceLT, Int.reduceEq, Int.reduceAdd, Int.reduceSub, Int.reduceMul]
       · simp -dsimp -implicitDefEqProofs only [↓Ev.xStp_eq, ↓Ev.P, Ev.Q, Bool.cond_true, Bool.cond_false, eq_self, forall_eq_or_imp, implies_true, forall_const, forall_eq, ↓reduceIte, reduceIte, Nat.reduceEqDiff, Nat.reduceAdd, reduceCtorEq, Nat.reduceSub, Int.reduceToNat, Int.reduceLE, Int.reduceLT, Int.reduceNeg, Nat.reduceBEq, Nat.reduceMul, Nat.reduceLeDiff, Nat.reduceMod, UInt8.reduceOfNat, Nat.reduceLT, Int.reduceEq, Int.reduceAdd, Int.reduceSub, Int.reduceMul]
       · rintro k st ⟨rfl, rfl⟩
         have ib0 : ∀ c, Lib.indexByte [] c = -1 := fun _ => rfl
         have b100 : (UInt8.toNat 43) = 43 := rfl
         have b99 : (UInt8.toNat 45) = 45 := rfl
         by_cases h2 : q.length = 2
         · have e2 : ((q.length : Int) - 1) = 1 := by omega
           rw [h2] at q4
           simp only [Nat.add_one_sub_one] at q4
           have hne : ¬ ((UInt8.toNat 45 : Nat) : Int) = ((q.getD 1 0).toNat : Int) := by rw [b99]; omega
           have ib1 : Lib.indexByte [43] (q.getD 1 0) = -1 := by
             have h9 : (43 : UInt8) ≠ q.getD 1 0 := fun e => by rw [← e] at q4; revert q4; decide
             simpa [Lib.indexByte] using h9
           simp -dsimp -implicitDefEqProofs only [e2, e1, hne, ib0, ib1, UInt8.ofNat_toNat, C163, ↓Ev.xStp_eq, ↓Ev.P, Ev.Q, Bool.cond_true, Bool.cond_false, eq_self, forall_eq_or_imp, implies_true, forall_const, forall_eq, ↓reduceIte, reduceIte, Nat.reduceEqDiff, Nat.reduceAdd, reduceCtorEq, Nat.reduceSub, Int.reduceToNat, Int.reduceLE, Int.reduceLT, Int.reduceNeg, Nat.reduceBEq, Nat.reduceMul, Nat.reduceLeDiff, Nat.reduceMod, UInt8.reduceOfNat, Nat.reduceLT, Int.reduceEq, Int.reduceAdd, Int.reduceSub, Int.reduceMul]
           repeat' (first | with_reducible assumption | refine And.intro ?_ ?_ | intro _)
           all_goals first | omega | exact hk | skip
         · by_cases h3 : q.length = 3
           · have e2 : ((q.length : Int) - 1) = 2 := by omega
             rw [h3] at q4
             simp only [Nat.add_one_sub_one] at q4
             have hne : ¬ ((UInt8.toNat 43 : Nat) : Int) = ((q.getD 2 0).toNat : Int) := by rw [b100]; omega
             simp -dsimp -implicitDefEqProofs only [e2, e1, hne, ib0, C163, ↓Ev.xStp_eq, ↓Ev.P, Ev.Q, Bool.cond_true, Bool.cond_false, eq_self, forall_eq_or_imp, implies_true, forall_const, forall_eq, ↓reduceIte, reduceIte, Nat.reduceEqDiff, Nat.reduceAdd, reduceCtorEq, Nat.reduceSub, Int.reduceToNat, Int.reduceLE, Int.reduceLT, Int.reduceNeg, Nat.reduceBEq, Nat.reduceMul, Nat.reduceLeDiff, Nat.reduceMod, UInt8.reduceOfNat, Nat.reduceLT, Int.reduceEq, Int.reduceAdd, Int.reduceSub, Int.reduceMul]
             repeat' (first | with_reducible assumption | refine And.intro ?_ ?_ | intro _)
             all_goals first | omega | exact hk | skip
           · have e2 : ¬ ((q.length : Int) - 1) < 3 := by omega
             simp -dsimp -implicitDefEqProofs only [e2, e1, ↓Ev.xStp_eq, ↓Ev.P, Ev.Q, Bool.cond_true, Bool.cond_false, eq_self, forall_eq_or_imp, implies_true, forall_const, forall_eq, ↓reduceIte, reduceIte, Nat.reduceEqDiff, Nat.reduceAdd, reduceCtorEq, Nat.reduceSub, Int.reduceToNat, Int.reduceLE, Int.reduceLT, Int.reduceNeg, Nat.reduceBEq, Nat.reduceMul, Nat.reduceLeDiff, Nat.reduceMod, UInt8.reduceOfNat, Nat.reduceLT, Int.reduceEq, Int.reduceAdd, Int.reduceSub, Int.reduceMul]
             exact hk
end Go.Proofs.YtlghobefhmpfkaaGreatDoor
namespace Go.Proofs
open Go.Shelf
open Go.RowKit Go.Lib in
theorem Tryz.stringslite_Index (s sub : ByteArray) (m : Int) (w : World) (hs : s.size < 4294967281) (hm : w.cell? ⟨1, 0, none⟩ = some (.int .i64 m)) :
 Calls Tryz.prog 149 #[.string s, .string sub] w fun e w' => e = .returned (.int .i64 (Lib.index s.data.toList sub.data.toList)) ∧ w' = w := Any.stringslite_Index Tryz.lays219 s sub m w hs hm
end Go.Proofs
namespace Go.Proofs.YtlghobefhmpfkaaGreatDoor
open Go Go.Ev Go.Rcs
set_option maxRecDepth 100000
variable {G : World → Prop}
def MaxL (w : World) : Prop := ∃ m : Int, w.cell? ⟨1, 0, none⟩ = some (.int .i64 m)
def CIxS : Contract := pureC fun args => match args with
 | [.d (.v (.string s)), .d (.v (.string p))] => some (s.size ≤ 2147483648, .d (.v (.int .i64 (Lib.index s.data.toList p.data.toList))))
 | _ => none
theorem sIxS (hM : ∀ w, G w → MaxL w) : Sound G Tryz.prog 149 CIxS := by
 refine sound_lib ⟨Tryz.f149, by kernel_rfl, by kernel_rfl, by kernel_rfl⟩ fun args p x h hp => ?_
 split at h <;> simp only [Option.some.injEq, Prod.mk.injEq, reduceCtorEq] at h
 obtain ⟨rfl, rfl⟩ := h
 rename_i s q
 refine ⟨_, fun m n c => ⟨rfl, rfl⟩, fun w hw m c vs hc hv => ?_⟩
 match vs, hv with
 | [a, b], hv =>
   simp only [CnL, and_true] at hv
   obtain ⟨v1, v2⟩ := hv
   rw [of_v v1, of_v v2]
   obtain ⟨ml, hml⟩ := hM w hw
   refine (Tryz.stringslite_Index s q ml w (by omega) hml).mono ?_
   rintro e w' ⟨rfl, rfl⟩
   exact ⟨rfl, RowKit.Below.refl _ _⟩
 | [], hv => simp [CnL] at hv
 | [_], hv => simp [CnL] at hv
 | _ :: _ :: _ :: _, hv => simp [CnL] at hv
def cutSG (p s : List UInt8) : List UInt8 × List UInt8 := (cutS p s).getD (s, [])
def CCutAt : Contract := pureC fun args => match args with
 | [.d (.v (.string s)), .d (.v (.string p))] => some (s.size ≤ 2147483648 ∧ p.size ≤ 1048576, .tup [.d (.v (str (cutSG p.data.toList s.data.toList).1)), .d (.v (str (cutSG p.data.toList s.data.toList).2)), .d (.v (.bool (cutS p.data.toList s.data.toList).isSome))])
 | _ => none
theorem sCutAt0 (hM : ∀ w, G w → MaxL w) : Sound G Tryz.prog 146 CCutAt := by
 refine sd146 (T := tabT [(149, CIxS)]) (tab_cons (sIxS hM) tab_nil) (pureC_lawful _) (pure_hX fun args p x K h hp hk => ?_)
 split at h <;> simp only [Option.some.injEq, Prod.mk.injEq, reduceCtorEq] at h
 obtain ⟨rfl, rfl⟩ := h
 rename_i s q
 obtain ⟨q, rfl⟩ := ex_str q
 obtain ⟨s, rfl⟩ := ex_str s
 simp only [sem_str] at hp hk
 obtain ⟨h1, h2⟩ := hp
 refine ⟨Nat.le_of_ble_eq_true rfl, ?_⟩
 unfold cutSG cutS at hk
 by_cases hn : Lib.index s q < 0
 · rw [if_pos hn] at hk
   have hn2 : ¬ 0 ≤ Lib.index s q := by omega
   simp -dsimp -implicitDefEqProofs only [S146, R146, CIxS, hn2, ↓Ev.xStp_eq, ↓Ev.P, Ev.Q, Ev.Z, simprocAttr]
   exact ⟨h1, hk⟩
 · rw [if_neg hn] at hk
   have hn2 : 0 ≤ Lib.index s q := by omega
   have hroom := Lib.index_room s q hn2
   simp -dsimp -implicitDefEqProofs only [S146, R146, CIxS, hn2, ↓Ev.xStp_eq, ↓Ev.P, Ev.Q, Ev.Z, simprocAttr]
   obtain ⟨i, hi⟩ := Int.eq_ofNat_of_zero_le hn2
   rw [hi] at hk hroom ⊢
   refine ⟨h1, by omega, by omega, by omega, ?_⟩
   rw [show ((i : Int) + ((q.length : Nat) : Int)).toNat = i + q.length by omega]
   exact hk
theorem sCutAt (hM : ∀ w, G w → MaxL w) : Sound G Tryz.prog 85 CCutAt := by
 refine sd85 (T := tabT [(146, CCutAt)]) (tab_cons (sCutAt0 hM) tab_nil) (pureC_lawful _) (pure_hX fun args p x K h hp hk => ?_)
 split at h <;> simp only [Option.some.injEq, Prod.mk.injEq, reduceCtorEq] at h
 obtain ⟨rfl, rfl⟩ := h
 refine ⟨Nat.le_of_ble_eq_true rfl, ?_⟩
 simp -dsimp -implicitDefEqProofs only [S85, R85, CCutAt, ↓Ev.xStp_eq, ↓Ev.P, Ev.Q, Ev.Z, simprocAttr]
 exact ⟨hp, hk⟩
theorem cutS_at {p s : List UInt8} {i : Nat} (hno : Lib.NoOcc s p i) (hi : i + p.length ≤ s.length) (h : (s.drop i).take p.length = p) : cutS p s = some (s.take i, s.drop (i + p.length)) := by
 have ho : Lib.occAt s p i = true := by
   unfold Lib.occAt
   rw [List.isPrefixOf_iff_prefix]
   exact List.prefix_iff_eq_take.2 h.symm
 have := Lib.index_hit hno (by omega) ho
 rw [cutS, this, if_neg (by omega), Int.toNat_natCast]
theorem cutS_no {p s : List UInt8} {i : Nat} (hp : p ≠ []) (hno : Lib.NoOcc s p i) (hi : s.length < i + p.length) : cutS p s = none := by
 rw [cutS, Lib.index_past hp hno hi, if_pos (by decide)]
theorem noOcc_step {p s : List UInt8} {i : Nat} (hno : Lib.NoOcc s p i) (h : ¬ (s.drop i).take p.length = p) : Lib.NoOcc s p (i + 1) := by
 intro j hj
 by_cases e : j = i
 · subst e
   unfold Lib.occAt
   rw [Bool.eq_false_iff]
   intro hh
   rw [List.isPrefixOf_iff_prefix] at hh
   exact h (List.prefix_iff_eq_take.1 hh).symm
 · exact hno j (by omega)
def uhK (t : TypeId) (rows : List (List D)) (K : Out → Store → Prop) : Except Fl (SV × Int) → Prop
 | .ok (x, a) => K (.ret x) ⟨1, [(0, .cells t [.d (.sl rows), .d (.v (.int .i64 a))])]⟩
 | .error (a, e) => ∀ i : Int, K (.pan (.d (fltV a e))) ⟨1, [(0, .cells t [.d (.sl rows), .d (.v (.int .i64 i))])]⟩
def uhW (g : List (List UInt8) → Int → List SV → Option (Prop × Except Fl (SV × Int))) (args : List SV) (st : Store) (K : Out → Store → Prop) : Prop := match args, st with
 | .ptr 0 0 :: rest, ⟨1, [(0, .cells t [.d (.sl rows), .d (.v (.int .i64 at_))])]⟩ => need ((unStr rows).bind fun L => g L at_ rest) fun z => z.1 ∧ uhK t rows K z.2
 | _, _ => False
def uhC (g : List (List UInt8) → Int → List SV → Option (Prop × Except Fl (SV × Int))) : Contract := wpC (uhW g)
theorem uhC_wp {g : List (List UInt8) → Int → List SV → Option (Prop × Except Fl (SV × Int))} {t : TypeId} {rows : List (List D)} {at_ : Int} {rest : List SV} {K : Out → Store → Prop} :
 (uhC g).wp (.ptr 0 0 :: rest) ⟨1, [(0, .cells t [.d (.sl rows), .d (.v (.int .i64 at_))])]⟩ K = need ((unStr rows).bind fun L => g L at_ rest) fun z => z.1 ∧ uhK t rows K z.2 := rfl
@[congr] theorem uhC_congr {g : List (List UInt8) → Int → List SV → Option (Prop × Except Fl (SV × Int))} {l l' : List SV} {s s' : Store} {K : Out → Store → Prop} (h : l = l') (h2 : s = s') : (uhC g).wp l s K = (uhC g).wp l' s' K := by rw [h, h2]
theorem uhK_ok {t : TypeId} {rows : List (List D)} {K : Out → Store → Prop} {x : SV} {a : Int} : uhK t rows K (.ok (x, a)) = K (.ret x) ⟨1, [(0, .cells t [.d (.sl rows), .d (.v (.int .i64 a))])]⟩ := rfl
theorem uhK_error {t : TypeId} {rows : List (List D)} {K : Out → Store → Prop} {a e : Int} : uhK t rows K (.error (a, e)) = ∀ i : Int, K (.pan (.d (fltV a e))) ⟨1, [(0, .cells t [.d (.sl rows), .d (.v (.int .i64 i))])]⟩ := rfl
theorem uhC_lawful (g : List (List UInt8) → Int → List SV → Option (Prop × Except Fl (SV × Int))) : (uhC g).lawful := wpC_lawful _
theorem uh_hX {T : FuncId → Contract} {n : Nat} {S : SCode} {R : List RR} {g : List (List UInt8) → Int → List SV → Option (Prop × Except Fl (SV × Int))}
   (h : ∀ t L at_ rest p z K, g L at_ rest = some (p, z) → p → uhK t (strRows L) K z → rest.length + 1 ≤ n ∧ xv T 1 S (st0 (.ptr 0 0 :: rest) ⟨1, [(0, .cells t [.d (.sl (strRows L)), .d (.v (.int .i64 at_))])]⟩) (retK R 1 [0] K) (panK 1 [0] K)) :
   ∀ args st K, (uhC g).wp args st K → args.length ≤ n ∧ ∃ os op, xv T st.n S (st0 args st) (retK R st.n os K) (panK st.n op K) := by
 intro args st K hw
 replace hw : uhW g args st K := hw
 unfold uhW at hw
 split at hw
 · rename_i rest t rows at_
   obtain ⟨z, h1, h2, h3⟩ := need_ex hw
   obtain ⟨L, h4, h5⟩ := Option.bind_eq_some_iff.1 h1
   rw [unStr_eq h4] at h3 ⊢
   obtain ⟨h6, h7⟩ := h t L at_ rest z.1 z.2 K h5 h2 h3
   exact ⟨h6, [0], [0], h7⟩
 · exact hw.elim
def CStopU : Contract := uhC fun L at_ rest => match rest with
 | [.d (.v (.int .i64 a)), .d (.v (.int .i64 e))] => some (True, .error (a, e))
 | _ => none
def CNextU : Contract := uhC fun L at_ rest => match rest with
 | [] => some ((0 ≤ at_ ∧ at_ ≤ 1099511627776 ∧ smL L), (nextL L at_.toNat).map strA)
 | _ => none
theorem s120 : Sound G Tryz.prog 120 CStopU := by
 refine sd120 (T := tabT []) tab_nil (uhC_lawful _) (uh_hX fun t L at_ rest p z K h hp hk => ?_)
 split at h <;> simp only [Option.some.injEq, Prod.mk.injEq, reduceCtorEq] at h
 obtain ⟨rfl, rfl⟩ := h
 rw [uhK_error] at hk
 refine ⟨Nat.le_of_ble_eq_true rfl, ?_⟩
 unfold fltV at hk
 simp -dsimp -implicitDefEqProofs only [S120, R120, Ev.panK, ↓Ev.xStp_eq, ↓Ev.P, Ev.Q, Ev.Z, simprocAttr]
 exact hk _
set_option maxHeartbeats 1000000 in
theorem s164 : Sound G Tryz.prog 164 CNextU := by
 refine sd164 (T := tabT [(120, CStopU), (18, CBare)]) (tab_cons s120 (tab_cons s18 tab_nil)) (uhC_lawful _) (uh_hX fun t L at_ rest p z K h hp hk => ?_)
 split at h <;> simp only [Option.some.injEq, Prod.mk.injEq, reduceCtorEq] at h
 obtain ⟨rfl, rfl⟩ := h
 obtain ⟨h1, h2, h3, h4⟩ := hp
 refine ⟨Nat.le_of_ble_eq_true rfl, ?_⟩
 obtain ⟨k, rfl⟩ := Int.eq_ofNat_of_zero_le h1
 rw [Int.toNat_natCast] at hk
 by_cases hlt : k < L.length
 · have h5 : ¬ (L.length : Int) < (k : Int) + 1 := by omega
   have e1 : ((k : Int) + 1 - 1).toNat = k := by omega
   have hg := strRows_get hlt
   have hb := h4 _ (getD_in hlt)
   cases hbs : (bareS (L.getD k [])).2 with
   | true =>
     rw [nextL_ok hlt hbs, map_ok, strA, uhK_ok] at hk
     generalize L.getD k [] = s at hg hb hk hbs
     simp -dsimp -implicitDefEqProofs only [S164, R164, h5, hg, e1, hbs, strRows_len, CBare, CStopU, uhC_wp, unStr_rows, uhK_ok, uhK_error, ↓Ev.xStp_eq, ↓Ev.P, Ev.Q, Ev.Z, simprocAttr]
     repeat' (first | with_reducible assumption | refine And.intro ?_ ?_ | intro _)
     all_goals try omega
     all_goals first | exact hk | exact hk _
   | false =>
     rw [nextL_bad hlt hbs, map_error, uhK_error] at hk
     generalize L.getD k [] = s at hg hb hk hbs
     unfold fltV at hk
     simp -dsimp -implicitDefEqProofs only [S164, R164, h5, hg, e1, hbs, strRows_len, CBare, CStopU, fltV, Ev.panK, uhC_wp, unStr_rows, uhK_ok, uhK_error, ↓Ev.xStp_eq, ↓Ev.P, Ev.Q, Ev.Z, simprocAttr]
     repeat' (first | with_reducible assumption | refine And.intro ?_ ?_ | intro _)
     all_goals try omega
     all_goals first | exact hk | exact hk _
 · have h5 : (L.length : Int) < (k : Int) + 1 := by omega
   rw [nextL_end hlt, map_error, uhK_error] at hk
   unfold fltV at hk
   simp -dsimp -implicitDefEqProofs only [S164, R164, h5, strRows_len, CBare, CStopU, fltV, Ev.panK, uhC_wp, unStr_rows, uhK_ok, uhK_error, ↓Ev.xStp_eq, ↓Ev.P, Ev.Q, Ev.Z, simprocAttr]
   repeat' (first | with_reducible assumption | refine And.intro ?_ ?_ | intro _)
   all_goals try omega
   all_goals first | exact hk | exact hk _
def CMoreU : Contract := uhC fun L at_ rest => match rest with
 | [] => some (True, .ok (.d (.v (.bool (decide (at_ < L.length)))), at_))
 | _ => none
theorem s65 : Sound G Tryz.prog 65 CMoreU := by
 refine sd65 (T := tabT []) tab_nil (uhC_lawful _) (uh_hX fun t L at_ rest p z K h hp hk => ?_)
 split at h <;> simp only [Option.some.injEq, Prod.mk.injEq, reduceCtorEq] at h
 obtain ⟨rfl, rfl⟩ := h
 refine ⟨Nat.le_of_ble_eq_true rfl, ?_⟩
 rw [uhK_ok] at hk
 simp -dsimp -implicitDefEqProofs only [S65, R65, strRows_len, ↓Ev.xStp_eq, ↓Ev.P, Ev.Q, Ev.Z, simprocAttr]
 exact hk
def CNmU : Contract := uhC fun L at_ rest => match rest with
 | [.d (.v (.string p))] => some ((0 ≤ at_ ∧ at_ ≤ 1099511627776 ∧ smL L ∧ p.size = 4), (nmG p.data.toList L at_.toNat).map strA)
 | _ => none
theorem FzW4u0 : type_of% (And.intro @CNextU.eq_1 (And.intro @CStopU.eq_1 (And.intro @CCutP.eq_1 (And.intro @C165.eq_1 (And.intro @fltV.eq_1 (And.intro @Ev.panK.eq_1 (And.intro @uhC_wp (And.intro @unStr_rows (And.intro @uhK_ok (And.intro @uhK_error (And.intro @map_ok (And.intro @map_error (@strA.eq_1))))))))))))) := And.intro @CNextU.eq_1 (And.intro @CStopU.eq_1 (And.intro @CCutP.eq_1 (And.intro @C165.eq_1 (And.intro @fltV.eq_1 (And.intro @Ev.panK.eq_1 (And.intro @uhC_wp (And.intro @unStr_rows (And.intro @uhK_ok (And.intro @uhK_error (And.intro @map_ok (And.intro @map_error (@strA.eq_1))))))))))))
set_option maxHeartbeats 4000000 in
theorem s119 : Sound G Tryz.prog 119 CNmU := by
 refine sd119 (T := tabT [(164, CNextU), (120, CStopU), (161, CCutP), (165, C165)]) (tab_cons s164 (tab_cons s120 (tab_cons sCutP (tab_cons s165 tab_nil)))) (uhC_lawful _) (uh_hX fun t L at_ rest p z K h hp hk => ?_)
 split at h <;> simp only [Option.some.injEq, Prod.mk.injEq, reduceCtorEq] at h
 obtain ⟨rfl, rfl⟩ := h
 rename_i q
 obtain ⟨q, rfl⟩ := ex_str q
 simp only [sem_str] at hp hk
 obtain ⟨h1, h2, ⟨hLl, hL⟩, h4⟩ := hp
 obtain ⟨k, rfl⟩ := Int.eq_ofNat_of_zero_le h1
 rw [Int.toNat_natCast] at hk
 have hsm : smL L := ⟨hLl, hL⟩
 refine ⟨Nat.le_of_ble_eq_true rfl, ?_⟩
 unfold nmG at hk
 cases hx : nextL L k with
 | error xe =>
   obtain ⟨xa, xe⟩ := xe
   rw [hx] at hk; dsimp only at hk
   rw [map_error, uhK_error] at hk; unfold fltV at hk
   simp -dsimp -implicitDefEqProofs only [S119, R119, hx, FzW4u0, ↓Ev.P, Ev.Q, Ev.Z, simprocAttr]
   repeat' (first | with_reducible assumption | refine And.intro ?_ ?_ | intro _ | (rw [Ev.xStp_eq]; simp -dsimp -implicitDefEqProofs only [hx, FzW4u0, ↓Ev.P, Ev.Q, Ev.Z, simprocAttr]))
   all_goals try omega
   all_goals exact hk _
 | ok x =>
   obtain ⟨s, a⟩ := x
   obtain ⟨rfl, hlt, hs⟩ := nextL_le hx
   have hsz := hL _ (getD_in hlt)
   have hsl : s.length ≤ 1099511627776 := by rw [hs]; exact Nat.le_trans (bare_len _) hsz
   clear hs
   have hdl : (s.drop 4).length ≤ s.length := by rw [List.length_drop]; omega
   have ec : ((k + 1 : Nat) : Int) = (k : Int) + 1 := by omega
   rw [hx] at hk; dsimp only at hk
   by_cases hpre : s.take 4 = q
   · have hc : cutPre q s = (s.drop 4, true) := by rw [cutPre, h4, if_pos hpre]
     rw [if_pos hpre] at hk
     by_cases hn : (namedS (s.drop 4)).2 = 0
     · rw [if_pos hn, map_ok, strA, uhK_ok] at hk; dsimp only at hk
       simp only [ec] at hk
       simp -dsimp -implicitDefEqProofs only [S119, R119, hx, hc, hn, FzW4u0, ↓Ev.P, Ev.Q, Ev.Z, simprocAttr]
       repeat' (first | with_reducible assumption | refine And.intro ?_ ?_ | intro _ | (rw [Ev.xStp_eq]; simp -dsimp -implicitDefEqProofs only [hx, hc, hn, FzW4u0, ↓Ev.P, Ev.Q, Ev.Z, simprocAttr]))
       all_goals try omega
       all_goals first | exact hk | exact hk _
     · have hn2 : (namedS (s.drop 4)).2 = 253 := by
         unfold namedS at hn ⊢
         split
         · rfl
         · rename_i h; rw [if_neg h] at hn; exact absurd rfl hn
       rw [if_neg hn, map_error, uhK_error] at hk; unfold fltV at hk
       simp only [ec] at hk
       simp -dsimp -implicitDefEqProofs only [S119, R119, hx, hc, hn2, FzW4u0, ↓Ev.P, Ev.Q, Ev.Z, simprocAttr]
       repeat' (first | with_reducible assumption | refine And.intro ?_ ?_ | intro _ | (rw [Ev.xStp_eq]; simp -dsimp -implicitDefEqProofs only [hx, hc, hn2, FzW4u0, ↓Ev.P, Ev.Q, Ev.Z, simprocAttr]))
       all_goals try omega
       all_goals first | exact hk | exact hk _
   · have hc : cutPre q s = (s, false) := by rw [cutPre, h4, if_neg hpre]
     rw [if_neg hpre, map_error, uhK_error] at hk; unfold fltV at hk
     simp only [ec] at hk
     simp -dsimp -implicitDefEqProofs only [S119, R119, hx, hc, FzW4u0, ↓Ev.P, Ev.Q, Ev.Z, simprocAttr]
     repeat' (first | with_reducible assumption | refine And.intro ?_ ?_ | intro _ | (rw [Ev.xStp_eq]; simp -dsimp -implicitDefEqProofs only [hx, hc, FzW4u0, ↓Ev.P, Ev.Q, Ev.Z, simprocAttr]))
     all_goals try omega
     all_goals first | exact hk | exact hk _
def CNumC : Contract := pureC fun args => match args with
 | [.d (.v (.string s))] => some (s.size ≤ 1099511627776, .tup [.d (.v (.int .i64 (cntS s.data.toList).1.1)), .d (.v (.int .i64 (cntS s.data.toList).1.2)), .d (.v (.bool (cntS s.data.toList).2))])
 | _ => none
set_option maxHeartbeats 4000000 in
theorem s199 (hE : ∀ w, G w → ErrR w) : Sound G Tryz.prog 199 CNumC := by
 refine sd199 (T := tabT [(85, CCutC), (86, CParse)]) (tab_cons sCutCs (tab_cons (s86 hE) tab_nil)) (pureC_lawful _) (pure_hX fun args p x K h hp hk => ?_)
 split at h <;> simp only [Option.some.injEq, Prod.mk.injEq, reduceCtorEq] at h
 obtain ⟨rfl, rfl⟩ := h
 rename_i s
 obtain ⟨s, rfl⟩ := ex_str s
 simp only [sem_str] at hp hk
 refine ⟨Nat.le_of_ble_eq_true rfl, ?_⟩
 unfold cntS at hk
 cases hc : cutK 44 s with
 | none =>
   have hG : cutG 44 s = (s, []) := by rw [cutG, hc]; rfl
   rw [hc] at hk; dsimp only at hk
   by_cases h0 : (parseS s).2 = 0
   · simp only [h0, decide_true] at hk
     simp -dsimp -implicitDefEqProofs only [S199, R199, CCutC, CParse, hc, hG, h0, ↓Ev.xStp_eq, ↓Ev.P, Ev.Q, Ev.Z, simprocAttr]
     repeat' (first | with_reducible assumption | refine And.intro ?_ ?_ | intro _)
     all_goals exact hk
   · simp only [h0, decide_false] at hk
     simp -dsimp -implicitDefEqProofs only [S199, R199, CCutC, CParse, hc, hG, h0, ↓Ev.xStp_eq, ↓Ev.P, Ev.Q, Ev.Z, simprocAttr]
     repeat' (first | with_reducible assumption | refine And.intro ?_ ?_ | intro _)
     all_goals exact hk
 | some pq =>
   obtain ⟨p, q⟩ := pq
   have hG : cutG 44 s = (p, q) := by rw [cutG, hc]; rfl
   have hl := cutG_len 44 s
   rw [hG] at hl; dsimp only at hl
   rw [hc] at hk; dsimp only at hk
   by_cases h0 : (parseS p).2 = 0
   · by_cases h1 : (parseS q).2 = 0
     · simp only [h0, h1, decide_true, Bool.and_true] at hk
       simp -dsimp -implicitDefEqProofs only [S199, R199, CCutC, CParse, hc, hG, h0, h1, ↓Ev.xStp_eq, ↓Ev.P, Ev.Q, Ev.Z, simprocAttr]
       repeat' (first | with_reducible assumption | refine And.intro ?_ ?_ | intro _)
       all_goals first | omega | exact hk
     · simp only [h0, h1, decide_true, decide_false, Bool.and_false] at hk
       simp -dsimp -implicitDefEqProofs only [S199, R199, CCutC, CParse, hc, hG, h0, h1, ↓Ev.xStp_eq, ↓Ev.P, Ev.Q, Ev.Z, simprocAttr]
       repeat' (first | with_reducible assumption | refine And.intro ?_ ?_ | intro _)
       all_goals first | omega | exact hk
   · simp only [h0, decide_false, Bool.false_and] at hk
     simp -dsimp -implicitDefEqProofs only [S199, R199, CCutC, CParse, hc, hG, h0, ↓Ev.xStp_eq, ↓Ev.P, Ev.Q, Ev.Z, simprocAttr]
     repeat' (first | with_reducible assumption | refine And.intro ?_ ?_ | intro _)
     all_goals first | omega | exact hk
def CCont : Contract := pureC fun args => match args with
 | [.d (.v (.string p)), .d (.v (.int .i32 r))] => some (p.data.toList = [32, 45, 43] ∧ 0 ≤ r ∧ r ≤ 1114111, .d (.v (.bool (decide (0 ≤ idxM r)))))
 | _ => none
theorem s200 : Sound G Tryz.prog 200 CCont := by
 refine sd200 (T := tabT [(156, CIdxM)]) (tab_cons sIdxM tab_nil) (pureC_lawful _) (pure_hX fun args p x K h hp hk => ?_)
 split at h <;> simp only [Option.some.injEq, Prod.mk.injEq, reduceCtorEq] at h
 obtain ⟨rfl, rfl⟩ := h
 rename_i q r
 obtain ⟨q, rfl⟩ := ex_str q
 refine ⟨Nat.le_of_ble_eq_true rfl, ?_⟩
 simp only [sem_str] at hp
 simp -dsimp -implicitDefEqProofs only [S200, R200, CIdxM, ↓Ev.xStp_eq, ↓Ev.P, Ev.Q, Ev.Z, simprocAttr]
 exact ⟨hp, hk⟩
def hdQ (s : List UInt8) : Int × Int × Int × Int :=
 ((cntS (cutSG [32, 43] (cutPre [64, 64, 32, 45] s).1).1).1.1, (cntS (cutSG [32, 43] (cutPre [64, 64, 32, 45] s).1).1).1.2,
   (cntS (cutSG [32, 64, 64] (cutSG [32, 43] (cutPre [64, 64, 32, 45] s).1).2).1).1.1, (cntS (cutSG [32, 64, 64] (cutSG [32, 43] (cutPre [64, 64, 32, 45] s).1).2).1).1.2)
theorem hdQ_eq {s : List UInt8} {c : Int × Int × Int × Int} (h : hdU s = some c) : hdQ s = c := by
 unfold hdU at h
 split at h
 · cases h
 · rename_i old fresh e
   unfold pcsU at e
   split at e
   · rename_i h4
     have hc : cutPre [64, 64, 32, 45] s = (s.drop 4, true) := if_pos h4
     split at e
     · cases e
     · rename_i o r h1
       split at e
       · cases e
       · rename_i f t h2
         split at e
         · simp only [Option.some.injEq, Prod.mk.injEq] at e
           obtain ⟨rfl, rfl⟩ := e
           split at h
           · simp only [Option.some.injEq] at h
             subst h
             unfold hdQ
             rw [hc]
             simp only [cutSG, h1, h2, Option.getD_some]
           · cases h
         · cases e
   · cases e
def hdA (s : List UInt8) : SV := .tup [.agg [.d (.v (.int .i64 (hdQ s).1)), .d (.v (.int .i64 (hdQ s).2.1)), .d (.v (.int .i64 (hdQ s).2.2.1)), .d (.v (.int .i64 (hdQ s).2.2.2)), .own 0], .d (.v (.bool (hdU s).isSome))]
def CHead : Contract := stC fun args st => match args, st with
 | [.d (.v (.string s))], ⟨0, []⟩ => some (s.size ≤ 2147483648, hdA s.data.toList, ⟨1, [(0, .row 103 2 [])]⟩)
 | _, _ => none
theorem cutPre_len (p s : List UInt8) : (cutPre p s).1.length ≤ s.length := by unfold cutPre; split <;> simp
theorem cutSG_len (p s : List UInt8) : (cutSG p s).1.length ≤ s.length ∧ (cutSG p s).2.length ≤ s.length := by
 unfold cutSG
 cases h : cutS p s with
 | none => simp
 | some q => obtain ⟨a, b⟩ := q; simpa using cutS_len h
theorem hdU_is (s : List UInt8) : (hdU s).isSome = ((cutPre [64, 64, 32, 45] s).2 && ((cutS [32, 43] (cutPre [64, 64, 32, 45] s).1).isSome && ((cutS [32, 64, 64] (cutSG [32, 43] (cutPre [64, 64, 32, 45] s).1).2).isSome &&
   ((cntS (cutSG [32, 43] (cutPre [64, 64, 32, 45] s).1).1).2 && ((cntS (cutSG [32, 64, 64] (cutSG [32, 43] (cutPre [64, 64, 32, 45] s).1).2).1).2 &&
   (decide ((cutSG [32, 64, 64] (cutSG [32, 43] (cutPre [64, 64, 32, 45] s).1).2).2 = []) || decide ((cutSG [32, 64, 64] (cutSG [32, 43] (cutPre [64, 64, 32, 45] s).1).2).2.getD 0 0 = 32))))))) := by
 unfold hdU pcsU
 by_cases h4 : s.take 4 = [64, 64, 32, 45]
 · have hc : cutPre [64, 64, 32, 45] s = (s.drop 4, true) := if_pos h4
   rw [if_pos h4, hc]
   dsimp only
   cases h1 : cutS [32, 43] (s.drop 4) with
   | none => simp
   | some or_ =>
     obtain ⟨o, r⟩ := or_
     have g1 : cutSG [32, 43] (s.drop 4) = (o, r) := by rw [cutSG, h1]; rfl
     rw [g1]
     dsimp only
     cases h2 : cutS [32, 64, 64] r with
     | none => simp
     | some ft =>
       obtain ⟨f, t⟩ := ft
       have g2 : cutSG [32, 64, 64] r = (f, t) := by rw [cutSG, h2]; rfl
       rw [g2]
       dsimp only
       by_cases ht : t = [] ∨ t.getD 0 0 = 32
       · rw [if_pos ht]
         have ht2 : (decide (t = []) || decide (t.getD 0 0 = 32)) = true := by
           rcases ht with h | h
           · rw [decide_eq_true h]; rfl
           · rw [decide_eq_true h, Bool.or_true]
         rw [ht2]
         dsimp only
         cases (cntS o).2 <;> cases (cntS f).2 <;> simp
       · rw [if_neg ht]
         have ht2 : (decide (t = []) || decide (t.getD 0 0 = 32)) = false := by
           simp only [not_or] at ht
           rw [decide_eq_false ht.1, decide_eq_false ht.2]; rfl
         rw [ht2]
         simp
 · have hc : cutPre [64, 64, 32, 45] s = (s, false) := if_neg h4
   rw [if_neg h4, hc]
   rfl
set_option maxHeartbeats 8000000 in
theorem s167 (hE : ∀ w, G w → ErrR w) (hM : ∀ w, G w → MaxL w) : Sound G Tryz.prog 167 CHead := by
 refine sd167 (T := tabT [(161, CCutP), (85, CCutAt), (199, CNumC)]) (tab_cons sCutP (tab_cons (sCutAt hM) (tab_cons (s199 hE) tab_nil))) (stC_lawful _) (st_hX fun args st p x st' K h hp hk => ?_)
 split at h <;> simp only [Option.some.injEq, Prod.mk.injEq, reduceCtorEq] at h
 obtain ⟨rfl, rfl, rfl⟩ := h
 rename_i s
 obtain ⟨s, rfl⟩ := ex_str s
 simp only [sem_str] at hp hk
 refine ⟨Nat.le_of_ble_eq_true rfl, [0], ?_⟩
 unfold hdA hdQ at hk
 rw [hdU_is] at hk
 have l0 := cutPre_len [64, 64, 32, 45] s
 generalize hpre : cutPre [64, 64, 32, 45] s = x0 at hk l0
 obtain ⟨s0, b0⟩ := x0
 dsimp only at hk l0
 have l1 := cutSG_len [32, 43] s0
 generalize hc1 : cutSG [32, 43] s0 = x1 at hk l1
 generalize hi1 : (cutS [32, 43] s0).isSome = b1 at hk
 obtain ⟨old, rest⟩ := x1
 dsimp only at hk l1
 have l2 := cutSG_len [32, 64, 64] rest
 generalize hc2 : cutSG [32, 64, 64] rest = x2 at hk l2
 generalize hi2 : (cutS [32, 64, 64] rest).isSome = b2 at hk
 obtain ⟨fresh, tail⟩ := x2
 dsimp only at hk l2
 generalize hn1 : cntS old = y1 at hk
 generalize hn2 : cntS fresh = y2 at hk
 obtain ⟨⟨A, AN⟩, o1⟩ := y1
 obtain ⟨⟨B, BN⟩, o2⟩ := y2
 dsimp only at hk
 have v32 : (((tail.getD 0 0).toNat : Int) = 32) = (tail.getD 0 0 = 32) := u8_k _ 32 (by decide)
 cases b0 with
 | false =>
   simp only [Bool.false_and] at hk
   simp -dsimp -implicitDefEqProofs only [S167, R167, hpre, hc1, hi1, hc2, hi2, hn1, hn2, CCutP, CCutAt, CNumC, ↓Ev.P, Ev.Q, Ev.Z, simprocAttr]
   repeat' (first | with_reducible assumption | refine And.intro ?_ ?_ | intro _ | (rw [Ev.xStp_eq]; simp -dsimp -implicitDefEqProofs only [hpre, hc1, hi1, hc2, hi2, hn1, hn2, CCutP, CCutAt, CNumC, ↓Ev.P, Ev.Q, Ev.Z, simprocAttr]))
   all_goals try omega
   all_goals exact hk
 | true =>
   simp only [Bool.true_and] at hk
   cases b1 with
   | false =>
     simp only [Bool.false_and] at hk
     simp -dsimp -implicitDefEqProofs only [S167, R167, hpre, hc1, hi1, hc2, hi2, hn1, hn2, CCutP, CCutAt, CNumC, ↓Ev.P, Ev.Q, Ev.Z, simprocAttr]
     repeat' (first | with_reducible assumption | refine And.intro ?_ ?_ | intro _ | (rw [Ev.xStp_eq]; simp -dsimp -implicitDefEqProofs only [hpre, hc1, hi1, hc2, hi2, hn1, hn2, CCutP, CCutAt, CNumC, ↓Ev.P, Ev.Q, Ev.Z, simprocAttr]))
     all_goals try omega
     all_goals exact hk
   | true =>
     simp only [Bool.true_and] at hk
     cases b2 with
     | false =>
       simp only [Bool.false_and] at hk
       simp -dsimp -implicitDefEqProofs only [S167, R167, hpre, hc1, hi1, hc2, hi2, hn1, hn2, CCutP, CCutAt, CNumC, ↓Ev.P, Ev.Q, Ev.Z, simprocAttr]
       repeat' (first | with_reducible assumption | refine And.intro ?_ ?_ | intro _ | (rw [Ev.xStp_eq]; simp -dsimp -implicitDefEqProofs only [hpre, hc1, hi1, hc2, hi2, hn1, hn2, CCutP, CCutAt, CNumC, ↓Ev.P, Ev.Q, Ev.Z, simprocAttr]))
       all_goals try omega
       all_goals exact hk
     | true =>
       simp only [Bool.true_and] at hk
       cases o1 with
       | false =>
         simp only [Bool.false_and] at hk
         simp -dsimp -implicitDefEqProofs only [S167, R167, hpre, hc1, hi1, hc2, hi2, hn1, hn2, CCutP, CCutAt, CNumC, ↓Ev.P, Ev.Q, Ev.Z, simprocAttr]
         repeat' (first | with_reducible assumption | refine And.intro ?_ ?_ | intro _ | (rw [Ev.xStp_eq]; simp -dsimp -implicitDefEqProofs only [hpre, hc1, hi1, hc2, hi2, hn1, hn2, CCutP, CCutAt, CNumC, ↓Ev.P, Ev.Q, Ev.Z, simprocAttr]))
         all_goals try omega
         all_goals exact hk
       | true =>
         simp only [Bool.true_and] at hk
         cases o2 with
         | false =>
           simp only [Bool.false_and] at hk
           simp -dsimp -implicitDefEqProofs only [S167, R167, hpre, hc1, hi1, hc2, hi2, hn1, hn2, CCutP, CCutAt, CNumC, ↓Ev.P, Ev.Q, Ev.Z, simprocAttr]
           repeat' (first | with_reducible assumption | refine And.intro ?_ ?_ | intro _ | (rw [Ev.xStp_eq]; simp -dsimp -implicitDefEqProofs only [hpre, hc1, hi1, hc2, hi2, hn1, hn2, CCutP, CCutAt, CNumC, ↓Ev.P, Ev.Q, Ev.Z, simprocAttr]))
           all_goals try omega
           all_goals exact hk
         | true =>
           simp only [Bool.true_and] at hk
           by_cases ht0 : tail = []
           · subst ht0
             rw [decide_eq_true rfl, Bool.true_or] at hk
             simp -dsimp -implicitDefEqProofs only [S167, R167, hpre, hc1, hi1, hc2, hi2, hn1, hn2, CCutP, CCutAt, CNumC, ↓Ev.P, Ev.Q, Ev.Z, simprocAttr]
             repeat' (first | with_reducible assumption | refine And.intro ?_ ?_ | intro _ | (rw [Ev.xStp_eq]; simp -dsimp -implicitDefEqProofs only [hpre, hc1, hi1, hc2, hi2, hn1, hn2, CCutP, CCutAt, CNumC, ↓Ev.P, Ev.Q, Ev.Z, simprocAttr]))
             all_goals try omega
             all_goals exact hk
           · have hl0 : 0 < tail.length := List.length_pos_iff.2 ht0
             have hl1 : (0 : Int) < (tail.length : Int) := by omega
             rw [decide_eq_false ht0, Bool.false_or] at hk
             by_cases h32 : tail.getD 0 0 = 32
             · have w32 := v32.trans (eq_true h32)
               rw [decide_eq_true h32] at hk
               simp -dsimp -implicitDefEqProofs only [S167, R167, ht0, w32, hl1, hpre, hc1, hi1, hc2, hi2, hn1, hn2, CCutP, CCutAt, CNumC, ↓Ev.P, Ev.Q, Ev.Z, simprocAttr]
               repeat' (first | with_reducible assumption | refine And.intro ?_ ?_ | intro _ | (rw [Ev.xStp_eq]; simp -dsimp -implicitDefEqProofs only [ht0, w32, hl1, hpre, hc1, hi1, hc2, hi2, hn1, hn2, CCutP, CCutAt, CNumC, ↓Ev.P, Ev.Q, Ev.Z, simprocAttr]))
               all_goals try omega
               all_goals exact hk
             · have w32 := v32.trans (eq_false h32)
               rw [decide_eq_false h32] at hk
               simp -dsimp -implicitDefEqProofs only [S167, R167, ht0, w32, hl1, hpre, hc1, hi1, hc2, hi2, hn1, hn2, CCutP, CCutAt, CNumC, ↓Ev.P, Ev.Q, Ev.Z, simprocAttr]
               repeat' (first | with_reducible assumption | refine And.intro ?_ ?_ | intro _ | (rw [Ev.xStp_eq]; simp -dsimp -implicitDefEqProofs only [ht0, w32, hl1, hpre, hc1, hi1, hc2, hi2, hn1, hn2, CCutP, CCutAt, CNumC, ↓Ev.P, Ev.Q, Ev.Z, simprocAttr]))
               all_goals try omega
               all_goals exact hk
end Go.Proofs.YtlghobefhmpfkaaGreatDoor
