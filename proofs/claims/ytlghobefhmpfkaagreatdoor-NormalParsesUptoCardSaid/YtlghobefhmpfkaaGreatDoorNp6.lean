/- NormalParses: any text is read as hunks, or refused as the chapter says Part 6 of 6. -/
import Derived.Test.YtlghobefhmpfkaaGreatDoorProg
import Derived.Shelf.Strings.Builder1
import Derived.Shelf.Small.Utf8
import Derived.Shelf.Small.Strs
import Derived.Shelf.Strings.BuilderF
import Derived.Shelf.Strconv.Atoi
import Derived.Shelf.Strconv.Itoa0
import Derived.Shelf.Strconv.Itoa1
import Derived.Shelf.LaysM
import Derived.Shelf.Strconv.Itoa2
import Derived.Shelf.Strconv.Itoa3
import Derived.Shelf.Strconv.AtoiErrFast
import Derived.Shelf.Strconv.ParseIntEmpty
import Derived.Shelf.Strconv.AtoiFail
import Derived.Shelf.Strconv.Clone
import Derived.Shelf.Strconv.SyntaxError
import Derived.Shelf.LaysC
import Derived.Shelf.Strconv.ToError
import Derived.Shelf.Strconv.Lower
import Derived.Shelf.Strconv.ParseUint10
import Derived.Shelf.Strconv.ParseUint10Empty
import Derived.Shelf.Strconv.ParseUint10Any
import Derived.Shelf.Strconv.ParseInt10
import Derived.Shelf.Strconv.AtoiLong
import Derived.Shelf.Strconv.AtoiInnerAll
import Derived.Shelf.Strconv.RangeError
import Derived.Shelf.Strconv.ToErrorRange
import Derived.Shelf.Strconv.AtoiAll
import Derived.Shelf.Strconv.ErrVarAll
import Derived.Shelf.Strings.Search1
import Derived.Shelf.Strings.Search2
import Derived.Shelf.Strings.Search3
import Derived.Shelf.Strings.Cut
import Derived.Shelf.Strings.Count
import Derived.Shelf.Strings.Shaped
import Derived.Shelf.Strings.Prefix
import Derived.Shelf.Strings.Split
import Derived.Shelf.Strings.Runes
import Derived.Shelf.Strings.IndexAny
import Derived.Shelf.Strings.AsciiSet
import Derived.Shelf.Strings.IndexAnyAll
import Derived.Shelf.Unicode.DecodeSlow
import Derived.Lib.AsciiSet
import Derived.Laws.RangeAny
import Derived.WalkKit
import Derived.LaidEql
import Derived.Stop.Asserts
import Derived.RowKitTokens
import Derived.Below
import Derived.RegionTactic
import Derived.ChangeAlike
import Derived.Test.YtlghobefhmpfkaaGreatDoorRows
import Derived.Deep.Slices
import Derived.Deep.Fields
import Derived.ChangeSame
import Derived.Test.YtlghobefhmpfkaaGreatDoorCards
import Derived.Test.YtlghobefhmpfkaaGreatDoorTie
import Derived.JoinedCond
import Derived.ProofKit
import Derived.Deep.DeepHandedRow
import Derived.Deep.DeepWitnessRowRef
import Derived.Stop.LaidErr
import Derived.Stop.Joined
import Derived.LaidLaws
import Derived.LaidHandle
import Derived.Lib.LaidIn
import Derived.SevenTiedAt
import Derived.Test.YtlghobefhmpfkaaGreatDoorNp1
import Derived.Test.YtlghobefhmpfkaaGreatDoorNp2
import Derived.Test.YtlghobefhmpfkaaGreatDoorNp3
import Derived.Test.YtlghobefhmpfkaaGreatDoorNp4
import Derived.Test.YtlghobefhmpfkaaGreatDoorNp5
set_option linter.unusedVariables false
namespace Go.Proofs.YtlghobefhmpfkaaGreatDoor
open Go Go.Ev
set_option maxRecDepth 100000
def A109 : Ann := ⟨fun _ _ => 0, fun _ => none, fun r => if r = 3 then some (false, [0, 1]) else if r = 4 then some (false, [0, 1]) else if r = 7 then some (false, [0, 5]) else if r = 8 then some (false, [0, 1]) else if r = 9 then some (false, [0, 1]) else if r = 12 then some (false, [0, 6, 8]) else if r = 13 then some (false, [0, 6, 8]) else if r = 14 then some (false, [0, 6, 8]) else if r = 19 then some (false, [1, 45, 46]) else if r = 20 then some (false, [1, 9, 10, 45]) else none, fun r => if r = 12 then [0, 6, 8] else if r = 18 then [1, 45] else []⟩
def S109 : SCode :=
  (.seq (.ops [⟨none, (some 4), .mv 4 (.k (Value.int .i64 0)), false⟩])
  (.seq (.seq (.ops [⟨none, (some 11), .mv 11 (.s 1), false⟩,
    ⟨none, (some 12), .bin 12 .eql (.s 11) (.k (Value.string ⟨#[]⟩)), false⟩])
  (.cond (.s 12) (.seq (.ops [⟨none, (some 4), .mv 4 (.k (Value.int .i64 (-1))), false⟩])
  .ret) .skip))
  (.seq (.seq (.seq (.keep [0, 1]) (.ops [⟨none, (some 13), .mv 13 (.s 1), false⟩,
    ⟨none, (some 14), .lens 14 (.s 13), false⟩,
    ⟨none, (some 15), .bin 15 .eql (.s 14) (.k (Value.int .i64 1)), false⟩]))
  (.cond (.s 15) (.seq (.seq (.keep [0, 1]) (.ops [⟨none, (some 16), .mv 16 (.s 1), false⟩,
    ⟨none, (some 17), .ixs 17 (.s 16) (.k (Value.int .i64 0)), false⟩,
    ⟨none, (some 18), .cvi 18 .i32 (.s 17), false⟩,
    ⟨none, (some 5), .mv 5 (.s 18), false⟩]))
  (.seq (.seq (.ops [⟨none, (some 19), .mv 19 (.s 5), false⟩,
    ⟨none, (some 20), .bin 20 .geq (.s 19) (.k (Value.int .i32 128)), false⟩])
  (.cond (.s 20) (.ops [⟨none, (some 5), .mv 5 (.k (Value.int .i32 65533)), false⟩]) .skip))
  (.seq (.seq (.keep [0, 5]) (.ops [⟨none, (some 21), .mv 21 (.s 0), false⟩,
    ⟨none, (some 22), .mv 22 (.s 5), false⟩,
    ⟨none, (some 23), .call (some 23) 156 false [(.s 21), (.s 22)], false⟩,
    ⟨none, (some 4), .mv 4 (.s 23), false⟩]))
  .ret))) .skip))
  (.seq (.seq (.seq (.keep [0, 1]) (.ops [⟨none, (some 24), .mv 24 (.s 0), false⟩,
    ⟨none, (some 25), .lens 25 (.s 24), false⟩,
    ⟨none, (some 26), .call (some 26) 157 false [(.s 25)], false⟩]))
  (.cond (.s 26) (.seq (.seq (.keep [0, 1]) (.ops [⟨none, (some 28), .mv 28 (.s 1), false⟩,
    ⟨none, (some 29), .call (some 29) 158 false [(.s 28)], false⟩,
    ⟨none, (some 27), .mv 27 (.s 29), false⟩,
    ⟨none, (some 30), .ex 30 (.s 27) 0, false⟩,
    ⟨none, (some 31), .ex 31 (.s 27) 1, false⟩,
    ⟨none, (some 6), .al 6 215 (List.replicate 256 (Value.bool false)), false⟩,
    ⟨none, none, .st true 256 (.s 6) (.s 30), false⟩,
    ⟨none, (some 7), .mv 7 (.s 31), false⟩]))
  (.seq (.ops [⟨none, (some 32), .mv 32 (.s 7), false⟩])
  (.cond (.s 32) (.seq (.seq (.ops [⟨none, (some 8), .mv 8 (.k (Value.int .i64 0)), false⟩])
  (.block 0 (.loop [0, 6, 8] (.seq (.seq (.seq (.keep [0, 6, 8]) (.ops [⟨none, (some 33), .mv 33 (.s 8), false⟩,
    ⟨none, (some 34), .mv 34 (.s 0), false⟩,
    ⟨none, (some 35), .lens 35 (.s 34), false⟩,
    ⟨none, (some 36), .bin 36 .lss (.s 33) (.s 35), false⟩]))
  (.cond (.s 36) .skip (.exit 0)))
  (.seq (.block 1 (.seq (.seq (.keep [0, 6, 8]) (.ops [⟨none, (some 39), .mv 39 (.s 0), false⟩,
    ⟨none, (some 40), .mv 40 (.s 8), false⟩,
    ⟨none, (some 41), .ixs 41 (.s 39) (.s 40), false⟩,
    ⟨none, (some 42), .call (some 42) 159 false [(.s 6), (.s 41)], false⟩]))
  (.cond (.s 42) (.seq (.ops [⟨none, (some 43), .mv 43 (.s 8), false⟩,
    ⟨none, (some 4), .mv 4 (.s 43), false⟩])
  .ret) .skip)))
  (.seq (.keep [0, 6, 8]) (.ops [⟨none, (some 37), .mv 37 (.s 8), false⟩,
    ⟨none, (some 38), .binc 38 .add (.s 37) (.k (Value.int .i64 1)), false⟩,
    ⟨none, (some 8), .mv 8 (.s 38), false⟩])))))))
  (.seq (.ops [⟨none, (some 4), .mv 4 (.k (Value.int .i64 (-1))), false⟩])
  .ret)) .skip))) .skip))
  (.seq (.seq (.ops [⟨none, (some 44), .mv 44 (.s 0), false⟩,
    ⟨none, (some 45), .rg 45 (.s 44), false⟩])
  (.block 2 (.loop [1, 45] (.seq (.ops [⟨none, (some 46), .nx 46 (.s 45), false⟩,
    ⟨none, (some 47), .ex 47 (.s 46) 0, false⟩])
  (.seq (.cond (.s 47) .skip (.exit 2))
  (.block 3 (.seq (.seq (.keep [1, 45, 46]) (.ops [⟨none, (some 48), .ex 48 (.s 46) 1, false⟩,
    ⟨none, (some 49), .ex 49 (.s 46) 2, false⟩,
    ⟨none, (some 9), .mv 9 (.s 48), false⟩,
    ⟨none, (some 10), .mv 10 (.s 49), false⟩]))
  (.seq (.seq (.keep [1, 9, 10, 45]) (.ops [⟨none, (some 50), .mv 50 (.s 1), false⟩,
    ⟨none, (some 51), .mv 51 (.s 10), false⟩,
    ⟨none, (some 52), .call (some 52) 156 false [(.s 50), (.s 51)], false⟩,
    ⟨none, (some 53), .bin 53 .geq (.s 52) (.k (Value.int .i64 0)), false⟩]))
  (.cond (.s 53) (.seq (.ops [⟨none, (some 54), .mv 54 (.s 9), false⟩,
    ⟨none, (some 4), .mv 4 (.s 54), false⟩])
  .ret) .skip)))))))))
  (.seq (.ops [⟨none, (some 4), .mv 4 (.k (Value.int .i64 (-1))), false⟩])
  .ret))))))
theorem cc109 : (Tryz.f109.body).bind (cc Tryz.prog Tryz.f109.ntmps A109) = some S109 := by kernel_rfl
def R109 : List RR := [.sl 4]
theorem cr109 : Tryz.f109.results.toList.map (crr Tryz.prog) = R109.map some := by kernel_rfl
theorem nm109 : (Tryz.f109.name == "runtime.NumGoroutine") = false := by kernel_rfl
theorem fn109 : Tryz.prog.funcs[109]? = some Tryz.f109 := by kernel_rfl
theorem bd109 : ∃ b, Tryz.f109.body = some b ∧ cc Tryz.prog Tryz.f109.ntmps A109 b = some S109 := Option.bind_eq_some_iff.1 cc109
theorem sd109 {G : World → Prop} {T : FuncId → Contract} {C : Contract} (hT : ∀ f, Sound G Tryz.prog f (T f)) (hl : C.lawful) (hC : ∀ args st K, C.wp args st K → args.length ≤ 55 ∧ ∃ os op, xv T st.n S109 (st0 args st) (retK R109 st.n os K) (panK st.n op K)) (hit : SoundIt G Tryz.prog 109 C.it := by exact SoundIt.none) : Sound G Tryz.prog 109 C := by
  obtain ⟨b, hb, hc⟩ := bd109
  rw [xv_eq] at hC
  exact sound_of_ev mo fn109 hb nm109 hc cr109 hT hl hit hC
def A156 : Ann := ⟨fun r i => if r = 18 ∧ i = 3 then 1 else if r = 18 ∧ i = 9 then 1 else if r = 18 ∧ i = 23 then 1 else 0, fun r => if r = 31 then some [(0, true, []), (1, true, []), (2, true, []), (3, true, []), (4, true, []), (5, true, []), (6, true, []), (7, true, []), (8, true, []), (9, true, []), (10, true, [])] else if r = 14 then some [(0, true, []), (1, true, []), (2, true, []), (3, true, []), (4, true, []), (5, true, []), (6, true, []), (7, true, []), (8, true, []), (9, true, []), (10, true, [])] else if r = 7 then some [(0, true, []), (1, true, []), (2, true, []), (3, true, []), (4, true, []), (5, true, []), (6, true, []), (7, false, [0, 1, 2, 3, 4, 5, 6, 7, 8, 9, 10, 11, 12, 13, 14, 15]), (8, true, [])] else if r = 6 then some [(0, true, []), (1, true, []), (2, true, []), (3, true, []), (4, true, []), (5, true, []), (6, true, [])] else none, fun r => if r = 1 then some (false, [0, 1]) else if r = 2 then some (false, [0, 7]) else if r = 5 then some (false, [0, 7, 8, 9]) else if r = 6 then some (false, [0, 7, 8, 9]) else if r = 7 then some (false, [0, 7, 8, 9]) else if r = 10 then some (false, [0, 7, 8, 9, 11]) else if r = 12 then some (false, [0, 7, 8, 9, 12]) else if r = 13 then some (false, [0, 7, 8, 9, 12]) else if r = 14 then some (false, [0, 7, 8, 9, 12]) else if r = 15 then some (false, [8, 9]) else if r = 16 then some (false, [0, 7, 8, 9, 10]) else if r = 17 then some (false, [0, 7, 8, 9, 10]) else if r = 18 then some (false, [0, 7, 8, 9, 10]) else if r = 20 then some (false, [0, 1, 8, 9]) else if r = 22 then some (false, [8, 9, 13]) else if r = 23 then some (false, [0, 7, 8, 9]) else if r = 24 then some (false, [0, 7, 8, 9, 14]) else if r = 25 then some (false, [0, 7, 8, 9, 14, 15]) else if r = 26 then some (false, [0, 7, 8, 9, 14, 15]) else if r = 27 then some (false, [0, 7, 8, 9, 14, 15]) else if r = 29 then some (false, [0, 7, 8, 9, 14, 15, 16]) else if r = 30 then some (false, [0, 7, 8, 9, 14, 15, 16]) else if r = 31 then some (false, [0, 7, 8, 9, 14, 15, 16]) else if r = 32 then some (false, [8, 9]) else if r = 34 then some (false, [0, 1]) else if r = 35 then some (false, [0, 1]) else if r = 36 then some (false, [0, 1]) else if r = 39 then some (false, [175, 176]) else if r = 43 then some (false, [0, 1]) else none, fun r => if r = 5 then [0, 7, 8, 9] else if r = 12 then [0, 7, 8, 9, 12] else if r = 25 then [0, 7, 8, 9, 14, 15] else if r = 29 then [0, 7, 8, 9, 14, 15, 16] else if r = 38 then [175] else []⟩
def S156 : SCode :=
  (.seq (.ops [⟨none, (some 4), .mv 4 (.k (Value.int .i64 0)), false⟩])
  (.block 0 (.seq (.seq (.keep [0, 1]) (.ops [⟨none, (some 161), .mv 161 (.s 1), false⟩,
    ⟨none, (some 162), .bin 162 .leq (.k (Value.int .i32 0)) (.s 161), false⟩,
    ⟨none, (some 163), .mv 163 (.s 162), false⟩,
    ⟨(some (163, true)), (some 164), .mv 164 (.s 1), false⟩,
    ⟨(some (163, true)), (some 165), .bin 165 .lss (.s 164) (.k (Value.int .i32 128)), false⟩,
    ⟨none, (some 166), .pk 166 (.s 163) (.s 165) (.k (Value.bool false)), false⟩,
    ⟨none, (some 160), .mv 160 (.s 166), false⟩]))
  (.cond (.s 160) (.seq (.seq (.keep [0, 1]) (.ops [⟨none, (some 167), .mv 167 (.s 0), false⟩,
    ⟨none, (some 168), .mv 168 (.s 1), false⟩,
    ⟨none, (some 169), .cvi 169 .u8 (.s 168), false⟩,
    ⟨none, (some 170), .call (some 170) 116 false [(.s 167), (.s 169)], false⟩,
    ⟨none, (some 4), .mv 4 (.s 170), false⟩]))
  .ret) (.seq (.seq (.keep [0, 1]) (.ops [⟨none, (some 172), .mv 172 (.s 1), false⟩,
    ⟨none, (some 173), .bin 173 .eql (.s 172) (.k (Value.int .i32 65533)), false⟩,
    ⟨none, (some 171), .mv 171 (.s 173), false⟩]))
  (.cond (.s 171) (.seq (.seq (.ops [⟨none, (some 174), .mv 174 (.s 0), false⟩,
    ⟨none, (some 175), .rg 175 (.s 174), false⟩])
  (.block 9 (.loop [175] (.seq (.ops [⟨none, (some 176), .nx 176 (.s 175), false⟩,
    ⟨none, (some 177), .ex 177 (.s 176) 0, false⟩])
  (.seq (.cond (.s 177) .skip (.exit 9))
  (.block 10 (.seq (.seq (.keep [175, 176]) (.ops [⟨none, (some 178), .ex 178 (.s 176) 1, false⟩,
    ⟨none, (some 179), .ex 179 (.s 176) 2, false⟩,
    ⟨none, (some 5), .mv 5 (.s 178), false⟩,
    ⟨none, (some 6), .mv 6 (.s 179), false⟩]))
  (.seq (.ops [⟨none, (some 180), .mv 180 (.s 6), false⟩,
    ⟨none, (some 181), .bin 181 .eql (.s 180) (.k (Value.int .i32 65533)), false⟩])
  (.cond (.s 181) (.seq (.ops [⟨none, (some 182), .mv 182 (.s 5), false⟩,
    ⟨none, (some 4), .mv 4 (.s 182), false⟩])
  .ret) .skip)))))))))
  (.seq (.ops [⟨none, (some 4), .mv 4 (.k (Value.int .i64 (-1))), false⟩])
  .ret)) (.seq (.seq (.keep [0, 1]) (.ops [⟨none, (some 184), .mv 184 (.s 1), false⟩,
    ⟨none, (some 185), .call (some 185) 195 false [(.s 184)], false⟩,
    ⟨none, (some 186), .not 186 (.s 185), false⟩,
    ⟨none, (some 183), .mv 183 (.s 186), false⟩]))
  (.cond (.s 183) (.seq (.ops [⟨none, (some 4), .mv 4 (.k (Value.int .i64 (-1))), false⟩])
  .ret) (.seq (.seq (.keep [0, 1]) (.ops [⟨none, (some 17), .mv 17 (.s 1), false⟩,
    ⟨none, (some 18), .i2s 18 (.s 17), false⟩,
    ⟨none, (some 7), .mv 7 (.s 18), false⟩]))
  (.seq (.seq (.keep [0, 7]) (.ops [⟨none, (some 19), .mv 19 (.s 7), false⟩,
    ⟨none, (some 20), .lens 20 (.s 19), false⟩,
    ⟨none, (some 21), .binc 21 .sub (.s 20) (.k (Value.int .i64 1)), false⟩,
    ⟨none, (some 8), .mv 8 (.s 21), false⟩]))
  (.seq (.ops [⟨none, (some 22), .mv 22 (.s 8), false⟩,
    ⟨none, (some 9), .mv 9 (.s 22), false⟩])
  (.seq (.ops [⟨none, (some 10), .mv 10 (.k (Value.int .i64 0)), false⟩])
  (.seq (.block 1 (.loop [0, 7, 8, 9] (.seq (.seq (.seq (.keep [0, 7, 8, 9]) (.ops [⟨none, (some 23), .mv 23 (.s 9), false⟩,
    ⟨none, (some 24), .mv 24 (.s 0), false⟩,
    ⟨none, (some 25), .lens 25 (.s 24), false⟩,
    ⟨none, (some 26), .bin 26 .lss (.s 23) (.s 25), false⟩]))
  (.cond (.s 26) .skip (.exit 1)))
  (.block 2 (.seq (.seq (.seq (.keep [0, 7, 8, 9]) (.dr [([], true, ⟨none, (some 27), .mv 27 (.s 0), false⟩),
    ([], true, ⟨none, (some 28), .mv 28 (.s 9), false⟩),
    ([], true, ⟨none, (some 29), .ixs 29 (.s 27) (.s 28), false⟩),
    ([], true, ⟨none, (some 30), .mv 30 (.s 7), false⟩),
    ([], true, ⟨none, (some 31), .mv 31 (.s 8), false⟩),
    ([], true, ⟨none, (some 32), .ixs 32 (.s 30) (.s 31), false⟩),
    ([], true, ⟨none, (some 33), .bin 33 .neq (.s 29) (.s 32), false⟩)]))
  (.cond (.s 33) (.seq (.seq (.keep [0, 7, 8, 9]) (.dr [([], true, ⟨none, (some 34), .mv 34 (.s 0), false⟩),
    ([], true, ⟨none, (some 35), .mv 35 (.s 9), false⟩),
    ([], true, ⟨none, (some 36), .binc 36 .add (.s 35) (.k (Value.int .i64 1)), false⟩),
    ([], true, ⟨none, (some 37), .sls 37 (.s 34) (some (.s 36)) none, false⟩),
    ([], true, ⟨none, (some 38), .mv 38 (.s 7), false⟩),
    ([], true, ⟨none, (some 39), .mv 39 (.s 8), false⟩),
    ([], true, ⟨none, (some 40), .ixs 40 (.s 38) (.s 39), false⟩),
    ([0, 1, 2, 3, 4, 5, 6, 7, 8, 9, 10, 11, 12, 13, 14, 15], false, ⟨none, (some 41), .call (some 41) 116 false [(.s 37), (.s 40)], false⟩),
    ([], true, ⟨none, (some 11), .mv 11 (.s 41), false⟩)]))
  (.seq (.seq (.ops [⟨none, (some 42), .mv 42 (.s 11), false⟩,
    ⟨none, (some 43), .bin 43 .lss (.s 42) (.k (Value.int .i64 0)), false⟩])
  (.cond (.s 43) (.seq (.ops [⟨none, (some 4), .mv 4 (.k (Value.int .i64 (-1))), false⟩])
  .ret) .skip))
  (.seq (.keep [0, 7, 8, 9, 11]) (.ops [⟨none, (some 44), .mv 44 (.s 9), false⟩,
    ⟨none, (some 45), .mv 45 (.s 11), false⟩,
    ⟨none, (some 46), .binc 46 .add (.s 45) (.k (Value.int .i64 1)), false⟩,
    ⟨none, (some 47), .binc 47 .add (.s 44) (.s 46), false⟩,
    ⟨none, (some 9), .mv 9 (.s 47), false⟩])))) .skip))
  (.seq (.seq (.ops [⟨none, (some 12), .mv 12 (.k (Value.int .i64 1)), false⟩])
  (.block 3 (.loop [0, 7, 8, 9, 12] (.seq (.seq (.seq (.keep [0, 7, 8, 9, 12]) (.ops [⟨none, (some 48), .mv 48 (.s 12), false⟩,
    ⟨none, (some 49), .mv 49 (.s 7), false⟩,
    ⟨none, (some 50), .lens 50 (.s 49), false⟩,
    ⟨none, (some 51), .bin 51 .lss (.s 48) (.s 50), false⟩]))
  (.cond (.s 51) .skip (.exit 3)))
  (.seq (.block 4 (.seq (.seq (.keep [0, 7, 8, 9, 12]) (.dr [([], true, ⟨none, (some 54), .mv 54 (.s 0), false⟩),
    ([], true, ⟨none, (some 55), .mv 55 (.s 9), false⟩),
    ([], true, ⟨none, (some 56), .mv 56 (.s 12), false⟩),
    ([], true, ⟨none, (some 57), .binc 57 .sub (.s 55) (.s 56), false⟩),
    ([], true, ⟨none, (some 58), .ixs 58 (.s 54) (.s 57), false⟩),
    ([], true, ⟨none, (some 59), .mv 59 (.s 7), false⟩),
    ([], true, ⟨none, (some 60), .mv 60 (.s 8), false⟩),
    ([], true, ⟨none, (some 61), .mv 61 (.s 12), false⟩),
    ([], true, ⟨none, (some 62), .binc 62 .sub (.s 60) (.s 61), false⟩),
    ([], true, ⟨none, (some 63), .ixs 63 (.s 59) (.s 62), true⟩),
    ([], true, ⟨none, (some 64), .bin 64 .neq (.s 58) (.s 63), false⟩)]))
  (.cond (.s 64) .bad .skip)))
  (.seq (.keep [0, 7, 8, 9, 12]) (.ops [⟨none, (some 52), .mv 52 (.s 12), false⟩,
    ⟨none, (some 53), .binc 53 .add (.s 52) (.k (Value.int .i64 1)), false⟩,
    ⟨none, (some 12), .mv 12 (.s 53), false⟩])))))))
  (.seq (.seq (.seq (.keep [8, 9]) (.ops [⟨none, (some 65), .mv 65 (.s 9), false⟩,
    ⟨none, (some 66), .mv 66 (.s 8), false⟩,
    ⟨none, (some 67), .binc 67 .sub (.s 65) (.s 66), false⟩,
    ⟨none, (some 4), .mv 4 (.s 67), false⟩]))
  .ret)
  (.seq .skip
  (.seq (.seq (.keep [0, 7, 8, 9, 10]) (.ops [⟨none, (some 68), .mv 68 (.s 10), false⟩,
    ⟨none, (some 69), .binc 69 .add (.s 68) (.k (Value.int .i64 1)), false⟩,
    ⟨none, (some 10), .mv 10 (.s 69), false⟩]))
  (.seq (.seq (.keep [0, 7, 8, 9, 10]) (.ops [⟨none, (some 70), .mv 70 (.s 9), false⟩,
    ⟨none, (some 71), .binc 71 .add (.s 70) (.k (Value.int .i64 1)), false⟩,
    ⟨none, (some 9), .mv 9 (.s 71), false⟩]))
  (.seq (.seq (.keep [0, 7, 8, 9, 10]) (.ops [⟨none, (some 72), .mv 72 (.k (Value.bool true)), false⟩,
    ⟨(some (72, true)), (some 73), .mv 73 (.s 10), false⟩,
    ⟨(some (72, true)), (some 74), .mv 74 (.s 9), false⟩,
    ⟨(some (72, true)), (some 75), .call (some 75) 192 true [(.s 74)], false⟩,
    ⟨(some (72, true)), (some 76), .bin 76 .gtr (.s 73) (.s 75), false⟩,
    ⟨none, (some 77), .pk 77 (.s 72) (.s 76) (.k (Value.bool false)), false⟩,
    ⟨none, (some 78), .mv 78 (.s 77), false⟩,
    ⟨(some (78, true)), (some 79), .mv 79 (.s 9), false⟩,
    ⟨(some (78, true)), (some 80), .mv 80 (.s 0), false⟩,
    ⟨(some (78, true)), (some 81), .lens 81 (.s 80), true⟩,
    ⟨(some (78, true)), (some 82), .bin 82 .lss (.s 79) (.s 81), false⟩,
    ⟨none, (some 83), .pk 83 (.s 78) (.s 82) (.k (Value.bool false)), false⟩,
    ⟨none, (some 84), .mv 84 (.s 83), false⟩,
    ⟨(some (84, false)), (some 85), .mv 85 (.k (Value.bool false)), false⟩,
    ⟨(some (85, true)), (some 86), .mv 86 (.s 10), false⟩,
    ⟨(some (85, true)), (some 87), .mv 87 (.s 9), false⟩,
    ⟨(some (85, true)), (some 88), .bin 88 .shr (.s 87) (.k (Value.int .u64 4)), false⟩,
    ⟨(some (85, true)), (some 89), .binc 89 .add (.k (Value.int .i64 4)) (.s 88), false⟩,
    ⟨(some (85, true)), (some 90), .bin 90 .geq (.s 86) (.s 89), false⟩,
    ⟨(some (84, false)), (some 91), .pk 91 (.s 85) (.s 90) (.k (Value.bool false)), true⟩,
    ⟨(some (84, false)), (some 92), .mv 92 (.s 91), false⟩,
    ⟨(some (92, true)), (some 93), .mv 93 (.s 9), false⟩,
    ⟨(some (92, true)), (some 94), .mv 94 (.s 0), false⟩,
    ⟨(some (92, true)), (some 95), .lens 95 (.s 94), false⟩,
    ⟨(some (92, true)), (some 96), .bin 96 .lss (.s 93) (.s 95), false⟩,
    ⟨(some (84, false)), (some 97), .pk 97 (.s 92) (.s 96) (.k (Value.bool false)), false⟩,
    ⟨none, (some 98), .pk 98 (.s 84) (.k (Value.bool true)) (.s 97), false⟩]))
  (.cond (.s 98) .bad .skip))))))))))))
  (.seq (.seq (.ops [⟨none, (some 4), .mv 4 (.k (Value.int .i64 (-1))), false⟩])
  .ret)
  (.seq .skip
  (.seq (.cond (.k (Value.bool true)) (.seq (.seq (.keep [0, 1, 8, 9]) (.ops [⟨none, (some 99), .mv 99 (.s 0), false⟩,
    ⟨none, (some 100), .mv 100 (.s 9), false⟩,
    ⟨none, (some 101), .mv 101 (.s 8), false⟩,
    ⟨none, (some 102), .binc 102 .sub (.s 100) (.s 101), false⟩,
    ⟨none, (some 103), .sls 103 (.s 99) (some (.s 102)) none, false⟩,
    ⟨none, (some 104), .mv 104 (.s 1), false⟩,
    ⟨none, (some 105), .i2s 105 (.s 104), false⟩,
    ⟨none, (some 106), .stuck, false⟩,
    ⟨none, (some 13), .mv 13 (.s 106), false⟩]))
  (.seq (.ops [⟨none, (some 107), .mv 107 (.s 13), false⟩,
    ⟨none, (some 108), .bin 108 .geq (.s 107) (.k (Value.int .i64 0)), false⟩])
  (.cond (.s 108) (.seq (.seq (.keep [8, 9, 13]) (.ops [⟨none, (some 109), .mv 109 (.s 9), false⟩,
    ⟨none, (some 110), .mv 110 (.s 13), false⟩,
    ⟨none, (some 111), .binc 111 .add (.s 109) (.s 110), false⟩,
    ⟨none, (some 112), .mv 112 (.s 8), false⟩,
    ⟨none, (some 113), .binc 113 .sub (.s 111) (.s 112), false⟩,
    ⟨none, (some 4), .mv 4 (.s 113), false⟩]))
  .ret) .skip))) (.seq (.seq (.keep [0, 7, 8, 9]) (.ops [⟨none, (some 114), .mv 114 (.s 7), false⟩,
    ⟨none, (some 115), .mv 115 (.s 8), false⟩,
    ⟨none, (some 116), .ixs 116 (.s 114) (.s 115), false⟩,
    ⟨none, (some 14), .mv 14 (.s 116), false⟩]))
  (.seq (.seq (.keep [0, 7, 8, 9, 14]) (.ops [⟨none, (some 117), .mv 117 (.s 7), false⟩,
    ⟨none, (some 118), .mv 118 (.s 8), false⟩,
    ⟨none, (some 119), .binc 119 .sub (.s 118) (.k (Value.int .i64 1)), false⟩,
    ⟨none, (some 120), .ixs 120 (.s 117) (.s 119), false⟩,
    ⟨none, (some 15), .mv 15 (.s 120), false⟩]))
  (.seq .skip
  (.block 5 (.loop [0, 7, 8, 9, 14, 15] (.seq (.seq (.seq (.keep [0, 7, 8, 9, 14, 15]) (.ops [⟨none, (some 121), .mv 121 (.s 9), false⟩,
    ⟨none, (some 122), .mv 122 (.s 0), false⟩,
    ⟨none, (some 123), .lens 123 (.s 122), false⟩,
    ⟨none, (some 124), .bin 124 .lss (.s 121) (.s 123), false⟩]))
  (.cond (.s 124) .skip (.exit 5)))
  (.seq (.block 6 (.seq (.seq (.keep [0, 7, 8, 9, 14, 15]) (.ops [⟨none, (some 127), .mv 127 (.s 0), false⟩,
    ⟨none, (some 128), .mv 128 (.s 9), false⟩,
    ⟨none, (some 129), .ixs 129 (.s 127) (.s 128), false⟩,
    ⟨none, (some 130), .mv 130 (.s 14), false⟩,
    ⟨none, (some 131), .bin 131 .eql (.s 129) (.s 130), false⟩,
    ⟨none, (some 132), .mv 132 (.s 131), false⟩,
    ⟨(some (132, true)), (some 133), .mv 133 (.s 0), false⟩,
    ⟨(some (132, true)), (some 134), .mv 134 (.s 9), false⟩,
    ⟨(some (132, true)), (some 135), .binc 135 .sub (.s 134) (.k (Value.int .i64 1)), false⟩,
    ⟨(some (132, true)), (some 136), .ixs 136 (.s 133) (.s 135), true⟩,
    ⟨(some (132, true)), (some 137), .mv 137 (.s 15), false⟩,
    ⟨(some (132, true)), (some 138), .bin 138 .eql (.s 136) (.s 137), false⟩,
    ⟨none, (some 139), .pk 139 (.s 132) (.s 138) (.k (Value.bool false)), false⟩]))
  (.cond (.s 139) (.seq (.seq (.ops [⟨none, (some 16), .mv 16 (.k (Value.int .i64 2)), false⟩])
  (.block 7 (.loop [0, 7, 8, 9, 14, 15, 16] (.seq (.seq (.seq (.keep [0, 7, 8, 9, 14, 15, 16]) (.ops [⟨none, (some 140), .mv 140 (.s 16), false⟩,
    ⟨none, (some 141), .mv 141 (.s 7), false⟩,
    ⟨none, (some 142), .lens 142 (.s 141), false⟩,
    ⟨none, (some 143), .bin 143 .lss (.s 140) (.s 142), false⟩]))
  (.cond (.s 143) .skip (.exit 7)))
  (.seq (.block 8 (.seq (.seq (.keep [0, 7, 8, 9, 14, 15, 16]) (.dr [([], true, ⟨none, (some 146), .mv 146 (.s 0), false⟩),
    ([], true, ⟨none, (some 147), .mv 147 (.s 9), false⟩),
    ([], true, ⟨none, (some 148), .mv 148 (.s 16), false⟩),
    ([], true, ⟨none, (some 149), .binc 149 .sub (.s 147) (.s 148), false⟩),
    ([], true, ⟨none, (some 150), .ixs 150 (.s 146) (.s 149), false⟩),
    ([], true, ⟨none, (some 151), .mv 151 (.s 7), false⟩),
    ([], true, ⟨none, (some 152), .mv 152 (.s 8), false⟩),
    ([], true, ⟨none, (some 153), .mv 153 (.s 16), false⟩),
    ([], true, ⟨none, (some 154), .binc 154 .sub (.s 152) (.s 153), false⟩),
    ([], true, ⟨none, (some 155), .ixs 155 (.s 151) (.s 154), true⟩),
    ([], true, ⟨none, (some 156), .bin 156 .neq (.s 150) (.s 155), false⟩)]))
  (.cond (.s 156) (.exit 6) .skip)))
  (.seq (.keep [0, 7, 8, 9, 14, 15, 16]) (.ops [⟨none, (some 144), .mv 144 (.s 16), false⟩,
    ⟨none, (some 145), .binc 145 .add (.s 144) (.k (Value.int .i64 1)), false⟩,
    ⟨none, (some 16), .mv 16 (.s 145), false⟩])))))))
  (.seq (.seq (.keep [8, 9]) (.ops [⟨none, (some 157), .mv 157 (.s 9), false⟩,
    ⟨none, (some 158), .mv 158 (.s 8), false⟩,
    ⟨none, (some 159), .binc 159 .sub (.s 157) (.s 158), false⟩,
    ⟨none, (some 4), .mv 4 (.s 159), false⟩]))
  .ret)) .skip)))
  (.seq (.keep [0, 7, 8, 9, 14, 15]) (.ops [⟨none, (some 125), .mv 125 (.s 9), false⟩,
    ⟨none, (some 126), .binc 126 .add (.s 125) (.k (Value.int .i64 1)), false⟩,
    ⟨none, (some 9), .mv 9 (.s 126), false⟩]))))))))))
  (.seq (.ops [⟨none, (some 4), .mv 4 (.k (Value.int .i64 (-1))), false⟩])
  .ret)))))))))))))))))
theorem cc156 : (Tryz.f156.body).bind (cc Tryz.prog Tryz.f156.ntmps A156) = some S156 := by kernel_rfl
def R156 : List RR := [.sl 4]
theorem cr156 : Tryz.f156.results.toList.map (crr Tryz.prog) = R156.map some := by kernel_rfl
theorem nm156 : (Tryz.f156.name == "runtime.NumGoroutine") = false := by kernel_rfl
theorem fn156 : Tryz.prog.funcs[156]? = some Tryz.f156 := by kernel_rfl
theorem bd156 : ∃ b, Tryz.f156.body = some b ∧ cc Tryz.prog Tryz.f156.ntmps A156 b = some S156 := Option.bind_eq_some_iff.1 cc156
theorem sd156 {G : World → Prop} {T : FuncId → Contract} {C : Contract} (hT : ∀ f, Sound G Tryz.prog f (T f)) (hl : C.lawful) (hC : ∀ args st K, C.wp args st K → args.length ≤ 187 ∧ ∃ os op, xv T st.n S156 (st0 args st) (retK R156 st.n os K) (panK st.n op K)) (hit : SoundIt G Tryz.prog 156 C.it := by exact SoundIt.none) : Sound G Tryz.prog 156 C := by
  obtain ⟨b, hb, hc⟩ := bd156
  rw [xv_eq] at hC
  exact sound_of_ev mo fn156 hb nm156 hc cr156 hT hl hit hC
def A157 : Ann := ⟨fun _ _ => 0, fun _ => none, fun r => if r = 1 then some (false, [0]) else none, fun _ => []⟩
def S157 : SCode :=
  (.seq (.ops [⟨none, (some 2), .mv 2 (.k (Value.bool false)), false⟩])
  (.seq (.seq (.keep [0]) (.ops [⟨none, (some 3), .mv 3 (.s 0), false⟩,
    ⟨none, (some 4), .bin 4 .gtr (.s 3) (.k (Value.int .i64 8)), false⟩,
    ⟨none, (some 2), .mv 2 (.s 4), false⟩]))
  .ret))
theorem cc157 : (Tryz.f157.body).bind (cc Tryz.prog Tryz.f157.ntmps A157) = some S157 := by kernel_rfl
def R157 : List RR := [.sl 2]
theorem cr157 : Tryz.f157.results.toList.map (crr Tryz.prog) = R157.map some := by kernel_rfl
theorem nm157 : (Tryz.f157.name == "runtime.NumGoroutine") = false := by kernel_rfl
theorem fn157 : Tryz.prog.funcs[157]? = some Tryz.f157 := by kernel_rfl
theorem bd157 : ∃ b, Tryz.f157.body = some b ∧ cc Tryz.prog Tryz.f157.ntmps A157 b = some S157 := Option.bind_eq_some_iff.1 cc157
theorem sd157 {G : World → Prop} {T : FuncId → Contract} {C : Contract} (hT : ∀ f, Sound G Tryz.prog f (T f)) (hl : C.lawful) (hC : ∀ args st K, C.wp args st K → args.length ≤ 5 ∧ ∃ os op, xv T st.n S157 (st0 args st) (retK R157 st.n os K) (panK st.n op K)) (hit : SoundIt G Tryz.prog 157 C.it := by exact SoundIt.none) : Sound G Tryz.prog 157 C := by
  obtain ⟨b, hb, hc⟩ := bd157
  rw [xv_eq] at hC
  exact sound_of_ev mo fn157 hb nm157 hc cr157 hT hl hit hC
end Go.Proofs.YtlghobefhmpfkaaGreatDoor
namespace Go.Proofs
open Go.Shelf
def Tryz.lays119_ren : Go.Shelf.Ren := ⟨fun | 119 => 195 | n => n, fun | 21 => 21 | 4 => 4 | n => n, fun | n => n⟩
theorem Tryz.lays119 : Go.Proofs.Lays.n119 Tryz.prog Tryz.lays119_ren := {
  mixed := by kernel_rfl
  f119 := Tryz.func195.trans (congrArg some (by kernel_rfl))
  t4 := Tryz.underlying4
  a4 := Tryz.isAgg4
  z4 := Tryz.sizeOf4
  v4 := Tryz.zeroValue4
  t21 := Tryz.underlying21
  a21 := Tryz.isAgg21
  z21 := Tryz.sizeOf21
  v21 := Tryz.zeroValue21 }
theorem Tryz.utf8_ValidRune (r : Int) (w : World) :
    Calls Tryz.prog 195 #[.int .i32 r] w fun e w' => e = .returned (.bool (Lib.validRune r)) ∧ w' = w := Any.utf8_ValidRune Tryz.lays119 r w
def Tryz.lays227_ren : Go.Shelf.Ren := ⟨fun | 227 => 158 | n => n, fun | 9 => 9 | 116 => 215 | 4 => 4 | 0 => 0 | 3 => 3 | 5 => 5 | n => n, fun | n => n⟩
theorem Tryz.lays227 : Go.Proofs.Lays.n227 Tryz.prog Tryz.lays227_ren := {
  mixed := by kernel_rfl
  f227 := Tryz.func158.trans (congrArg some (by kernel_rfl))
  t0 := Tryz.underlying0
  a0 := Tryz.isAgg0
  z0 := Tryz.sizeOf0
  v0 := Tryz.zeroValue0
  t3 := Tryz.underlying3
  a3 := Tryz.isAgg3
  z3 := Tryz.sizeOf3
  v3 := Tryz.zeroValue3
  t4 := Tryz.underlying4
  a4 := Tryz.isAgg4
  z4 := Tryz.sizeOf4
  v4 := Tryz.zeroValue4
  t5 := Tryz.underlying5
  a5 := Tryz.isAgg5
  z5 := Tryz.sizeOf5
  v5 := Tryz.zeroValue5
  t9 := Tryz.underlying9
  a9 := Tryz.isAgg9
  z9 := Tryz.sizeOf9
  v9 := Tryz.zeroValue9
  t116 := Tryz.underlying215
  a116 := Tryz.isAgg215
  z116 := Tryz.sizeOf215 }
open Go.RowKit Go.Lib in
theorem Tryz.strings_makeASCIISet (hv116 : ∀ w, (zeroValue 215).run Tryz.prog w = .ok (.agg (Array.replicate 256 (.bool false))) w) (chars : ByteArray) (w : World) (hs : chars.size < 4294967281) (hascii : ∀ (j : Nat) b, chars.data.toList[j]? = some b → b.toNat < 128) :
    Calls Tryz.prog 158 #[.string chars] w fun e w' => e = .returned (.tuple #[.agg (Lib.setCells chars.data.toList), .bool true]) ∧ w' = w.alloc (.cells (Lib.setCells chars.data.toList) 215) := Any.strings_makeASCIISet Tryz.lays227 hv116 (by kernel_rfl) chars w hs hascii
def Tryz.lays228_ren : Go.Shelf.Ren := ⟨fun | 228 => 159 | n => n, fun | 124 => 245 | 5 => 5 | 4 => 4 | 0 => 0 | 116 => 215 | n => n, fun | n => n⟩
theorem Tryz.lays228 : Go.Proofs.Lays.n228 Tryz.prog Tryz.lays228_ren := {
  mixed := by kernel_rfl
  f228 := Tryz.func159.trans (congrArg some (by kernel_rfl))
  t0 := Tryz.underlying0
  a0 := Tryz.isAgg0
  z0 := Tryz.sizeOf0
  v0 := Tryz.zeroValue0
  t4 := Tryz.underlying4
  a4 := Tryz.isAgg4
  z4 := Tryz.sizeOf4
  v4 := Tryz.zeroValue4
  t5 := Tryz.underlying5
  a5 := Tryz.isAgg5
  z5 := Tryz.sizeOf5
  v5 := Tryz.zeroValue5
  t116 := Tryz.underlying215
  a116 := Tryz.isAgg215
  z116 := Tryz.sizeOf215
  t124 := Tryz.underlying245
  a124 := Tryz.isAgg245
  z124 := Tryz.sizeOf245
  v124 := Tryz.zeroValue245 }
open Go.RowKit Go.Lib in
theorem Tryz.asciiSet_contains (b : Nat) (x : UInt8) (v : Bool) (w : World) (hc : w.cell? ⟨b, x.toNat, none⟩ = some (.bool v)) :
    Calls Tryz.prog 159 #[.pointer (some ⟨b, 0, none⟩), .int .u8 x.toNat] w fun e w' => e = .returned (.bool v) ∧ w' = w := Any.asciiSet_contains Tryz.lays228 b x v w hc
end Go.Proofs
set_option linter.unusedVariables false
set_option linter.unusedSimpArgs false
namespace Go.Proofs.YtlghobefhmpfkaaGreatDoor
open Go Go.Ev
set_option maxRecDepth 100000
variable {G : World → Prop}
def blk (c : UInt8) : Bool := decide (c = 97) || decide (c = 99) || decide (c = 100)
def blkI (c : Int) : Bool := decide (c = 97) || decide (c = 99) || decide (c = 100)
theorem blk_int (c : UInt8) : blkI (c.toNat : Int) = blk c := by
  have h : ∀ k : UInt8, decide ((c.toNat : Int) = (k.toNat : Int)) = decide (c = k) := fun k => by
    rw [decide_eq_decide]; exact ⟨fun h => UInt8.toNat_inj.1 (by omega), fun h => by rw [h]⟩
  have h1 : decide ((c.toNat : Int) = 97) = decide (c = 97) := h 97
  have h2 : decide ((c.toNat : Int) = 99) = decide (c = 99) := h 99
  have h3 : decide ((c.toNat : Int) = 100) = decide (c = 100) := h 100
  rw [blkI, blk, h1, h2, h3]
def setL : List SV := (Lib.setCells [97, 99, 100]).toList.map fun v => .d (.v v)
theorem setL_len : setL.length = 256 := by simp [setL, Lib.setCells_size]
theorem setL_get (c : UInt8) : (Lib.setCells [97, 99, 100])[c.toNat]? = some (.bool (blk c)) := by
  rw [Lib.setCells_at]
  congr 2
  simp [blk, List.contains_cons, Bool.beq_eq_decide_eq, Bool.or_assoc]
theorem setL_ren (f : Nat → Option Nat) : List.map (fun x => SV.ren f x) setL = setL := by simp [setL, SV.ren]
theorem setL_ids (ob : List (Nat × Ob)) (k : Nat) : List.flatMap (idsC ob k) setL = [] := by
  rw [List.flatMap_eq_nil_iff]
  intro x hx
  simp only [setL, List.mem_map] at hx
  obtain ⟨v, _, rfl⟩ := hx
  cases k <;> rfl
def CMk : Contract := pureC fun args => match args with
  | [.d (.v (.string p))] => some (p.data.toList = [97, 99, 100], .tup [.agg setL, .d (.v (.bool true))])
  | _ => none
theorem sMk : Sound G Tryz.prog 158 CMk := by
  refine sound_lib ⟨Tryz.f158, by kernel_rfl, by kernel_rfl, by kernel_rfl⟩ fun args p x h hp => ?_
  split at h <;> simp only [Option.some.injEq, Prod.mk.injEq, reduceCtorEq] at h
  obtain ⟨rfl, rfl⟩ := h
  rename_i s
  obtain ⟨l, rfl⟩ := ex_str s
  simp only [sem_str] at hp
  subst hp
  refine ⟨.tuple #[.agg (Lib.setCells [97, 99, 100]), .bool true], fun m n c => ?_, fun w hw m c vs hc hv => ?_⟩
  · simp only [Cn, CnL, setL, and_true]
    refine ⟨_, rfl, ⟨_, rfl, CnL_dv _ fun x hx => ?_, fun x hx => ?_⟩, by simp [CnL, Cn, Rd, Value.oneCell']⟩
    · have := Array.all_eq_true_iff_forall_mem.1 (Lib.setCells_one [97, 99, 100]) x (by simpa using hx)
      simpa using this
    · have := Array.all_eq_true_iff_forall_mem.1 (Lib.setCells_one [97, 99, 100]) x (by simpa using hx)
      simpa using this
  · match vs, hv with
    | [v], hv =>
      simp only [CnL, and_true] at hv
      rw [of_v hv]
      refine (Tryz.strings_makeASCIISet (fun w => zero_run (by kernel_rfl) w) ⟨[97, 99, 100].toArray⟩ w (by decide) (fun j b hb => ?_)).mono ?_
      · match j, hb with
        | 0, hb => simp at hb; subst hb; decide
        | 1, hb => simp at hb; subst hb; decide
        | 2, hb => simp at hb; subst hb; decide
        | _ + 3, hb => simp at hb
      · rintro e w' ⟨rfl, rfl⟩
        exact ⟨rfl, (RowKit.Below.refl _ _).alloc (Nat.le_refl _) _⟩
    | [], hv => simp [CnL] at hv
    | _ :: _ :: _, hv => simp [CnL] at hv
def CCon : Contract := stC fun args st => match args, st with
  | [.ptr 0 0, .d (.v (.int .u8 c))], ⟨1, [(0, .cells t l)]⟩ => some ((l = setL ∧ 0 ≤ c ∧ c < 256), .d (.v (.bool (blkI c))), ⟨1, [(0, .cells t l)]⟩)
  | _, _ => none
theorem sCon : Sound G Tryz.prog 159 CCon := by
  refine ⟨stC_lawful _, fun H w m B s args vs K hK hO ha => ?_, SoundIt.none⟩
  unfold CCon at hK
  rw [stC_wp] at hK
  obtain ⟨z, h1, h2, h3⟩ := need_ex hK
  split at h1 <;> simp only [Option.some.injEq, reduceCtorEq] at h1
  subst h1
  rename_i c t l
  simp only at h2 h3
  obtain ⟨rfl, c0, c1⟩ := h2
  refine ⟨⟨Tryz.f159, by kernel_rfl, by kernel_rfl, by kernel_rfl⟩, ?_⟩
  obtain ⟨b, cs, g1, g2, g3, g4, g5⟩ := hO.obs 0 (.cells t setL) rfl
  match vs, ha with
  | [v0, v1], ha =>
    simp only [CnL, and_true] at ha
    obtain ⟨a0, a1⟩ := ha
    simp only [Cn] at a0
    obtain ⟨_, b', e1, rfl⟩ := a0
    rw [g1] at e1
    simp only [Value.pointer.injEq, Option.some.injEq, Addr.mk.injEq, and_true] at e1
    subst e1
    rw [of_v a1]
    have hx : ((UInt8.ofNat c.toNat).toNat : Int) = c := by simp [UInt8.toNat_ofNat']; omega
    have hs : setL[(UInt8.ofNat c.toNat).toNat]? = some (.d (.v (.bool (blk (UInt8.ofNat c.toNat))))) := by
      have := setL_get (UInt8.ofNat c.toNat)
      simp only [setL, List.getElem?_map]
      rw [Array.getElem?_toList, this]; rfl
    obtain ⟨u, k1, k2⟩ := CnL_get g3 hs
    have hcell : w.cell? ⟨b, (UInt8.ofNat c.toNat).toNat, none⟩ = some (.bool (blk (UInt8.ofNat c.toNat))) := by
      rw [← of_v k2]
      simp only [World.cell?, g2]
      simpa using k1
    have hc := Tryz.asciiSet_contains b (UInt8.ofNat c.toNat) _ w hcell
    rw [hx] at hc
    refine hc.mono ?_
    rintro e w' ⟨rfl, rfl⟩
    refine ⟨m, B, _, _, h3, hO, Since.refl _ _ _ _, ?_⟩
    simp only [OutOk]
    rw [← blk_int, hx]
    exact ⟨rfl, rfl⟩
  | [], ha => simp [CnL] at ha
  | [_], ha => simp [CnL] at ha
  | _ :: _ :: _ :: _, ha => simp [CnL] at ha
end Go.Proofs.YtlghobefhmpfkaaGreatDoor
set_option linter.unusedVariables false
set_option linter.unusedSimpArgs false
namespace Go.Proofs.YtlghobefhmpfkaaGreatDoor
open Go Go.Ev
set_option maxRecDepth 100000
variable {G : World → Prop}
def CVal : Contract := pureC fun args => match args with
  | [.d (.v (.int .i32 r))] => some (True, .d (.v (.bool (Lib.validRune r))))
  | _ => none
theorem sVal : Sound G Tryz.prog 195 CVal := by
  refine sound_calls ⟨Tryz.f195, by kernel_rfl, by kernel_rfl, by kernel_rfl⟩ fun args p x h hp => ?_
  split at h <;> simp only [Option.some.injEq, Prod.mk.injEq, reduceCtorEq] at h
  obtain ⟨rfl, rfl⟩ := h
  refine ⟨_, fun m n c => ⟨rfl, rfl⟩, fun m c vs hv w => ?_⟩
  match vs, hv with
  | [v], hv =>
    simp only [CnL, and_true] at hv
    rw [of_v hv]
    exact Tryz.utf8_ValidRune _ w
  | [], hv => simp [CnL] at hv
  | _ :: _ :: _, hv => simp [CnL] at hv
def idxR (r : Int) : Int := if r = 97 then 0 else if r = 99 then 1 else if r = 100 then 2 else -1
def CIdxR : Contract := pureC fun args => match args with
  | [.d (.v (.string p)), .d (.v (.int .i32 r))] => some (p.data.toList = [97, 99, 100] ∧ 0 ≤ r ∧ r ≤ 1114111, .d (.v (.int .i64 (idxR r))))
  | _ => none
theorem idxR_low (r : Int) (h : 0 ≤ r ∧ r < 128) : Lib.indexByte [97, 99, 100] (r.toNat.toUInt8) = idxR r := by
  have : ∀ n : Fin 128, Lib.indexByte [97, 99, 100] (n.val.toUInt8) = idxR (n.val : Int) := by decide +kernel
  have h2 := this ⟨r.toNat, by omega⟩
  simpa [Int.toNat_of_nonneg h.1] using h2
theorem wrap8 (r : Int) (h : 0 ≤ r ∧ r < 256) : IntKind.u8.wrap r = r := by
  simp only [IntKind.wrap, IntKind.bits, IntKind.signed]
  simp
  omega
theorem enc_high (r : Int) (h : 128 ≤ r) : ∃ l : List UInt8, Utf8.encode r = ⟨l.toArray⟩ ∧ 2 ≤ l.length ∧ l.length ≤ 4 ∧ 128 ≤ (l.getD (l.length - 1) 0).toNat := by
  have ho : ∀ n : Nat, 128 ≤ (UInt8.ofNat (128 + n % 64)).toNat := fun n => by simp [UInt8.toNat_ofNat']; omega
  have hc : 128 ≤ (if Utf8.valid r then r.toNat else Utf8.runeError) := by
    split
    · omega
    · decide
  unfold Utf8.encode
  generalize (if Utf8.valid r then r.toNat else Utf8.runeError) = c at hc
  simp only
  rw [if_neg (by omega)]
  split
  · exact ⟨[_, _], rfl, by simp, by simp, ho _⟩
  · split
    · exact ⟨[_, _, _], rfl, by simp, by simp, ho _⟩
    · exact ⟨[_, _, _, _], rfl, by simp, by simp, ho _⟩
theorem dec0 : Utf8.decode ⟨#[97, 99, 100]⟩ 0 = (97, 1) := by decide
theorem dec1 : Utf8.decode ⟨#[97, 99, 100]⟩ 1 = (99, 1) := by decide
theorem dec2 : Utf8.decode ⟨#[97, 99, 100]⟩ 2 = (100, 1) := by decide
set_option maxHeartbeats 2000000 in
theorem s156 : Sound G Tryz.prog 156 CIdxR := by
  refine sd156 (T := tabT [(116, C163), (195, CVal)]) (tab_cons s116 (tab_cons sVal tab_nil)) (pureC_lawful _) (pure_hX fun args p x K h hp hk => ?_)
  split at h <;> simp only [Option.some.injEq, Prod.mk.injEq, reduceCtorEq] at h
  obtain ⟨rfl, rfl⟩ := h
  refine ⟨Nat.le_of_ble_eq_true rfl, ?_⟩
  rename_i p r
  obtain ⟨p, rfl⟩ := ex_str p
  simp only [sem_str] at hp
  obtain ⟨rfl, h0, h1⟩ := hp
  have e1 : ((3 : Nat) : Int) = 3 := rfl
  by_cases hl : r < 128
  · have hi := idxR_low r ⟨h0, hl⟩
    have hw := wrap8 r ⟨h0, by omega⟩
    simp -dsimp -implicitDefEqProofs only [S156, R156, C163, CVal, h0, hl, hi, hw, ↓Ev.xStp_eq, ↓Ev.P, Ev.Q, Bool.cond_true, Bool.cond_false, eq_self, forall_eq_or_imp, implies_true, forall_const, forall_eq, ↓reduceIte, reduceIte, Nat.reduceEqDiff, Nat.reduceAdd, reduceCtorEq, Nat.reduceSub, Int.reduceToNat, Int.reduceLE, Int.reduceLT, Int.reduceNeg, Nat.reduceBEq, Nat.reduceMul, Nat.reduceLeDiff, Nat.reduceMod, UInt8.reduceOfNat, Nat.reduceLT, Int.reduceEq, Int.reduceAdd, Int.reduceSub, Int.reduceMul]
    exact hk
  · have hi : idxR r = -1 := by unfold idxR; rw [if_neg (by omega), if_neg (by omega), if_neg (by omega)]
    rw [hi] at hk
    by_cases he : r = 65533
    · subst he
      simp -dsimp -implicitDefEqProofs only [S156, R156, C163, CVal, ↓Ev.xStp_eq, ↓Ev.P, Ev.Q, Bool.cond_true, Bool.cond_false, eq_self, forall_eq_or_imp, implies_true, forall_const, forall_eq, ↓reduceIte, reduceIte, Nat.reduceEqDiff, Nat.reduceAdd, reduceCtorEq, Nat.reduceSub, Int.reduceToNat, Int.reduceLE, Int.reduceLT, Int.reduceNeg, Nat.reduceBEq, Nat.reduceMul, Nat.reduceLeDiff, Nat.reduceMod, UInt8.reduceOfNat, Nat.reduceLT, Int.reduceEq, Int.reduceAdd, Int.reduceSub, Int.reduceMul]
      refine xLoop_intro (fun k st => ∃ i : Nat, i ≤ 3 ∧ k = 3 - i ∧ st = ⟨[(175, .own 0)], 1, [(0, .iter ⟨#[97, 99, 100]⟩ i)]⟩) 3 [0] ?_ ?_ ?_
      · simp -dsimp -implicitDefEqProofs only [↓Ev.xStp_eq, ↓Ev.P, Ev.Q, Bool.cond_true, Bool.cond_false, eq_self, forall_eq_or_imp, implies_true, forall_const, forall_eq, ↓reduceIte, reduceIte, Nat.reduceEqDiff, Nat.reduceAdd, reduceCtorEq, Nat.reduceSub, Int.reduceToNat, Int.reduceLE, Int.reduceLT, Int.reduceNeg, Nat.reduceBEq, Nat.reduceMul, Nat.reduceLeDiff, Nat.reduceMod, UInt8.reduceOfNat, Nat.reduceLT, Int.reduceEq, Int.reduceAdd, Int.reduceSub, Int.reduceMul]
      · simp -dsimp -implicitDefEqProofs only [↓Ev.xStp_eq, ↓Ev.P, Ev.Q, Bool.cond_true, Bool.cond_false, eq_self, forall_eq_or_imp, implies_true, forall_const, forall_eq, ↓reduceIte, reduceIte, Nat.reduceEqDiff, Nat.reduceAdd, reduceCtorEq, Nat.reduceSub, Int.reduceToNat, Int.reduceLE, Int.reduceLT, Int.reduceNeg, Nat.reduceBEq, Nat.reduceMul, Nat.reduceLeDiff, Nat.reduceMod, UInt8.reduceOfNat, Nat.reduceLT, Int.reduceEq, Int.reduceAdd, Int.reduceSub, Int.reduceMul]
        exact ⟨0, by omega, by omega, rfl⟩
      · rintro k st ⟨i, hi, hk2, rfl⟩
        have hc : i = 0 ∨ i = 1 ∨ i = 2 ∨ i = 3 := by omega
        rcases hc with rfl | rfl | rfl | rfl
        · simp -dsimp -implicitDefEqProofs only [dec0, ↓Ev.xStp_eq, ↓Ev.P, Ev.Q, Bool.cond_true, Bool.cond_false, eq_self, forall_eq_or_imp, implies_true, forall_const, forall_eq, ↓reduceIte, reduceIte, Nat.reduceEqDiff, Nat.reduceAdd, reduceCtorEq, Nat.reduceSub, Int.reduceToNat, Int.reduceLE, Int.reduceLT, Int.reduceNeg, Nat.reduceBEq, Nat.reduceMul, Nat.reduceLeDiff, Nat.reduceMod, UInt8.reduceOfNat, Nat.reduceLT, Int.reduceEq, Int.reduceAdd, Int.reduceSub, Int.reduceMul]
          refine ⟨fun h => by omega, fun _ => ?_⟩
          refine xAgain_intro 2 [0] (by omega) (by simp -dsimp -implicitDefEqProofs only [↓Ev.xStp_eq, ↓Ev.P, Ev.Q, Bool.cond_true, Bool.cond_false, eq_self, forall_eq_or_imp, implies_true, forall_const, forall_eq, ↓reduceIte, reduceIte, Nat.reduceEqDiff, Nat.reduceAdd, reduceCtorEq, Nat.reduceSub, Int.reduceToNat, Int.reduceLE, Int.reduceLT, Int.reduceNeg, Nat.reduceBEq, Nat.reduceMul, Nat.reduceLeDiff, Nat.reduceMod, UInt8.reduceOfNat, Nat.reduceLT, Int.reduceEq, Int.reduceAdd, Int.reduceSub, Int.reduceMul]) ⟨1, by omega, rfl, ?_⟩
          simp -dsimp -implicitDefEqProofs only [↓Ev.xStp_eq, ↓Ev.P, Ev.Q, Bool.cond_true, Bool.cond_false, eq_self, forall_eq_or_imp, implies_true, forall_const, forall_eq, ↓reduceIte, reduceIte, Nat.reduceEqDiff, Nat.reduceAdd, reduceCtorEq, Nat.reduceSub, Int.reduceToNat, Int.reduceLE, Int.reduceLT, Int.reduceNeg, Nat.reduceBEq, Nat.reduceMul, Nat.reduceLeDiff, Nat.reduceMod, UInt8.reduceOfNat, Nat.reduceLT, Int.reduceEq, Int.reduceAdd, Int.reduceSub, Int.reduceMul]
        · simp -dsimp -implicitDefEqProofs only [dec1, ↓Ev.xStp_eq, ↓Ev.P, Ev.Q, Bool.cond_true, Bool.cond_false, eq_self, forall_eq_or_imp, implies_true, forall_const, forall_eq, ↓reduceIte, reduceIte, Nat.reduceEqDiff, Nat.reduceAdd, reduceCtorEq, Nat.reduceSub, Int.reduceToNat, Int.reduceLE, Int.reduceLT, Int.reduceNeg, Nat.reduceBEq, Nat.reduceMul, Nat.reduceLeDiff, Nat.reduceMod, UInt8.reduceOfNat, Nat.reduceLT, Int.reduceEq, Int.reduceAdd, Int.reduceSub, Int.reduceMul]
          refine ⟨fun h => by omega, fun _ => ?_⟩
          refine xAgain_intro 1 [0] (by omega) (by simp -dsimp -implicitDefEqProofs only [↓Ev.xStp_eq, ↓Ev.P, Ev.Q, Bool.cond_true, Bool.cond_false, eq_self, forall_eq_or_imp, implies_true, forall_const, forall_eq, ↓reduceIte, reduceIte, Nat.reduceEqDiff, Nat.reduceAdd, reduceCtorEq, Nat.reduceSub, Int.reduceToNat, Int.reduceLE, Int.reduceLT, Int.reduceNeg, Nat.reduceBEq, Nat.reduceMul, Nat.reduceLeDiff, Nat.reduceMod, UInt8.reduceOfNat, Nat.reduceLT, Int.reduceEq, Int.reduceAdd, Int.reduceSub, Int.reduceMul]) ⟨2, by omega, rfl, ?_⟩
          simp -dsimp -implicitDefEqProofs only [↓Ev.xStp_eq, ↓Ev.P, Ev.Q, Bool.cond_true, Bool.cond_false, eq_self, forall_eq_or_imp, implies_true, forall_const, forall_eq, ↓reduceIte, reduceIte, Nat.reduceEqDiff, Nat.reduceAdd, reduceCtorEq, Nat.reduceSub, Int.reduceToNat, Int.reduceLE, Int.reduceLT, Int.reduceNeg, Nat.reduceBEq, Nat.reduceMul, Nat.reduceLeDiff, Nat.reduceMod, UInt8.reduceOfNat, Nat.reduceLT, Int.reduceEq, Int.reduceAdd, Int.reduceSub, Int.reduceMul]
        · simp -dsimp -implicitDefEqProofs only [dec2, ↓Ev.xStp_eq, ↓Ev.P, Ev.Q, Bool.cond_true, Bool.cond_false, eq_self, forall_eq_or_imp, implies_true, forall_const, forall_eq, ↓reduceIte, reduceIte, Nat.reduceEqDiff, Nat.reduceAdd, reduceCtorEq, Nat.reduceSub, Int.reduceToNat, Int.reduceLE, Int.reduceLT, Int.reduceNeg, Nat.reduceBEq, Nat.reduceMul, Nat.reduceLeDiff, Nat.reduceMod, UInt8.reduceOfNat, Nat.reduceLT, Int.reduceEq, Int.reduceAdd, Int.reduceSub, Int.reduceMul]
          refine ⟨fun h => by omega, fun _ => ?_⟩
          refine xAgain_intro 0 [0] (by omega) (by simp -dsimp -implicitDefEqProofs only [↓Ev.xStp_eq, ↓Ev.P, Ev.Q, Bool.cond_true, Bool.cond_false, eq_self, forall_eq_or_imp, implies_true, forall_const, forall_eq, ↓reduceIte, reduceIte, Nat.reduceEqDiff, Nat.reduceAdd, reduceCtorEq, Nat.reduceSub, Int.reduceToNat, Int.reduceLE, Int.reduceLT, Int.reduceNeg, Nat.reduceBEq, Nat.reduceMul, Nat.reduceLeDiff, Nat.reduceMod, UInt8.reduceOfNat, Nat.reduceLT, Int.reduceEq, Int.reduceAdd, Int.reduceSub, Int.reduceMul]) ⟨3, by omega, rfl, ?_⟩
          simp -dsimp -implicitDefEqProofs only [↓Ev.xStp_eq, ↓Ev.P, Ev.Q, Bool.cond_true, Bool.cond_false, eq_self, forall_eq_or_imp, implies_true, forall_const, forall_eq, ↓reduceIte, reduceIte, Nat.reduceEqDiff, Nat.reduceAdd, reduceCtorEq, Nat.reduceSub, Int.reduceToNat, Int.reduceLE, Int.reduceLT, Int.reduceNeg, Nat.reduceBEq, Nat.reduceMul, Nat.reduceLeDiff, Nat.reduceMod, UInt8.reduceOfNat, Nat.reduceLT, Int.reduceEq, Int.reduceAdd, Int.reduceSub, Int.reduceMul]
        · simp -dsimp -implicitDefEqProofs only [↓Ev.xStp_eq, ↓Ev.P, Ev.Q, Bool.cond_true, Bool.cond_false, eq_self, forall_eq_or_imp, implies_true, forall_const, forall_eq, ↓reduceIte, reduceIte, Nat.reduceEqDiff, Nat.reduceAdd, reduceCtorEq, Nat.reduceSub, Int.reduceToNat, Int.reduceLE, Int.reduceLT, Int.reduceNeg, Nat.reduceBEq, Nat.reduceMul, Nat.reduceLeDiff, Nat.reduceMod, UInt8.reduceOfNat, Nat.reduceLT, Int.reduceEq, Int.reduceAdd, Int.reduceSub, Int.reduceMul]
          exact hk
    · cases hv : Lib.validRune r with
      | false =>
        simp -dsimp -implicitDefEqProofs only [S156, R156, C163, CVal, h0, hl, he, hv, ↓Ev.xStp_eq, ↓Ev.P, Ev.Q, Bool.cond_true, Bool.cond_false, eq_self, forall_eq_or_imp, implies_true, forall_const, forall_eq, ↓reduceIte, reduceIte, Nat.reduceEqDiff, Nat.reduceAdd, reduceCtorEq, Nat.reduceSub, Int.reduceToNat, Int.reduceLE, Int.reduceLT, Int.reduceNeg, Nat.reduceBEq, Nat.reduceMul, Nat.reduceLeDiff, Nat.reduceMod, UInt8.reduceOfNat, Nat.reduceLT, Int.reduceEq, Int.reduceAdd, Int.reduceSub, Int.reduceMul]
        exact hk
      | true =>
        obtain ⟨q, q1, q2, q3, q4⟩ := enc_high r (by omega)
        simp -dsimp -implicitDefEqProofs only [S156, R156, C163, CVal, h0, hl, he, hv, q1, ↓Ev.xStp_eq, ↓Ev.P, Ev.Q, Bool.cond_true, Bool.cond_false, eq_self, forall_eq_or_imp, implies_true, forall_const, forall_eq, ↓reduceIte, reduceIte, Nat.reduceEqDiff, Nat.reduceAdd, reduceCtorEq, Nat.reduceSub, Int.reduceToNat, Int.reduceLE, Int.reduceLT, Int.reduceNeg, Nat.reduceBEq, Nat.reduceMul, Nat.reduceLeDiff, Nat.reduceMod, UInt8.reduceOfNat, Nat.reduceLT, Int.reduceEq, Int.reduceAdd, Int.reduceSub, Int.reduceMul]
        refine ⟨by omega, ?_⟩
        refine xLoop_intro (fun k st => k = 0 ∧ st = ⟨[(0, .d (.v (.string ⟨#[97, 99, 100]⟩))), (7, .d (.v (.string ⟨q.toArray⟩))), (8, .d (.v (.int .i64 ((q.length : Int) - 1)))), (9, .d (.v (.int .i64 ((q.length : Int) - 1))))], 0, []⟩) 0 [] ?_ ?_ ?_
        · simp -dsimp -implicitDefEqProofs only [↓Ev.xStp_eq, ↓Ev.P, Ev.Q, Bool.cond_true, Bool.cond_false, eq_self, forall_eq_or_imp, implies_true, forall_const, forall_eq, ↓reduceIte, reduceIte, Nat.reduceEqDiff, Nat.reduceAdd, reduceCtorEq, Nat.reduceSub, Int.reduceToNat, Int.reduceLE, Int.reduceLT, Int.reduceNeg, Nat.reduceBEq, Nat.reduceMul, Nat.reduceLeDiff, Nat.reduceMod, UInt8.reduceOfNat, Nat.reduceLT, Int.reduceEq, Int.reduceAdd, Int.reduceSub, Int.reduceMul]
        · simp -dsimp -implicitDefEqProofs only [↓Ev.xStp_eq, ↓Ev.P, Ev.Q, Bool.cond_true, Bool.cond_false, eq_self, forall_eq_or_imp, implies_true, forall_const, forall_eq, ↓reduceIte, reduceIte, Nat.reduceEqDiff, Nat.reduceAdd, reduceCtorEq, Nat.reduceSub, Int.reduceToNat, Int.reduceLE, Int.reduceLT, Int.reduceNeg, Nat.reduceBEq, Nat.reduceMul, Nat.reduceLeDiff, Nat.reduceMod, UInt8.reduceOfNat, Nat.reduceLT, Int.reduceEq, Int.reduceAdd, Int.reduceSub, Int.reduceMul]
        · rintro k st ⟨rfl, rfl⟩
          have ib0 : ∀ c, Lib.indexByte [] c = -1 := fun _ => rfl
          have b100 : (UInt8.toNat 100) = 100 := rfl
          have b99 : (UInt8.toNat 99) = 99 := rfl
          by_cases h2 : q.length = 2
          · have e2 : ((q.length : Int) - 1) = 1 := by omega
            rw [h2] at q4
            simp only [Nat.add_one_sub_one] at q4
            have hne : ¬ ((UInt8.toNat 99 : Nat) : Int) = ((q.getD 1 0).toNat : Int) := by rw [b99]; omega
            have ib1 : Lib.indexByte [100] (q.getD 1 0) = -1 := by
              have h9 : (100 : UInt8) ≠ q.getD 1 0 := fun e => by rw [← e] at q4; revert q4; decide
              simpa [Lib.indexByte] using h9
            simp -dsimp -implicitDefEqProofs only [e2, e1, hne, ib0, ib1, UInt8.ofNat_toNat, C163, ↓Ev.xStp_eq, ↓Ev.P, Ev.Q, Bool.cond_true, Bool.cond_false, eq_self, forall_eq_or_imp, implies_true, forall_const, forall_eq, ↓reduceIte, reduceIte, Nat.reduceEqDiff, Nat.reduceAdd, reduceCtorEq, Nat.reduceSub, Int.reduceToNat, Int.reduceLE, Int.reduceLT, Int.reduceNeg, Nat.reduceBEq, Nat.reduceMul, Nat.reduceLeDiff, Nat.reduceMod, UInt8.reduceOfNat, Nat.reduceLT, Int.reduceEq, Int.reduceAdd, Int.reduceSub, Int.reduceMul]
            repeat' (first | with_reducible assumption | refine And.intro ?_ ?_ | intro _)
            all_goals first | omega | exact hk | skip
          · by_cases h3 : q.length = 3
            · have e2 : ((q.length : Int) - 1) = 2 := by omega
              rw [h3] at q4
              simp only [Nat.add_one_sub_one] at q4
              have hne : ¬ ((UInt8.toNat 100 : Nat) : Int) = ((q.getD 2 0).toNat : Int) := by rw [b100]; omega
              simp -dsimp -implicitDefEqProofs only [e2, e1, hne, ib0, C163, ↓Ev.xStp_eq, ↓Ev.P, Ev.Q, Bool.cond_true, Bool.cond_false, eq_self, forall_eq_or_imp, implies_true, forall_const, forall_eq, ↓reduceIte, reduceIte, Nat.reduceEqDiff, Nat.reduceAdd, reduceCtorEq, Nat.reduceSub, Int.reduceToNat, Int.reduceLE, Int.reduceLT, Int.reduceNeg, Nat.reduceBEq, Nat.reduceMul, Nat.reduceLeDiff, Nat.reduceMod, UInt8.reduceOfNat, Nat.reduceLT, Int.reduceEq, Int.reduceAdd, Int.reduceSub, Int.reduceMul]
              repeat' (first | with_reducible assumption | refine And.intro ?_ ?_ | intro _)
              all_goals first | omega | exact hk | skip
            · have e2 : ¬ ((q.length : Int) - 1) < 3 := by omega
              simp -dsimp -implicitDefEqProofs only [e2, e1, ↓Ev.xStp_eq, ↓Ev.P, Ev.Q, Bool.cond_true, Bool.cond_false, eq_self, forall_eq_or_imp, implies_true, forall_const, forall_eq, ↓reduceIte, reduceIte, Nat.reduceEqDiff, Nat.reduceAdd, reduceCtorEq, Nat.reduceSub, Int.reduceToNat, Int.reduceLE, Int.reduceLT, Int.reduceNeg, Nat.reduceBEq, Nat.reduceMul, Nat.reduceLeDiff, Nat.reduceMod, UInt8.reduceOfNat, Nat.reduceLT, Int.reduceEq, Int.reduceAdd, Int.reduceSub, Int.reduceMul]
              exact hk
end Go.Proofs.YtlghobefhmpfkaaGreatDoor
set_option linter.unusedVariables false
set_option linter.unusedSimpArgs false
namespace Go.Proofs.YtlghobefhmpfkaaGreatDoor
open Go Go.Ev
set_option maxRecDepth 100000
variable {G : World → Prop}
def idxB (l : List UInt8) : Int := if (l.takeWhile fun c => !blk c).length < l.length then ((l.takeWhile fun c => !blk c).length : Int) else -1
theorem tw_of (l : List UInt8) (i : Nat) (h : i < l.length) (hb : blk (l.getD i 0) = true) (hn : ∀ j, j < i → blk (l.getD j 0) = false) : (l.takeWhile fun c => !blk c).length = i := by
  induction l generalizing i with
  | nil => simp at h
  | cons c r ih =>
    cases i with
    | zero => simp at hb; simp [List.takeWhile_cons, hb]
    | succ i =>
      have h0 := hn 0 (by omega)
      simp only [List.getD_cons_zero] at h0
      simp only [List.takeWhile_cons, h0, Bool.not_false, if_true, List.length_cons]
      rw [ih i (by simpa using h) (by simpa using hb) (fun j hj => by have := hn (j + 1) (by omega); simpa using this)]
theorem tw_none (l : List UInt8) (hn : ∀ j, j < l.length → blk (l.getD j 0) = false) : (l.takeWhile fun c => !blk c).length = l.length := by
  induction l with
  | nil => rfl
  | cons c r ih =>
    have h0 := hn 0 (by simp)
    simp only [List.getD_cons_zero] at h0
    simp only [List.takeWhile_cons, h0, Bool.not_false, if_true, List.length_cons]
    rw [ih fun j hj => by have := hn (j + 1) (by simp; omega); simpa using this]
theorem idxB_at {l : List UInt8} {i : Nat} (h : i < l.length) (hb : blk (l.getD i 0) = true) (hn : ∀ j, j < i → blk (l.getD j 0) = false) : idxB l = i := by
  rw [idxB, tw_of l i h hb hn, if_pos h]
theorem idxB_no {l : List UInt8} (hn : ∀ j, j < l.length → blk (l.getD j 0) = false) : idxB l = -1 := by
  rw [idxB, tw_none l hn, if_neg (Nat.lt_irrefl _)]
theorem blk_high {c : UInt8} (h : 128 ≤ c.toNat) : blk c = false := by
  unfold blk
  rw [decide_eq_false (by rintro rfl; revert h; decide), decide_eq_false (by rintro rfl; revert h; decide), decide_eq_false (by rintro rfl; revert h; decide)]; rfl
theorem get_bang (l : List UInt8) (k : Nat) : (ByteArray.mk l.toArray).get! k = l.getD k 0 := by
  show (l.toArray)[k]! = _
  rw [List.getElem!_toArray, List.getElem!_eq_getElem?_getD, List.getD_eq_getElem?_getD]; rfl
theorem dec_skip (l : List UInt8) (p : Nat) (hp : p < l.length) : 1 ≤ (Utf8.decode ⟨l.toArray⟩ p).2 ∧ p + (Utf8.decode ⟨l.toArray⟩ p).2 ≤ l.length ∧ ∀ j, 1 ≤ j → j < (Utf8.decode ⟨l.toArray⟩ p).2 → 128 ≤ (l.getD (p + j) 0).toNat := by
  have hsz : (ByteArray.mk l.toArray).size = l.length := rfl
  unfold Utf8.decode
  simp only [get_bang, hsz]
  have c1 : ∀ j, j < 1 → 1 ≤ j → 128 ≤ (l.getD (p + j) 0).toNat := fun j h1 h2 => by omega
  split
  · exact ⟨by simp, by simp; omega, fun j a b => c1 j b a⟩
  · split
    · rename_i h
      simp only [Bool.and_eq_true, decide_eq_true_eq, beq_iff_eq] at h
      split
      · refine ⟨by simp, by simp; omega, fun j a b => ?_⟩
        obtain rfl : j = 1 := by simp at b; omega
        omega
      · exact ⟨by simp, by simp; omega, fun j a b => c1 j b a⟩
    · split
      · rename_i h
        simp only [Bool.and_eq_true, decide_eq_true_eq, beq_iff_eq] at h
        split
        · refine ⟨by simp, by simp; omega, fun j a b => ?_⟩
          have hj : j = 1 ∨ j = 2 := by simp at b; omega
          rcases hj with rfl | rfl <;> omega
        · exact ⟨by simp, by simp; omega, fun j a b => c1 j b a⟩
      · split
        · rename_i h
          simp only [Bool.and_eq_true, decide_eq_true_eq, beq_iff_eq] at h
          split
          · refine ⟨by simp, by simp; omega, fun j a b => ?_⟩
            have hj : j = 1 ∨ j = 2 ∨ j = 3 := by simp at b; omega
            rcases hj with rfl | rfl | rfl <;> omega
          · exact ⟨by simp, by simp; omega, fun j a b => c1 j b a⟩
        · exact ⟨by simp, by simp; omega, fun j a b => c1 j b a⟩
theorem dec_max (s : ByteArray) (pos : Nat) : (Utf8.decode s pos).1 ≤ 1114111 := by
  have hb : ∀ k, (s.get! (pos + k)).toNat < 256 := fun k => (s.get! (pos + k)).toNat_lt
  have h0 := hb 0; have h1 := hb 1; have h2 := hb 2; have h3 := hb 3
  simp only [Utf8.decode]
  repeat' split
  all_goals simp_all [Utf8.runeError, Utf8.valid]
  all_goals omega
theorem dec_blk (l : List UInt8) (p : Nat) (hp : p < l.length) : ((Utf8.decode ⟨l.toArray⟩ p).1 : Int) ≤ 1114111 ∧ (blk (l.getD p 0) = true → 0 ≤ idxR (Utf8.decode ⟨l.toArray⟩ p).1) ∧ (blk (l.getD p 0) = false → idxR (Utf8.decode ⟨l.toArray⟩ p).1 = -1) := by
  have hs : p < (⟨l.toArray⟩ : ByteArray).size := hp
  have hg : (⟨l.toArray⟩ : ByteArray)[p]'hs = l.getD p 0 := by
    simp [List.getD_eq_getElem?_getD, List.getElem?_eq_getElem hp]
    rfl
  by_cases ha : ((⟨l.toArray⟩ : ByteArray)[p]'hs).toNat < 128
  · have := decode_ascii _ p hs ha
    rw [hg] at this ha
    rw [this]
    have : ∀ n : Fin 128, (blk (UInt8.ofNat n.val) = true → 0 ≤ idxR ((n.val : Nat) : Int)) ∧ (blk (UInt8.ofNat n.val) = false → idxR ((n.val : Nat) : Int) = -1) := by decide +kernel
    have h2 := this ⟨(l.getD p 0).toNat, ha⟩
    simp only [UInt8.ofNat_toNat] at h2
    exact ⟨by simp only; omega, h2⟩
  · have h2 := (decode_high _ p hs (by omega)).1
    rw [hg] at ha
    have hb := blk_high (c := l.getD p 0) (by omega)
    refine ⟨?_, fun h => ?_, fun _ => ?_⟩
    · exact Int.ofNat_le.2 (dec_max _ p)
    · rw [hb] at h; cases h
    · unfold idxR; rw [if_neg (by omega), if_neg (by omega), if_neg (by omega)]
end Go.Proofs.YtlghobefhmpfkaaGreatDoor
set_option linter.unusedVariables false
set_option linter.unusedSimpArgs false
namespace Go.Proofs.YtlghobefhmpfkaaGreatDoor
open Go Go.Ev
set_option maxRecDepth 100000
variable {G : World → Prop}
def CIdxA : Contract := pureC fun args => match args with
  | [.d (.v (.string s)), .d (.v (.string p))] => some (s.size ≤ 1099511627776 ∧ p.data.toList = [97, 99, 100], .d (.v (.int .i64 (idxB s.data.toList))))
  | _ => none
theorem s157 : Sound G Tryz.prog 157 (pureC fun args => match args with
  | [.d (.v (.int .i64 n))] => some (True, .d (.v (.bool (decide (8 < n)))))
  | _ => none) := by
  refine sd157 (T := tabT []) tab_nil (pureC_lawful _) (pure_hX fun args p x K h hp hk => ?_)
  split at h <;> simp only [Option.some.injEq, Prod.mk.injEq, reduceCtorEq] at h
  obtain ⟨rfl, rfl⟩ := h
  refine ⟨Nat.le_of_ble_eq_true rfl, ?_⟩
  simp -dsimp -implicitDefEqProofs only [S157, R157, ↓Ev.xStp_eq, ↓Ev.P, Ev.Q, Bool.cond_true, Bool.cond_false, eq_self, forall_eq_or_imp, implies_true, forall_const, forall_eq, ↓reduceIte, reduceIte, Nat.reduceEqDiff, Nat.reduceAdd, reduceCtorEq, Nat.reduceSub, Int.reduceToNat, Int.reduceLE, Int.reduceLT, Int.reduceNeg, Nat.reduceBEq, Nat.reduceMul, Nat.reduceLeDiff, Nat.reduceMod, UInt8.reduceOfNat, Nat.reduceLT, Int.reduceEq, Int.reduceAdd, Int.reduceSub, Int.reduceMul]
  exact hk
theorem empty2 : ((⟨#[97, 99, 100]⟩ : ByteArray) = ⟨#[]⟩) = False := by decide
set_option maxHeartbeats 2000000 in
theorem s109 : Sound G Tryz.prog 109 CIdxA := by
  refine sd109 (T := tabT [(158, CMk), (159, CCon), (156, CIdxR), (157, pureC fun args => match args with
  | [.d (.v (.int .i64 n))] => some (True, .d (.v (.bool (decide (8 < n)))))
  | _ => none)]) (tab_cons sMk (tab_cons sCon (tab_cons s156 (tab_cons s157 tab_nil)))) (pureC_lawful _) (pure_hX fun args p x K h hp hk => ?_)
  split at h <;> simp only [Option.some.injEq, Prod.mk.injEq, reduceCtorEq] at h
  obtain ⟨rfl, rfl⟩ := h
  refine ⟨Nat.le_of_ble_eq_true rfl, ?_⟩
  rename_i s p
  obtain ⟨s, rfl⟩ := ex_str s
  obtain ⟨p, rfl⟩ := ex_str p
  simp only [sem_str] at hk hp
  obtain ⟨h1, rfl⟩ := hp
  have e1 : ((3 : Nat) : Int) = 3 := rfl
  have e2 : ((3 : Int) = 1) = False := by decide
  by_cases h8 : (8 : Int) < (s.length : Int)
  · simp -dsimp -implicitDefEqProofs only [S109, R109, CMk, CCon, CIdxR, empty2, e1, e2, h8, setL_ren, setL_ids, setL_len, ↓Ev.xStp_eq, ↓Ev.P, Ev.Q, Bool.cond_true, Bool.cond_false, eq_self, forall_eq_or_imp, implies_true, forall_const, forall_eq, ↓reduceIte, reduceIte, Nat.reduceEqDiff, Nat.reduceAdd, reduceCtorEq, Nat.reduceSub, Int.reduceToNat, Int.reduceLE, Int.reduceLT, Int.reduceNeg, Nat.reduceBEq, Nat.reduceMul, Nat.reduceLeDiff, Nat.reduceMod, UInt8.reduceOfNat, Nat.reduceLT, Int.reduceEq, Int.reduceAdd, Int.reduceSub, Int.reduceMul]
    refine xLoop_intro (fun k st => ∃ i : Nat, i ≤ s.length ∧ k = s.length - i ∧ (∀ j, j < i → blk (s.getD j 0) = false) ∧
      st = ⟨[(0, .d (.v (.string ⟨s.toArray⟩))), (6, .ptr 0 0), (8, .d (.v (.int .i64 i)))], 1, [(0, .cells 215 setL)]⟩) s.length [0] ?_ ?_ ?_
    · simp -dsimp -implicitDefEqProofs only [↓Ev.xStp_eq, ↓Ev.P, Ev.Q, Bool.cond_true, Bool.cond_false, eq_self, forall_eq_or_imp, implies_true, forall_const, forall_eq, ↓reduceIte, reduceIte, Nat.reduceEqDiff, Nat.reduceAdd, reduceCtorEq, Nat.reduceSub, Int.reduceToNat, Int.reduceLE, Int.reduceLT, Int.reduceNeg, Nat.reduceBEq, Nat.reduceMul, Nat.reduceLeDiff, Nat.reduceMod, UInt8.reduceOfNat, Nat.reduceLT, Int.reduceEq, Int.reduceAdd, Int.reduceSub, Int.reduceMul]
    · simp -dsimp -implicitDefEqProofs only [setL_ren, ↓Ev.xStp_eq, ↓Ev.P, Ev.Q, Bool.cond_true, Bool.cond_false, eq_self, forall_eq_or_imp, implies_true, forall_const, forall_eq, ↓reduceIte, reduceIte, Nat.reduceEqDiff, Nat.reduceAdd, reduceCtorEq, Nat.reduceSub, Int.reduceToNat, Int.reduceLE, Int.reduceLT, Int.reduceNeg, Nat.reduceBEq, Nat.reduceMul, Nat.reduceLeDiff, Nat.reduceMod, UInt8.reduceOfNat, Nat.reduceLT, Int.reduceEq, Int.reduceAdd, Int.reduceSub, Int.reduceMul]
      exact ⟨0, by omega, by omega, fun j hj => by omega, rfl⟩
    · rintro k st ⟨i, hi, hk2, hj, rfl⟩
      by_cases hil : i < s.length
      · have hi3 : (i : Int) < s.length := by omega
        have hu : (0 : Int) ≤ ((s.getD i 0).toNat : Int) ∧ ((s.getD i 0).toNat : Int) < 256 := ⟨by omega, by have := (s.getD i 0).toNat_lt; omega⟩
        cases hb : blk (s.getD i 0) with
        | true =>
          rw [idxB_at hil hb hj] at hk
          simp -dsimp -implicitDefEqProofs only [hi3, CCon, setL_ren, setL_ids, blk_int, hb, hu, ↓Ev.xStp_eq, ↓Ev.P, Ev.Q, Bool.cond_true, Bool.cond_false, eq_self, forall_eq_or_imp, implies_true, forall_const, forall_eq, ↓reduceIte, reduceIte, Nat.reduceEqDiff, Nat.reduceAdd, reduceCtorEq, Nat.reduceSub, Int.reduceToNat, Int.reduceLE, Int.reduceLT, Int.reduceNeg, Nat.reduceBEq, Nat.reduceMul, Nat.reduceLeDiff, Nat.reduceMod, UInt8.reduceOfNat, Nat.reduceLT, Int.reduceEq, Int.reduceAdd, Int.reduceSub, Int.reduceMul]
          repeat' (first | with_reducible assumption | refine And.intro ?_ ?_ | intro _)
          all_goals first | omega | exact hk | skip
        | false =>
          simp -dsimp -implicitDefEqProofs only [hi3, CCon, setL_ren, setL_ids, blk_int, hb, hu, ↓Ev.xStp_eq, ↓Ev.P, Ev.Q, Bool.cond_true, Bool.cond_false, eq_self, forall_eq_or_imp, implies_true, forall_const, forall_eq, ↓reduceIte, reduceIte, Nat.reduceEqDiff, Nat.reduceAdd, reduceCtorEq, Nat.reduceSub, Int.reduceToNat, Int.reduceLE, Int.reduceLT, Int.reduceNeg, Nat.reduceBEq, Nat.reduceMul, Nat.reduceLeDiff, Nat.reduceMod, UInt8.reduceOfNat, Nat.reduceLT, Int.reduceEq, Int.reduceAdd, Int.reduceSub, Int.reduceMul]
          repeat' (first | with_reducible assumption | refine And.intro ?_ ?_ | intro _)
          all_goals try omega
          refine xAgain_intro (s.length - (i + 1)) [0] (by omega) (by simp -dsimp -implicitDefEqProofs only [↓Ev.xStp_eq, ↓Ev.P, Ev.Q, Bool.cond_true, Bool.cond_false, eq_self, forall_eq_or_imp, implies_true, forall_const, forall_eq, ↓reduceIte, reduceIte, Nat.reduceEqDiff, Nat.reduceAdd, reduceCtorEq, Nat.reduceSub, Int.reduceToNat, Int.reduceLE, Int.reduceLT, Int.reduceNeg, Nat.reduceBEq, Nat.reduceMul, Nat.reduceLeDiff, Nat.reduceMod, UInt8.reduceOfNat, Nat.reduceLT, Int.reduceEq, Int.reduceAdd, Int.reduceSub, Int.reduceMul]) ⟨i + 1, by omega, rfl, fun j hj2 => ?_, ?_⟩
          · by_cases e : j = i
            · rw [e]; exact hb
            · exact hj j (by omega)
          · simp -dsimp -implicitDefEqProofs only [setL_ren, ↓Ev.xStp_eq, ↓Ev.P, Ev.Q, Bool.cond_true, Bool.cond_false, eq_self, forall_eq_or_imp, implies_true, forall_const, forall_eq, ↓reduceIte, reduceIte, Nat.reduceEqDiff, Nat.reduceAdd, reduceCtorEq, Nat.reduceSub, Int.reduceToNat, Int.reduceLE, Int.reduceLT, Int.reduceNeg, Nat.reduceBEq, Nat.reduceMul, Nat.reduceLeDiff, Nat.reduceMod, UInt8.reduceOfNat, Nat.reduceLT, Int.reduceEq, Int.reduceAdd, Int.reduceSub, Int.reduceMul]
            rfl
      · have hi3 : ¬ (i : Int) < s.length := by omega
        rw [idxB_no fun j hj2 => hj j (by omega)] at hk
        simp -dsimp -implicitDefEqProofs only [hi3, ↓Ev.xStp_eq, ↓Ev.P, Ev.Q, Bool.cond_true, Bool.cond_false, eq_self, forall_eq_or_imp, implies_true, forall_const, forall_eq, ↓reduceIte, reduceIte, Nat.reduceEqDiff, Nat.reduceAdd, reduceCtorEq, Nat.reduceSub, Int.reduceToNat, Int.reduceLE, Int.reduceLT, Int.reduceNeg, Nat.reduceBEq, Nat.reduceMul, Nat.reduceLeDiff, Nat.reduceMod, UInt8.reduceOfNat, Nat.reduceLT, Int.reduceEq, Int.reduceAdd, Int.reduceSub, Int.reduceMul]
        exact hk
  · simp -dsimp -implicitDefEqProofs only [S109, R109, CMk, CCon, CIdxR, empty2, e1, e2, h8, setL_ren, setL_ids, setL_len, ↓Ev.xStp_eq, ↓Ev.P, Ev.Q, Bool.cond_true, Bool.cond_false, eq_self, forall_eq_or_imp, implies_true, forall_const, forall_eq, ↓reduceIte, reduceIte, Nat.reduceEqDiff, Nat.reduceAdd, reduceCtorEq, Nat.reduceSub, Int.reduceToNat, Int.reduceLE, Int.reduceLT, Int.reduceNeg, Nat.reduceBEq, Nat.reduceMul, Nat.reduceLeDiff, Nat.reduceMod, UInt8.reduceOfNat, Nat.reduceLT, Int.reduceEq, Int.reduceAdd, Int.reduceSub, Int.reduceMul]
    refine xLoop_intro (fun k st => ∃ i : Nat, i ≤ s.length ∧ k = s.length - i ∧ (∀ j, j < i → blk (s.getD j 0) = false) ∧
      st = ⟨[(1, .d (.v (.string ⟨#[97, 99, 100]⟩))), (45, .own 0)], 1, [(0, .iter ⟨s.toArray⟩ i)]⟩) s.length [0] ?_ ?_ ?_
    · simp -dsimp -implicitDefEqProofs only [↓Ev.xStp_eq, ↓Ev.P, Ev.Q, Bool.cond_true, Bool.cond_false, eq_self, forall_eq_or_imp, implies_true, forall_const, forall_eq, ↓reduceIte, reduceIte, Nat.reduceEqDiff, Nat.reduceAdd, reduceCtorEq, Nat.reduceSub, Int.reduceToNat, Int.reduceLE, Int.reduceLT, Int.reduceNeg, Nat.reduceBEq, Nat.reduceMul, Nat.reduceLeDiff, Nat.reduceMod, UInt8.reduceOfNat, Nat.reduceLT, Int.reduceEq, Int.reduceAdd, Int.reduceSub, Int.reduceMul]
    · simp -dsimp -implicitDefEqProofs only [↓Ev.xStp_eq, ↓Ev.P, Ev.Q, Bool.cond_true, Bool.cond_false, eq_self, forall_eq_or_imp, implies_true, forall_const, forall_eq, ↓reduceIte, reduceIte, Nat.reduceEqDiff, Nat.reduceAdd, reduceCtorEq, Nat.reduceSub, Int.reduceToNat, Int.reduceLE, Int.reduceLT, Int.reduceNeg, Nat.reduceBEq, Nat.reduceMul, Nat.reduceLeDiff, Nat.reduceMod, UInt8.reduceOfNat, Nat.reduceLT, Int.reduceEq, Int.reduceAdd, Int.reduceSub, Int.reduceMul]
      exact ⟨0, by omega, by omega, fun j hj => by omega, rfl⟩
    · rintro k st ⟨i, hi, hk2, hj, rfl⟩
      by_cases hil : i < s.length
      · obtain ⟨b1, b2, b3⟩ := dec_blk s i hil
        obtain ⟨c1, c2, c3⟩ := dec_skip s i hil
        have b0 : (0 : Int) ≤ ((Utf8.decode ⟨s.toArray⟩ i).1 : Int) := by omega
        cases hb : blk (s.getD i 0) with
        | true =>
          rw [idxB_at hil hb hj] at hk
          have b2 := b2 hb
          simp -dsimp -implicitDefEqProofs only [hil, CIdxR, b0, b1, b2, ↓Ev.xStp_eq, ↓Ev.P, Ev.Q, Bool.cond_true, Bool.cond_false, eq_self, forall_eq_or_imp, implies_true, forall_const, forall_eq, ↓reduceIte, reduceIte, Nat.reduceEqDiff, Nat.reduceAdd, reduceCtorEq, Nat.reduceSub, Int.reduceToNat, Int.reduceLE, Int.reduceLT, Int.reduceNeg, Nat.reduceBEq, Nat.reduceMul, Nat.reduceLeDiff, Nat.reduceMod, UInt8.reduceOfNat, Nat.reduceLT, Int.reduceEq, Int.reduceAdd, Int.reduceSub, Int.reduceMul]
          repeat' (first | with_reducible assumption | refine And.intro ?_ ?_ | intro _)
          all_goals first | omega | exact hk | skip
        | false =>
          have b3 := b3 hb
          simp -dsimp -implicitDefEqProofs only [hil, CIdxR, b0, b1, b3, ↓Ev.xStp_eq, ↓Ev.P, Ev.Q, Bool.cond_true, Bool.cond_false, eq_self, forall_eq_or_imp, implies_true, forall_const, forall_eq, ↓reduceIte, reduceIte, Nat.reduceEqDiff, Nat.reduceAdd, reduceCtorEq, Nat.reduceSub, Int.reduceToNat, Int.reduceLE, Int.reduceLT, Int.reduceNeg, Nat.reduceBEq, Nat.reduceMul, Nat.reduceLeDiff, Nat.reduceMod, UInt8.reduceOfNat, Nat.reduceLT, Int.reduceEq, Int.reduceAdd, Int.reduceSub, Int.reduceMul]
          repeat' (first | with_reducible assumption | refine And.intro ?_ ?_ | intro _)
          all_goals try omega
          refine xAgain_intro (s.length - (i + (Utf8.decode ⟨s.toArray⟩ i).2)) [0] (by omega) (by simp -dsimp -implicitDefEqProofs only [↓Ev.xStp_eq, ↓Ev.P, Ev.Q, Bool.cond_true, Bool.cond_false, eq_self, forall_eq_or_imp, implies_true, forall_const, forall_eq, ↓reduceIte, reduceIte, Nat.reduceEqDiff, Nat.reduceAdd, reduceCtorEq, Nat.reduceSub, Int.reduceToNat, Int.reduceLE, Int.reduceLT, Int.reduceNeg, Nat.reduceBEq, Nat.reduceMul, Nat.reduceLeDiff, Nat.reduceMod, UInt8.reduceOfNat, Nat.reduceLT, Int.reduceEq, Int.reduceAdd, Int.reduceSub, Int.reduceMul]) ⟨i + (Utf8.decode ⟨s.toArray⟩ i).2, by omega, rfl, fun j hj2 => ?_, ?_⟩
          · by_cases e : j < i
            · exact hj j e
            · by_cases e2 : j = i
              · rw [e2]; exact hb
              · have := c3 (j - i) (by omega) (by omega)
                rw [show i + (j - i) = j by omega] at this
                exact blk_high this
          · simp -dsimp -implicitDefEqProofs only [↓Ev.xStp_eq, ↓Ev.P, Ev.Q, Bool.cond_true, Bool.cond_false, eq_self, forall_eq_or_imp, implies_true, forall_const, forall_eq, ↓reduceIte, reduceIte, Nat.reduceEqDiff, Nat.reduceAdd, reduceCtorEq, Nat.reduceSub, Int.reduceToNat, Int.reduceLE, Int.reduceLT, Int.reduceNeg, Nat.reduceBEq, Nat.reduceMul, Nat.reduceLeDiff, Nat.reduceMod, UInt8.reduceOfNat, Nat.reduceLT, Int.reduceEq, Int.reduceAdd, Int.reduceSub, Int.reduceMul]
      · rw [idxB_no fun j hj2 => hj j (by omega)] at hk
        simp -dsimp -implicitDefEqProofs only [hil, ↓Ev.xStp_eq, ↓Ev.P, Ev.Q, Bool.cond_true, Bool.cond_false, eq_self, forall_eq_or_imp, implies_true, forall_const, forall_eq, ↓reduceIte, reduceIte, Nat.reduceEqDiff, Nat.reduceAdd, reduceCtorEq, Nat.reduceSub, Int.reduceToNat, Int.reduceLE, Int.reduceLT, Int.reduceNeg, Nat.reduceBEq, Nat.reduceMul, Nat.reduceLeDiff, Nat.reduceMod, UInt8.reduceOfNat, Nat.reduceLT, Int.reduceEq, Int.reduceAdd, Int.reduceSub, Int.reduceMul]
        exact hk
theorem blk_isV (c : UInt8) : blk c = isV c := rfl
theorem tw_fst : ∀ l : List UInt8, (l.takeWhile fun c => !blk c).length = fstV l
  | [] => rfl
  | c :: r => by
    rw [fstV, List.takeWhile_cons, blk_isV]
    cases h : isV c with
    | true => simp
    | false => simp [tw_fst r]
theorem sIdxV : Sound G Tryz.prog 109 CIdxV := by
  have : CIdxA = CIdxV := by
    unfold CIdxA CIdxV
    congr 1
    funext args
    split
    · rename_i s p
      simp only [idxB, tw_fst]
    · rename_i hne
      split
      · exact (hne _ _ rfl).elim
      · rfl
  rw [← this]
  exact s109
end Go.Proofs.YtlghobefhmpfkaaGreatDoor
set_option linter.unusedVariables false
set_option linter.unusedSimpArgs false
namespace Go.Proofs.YtlghobefhmpfkaaGreatDoor
open Go.RowKit Go.Extern.Stop Go.Stop Go.Extern Go
def ErrT (w : World) : Prop := w.cell? ⟨0, 0, none⟩ = some (.iface 199 (.agg #[.pointer (some ⟨9, 24, none⟩)]))
theorem rlm (z : Sem Value) (f : TypeId → Addr → Nat → Nat → Sem Value) (v : Value) :
    ReflectliteValue.method z f #[v] = (do match ← ReflectliteValue.parts v with | none => z | some (t, a, fl) => f t a fl (fl % 32)) := rfl
theorem rls (v x : Value) : ReflectliteValue.set #[v, x] = (do
    let (some (dst, a, fl), some (src, b, _)) := (← ReflectliteValue.parts v, ← ReflectliteValue.parts x)
      | unsupported (.noEntry "extern/(internal/reflectlite.Value).Set.zeroValue")
    if fl / ReflectliteValue.flagAddr % 2 == 0 then unsupported (.noEntry "extern/(internal/reflectlite.Value).Set.unaddressable")
    let val ← loadVar src b
    if ← Rtype.directlyAssignable dst src then storeVar dst a val
    else if ← Rtype.implements dst src then
      if (← Rtype.kind src) == 20 then
        match val with
        | .nilIface => unsupported (.noEntry "extern/reflectlite: a nil value of one interface type handed on as a value of another")
        | _ => storeVar dst a val
      else storeVar dst a (.iface src val)
    else panicString ("reflectlite.Set: value of type " ++ (← Rtype.spelt src) ++ " is not assignable to type " ++ (← Rtype.spelt dst))
    pure (.tuple #[])) := rfl
theorem mKind (h : Value) (w : World) : (Go.method 423 199 (.agg #[h]) "Kind").run Tryz.prog w = .ok (249, h) w := by kernel_rfl
theorem mElem (h : Value) (w : World) : (Go.method 423 199 (.agg #[h]) "Elem").run Tryz.prog w = .ok (262, .agg #[h]) w := by kernel_rfl
theorem mImplements (h : Value) (w : World) : (Go.method 423 199 (.agg #[h]) "Implements").run Tryz.prog w = .ok (263, .agg #[h]) w := by kernel_rfl
theorem mAssignableTo (h : Value) (w : World) : (Go.method 423 199 (.agg #[h]) "AssignableTo").run Tryz.prog w = .ok (260, .agg #[h]) w := by kernel_rfl
theorem valueOfP_flt (t : Addr) (w : World) : (ReflectliteValue.unpack (.iface 81 (.pointer (some t)))).run Tryz.prog w
    = .ok (.agg #[.pointer (some ⟨9, 81, none⟩), .pointer (some ⟨w.heap.size, 0, none⟩), .int .u64 150]) (w.alloc (.cells #[.pointer (some t)] 81)) := by kernel_rfl
theorem typeP_flt (t : Addr) (w : World) : (ReflectliteValue.methodAny (ReflectliteValue.valueError "reflectlite.Value.Type" 0) (fun t _ _ _ => ReflectliteType.toType t) #[.agg #[.pointer (some ⟨9, 81, none⟩), .pointer (some t), .int .u64 150]]).run Tryz.prog w
    = .ok (.iface 199 (.agg #[.pointer (some ⟨9, 81, none⟩)])) w := by kernel_rfl
theorem kindP_flt (w : World) : ((ReflectliteType.abiMethod fun t => (fun a : Nat => Value.int IntKind.u8 (a : Int)) <$> Rtype.kind t) #[.pointer (some ⟨9, 81, none⟩)]).run Tryz.prog w = .ok (.int .u8 22) w := by kernel_rfl
theorem kindE_flt (w : World) : ((ReflectliteType.abiMethod fun t => (fun a : Nat => Value.int IntKind.u8 (a : Int)) <$> Rtype.kind t) #[.pointer (some ⟨9, 79, none⟩)]).run Tryz.prog w = .ok (.int .u8 22) w := by kernel_rfl
theorem partsP_flt (a : Addr) (w : World) : (ReflectliteValue.parts (.agg #[.pointer (some ⟨9, 81, none⟩), .pointer (some a), .int .u64 150])).run Tryz.prog w = .ok (some (81, a, 150)) w := by kernel_rfl
theorem isNilP_flt (a p : Addr) (W : World) (ha : W.cell? a = some (.pointer (some p))) :
    (ReflectliteValue.method (ReflectliteValue.valueError "reflectlite.Value.IsNil" 0) ReflectliteValue.isNil #[.agg #[.pointer (some ⟨9, 81, none⟩), .pointer (some a), .int .u64 150]]).run Tryz.prog W = .ok (.bool false) W := by
  rw [rlm]
  simp only [Sem.run_bind, partsP_flt, Result.andThen]
  simp [ReflectliteValue.isNil, loadVar, isAgg, underlying, Tryz.underlying81, ha, Result.andThen]
theorem elemP_flt (w : World) : (ReflectliteType.method ReflectliteType.elem #[.agg #[.pointer (some ⟨9, 81, none⟩)]]).run Tryz.prog w = .ok (.iface 199 (.agg #[.pointer (some ⟨9, 79, none⟩)])) w := by kernel_rfl
theorem implE_flt (w : World) : (ReflectliteType.relation "Implements" ReflectliteType.implements_ #[.agg #[.pointer (some ⟨9, 79, none⟩)], .iface 199 (.agg #[.pointer (some ⟨9, 24, none⟩)])]).run Tryz.prog w = .ok (.bool true) w := by kernel_rfl
theorem typeOf_flt (v : Value) (w : World) : (ReflectliteType.typeOf #[.iface 79 v]).run Tryz.prog w = .ok (.iface 199 (.agg #[.pointer (some ⟨9, 79, none⟩)])) w := by kernel_rfl
theorem assign_flt (w : World) : (ReflectliteType.relation "AssignableTo" ReflectliteType.assignableTo #[.agg #[.pointer (some ⟨9, 79, none⟩)], .iface 199 (.agg #[.pointer (some ⟨9, 79, none⟩)])]).run Tryz.prog w = .ok (.bool true) w := by kernel_rfl
theorem valueOf_flt (e : Addr) (w : World) : (ReflectliteValue.unpack (.iface 79 (.pointer (some e)))).run Tryz.prog w
    = .ok (.agg #[.pointer (some ⟨9, 79, none⟩), .pointer (some ⟨w.heap.size, 0, none⟩), .int .u64 150]) (w.alloc (.cells #[(.pointer (some e))] 79)) := by kernel_rfl
theorem elemOf_flt (w : World) : (Rtype.elem? 81).run Tryz.prog w = .ok (some 79) w := by kernel_rfl
theorem mkE_flt (p : Addr) (w : World) : (ReflectliteValue.mk 79 p ReflectliteValue.flagAddr).run Tryz.prog w = .ok (.agg #[.pointer (some ⟨9, 79, none⟩), .pointer (some p), .int .u64 406]) w := by kernel_rfl
theorem elemV_flt (a p : Addr) (W : World) (ha : W.cell? a = some (.pointer (some p))) :
    (ReflectliteValue.method (ReflectliteValue.valueError "reflectlite.Value.Elem" 0) ReflectliteValue.elem #[.agg #[.pointer (some ⟨9, 81, none⟩), .pointer (some a), .int .u64 150]]).run Tryz.prog W
      = .ok (.agg #[.pointer (some ⟨9, 79, none⟩), .pointer (some p), .int .u64 406]) W := by
  rw [rlm]
  simp only [Sem.run_bind, partsP_flt, Result.andThen]
  simp [ReflectliteValue.elem, loadVar, isAgg, underlying, Tryz.underlying81, ha, Result.andThen, elemOf_flt, mkE_flt]
theorem partsA_flt (a : Addr) (w : World) : (ReflectliteValue.parts (.agg #[.pointer (some ⟨9, 79, none⟩), .pointer (some a), .int .u64 406])).run Tryz.prog w = .ok (some (79, a, 406)) w := by kernel_rfl
theorem partsB_flt (a : Addr) (w : World) : (ReflectliteValue.parts (.agg #[.pointer (some ⟨9, 79, none⟩), .pointer (some a), .int .u64 150])).run Tryz.prog w = .ok (some (79, a, 150)) w := by kernel_rfl
theorem direct_flt (w : World) : (Rtype.directlyAssignable 79 79).run Tryz.prog w = .ok true w := by kernel_rfl
theorem set_flt (ta b : Addr) (e : Addr) (old : Value) (W : World) (hb : W.cell? b = some (.pointer (some e))) (ht : W.cell? ta = some old) (hf : W.frozen? ta = false) :
    (ReflectliteValue.set #[.agg #[.pointer (some ⟨9, 79, none⟩), .pointer (some ta), .int .u64 406], .agg #[.pointer (some ⟨9, 79, none⟩), .pointer (some b), .int .u64 150]]).run Tryz.prog W
      = .ok (.tuple #[]) (W.setCell ta (.pointer (some e))) := by
  rw [rls]
  simp only [Sem.run_bind, partsA_flt, partsB_flt, Result.andThen]
  simp [ReflectliteValue.flagAddr, loadVar, isAgg, underlying, Tryz.underlying79, hb, Result.andThen, direct_flt, storeVar, Value.cells, storeCells, Addr.add]
  rw [run_store Tryz.prog W ta _ _ (by rfl)]
  simp [ht, hf]
set_option maxHeartbeats 4000000 in
theorem asHit_flt (e : Addr) (t : Addr) (old : Value) (w : World) (hg : ErrT w) (ht0 : w.cell? t = some old) (hf0 : w.frozen? t = false) :
    Calls Tryz.prog 45 #[.iface 79 (.pointer (some e)), .iface 81 (.pointer (some t))] w fun ev w' => ev = .returned (.bool true) ∧ w' = ((((w.alloc (.cells #[.pointer (some t)] 81)).alloc (.cells #[.pointer (some ⟨9, 81, none⟩), .pointer (some ⟨w.heap.size, 0, none⟩), .int .u64 150] 142)).alloc (.cells #[.pointer (some ⟨9, 81, none⟩), .pointer (some ⟨w.heap.size, 0, none⟩), .int .u64 150] 142)).alloc (.cells #[(.pointer (some e))] 79)).setCell t (.pointer (some e)) := by
  have h6 := @run_callFunc_extern Tryz.prog 91 _ (fun args => ReflectliteValue.unpack (args.getD 0 (.tuple #[]))) Tryz.func91 (by kernel_rfl) (by kernel_rfl) (by kernel_rfl) (by kernel_rfl)
  have h7 := @run_callFunc_extern Tryz.prog 92 _ (ReflectliteValue.methodAny (ReflectliteValue.valueError "reflectlite.Value.Type" 0) (fun t _ _ _ => ReflectliteType.toType t)) Tryz.func92 (by kernel_rfl) (by kernel_rfl) (by kernel_rfl) (by kernel_rfl)
  have h8 := @run_callFunc_extern Tryz.prog 93 _ (ReflectliteValue.method (ReflectliteValue.valueError "reflectlite.Value.IsNil" 0) ReflectliteValue.isNil) Tryz.func93 (by kernel_rfl) (by kernel_rfl) (by kernel_rfl) (by kernel_rfl)
  have h27 := @run_callFunc_extern Tryz.prog 249 _ (ReflectliteType.abiMethod fun t => do pure (.int .u8 (← Rtype.kind t))) Tryz.func249 (by kernel_rfl) (by kernel_rfl) (by kernel_rfl) (by kernel_rfl)
  have h37 := @run_callFunc_extern Tryz.prog 262 _ (ReflectliteType.method ReflectliteType.elem) Tryz.func262 (by kernel_rfl) (by kernel_rfl) (by kernel_rfl) (by kernel_rfl)
  have h38 := @run_callFunc_extern Tryz.prog 263 _ (ReflectliteType.relation "Implements" ReflectliteType.implements_) Tryz.func263 (by kernel_rfl) (by kernel_rfl) (by kernel_rfl) (by kernel_rfl)
  have h10 := @run_callFunc_extern Tryz.prog 150 _ ReflectliteType.typeOf Tryz.func150 (by kernel_rfl) (by kernel_rfl) (by kernel_rfl) (by kernel_rfl)
  have h35 := @run_callFunc_extern Tryz.prog 260 _ (ReflectliteType.relation "AssignableTo" ReflectliteType.assignableTo) Tryz.func260 (by kernel_rfl) (by kernel_rfl) (by kernel_rfl) (by kernel_rfl)
  have h11 := @run_callFunc_extern Tryz.prog 151 _ (ReflectliteValue.method (ReflectliteValue.valueError "reflectlite.Value.Elem" 0) ReflectliteValue.elem) Tryz.func151 (by kernel_rfl) (by kernel_rfl) (by kernel_rfl) (by kernel_rfl)
  have h12 := @run_callFunc_extern Tryz.prog 152 _ ReflectliteValue.set Tryz.func152 (by kernel_rfl) (by kernel_rfl) (by kernel_rfl) (by kernel_rfl)
  have f6 := valueOfP_flt
  have f7 := typeP_flt
  have tO := typeOf_flt
  have a25 := assign_flt
  have v25 := valueOf_flt
  have mA := mAssignableTo
  have mK := mKind
  have mE := mElem
  have mI := mImplements
  have k27 := kindP_flt
  have k25 := kindE_flt
  have e27 := elemP_flt
  have i25 := implE_flt
  have n8 := isNilP_flt ⟨w.heap.size, 0, none⟩ t ((w.alloc (.cells #[.pointer (some t)] 81)).alloc (.cells #[.pointer (some ⟨9, 81, none⟩), .pointer (some ⟨w.heap.size, 0, none⟩), .int .u64 150] 142)) (by simp)
  unfold ErrT at hg
  have hlt : 0 < w.heap.size := by
    rcases Nat.eq_zero_or_pos w.heap.size with h0 | h
    · simp [World.cell?, h0] at hg
    · exact h
  have hg2 : ((w.alloc (.cells #[.pointer (some t)] 81)).alloc (.cells #[.pointer (some ⟨9, 81, none⟩), .pointer (some ⟨w.heap.size, 0, none⟩), .int .u64 150] 142)).cell? ⟨0, 0, none⟩ = some (.iface 199 (.agg #[.pointer (some ⟨9, 24, none⟩)])) := by
    rw [World.cell?_alloc_lt _ _ ⟨0, 0, none⟩ (by simp), World.cell?_alloc_lt _ _ ⟨0, 0, none⟩ hlt]; exact hg
  have htl : t.block < w.heap.size := by
    rcases Nat.lt_or_ge t.block w.heap.size with h | h
    · exact h
    · simp [World.cell?, Array.getElem?_eq_none h] at ht0
  have el := elemV_flt ⟨w.heap.size, 0, none⟩ t (((w.alloc (.cells #[.pointer (some t)] 81)).alloc (.cells #[.pointer (some ⟨9, 81, none⟩), .pointer (some ⟨w.heap.size, 0, none⟩), .int .u64 150] 142)).alloc (.cells #[.pointer (some ⟨9, 81, none⟩), .pointer (some ⟨w.heap.size, 0, none⟩), .int .u64 150] 142)) (by rw [World.cell?_alloc_lt _ _ ⟨w.heap.size, 0, none⟩ (by simp; omega)]; simp)
  have st := set_flt t ⟨w.heap.size + 1 + 1 + 1, 0, none⟩ e old ((((w.alloc (.cells #[.pointer (some t)] 81)).alloc (.cells #[.pointer (some ⟨9, 81, none⟩), .pointer (some ⟨w.heap.size, 0, none⟩), .int .u64 150] 142)).alloc (.cells #[.pointer (some ⟨9, 81, none⟩), .pointer (some ⟨w.heap.size, 0, none⟩), .int .u64 150] 142)).alloc (.cells #[(.pointer (some e))] 79))
    (by rw [World.cell?_alloc_at _ _ _ _ (by simp)]; rfl)
    (by rw [World.cell?_alloc_lt _ _ t (by simp; omega), World.cell?_alloc_lt _ _ t (by simp; omega), World.cell?_alloc_lt _ _ t (by simp; omega), World.cell?_alloc_lt _ _ t htl]; exact ht0)
    (by rw [World.frozen?_alloc_old _ _ t (by simp; omega), World.frozen?_alloc_old _ _ t (by simp; omega), World.frozen?_alloc_old _ _ t (by simp; omega), World.frozen?_alloc_old _ _ t (Nat.ne_of_lt htl)]; exact hf0)
  go_enter Tryz.func45, Tryz.ntmps45
  go_wp2
  refine wp_loop_rounds 1 ?_
  rw [rounds_succ]
  go_wp2
  go_ret
  exact ⟨rfl, rfl⟩
theorem valueOfP_errno (t : Addr) (w : World) : (ReflectliteValue.unpack (.iface 84 (.pointer (some t)))).run Tryz.prog w
    = .ok (.agg #[.pointer (some ⟨9, 84, none⟩), .pointer (some ⟨w.heap.size, 0, none⟩), .int .u64 150]) (w.alloc (.cells #[.pointer (some t)] 84)) := by kernel_rfl
theorem typeP_errno (t : Addr) (w : World) : (ReflectliteValue.methodAny (ReflectliteValue.valueError "reflectlite.Value.Type" 0) (fun t _ _ _ => ReflectliteType.toType t) #[.agg #[.pointer (some ⟨9, 84, none⟩), .pointer (some t), .int .u64 150]]).run Tryz.prog w
    = .ok (.iface 199 (.agg #[.pointer (some ⟨9, 84, none⟩)])) w := by kernel_rfl
theorem kindP_errno (w : World) : ((ReflectliteType.abiMethod fun t => (fun a : Nat => Value.int IntKind.u8 (a : Int)) <$> Rtype.kind t) #[.pointer (some ⟨9, 84, none⟩)]).run Tryz.prog w = .ok (.int .u8 22) w := by kernel_rfl
theorem kindE_errno (w : World) : ((ReflectliteType.abiMethod fun t => (fun a : Nat => Value.int IntKind.u8 (a : Int)) <$> Rtype.kind t) #[.pointer (some ⟨9, 27, none⟩)]).run Tryz.prog w = .ok (.int .u8 2) w := by kernel_rfl
theorem partsP_errno (a : Addr) (w : World) : (ReflectliteValue.parts (.agg #[.pointer (some ⟨9, 84, none⟩), .pointer (some a), .int .u64 150])).run Tryz.prog w = .ok (some (84, a, 150)) w := by kernel_rfl
theorem isNilP_errno (a p : Addr) (W : World) (ha : W.cell? a = some (.pointer (some p))) :
    (ReflectliteValue.method (ReflectliteValue.valueError "reflectlite.Value.IsNil" 0) ReflectliteValue.isNil #[.agg #[.pointer (some ⟨9, 84, none⟩), .pointer (some a), .int .u64 150]]).run Tryz.prog W = .ok (.bool false) W := by
  rw [rlm]
  simp only [Sem.run_bind, partsP_errno, Result.andThen]
  simp [ReflectliteValue.isNil, loadVar, isAgg, underlying, Tryz.underlying84, ha, Result.andThen]
theorem elemP_errno (w : World) : (ReflectliteType.method ReflectliteType.elem #[.agg #[.pointer (some ⟨9, 84, none⟩)]]).run Tryz.prog w = .ok (.iface 199 (.agg #[.pointer (some ⟨9, 27, none⟩)])) w := by kernel_rfl
theorem implE_errno (w : World) : (ReflectliteType.relation "Implements" ReflectliteType.implements_ #[.agg #[.pointer (some ⟨9, 27, none⟩)], .iface 199 (.agg #[.pointer (some ⟨9, 24, none⟩)])]).run Tryz.prog w = .ok (.bool true) w := by kernel_rfl
theorem typeOf_errno (v : Value) (w : World) : (ReflectliteType.typeOf #[.iface 27 v]).run Tryz.prog w = .ok (.iface 199 (.agg #[.pointer (some ⟨9, 27, none⟩)])) w := by kernel_rfl
theorem assign_errno (w : World) : (ReflectliteType.relation "AssignableTo" ReflectliteType.assignableTo #[.agg #[.pointer (some ⟨9, 27, none⟩)], .iface 199 (.agg #[.pointer (some ⟨9, 27, none⟩)])]).run Tryz.prog w = .ok (.bool true) w := by kernel_rfl
theorem valueOf_errno (e : Int) (w : World) : (ReflectliteValue.unpack (.iface 27 (.int .i64 e))).run Tryz.prog w
    = .ok (.agg #[.pointer (some ⟨9, 27, none⟩), .pointer (some ⟨w.heap.size, 0, none⟩), .int .u64 130]) (w.alloc (.cells #[(.int .i64 e)] 27)) := by kernel_rfl
theorem elemOf_errno (w : World) : (Rtype.elem? 84).run Tryz.prog w = .ok (some 27) w := by kernel_rfl
theorem mkE_errno (p : Addr) (w : World) : (ReflectliteValue.mk 27 p ReflectliteValue.flagAddr).run Tryz.prog w = .ok (.agg #[.pointer (some ⟨9, 27, none⟩), .pointer (some p), .int .u64 386]) w := by kernel_rfl
theorem elemV_errno (a p : Addr) (W : World) (ha : W.cell? a = some (.pointer (some p))) :
    (ReflectliteValue.method (ReflectliteValue.valueError "reflectlite.Value.Elem" 0) ReflectliteValue.elem #[.agg #[.pointer (some ⟨9, 84, none⟩), .pointer (some a), .int .u64 150]]).run Tryz.prog W
      = .ok (.agg #[.pointer (some ⟨9, 27, none⟩), .pointer (some p), .int .u64 386]) W := by
  rw [rlm]
  simp only [Sem.run_bind, partsP_errno, Result.andThen]
  simp [ReflectliteValue.elem, loadVar, isAgg, underlying, Tryz.underlying84, ha, Result.andThen, elemOf_errno, mkE_errno]
theorem partsA_errno (a : Addr) (w : World) : (ReflectliteValue.parts (.agg #[.pointer (some ⟨9, 27, none⟩), .pointer (some a), .int .u64 386])).run Tryz.prog w = .ok (some (27, a, 386)) w := by kernel_rfl
theorem partsB_errno (a : Addr) (w : World) : (ReflectliteValue.parts (.agg #[.pointer (some ⟨9, 27, none⟩), .pointer (some a), .int .u64 130])).run Tryz.prog w = .ok (some (27, a, 130)) w := by kernel_rfl
theorem direct_errno (w : World) : (Rtype.directlyAssignable 27 27).run Tryz.prog w = .ok true w := by kernel_rfl
theorem set_errno (ta b : Addr) (e : Int) (old : Value) (W : World) (hb : W.cell? b = some (.int .i64 e)) (ht : W.cell? ta = some old) (hf : W.frozen? ta = false) :
    (ReflectliteValue.set #[.agg #[.pointer (some ⟨9, 27, none⟩), .pointer (some ta), .int .u64 386], .agg #[.pointer (some ⟨9, 27, none⟩), .pointer (some b), .int .u64 130]]).run Tryz.prog W
      = .ok (.tuple #[]) (W.setCell ta (.int .i64 e)) := by
  rw [rls]
  simp only [Sem.run_bind, partsA_errno, partsB_errno, Result.andThen]
  simp [ReflectliteValue.flagAddr, loadVar, isAgg, underlying, Tryz.underlying27, hb, Result.andThen, direct_errno, storeVar, Value.cells, storeCells, Addr.add]
  rw [run_store Tryz.prog W ta _ _ (by rfl)]
  simp [ht, hf]
set_option maxHeartbeats 4000000 in
theorem asHit_errno (e : Int) (t : Addr) (old : Value) (w : World) (hg : ErrT w) (ht0 : w.cell? t = some old) (hf0 : w.frozen? t = false) :
    Calls Tryz.prog 45 #[.iface 27 (.int .i64 e), .iface 84 (.pointer (some t))] w fun ev w' => ev = .returned (.bool true) ∧ w' = ((((w.alloc (.cells #[.pointer (some t)] 84)).alloc (.cells #[.pointer (some ⟨9, 84, none⟩), .pointer (some ⟨w.heap.size, 0, none⟩), .int .u64 150] 142)).alloc (.cells #[.pointer (some ⟨9, 84, none⟩), .pointer (some ⟨w.heap.size, 0, none⟩), .int .u64 150] 142)).alloc (.cells #[(.int .i64 e)] 27)).setCell t (.int .i64 e) := by
  have h6 := @run_callFunc_extern Tryz.prog 91 _ (fun args => ReflectliteValue.unpack (args.getD 0 (.tuple #[]))) Tryz.func91 (by kernel_rfl) (by kernel_rfl) (by kernel_rfl) (by kernel_rfl)
  have h7 := @run_callFunc_extern Tryz.prog 92 _ (ReflectliteValue.methodAny (ReflectliteValue.valueError "reflectlite.Value.Type" 0) (fun t _ _ _ => ReflectliteType.toType t)) Tryz.func92 (by kernel_rfl) (by kernel_rfl) (by kernel_rfl) (by kernel_rfl)
  have h8 := @run_callFunc_extern Tryz.prog 93 _ (ReflectliteValue.method (ReflectliteValue.valueError "reflectlite.Value.IsNil" 0) ReflectliteValue.isNil) Tryz.func93 (by kernel_rfl) (by kernel_rfl) (by kernel_rfl) (by kernel_rfl)
  have h27 := @run_callFunc_extern Tryz.prog 249 _ (ReflectliteType.abiMethod fun t => do pure (.int .u8 (← Rtype.kind t))) Tryz.func249 (by kernel_rfl) (by kernel_rfl) (by kernel_rfl) (by kernel_rfl)
  have h37 := @run_callFunc_extern Tryz.prog 262 _ (ReflectliteType.method ReflectliteType.elem) Tryz.func262 (by kernel_rfl) (by kernel_rfl) (by kernel_rfl) (by kernel_rfl)
  have h38 := @run_callFunc_extern Tryz.prog 263 _ (ReflectliteType.relation "Implements" ReflectliteType.implements_) Tryz.func263 (by kernel_rfl) (by kernel_rfl) (by kernel_rfl) (by kernel_rfl)
  have h10 := @run_callFunc_extern Tryz.prog 150 _ ReflectliteType.typeOf Tryz.func150 (by kernel_rfl) (by kernel_rfl) (by kernel_rfl) (by kernel_rfl)
  have h35 := @run_callFunc_extern Tryz.prog 260 _ (ReflectliteType.relation "AssignableTo" ReflectliteType.assignableTo) Tryz.func260 (by kernel_rfl) (by kernel_rfl) (by kernel_rfl) (by kernel_rfl)
  have h11 := @run_callFunc_extern Tryz.prog 151 _ (ReflectliteValue.method (ReflectliteValue.valueError "reflectlite.Value.Elem" 0) ReflectliteValue.elem) Tryz.func151 (by kernel_rfl) (by kernel_rfl) (by kernel_rfl) (by kernel_rfl)
  have h12 := @run_callFunc_extern Tryz.prog 152 _ ReflectliteValue.set Tryz.func152 (by kernel_rfl) (by kernel_rfl) (by kernel_rfl) (by kernel_rfl)
  have f6 := valueOfP_errno
  have f7 := typeP_errno
  have tO := typeOf_errno
  have a25 := assign_errno
  have v25 := valueOf_errno
  have mA := mAssignableTo
  have mK := mKind
  have mE := mElem
  have mI := mImplements
  have k27 := kindP_errno
  have k25 := kindE_errno
  have e27 := elemP_errno
  have i25 := implE_errno
  have n8 := isNilP_errno ⟨w.heap.size, 0, none⟩ t ((w.alloc (.cells #[.pointer (some t)] 84)).alloc (.cells #[.pointer (some ⟨9, 84, none⟩), .pointer (some ⟨w.heap.size, 0, none⟩), .int .u64 150] 142)) (by simp)
  unfold ErrT at hg
  have hlt : 0 < w.heap.size := by
    rcases Nat.eq_zero_or_pos w.heap.size with h0 | h
    · simp [World.cell?, h0] at hg
    · exact h
  have hg2 : ((w.alloc (.cells #[.pointer (some t)] 84)).alloc (.cells #[.pointer (some ⟨9, 84, none⟩), .pointer (some ⟨w.heap.size, 0, none⟩), .int .u64 150] 142)).cell? ⟨0, 0, none⟩ = some (.iface 199 (.agg #[.pointer (some ⟨9, 24, none⟩)])) := by
    rw [World.cell?_alloc_lt _ _ ⟨0, 0, none⟩ (by simp), World.cell?_alloc_lt _ _ ⟨0, 0, none⟩ hlt]; exact hg
  have htl : t.block < w.heap.size := by
    rcases Nat.lt_or_ge t.block w.heap.size with h | h
    · exact h
    · simp [World.cell?, Array.getElem?_eq_none h] at ht0
  have el := elemV_errno ⟨w.heap.size, 0, none⟩ t (((w.alloc (.cells #[.pointer (some t)] 84)).alloc (.cells #[.pointer (some ⟨9, 84, none⟩), .pointer (some ⟨w.heap.size, 0, none⟩), .int .u64 150] 142)).alloc (.cells #[.pointer (some ⟨9, 84, none⟩), .pointer (some ⟨w.heap.size, 0, none⟩), .int .u64 150] 142)) (by rw [World.cell?_alloc_lt _ _ ⟨w.heap.size, 0, none⟩ (by simp; omega)]; simp)
  have st := set_errno t ⟨w.heap.size + 1 + 1 + 1, 0, none⟩ e old ((((w.alloc (.cells #[.pointer (some t)] 84)).alloc (.cells #[.pointer (some ⟨9, 84, none⟩), .pointer (some ⟨w.heap.size, 0, none⟩), .int .u64 150] 142)).alloc (.cells #[.pointer (some ⟨9, 84, none⟩), .pointer (some ⟨w.heap.size, 0, none⟩), .int .u64 150] 142)).alloc (.cells #[(.int .i64 e)] 27))
    (by rw [World.cell?_alloc_at _ _ _ _ (by simp)]; rfl)
    (by rw [World.cell?_alloc_lt _ _ t (by simp; omega), World.cell?_alloc_lt _ _ t (by simp; omega), World.cell?_alloc_lt _ _ t (by simp; omega), World.cell?_alloc_lt _ _ t htl]; exact ht0)
    (by rw [World.frozen?_alloc_old _ _ t (by simp; omega), World.frozen?_alloc_old _ _ t (by simp; omega), World.frozen?_alloc_old _ _ t (by simp; omega), World.frozen?_alloc_old _ _ t (Nat.ne_of_lt htl)]; exact hf0)
  go_enter Tryz.func45, Tryz.ntmps45
  go_wp2
  refine wp_loop_rounds 1 ?_
  rw [rounds_succ]
  go_wp2
  go_ret
  exact ⟨rfl, rfl⟩
end Go.Proofs.YtlghobefhmpfkaaGreatDoor
set_option linter.unusedVariables false
set_option linter.unusedSimpArgs false
namespace Go.Proofs.YtlghobefhmpfkaaGreatDoor
open Go.RowKit Go.Extern.Stop Go.Stop Go.Extern Go
set_option maxRecDepth 100000
structure AsLeft (w w' : World) (t : Addr) (v : Value) : Prop where
  cell : w'.cell? t = some v
  old : ∀ a : Addr, a.block < w.heap.size → a.block ≠ t.block → w'.cell? a = w.cell? a
  size : w.heap.size ≤ w'.heap.size
  frozen : ∀ a : Addr, a.block < w.heap.size → w'.frozen? a = w.frozen? a
  below : ∀ B, B ≤ t.block → Below B w w'
theorem asLeft_of {w : World} {t : Addr} {old v : Value} (ht : w.cell? t = some old) (o1 o2 o3 o4 : Obj) : AsLeft w (((((w.alloc o1).alloc o2).alloc o3).alloc o4).setCell t v) t v := by
  have hl : t.block < w.heap.size := Ev.cell_lt ht
  have hb : Below w.heap.size w ((((w.alloc o1).alloc o2).alloc o3).alloc o4) := ((((Below.refl _ w).alloc (Nat.le_refl _) o1).alloc (by simp) o2).alloc (by simp; omega) o3).alloc (by simp; omega) o4
  have ht4 : ((((w.alloc o1).alloc o2).alloc o3).alloc o4).cell? t = some old := by rw [hb.cell hl]; exact ht
  refine ⟨?_, fun a ha hne => ?_, ?_, fun a ha => ?_, fun B hB => ((hb.mono (by omega)).setCell hB v)⟩
  · exact World.cell?_setCell_same _ _ _ ht4
  · have h2 : (((((w.alloc o1).alloc o2).alloc o3).alloc o4).setCell t v).heap[a.block]? = ((((w.alloc o1).alloc o2).alloc o3).alloc o4).heap[a.block]? := Below.heap_setCell _ _ _ _ hne
    rw [World.cell?_of_block h2, hb.cell ha]
  · simp; omega
  · rw [World.frozen?_setCell, hb.frozen ha]
theorem asF (e t : Addr) (old : Value) (w : World) (hg : ErrT w) (ht0 : w.cell? t = some old) (hf0 : w.frozen? t = false) :
    Calls Tryz.prog 45 #[.iface 79 (.pointer (some e)), .iface 81 (.pointer (some t))] w fun ev w' => ev = .returned (.bool true) ∧ AsLeft w w' t (.pointer (some e)) := by
  refine (asHit_flt e t old w hg ht0 hf0).mono ?_
  rintro ev w' ⟨rfl, rfl⟩
  exact ⟨rfl, asLeft_of ht0 _ _ _ _⟩
theorem asE (e : Int) (t : Addr) (old : Value) (w : World) (hg : ErrT w) (ht0 : w.cell? t = some old) (hf0 : w.frozen? t = false) :
    Calls Tryz.prog 45 #[.iface 27 (.int .i64 e), .iface 84 (.pointer (some t))] w fun ev w' => ev = .returned (.bool true) ∧ AsLeft w w' t (.int .i64 e) := by
  refine (asHit_errno e t old w hg ht0 hf0).mono ?_
  rintro ev w' ⟨rfl, rfl⟩
  exact ⟨rfl, asLeft_of ht0 _ _ _ _⟩
theorem results_pair {P : Program} {fn : Func} {t : Tmp} {ty : TypeId} (h : fn.results = #[.cell t ty]) (tmps : Array Value) (w : World) {b : Nat} {x y : Value} (hp : Ev.ldT P ty = some (true, 2))
    (ht : tmps.getD t undef = .pointer (some ⟨b, 0, none⟩)) (h0 : w.cell? ⟨b, 0, none⟩ = some x) (h1 : w.cell? ⟨b, 1, none⟩ = some y) : (results fn tmps).run P w = .ok (.agg #[x, y]) w := by
  have hv := Ev.run_ld_agg (w := w) hp (ad := ⟨b, 0, none⟩) (vs := [x, y]) rfl (fun j v hj => by
    match j, hj with
    | 0, hj => simp at hj; subst hj; exact h0
    | 1, hj => simp at hj; subst hj; exact h1
    | j + 2, hj => simp at hj)
  rw [Ev.results_eq, h]
  simp [Ev.rrRun, ht, asAddr, hv]
theorem ld53 : Ev.ldT Tryz.prog 29 = some (true, 2) := by kernel_rfl
theorem seen_nil (w : World) : Calls Tryz.prog 13 #[.nilIface] w fun ev w' => ev = .returned (.agg #[.int .i64 0, .int .i64 0]) ∧ Below w.heap.size w w' := by
  go_enter Tryz.func13, Tryz.ntmps13
  go_wp2
  (try simp only [Exit.inBlock, Exit.then])
  refine bodyPost_ret (results_pair (b := w.heap.size) (x := .int .i64 0) (y := .int .i64 0) rfl _ _ ld53 rfl (by simp) (by simp)) rfl ⟨rfl, (Below.refl _ _).alloc (Nat.le_refl _) _⟩
theorem ErrT.pos {w : World} (h : ErrT w) : 0 < w.heap.size := by
  unfold ErrT at h
  exact Ev.cell_lt h
theorem ErrT.below {w w' : World} (h : ErrT w) (hb : Below w.heap.size w w') : ErrT w' := by
  have := h.pos
  unfold ErrT at h ⊢
  rw [hb.cell this]; exact h
set_option maxHeartbeats 4000000 in
theorem seen_flt (p : Addr) (at_ e : Int) (w : World) (hg : ErrT w) (h0 : w.cell? p = some (.int .i64 at_)) (h1 : w.cell? (p.add 1) = some (.iface 27 (.int .i64 e))) :
    Calls Tryz.prog 13 #[.iface 79 (.pointer (some p))] w fun ev w' => ev = .returned (.agg #[.int .i64 at_, .int .i64 e]) ∧ Below w.heap.size w w' := by
  have hpl := Ev.cell_lt h0
  have hpa : (p.add 1).block = p.block := by unfold Addr.add; split <;> rfl
  have hp0 := hg.pos
  have bA : Below w.heap.size w (((w.alloc (.cells #[.int .i64 0, .int .i64 0] 29)).alloc (.cells #[.pointer none] 79)).alloc (.cells #[.int .i64 0] 27)) := (((Below.refl _ _).alloc (Nat.le_refl _) _).alloc (by simp) _).alloc (by simp; omega) _
  obtain ⟨W, hW⟩ : ∃ W, (((w.alloc (.cells #[.int .i64 0, .int .i64 0] 29)).alloc (.cells #[.pointer none] 79)).alloc (.cells #[.int .i64 0] 27)) = W := ⟨_, rfl⟩
  have sA : W.heap.size = w.heap.size + 3 := by rw [← hW]; simp
  have cA0 : W.cell? ⟨w.heap.size, 0, none⟩ = some (.int .i64 0) := by rw [← hW, World.cell?_alloc_lt _ _ _ (by simp <;> omega), World.cell?_alloc_lt _ _ _ (by simp <;> omega), World.cell?_alloc_at _ _ _ _ (by simp)]; rfl
  have cA1 : W.cell? ⟨w.heap.size, 1, none⟩ = some (.int .i64 0) := by rw [← hW, World.cell?_alloc_lt _ _ _ (by simp <;> omega), World.cell?_alloc_lt _ _ _ (by simp <;> omega), World.cell?_alloc_at _ _ _ _ (by simp)]; rfl
  have cA2 : W.cell? ⟨w.heap.size + 1, 0, none⟩ = some (.pointer none) := by rw [← hW, World.cell?_alloc_lt _ _ _ (by simp <;> omega), World.cell?_alloc_at _ _ _ _ (by simp)]; rfl
  have cA3 : W.cell? ⟨w.heap.size + 1 + 1, 0, none⟩ = some (.int .i64 0) := by rw [← hW, World.cell?_alloc_at _ _ _ _ (by simp)]; rfl
  have fA0 : W.frozen? ⟨w.heap.size, 0, none⟩ = false := by rw [← hW, World.frozen?_alloc_old _ _ _ (by simp <;> omega), World.frozen?_alloc_old _ _ _ (by simp <;> omega), World.frozen?_alloc_at _ _ _ _ (by simp)]
  have fA1 : W.frozen? ⟨w.heap.size, 1, none⟩ = false := by rw [← hW, World.frozen?_alloc_old _ _ _ (by simp <;> omega), World.frozen?_alloc_old _ _ _ (by simp <;> omega), World.frozen?_alloc_at _ _ _ _ (by simp)]
  have fA2 : W.frozen? ⟨w.heap.size + 1, 0, none⟩ = false := by rw [← hW, World.frozen?_alloc_old _ _ _ (by simp <;> omega), World.frozen?_alloc_at _ _ _ _ (by simp)]
  have fA3 : W.frozen? ⟨w.heap.size + 1 + 1, 0, none⟩ = false := by rw [← hW, World.frozen?_alloc_at _ _ _ _ (by simp)]
  rw [hW] at bA
  have gA : ErrT W := hg.below bA
  go_enter Tryz.func13, Tryz.ntmps13
  go_wp2_with (go_at_call 45; rw [hW])
  refine (asF p ⟨w.heap.size + 1, 0, none⟩ (.pointer none) W gA cA2 fA2).mono ?_
  rintro ev W1 ⟨rfl, hL⟩
  have hWs : w.heap.size ≤ W.heap.size := by omega
  have b1 : Below w.heap.size W W1 := hL.below _ (by simp)
  have bW1 : Below w.heap.size w W1 := bA.trans b1
  have s1 : W.heap.size ≤ W1.heap.size := hL.size
  have g1 : ErrT W1 := hg.below bW1
  have cB2 : W1.cell? ⟨w.heap.size + 1, 0, none⟩ = some (.pointer (some p)) := hL.cell
  have cB0 : W1.cell? ⟨w.heap.size, 0, none⟩ = some (.int .i64 0) := by rw [hL.old _ (by show w.heap.size < W.heap.size; omega) (by show w.heap.size ≠ w.heap.size + 1; omega)]; exact cA0
  have cB1 : W1.cell? ⟨w.heap.size, 1, none⟩ = some (.int .i64 0) := by rw [hL.old _ (by show w.heap.size < W.heap.size; omega) (by show w.heap.size ≠ w.heap.size + 1; omega)]; exact cA1
  have cB3 : W1.cell? ⟨w.heap.size + 1 + 1, 0, none⟩ = some (.int .i64 0) := by rw [hL.old _ (by show w.heap.size + 1 + 1 < W.heap.size; omega) (by show w.heap.size + 1 + 1 ≠ w.heap.size + 1; omega)]; exact cA3
  have fB0 : W1.frozen? ⟨w.heap.size, 0, none⟩ = false := by rw [hL.frozen _ (by show w.heap.size < W.heap.size; omega)]; exact fA0
  have fB1 : W1.frozen? ⟨w.heap.size, 1, none⟩ = false := by rw [hL.frozen _ (by show w.heap.size < W.heap.size; omega)]; exact fA1
  have fB3 : W1.frozen? ⟨w.heap.size + 1 + 1, 0, none⟩ = false := by rw [hL.frozen _ (by show w.heap.size + 1 + 1 < W.heap.size; omega)]; exact fA3
  have cp0 : W1.cell? p = some (.int .i64 at_) := by rw [bW1.cell hpl]; exact h0
  have cp1 : W1.cell? ⟨p.block, p.off + 1, none⟩ = some (.iface 27 (.int .i64 e)) := by rw [show (⟨p.block, p.off + 1, none⟩ : Addr) = p.add 1 from rfl, bW1.cell (by rw [hpa]; exact hpl)]; exact h1
  clear hL
  go_wp2_with (go_at_call 45; refine (asE e ⟨w.heap.size + 1 + 1, 0, none⟩ (.int .i64 0) W1 g1 cB3 fB3).mono ?_)
  rintro ev W2 ⟨rfl, hL⟩
  have b2 : Below w.heap.size W1 W2 := hL.below _ (by simp <;> omega)
  have bW2 : Below w.heap.size w W2 := bW1.trans b2
  have cC2 : W2.cell? ⟨w.heap.size + 1, 0, none⟩ = some (.pointer (some p)) := by rw [hL.old _ (by show w.heap.size + 1 < W1.heap.size; omega) (by show w.heap.size + 1 ≠ w.heap.size + 1 + 1; omega)]; exact cB2
  have cC3 : W2.cell? ⟨w.heap.size + 1 + 1, 0, none⟩ = some (.int .i64 e) := hL.cell
  have cC0 : W2.cell? ⟨w.heap.size, 0, none⟩ = some (.int .i64 0) := by rw [hL.old _ (by show w.heap.size < W1.heap.size; omega) (by show w.heap.size ≠ w.heap.size + 1 + 1; omega)]; exact cB0
  have cC1 : W2.cell? ⟨w.heap.size, 1, none⟩ = some (.int .i64 0) := by rw [hL.old _ (by show w.heap.size < W1.heap.size; omega) (by show w.heap.size ≠ w.heap.size + 1 + 1; omega)]; exact cB1
  have fC0 : W2.frozen? ⟨w.heap.size, 0, none⟩ = false := by rw [hL.frozen _ (by show w.heap.size < W1.heap.size; omega)]; exact fB0
  have fC1 : W2.frozen? ⟨w.heap.size, 1, none⟩ = false := by rw [hL.frozen _ (by show w.heap.size < W1.heap.size; omega)]; exact fB1
  have cq0 : W2.cell? p = some (.int .i64 at_) := by rw [bW2.cell hpl]; exact h0
  clear hL
  have hadd : p.add 0 = p := rfl
  go_wp2
  go_region
  go_wp2
  (try simp only [Exit.inBlock, Exit.then])
  refine bodyPost_ret (results_pair (b := w.heap.size) (x := .int .i64 at_) (y := .int .i64 e) rfl _ _ ld53 rfl ?_ ?_) rfl ⟨rfl, ((bW2.setCell (Nat.le_refl _) _).setCell (Nat.le_refl _) _).drew⟩
  · show ((W2.setCell _ _).setCell _ _).cell? _ = _
    rw [World.cell?_setCell_other _ _ _ _ (by simp), World.cell?_setCell_same _ _ _ cC0]
  · show ((W2.setCell _ _).setCell _ _).cell? _ = _
    rw [World.cell?_setCell_same _ _ _ (by rw [World.cell?_setCell_other _ _ _ _ (by simp)]; exact cC1)]
open Go.Ev in
def CSeen : Contract := pureC fun args => match args with
  | [.d (.v .nilIface)] => some (True, .agg [.d (.v (.int .i64 0)), .d (.v (.int .i64 0))])
  | [.d (.ifc t (.pt [.v (.int .i64 at_), .ifc u (.v (.int .i64 e))]))] => some (t = 79 ∧ u = 27, .agg [.d (.v (.int .i64 at_)), .d (.v (.int .i64 e))])
  | _ => none
open Go.Ev in
theorem sSeen {G : World → Prop} (hG : ∀ w, G w → ErrT w) : Sound G Tryz.prog 13 CSeen := by
  refine sound_lib ⟨Tryz.f13, by kernel_rfl, by kernel_rfl, by kernel_rfl⟩ fun args p x h hp => ?_
  split at h <;> simp only [Option.some.injEq, Prod.mk.injEq, reduceCtorEq] at h
  · obtain ⟨rfl, rfl⟩ := h
    refine ⟨.agg #[.int .i64 0, .int .i64 0], fun m n c => by simp [Cn, CnL, Rd, Value.oneCell'], fun w hw m c vs hc hv => ?_⟩
    match vs, hv with
    | [a], hv =>
      simp only [CnL, and_true] at hv
      rw [of_v hv]
      exact seen_nil w
    | [], hv => simp [CnL] at hv
    | _ :: _ :: _, hv => simp [CnL] at hv
  · obtain ⟨rfl, rfl⟩ := h
    rename_i t at_ u e
    obtain ⟨rfl, rfl⟩ := hp
    refine ⟨.agg #[.int .i64 at_, .int .i64 e], fun m n c => by simp [Cn, CnL, Rd, Value.oneCell'], fun w hw m c vs hc hv => ?_⟩
    match vs, hv with
    | [a], hv =>
      simp only [CnL, and_true, Cn, Rd, RdCells] at hv
      obtain ⟨z, rfl, ad, rfl, ⟨u1, h1, rfl, _⟩, ⟨u2, h2, z2, rfl, rfl, _⟩⟩ := hv
      exact seen_flt ad at_ e w (hG w hw) (hc _ _ h1) (hc _ _ h2)
    | [], hv => simp [CnL] at hv
    | _ :: _ :: _, hv => simp [CnL] at hv
end Go.Proofs.YtlghobefhmpfkaaGreatDoor
set_option linter.unusedVariables false
set_option linter.unusedSimpArgs false
namespace Go.Proofs.YtlghobefhmpfkaaGreatDoor
open Go Go.Ev Go.Rcs
set_option maxRecDepth 100000
variable {G : World → Prop}
def CLawP : Contract := pureC fun args => match args with
  | [.d (.v (.string s))] => some (s.size ≤ 1099511627776, .d (.v (.bool true)))
  | _ => none
theorem unHk_nil : unHk [] = some [] := rfl
set_option maxHeartbeats 16000000 in
theorem s6 (hE : ∀ w, G w → ErrR w) (hT : ∀ w, G w → ErrT w) : Sound G Tryz.prog 6 CLawP := by
  refine sd6 (T := tabT [(19, CParP), (20, CParR), (13, CSeen), (21, CSameHs), (22, CHk)]) (tab_cons (s19 (s54 hE sIdxV)) (tab_cons s20 (tab_cons (sSeen hT) (tab_cons s21 (tab_cons s22 tab_nil))))) (pureC_lawful _) (pure_hX fun args p x K h hp hk => ?_)
  split at h <;> simp only [Option.some.injEq, Prod.mk.injEq, reduceCtorEq] at h
  obtain ⟨rfl, rfl⟩ := h
  rename_i s
  obtain ⟨s, rfl⟩ := ex_str s
  simp only [sem_str] at hp
  refine ⟨Nat.le_of_ble_eq_true rfl, ?_⟩
  cases hY : parN s with
  | error xe =>
    obtain ⟨a, e⟩ := xe
    have hX : parPr (.error (a, e)) = (.tup [.d (.sl []), .d (fltV a e)], ⟨0, []⟩) := rfl
    have hR : parRr (.error (a, e)) = (.tup [.d (.sl []), .agg [.d (.v (.int .i64 a)), .d (.v (.int .i64 e))]], ⟨0, []⟩) := rfl
    have hs0 : smH [] := ⟨by simp, by simp⟩
    simp -dsimp -implicitDefEqProofs only [S6, R6, CParP, CParR, CSeen, CSameHs, CHk, hY, hX, hR, fltV, unHk_nil, Ev.St.giveC, ↓Ev.P, Ev.Q, Bool.cond_true, Bool.cond_false, eq_self, forall_eq_or_imp, implies_true, forall_const, forall_eq, ↓reduceIte, reduceIte, Nat.reduceEqDiff, Nat.reduceAdd, reduceCtorEq, Nat.reduceSub, Int.reduceToNat, Int.reduceLE, Int.reduceLT, Int.reduceNeg, Nat.reduceBEq, Nat.reduceMul, Nat.reduceLeDiff, Nat.reduceMod, UInt8.reduceOfNat, Nat.reduceLT, Int.reduceEq, Int.reduceAdd, Int.reduceSub, Int.reduceMul]
    repeat' (first | with_reducible assumption | refine And.intro ?_ ?_ | intro _ | (rw [Ev.xStp_eq]; simp -dsimp -implicitDefEqProofs only [CParP, CParR, CSeen, CSameHs, CHk, hY, hX, hR, fltV, unHk_nil, Ev.St.giveC, ↓Ev.P, Ev.Q, Bool.cond_true, Bool.cond_false, eq_self, forall_eq_or_imp, implies_true, forall_const, forall_eq, ↓reduceIte, reduceIte, Nat.reduceEqDiff, Nat.reduceAdd, reduceCtorEq, Nat.reduceSub, Int.reduceToNat, Int.reduceLE, Int.reduceLT, Int.reduceNeg, Nat.reduceBEq, Nat.reduceMul, Nat.reduceLeDiff, Nat.reduceMod, UInt8.reduceOfNat, Nat.reduceLT, Int.reduceEq, Int.reduceAdd, Int.reduceSub, Int.reduceMul]))
    all_goals try omega
    refine xLoop_intro (fun k st => k = 0 ∧ st = ⟨[(3, .d (.sl [])), (7, .d (.v (.int .i64 0)))], 0, []⟩) 0 [] ?_ ?_ ?_
    · simp -dsimp -implicitDefEqProofs only [↓Ev.xStp_eq, ↓Ev.P, Ev.Q, Bool.cond_true, Bool.cond_false, eq_self, forall_eq_or_imp, implies_true, forall_const, forall_eq, ↓reduceIte, reduceIte, Nat.reduceEqDiff, Nat.reduceAdd, reduceCtorEq, Nat.reduceSub, Int.reduceToNat, Int.reduceLE, Int.reduceLT, Int.reduceNeg, Nat.reduceBEq, Nat.reduceMul, Nat.reduceLeDiff, Nat.reduceMod, UInt8.reduceOfNat, Nat.reduceLT, Int.reduceEq, Int.reduceAdd, Int.reduceSub, Int.reduceMul]
    · simp -dsimp -implicitDefEqProofs only [↓Ev.xStp_eq, ↓Ev.P, Ev.Q, Bool.cond_true, Bool.cond_false, eq_self, forall_eq_or_imp, implies_true, forall_const, forall_eq, ↓reduceIte, reduceIte, Nat.reduceEqDiff, Nat.reduceAdd, reduceCtorEq, Nat.reduceSub, Int.reduceToNat, Int.reduceLE, Int.reduceLT, Int.reduceNeg, Nat.reduceBEq, Nat.reduceMul, Nat.reduceLeDiff, Nat.reduceMod, UInt8.reduceOfNat, Nat.reduceLT, Int.reduceEq, Int.reduceAdd, Int.reduceSub, Int.reduceMul]
      all_goals first | rfl | exact ⟨rfl, rfl⟩ | trivial
    · rintro k st ⟨rfl, rfl⟩
      simp -dsimp -implicitDefEqProofs only [↓Ev.P, Ev.Q, Bool.cond_true, Bool.cond_false, eq_self, forall_eq_or_imp, implies_true, forall_const, forall_eq, ↓reduceIte, reduceIte, Nat.reduceEqDiff, Nat.reduceAdd, reduceCtorEq, Nat.reduceSub, Int.reduceToNat, Int.reduceLE, Int.reduceLT, Int.reduceNeg, Nat.reduceBEq, Nat.reduceMul, Nat.reduceLeDiff, Nat.reduceMod, UInt8.reduceOfNat, Nat.reduceLT, Int.reduceEq, Int.reduceAdd, Int.reduceSub, Int.reduceMul]
      repeat' (first | with_reducible assumption | refine And.intro ?_ ?_ | intro _ | (rw [Ev.xStp_eq]; simp -dsimp -implicitDefEqProofs only [↓Ev.P, Ev.Q, Bool.cond_true, Bool.cond_false, eq_self, forall_eq_or_imp, implies_true, forall_const, forall_eq, ↓reduceIte, reduceIte, Nat.reduceEqDiff, Nat.reduceAdd, reduceCtorEq, Nat.reduceSub, Int.reduceToNat, Int.reduceLE, Int.reduceLT, Int.reduceNeg, Nat.reduceBEq, Nat.reduceMul, Nat.reduceLeDiff, Nat.reduceMod, UInt8.reduceOfNat, Nat.reduceLT, Int.reduceEq, Int.reduceAdd, Int.reduceSub, Int.reduceMul]))
      all_goals first | omega | exact hk
  | ok hh =>
    have hX : parPr (.ok hh) = (.tup [.own 0, .d (.v .nilIface)], ⟨1, [(0, .row 47 5 (hkRows hh))]⟩) := rfl
    have hR : parRr (.ok hh) = (.tup [.own 0, .agg [.d (.v (.int .i64 0)), .d (.v (.int .i64 0))]], ⟨1, [(0, .row 47 5 (hkRows hh))]⟩) := rfl
    have hsm := parN_smH hY
    have hgd := parN_good hY
    obtain ⟨hs1, hs2⟩ := parN_sz hY
    simp -dsimp -implicitDefEqProofs only [S6, R6, CParP, CParR, CSeen, CSameHs, CHk, hY, hX, hR, unHk_rows, hkRows_len, hkRows_all, Ev.St.giveC, ↓Ev.P, Ev.Q, Bool.cond_true, Bool.cond_false, eq_self, forall_eq_or_imp, implies_true, forall_const, forall_eq, ↓reduceIte, reduceIte, Nat.reduceEqDiff, Nat.reduceAdd, reduceCtorEq, Nat.reduceSub, Int.reduceToNat, Int.reduceLE, Int.reduceLT, Int.reduceNeg, Nat.reduceBEq, Nat.reduceMul, Nat.reduceLeDiff, Nat.reduceMod, UInt8.reduceOfNat, Nat.reduceLT, Int.reduceEq, Int.reduceAdd, Int.reduceSub, Int.reduceMul]
    repeat' (first | with_reducible assumption | refine And.intro ?_ ?_ | intro _ | (rw [Ev.xStp_eq]; simp -dsimp -implicitDefEqProofs only [CParP, CParR, CSeen, CSameHs, CHk, hY, hX, hR, unHk_rows, hkRows_len, hkRows_all, Ev.St.giveC, ↓Ev.P, Ev.Q, Bool.cond_true, Bool.cond_false, eq_self, forall_eq_or_imp, implies_true, forall_const, forall_eq, ↓reduceIte, reduceIte, Nat.reduceEqDiff, Nat.reduceAdd, reduceCtorEq, Nat.reduceSub, Int.reduceToNat, Int.reduceLE, Int.reduceLT, Int.reduceNeg, Nat.reduceBEq, Nat.reduceMul, Nat.reduceLeDiff, Nat.reduceMod, UInt8.reduceOfNat, Nat.reduceLT, Int.reduceEq, Int.reduceAdd, Int.reduceSub, Int.reduceMul]))
    all_goals try omega
    refine xLoop_intro (fun n st => ∃ i : Nat, i ≤ hh.length ∧ n = hh.length - i ∧ st = ⟨[(3, .own 0), (7, .d (.v (.int .i64 i)))], 1, [(0, .row 47 5 (hkRows hh))]⟩) hh.length [0] ?_ ?_ ?_
    · simp -dsimp -implicitDefEqProofs only [↓Ev.xStp_eq, ↓Ev.P, Ev.Q, Bool.cond_true, Bool.cond_false, eq_self, forall_eq_or_imp, implies_true, forall_const, forall_eq, ↓reduceIte, reduceIte, Nat.reduceEqDiff, Nat.reduceAdd, reduceCtorEq, Nat.reduceSub, Int.reduceToNat, Int.reduceLE, Int.reduceLT, Int.reduceNeg, Nat.reduceBEq, Nat.reduceMul, Nat.reduceLeDiff, Nat.reduceMod, UInt8.reduceOfNat, Nat.reduceLT, Int.reduceEq, Int.reduceAdd, Int.reduceSub, Int.reduceMul]
    · simp -dsimp -implicitDefEqProofs only [↓Ev.xStp_eq, ↓Ev.P, Ev.Q, Bool.cond_true, Bool.cond_false, eq_self, forall_eq_or_imp, implies_true, forall_const, forall_eq, ↓reduceIte, reduceIte, Nat.reduceEqDiff, Nat.reduceAdd, reduceCtorEq, Nat.reduceSub, Int.reduceToNat, Int.reduceLE, Int.reduceLT, Int.reduceNeg, Nat.reduceBEq, Nat.reduceMul, Nat.reduceLeDiff, Nat.reduceMod, UInt8.reduceOfNat, Nat.reduceLT, Int.reduceEq, Int.reduceAdd, Int.reduceSub, Int.reduceMul]
      exact ⟨0, by omega, by omega, rfl⟩
    · rintro n st ⟨i, hi, hn, rfl⟩
      by_cases hil : i < hh.length
      · have hi3 : (i : Int) < hh.length := by omega
        have hg := hkRows_get hil
        have hz := hgd _ (hk_mem hil)
        have hm := hs2 _ (hk_mem hil)
        generalize hh.getD i hk0 = h at hg hz hm
        obtain ⟨⟨A, AN, B, BN⟩, m⟩ := h
        unfold chkH at hz
        dsimp only at hz hm
        obtain ⟨hm1, hm2⟩ := hm
        have hm3 : ∀ x ∈ m, x.2.length ≤ 1099511627776 := fun x hx => by have := hm2 x hx; omega
        simp -dsimp -implicitDefEqProofs only [hg, hi3, hz, hkRow, CHk, unMk_rows, hkRows_len, hkRows_all, mkRows_len, mkRows_all, Ev.St.giveC, ↓Ev.P, Ev.Q, Bool.cond_true, Bool.cond_false, eq_self, forall_eq_or_imp, implies_true, forall_const, forall_eq, ↓reduceIte, reduceIte, Nat.reduceEqDiff, Nat.reduceAdd, reduceCtorEq, Nat.reduceSub, Int.reduceToNat, Int.reduceLE, Int.reduceLT, Int.reduceNeg, Nat.reduceBEq, Nat.reduceMul, Nat.reduceLeDiff, Nat.reduceMod, UInt8.reduceOfNat, Nat.reduceLT, Int.reduceEq, Int.reduceAdd, Int.reduceSub, Int.reduceMul]
        repeat' (first | with_reducible assumption | refine And.intro ?_ ?_ | intro _ | (rw [Ev.xStp_eq]; simp -dsimp -implicitDefEqProofs only [hg, hi3, hz, hkRow, CHk, unMk_rows, hkRows_len, hkRows_all, mkRows_len, mkRows_all, Ev.St.giveC, ↓Ev.P, Ev.Q, Bool.cond_true, Bool.cond_false, eq_self, forall_eq_or_imp, implies_true, forall_const, forall_eq, ↓reduceIte, reduceIte, Nat.reduceEqDiff, Nat.reduceAdd, reduceCtorEq, Nat.reduceSub, Int.reduceToNat, Int.reduceLE, Int.reduceLT, Int.reduceNeg, Nat.reduceBEq, Nat.reduceMul, Nat.reduceLeDiff, Nat.reduceMod, UInt8.reduceOfNat, Nat.reduceLT, Int.reduceEq, Int.reduceAdd, Int.reduceSub, Int.reduceMul]))
        all_goals try omega
        refine xAgain_intro (hh.length - (i + 1)) [0] (by omega) (by simp -dsimp -implicitDefEqProofs only [↓Ev.xStp_eq, ↓Ev.P, Ev.Q, Bool.cond_true, Bool.cond_false, eq_self, forall_eq_or_imp, implies_true, forall_const, forall_eq, ↓reduceIte, reduceIte, Nat.reduceEqDiff, Nat.reduceAdd, reduceCtorEq, Nat.reduceSub, Int.reduceToNat, Int.reduceLE, Int.reduceLT, Int.reduceNeg, Nat.reduceBEq, Nat.reduceMul, Nat.reduceLeDiff, Nat.reduceMod, UInt8.reduceOfNat, Nat.reduceLT, Int.reduceEq, Int.reduceAdd, Int.reduceSub, Int.reduceMul]) ⟨i + 1, by omega, rfl, ?_⟩
        simp -dsimp -implicitDefEqProofs only [↓Ev.xStp_eq, ↓Ev.P, Ev.Q, Bool.cond_true, Bool.cond_false, eq_self, forall_eq_or_imp, implies_true, forall_const, forall_eq, ↓reduceIte, reduceIte, Nat.reduceEqDiff, Nat.reduceAdd, reduceCtorEq, Nat.reduceSub, Int.reduceToNat, Int.reduceLE, Int.reduceLT, Int.reduceNeg, Nat.reduceBEq, Nat.reduceMul, Nat.reduceLeDiff, Nat.reduceMod, UInt8.reduceOfNat, Nat.reduceLT, Int.reduceEq, Int.reduceAdd, Int.reduceSub, Int.reduceMul]
        rfl
      · have hi3 : ¬ (i : Int) < hh.length := by omega
        simp -dsimp -implicitDefEqProofs only [hi3, hkRows_len, ↓Ev.P, Ev.Q, Bool.cond_true, Bool.cond_false, eq_self, forall_eq_or_imp, implies_true, forall_const, forall_eq, ↓reduceIte, reduceIte, Nat.reduceEqDiff, Nat.reduceAdd, reduceCtorEq, Nat.reduceSub, Int.reduceToNat, Int.reduceLE, Int.reduceLT, Int.reduceNeg, Nat.reduceBEq, Nat.reduceMul, Nat.reduceLeDiff, Nat.reduceMod, UInt8.reduceOfNat, Nat.reduceLT, Int.reduceEq, Int.reduceAdd, Int.reduceSub, Int.reduceMul]
        repeat' (first | with_reducible assumption | refine And.intro ?_ ?_ | intro _ | (rw [Ev.xStp_eq]; simp -dsimp -implicitDefEqProofs only [hi3, hkRows_len, ↓Ev.P, Ev.Q, Bool.cond_true, Bool.cond_false, eq_self, forall_eq_or_imp, implies_true, forall_const, forall_eq, ↓reduceIte, reduceIte, Nat.reduceEqDiff, Nat.reduceAdd, reduceCtorEq, Nat.reduceSub, Int.reduceToNat, Int.reduceLE, Int.reduceLT, Int.reduceNeg, Nat.reduceBEq, Nat.reduceMul, Nat.reduceLeDiff, Nat.reduceMod, UInt8.reduceOfNat, Nat.reduceLT, Int.reduceEq, Int.reduceAdd, Int.reduceSub, Int.reduceMul]))
        all_goals first | omega | exact hk
end Go.Proofs.YtlghobefhmpfkaaGreatDoor
set_option linter.unusedVariables false
set_option linter.unusedSimpArgs false
namespace Go.Proofs.YtlghobefhmpfkaaGreatDoor
open Go Go.Ev
open Go.ChangeShapes Go.WideShapes Go.ChangeAt Go.RowKit
set_option maxRecDepth 100000
variable {H : Type} {enc : TypeId × Value → H}
end Go.Proofs.YtlghobefhmpfkaaGreatDoor
set_option linter.unusedVariables false
set_option linter.unusedSimpArgs false
namespace Go.Proofs.YtlghobefhmpfkaaGreatDoor
open Go Go.Ev
open Go.ChangeShapes Go.WideShapes Go.ChangeAt Go.RowKit
set_option maxRecDepth 100000
variable {H : Type} {enc : TypeId × Value → H}
end Go.Proofs.YtlghobefhmpfkaaGreatDoor
set_option linter.unusedVariables false
set_option linter.unusedSimpArgs false
namespace Go.Proofs.YtlghobefhmpfkaaGreatDoor
open Go Go.Ev
open Go.ChangeShapes Go.WideShapes Go.ChangeAt Go.RowKit
open Go.ChangeMaps (open_string shut_string)
set_option maxRecDepth 100000
variable {H : Type} {enc : TypeId × Value → H}
theorem var_if {W : World} {name : String} {t : TypeId} {x : Value} (h : W.var? Tryz.prog name = some #[.iface t x]) {b : Nat} (hb : some b = Tryz.prog.globalNamed name) : b < W.heap.size ∧ ∀ (a : Addr) (u : Value), W.cell? a = some u → a.block = b → ∃ t x, u = .iface t x := by
  unfold World.var? at h
  rw [← hb] at h
  simp only [Option.bind_some] at h
  split at h
  · rename_i cs t f e
    refine ⟨(Array.getElem?_eq_some_iff.1 e).1, fun a u ha hab => ?_⟩
    unfold World.cell? at ha
    rw [hab, e] at ha
    simp only [Option.some.injEq] at h
    subst h
    simp only at ha
    split at ha
    · cases ha
    · have hm := Array.mem_of_getElem? ha
      simp only [List.mem_toArray, List.mem_singleton, List.mem_cons, List.not_mem_nil, or_false] at hm
      exact ⟨_, _, hm⟩
  · cases h
theorem var_keep {W W' : World} {name : String} {cs : Array Value} (h : W.var? Tryz.prog name = some cs) (hb : ∀ b, some b = Tryz.prog.globalNamed name → W'.heap[b]? = W.heap[b]?) : W'.var? Tryz.prog name = some cs := by
  unfold World.var? at h ⊢
  cases e : Tryz.prog.globalNamed name with
  | none => rw [e] at h; cases h
  | some g => rw [e] at h; simp only [Option.bind_some] at h ⊢; rw [hb g e.symm]; exact h
def ErrV (w : World) : Prop := w.var? Tryz.prog "errors.errorType" = some #[.iface 199 (.agg #[typeHandle Tryz.prog 24])]
def GL (w : World) : Prop := Pow10 w ∧ ErrR w ∧ ErrV w
def hidL (b : Nat) : Prop := some b = Tryz.prog.globalNamed "internal/strconv.uint64pow10" ∨ some b = Tryz.prog.globalNamed "strconv.ErrRange" ∨ some b = Tryz.prog.globalNamed "errors.errorType"
noncomputable def HL : Hd GL := ⟨hidL, hidL, fun _ h => h, fun w w' h hb => by
  obtain ⟨h1, ⟨tp, p, h2⟩, h3⟩ := h
  exact ⟨HP.st w w' h1 fun b e => hb b (.inl e), ⟨tp, p, var_keep h2 fun b e => hb b (.inr (.inl e))⟩, var_keep h3 fun b e => hb b (.inr (.inr e))⟩, 0, []⟩
theorem HL_lt {W : World} (h : GL W) {b : Nat} (hb : HL b) : b < W.heap.size := by
  obtain ⟨h1, ⟨tp, p, h2⟩, h3⟩ := h
  rcases hb with hb | hb | hb
  · exact HP_lt h1 hb
  · exact (var_if h2 hb).1
  · exact (var_if h3 hb).1
theorem et : Tryz.prog.globalNamed "errors.errorType" = some 0 := by kernel_rfl
theorem hh : typeHandle Tryz.prog 24 = .pointer (some ⟨9, 24, none⟩) := by kernel_rfl
theorem GL.errT {w : World} (h : GL w) : ErrT w := by
  have h3 := h.2.2
  unfold ErrV at h3
  rw [hh] at h3
  have := World.var?_cell et h3 0
  unfold ErrT
  simpa using this
theorem size_eq (s : ByteArray) : s.data.toList.length = s.size := by rw [Array.length_toList]; rfl
theorem own : ownKnob Tryz.prog.godebug = none := by kernel_rfl
theorem gTab : Tryz.prog.globalNamed "internal/strconv.uint64pow10" = some 6 := by kernel_rfl
theorem gTabType : (Tryz.prog.globals[6]?).map (·.type) = some 290 := by kernel_rfl
theorem starE : "*" ++ "errors.errorString" = "*errors.errorString" := by decide
theorem rowE (u : TypeId) (h : Tryz.prog.typeName? 3 u = some "*errors.errorString") : u = 286 :=
  typeName_ptr_named (nm := "errors.errorString") (by rw [starE]; kernel_rfl) (by kernel_rfl) (by decide) u (by rw [starE]; exact h)
theorem rtName : (Tryz.prog.cutTypes.find? (·.1 == "internal/reflectlite.rtype")).map (·.2) = some 199 := by kernel_rfl
theorem tsize : Tryz.prog.types.size = 323 := by kernel_rfl
theorem oneRow : ((List.range 323).filter fun t => Tryz.prog.rowNamed t [101, 114, 114, 111, 114]) = [24] := by kernel_rfl
theorem errV {W : World} (h : handlesMet Tryz.prog [("errors.errorType", Rows.laid_errors_errorType)] W) : ErrV W := by
  obtain ⟨name, u, ty, e1, e2, e3, e4, e5⟩ := h _ (List.mem_singleton.2 rfl)
  have en : name = [101, 114, 114, 111, 114] := (Option.some.inj e1).symm
  subst en
  obtain rfl := Option.some.inj (rtName.symm.trans e2)
  have hm : ty ∈ (List.range 323).filter fun t => Tryz.prog.rowNamed t [101, 114, 114, 111, 114] := List.mem_filter.2 ⟨List.mem_range.2 (by rw [← tsize]; exact e3), e4⟩
  rw [oneRow] at hm
  obtain rfl := List.mem_singleton.1 hm
  exact e5
theorem errR {W : World} {l : List (String × DataW Unit)} (h : laidMet Tryz.prog (("strconv.ErrRange", Rows.laid_strconv_ErrRange) :: l) W) : ErrR W := by
  obtain ⟨a, s, h3, _⟩ := laid_sentinel (g := 3) (ti := 24) (tp := 286) (te := 288) (ts := 9) h (by kernel_rfl) (by kernel_rfl) Tryz.underlying24 rowE Tryz.underlying286 Tryz.underlying288 rfl rfl Tryz.underlying9 (by kernel_rfl) (by kernel_rfl)
  exact ⟨_, _, h3⟩
theorem pow10 {W : World} {l : List (String × DataW Unit)} (h : laidMet Tryz.prog (("internal/strconv.uint64pow10", Rows.laid_internal_strconv_uint64pow10) :: l) W) : Pow10 W :=
  Lib.tabIs_of_head (n := 20) (e := 270) gTab gTabType (by kernel_rfl) (by kernel_rfl) (by kernel_rfl) (by kernel_rfl) h
def lits : List (DataW Unit) → List Value
  | [] => []
  | .lit (.int k z) :: r => Value.int k z :: lits r
  | .agg l :: r => (l.map fun x => match x with | .lit (.int k z) => Value.int k z | _ => undef) ++ lits r
  | _ :: r => lits r
def valsU : DataW Unit → Array Value
  | .agg l => (lits l).toArray
  | _ => #[]
def text : DataW Unit → ByteArray
  | .iface _ (.ptr (.agg [.lit (.string s)])) => ⟨s.toArray⟩
  | _ => ⟨#[]⟩
noncomputable def low (os : Os) : Nat := (World.holding Tryz.prog os ⟨#[], #[], []⟩).heap.size
def put (h : Array Obj) (g : Nat) (cs : Array Value) : Array Obj := h.modify g fun
    | .cells _ t frozen => .cells cs t frozen
    | o => o
noncomputable def laidWorld (os : Os) : World :=
  let w0 := World.holding Tryz.prog os ⟨#[.cells #[.string (text Rows.laid_strconv_ErrRange)] 288, .cells #[.string (text Rows.laid_strconv_ErrSyntax)] 288], #[], []⟩
  let h1 := put w0.heap 6 (valsU Rows.laid_internal_strconv_uint64pow10)
  let h2 := put h1 7 (valsU Rows.laid_math_bits_deBruijn32tab)
  let h3 := put h2 8 (valsU Rows.laid_math_bits_deBruijn64tab)
  let h4 := put h3 3 #[.iface 286 (.pointer (some ⟨low os, 0, none⟩))]
  let h5 := put h4 2 #[.iface 286 (.pointer (some ⟨low os + 1, 0, none⟩))]
  let h6 := put h5 4 (valsU Rows.laid_unicode_utf8_first)
  let h7 := put h6 5 (valsU Rows.laid_unicode_utf8_acceptRanges)
  let h8 := put h7 0 #[.iface 199 (.agg #[.pointer (some ⟨9, 24, none⟩)])]
  { w0 with heap := h8 }
end Go.Proofs.YtlghobefhmpfkaaGreatDoor
set_option linter.unusedVariables false
set_option linter.unusedSimpArgs false
namespace Go.Proofs.YtlghobefhmpfkaaGreatDoor
open Go Go.Ev
open Go.ChangeShapes Go.WideShapes Go.ChangeAt Go.RowKit
open Go.ChangeMaps (open_string shut_string)
set_option maxRecDepth 100000
namespace NormalParses
theorem contract (H : Type) (enc : TypeId × Value → H) (W : World) (base : Nat) (args : Array Value) (ds gs : List (DataW H)) (before : List MemPlace)
    (hval : ∀ (j : Nat) t v, Tryz.f6.params[j]? = some t → args[j]? = some v → Value.okWide Tryz.prog W .any base t v)
    (hW : DataW.Whole enc Tryz.prog Tryz.f6.params.toList Rows.normalParsesSpec.vars false W args.toList ds gs before) (hk : Rows.uptoSmall H (ds ++ gs) = true) (hP : GL W) :
    Calls Tryz.prog 6 args W fun e W' => ∃ v, e = .returned v ∧ Rows.normalParsesSpec.post enc Tryz.prog Tryz.f6 false true false false W args v W' := by
  have hW' := hW
  obtain ⟨p, q, hA0, hV, rfl, hfz, hnd⟩ := hW
  have hA : DataW.TrodAll enc Tryz.prog W 0 (fun _ => true) true Tryz.f6.params.toList args.toList ds p := hA0
  rw [Tryz.params6] at hA hval
  obtain ⟨v0, vs0, d0, ds0, p0, q0, hargs0, rfl, rfl, h0, r0⟩ := trodAll_cons hA
  obtain ⟨rfl, rfl, rfl⟩ := trodAll_nil r0
  obtain rfl : args = #[v0] := by cases args; simp_all
  obtain ⟨rfl, rfl⟩ := trodVars_none hV
  have u3 : Tryz.prog.underlying 3 = some (.int .i64) := Tryz.underlying3
  have u9 : Tryz.prog.underlying 9 = some .string := Tryz.underlying9
  have u4 : Tryz.prog.underlying 4 = some .bool := by kernel_rfl
  obtain ⟨x0, rfl, rfl, rfl, hm0⟩ := open_string u9 (hval 0 9 v0 rfl rfl) h0
  clear hA0
  have hbk : Rows.uptoBulkAll ([DataW.lit (H := H) (.string x0.data.toList)] ++ [] : List (DataW H)) ≤ 1048576 := of_decide_eq_true hk
  simp only [List.append_nil, Rows.uptoBulkAll, Rows.uptoBulk, size_eq] at hbk
  simp only [List.append_nil] at hW'
  refine (law_calls HL (s6 (G := GL) (fun w h => h.2.1) (fun w h => h.errT)) (args := [.d (.v (.string x0))]) (vs := [.string x0]) (W := W) hP (fun b hb => HL_lt hP hb) ?_ ⟨⟨rfl, rfl⟩, trivial⟩).mono fun e W' ⟨he, hg⟩ => ?_
  · simp -dsimp -implicitDefEqProofs only [CLawP, pureC_wp, need_some]
    exact ⟨trivial, by omega, trivial⟩
  · subst he
    have hlt := hW'.lt
    have lo : laidOutB Tryz.prog = true := by kernel_rfl
    exact ⟨_, rfl, post_of_below (pa := ([] ++ [])) (pv := []) hW' (fun _ _ _ => (trodAll_cons_mk (shut_bool u4 _) trodAll_mk0)) (fun sp hsp => (trodAll_cons_mk (shut_string u9 hm0) trodAll_mk0)) (fun _ _ => rfl) (by simp)
      hg (ok_one (by kernel_rfl) rfl (okWide_bool_mk u4 _))⟩
theorem gl {W : World} (h : laidMetH Tryz.prog Rows.normalParsesUptoRow.laid W) : GL W := by
  have h' : laidMet Tryz.prog [("math/bits.deBruijn32tab", Rows.laid_math_bits_deBruijn32tab), ("math/bits.deBruijn64tab", Rows.laid_math_bits_deBruijn64tab), ("internal/strconv.uint64pow10", Rows.laid_internal_strconv_uint64pow10), ("unicode/utf8.acceptRanges", Rows.laid_unicode_utf8_acceptRanges), ("strconv.ErrRange", Rows.laid_strconv_ErrRange), ("strconv.ErrSyntax", Rows.laid_strconv_ErrSyntax), ("unicode/utf8.first", Rows.laid_unicode_utf8_first)] W ∧ handlesMet Tryz.prog [("errors.errorType", Rows.laid_errors_errorType)] W := h
  exact ⟨pow10 (laidMet.tail (laidMet.tail (h'.1))), errR (laidMet.tail (laidMet.tail (laidMet.tail (laidMet.tail (h'.1))))), errV h'.2⟩
abbrev wargs : Array Value := #[.string ⟨#[]⟩]
theorem laid_met (os : Os) : laidMetH Tryz.prog Rows.normalParsesUptoRow.laid ((laidWorld os).forCall (fun _ _ => 0) ⟨#[], wargs, []⟩).memory :=
  laidMetH_of_parts (laidMet_of_run' 8 (by kernel_rfl) (by kernel_rfl)) (by kernel_rfl)
theorem reads (os : Os) {H : Type} (enc : TypeId × Value → H) : ∃ places, DataW.whole enc Tryz.prog ((laidWorld os).forCall (fun _ _ => 0) ⟨#[], wargs, []⟩).memory Tryz.f6.params.toList Rows.normalParsesSpec.vars false wargs.toList 8 = some ([.lit (.string [])], [], places) :=
  ⟨[], by kernel_rfl⟩
theorem liftedUpto (os : Os) (started : os.Started) (H : Type) (enc : TypeId × Value → H) (F : Stop.Interp) :
    ReturnsInHanded {} Tryz.checked os 6 .any ((Rows.OpenSpec.upto Rows.normalParsesSpec).preRow enc Tryz.prog Tryz.f6 Rows.normalParsesUptoRow.domain false Rows.normalParsesUptoRow.laid) (((Rows.OpenSpec.upto Rows.normalParsesSpec).at F).post enc Tryz.prog Tryz.f6 false true false false) := by
  obtain ⟨places, hx⟩ := reads os enc
  refine returnsInHanded_of_row (C := Tryz.checked) (s := Rows.OpenSpec.upto Rows.normalParsesSpec) own started (by kernel_rfl) Tryz.func6
    (witness_row_atRef (enc := enc) (C := Tryz.checked) false (laidWorld os) wargs rfl (by kernel_rfl) (by kernel_rfl) (by kernel_rfl)
      (OpenSpec.preRow_of_cond 8 hx (by kernel_rfl) (fun k hk => by cases hk; kernel_rfl) (by kernel_rfl) (laid_met os))) ?_
  intro W base args ds gs before hval hW _ hcond _ hL _ _
  exact contract H enc W base args ds gs before hval hW (hcond _ rfl) (gl hL)
theorem saidUpto : Rows.NormalParsesUptoSaid :=
  OpenClaim.holds_of_cond 6 Tryz.f6 rfl rfl rfl rfl rfl rfl rfl ⟨rfl, rfl, rfl, rfl, rfl⟩ rfl rfl rfl rfl rfl (by kernel_rfl) Tryz.func6 (by kernel_rfl)
    (of_decide_eq_true (by kernel_rfl)) (by unfold Func.isWrapper; first | (rw [if_pos (by decide +kernel)]; kernel_rfl) | (rw [if_neg (by decide +kernel)]; exact ⟨rfl, rfl⟩))
    (fun os started H enc _ F => by rw [OpenClaim.pre_eq_preRow]; exact liftedUpto os started H enc F)
theorem plain (f : FuncId) (fn : Func) (hf : Tryz.pinned.checked.prog.funcNamed "redline/redlinelaw12.NormalParses" = some f) (hfn : Tryz.pinned.checked.prog.funcs[f]? = some fn) :
    true = Tryz.pinned.checked.prog.looks [] ∧ ∀ (j : Nat) t, fn.params[j]? = some t → Tryz.pinned.checked.prog.wantsStandIn t = false := by
  obtain rfl : f = 6 := Option.some.inj ((show Tryz.prog.funcNamed "redline/redlinelaw12.NormalParses" = some 6 by kernel_rfl).symm.trans hf) |>.symm
  obtain rfl : fn = Tryz.f6 := (Option.some.inj (Tryz.func6.symm.trans hfn)).symm
  refine ⟨by kernel_rfl, fun j t ht => ?_⟩
  have hall : (Tryz.f6.params.toList.all fun u => !Tryz.prog.wantsStandIn u) = true := by kernel_rfl
  have hm : t ∈ Tryz.f6.params.toList := by simpa using Array.mem_of_getElem? ht
  exact (show Tryz.prog.wantsStandIn t = false by simpa using List.all_eq_true.1 hall t hm)
theorem cardUpto : Rows.NormalParsesUptoCardSaid :=
  Claim7.holds_tied_plain_at .later [] _ _ _ _ saidUpto (fun _ h => by cases h) (by kernel_rfl) (fun _ h => by cases h) normalParsesUpto_row_tie rfl ⟨rfl, rfl⟩ (by kernel_rfl) rfl plain (by kernel_rfl)
end NormalParses
end Go.Proofs.YtlghobefhmpfkaaGreatDoor
