/- UnifiedAgain: what is read of any text is written and read again as the same Part 3 of 6. -/
import Derived.RecoverIn
import Derived.Test.YtlghobefhmpfkaaGreatDoorProg
import Derived.Shelf.Strings.Builder1
import Derived.Shelf.Small.Utf8
import Derived.Shelf.Small.Strs
import Derived.Shelf.Strings.BuilderF
import Derived.Shelf.Strconv.Atoi
import Derived.Shelf.Strconv.Itoa0
import Derived.Shelf.Strconv.Itoa1
import Derived.Shelf.LaysM
import Derived.Shelf.Strconv.Itoa2
import Derived.Shelf.Strconv.Itoa3
import Derived.Shelf.Strconv.AtoiErrFast
import Derived.Shelf.Strconv.ParseIntEmpty
import Derived.Shelf.Strconv.AtoiFail
import Derived.Shelf.Strconv.Clone
import Derived.Shelf.Strconv.SyntaxError
import Derived.Shelf.LaysC
import Derived.Shelf.Strconv.ToError
import Derived.Shelf.Strconv.Lower
import Derived.Shelf.Strconv.ParseUint10
import Derived.Shelf.Strconv.ParseUint10Empty
import Derived.Shelf.Strconv.ParseUint10Any
import Derived.Shelf.Strconv.ParseInt10
import Derived.Shelf.Strconv.AtoiLong
import Derived.Shelf.Strconv.AtoiInnerAll
import Derived.Shelf.Strconv.RangeError
import Derived.Shelf.Strconv.ToErrorRange
import Derived.Shelf.Strconv.AtoiAll
import Derived.Shelf.Strconv.ErrVarAll
import Derived.Shelf.Strings.Search1
import Derived.Shelf.Strings.Search2
import Derived.Shelf.Strings.Search3
import Derived.Shelf.Strings.Cut
import Derived.Shelf.Strings.Count
import Derived.Shelf.Strings.Shaped
import Derived.Shelf.Strings.Prefix
import Derived.Shelf.Strings.Split
import Derived.Shelf.Strings.Runes
import Derived.Shelf.Strings.IndexAny
import Derived.Shelf.Strings.AsciiSet
import Derived.Shelf.Strings.IndexAnyAll
import Derived.Shelf.Unicode.DecodeSlow
import Derived.Lib.ItoaLen
import Derived.Lib.Strings
import Derived.Lib.Slices
import Derived.Lib.Walk
import Derived.Lib.Builder
import Derived.Lib.UnsafeStr
import Derived.WalkKit
import Derived.Laws.Externs
import Derived.SliceStrings
import Derived.Lib.LaidTab
import Derived.Below
import Derived.ChangeSame
import Derived.ProofKit
import Derived.OpenShut
import Derived.Test.YtlghobefhmpfkaaGreatDoorRows
import Derived.Deep.Slices
import Derived.Deep.Fields
import Derived.Lib.IndexBytes
import Derived.Lib.AtoiErrMem
import Derived.Laws.RangeAny
import Derived.Lib.Bytealg
import Derived.Test.YtlghobefhmpfkaaGreatDoorUa1
import Derived.Test.YtlghobefhmpfkaaGreatDoorUa2
set_option linter.unusedSimpArgs false
set_option linter.unusedVariables false
namespace Go.Ev
open Go
set_option maxRecDepth 100000
theorem P : type_of% (And.intro @Go.Ev.ffI (And.intro @Go.Ev.ttI (And.intro @Go.Ev.tfI (And.intro @Go.Ev.ftI (And.intro @Go.Ev.xBrks (And.intro @Go.Ev.lks (And.intro @Go.Ev.xSteps (And.intro @Go.Ev.xEvs (And.intro @Go.Ev.thenK_normal (And.intro @Go.Ev.thenK_exit (And.intro @Go.Ev.thenK_ret (And.intro @Go.Ev.blockK_normal (And.intro @Go.Ev.blockK_ret (And.intro @Go.Ev.blockK_exit (And.intro @Go.Ev.need_some (And.intro @Go.Ev.callS.eq_1 (And.intro @Go.Ev.pureC_wp (And.intro @Go.Ev.retK_normal (And.intro @Go.Ev.retK_ret (And.intro @Go.Ev.outK.eq_1 (And.intro @Go.Ev.andC.eq_1 (And.intro @Go.Ev.andC.eq_2 (And.intro @Go.Ev.impC.eq_1 (And.intro @Go.Ev.impC.eq_2 (And.intro @Go.Ev.kpC_no (And.intro @Go.Ev.kpC_yes (And.intro @Go.Ev.bldC_wp (And.intro @Go.Ev.strC_wp (And.intro @Go.Ev.stC_wp (And.intro @Go.Ev.xeachK_normal (And.intro @Go.Ev.xeachK_exit (@Go.Ev.xeachK_ret)))))))))))))))))))))))))))))))) := And.intro @Go.Ev.ffI (And.intro @Go.Ev.ttI (And.intro @Go.Ev.tfI (And.intro @Go.Ev.ftI (And.intro @Go.Ev.xBrks (And.intro @Go.Ev.lks (And.intro @Go.Ev.xSteps (And.intro @Go.Ev.xEvs (And.intro @Go.Ev.thenK_normal (And.intro @Go.Ev.thenK_exit (And.intro @Go.Ev.thenK_ret (And.intro @Go.Ev.blockK_normal (And.intro @Go.Ev.blockK_ret (And.intro @Go.Ev.blockK_exit (And.intro @Go.Ev.need_some (And.intro @Go.Ev.callS.eq_1 (And.intro @Go.Ev.pureC_wp (And.intro @Go.Ev.retK_normal (And.intro @Go.Ev.retK_ret (And.intro @Go.Ev.outK.eq_1 (And.intro @Go.Ev.andC.eq_1 (And.intro @Go.Ev.andC.eq_2 (And.intro @Go.Ev.impC.eq_1 (And.intro @Go.Ev.impC.eq_2 (And.intro @Go.Ev.kpC_no (And.intro @Go.Ev.kpC_yes (And.intro @Go.Ev.bldC_wp (And.intro @Go.Ev.strC_wp (And.intro @Go.Ev.stC_wp (And.intro @Go.Ev.xeachK_normal (And.intro @Go.Ev.xeachK_exit (@Go.Ev.xeachK_ret)))))))))))))))))))))))))))))))
theorem Q : type_of% (And.intro @Go.Ev.gc.eq_1 (And.intro @Go.Ev.fnl.eq_1 (And.intro @Go.Ev.fnl.eq_2 (And.intro @Go.Ev.fnl.eq_3 (And.intro @Go.Ev.fnl.eq_4 (And.intro @Go.Ev.fnl.eq_5 (And.intro @Go.Ev.fnl.eq_6 (And.intro @Go.Ev.fnl.eq_7 (And.intro @Go.Ev.fnl.eq_8 (And.intro @Go.Ev.fnl.eq_9 (And.intro @Go.Ev.fnl.eq_10 (And.intro @Go.Ev.fnl.eq_11 (And.intro @Go.Ev.fnl.eq_12 (And.intro @Go.Ev.fnl.eq_13 (And.intro @Go.Ev.fnl.eq_14 (And.intro @Go.Ev.fnl.eq_15 (And.intro @Go.Ev.fnl.eq_16 (And.intro @Go.Ev.fnl.eq_17 (And.intro @Go.Ev.fnl.eq_18 (And.intro @Go.Ev.fnl.eq_19 (And.intro @Go.Ev.fnl.eq_20 (And.intro @Go.Ev.fnl.eq_21 (And.intro @Go.Ev.fnl.eq_22 (And.intro @Go.Ev.fnl.eq_23 (And.intro @Go.Ev.fnl.eq_24 (And.intro @Go.Ev.slots.eq_1 (And.intro @Go.Ev.slots.eq_2 (And.intro @Go.Ev.slots.eq_3 (And.intro @Go.Ev.slots.eq_4 (And.intro @Go.Ev.slots.eq_5 (And.intro @Go.Ev.slots.eq_6 (And.intro @Go.Ev.slots.eq_7 (And.intro @Go.Ev.slots.eq_8 (And.intro @Go.Ev.slots.eq_9 (And.intro @Go.Ev.slots.eq_10 (And.intro @Go.Ev.slots.eq_11 (And.intro @Go.Ev.slots.eq_12 (And.intro @Go.Ev.slots.eq_13 (And.intro @Go.Ev.slots.eq_14 (And.intro @Go.Ev.slots.eq_15 (And.intro @Go.Ev.slots.eq_16 (And.intro @Go.Ev.slots.eq_17 (And.intro @Go.Ev.slots.eq_18 (And.intro @Go.Ev.slots.eq_19 (And.intro @Go.Ev.slots.eq_20 (And.intro @Go.Ev.slots.eq_21 (And.intro @Go.Ev.slots.eq_22 (And.intro @Go.Ev.slots.eq_23 (And.intro @Go.Ev.slots.eq_24 (And.intro @Go.Ev.slots.eq_25 (And.intro @Go.Ev.slots.eq_26 (And.intro @Go.Ev.slots.eq_27 (And.intro @Go.Ev.slots.eq_28 (And.intro @Go.Ev.slots.eq_29 (And.intro @Go.Ev.slots.eq_30 (And.intro @Go.Ev.slots.eq_31 (And.intro @Go.Ev.slots.eq_32 (And.intro @Go.Ev.slots.eq_33 (And.intro @Go.Ev.slots.eq_34 (And.intro @Go.Ev.slots.eq_35 (And.intro @Go.Ev.slots.eq_36 (And.intro @Go.Ev.slots.eq_37 (And.intro @Go.Ev.slots.eq_38 (And.intro @Go.Ev.slots.eq_39 (And.intro @Go.Ev.slots.eq_40 (And.intro @Go.Ev.slots.eq_41 (And.intro @Go.Ev.slotsL.eq_1 (And.intro @Go.Ev.slotsL.eq_2 (And.intro @Go.Ev.slotsL.eq_3 (And.intro @Go.Ev.slotsL.eq_4 (And.intro @Go.Ev.optL.eq_1 (And.intro @Go.Ev.optL.eq_2 (And.intro @Go.Ev.Rv.sl.eq_1 (And.intro @Go.Ev.Rv.sl.eq_2 (And.intro @Go.Ev.St.unS.eq_1 (And.intro @Go.Ev.St.unS.eq_2 (And.intro @Go.Ev.St.un1.eq_1 (And.intro @Go.Ev.pv.eq_1 (And.intro @Go.Ev.pv.eq_2 (And.intro @Go.Ev.pv.eq_3 (And.intro @Go.Ev.pv.eq_4 (And.intro @Go.Ev.pv.eq_5 (And.intro @Go.Ev.pv.eq_6 (And.intro @Go.Ev.pv.eq_7 (And.intro @Go.Ev.pv.eq_8 (And.intro @Go.Ev.pv.eq_9 (And.intro @Go.Ev.pv.eq_10 (And.intro @Go.Ev.pv.eq_11 (And.intro @Go.Ev.pv.eq_12 (And.intro @Go.Ev.pv.eq_13 (And.intro @Go.Ev.pv.eq_14 (And.intro @Go.Ev.pv.eq_15 (And.intro @Go.Ev.pv.eq_16 (And.intro @Go.Ev.pv.eq_17 (And.intro @Go.Ev.pv.eq_18 (And.intro @Go.Ev.pv.eq_19 (And.intro @Go.Ev.pv.eq_20 (And.intro @Go.Ev.pv.eq_21 (And.intro @Go.Ev.pv.eq_22 (And.intro @Go.Ev.pv.eq_23 (And.intro @Go.Ev.pv.eq_24 (And.intro @Go.Ev.pvX.eq_1 (And.intro @Go.Ev.pvX.eq_2 (And.intro @Go.Ev.binP.eq_1 (And.intro @Go.Ev.binP.eq_2 (And.intro @Go.Ev.binP.eq_3 (And.intro @Go.Ev.binP.eq_4 (And.intro @Go.Ev.binP.eq_5 (And.intro @Go.Ev.binP.eq_6 (And.intro @Go.Ev.okU.eq_1 (And.intro @Go.Ev.okU.eq_2 (And.intro @Go.Ev.SV.un.eq_1 (And.intro @Go.Ev.SV.un.eq_2 (And.intro @Go.Ev.St.put.eq_1 (And.intro @Go.Ev.St.putO.eq_1 (And.intro @Go.Ev.St.putO.eq_2 (And.intro @Go.Ev.St.get.eq_1 (And.intro @Go.Ev.Rv.get.eq_1 (And.intro @Go.Ev.Rv.get.eq_2 (And.intro @Go.Ev.Rv.get.eq_3 (And.intro @Go.Ev.kSV.eq_1 (And.intro @Go.Ev.kSV.eq_2 (And.intro @Go.Ev.need_none (And.intro @Go.Ev.need_ite (And.intro @Go.Ev.sem_bin (And.intro @Go.Ev.sem_sel (And.intro @Go.Ev.bins (And.intro @Go.Ev.adds (And.intro @Go.Ev.optInt.eq_1 (And.intro @Go.Ev.optInt.eq_2 (And.intro @Go.Ev.osOf.eq_1 (And.intro @Go.Ev.dd.eq_1 (And.intro @Go.Ev.dd.eq_2 (And.intro @Go.Ev.idsA.eq_1 (And.intro @Go.Ev.idsA.eq_2 (And.intro @Go.Ev.idsA.eq_3 (And.intro @Go.Ev.idsA.eq_4 (And.intro @Go.Ev.idsC.eq_1 (And.intro @Go.Ev.idsC.eq_2 (And.intro @Go.Ev.idsC.eq_3 (And.intro @Go.Ev.idsC.eq_4 (And.intro @Go.Ev.St.giveL.eq_1 (And.intro @Go.Ev.St.giveL.eq_2 (And.intro @Go.Ev.St.give.eq_1 (And.intro @Go.Ev.St.give.eq_2 (And.intro @Go.Ev.St.give1.eq_1 (And.intro @Go.Ev.St.give1.eq_2 (And.intro @Go.Ev.St.give1.eq_3 (And.intro @Go.Ev.St.lend.eq_1 (And.intro @Go.Ev.St.lend.eq_2 (And.intro @Go.Ev.St.lend1.eq_1 (And.intro @Go.Ev.St.lend1.eq_2 (And.intro @Go.Ev.St.lend1.eq_3 (And.intro @Go.Ev.St.lend1.eq_4 (And.intro @Go.Ev.St.lend1.eq_5 (And.intro @Go.Ev.St.sub.eq_1 (And.intro @Go.Ev.subO.eq_1 (And.intro @Go.Ev.subO.eq_2 (And.intro @Go.Ev.St.merge.eq_1 (And.intro @Go.Ev.SV.ren.eq_1 (And.intro @Go.Ev.SV.ren.eq_2 (And.intro @Go.Ev.SV.ren.eq_3 (And.intro @Go.Ev.SV.ren.eq_4 (And.intro @Go.Ev.SV.ren.eq_5 (And.intro @Go.Ev.SV.ren.eq_6 (And.intro @Go.Ev.SV.ren.eq_7 (And.intro @Go.Ev.SV.ren.eq_8 (And.intro @Go.Ev.SV.ren.eq_9 (And.intro @Go.Ev.SV.ren.eq_10 (And.intro @Go.Ev.pureC_pf (And.intro @Go.Ev.rrL.eq_1 (And.intro @Go.Ev.rrL.eq_2 (And.intro @Go.Ev.RR.get.eq_1 (And.intro @Go.Ev.RR.get.eq_2 (And.intro @Go.Ev.retV.eq_1 (And.intro @Go.Ev.retV.eq_2 (And.intro @Go.Ev.st0.eq_1 (And.intro @Go.Ev.slots0.eq_1 (And.intro @Go.Ev.slots0.eq_2 (And.intro @Go.Ev.scal.eq_1 (And.intro @Go.Ev.scal.eq_2 (And.intro @Go.Ev.scal1.eq_1 (And.intro @Go.Ev.scal1.eq_2 (And.intro @Go.Ev.St.store.eq_1 (And.intro @Option.getD.eq_1.{0} (And.intro @Option.getD.eq_2.{0} (And.intro @Option.map.eq_1.{0, 0} (And.intro @Option.map.eq_2.{0, 0} (And.intro @Option.bind.eq_1.{0, 0} (And.intro @Option.bind.eq_2.{0, 0} (And.intro @List.map.eq_1.{0, 0} (And.intro @List.map.eq_2.{0, 0} (And.intro @List.flatMap_nil.{0, 0} (And.intro @List.flatMap_cons.{0, 0} (And.intro @List.append.eq_1.{0} (And.intro @List.append.eq_2.{0} (And.intro @List.nil_append.{0} (And.intro @List.length_nil.{0} (And.intro @List.length_cons.{0} (And.intro @List.nodup_nil.{0} (And.intro @List.take_nil.{0} (And.intro @List.range_zero (And.intro @List.not_mem_nil.{0} (And.intro @imp_self (And.intro @Go.Ev.tabT.eq_1 (And.intro @true_and (And.intro @and_true (And.intro @and_self (And.intro @Bool.and_eq_true (And.intro @decide_eq_true_eq (And.intro @Option.bind_some.{0, 0} (And.intro @Option.map_some.{0, 0} (And.intro @false_implies (And.intro @Bool.false_eq_true (And.intro @Int.toNat_natCast (And.intro @Int.toNat_zero (And.intro @Go.Ev.St.norm.eq_1 (And.intro @Go.Ev.normOk.eq_1 (And.intro @List.nodup_cons.{0} (And.intro @not_false_eq_true (And.intro @List.getElem?_cons_zero.{0} (And.intro @List.getElem?_cons_succ.{0} (And.intro @Nat.sub_self (And.intro @Nat.add_zero (And.intro @Nat.zero_add (And.intro @Go.Ev.sem_str (And.intro @Go.Ev.take_all (And.intro @Go.Ev.ldOk.eq_1 (And.intro @Go.Ev.ldOk.eq_2 (And.intro @Go.Ev.ldOk.eq_3 (And.intro @Go.Ev.modsOk.eq_1 (And.intro @Go.Ev.mods.eq_1 (And.intro @Go.Ev.mods.eq_2 (And.intro @Go.Ev.mods.eq_3 (And.intro @Go.Ev.mods.eq_4 (And.intro @Go.Ev.mods.eq_5 (And.intro @Go.Ev.mods.eq_6 (And.intro @Go.Ev.mods.eq_7 (And.intro @Int.toNat_one (And.intro @Int.le_refl (And.intro @ne_eq.{1} (And.intro @Go.Ev.u8rt (And.intro @List.getD_cons_zero.{0} (And.intro @List.getD_cons_succ.{0} (And.intro @Go.Ev.St.rows.eq_1 (And.intro @Go.Ev.St.rows.eq_2 (And.intro @Go.Ev.St.rows.eq_3 (And.intro @Go.Ev.St.rows.eq_4 (And.intro @Go.Ev.rowParts.eq_1 (And.intro @Go.Ev.rowParts.eq_2 (And.intro @Go.Ev.St.frz.eq_1 (And.intro @Go.Ev.St.frz.eq_2 (And.intro @Go.Ev.St.frz.eq_3 (And.intro @Go.Ev.St.frz.eq_4 (And.intro @Go.Ev.St.frzL.eq_1 (And.intro @Go.Ev.St.frzL.eq_2 (And.intro @Go.Ev.SV.cells.eq_1 (And.intro @Go.Ev.SV.cells.eq_2 (And.intro @Go.Ev.SV.cells.eq_3 (And.intro @Go.Ev.SV.cells.eq_4 (And.intro @Go.Ev.SV.cells.eq_5 (And.intro @Go.Ev.allD.eq_1 (And.intro @Go.Ev.allD.eq_2 (And.intro @Go.Ev.allD.eq_3 (And.intro @Go.Ev.St.setO.eq_1 (And.intro @Go.Ev.St.newO.eq_1 (And.intro @Go.Ev.bytesOf_rows (And.intro @List.idxOf?_cons.{0} (And.intro @List.idxOf?_nil.{0} (And.intro @beq_self_eq_true.{0} (And.intro @Option.isSome.eq_1.{0} (And.intro @Option.isSome.eq_2.{0} (And.intro @Bool.not_true (And.intro @Bool.not_false (And.intro @true_implies (And.intro @Bool.not_eq_true' (And.intro @Bool.not_eq_false' (And.intro @decide_eq_false_iff_not (And.intro @Bool.true_eq_false (And.intro @List.drop_succ_cons.{0} (And.intro @List.drop_zero.{0} (And.intro @decide_true (And.intro @decide_false (And.intro @not_true_eq_false (And.intro @Nat.add_one_sub_one (And.intro @List.take_length.{0} (And.intro @Go.Ev.bytesOf.eq_1 (And.intro @Go.Ev.bytesOf.eq_2 (And.intro @Go.Ev.byteOf.eq_1 (And.intro @Go.Ev.byteOf.eq_2 (And.intro @List.forall_mem_cons.{0} (And.intro @List.take_zero.{0} (And.intro @List.mem_singleton.{0} (And.intro @Go.Ev.Ob.ren.eq_1 (And.intro @Go.Ev.Ob.ren.eq_2 (And.intro @Int.natCast_zero (And.intro @Bool.or_eq_true (And.intro @Bool.or_eq_false_iff (And.intro @Bool.and_eq_false_iff (And.intro @Go.Ev.St.keep.eq_1 (And.intro @Go.Ev.unC.eq_1 (And.intro @Go.Ev.unC.eq_2 (And.intro @Go.Ev.okC.eq_1 (And.intro @Go.Ev.okC.eq_2 (And.intro @Go.Ev.oand.eq_1 (And.intro @Go.Ev.oand.eq_2 (And.intro @Go.Ev.oand.eq_3 (And.intro @Go.Ev.pvD.eq_1 (And.intro @Go.Ev.pvD.eq_2 (And.intro @Go.Ev.tkC.eq_1 (And.intro @Go.Ev.tkC.eq_2 (And.intro @Go.Ev.tkC.eq_3 (And.intro @Go.Ev.moC.eq_1 (And.intro @Go.Ev.moC.eq_2 (And.intro @Go.Ev.hasC.eq_1 (And.intro @Go.Ev.hasC.eq_2 (And.intro @Go.Ev.freeL_one (And.intro @Go.Ev.freeL.eq_1 (And.intro @Go.Ev.freeL.eq_2 (And.intro @Go.Ev.noCe.eq_1 (And.intro @Go.Ev.moR.eq_1 (And.intro @Go.Ev.moR.eq_2 (And.intro @Go.Ev.modsF.eq_1 (And.intro @Go.Ev.nxF.eq_1 (And.intro @Go.Ev.nxF.eq_2 (And.intro @Go.Ev.nxF.eq_3 (And.intro @Go.Ev.keepC.eq_1 (And.intro @Go.Ev.keepC.eq_2 (And.intro @Go.Ev.keepL.eq_1 (And.intro @Go.Ev.keepL.eq_2 (And.intro @Go.Ev.keepL.eq_3 (And.intro @Go.Ev.inX.eq_1 (And.intro @Go.Ev.inX.eq_2 (And.intro @Go.Ev.detP.eq_1 (And.intro @Go.Ev.detP.eq_2 (And.intro @Go.Ev.detP.eq_3 (And.intro @Go.Ev.detP.eq_4 (And.intro @Go.Ev.pkC.eq_1 (And.intro @Go.Ev.pkC.eq_2 (And.intro @Go.Ev.pkC.eq_3 (And.intro @Go.Ev.pkC.eq_4 (And.intro @Go.Ev.ariV.eq_1 (And.intro @Go.Ev.ariV.eq_2 (And.intro @Go.Ev.ariV.eq_3 (And.intro @Go.Ev.ariV.eq_4 (And.intro @Go.Ev.tns (And.intro @Go.Ev.byteRows_len (And.intro @List.mem_cons.{0} (And.intro @true_or (And.intro @or_true (And.intro @or_false (And.intro @false_or (And.intro @List.mem_nil_iff.{0} (And.intro @Go.Ev.scalL.eq_1 (And.intro @Go.Ev.scalL.eq_2 (And.intro @Go.Ev.scalL.eq_3 (And.intro @Go.Ev.scalL.eq_4 (And.intro @Go.Ev.bytesIn.eq_1 (And.intro @Go.Ev.bytesIn.eq_2 (And.intro @Go.Ev.bytesIn.eq_3 (And.intro @Go.Ev.bytesIn_rows (And.intro @Go.Ev.byteU8 (And.intro @Go.Ev.u8_range (And.intro @List.append_nil.{0} (And.intro @List.cons_append.{0} (And.intro @Go.Ev.back.eq_1 (And.intro @List.filter_nil.{0} (And.intro @List.filter_cons.{0} (And.intro @beq_iff_eq.{0} (And.intro @Go.Ev.bytesOf_app (And.intro @Bool.and_true (And.intro @Bool.true_and (And.intro @Bool.and_false (And.intro @Bool.false_and (And.intro @Bool.or_true (And.intro @Bool.or_false (And.intro @Bool.true_or (And.intro @Bool.false_or (And.intro @Go.Ev.splice.eq_1 (And.intro @List.take_succ_cons.{0} (And.intro @List.drop_nil.{0} (And.intro @Nat.sub_zero (And.intro @Go.Ev.ranges (And.intro @Go.Ev.St.rowsF.eq_1 (And.intro @Go.Ev.St.rowsF.eq_2 (And.intro @Go.Ev.St.rowsF.eq_3 (And.intro @Go.Ev.St.rowsF.eq_4 (And.intro @Go.Ev.intsOf.eq_1 (And.intro @Go.Ev.intsOf.eq_2 (And.intro @Go.Ev.mm_min (And.intro @Go.Ev.mm_max (And.intro @List.foldl_cons.{0, 0} (And.intro @List.foldl_nil.{0, 0} (And.intro @Go.Ev.spliceD.eq_1 (And.intro @Go.Ev.parts.eq_1 (And.intro @Go.Ev.parts.eq_2 (And.intro @Go.Ev.allSl.eq_1 (And.intro @Go.Ev.dsts.eq_1 (And.intro @Go.Ev.dsts.eq_2 (And.intro @Go.Ev.dsts.eq_3 (And.intro @Go.Ev.inN.eq_1 (And.intro @Go.Ev.inN.eq_2 (And.intro @Go.Ev.lk_dropS (And.intro @Go.Ev.byteRows_append (And.intro @Go.Ev.nilV.eq_1 (And.intro @Go.Ev.nilV.eq_2 (And.intro @Go.Ev.nilV.eq_3 (And.intro @Go.Ev.nilV.eq_4 (And.intro @Go.Ev.nilV.eq_5 (And.intro @Go.Ev.nilV.eq_6 (And.intro @Go.Ev.nilV.eq_7 (And.intro @Go.Ev.eqv.eq_1 (And.intro @Go.Ev.eqv.eq_2 (And.intro @Go.Ev.eqv.eq_3 (And.intro @Go.Ev.eqv.eq_4 (And.intro @Go.Ev.eqL.eq_1 (And.intro @Go.Ev.eqL.eq_2 (And.intro @Go.Ev.eqL.eq_3 (And.intro @Go.Ev.eqA.eq_1 (And.intro @Go.Ev.eqA.eq_2 (And.intro @List.map_replicate.{0, 0} (And.intro @List.length_replicate.{0} (And.intro @List.drop_replicate.{0} (And.intro @List.replicate_zero.{0} (And.intro @Go.Ev.putL.eq_1 (And.intro @Go.Ev.putL.eq_2 (And.intro @Go.Ev.slN.eq_1 (And.intro @Go.Ev.noE.eq_1 (And.intro @List.set_cons_zero.{0} (And.intro @List.set_cons_succ.{0} (And.intro @Go.Ev.St.giveC.eq_1 (@Go.Ev.St.giveC.eq_2)))))))))))))))))))))))))))))))))))))))))))))))))))))))))))))))))))))))))))))))))))))))))))))))))))))))))))))))))))))))))))))))))))))))))))))))))))))))))))))))))))))))))))))))))))))))))))))))))))))))))))))))))))))))))))))))))))))))))))))))))))))))))))))))))))))))))))))))))))))))))))))))))))))))))))))))))))))))))))))))))))))))))))))))))))))))))))))))))))))))))))))))))))))))))))))))))))))))))))))))))))))))))))))))))))))))))))))))) := And.intro @Go.Ev.gc.eq_1 (And.intro @Go.Ev.fnl.eq_1 (And.intro @Go.Ev.fnl.eq_2 (And.intro @Go.Ev.fnl.eq_3 (And.intro @Go.Ev.fnl.eq_4 (And.intro @Go.Ev.fnl.eq_5 (And.intro @Go.Ev.fnl.eq_6 (And.intro @Go.Ev.fnl.eq_7 (And.intro @Go.Ev.fnl.eq_8 (And.intro @Go.Ev.fnl.eq_9 (And.intro @Go.Ev.fnl.eq_10 (And.intro @Go.Ev.fnl.eq_11 (And.intro @Go.Ev.fnl.eq_12 (And.intro @Go.Ev.fnl.eq_13 (And.intro @Go.Ev.fnl.eq_14 (And.intro @Go.Ev.fnl.eq_15 (And.intro @Go.Ev.fnl.eq_16 (And.intro @Go.Ev.fnl.eq_17 (And.intro @Go.Ev.fnl.eq_18 (And.intro @Go.Ev.fnl.eq_19 (And.intro @Go.Ev.fnl.eq_20 (And.intro @Go.Ev.fnl.eq_21 (And.intro @Go.Ev.fnl.eq_22 (And.intro @Go.Ev.fnl.eq_23 (And.intro @Go.Ev.fnl.eq_24 (And.intro @Go.Ev.slots.eq_1 (And.intro @Go.Ev.slots.eq_2 (And.intro @Go.Ev.slots.eq_3 (And.intro @Go.Ev.slots.eq_4 (And.intro @Go.Ev.slots.eq_5 (And.intro @Go.Ev.slots.eq_6 (And.intro @Go.Ev.slots.eq_7 (And.intro @Go.Ev.slots.eq_8 (And.intro @Go.Ev.slots.eq_9 (And.intro @Go.Ev.slots.eq_10 (And.intro @Go.Ev.slots.eq_11 (And.intro @Go.Ev.slots.eq_12 (And.intro @Go.Ev.slots.eq_13 (And.intro @Go.Ev.slots.eq_14 (And.intro @Go.Ev.slots.eq_15 (And.intro @Go.Ev.slots.eq_16 (And.intro @Go.Ev.slots.eq_17 (And.intro @Go.Ev.slots.eq_18 (And.intro @Go.Ev.slots.eq_19 (And.intro @Go.Ev.slots.eq_20 (And.intro @Go.Ev.slots.eq_21 (And.intro @Go.Ev.slots.eq_22 (And.intro @Go.Ev.slots.eq_23 (And.intro @Go.Ev.slots.eq_24 (And.intro @Go.Ev.slots.eq_25 (And.intro @Go.Ev.slots.eq_26 (And.intro @Go.Ev.slots.eq_27 (And.intro @Go.Ev.slots.eq_28 (And.intro @Go.Ev.slots.eq_29 (And.intro @Go.Ev.slots.eq_30 (And.intro @Go.Ev.slots.eq_31 (And.intro @Go.Ev.slots.eq_32 (And.intro @Go.Ev.slots.eq_33 (And.intro @Go.Ev.slots.eq_34 (And.intro @Go.Ev.slots.eq_35 (And.intro @Go.Ev.slots.eq_36 (And.intro @Go.Ev.slots.eq_37 (And.intro @Go.Ev.slots.eq_38 (And.intro @Go.Ev.slots.eq_39 (And.intro @Go.Ev.slots.eq_40 (And.intro @Go.Ev.slots.eq_41 (And.intro @Go.Ev.slotsL.eq_1 (And.intro @Go.Ev.slotsL.eq_2 (And.intro @Go.Ev.slotsL.eq_3 (And.intro @Go.Ev.slotsL.eq_4 (And.intro @Go.Ev.optL.eq_1 (And.intro @Go.Ev.optL.eq_2 (And.intro @Go.Ev.Rv.sl.eq_1 (And.intro @Go.Ev.Rv.sl.eq_2 (And.intro @Go.Ev.St.unS.eq_1 (And.intro @Go.Ev.St.unS.eq_2 (And.intro @Go.Ev.St.un1.eq_1 (And.intro @Go.Ev.pv.eq_1 (And.intro @Go.Ev.pv.eq_2 (And.intro @Go.Ev.pv.eq_3 (And.intro @Go.Ev.pv.eq_4 (And.intro @Go.Ev.pv.eq_5 (And.intro @Go.Ev.pv.eq_6 (And.intro @Go.Ev.pv.eq_7 (And.intro @Go.Ev.pv.eq_8 (And.intro @Go.Ev.pv.eq_9 (And.intro @Go.Ev.pv.eq_10 (And.intro @Go.Ev.pv.eq_11 (And.intro @Go.Ev.pv.eq_12 (And.intro @Go.Ev.pv.eq_13 (And.intro @Go.Ev.pv.eq_14 (And.intro @Go.Ev.pv.eq_15 (And.intro @Go.Ev.pv.eq_16 (And.intro @Go.Ev.pv.eq_17 (And.intro @Go.Ev.pv.eq_18 (And.intro @Go.Ev.pv.eq_19 (And.intro @Go.Ev.pv.eq_20 (And.intro @Go.Ev.pv.eq_21 (And.intro @Go.Ev.pv.eq_22 (And.intro @Go.Ev.pv.eq_23 (And.intro @Go.Ev.pv.eq_24 (And.intro @Go.Ev.pvX.eq_1 (And.intro @Go.Ev.pvX.eq_2 (And.intro @Go.Ev.binP.eq_1 (And.intro @Go.Ev.binP.eq_2 (And.intro @Go.Ev.binP.eq_3 (And.intro @Go.Ev.binP.eq_4 (And.intro @Go.Ev.binP.eq_5 (And.intro @Go.Ev.binP.eq_6 (And.intro @Go.Ev.okU.eq_1 (And.intro @Go.Ev.okU.eq_2 (And.intro @Go.Ev.SV.un.eq_1 (And.intro @Go.Ev.SV.un.eq_2 (And.intro @Go.Ev.St.put.eq_1 (And.intro @Go.Ev.St.putO.eq_1 (And.intro @Go.Ev.St.putO.eq_2 (And.intro @Go.Ev.St.get.eq_1 (And.intro @Go.Ev.Rv.get.eq_1 (And.intro @Go.Ev.Rv.get.eq_2 (And.intro @Go.Ev.Rv.get.eq_3 (And.intro @Go.Ev.kSV.eq_1 (And.intro @Go.Ev.kSV.eq_2 (And.intro @Go.Ev.need_none (And.intro @Go.Ev.need_ite (And.intro @Go.Ev.sem_bin (And.intro @Go.Ev.sem_sel (And.intro @Go.Ev.bins (And.intro @Go.Ev.adds (And.intro @Go.Ev.optInt.eq_1 (And.intro @Go.Ev.optInt.eq_2 (And.intro @Go.Ev.osOf.eq_1 (And.intro @Go.Ev.dd.eq_1 (And.intro @Go.Ev.dd.eq_2 (And.intro @Go.Ev.idsA.eq_1 (And.intro @Go.Ev.idsA.eq_2 (And.intro @Go.Ev.idsA.eq_3 (And.intro @Go.Ev.idsA.eq_4 (And.intro @Go.Ev.idsC.eq_1 (And.intro @Go.Ev.idsC.eq_2 (And.intro @Go.Ev.idsC.eq_3 (And.intro @Go.Ev.idsC.eq_4 (And.intro @Go.Ev.St.giveL.eq_1 (And.intro @Go.Ev.St.giveL.eq_2 (And.intro @Go.Ev.St.give.eq_1 (And.intro @Go.Ev.St.give.eq_2 (And.intro @Go.Ev.St.give1.eq_1 (And.intro @Go.Ev.St.give1.eq_2 (And.intro @Go.Ev.St.give1.eq_3 (And.intro @Go.Ev.St.lend.eq_1 (And.intro @Go.Ev.St.lend.eq_2 (And.intro @Go.Ev.St.lend1.eq_1 (And.intro @Go.Ev.St.lend1.eq_2 (And.intro @Go.Ev.St.lend1.eq_3 (And.intro @Go.Ev.St.lend1.eq_4 (And.intro @Go.Ev.St.lend1.eq_5 (And.intro @Go.Ev.St.sub.eq_1 (And.intro @Go.Ev.subO.eq_1 (And.intro @Go.Ev.subO.eq_2 (And.intro @Go.Ev.St.merge.eq_1 (And.intro @Go.Ev.SV.ren.eq_1 (And.intro @Go.Ev.SV.ren.eq_2 (And.intro @Go.Ev.SV.ren.eq_3 (And.intro @Go.Ev.SV.ren.eq_4 (And.intro @Go.Ev.SV.ren.eq_5 (And.intro @Go.Ev.SV.ren.eq_6 (And.intro @Go.Ev.SV.ren.eq_7 (And.intro @Go.Ev.SV.ren.eq_8 (And.intro @Go.Ev.SV.ren.eq_9 (And.intro @Go.Ev.SV.ren.eq_10 (And.intro @Go.Ev.pureC_pf (And.intro @Go.Ev.rrL.eq_1 (And.intro @Go.Ev.rrL.eq_2 (And.intro @Go.Ev.RR.get.eq_1 (And.intro @Go.Ev.RR.get.eq_2 (And.intro @Go.Ev.retV.eq_1 (And.intro @Go.Ev.retV.eq_2 (And.intro @Go.Ev.st0.eq_1 (And.intro @Go.Ev.slots0.eq_1 (And.intro @Go.Ev.slots0.eq_2 (And.intro @Go.Ev.scal.eq_1 (And.intro @Go.Ev.scal.eq_2 (And.intro @Go.Ev.scal1.eq_1 (And.intro @Go.Ev.scal1.eq_2 (And.intro @Go.Ev.St.store.eq_1 (And.intro @Option.getD.eq_1.{0} (And.intro @Option.getD.eq_2.{0} (And.intro @Option.map.eq_1.{0, 0} (And.intro @Option.map.eq_2.{0, 0} (And.intro @Option.bind.eq_1.{0, 0} (And.intro @Option.bind.eq_2.{0, 0} (And.intro @List.map.eq_1.{0, 0} (And.intro @List.map.eq_2.{0, 0} (And.intro @List.flatMap_nil.{0, 0} (And.intro @List.flatMap_cons.{0, 0} (And.intro @List.append.eq_1.{0} (And.intro @List.append.eq_2.{0} (And.intro @List.nil_append.{0} (And.intro @List.length_nil.{0} (And.intro @List.length_cons.{0} (And.intro @List.nodup_nil.{0} (And.intro @List.take_nil.{0} (And.intro @List.range_zero (And.intro @List.not_mem_nil.{0} (And.intro @imp_self (And.intro @Go.Ev.tabT.eq_1 (And.intro @true_and (And.intro @and_true (And.intro @and_self (And.intro @Bool.and_eq_true (And.intro @decide_eq_true_eq (And.intro @Option.bind_some.{0, 0} (And.intro @Option.map_some.{0, 0} (And.intro @false_implies (And.intro @Bool.false_eq_true (And.intro @Int.toNat_natCast (And.intro @Int.toNat_zero (And.intro @Go.Ev.St.norm.eq_1 (And.intro @Go.Ev.normOk.eq_1 (And.intro @List.nodup_cons.{0} (And.intro @not_false_eq_true (And.intro @List.getElem?_cons_zero.{0} (And.intro @List.getElem?_cons_succ.{0} (And.intro @Nat.sub_self (And.intro @Nat.add_zero (And.intro @Nat.zero_add (And.intro @Go.Ev.sem_str (And.intro @Go.Ev.take_all (And.intro @Go.Ev.ldOk.eq_1 (And.intro @Go.Ev.ldOk.eq_2 (And.intro @Go.Ev.ldOk.eq_3 (And.intro @Go.Ev.modsOk.eq_1 (And.intro @Go.Ev.mods.eq_1 (And.intro @Go.Ev.mods.eq_2 (And.intro @Go.Ev.mods.eq_3 (And.intro @Go.Ev.mods.eq_4 (And.intro @Go.Ev.mods.eq_5 (And.intro @Go.Ev.mods.eq_6 (And.intro @Go.Ev.mods.eq_7 (And.intro @Int.toNat_one (And.intro @Int.le_refl (And.intro @ne_eq.{1} (And.intro @Go.Ev.u8rt (And.intro @List.getD_cons_zero.{0} (And.intro @List.getD_cons_succ.{0} (And.intro @Go.Ev.St.rows.eq_1 (And.intro @Go.Ev.St.rows.eq_2 (And.intro @Go.Ev.St.rows.eq_3 (And.intro @Go.Ev.St.rows.eq_4 (And.intro @Go.Ev.rowParts.eq_1 (And.intro @Go.Ev.rowParts.eq_2 (And.intro @Go.Ev.St.frz.eq_1 (And.intro @Go.Ev.St.frz.eq_2 (And.intro @Go.Ev.St.frz.eq_3 (And.intro @Go.Ev.St.frz.eq_4 (And.intro @Go.Ev.St.frzL.eq_1 (And.intro @Go.Ev.St.frzL.eq_2 (And.intro @Go.Ev.SV.cells.eq_1 (And.intro @Go.Ev.SV.cells.eq_2 (And.intro @Go.Ev.SV.cells.eq_3 (And.intro @Go.Ev.SV.cells.eq_4 (And.intro @Go.Ev.SV.cells.eq_5 (And.intro @Go.Ev.allD.eq_1 (And.intro @Go.Ev.allD.eq_2 (And.intro @Go.Ev.allD.eq_3 (And.intro @Go.Ev.St.setO.eq_1 (And.intro @Go.Ev.St.newO.eq_1 (And.intro @Go.Ev.bytesOf_rows (And.intro @List.idxOf?_cons.{0} (And.intro @List.idxOf?_nil.{0} (And.intro @beq_self_eq_true.{0} (And.intro @Option.isSome.eq_1.{0} (And.intro @Option.isSome.eq_2.{0} (And.intro @Bool.not_true (And.intro @Bool.not_false (And.intro @true_implies (And.intro @Bool.not_eq_true' (And.intro @Bool.not_eq_false' (And.intro @decide_eq_false_iff_not (And.intro @Bool.true_eq_false (And.intro @List.drop_succ_cons.{0} (And.intro @List.drop_zero.{0} (And.intro @decide_true (And.intro @decide_false (And.intro @not_true_eq_false (And.intro @Nat.add_one_sub_one (And.intro @List.take_length.{0} (And.intro @Go.Ev.bytesOf.eq_1 (And.intro @Go.Ev.bytesOf.eq_2 (And.intro @Go.Ev.byteOf.eq_1 (And.intro @Go.Ev.byteOf.eq_2 (And.intro @List.forall_mem_cons.{0} (And.intro @List.take_zero.{0} (And.intro @List.mem_singleton.{0} (And.intro @Go.Ev.Ob.ren.eq_1 (And.intro @Go.Ev.Ob.ren.eq_2 (And.intro @Int.natCast_zero (And.intro @Bool.or_eq_true (And.intro @Bool.or_eq_false_iff (And.intro @Bool.and_eq_false_iff (And.intro @Go.Ev.St.keep.eq_1 (And.intro @Go.Ev.unC.eq_1 (And.intro @Go.Ev.unC.eq_2 (And.intro @Go.Ev.okC.eq_1 (And.intro @Go.Ev.okC.eq_2 (And.intro @Go.Ev.oand.eq_1 (And.intro @Go.Ev.oand.eq_2 (And.intro @Go.Ev.oand.eq_3 (And.intro @Go.Ev.pvD.eq_1 (And.intro @Go.Ev.pvD.eq_2 (And.intro @Go.Ev.tkC.eq_1 (And.intro @Go.Ev.tkC.eq_2 (And.intro @Go.Ev.tkC.eq_3 (And.intro @Go.Ev.moC.eq_1 (And.intro @Go.Ev.moC.eq_2 (And.intro @Go.Ev.hasC.eq_1 (And.intro @Go.Ev.hasC.eq_2 (And.intro @Go.Ev.freeL_one (And.intro @Go.Ev.freeL.eq_1 (And.intro @Go.Ev.freeL.eq_2 (And.intro @Go.Ev.noCe.eq_1 (And.intro @Go.Ev.moR.eq_1 (And.intro @Go.Ev.moR.eq_2 (And.intro @Go.Ev.modsF.eq_1 (And.intro @Go.Ev.nxF.eq_1 (And.intro @Go.Ev.nxF.eq_2 (And.intro @Go.Ev.nxF.eq_3 (And.intro @Go.Ev.keepC.eq_1 (And.intro @Go.Ev.keepC.eq_2 (And.intro @Go.Ev.keepL.eq_1 (And.intro @Go.Ev.keepL.eq_2 (And.intro @Go.Ev.keepL.eq_3 (And.intro @Go.Ev.inX.eq_1 (And.intro @Go.Ev.inX.eq_2 (And.intro @Go.Ev.detP.eq_1 (And.intro @Go.Ev.detP.eq_2 (And.intro @Go.Ev.detP.eq_3 (And.intro @Go.Ev.detP.eq_4 (And.intro @Go.Ev.pkC.eq_1 (And.intro @Go.Ev.pkC.eq_2 (And.intro @Go.Ev.pkC.eq_3 (And.intro @Go.Ev.pkC.eq_4 (And.intro @Go.Ev.ariV.eq_1 (And.intro @Go.Ev.ariV.eq_2 (And.intro @Go.Ev.ariV.eq_3 (And.intro @Go.Ev.ariV.eq_4 (And.intro @Go.Ev.tns (And.intro @Go.Ev.byteRows_len (And.intro @List.mem_cons.{0} (And.intro @true_or (And.intro @or_true (And.intro @or_false (And.intro @false_or (And.intro @List.mem_nil_iff.{0} (And.intro @Go.Ev.scalL.eq_1 (And.intro @Go.Ev.scalL.eq_2 (And.intro @Go.Ev.scalL.eq_3 (And.intro @Go.Ev.scalL.eq_4 (And.intro @Go.Ev.bytesIn.eq_1 (And.intro @Go.Ev.bytesIn.eq_2 (And.intro @Go.Ev.bytesIn.eq_3 (And.intro @Go.Ev.bytesIn_rows (And.intro @Go.Ev.byteU8 (And.intro @Go.Ev.u8_range (And.intro @List.append_nil.{0} (And.intro @List.cons_append.{0} (And.intro @Go.Ev.back.eq_1 (And.intro @List.filter_nil.{0} (And.intro @List.filter_cons.{0} (And.intro @beq_iff_eq.{0} (And.intro @Go.Ev.bytesOf_app (And.intro @Bool.and_true (And.intro @Bool.true_and (And.intro @Bool.and_false (And.intro @Bool.false_and (And.intro @Bool.or_true (And.intro @Bool.or_false (And.intro @Bool.true_or (And.intro @Bool.false_or (And.intro @Go.Ev.splice.eq_1 (And.intro @List.take_succ_cons.{0} (And.intro @List.drop_nil.{0} (And.intro @Nat.sub_zero (And.intro @Go.Ev.ranges (And.intro @Go.Ev.St.rowsF.eq_1 (And.intro @Go.Ev.St.rowsF.eq_2 (And.intro @Go.Ev.St.rowsF.eq_3 (And.intro @Go.Ev.St.rowsF.eq_4 (And.intro @Go.Ev.intsOf.eq_1 (And.intro @Go.Ev.intsOf.eq_2 (And.intro @Go.Ev.mm_min (And.intro @Go.Ev.mm_max (And.intro @List.foldl_cons.{0, 0} (And.intro @List.foldl_nil.{0, 0} (And.intro @Go.Ev.spliceD.eq_1 (And.intro @Go.Ev.parts.eq_1 (And.intro @Go.Ev.parts.eq_2 (And.intro @Go.Ev.allSl.eq_1 (And.intro @Go.Ev.dsts.eq_1 (And.intro @Go.Ev.dsts.eq_2 (And.intro @Go.Ev.dsts.eq_3 (And.intro @Go.Ev.inN.eq_1 (And.intro @Go.Ev.inN.eq_2 (And.intro @Go.Ev.lk_dropS (And.intro @Go.Ev.byteRows_append (And.intro @Go.Ev.nilV.eq_1 (And.intro @Go.Ev.nilV.eq_2 (And.intro @Go.Ev.nilV.eq_3 (And.intro @Go.Ev.nilV.eq_4 (And.intro @Go.Ev.nilV.eq_5 (And.intro @Go.Ev.nilV.eq_6 (And.intro @Go.Ev.nilV.eq_7 (And.intro @Go.Ev.eqv.eq_1 (And.intro @Go.Ev.eqv.eq_2 (And.intro @Go.Ev.eqv.eq_3 (And.intro @Go.Ev.eqv.eq_4 (And.intro @Go.Ev.eqL.eq_1 (And.intro @Go.Ev.eqL.eq_2 (And.intro @Go.Ev.eqL.eq_3 (And.intro @Go.Ev.eqA.eq_1 (And.intro @Go.Ev.eqA.eq_2 (And.intro @List.map_replicate.{0, 0} (And.intro @List.length_replicate.{0} (And.intro @List.drop_replicate.{0} (And.intro @List.replicate_zero.{0} (And.intro @Go.Ev.putL.eq_1 (And.intro @Go.Ev.putL.eq_2 (And.intro @Go.Ev.slN.eq_1 (And.intro @Go.Ev.noE.eq_1 (And.intro @List.set_cons_zero.{0} (And.intro @List.set_cons_succ.{0} (And.intro @Go.Ev.St.giveC.eq_1 (@Go.Ev.St.giveC.eq_2)))))))))))))))))))))))))))))))))))))))))))))))))))))))))))))))))))))))))))))))))))))))))))))))))))))))))))))))))))))))))))))))))))))))))))))))))))))))))))))))))))))))))))))))))))))))))))))))))))))))))))))))))))))))))))))))))))))))))))))))))))))))))))))))))))))))))))))))))))))))))))))))))))))))))))))))))))))))))))))))))))))))))))))))))))))))))))))))))))))))))))))))))))))))))))))))))))))))))))))))))))))))))))))))))))))))))))))))
theorem Z : type_of% (And.intro @Bool.cond_true.{1} (And.intro @Bool.cond_false.{1} (And.intro @eq_self.{1} (And.intro @forall_eq_or_imp.{1} (And.intro @implies_true.{0} (And.intro @implies_true.{1} (And.intro @forall_const.{0} (And.intro @forall_const.{1} @forall_eq.{1})))))))) := And.intro @Bool.cond_true.{1} (And.intro @Bool.cond_false.{1} (And.intro @eq_self.{1} (And.intro @forall_eq_or_imp.{1} (And.intro @implies_true.{0} (And.intro @implies_true.{1} (And.intro @forall_const.{0} (And.intro @forall_const.{1} @forall_eq.{1})))))))
abbrev SdT (P : Program) (f : FuncId) (n : Nat) (S : SCode) (R : List RR) : Prop := ∀ {G : World → Prop} {T : FuncId → Contract} {C : Contract} (hT : ∀ f, Sound G P f (T f)) (hl : C.lawful) (hC : ∀ args st K, C.wp args st K → args.length ≤ n ∧ ∃ os op, xv T st.n S (st0 args st) (retK R st.n os K) (panK st.n op K)) (hit : SoundIt G P f C.it := by exact SoundIt.none), Sound G P f C
theorem sdX {P : Program} {f : FuncId} {F : Func} {S : SCode} {R : List RR} {A : Ann} (mo : P.follows .mixedOrders = true) (fn : P.funcs[f]? = some F) (h : (F.body).bind (cc P F.ntmps A) = some S) (cr : F.results.toList.map (crr P) = R.map some) (nm : (F.name == "runtime.NumGoroutine") = false) {G : World → Prop} {T : FuncId → Contract} {C : Contract} (hT : ∀ f, Sound G P f (T f)) (hl : C.lawful) (hC : ∀ args st K, C.wp args st K → args.length ≤ F.ntmps ∧ ∃ os op, xv T st.n S (st0 args st) (retK R st.n os K) (panK st.n op K)) (hit : SoundIt G P f C.it) : Sound G P f C := by
 obtain ⟨b, hb, hc⟩ := Option.bind_eq_some_iff.1 h
 rw [xv_eq] at hC
 exact sound_of_ev mo fn hb nm hc cr hT hl hit hC
end Go.Ev
namespace Go.Ev
open Go
section
variable {G : World → Prop} {P : Program} {T : FuncId → Contract}
abbrev DCon := Option SV → List SV → Store → (Store → Prop) → Prop
def SoundD (G : World → Prop) (P : Program) (f : FuncId) (D : DCon) : Prop :=
 ∀ (H : Hd G) (w : World) (m : Nat → Value) (B : Nat → Nat → Prop) (s : Store) (caps : List SV) (vs : List Value), SOk H w m B s → CnL m s.n (vw H w B s.ob) caps vs → HasBody P f ∧
   (∀ K, D none caps s K → CallsDIn Fence.wide 0 P f vs.toArray .returning w fun e u w' => (∃ v, e = .returned v) ∧ u = .returning ∧ ∃ m' B' s', K s' ∧ SOk H w' m' B' s' ∧ Since w m B s w' m' B' s') ∧
   (∀ x v K, Cn m s.n (vw H w B s.ob) x v → D (some x) caps s K → CallsDIn Fence.wide 0 P f vs.toArray (.panicking [{ v := v, recovered := false }]) w fun e u w' => (∃ v, e = .returned v) ∧ u = .panicking [{ v := v, recovered := true }] ∧ ∃ m' B' s', K s' ∧ SOk H w' m' B' s' ∧ Since w m B s w' m' B' s')
variable {H : Hd G} {N : Nat} {w0 : World} {m0 : Nat → Value} {B0 : Nat → Nat → Prop} {s0 : Store}
theorem SOk.cast {H H' : Hd G} {w : World} {m : Nat → Value} {B : Nat → Nat → Prop} {s : Store} (h : SOk H w m B s) (e : H.hid = H'.hid) : SOk H' w m B s := by
 obtain ⟨hid, gb, sub, st, lo, df⟩ := H
 obtain ⟨hid', gb', sub', st', lo', df'⟩ := H'
 simp only at e; subst e
 exact ⟨h.obs, h.lt, h.sep, h.blk, h.hid, h.gw, h.seph⟩
def endK (rs : List RR) (n0 : Nat) (os : List Nat) (K : Out → Store → Prop) (st : St) : Prop := need (rrL st rs) fun l => outK n0 os .ret K l st
theorem end_ok {fn : Func} {rs : List RR} (hr : fn.results.toList.map (crr P) = rs.map some) {os : List Nat} {K : Out → Store → Prop} {H1 : Hd G} (hlo : H1.lo = w0.heap.size) (hdf : H1.df = []) {M : List Deferred} {a : Act} {w : World} {m : Nat → Value} {B : Nat → Nat → Prop} {st : St}
   (hsz : a.tmps.size = N) (hM : Marks0 H1 w B st.ob M) (hsl : SlOk m st.n (vw H1 w B st.ob) a st) (hO : SOk H1 w m B st.store) (hS : Since w0 m0 B0 s0 w m B st.store) (hk : endK rs s0.n os K st) :
   LeavesInM Fence.wide 0 P fn a.tmps (fun e w' => ∃ m' B' s' out, K out s' ∧ SOk H1 w' m' B' s' ∧ Since w0 m0 B0 s0 w' m' B' s' ∧ OutOk m' s'.n (vw H1 w' B' s'.ob) out e) M .returning w := by
 have e0 : M = M ++ H1.df := by rw [hdf, List.append_nil]
 rw [e0]
 refine leave_ok (H := H1) (by simp) hlo _ _ hM hO hS fun w2 z1 z2 z3 => ?_
 rw [hdf]
 show LeavesIn Fence.wide 0 P fn a.tmps _ [] .returning w2
 have k4 : Sat H1 N w2 m B { a with defers := [] } st := ⟨hsz, Marks.nil hdf _ _ _, fun k => Cn_mono (Nat.le_refl _) (fun _ _ => rfl) z3 _ _ (hsl k), z1⟩
 unfold endK at hk
 cases el : rrL st rs with
 | none => rw [el] at hk; exact hk.elim
 | some l =>
   rw [el] at hk
   obtain ⟨us, h1, h2⟩ := rrL_ok k4 hr el
   obtain ⟨m2, B2, s2, x, q1, q2, q3, ys, q4, rfl⟩ := out_ok k4 z2 h2 hk
   refine ⟨_, ?_, m2, B2, s2, _, q1, q2, q3, retV_ok q4⟩
   rw [results_eq, Array.mapM_eq_mapM_toList]
   simp only [Sem.run_bind, Sem.run_map]
   rw [h1]
   rfl
theorem leavesM_mono {F : Fence} {n : Nat} {fn : Func} {tmps : Array Value} {R R' : Ending → World → Prop} (hR : ∀ e w, R e w → R' e w) : ∀ (L : List Deferred) (u : FrameMode) (w : World), LeavesInM F n P fn tmps R L u w → LeavesInM F n P fn tmps R' L u w
 | [], .returning, w, h => by
   obtain ⟨v, h1, h2⟩ := (show LeavesIn F n P fn tmps R [] .returning w from h)
   exact (show LeavesIn F n P fn tmps R' [] .returning w from ⟨v, h1, hR _ _ h2⟩)
 | [], .panicking ch, w, h => hR _ _ h
 | [], .run, w, h => h
 | d :: ds, u, w, h => by
   refine ⟨h.1, ?_⟩
   rcases h.2 with ⟨r, w', h1, h2, h3⟩ | ⟨h1, fv, cap, f, args, h2, h3, h4, h5⟩
   · exact .inl ⟨r, w', h1, h2, leavesM_mono hR ds _ _ h3⟩
   · refine .inr ⟨h1, fv, cap, f, args, h2, h3, h4, h5.mono ?_⟩
     rintro e u' w' hh
     cases e with
     | returned _ => exact leavesM_mono hR ds _ _ hh
     | panicked _ => exact leavesM_mono hR ds _ _ hh
     | outgrown => exact hR _ _ hh
def defK (D : DCon) (rs : List RR) (n0 : Nat) (os : List Nat) (K : Out → Store → Prop) (x : Option SV) (caps : List SV) (st : St) : Prop :=
 D x caps st.store fun s => endK rs n0 os K ⟨st.sl, s.n, s.ob⟩
def defE (D : DCon) (rs : List RR) (n0 : Nat) (os : List Nat) (K : Out → Store → Prop) (caps : List SV) : Ex → St → Prop
 | .exit _, _ => False
 | _, st => defK D rs n0 os K none caps st
def seqs : List Code → Code → Code
 | [], c => c
 | b :: l, c => .seq b (seqs l c)
def evs (T : FuncId → Contract) (n0 : Nat) (Kr : St → Prop) : List SCode → (St → Prop) → St → Prop
 | [], K, st => K st
 | s :: l, K, st => ev T n0 s st (fun e st1 => match e with
   | .normal => evs T n0 Kr l K st1
   | .ret => Kr st1
   | .exit _ => False) noP
theorem pre_ok (hm : P.follows .mixedOrders = true) (hT : ∀ f, Sound G P f (T f)) {A : Ann} (hdf : H.df = []) (hlo : H.lo ≤ w0.heap.size) {c : Code} {Q : Exit → Act → World → Prop} {Kr K : St → Prop}
   (hnext : ∀ a w m B st, Sat H N w m B a st → Since w0 m0 B0 s0 w m B st.store → K st → c.wpIn Fence.wide 0 P Q a w) (hret : ∀ a w m B st, Sat H N w m B a st → Since w0 m0 B0 s0 w m B st.store → Kr st → Q .ret a w) :
   ∀ (bs : List Code) (ss : List SCode), bs.map (cc P N A) = ss.map some → ∀ a w m B st, Sat H N w m B a st → Since w0 m0 B0 s0 w m B st.store → evs T s0.n Kr ss K st → (seqs bs c).wpIn Fence.wide 0 P Q a w
 | [], [], _, a, w, m, B, st, h, hS, he => hnext a w m B st h hS he
 | b :: bs, s :: ss, hc, a, w, m, B, st, h, hS, he => by
   simp only [List.map_cons, List.cons.injEq] at hc
   refine wpIn_seq (wpIn_mono (ev_ok (H := H) hm hT b Fence.wide (.inl rfl) s hc.1 (.inl ⟨rfl, hdf⟩) _ _ w0 m0 B0 s0 a w m B st hlo h hS he) ?_)
   intro e a1 w1 hle
   cases e with
   | exit _ => obtain ⟨_, _, _, k1, _⟩ := hle; exact k1.elim
   | ret => obtain ⟨m1, B1, st1, k1, k2, k3⟩ := hle; exact hret a1 w1 m1 B1 st1 k2 k3 k1
   | goto l => exact hle.elim
   | outgrown => exact hle.elim
   | panic ch => obtain ⟨_, _, _, _, _, _, k1, _⟩ := hle; exact k1.elim
   | normal => obtain ⟨m1, B1, st1, k1, k2, k3⟩ := hle; exact pre_ok hm hT hdf hlo hnext hret bs ss hc.2 a1 w1 m1 B1 st1 k2 k3 k1
 | [], _ :: _, hc, _, _, _, _, _, _, _, _ => by simp at hc
 | _ :: _, [], hc, _, _, _, _, _, _, _, _ => by simp at hc
theorem sound_of_evD {f : FuncId} {fn : Func} {bs : List Code} {bR : Code} {id : Nat} {o1 o2 : Oper} {ss : List SCode} {sR : SCode} {rs : List RR} (hm : P.follows .mixedOrders = true) (hf : P.funcs[f]? = some fn) (hb : fn.body = some (seqs bs (.seq (.region id #[o1, o2] false) bR))) (hn : (fn.name == "runtime.NumGoroutine") = false)
   {A : Ann} (hcA : bs.map (cc P fn.ntmps A) = ss.map some) (hcR : cc P fn.ntmps A bR = some sR) (hflat : flat bR = true) (hr : fn.results.toList.map (crr P) = rs.map some)
   {t : Nat} {fd : FuncId} {rcs : List Rv} {ts : Array TypeId} (h1 : cop P fn.ntmps 0 o1 = some (.mf t fd rcs)) (h1g : o1.guard = none) (h1n : ∀ c, o1.op ≠ .defer c) (h2 : o2.op = .defer { callee := .value (.tmp t), args := #[], argTypes := ts }) (h2d : o2.dst = none) (h2g : o2.guard = none)
   (hT : ∀ f, Sound G P f (T f)) {D : DCon} (hD : SoundD G P fd D) {C : Contract} (hl : C.lawful) (hit : SoundIt G P f C.it)
   (hC : ∀ args st K, C.wp args st K → args.length ≤ fn.ntmps ∧ ∃ os, evs T st.n (endK rs st.n os K) ss (fun st1 =>
     ev T st1.n sR (st1.put t (.fn fd (rcs.map fun x => x.get st1))) (defE D rs st.n os K (rcs.map fun x => x.get st1)) (fun x s => defK D rs st.n os K (some x) (rcs.map fun x => x.get st1) s)) (st0 args st)) : Sound G P f C := by
 refine ⟨hl, ?_, hit⟩
 intro H w m B s1 args vs K hK hO ha
 obtain ⟨hlen, os, he⟩ := hC args s1 K hK
 refine ⟨⟨fn, hf, by rw [hb]; rfl, hn⟩, ?_⟩
 let H1 : Hd G := { H with lo := w.heap.size, df := [] }
 have hO1 : SOk H1 w m B s1 := hO.cast (H' := H1) rfl
 refine (callsIn_wide (n := 0)).1 (callsIn_of_wp_marks hf hb trivial ?_)
 have hSat : Sat H1 fn.ntmps w m B { tmps := vs.toArray ++ Array.replicate (fn.ntmps - vs.toArray.size) undef, defers := [] } (st0 args s1) := by
   have hvl := CnL_length ha
   refine ⟨by simp; omega, Marks.nil rfl _ _ _, fun k => ?_, hO1⟩
   simp only [St.get, st0, slots0_lk, Nat.zero_le, if_true, Nat.sub_zero]
   cases e : args[k]? with
   | none => simp [Cn]
   | some x =>
     obtain ⟨v, hv, hx⟩ := CnL_get ha e
     have hk : k < vs.length := (List.getElem?_eq_some_iff.1 hv).1
     have : (vs.toArray ++ Array.replicate (fn.ntmps - vs.toArray.size) undef).getD k undef = v := by
       rw [Array.getD_eq_getD_getElem?, Array.getElem?_append_left (by simpa using hk)]
       simp [hv]
     rw [this]; exact hx
 refine pre_ok (H := H1) hm hT rfl (Nat.le_refl _) ?_ ?_ bs ss hcA _ w m B _ hSat (Since.refl _ _ _ _) he
 · intro a1 w1 m1 B1 st1 k2 k3 k1
   refine wpIn_seq (wpIn_region ?_)
   have hw1 : Region.wanted o1 (yielded #[o1, o2] a1.tmps) = true := by simp [Region.wanted, h1g]
   show wpOpsIn _ _ _ _ _ [0, 1] a1 w1
   simp only [wpOpsIn, List.getElem?_toArray, List.getElem?_cons_zero, hw1, if_true]
   have hX : ∀ o, o ∈ mods (.mf t fd rcs) st1 → ∀ y b, lk st1.ob o = some y → y.has = true → B1 o b → (fun _ : Nat => True) b := fun _ _ _ _ _ _ _ => trivial
   have hop := cop_ok (P := P) (K := fun st2 => st2 = st1.put t (.fn fd (rcs.map fun x => x.get st1))) (Kp := noP) hT h1 k2 hX (by simp only [step])
   refine opIn_of_op (.inl rfl) h1n (hop _ _ ?_ (fun ch a' w' hp => by obtain ⟨_, _, _, _, _, _, q, _⟩ := hp; exact q.elim))
   rintro a2 w2 ⟨m2, B2, st2, rfl, j2, j3⟩ _
   have hw2 : Region.wanted o2 (yielded #[o1, o2] a2.tmps) = true := by simp [Region.wanted, h2g]
   simp only [List.getElem?_cons_succ, List.getElem?_cons_zero, hw2, if_true]
   have hcl := j2.slots t
   rw [St.get_put] at hcl
   simp only [if_true, Cn] at hcl
   obtain ⟨ca, ec, hca⟩ := hcl
   obtain ⟨M, em, hM⟩ := j2.defers
   have em2 : a2.defers = M := by rw [em]; exact List.append_nil _
   have hrun : (o2.semAt Fence.wide.round a2.eval).run P w2 = .ok (.defer { target := .fn (.func fd) ca, args := #[] }) w2 := by
     have : o2.semAt Fence.wide.round a2.eval = execOp a2.eval o2 := rfl
     rw [this]
     simp [execOp, h2, resolve, Act.eval, ec, Deferred.ofValue]
   refine ⟨fun _ _ => trivial, ?_⟩
   rw [hrun]
   simp only [Oper.uponIn, wpOpsIn, h2d, Act.put]
   -- the code behind
   let d : Deferred := { target := .fn (.func fd) ca, args := #[] }
   let H2 : Hd G := { H with lo := w2.heap.size, df := d :: M }
   have hS2 : Since w m B s1 w2 m2 B2 (st1.put t (.fn fd (rcs.map fun x => x.get st1))).store := k3.trans j3
   have hSat2 : Sat H2 fn.ntmps w2 m2 B2 { tmps := a2.tmps, defers := d :: a2.defers } (st1.put t (.fn fd (rcs.map fun x => x.get st1))) :=
     ⟨j2.size, ⟨[], by rw [em2]; rfl, .nil, fun _ h => by cases h⟩, j2.slots, j2.store.cast (H' := H2) rfl⟩
   have hwp2 := ev_ok (H := H2) hm hT bR Fence.wide (.inl rfl) sR hcR (.inr hflat) _ _ w2 m2 B2 (st1.put t (.fn fd (rcs.map fun x => x.get st1))).store _ w2 m2 B2 _ (Nat.le_refl _) hSat2 (Since.refl _ _ _ _) k1
   refine wpIn_mono hwp2 ?_
   -- the deferred call, then the marks of the code ahead
   have fin : ∀ (x : Option SV) (u : FrameMode) (a' : Act) (w' : World) (m' : Nat → Value) (B' : Nat → Nat → Prop) (st' : St), Sat H2 fn.ntmps w' m' B' a' st' → Since w2 m2 B2 (st1.put t (.fn fd (rcs.map fun x => x.get st1))).store w' m' B' st'.store →
       (x = none ∧ u = .returning ∨ ∃ y v, x = some y ∧ u = .panicking [{ v := v, recovered := false }] ∧ Cn m' st'.n (vw H2 w' B' st'.ob) y v) → defK D rs s1.n os K x (rcs.map fun x => x.get st1) st' →
       LeavesInM Fence.wide 0 P fn a'.tmps (fun e w' => ∃ m' B' s' out, K out s' ∧ SOk H w' m' B' s' ∧ Since w m B s1 w' m' B' s' ∧ OutOk m' s'.n (vw H w' B' s'.ob) out e) a'.defers u w' := by
     intro x u a' w' m' B' st' hs hSj hu hd
     obtain ⟨M2, e2, hM2⟩ := hs.defers
     have hur : u ≠ .run := by rcases hu with ⟨_, rfl⟩ | ⟨_, _, _, rfl, _⟩ <;> simp
     rw [e2]
     refine leave_ok (H := H2) hur rfl _ _ hM2 hs.store hSj fun w3 z1 z2 z3 => ?_
     show LeavesInM _ _ _ _ _ _ (d :: M) u w3
     have hca3 : CnL m' st'.n (vw H2 w3 B' st'.ob) (rcs.map fun x => x.get st1) ca.toList :=
       z2.cnL (H := H2) _ _ (show CnL m2 (st1.put t (.fn fd (rcs.map fun x => x.get st1))).n (vw H2 w2 B2 (st1.put t (.fn fd (rcs.map fun x => x.get st1))).ob) _ _ from hca)
     obtain ⟨⟨fnd, hfd, hbd, hnd⟩, hD1, hD2⟩ := hD H2 w3 m' B' st'.store _ _ z1 hca3
     have hM3 : Marks0 H1 w3 B' st'.ob M := Marks0.since (s := (st1.put t (.fn fd (rcs.map fun x => x.get st1))).store) (s1 := st'.store) hM z2
     have cont : ∀ w4 m4 B4 (s4 : Store), SOk H2 w4 m4 B4 s4 → Since w3 m' B' st'.store w4 m4 B4 s4 → endK rs s1.n os K ⟨st'.sl, s4.n, s4.ob⟩ →
         LeavesInM Fence.wide 0 P fn a'.tmps (fun e w' => ∃ m' B' s' out, K out s' ∧ SOk H w' m' B' s' ∧ Since w m B s1 w' m' B' s' ∧ OutOk m' s'.n (vw H w' B' s'.ob) out e) M .returning w4 := fun w4 m4 B4 s4 q1 q2 q3 => by
       have hsl : SlOk m4 s4.n (vw H1 w4 B4 s4.ob) a' ⟨st'.sl, s4.n, s4.ob⟩ := SlOk.since (s := st'.store) (s1 := s4) q2 (fun k => Cn_mono (Nat.le_refl _) (fun _ _ => rfl) z3 _ _ (hs.slots k))
       have := end_ok (w0 := w) (m0 := m) (B0 := B) (s0 := s1) (st := ⟨st'.sl, s4.n, s4.ob⟩) hr (H1 := H1) rfl rfl hs.size (Marks0.since (s := st'.store) (s1 := s4) hM3 q2) hsl (q1.cast (H' := H1) rfl) ((hS2.trans z2).trans q2) q3
       refine leavesM_mono ?_ M .returning w4 this
       rintro e w' ⟨m', B', s', out, r1, r2, r3, r4⟩
       exact ⟨m', B', s', out, r1, r2.cast (H' := H) rfl, r3, r4⟩
     refine ⟨hur, .inr ⟨fun h => by simp [Fence.wide] at h, _, ca, fd, #[] ++ ca, rfl, ?_, fun _ _ => trivial, ?_⟩⟩
     · simp only [d, invoke, callFunc, Sem.run_bind, Sem.run_pure, run_program, Result.andThen_ok, hfd, hbd, hnd, Bool.false_eq_true, if_false]
     · rw [Array.empty_append]
       rcases hu with ⟨rfl, rfl⟩ | ⟨y, v, rfl, rfl, hv⟩
       · have := hD1 _ hd
         rw [Array.toArray_toList] at this
         refine this.mono ?_
         rintro e u' w4 ⟨⟨v, rfl⟩, rfl, m4, B4, s4, q1, q2, q3⟩
         exact cont w4 m4 B4 s4 q2 q3 q1
       · have := hD2 y v _ (Cn_mono (Nat.le_refl _) (fun _ _ => rfl) z3 _ _ hv) hd
         rw [Array.toArray_toList] at this
         refine this.mono ?_
         rintro e u' w4 ⟨⟨v', rfl⟩, rfl, m4, B4, s4, q1, q2, q3⟩
         exact cont w4 m4 B4 s4 q2 q3 q1
   intro e a' w' hle
   cases e with
   | exit _ => obtain ⟨_, _, _, k1, _⟩ := hle; exact k1.elim
   | goto l => exact hle.elim
   | outgrown => exact hle.elim
   | normal =>
     obtain ⟨m', B', st', r1, r2, r3⟩ := hle
     exact fin none .returning a' w' m' B' st' r2 r3 (.inl ⟨rfl, rfl⟩) r1
   | ret =>
     obtain ⟨m', B', st', r1, r2, r3⟩ := hle
     exact fin none .returning a' w' m' B' st' r2 r3 (.inl ⟨rfl, rfl⟩) r1
   | panic ch =>
     obtain ⟨v, x, m', B', st', rfl, r1, r2, r3, r4⟩ := hle
     exact fin (some x) (.panicking [{ v := v, recovered := false }]) a' w' m' B' st' r2 r3 (.inr ⟨x, v, rfl, rfl, r4⟩) r1
 · -- a return ahead of it
   intro a1 w1 m1 B1 st1 k2 k3 k1
   obtain ⟨M, em, hM⟩ := k2.defers
   have em2 : a1.defers = M := by rw [em]; exact List.append_nil _
   show LeavesInM _ _ _ _ _ _ a1.defers _ _
   rw [em2]
   refine leavesM_mono ?_ M .returning w1 (end_ok (w0 := w) (m0 := m) (B0 := B) (s0 := s1) hr (H1 := H1) rfl rfl k2.size hM k2.slots k2.store k3 k1)
   rintro e w' ⟨m', B', s', out, r1, r2, r3, r4⟩
   exact ⟨m', B', s', out, r1, r2.cast (H' := H) rfl, r3, r4⟩
def dfOp : Oper → Bool := fun o => match o.op with
 | .defer _ => true
 | _ => false
def splitD : Code → Option (List Code × Nat × Oper × Oper × Code)
 | .seq x y => match x with
   | .region id ops false => match ops.toList with
     | [o1, o2] => if dfOp o2 = true then some ([], id, o1, o2, y) else (splitD y).map fun p => (x :: p.1, p.2)
     | _ => (splitD y).map fun p => (x :: p.1, p.2)
   | x => (splitD y).map fun p => (x :: p.1, p.2)
 | _ => none
theorem splitD_eq : ∀ (c : Code) {bs : List Code} {id : Nat} {o1 o2 : Oper} {r : Code}, splitD c = some (bs, id, o1, o2, r) → c = seqs bs (.seq (.region id #[o1, o2] false) r)
 | .seq x y, bs, id, o1, o2, r, h => by
   have go : (splitD y).map (fun p => (x :: p.1, p.2)) = some (bs, id, o1, o2, r) → Code.seq x y = seqs bs (.seq (.region id #[o1, o2] false) r) := fun h => by
     obtain ⟨⟨bs', q⟩, h1, h2⟩ := Option.map_eq_some_iff.1 h
     simp only [Prod.mk.injEq] at h2
     obtain ⟨rfl, rfl⟩ := h2
     rw [splitD_eq y h1]; rfl
   simp only [splitD] at h
   split at h
   · rename_i id' ops
     split at h
     · rename_i p1 p2 e
       split at h
       · simp only [Option.some.injEq, Prod.mk.injEq] at h
         obtain ⟨rfl, rfl, rfl, rfl, rfl⟩ := h
         have : ops = #[p1, p2] := by rw [← Array.toArray_toList (xs := ops), e]
         rw [this]; rfl
       · exact go h
     · exact go h
   · exact go h
 | .skip, _, _, _, _, _, h => by cases h
 | .region .., _, _, _, _, _, h => by cases h
 | .cond .., _, _, _, _, _, h => by cases h
 | .block .., _, _, _, _, _, h => by cases h
 | .loop .., _, _, _, _, _, h => by cases h
 | .exit .., _, _, _, _, _, h => by cases h
 | .ret, _, _, _, _, _, h => by cases h
 | .rangeFunc .., _, _, _, _, _, h => by cases h
 | .scope .., _, _, _, _, _, h => by cases h
 | .label .., _, _, _, _, _, h => by cases h
 | .goto .., _, _, _, _, _, h => by cases h
 | .refuse .., _, _, _, _, _, h => by cases h
def okD (o1 o2 : Oper) (t : Nat) : Bool := o1.guard.isNone && o2.guard.isNone && o2.dst.isNone && !dfOp o1 && (match o2.op with
 | .defer c => (match c.callee with
   | .value (.tmp t') => t' == t
   | _ => false) && c.args.isEmpty
 | _ => false)
def ccD (P : Program) (N : Nat) (A : Ann) (c : Code) : Option (List SCode × SCode × Nat × FuncId × List Rv) :=
 (splitD c).bind fun p => (p.1.mapM (cc P N A)).bind fun ss => (cc P N A p.2.2.2.2).bind fun sR => match cop P N 0 p.2.2.1 with
   | some (.mf t fd rcs) => if okD p.2.2.1 p.2.2.2.1 t = true ∧ flat p.2.2.2.2 = true then some (ss, sR, t, fd, rcs) else none
   | _ => none
theorem mapM_map {α β : Type} {f : α → Option β} : ∀ {l : List α} {r : List β}, l.mapM f = some r → l.map f = r.map some
 | [], r, h => by simp at h; subst h; rfl
 | a :: l, r, h => by
   simp only [List.mapM_cons, Option.bind_eq_bind, Option.bind_eq_some_iff, Option.pure_def, Option.some.injEq] at h
   obtain ⟨b, h1, bs, h2, rfl⟩ := h
   simp [h1, mapM_map h2]
theorem sound_of_ccD {f : FuncId} {fn : Func} {b : Code} {ss : List SCode} {sR : SCode} {rs : List RR} {t : Nat} {fd : FuncId} {rcs : List Rv} (hm : P.follows .mixedOrders = true) (hf : P.funcs[f]? = some fn) (hb : fn.body = some b) (hn : (fn.name == "runtime.NumGoroutine") = false)
   {A : Ann} (hc : ccD P fn.ntmps A b = some (ss, sR, t, fd, rcs)) (hr : fn.results.toList.map (crr P) = rs.map some)
   (hT : ∀ f, Sound G P f (T f)) {D : DCon} (hD : SoundD G P fd D) {C : Contract} (hl : C.lawful) (hit : SoundIt G P f C.it)
   (hC : ∀ args st K, C.wp args st K → args.length ≤ fn.ntmps ∧ ∃ os, evs T st.n (endK rs st.n os K) ss (fun st1 =>
     ev T st1.n sR (st1.put t (.fn fd (rcs.map fun x => x.get st1))) (defE D rs st.n os K (rcs.map fun x => x.get st1)) (fun x s => defK D rs st.n os K (some x) (rcs.map fun x => x.get st1) s)) (st0 args st)) : Sound G P f C := by
 unfold ccD at hc
 obtain ⟨⟨bs, id, o1, o2, r⟩, h1, hc⟩ := Option.bind_eq_some_iff.1 hc
 obtain ⟨ss', h2, hc⟩ := Option.bind_eq_some_iff.1 hc
 obtain ⟨sR', h3, hc⟩ := Option.bind_eq_some_iff.1 hc
 simp only at h2 h3 hc
 split at hc
 · rename_i t' fd' rcs' h4
   obtain ⟨⟨h5, h6⟩, h7⟩ := Option.ite_none_right_eq_some.1 hc
   simp only [Option.some.injEq, Prod.mk.injEq] at h7
   obtain ⟨rfl, rfl, rfl, rfl, rfl⟩ := h7
   simp only [okD, Bool.and_eq_true, Option.isNone_iff_eq_none, Bool.not_eq_true'] at h5
   obtain ⟨⟨⟨⟨g1, g2⟩, g3⟩, g4⟩, g5⟩ := h5
   split at g5
   · rename_i c ec
     obtain ⟨callee, args, ats⟩ := c
     simp only [Bool.and_eq_true] at g5
     obtain ⟨g6, g7⟩ := g5
     split at g6
     · rename_i t1 t2
       have e3 : t2 = t' := by simpa using g6
       subst e3
       have e4 : args = #[] := by simpa using g7
       subst e4
       exact sound_of_evD hm hf (by rw [hb, splitD_eq b h1]) hn (mapM_map h2) h3 h6 hr h4 g1 (fun c e => by simp [dfOp, e] at g4) ec g3 g2 hT hD hl hit hC
     · cases g6
   · cases g5
 · cases hc
def xvs (T : FuncId → Contract) (n0 : Nat) (Kr : St → Prop) : List SCode → (St → Prop) → St → Prop
 | [], K, st => K st
 | s :: l, K, st => xv T n0 s st (fun e st1 => match e with
   | .normal => xvs T n0 Kr l K st1
   | .ret => Kr st1
   | .exit _ => False) noP
theorem xvs_eq : @xvs = @evs := by
 funext T n0 Kr l K st
 induction l generalizing st with
 | nil => rfl
 | cons s l ih =>
   simp only [xvs, evs]
   rw [xv_eq]
   congr 1
   funext e st1
   cases e
   · exact ih st1
   · rfl
   · rfl
end
end Go.Ev
namespace Go.Proofs.YtlghobefhmpfkaaGreatDoor
open Go Go.Ev
set_option maxRecDepth 100000
theorem mo : Tryz.prog.follows .mixedOrders = true := by kernel_rfl
def A105 : Ann := ⟨fun _ _ => 0, fun _ => none, fun r => if r = 1 then some (false, [0]) else none, fun _ => []⟩
def S105 : SCode :=
 (.seq (.ops [⟨none, (some 2), .mv 2 (.k (Value.string ⟨#[]⟩)), false⟩])
 (.seq (.seq (.keep [0]) (.ops [⟨none, (some 3), .mv 3 (.s 0), false⟩,
   ⟨none, (some 4), .call (some 4) 155 false [(.s 3)], false⟩,
   ⟨none, (some 2), .mv 2 (.s 4), false⟩]))
 .ret))
def R105 : List RR := [.sl 2]
theorem sd105 : SdT Tryz.prog 105 5 S105 R105 := fun hT hl hC hit => sdX (F := Tryz.f105) (A := A105) mo (by kernel_rfl) (by kernel_rfl) (by kernel_rfl) (by kernel_rfl) hT hl hC hit
def A18 : Ann := ⟨fun _ _ => 0, fun _ => none, fun r => if r = 1 then some (false, [0]) else none, fun _ => []⟩
def S18 : SCode :=
 (.seq (.ops [⟨none, (some 2), .mv 2 (.k (Value.string ⟨#[]⟩)), false⟩,
   ⟨none, (some 3), .mv 3 (.k (Value.bool false)), false⟩])
 (.seq (.seq (.keep [0]) (.ops [⟨none, (some 4), .mv 4 (.s 0), false⟩,
   ⟨none, (some 5), .call (some 5) 52 false [(.s 4), (.k (Value.string ⟨#[10]⟩))], false⟩,
   ⟨none, (some 6), .ex 6 (.s 5) 0, false⟩,
   ⟨none, (some 7), .ex 7 (.s 5) 1, false⟩,
   ⟨none, (some 2), .mv 2 (.s 6), false⟩,
   ⟨none, (some 3), .mv 3 (.s 7), false⟩]))
 .ret))
def R18 : List RR := [.sl 2, .sl 3]
theorem sd18 : SdT Tryz.prog 18 8 S18 R18 := fun hT hl hC hit => sdX (F := Tryz.f18) (A := A18) mo (by kernel_rfl) (by kernel_rfl) (by kernel_rfl) (by kernel_rfl) hT hl hC hit
def A52 : Ann := ⟨fun _ _ => 0, fun _ => none, fun r => if r = 1 then some (false, [0, 1]) else none, fun _ => []⟩
def S52 : SCode :=
 (.seq (.ops [⟨none, (some 4), .mv 4 (.k (Value.string ⟨#[]⟩)), false⟩,
   ⟨none, (some 5), .mv 5 (.k (Value.bool false)), false⟩])
 (.seq (.seq (.keep [0, 1]) (.ops [⟨none, (some 6), .mv 6 (.s 0), false⟩,
   ⟨none, (some 7), .mv 7 (.s 1), false⟩,
   ⟨none, (some 8), .call (some 8) 107 false [(.s 6), (.s 7)], false⟩,
   ⟨none, (some 9), .ex 9 (.s 8) 0, false⟩,
   ⟨none, (some 10), .ex 10 (.s 8) 1, false⟩,
   ⟨none, (some 4), .mv 4 (.s 9), false⟩,
   ⟨none, (some 5), .mv 5 (.s 10), false⟩]))
 .ret))
def R52 : List RR := [.sl 4, .sl 5]
theorem sd52 : SdT Tryz.prog 52 11 S52 R52 := fun hT hl hC hit => sdX (F := Tryz.f52) (A := A52) mo (by kernel_rfl) (by kernel_rfl) (by kernel_rfl) (by kernel_rfl) hT hl hC hit
def A107 : Ann := ⟨fun _ _ => 0, fun _ => none, fun r => if r = 1 then some (false, [0, 1]) else if r = 2 then some (false, [0]) else if r = 3 then some (false, [0, 1]) else none, fun _ => []⟩
def S107 : SCode :=
 (.seq (.ops [⟨none, (some 4), .mv 4 (.k (Value.string ⟨#[]⟩)), false⟩,
   ⟨none, (some 5), .mv 5 (.k (Value.bool false)), false⟩])
 (.seq (.seq (.seq (.keep [0, 1]) (.ops [⟨none, (some 6), .mv 6 (.s 0), false⟩,
   ⟨none, (some 7), .mv 7 (.s 1), false⟩,
   ⟨none, (some 8), .call (some 8) 148 false [(.s 6), (.s 7)], false⟩,
   ⟨none, (some 9), .not 9 (.s 8), false⟩]))
 (.cond (.s 9) (.seq (.seq (.keep [0]) (.ops [⟨none, (some 10), .mv 10 (.s 0), false⟩,
   ⟨none, (some 4), .mv 4 (.s 10), false⟩,
   ⟨none, (some 5), .mv 5 (.k (Value.bool false)), false⟩]))
 .ret) .skip))
 (.seq (.seq (.keep [0, 1]) (.ops [⟨none, (some 11), .mv 11 (.s 0), false⟩,
   ⟨none, (some 12), .mv 12 (.s 0), false⟩,
   ⟨none, (some 13), .lens 13 (.s 12), false⟩,
   ⟨none, (some 14), .mv 14 (.s 1), false⟩,
   ⟨none, (some 15), .lens 15 (.s 14), false⟩,
   ⟨none, (some 16), .binc 16 .sub (.s 13) (.s 15), false⟩,
   ⟨none, (some 17), .sls 17 (.s 11) none (some (.s 16)), false⟩,
   ⟨none, (some 4), .mv 4 (.s 17), false⟩,
   ⟨none, (some 5), .mv 5 (.k (Value.bool true)), false⟩]))
 .ret)))
def R107 : List RR := [.sl 4, .sl 5]
theorem sd107 : SdT Tryz.prog 107 18 S107 R107 := fun hT hl hC hit => sdX (F := Tryz.f107) (A := A107) mo (by kernel_rfl) (by kernel_rfl) (by kernel_rfl) (by kernel_rfl) hT hl hC hit
def A148 : Ann := ⟨fun r i => if r = 1 ∧ i = 8 then 1 else if r = 1 ∧ i = 10 then 1 else 0, fun _ => none, fun r => if r = 1 then some (false, [0, 1]) else none, fun _ => []⟩
def S148 : SCode :=
 (.seq (.ops [⟨none, (some 4), .mv 4 (.k (Value.bool false)), false⟩])
 (.seq (.seq (.keep [0, 1]) (.ops [⟨none, (some 5), .mv 5 (.s 0), false⟩,
   ⟨none, (some 6), .lens 6 (.s 5), false⟩,
   ⟨none, (some 7), .mv 7 (.s 1), false⟩,
   ⟨none, (some 8), .lens 8 (.s 7), false⟩,
   ⟨none, (some 9), .bin 9 .geq (.s 6) (.s 8), false⟩,
   ⟨none, (some 10), .mv 10 (.s 9), false⟩,
   ⟨(some (10, true)), (some 11), .mv 11 (.s 0), false⟩,
   ⟨(some (10, true)), (some 12), .mv 12 (.s 0), false⟩,
   ⟨(some (10, true)), (some 13), .lens 13 (.s 12), false⟩,
   ⟨(some (10, true)), (some 14), .mv 14 (.s 1), true⟩,
   ⟨(some (10, true)), (some 15), .lens 15 (.s 14), false⟩,
   ⟨(some (10, true)), (some 16), .binc 16 .sub (.s 13) (.s 15), false⟩,
   ⟨(some (10, true)), (some 17), .sls 17 (.s 11) (some (.s 16)) none, false⟩,
   ⟨(some (10, true)), (some 18), .mv 18 (.s 1), false⟩,
   ⟨(some (10, true)), (some 19), .bin 19 .eql (.s 17) (.s 18), false⟩,
   ⟨none, (some 20), .pk 20 (.s 10) (.s 19) (.k (Value.bool false)), false⟩,
   ⟨none, (some 4), .mv 4 (.s 20), false⟩]))
 .ret))
def R148 : List RR := [.sl 4]
theorem sd148 : SdT Tryz.prog 148 21 S148 R148 := fun hT hl hC hit => sdX (F := Tryz.f148) (A := A148) mo (by kernel_rfl) (by kernel_rfl) (by kernel_rfl) (by kernel_rfl) hT hl hC hit
end Go.Proofs.YtlghobefhmpfkaaGreatDoor
namespace Go.Proofs
open Go.Shelf
def Tryz.laysM171_ren : Go.Shelf.Ren := ⟨fun | 171 => 155 | 243 => 194 | 246 => 216 | 283 => 222 | 284 => 223 | 285 => 224 | 286 => 225 | 129 => 229 | 317 => 228 | 318 => 230 | 319 => 231 | 320 => 232 | 337 => 233 | 338 => 234 | n => n, fun | 3 => 3 | 9 => 9 | 2 => 2 | 4 => 4 | 171 => 276 | 0 => 0 | 53 => 270 | 37 => 115 | 5 => 5 | 173 => 279 | 212 => 290 | 51 => 264 | 20 => 20 | 213 => 291 | 46 => 226 | 232 => 294 | 233 => 295 | n => n, fun | 17 => 6 | 18 => 7 | 19 => 8 | n => n⟩
theorem Tryz.laysM171 : Go.Proofs.LaysM.n171 Tryz.prog Tryz.laysM171_ren := {
 mixed := by kernel_rfl
 f129 := Tryz.func229.trans (congrArg some (by kernel_rfl))
 f171 := Tryz.func155.trans (congrArg some (by kernel_rfl))
 f243 := Tryz.func194.trans (congrArg some (by kernel_rfl))
 f246 := Tryz.func216.trans (congrArg some (by kernel_rfl))
 f283 := Tryz.func222.trans (congrArg some (by kernel_rfl))
 f284 := Tryz.func223.trans (congrArg some (by kernel_rfl))
 f285 := Tryz.func224.trans (congrArg some (by kernel_rfl))
 f286 := Tryz.func225.trans (congrArg some (by kernel_rfl))
 f317 := Tryz.func228.trans (congrArg some (by kernel_rfl))
 f318 := Tryz.func230.trans (congrArg some (by kernel_rfl))
 f319 := Tryz.func231.trans (congrArg some (by kernel_rfl))
 f320 := Tryz.func232.trans (congrArg some (by kernel_rfl))
 f337 := Tryz.func233.trans (congrArg some (by kernel_rfl))
 f338 := Tryz.func234.trans (congrArg some (by kernel_rfl))
 t0 := Tryz.underlying0
 a0 := Tryz.isAgg0
 z0 := Tryz.sizeOf0
 v0 := Tryz.zeroValue0
 t2 := Tryz.underlying2
 a2 := Tryz.isAgg2
 z2 := Tryz.sizeOf2
 v2 := Tryz.zeroValue2
 t3 := Tryz.underlying3
 a3 := Tryz.isAgg3
 z3 := Tryz.sizeOf3
 v3 := Tryz.zeroValue3
 t4 := Tryz.underlying4
 a4 := Tryz.isAgg4
 z4 := Tryz.sizeOf4
 v4 := Tryz.zeroValue4
 t5 := Tryz.underlying5
 a5 := Tryz.isAgg5
 z5 := Tryz.sizeOf5
 v5 := Tryz.zeroValue5
 t9 := Tryz.underlying9
 a9 := Tryz.isAgg9
 z9 := Tryz.sizeOf9
 v9 := Tryz.zeroValue9
 t20 := Tryz.underlying20
 a20 := Tryz.isAgg20
 z20 := Tryz.sizeOf20
 v20 := Tryz.zeroValue20
 t37 := Tryz.underlying115
 a37 := Tryz.isAgg115
 z37 := Tryz.sizeOf115
 v37 := Tryz.zeroValue115
 t46 := Tryz.underlying226
 a46 := Tryz.isAgg226
 z46 := Tryz.sizeOf226
 v46 := Tryz.zeroValue226
 t51 := Tryz.underlying264
 a51 := Tryz.isAgg264
 z51 := Tryz.sizeOf264
 v51 := Tryz.zeroValue264
 t53 := Tryz.underlying270
 a53 := Tryz.isAgg270
 z53 := Tryz.sizeOf270
 v53 := Tryz.zeroValue270
 t171 := Tryz.underlying276
 a171 := Tryz.isAgg276
 z171 := Tryz.sizeOf276
 v171 := Tryz.zeroValue276
 t173 := Tryz.underlying279
 a173 := Tryz.isAgg279
 z173 := Tryz.sizeOf279
 v173 := Tryz.zeroValue279
 t212 := Tryz.underlying290
 a212 := Tryz.isAgg290
 z212 := Tryz.sizeOf290
 v212 := Tryz.zeroValue290
 t213 := Tryz.underlying291
 a213 := Tryz.isAgg291
 z213 := Tryz.sizeOf291
 t232 := Tryz.underlying294
 a232 := Tryz.isAgg294
 z232 := Tryz.sizeOf294
 v232 := Tryz.zeroValue294
 t233 := Tryz.underlying295
 a233 := Tryz.isAgg295
 z233 := Tryz.sizeOf295
 v233 := Tryz.zeroValue295
 g17 := by kernel_rfl
 g18 := by kernel_rfl
 g19 := by kernel_rfl
 i0 := by kernel_rfl
 i2 := by kernel_rfl
 i3 := by kernel_rfl
 i4 := by kernel_rfl
 i5 := by kernel_rfl
 i9 := by kernel_rfl
 i20 := by kernel_rfl
 i37 := by kernel_rfl
 i46 := by kernel_rfl
 i51 := by kernel_rfl
 i53 := by kernel_rfl
 i171 := by kernel_rfl
 i173 := by kernel_rfl
 i212 := by kernel_rfl
 i232 := by kernel_rfl
 i233 := by kernel_rfl
 m17 := by kernel_rfl
 m18 := by kernel_rfl
 m19 := by kernel_rfl }
open Go.RowKit Go.Sort Go.Lib in
theorem Tryz.strconv_Itoa (n : Int) (h0 : -9223372036854775808 ≤ n) (h1 : n ≤ 9223372036854775807) (w : World) (htab : Lib.TabIs Tryz.prog w "internal/strconv.uint64pow10" .u64 Lib.pow10Tab) :
 Calls Tryz.prog 155 #[.int .i64 n] w fun e w' => e = .returned (.string ⟨(Lib.itoa n).toArray⟩) ∧ ∃ k os, w' = grow (w.drewN k) os := Any.strconv_Itoa Tryz.laysM171 n h0 h1 w htab
end Go.Proofs
namespace Go.Proofs.YtlghobefhmpfkaaGreatDoor
open Go Go.Ev
set_option maxRecDepth 100000
variable {G : World → Prop}
def Pow10 (w : World) : Prop := Lib.TabIs Tryz.prog w "internal/strconv.uint64pow10" .u64 Lib.pow10Tab
def CItoa : Contract := pureC fun args => match args with
 | [.d (.v (.int .i64 n))] => some (-9223372036854775808 ≤ n ∧ n ≤ 9223372036854775807, .d (.v (str (Lib.itoa n))))
 | _ => none
theorem sItoa (hG : ∀ w, G w → Pow10 w) : Sound G Tryz.prog 155 CItoa := by
 refine sound_lib ⟨Tryz.f155, by kernel_rfl, by kernel_rfl, by kernel_rfl⟩ fun args p x h hp => ?_
 split at h <;> simp only [Option.some.injEq, Prod.mk.injEq, reduceCtorEq] at h
 obtain ⟨rfl, rfl⟩ := h
 refine ⟨_, fun m n c => ⟨rfl, rfl⟩, fun w hw m c vs hc hv => ?_⟩
 match vs, hv with
 | [a], hv =>
   simp only [CnL, and_true] at hv
   rw [of_v hv]
   refine (Tryz.strconv_Itoa _ hp.1 hp.2 w (hG w hw)).mono ?_
   rintro e w' ⟨rfl, k, os, rfl⟩
   refine ⟨rfl, ⟨rfl, rfl, rfl, ?_, fun b hb => ?_⟩⟩
   · simp [«Sort».grow, World.drewN]
   · simp [«Sort».grow, World.drewN, Array.getElem?_append_left hb]
 | [], hv => simp [CnL] at hv
 | _ :: _ :: _, hv => simp [CnL] at hv
theorem itoa_len {n : Int} (h : -9223372036854775808 ≤ n ∧ n ≤ 9223372036854775807) : (Lib.itoa n).length ≤ 21 := Lib.itoa_length_le n h.1 h.2
theorem s105 (hG : ∀ w, G w → Pow10 w) : Sound G Tryz.prog 105 CItoa := by
 refine sd105 (T := tabT [(155, CItoa)]) (tab_cons (sItoa hG) tab_nil) (pureC_lawful _) (pure_hX fun args p x K h hp hk => ?_)
 split at h <;> simp only [Option.some.injEq, Prod.mk.injEq, reduceCtorEq] at h
 obtain ⟨rfl, rfl⟩ := h
 refine ⟨Nat.le_of_ble_eq_true rfl, ?_⟩
 simp -dsimp -implicitDefEqProofs only [S105, R105, CItoa, ↓Ev.xStp_eq, ↓Ev.P, Ev.Q, Ev.Z, simprocAttr]
 exact ⟨hp, hk⟩
theorem dec_big {u : Nat} (h : ¬ u < 10) : Lib.decDigits u = Lib.decDigits (u / 10) ++ [UInt8.ofNat (48 + u % 10)] := by rw [Lib.decDigits, dif_neg h]
theorem dec_small {u : Nat} (h : u < 10) : Lib.decDigits u = [UInt8.ofNat (48 + u % 10)] := by rw [Lib.decDigits, dif_pos h, Nat.mod_eq_of_lt h]
end Go.Proofs.YtlghobefhmpfkaaGreatDoor
namespace Go.Ev
open Go
def strRows (l : List (List UInt8)) : List (List D) := l.map fun s => [.v (.string ⟨s.toArray⟩)]
theorem strRows_len (l : List (List UInt8)) : (strRows l).length = l.length := by simp [strRows]
theorem strRows_get {l : List (List UInt8)} {i : Nat} (h : i < l.length) : (strRows l)[i]? = some [.v (.string ⟨(l.getD i []).toArray⟩)] := by
 simp [strRows, List.getD_eq_getElem?_getD, List.getElem?_eq_getElem h]
theorem strRows_all (l : List (List UInt8)) : (∀ r ∈ strRows l, r.length = 1) = True := by
 simp only [strRows, List.mem_map, eq_iff_iff, iff_true]
 rintro r ⟨s, _, rfl⟩; rfl
def unStr : List (List D) → Option (List (List UInt8))
 | [] => some []
 | [.v (.string s)] :: r => (unStr r).map (s.data.toList :: ·)
 | _ :: _ => none
theorem unStr_rows : ∀ l : List (List UInt8), unStr (strRows l) = some l
 | [] => rfl
 | s :: l => by
   have h := unStr_rows l
   unfold strRows at h
   simp [strRows, unStr, h]
theorem unStr_eq : ∀ {rows : List (List D)} {l : List (List UInt8)}, unStr rows = some l → rows = strRows l
 | [], l, h => by simp only [unStr, Option.some.injEq] at h; subst h; rfl
 | r :: rs, l, h => by
   unfold unStr at h
   split at h
   · rename_i e; cases e
   · rename_i s r' e
     simp only [List.cons.injEq] at e
     obtain ⟨rfl, rfl⟩ := e
     obtain ⟨m, h1, rfl⟩ := Option.map_eq_some_iff.1 h
     rw [unStr_eq h1]
     simp [strRows]
   · cases h
end Go.Ev
namespace Go.Proofs.YtlghobefhmpfkaaGreatDoor
open Go Go.Ev
set_option maxRecDepth 100000
variable {G : World → Prop}
def bareS (s : List UInt8) : List UInt8 × Bool := if s.getLast? = some 10 then (s.dropLast, true) else (s, false)
def CBare : Contract := pureC fun args => match args with
 | [.d (.v (.string s))] => some (s.size ≤ 1099511627776, .tup [.d (.v (str (bareS s.data.toList).1)), .d (.v (.bool (bareS s.data.toList).2))])
 | _ => none
def hasSuf (s p : List UInt8) : Bool := decide ((p.length : Int) ≤ (s.length : Int)) && decide (s.drop (s.length - p.length) = p)
def CSuf : Contract := pureC fun args => match args with
 | [.d (.v (.string s)), .d (.v (.string p))] => some (s.size ≤ 1099511627776 ∧ p.size ≤ 1099511627776, .d (.v (.bool (hasSuf s.data.toList p.data.toList))))
 | _ => none
theorem s148 : Sound G Tryz.prog 148 CSuf := by
 refine sd148 (T := tabT []) tab_nil (pureC_lawful _) (pure_hX fun args p x K h hp hk => ?_)
 split at h <;> simp only [Option.some.injEq, Prod.mk.injEq, reduceCtorEq] at h
 obtain ⟨rfl, rfl⟩ := h
 refine ⟨Nat.le_of_ble_eq_true rfl, ?_⟩
 rename_i s p
 obtain ⟨s, rfl⟩ := ex_str s
 obtain ⟨p, rfl⟩ := ex_str p
 simp only [sem_str] at hk hp
 simp -dsimp -implicitDefEqProofs only [S148, R148, ↓Ev.xStp_eq, ↓Ev.P, Ev.Q, Ev.Z, simprocAttr]
 repeat' (first | with_reducible assumption | refine And.intro ?_ ?_ | intro _)
 all_goals first | omega | exact hk
def CCutS : Contract := pureC fun args => match args with
 | [.d (.v (.string s)), .d (.v (.string p))] => some (s.size ≤ 1099511627776 ∧ p.size ≤ 1099511627776, .tup [.d (.v (str (if hasSuf s.data.toList p.data.toList then s.data.toList.take (s.data.toList.length - p.data.toList.length) else s.data.toList))), .d (.v (.bool (hasSuf s.data.toList p.data.toList)))])
 | _ => none
theorem s107 : Sound G Tryz.prog 107 CCutS := by
 refine sd107 (T := tabT [(148, CSuf)]) (tab_cons s148 tab_nil) (pureC_lawful _) (pure_hX fun args p x K h hp hk => ?_)
 split at h <;> simp only [Option.some.injEq, Prod.mk.injEq, reduceCtorEq] at h
 obtain ⟨rfl, rfl⟩ := h
 refine ⟨Nat.le_of_ble_eq_true rfl, ?_⟩
 rename_i s p
 obtain ⟨s, rfl⟩ := ex_str s
 obtain ⟨p, rfl⟩ := ex_str p
 simp only [sem_str] at hk hp
 simp -dsimp -implicitDefEqProofs only [S107, R107, CSuf, ↓Ev.xStp_eq, ↓Ev.P, Ev.Q, Ev.Z, simprocAttr]
 refine ⟨hp, fun h => ?_, fun h => ?_⟩
 · rw [h] at hk; exact hk
 · have : p.length ≤ s.length := by simp only [hasSuf, Bool.and_eq_true, decide_eq_true_eq] at h; omega
   rw [h] at hk
   repeat' (first | with_reducible assumption | refine And.intro ?_ ?_ | intro _)
   all_goals first | omega | exact hk
theorem s52 : Sound G Tryz.prog 52 CCutS := by
 refine sd52 (T := tabT [(107, CCutS)]) (tab_cons s107 tab_nil) (pureC_lawful _) (pure_hX fun args p x K h hp hk => ?_)
 split at h <;> simp only [Option.some.injEq, Prod.mk.injEq, reduceCtorEq] at h
 obtain ⟨rfl, rfl⟩ := h
 refine ⟨Nat.le_of_ble_eq_true rfl, ?_⟩
 simp -dsimp -implicitDefEqProofs only [S52, R52, CCutS, ↓Ev.xStp_eq, ↓Ev.P, Ev.Q, Ev.Z, simprocAttr]
 exact ⟨hp, hk⟩
theorem suf10 (s : List UInt8) : hasSuf s [10] = (bareS s).2 ∧ (if hasSuf s [10] then s.take (s.length - 1) else s) = (bareS s).1 := by
 rcases List.eq_nil_or_concat s with rfl | ⟨m, c, rfl⟩
 · exact ⟨rfl, rfl⟩
 · rw [List.concat_eq_append]
   have e : hasSuf (m ++ [c]) [10] = decide (c = 10) := by
     unfold hasSuf
     have h1 : decide ((([10] : List UInt8).length : Int) ≤ ((m ++ [c]).length : Int)) = true := by simp; omega
     have h2 : (m ++ [c]).drop ((m ++ [c]).length - ([10] : List UInt8).length) = [c] := by simp
     rw [h1, h2]; simp
   rw [e]
   unfold bareS
   by_cases h : c = 10
   · subst h; simp
   · simp [h]
theorem s18 : Sound G Tryz.prog 18 CBare := by
 refine sd18 (T := tabT [(52, CCutS)]) (tab_cons s52 tab_nil) (pureC_lawful _) (pure_hX fun args p x K h hp hk => ?_)
 split at h <;> simp only [Option.some.injEq, Prod.mk.injEq, reduceCtorEq] at h
 obtain ⟨rfl, rfl⟩ := h
 refine ⟨Nat.le_of_ble_eq_true rfl, ?_⟩
 rename_i s
 obtain ⟨s, rfl⟩ := ex_str s
 simp only [sem_str] at hk hp
 obtain ⟨h1, h2⟩ := suf10 s
 rw [← h1, ← h2] at hk
 simp -dsimp -implicitDefEqProofs only [S18, R18, CCutS, ↓Ev.xStp_eq, ↓Ev.P, Ev.Q, Ev.Z, simprocAttr]
 exact ⟨hp, hk⟩
end Go.Proofs.YtlghobefhmpfkaaGreatDoor
namespace Go.Proofs.YtlghobefhmpfkaaGreatDoor
open Go Go.Ev Go.RowKit
def bldT (t : Nat) : Bool := t == 117
 || t == 126
theorem szB : (Tryz.prog.info? 117).map (·.size) = some 2 := by kernel_rfl
theorem ubB : Tryz.prog.underlying 114 = some (.pointer 117) := by kernel_rfl
theorem ubU : Tryz.prog.underlying 139 = some .unsafePointer := by kernel_rfl
theorem lies0 : liesAt Tryz.prog Tryz.prog.depth 117 (2 / Tryz.prog.cellsOf 117) 0 117 1 = true := by kernel_rfl
theorem lies3 : liesAt Tryz.prog Tryz.prog.depth 126 (2 / Tryz.prog.cellsOf 126) 0 117 1 = true := by kernel_rfl
set_option maxRecDepth 100000 in
theorem lies (t : Nat) (h : bldT t = true) : liesAt Tryz.prog Tryz.prog.depth t (2 / Tryz.prog.cellsOf t) 0 117 1 = true := by
 by_cases e0 : t = 117
 · subst e0; exact lies0
 by_cases e3 : t = 126
 · subst e3; exact lies3
 exfalso; simp only [bldT, Bool.or_eq_true, beq_iff_eq] at h; omega
set_option maxHeartbeats 1000000 in
set_option maxRecDepth 100000 in
theorem cc_used (b : Nat) (w : World) (h0 : w.cell? ⟨b, 0, none⟩ = some (.pointer (some ⟨b, 0, none⟩))) :
   Calls Tryz.prog 123 #[.pointer (some ⟨b, 0, none⟩)] w fun e w' => e = .returned (.tuple #[]) ∧ w' = w := by
 obtain ⟨j, hj, _⟩ := Option.map_eq_some_iff.1 szB
 go_enter Tryz.func123, Tryz.ntmps123
 go_wp2
 rw [Lib.run_neq_ptr_same w _ ubB hj]
 go_wp2
 go_end0
 exact ⟨rfl, rfl⟩
set_option maxHeartbeats 1000000 in
set_option maxRecDepth 100000 in
theorem cc_fresh (t b : Nat) (ht : bldT t = true) (w : World) (h0 : w.cell? ⟨b, 0, none⟩ = some (.pointer none)) (hsh : w.shape? b = some (t, 2)) (hfz : w.frozen? ⟨b, 0, none⟩ = false) :
   Calls Tryz.prog 123 #[.pointer (some ⟨b, 0, none⟩)] w fun e w' => e = .returned (.tuple #[]) ∧ w' = w.setCell ⟨b, 0, none⟩ (.pointer (some ⟨b, 0, none⟩)) := by
 obtain ⟨j, hj, hjs⟩ := Option.map_eq_some_iff.1 szB
 go_enter Tryz.func123, Tryz.ntmps123
 go_wp2
 rw [Lib.run_to_unsafe w ⟨b, 0, none⟩ ubB ubU hj (by rw [hjs]; decide) hsh (Nat.zero_lt_succ 1)]
 simp only [Result.andThen]
 rw [Oper.upon_value]
 go_wp2
 rw [run_callFunc_extern Tryz.func169 (by kernel_rfl) (by kernel_rfl) (by kernel_rfl) (e := Extern.AbiNoEscape.same) (by kernel_rfl)]
 rw [Lib.run_noEscape]
 simp only [Result.andThen]
 rw [Oper.upon_value]
 go_wp2
 rw [Lib.run_from_unsafe w ⟨b, 0, none⟩ ubU ubB hj hsh (lies t ht)]
 simp only [Result.andThen]
 rw [Oper.upon_value]
 go_wp2
 go_end0
 exact ⟨rfl, rfl⟩
theorem cc_at {t u b : Nat} {p v : Value} {bs : List UInt8} (ht : bldT t = true) {w : World} (h : BldAt w t u b p v bs) :
   Calls Tryz.prog 123 #[.pointer (some ⟨b, 0, none⟩)] w fun e w' => e = .returned (.tuple #[]) ∧ BldTo w w' t u b v bs ∧ BldAt w' t u b (.pointer (some ⟨b, 0, none⟩)) v bs := by
 have hc : w.cell? ⟨b, 0, none⟩ = some p := by rw [Lib.cell_of_heap h.blk]; rfl
 rcases h.ptr with rfl | rfl
 · have hu := h.used rfl
   refine (cc_fresh t b ht w hc (by simp [World.shape?, h.blk]) (Lib.frozen_of_heap h.blk 0)).mono ?_
   rintro e w' ⟨rfl, rfl⟩
   refine ⟨rfl, hu, ?_⟩
   have hlt : b < w.heap.size := (Array.getElem?_eq_some_iff.1 h.blk).1
   obtain ⟨p', v', k, _⟩ := hu.is
   have hb : (w.setCell ⟨b, 0, none⟩ (.pointer (some ⟨b, 0, none⟩))).heap[b]? = some (.cells #[.pointer (some ⟨b, 0, none⟩), v] t (0, 0)) := by
     simp [World.setCell, Array.getElem?_modify, h.blk]
   have := k.blk
   rw [hb] at this
   simp only [Option.some.injEq, Obj.cells.injEq] at this
   obtain ⟨h1, _⟩ := this
   have h2 : v' = v := by simpa using (congrArg (fun a : Array Value => a.getD 1 undef) h1).symm
   subst h2
   exact ⟨hb, .inr rfl, k.own, k.ne⟩
 · refine (cc_used b w hc).mono ?_
   rintro e w' ⟨rfl, rfl⟩
   exact ⟨rfl, ⟨rfl, rfl, rfl, Nat.le_refl _, fun _ _ _ _ => rfl, ⟨_, v, h, .inl rfl⟩⟩, h⟩
theorem ubyte2 : Tryz.prog.underlying 115 = some (.slice 5) := by kernel_rfl
theorem ustr2 : Tryz.prog.underlying 9 = some .string := by kernel_rfl
theorem infB2 : (Tryz.prog.info? 5).map (fun i => (i.zero, i.size, i.bytes)) = some (some (.int .u8 0), 1, 1) := by kernel_rfl
set_option maxHeartbeats 2000000 in
set_option maxRecDepth 100000 in
theorem ws_at {t b : Nat} {p v : Value} {bs : List UInt8} (ht : bldT t = true) {w : World} (h : BldAt w t 5 b p v bs) (s : ByteArray) (hlen : bs.length + s.size ≤ 140737488355328) :
   Calls Tryz.prog 67 #[.pointer (some ⟨b, 0, none⟩), .string s] w fun e w' => e = .returned (.tuple #[.int .i64 s.size, .nilIface]) ∧ BldTo w w' t 5 b v (bs ++ s.data.toList) := by
 obtain ⟨i0, hi, hz0, hz1, hz2⟩ := info_parts infB2
 go_enter Tryz.func67, Tryz.ntmps67
 go_wp2_with (go_at_call 123; refine (cc_at ht h).mono ?_)
 rintro e w1 ⟨rfl, hb1, h1⟩
 have c0 : w1.cell? ⟨b, 0, none⟩ = some (.pointer (some ⟨b, 0, none⟩)) := by rw [Lib.cell_of_heap h1.blk]; rfl
 have c1 : w1.cell? ⟨b, 1, none⟩ = some v := by rw [Lib.cell_of_heap h1.blk]; rfl
 go_wp2_with (at_builtin; refine wpList_app_str (t := 115) (u := 9) rfl rfl ubyte2 ustr2 hi hz0 hz1 hz2 rfl h1.own (s := s) rfl hlen ?_)
 intro v' w2 hown' hgrow hv
 have hlt : b < w1.heap.size := (Array.getElem?_eq_some_iff.1 h1.blk).1
 have hb2 : w2.heap[b]? = some (.cells #[.pointer (some ⟨b, 0, none⟩), v] t (0, 0)) := by
   rw [hgrow.block b hlt (fun e => h1.ne e.symm)]
   exact h1.blk
 have d0 : w2.cell? ⟨b, 0, none⟩ = some (.pointer (some ⟨b, 0, none⟩)) := by rw [Lib.cell_of_heap hb2]; rfl
 have d1 : w2.cell? ⟨b, 1, none⟩ = some v := by rw [Lib.cell_of_heap hb2]; rfl
 have f1 : w2.frozen? ⟨b, 1, none⟩ = false := Lib.frozen_of_heap hb2 1
 have hfin := BldAt.wrote hb1 h1 (bs' := bs ++ s.data.toList) (by rw [byteVals_str]; simpa using hown') hgrow hv
 obtain ⟨ao, n', cap, rfl⟩ : ∃ ao n' cap, v' = .slice ao n' cap := by
   rcases hown'.2 with ⟨hv, _⟩ | ⟨g, cap, cur, hv, _⟩
   · exact ⟨_, _, _, hv⟩
   · exact ⟨_, _, _, hv⟩
 go_wp2
 go_ret2
 exact ⟨rfl, hfin⟩
def gWS : List SV → Nat → Nat → List UInt8 → Option (Prop × SV × List UInt8)
 | [.d (.v (.string s))], t, u, bs => if bldT t = true ∧ u = 5 then some (bs.length + s.size ≤ 140737488355328, .tup [.d (.v (.int .i64 s.size)), .d (.v .nilIface)], bs ++ s.data.toList) else none
 | _, _, _, _ => none
theorem sWS {G : World → Prop} : Sound G Tryz.prog 67 (bldC gWS) := by
 refine bld_sound ⟨Tryz.f67, by kernel_rfl, by kernel_rfl, by kernel_rfl⟩ ?_
 intro args t u bs p x bs' hg hp w b q v hb c m vs hc ha
 unfold gWS at hg
 split at hg
 · obtain ⟨⟨h1, rfl⟩, hg2⟩ := Option.ite_none_right_eq_some.1 hg
   simp only [Option.some.injEq, Prod.mk.injEq] at hg2
   obtain ⟨rfl, rfl, rfl⟩ := hg2
   match vs, ha with
   | [y], ha =>
     simp only [CnL, and_true] at ha
     rw [of_v ha]
     exact ⟨_, fun m n c => by simp only [Cn]; exact ⟨_, rfl, by simp only [CnL, Cn, and_true]; exact ⟨⟨rfl, rfl⟩, ⟨rfl, rfl⟩⟩⟩, ws_at h1 hb _ hp⟩
   | [], ha => simp [CnL] at ha
   | _ :: _ :: _, ha => simp [CnL] at ha
 · simp only [reduceCtorEq] at hg
end Go.Proofs.YtlghobefhmpfkaaGreatDoor
namespace Go.Proofs.YtlghobefhmpfkaaGreatDoor
open Go Go.Ev
set_option maxRecDepth 100000
variable {G : World → Prop}
def cntB (n : Int) : Bool := decide (0 ≤ n) && decide (n ≤ 2147483647)
abbrev markT : List UInt8 := [92, 32, 78, 111, 32, 110, 101, 119, 108, 105, 110, 101, 32, 97, 116, 32, 101, 110, 100, 32, 111, 102, 32, 102, 105, 108, 101, 10]
def lineT (ahead s : List UInt8) : List UInt8 := if (bareS s).2 then ahead ++ s else ahead ++ s ++ [10] ++ markT
abbrev Q4 := Int × Int × Int × Int
def badC (c : Q4) : Prop := ((((cntB c.1 = false ∨ cntB c.2.1 = false) ∨ cntB c.2.2.1 = false) ∨ cntB c.2.2.2 = false) ∨ (c.2.1 = 0 ∧ c.2.2.2 = 0))
instance (c : Q4) : Decidable (badC c) := by unfold badC; infer_instance
theorem cnt_in {n : Int} (h : ¬ cntB n = false) : 0 ≤ n ∧ n ≤ 2147483647 := by simpa [cntB] using h
theorem okC {c : Q4} (h : ¬ badC c) : (0 ≤ c.1 ∧ c.1 ≤ 2147483647) ∧ (0 ≤ c.2.1 ∧ c.2.1 ≤ 2147483647) ∧ (0 ≤ c.2.2.1 ∧ c.2.2.1 ≤ 2147483647) ∧ (0 ≤ c.2.2.2 ∧ c.2.2.2 ≤ 2147483647) ∧ ¬ (c.2.1 = 0 ∧ c.2.2.2 = 0) :=
 ⟨cnt_in fun e => h (.inl (.inl (.inl (.inl e)))), cnt_in fun e => h (.inl (.inl (.inl (.inr e)))), cnt_in fun e => h (.inl (.inl (.inr e))), cnt_in fun e => h (.inl (.inr e)), fun e => h (.inr e)⟩
theorem bare_split (x : List UInt8) : ((bareS x).2 = true → x = (bareS x).1 ++ [10]) ∧ ((bareS x).2 = false → (bareS x).1 = x) := by
 unfold bareS
 split
 · rename_i h
   refine ⟨fun _ => ?_, fun h => by cases h⟩
   rcases List.eq_nil_or_concat x with rfl | ⟨m, c, rfl⟩
   · cases h
   · rw [List.concat_eq_append] at h ⊢
     have : c = 10 := by simpa using h
     subst this; simp
 · exact ⟨fun h => by simp at h, fun _ => rfl⟩
def part (l : List (List UInt8)) (x n : Nat) : List (List UInt8) := (l.drop x).take n
end Go.Proofs.YtlghobefhmpfkaaGreatDoor
namespace Go.Proofs.YtlghobefhmpfkaaGreatDoor
open Go Go.Ev Go.RowKit
theorem uptr4 : Tryz.prog.underlying 178 = some (.pointer 5) := by kernel_rfl
theorem cellsB4 : Tryz.prog.cellsOf 5 = 1 := by kernel_rfl
set_option maxHeartbeats 2000000 in
set_option maxRecDepth 100000 in
theorem st_some {t b g cap : Nat} {p : Value} {l : List UInt8} {cur : Array Value} {w : World} (hbk : w.heap[b]? = some (.cells #[p, .slice (some ⟨g, 0, none⟩) l.length cap] t (0, 0))) (hg : w.heap[g]? = some (.cells cur 5 (0, 0))) (h0 : l ≠ []) (hown : w.ownsRow 0 5 1 (.slice (some ⟨g, 0, none⟩) l.length cap) l.length (byteVals l)) (hnc : l.length ≤ cap) (hcm : cap ≤ maxLen) (hcs : cur.size = cap * 1) :
   Calls Tryz.prog 70 #[.pointer (some ⟨b, 0, none⟩)] w fun e w' => e = .returned (.string ⟨l.toArray⟩) ∧ BldEnd w w' b (.slice (some ⟨g, 0, none⟩) l.length cap) := by
 have hl0 : l.length ≠ 0 := by simpa using h0
 have c1 : w.drew.cell? ⟨b, 1, none⟩ = some (.slice (some ⟨g, 0, none⟩) l.length cap) := by
   have : w.drew.heap[b]? = some (.cells #[p, .slice (some ⟨g, 0, none⟩) l.length cap] t (0, 0)) := hbk
   rw [Lib.cell_of_heap this]; rfl
 have hSD : (Builtin.unsafeSliceData_ #[115] 178 #[.slice (some ⟨g, 0, none⟩) l.length cap]).run Tryz.prog w.drew = .ok (.pointer (some ⟨g, 0, none⟩)) w.drew :=
   Lib.run_unsafeSliceData_row _ _ _ _ _ _ (by omega)
 have hUS : (Builtin.unsafeString_ #[178, 3] 9 #[.pointer (some ⟨g, 0, none⟩), .int .i64 l.length]).run Tryz.prog w.drew = .ok (.string ⟨l.toArray⟩) (w.drew.freeze ⟨g, 0, none⟩ l.length) := by
   refine Lib.run_unsafeString_row w.drew 178 3 9 5 uptr4 cellsB4 g cur.size (by have hg' : w.drew.heap[g]? = some (.cells cur 5 (0, 0)) := hg; simp [World.shape?, hg']) l h0 (by omega) (by unfold maxLen at hcm; omega) ?_
   intro j x hx
   have := hown.cells (g := g) rfl j (.int .u8 x.toNat) (by simp [byteVals, hx])
   exact this
 clear hown hnc hcm hcs
 go_enter Tryz.func70, Tryz.ntmps70
 go_wp2
 go_region
 all_goals (go_wp2; go_ret; exact ⟨rfl, BldEnd.freeze (BldEnd.drew (BldEnd.refl w b _)) rfl _⟩)
theorem us_none (W : World) (q : Option Addr) : (Builtin.unsafeString_ #[178, 3] 9 #[.pointer q, .int .i64 0]).run Tryz.prog W = .ok (.string .empty) W :=
 Lib.run_unsafeString_none W _ _ _ q
set_option maxHeartbeats 2000000 in
set_option maxRecDepth 100000 in
theorem st_nil {t b : Nat} {p : Value} {w : World} (hbk : w.heap[b]? = some (.cells #[p, .slice none 0 0] t (0, 0))) :
   Calls Tryz.prog 70 #[.pointer (some ⟨b, 0, none⟩)] w fun e w' => e = .returned (.string ⟨#[]⟩) ∧ BldEnd w w' b (.slice none 0 0) := by
 have hUS := us_none
 have c1 : w.drew.cell? ⟨b, 1, none⟩ = some (.slice none 0 0) := by
   have : w.drew.heap[b]? = some (.cells #[p, .slice none 0 0] t (0, 0)) := hbk
   rw [Lib.cell_of_heap this]; rfl
 have hSD : (Builtin.unsafeSliceData_ #[115] 178 #[.slice none 0 0]).run Tryz.prog w.drew = .ok (.pointer none) w.drew := rfl
 go_enter Tryz.func70, Tryz.ntmps70
 go_wp2
 go_region
 all_goals (go_wp2; go_ret; exact ⟨rfl, BldEnd.drew (BldEnd.refl w b _)⟩)
set_option maxHeartbeats 2000000 in
set_option maxRecDepth 100000 in
theorem st_noroom {t b g : Nat} {p : Value} {cur : Array Value} {w : World} (hbk : w.heap[b]? = some (.cells #[p, .slice (some ⟨g, 0, none⟩) 0 0] t (0, 0))) (hg : w.heap[g]? = some (.cells cur 5 (0, 0))) :
   Calls Tryz.prog 70 #[.pointer (some ⟨b, 0, none⟩)] w fun e w' => e = .returned (.string ⟨#[]⟩) ∧ BldEnd w w' b (.slice (some ⟨g, 0, none⟩) 0 0) := by
 have hUS := us_none
 have hlt : b < w.heap.size := (Array.getElem?_eq_some_iff.1 hbk).1
 have c1 : w.drew.cell? ⟨b, 1, none⟩ = some (.slice (some ⟨g, 0, none⟩) 0 0) := by
   have : w.drew.heap[b]? = some (.cells #[p, .slice (some ⟨g, 0, none⟩) 0 0] t (0, 0)) := hbk
   rw [Lib.cell_of_heap this]; rfl
 have hSD : (Builtin.unsafeSliceData_ #[115] 178 #[.slice (some ⟨g, 0, none⟩) 0 0]).run Tryz.prog w.drew = .ok (.pointer (some ⟨w.drew.heap.size, 0, none⟩)) (w.drew.alloc (.view ⟨g, 0, none⟩ 5)) :=
   Lib.run_unsafeSliceData_zero w.drew _ _ 5 uptr4 ⟨g, 0, none⟩ 0 (5, cur.size) (by have hg' : w.drew.heap[g]? = some (.cells cur 5 (0, 0)) := hg; simp [World.shape?, hg'])
 have c2 : (w.drew.alloc (.view ⟨g, 0, none⟩ 5)).cell? ⟨b, 1, none⟩ = some (.slice (some ⟨g, 0, none⟩) 0 0) := by
   have : (w.drew.alloc (.view ⟨g, 0, none⟩ 5)).heap[b]? = _ := (Lib.alloc_old w.drew _ b hlt).trans hbk
   rw [Lib.cell_of_heap this]; rfl
 have c3 : (w.alloc (.view ⟨g, 0, none⟩ 5)).drew.cell? ⟨b, 1, none⟩ = some (.slice (some ⟨g, 0, none⟩) 0 0) := c2
 have c0 : w.cell? ⟨b, 1, none⟩ = some (.slice (some ⟨g, 0, none⟩) 0 0) := c1
 go_enter Tryz.func70, Tryz.ntmps70
 go_wp2
 go_region
 all_goals (go_wp2; go_ret; exact ⟨rfl, BldEnd.alloc (BldEnd.drew (BldEnd.refl w b _)) _⟩)
set_option maxHeartbeats 2000000 in
set_option maxRecDepth 100000 in
theorem st_room {t b g cap : Nat} {p : Value} {w : World} (hc0 : cap ≠ 0) (hbk : w.heap[b]? = some (.cells #[p, .slice (some ⟨g, 0, none⟩) 0 cap] t (0, 0))) :
   Calls Tryz.prog 70 #[.pointer (some ⟨b, 0, none⟩)] w fun e w' => e = .returned (.string ⟨#[]⟩) ∧ BldEnd w w' b (.slice (some ⟨g, 0, none⟩) 0 cap) := by
 have hUS := us_none
 have c1 : w.drew.cell? ⟨b, 1, none⟩ = some (.slice (some ⟨g, 0, none⟩) 0 cap) := by
   have : w.drew.heap[b]? = some (.cells #[p, .slice (some ⟨g, 0, none⟩) 0 cap] t (0, 0)) := hbk
   rw [Lib.cell_of_heap this]; rfl
 have hSD : (Builtin.unsafeSliceData_ #[115] 178 #[.slice (some ⟨g, 0, none⟩) 0 cap]).run Tryz.prog w.drew = .ok (.pointer (some ⟨g, 0, none⟩)) w.drew :=
   Lib.run_unsafeSliceData_row _ _ _ _ _ _ hc0
 clear hc0
 go_enter Tryz.func70, Tryz.ntmps70
 go_wp2
 go_region
 all_goals (go_wp2; go_ret; exact ⟨rfl, BldEnd.drew (BldEnd.refl w b _)⟩)
theorem sST {G : World → Prop} : Sound G Tryz.prog 70 (strC 5) := by
 refine str_sound ⟨Tryz.f70, by kernel_rfl, by kernel_rfl, by kernel_rfl⟩ ?_
 rintro w t b p v bs h
 obtain ⟨h1, _, hown, h4⟩ := h
 have hown' := hown
 obtain ⟨g1, g2⟩ := hown
 rcases g2 with ⟨rfl, h0⟩ | ⟨g, cap, cur, rfl, e2, e3, e4, e5, e6, e7⟩
 · have : bs = [] := List.eq_nil_of_length_eq_zero h0
   subst this
   exact st_nil h1
 · cases bs with
   | nil =>
     by_cases hc0 : cap = 0
     · subst hc0; exact st_noroom h1 e3
     · exact st_room hc0 h1
   | cons x r => exact st_some h1 e3 (by simp) hown' e4 e5 e6
end Go.Proofs.YtlghobefhmpfkaaGreatDoor
namespace Go.Proofs.YtlghobefhmpfkaaGreatDoor
open Go Go.Ev
set_option maxRecDepth 100000
variable {G : World → Prop}
end Go.Proofs.YtlghobefhmpfkaaGreatDoor
namespace Go.Proofs.YtlghobefhmpfkaaGreatDoor
open Go Go.Ev
set_option maxRecDepth 100000
noncomputable def HP : Hd Pow10 := ⟨fun b => some b = Tryz.prog.globalNamed "internal/strconv.uint64pow10", fun b => some b = Tryz.prog.globalNamed "internal/strconv.uint64pow10", fun _ h => h, fun w w' h hb => by
 unfold Pow10 Lib.TabIs World.var? at h ⊢
 cases e : Tryz.prog.globalNamed "internal/strconv.uint64pow10" with
 | none => rw [e] at h; cases h
 | some g => rw [e] at h; simp only [Option.bind_some] at h ⊢; rw [hb g (by rw [e])]; exact h, 0, []⟩
theorem HP_lt {W : World} (h : Pow10 W) {b : Nat} (hb : HP b) : b < W.heap.size := by
 have hb' : some b = Tryz.prog.globalNamed "internal/strconv.uint64pow10" := hb
 unfold Pow10 Lib.TabIs World.var? at h
 rw [← hb'] at h
 simp only [Option.bind_some] at h
 split at h
 · rename_i e
   exact (Array.getElem?_eq_some_iff.1 e).1
 · cases h
end Go.Proofs.YtlghobefhmpfkaaGreatDoor
namespace Go.Ev
open Go Go.RowKit Go.WideShapes Go.ChangeShapes
theorem law_calls {G : World → Prop} (H : Hd G) {P : Program} {f : FuncId} {C : Contract} (h : Sound G P f C) {args : List SV} {vs : List Value} {W : World} (hg : G W) (hh : ∀ b, H b → b < W.heap.size) (hw : C.wp args ⟨0, []⟩ fun out s => out = .ret (.d (.v (.bool true))))
   (hvs : CnL (fun _ => undef) 0 (fun a u => W.cell? a = some u ∧ ¬ H a.block) args vs) : Calls P f vs.toArray W fun e W' => e = .returned (.bool true) ∧ Below W.heap.size W W' := by
 obtain ⟨_, hc⟩ := h.2.1 H W (fun _ => undef) (fun _ _ => False) ⟨0, []⟩ args vs _ hw (SOk.empty hh hg _ _)
   (CnL_mono (Nat.le_refl _) (fun _ _ => rfl) (fun a u hau => ⟨hau.1, fun ⟨_, _, h1, _⟩ => by simp [lk] at h1, hau.2⟩) _ _ hvs)
 refine hc.mono ?_
 rintro e W' ⟨m', B', s', out, rfl, hO, hS, hout⟩
 cases e with
 | returned v =>
   simp only [OutOk, Cn, Rd] at hout
   refine ⟨by rw [hout.1], ⟨hS.os, hS.tape, hS.output, hS.size, fun k hk => hS.block k hk fun ⟨_, _, h1, _⟩ => by simp [lk] at h1⟩⟩
 | _ => exact hout.elim
section
variable {H : Type} {enc : TypeId × Value → H} {P : Program}
theorem post_of_below {f : Func} {s : ChangeSpec} {apart fresh handsOn again : Bool} {W W' : World} {args : Array Value} {v : Value} {ds gs : List (DataW H)} {before pa pv : List MemPlace}
   (hW : DataW.Whole enc P f.params.toList s.vars apart W args.toList ds gs before)
   (hres : ∀ (b : Nat) (sp : Nat → Bool) (hd : Bool), DataW.TrodAll enc P W' b sp hd f.resultTypes.toList (v.resultList f.resultTypes.size) (s.fn H (ds ++ gs)).results [])
   (hargs : ∀ sp : Nat → Bool, (∀ p ∈ before, sp p.block = true) → DataW.TrodAll enc P W' 0 sp true f.params.toList args.toList (s.fn H (ds ++ gs)).args pa)
   (hvars : ∀ sp : Nat → Bool, (∀ p ∈ before, sp p.block = true) → DataW.TrodVars enc P W' sp s.vars (s.fn H (ds ++ gs)).vars pv)
   (hps : before = pa ++ pv) (hb : Below W.heap.size W W')
   (hok : ∀ (j : Nat) (t : TypeId) (r : Value), f.resultTypes[j]? = some t → (v.resultList f.resultTypes.size)[j]? = some r → Value.okWide P W' .any 0 t r) :
   s.post enc P f apart fresh handsOn again W args v W' := by
 have hlt : ∀ p ∈ before, p.block < W.heap.size := fun p hp => hW.lt p hp
 have hold : ∀ p ∈ before, (fun b => decide (b < W.heap.size)) p.block = true := fun p hp => by simpa using hlt p hp
 refine ⟨ds, gs, before, [], pa, pv, hW, hres _ _ _, hargs _ hold, hvars _ hold, World.keptBut_mono (fun p hp => ⟨hp, ?_⟩) (hb.frame (· ∈ before)), fun _ => ?_⟩
 · rw [hps, List.mem_append] at hp
   exact Or.inr hp
 · obtain ⟨_, _, _, _, _, hz, hn⟩ := hW
   refine ⟨hok, _, _, ([] ++ pa) ++ pv, ⟨[] ++ pa, pv, trodAll_append (hargs _ (fun _ _ => rfl)) (hres _ _ _), hvars _ (fun _ _ => rfl), rfl, ?_, ?_⟩, ?_⟩
   · intro b off hp
     have hin : MemPlace.cell b off ∈ before := by rw [hps]; simpa using hp
     rw [hb.frozen (hlt _ hin)]
     exact hz b off hin
   · intro ha
     have := hn ha
     rw [hps] at this
     simpa using this
   · intro p hp _
     rw [hps]
     simpa using hp
end
end Go.Ev
namespace Go.Proofs.YtlghobefhmpfkaaGreatDoor
open Go Go.Ev
open Go.ChangeShapes Go.WideShapes Go.ChangeAt Go.RowKit
set_option maxRecDepth 100000
section
variable {H : Type} {enc : TypeId × Value → H} {P : Program} {W : World} {c : Rdr}
theorem rdRows_of {a : Addr} {sz : Nat} : ∀ {l : List (List D)} {k : Nat}, (∀ i r, l[i]? = some r → r.length = sz ∧ RdCells c a (k + i * sz) r) → RdRows c a sz k l
 | [], k, h => by simp [RdRows]
 | r :: l, k, h => by
   have h0 := h 0 r rfl
   simp only [RdRows]
   refine ⟨h0.1, by simpa using h0.2, rdRows_of fun i x hx => ?_⟩
   have := h (i + 1) x (by simpa using hx)
   rw [show k + sz + i * sz = k + (i + 1) * sz by rw [Nat.add_mul]; omega]
   exact this
end
end Go.Proofs.YtlghobefhmpfkaaGreatDoor
namespace Go.Proofs.YtlghobefhmpfkaaGreatDoor
open Go Go.Ev
set_option maxRecDepth 100000
def A34 : Ann := ⟨fun _ _ => 0, fun _ => none, fun r => if r = 1 then some (false, [0]) else if r = 2 then some (false, [3]) else if r = 3 then some (false, [3]) else none, fun _ => []⟩
def S34 : SCode :=
 (.seq (.ops [⟨none, (some 2), .mv 2 (.k (Value.slice none 0 0)), false⟩])
 (.seq (.seq (.keep [0]) (.ops [⟨none, (some 4), .mv 4 (.s 0), false⟩,
   ⟨none, (some 5), .call (some 5) 83 false [(.s 4), (.k (Value.string ⟨#[10]⟩))], false⟩,
   ⟨none, (some 3), .mv 3 (.s 5), false⟩]))
 (.seq (.seq (.seq (.keep [3]) (.ops [⟨none, (some 6), .mv 6 (.s 3), false⟩,
   ⟨none, (some 7), .mv 7 (.s 3), false⟩,
   ⟨none, (some 8), .len 8 (.s 7), false⟩,
   ⟨none, (some 9), .binc 9 .sub (.s 8) (.k (Value.int .i64 1)), false⟩,
   ⟨none, (some 10), .ia 10 1 (.s 6) (.s 9), false⟩,
   ⟨none, (some 11), .ld 11 false 1 (.s 10), false⟩,
   ⟨none, (some 12), .bin 12 .eql (.s 11) (.k (Value.string ⟨#[]⟩)), false⟩]))
 (.cond (.s 12) (.seq (.keep [3]) (.ops [⟨none, (some 13), .mv 13 (.s 3), false⟩,
   ⟨none, (some 14), .mv 14 (.s 3), false⟩,
   ⟨none, (some 15), .len 15 (.s 14), false⟩,
   ⟨none, (some 16), .binc 16 .sub (.s 15) (.k (Value.int .i64 1)), false⟩,
   ⟨none, (some 17), .slr 17 1 (.s 13) none (some (.s 16)), false⟩,
   ⟨none, (some 3), .mv 3 (.s 17), false⟩])) .skip))
 (.seq (.ops [⟨none, (some 18), .mv 18 (.s 3), false⟩,
   ⟨none, (some 2), .mv 2 (.s 18), false⟩])
 .ret))))
def R34 : List RR := [.sl 2]
theorem sd34 : SdT Tryz.prog 34 19 S34 R34 := fun hT hl hC hit => sdX (F := Tryz.f34) (A := A34) mo (by kernel_rfl) (by kernel_rfl) (by kernel_rfl) (by kernel_rfl) hT hl hC hit
def A83 : Ann := ⟨fun _ _ => 0, fun _ => none, fun r => if r = 1 then some (false, [0, 1]) else none, fun _ => []⟩
def S83 : SCode :=
 (.seq (.ops [⟨none, (some 4), .mv 4 (.k (Value.slice none 0 0)), false⟩])
 (.seq (.seq (.keep [0, 1]) (.ops [⟨none, (some 5), .mv 5 (.s 0), false⟩,
   ⟨none, (some 6), .mv 6 (.s 1), false⟩,
   ⟨none, (some 7), .mv 7 (.s 1), false⟩,
   ⟨none, (some 8), .lens 8 (.s 7), false⟩,
   ⟨none, (some 9), .call (some 9) 145 false [(.s 5), (.s 6), (.s 8), (.k (Value.int .i64 (-1)))], false⟩,
   ⟨none, (some 4), .mv 4 (.s 9), false⟩]))
 .ret))
def R83 : List RR := [.sl 4]
theorem sd83 : SdT Tryz.prog 83 10 S83 R83 := fun hT hl hC hit => sdX (F := Tryz.f83) (A := A83) mo (by kernel_rfl) (by kernel_rfl) (by kernel_rfl) (by kernel_rfl) hT hl hC hit
def A85 : Ann := ⟨fun _ _ => 0, fun _ => none, fun r => if r = 1 then some (false, [0, 1]) else none, fun _ => []⟩
def S85 : SCode :=
 (.seq (.ops [⟨none, (some 4), .mv 4 (.k (Value.string ⟨#[]⟩)), false⟩,
   ⟨none, (some 5), .mv 5 (.k (Value.string ⟨#[]⟩)), false⟩,
   ⟨none, (some 6), .mv 6 (.k (Value.bool false)), false⟩])
 (.seq (.seq (.keep [0, 1]) (.ops [⟨none, (some 7), .mv 7 (.s 0), false⟩,
   ⟨none, (some 8), .mv 8 (.s 1), false⟩,
   ⟨none, (some 9), .call (some 9) 146 false [(.s 7), (.s 8)], false⟩,
   ⟨none, (some 10), .ex 10 (.s 9) 0, false⟩,
   ⟨none, (some 11), .ex 11 (.s 9) 1, false⟩,
   ⟨none, (some 12), .ex 12 (.s 9) 2, false⟩,
   ⟨none, (some 4), .mv 4 (.s 10), false⟩,
   ⟨none, (some 5), .mv 5 (.s 11), false⟩,
   ⟨none, (some 6), .mv 6 (.s 12), false⟩]))
 .ret))
def R85 : List RR := [.sl 4, .sl 5, .sl 6]
theorem sd85 : SdT Tryz.prog 85 13 S85 R85 := fun hT hl hC hit => sdX (F := Tryz.f85) (A := A85) mo (by kernel_rfl) (by kernel_rfl) (by kernel_rfl) (by kernel_rfl) hT hl hC hit
def A146 : Ann := ⟨fun _ _ => 0, fun r => if r = 3 then some [(0, true, []), (1, true, []), (2, true, []), (3, true, []), (4, true, []), (5, true, []), (6, true, []), (7, true, []), (8, true, []), (9, true, []), (10, true, []), (11, true, [])] else none, fun r => if r = 1 then some (false, [0, 1]) else if r = 3 then some (false, [0, 1, 7]) else if r = 4 then some (false, [0]) else none, fun _ => []⟩
def S146 : SCode :=
 (.seq (.ops [⟨none, (some 4), .mv 4 (.k (Value.string ⟨#[]⟩)), false⟩,
   ⟨none, (some 5), .mv 5 (.k (Value.string ⟨#[]⟩)), false⟩,
   ⟨none, (some 6), .mv 6 (.k (Value.bool false)), false⟩])
 (.seq (.seq (.seq (.keep [0, 1]) (.ops [⟨none, (some 8), .mv 8 (.s 0), false⟩,
   ⟨none, (some 9), .mv 9 (.s 1), false⟩,
   ⟨none, (some 10), .call (some 10) 149 false [(.s 8), (.s 9)], false⟩,
   ⟨none, (some 7), .mv 7 (.s 10), false⟩]))
 (.seq (.ops [⟨none, (some 11), .mv 11 (.s 7), false⟩,
   ⟨none, (some 12), .bin 12 .geq (.s 11) (.k (Value.int .i64 0)), false⟩])
 (.cond (.s 12) (.seq (.seq (.keep [0, 1, 7]) (.dr [([], true, ⟨none, (some 13), .mv 13 (.s 0), false⟩),
   ([], true, ⟨none, (some 14), .mv 14 (.s 7), false⟩),
   ([], true, ⟨none, (some 15), .sls 15 (.s 13) none (some (.s 14)), false⟩),
   ([], true, ⟨none, (some 16), .mv 16 (.s 0), false⟩),
   ([], true, ⟨none, (some 17), .mv 17 (.s 7), false⟩),
   ([], true, ⟨none, (some 18), .mv 18 (.s 1), false⟩),
   ([], true, ⟨none, (some 19), .lens 19 (.s 18), false⟩),
   ([], true, ⟨none, (some 20), .binc 20 .add (.s 17) (.s 19), false⟩),
   ([], true, ⟨none, (some 21), .sls 21 (.s 16) (some (.s 20)) none, false⟩),
   ([], true, ⟨none, (some 4), .mv 4 (.s 15), true⟩),
   ([], true, ⟨none, (some 5), .mv 5 (.s 21), false⟩),
   ([], true, ⟨none, (some 6), .mv 6 (.k (Value.bool true)), false⟩)]))
 .ret) .skip)))
 (.seq (.seq (.keep [0]) (.ops [⟨none, (some 22), .mv 22 (.s 0), false⟩,
   ⟨none, (some 4), .mv 4 (.s 22), false⟩,
   ⟨none, (some 5), .mv 5 (.k (Value.string ⟨#[]⟩)), false⟩,
   ⟨none, (some 6), .mv 6 (.k (Value.bool false)), false⟩]))
 .ret)))
def R146 : List RR := [.sl 4, .sl 5, .sl 6]
theorem sd146 : SdT Tryz.prog 146 23 S146 R146 := fun hT hl hC hit => sdX (F := Tryz.f146) (A := A146) mo (by kernel_rfl) (by kernel_rfl) (by kernel_rfl) (by kernel_rfl) hT hl hC hit
end Go.Proofs.YtlghobefhmpfkaaGreatDoor
namespace Go.Proofs
open Go.Shelf
def Tryz.lays219_ren : Go.Shelf.Ren := ⟨fun | 219 => 149 | 217 => 163 | 225 => 191 | 224 => 192 | 267 => 193 | 266 => 197 | 314 => 215 | n => n, fun | 9 => 9 | 3 => 3 | 4 => 4 | 5 => 5 | 46 => 226 | 146 => 265 | 51 => 264 | n => n, fun | 1 => 1 | n => n⟩
theorem Tryz.lays219 : Go.Proofs.Lays.n219 Tryz.prog Tryz.lays219_ren := {
 mixed := by kernel_rfl
 f217 := Tryz.func163.trans (congrArg some (by kernel_rfl))
 f219 := Tryz.func149.trans (congrArg some (by kernel_rfl))
 f224 := Tryz.func192.trans (congrArg some (by kernel_rfl))
 f225 := Tryz.func191.trans (congrArg some (by kernel_rfl))
 f266 := Tryz.func197.trans (congrArg some (by kernel_rfl))
 f267 := Tryz.func193.trans (congrArg some (by kernel_rfl))
 f314 := Tryz.func215.trans (congrArg some (by kernel_rfl))
 t3 := Tryz.underlying3
 a3 := Tryz.isAgg3
 z3 := Tryz.sizeOf3
 v3 := Tryz.zeroValue3
 t4 := Tryz.underlying4
 a4 := Tryz.isAgg4
 z4 := Tryz.sizeOf4
 v4 := Tryz.zeroValue4
 t5 := Tryz.underlying5
 a5 := Tryz.isAgg5
 z5 := Tryz.sizeOf5
 v5 := Tryz.zeroValue5
 t9 := Tryz.underlying9
 a9 := Tryz.isAgg9
 z9 := Tryz.sizeOf9
 v9 := Tryz.zeroValue9
 t46 := Tryz.underlying226
 a46 := Tryz.isAgg226
 z46 := Tryz.sizeOf226
 v46 := Tryz.zeroValue226
 t51 := Tryz.underlying264
 a51 := Tryz.isAgg264
 z51 := Tryz.sizeOf264
 v51 := Tryz.zeroValue264
 t146 := Tryz.underlying265
 a146 := Tryz.isAgg265
 z146 := Tryz.sizeOf265
 v146 := Tryz.zeroValue265
 g1 := by kernel_rfl }
open Go.RowKit Go.Lib in
theorem Tryz.stringslite_Index_one (s : ByteArray) (c : UInt8) (w : World) :
 Calls Tryz.prog 149 #[.string s, .string ⟨#[c]⟩] w fun e w' => e = .returned (.int .i64 (Lib.indexByte s.data.toList c)) ∧ w' = w := Any.stringslite_Index_one Tryz.lays219 s c w
def Tryz.lays143_ren : Go.Shelf.Ren := ⟨fun | 143 => 88 | 219 => 149 | 217 => 163 | 225 => 191 | 224 => 192 | 267 => 193 | 266 => 197 | 314 => 215 | n => n, fun | 9 => 9 | 3 => 3 | 4 => 4 | 5 => 5 | 46 => 226 | 146 => 265 | 51 => 264 | n => n, fun | 1 => 1 | n => n⟩
theorem Tryz.lays143 : Go.Proofs.Lays.n143 Tryz.prog Tryz.lays143_ren := {
 mixed := by kernel_rfl
 f143 := Tryz.func88.trans (congrArg some (by kernel_rfl))
 f217 := Tryz.func163.trans (congrArg some (by kernel_rfl))
 f219 := Tryz.func149.trans (congrArg some (by kernel_rfl))
 f224 := Tryz.func192.trans (congrArg some (by kernel_rfl))
 f225 := Tryz.func191.trans (congrArg some (by kernel_rfl))
 f266 := Tryz.func197.trans (congrArg some (by kernel_rfl))
 f267 := Tryz.func193.trans (congrArg some (by kernel_rfl))
 f314 := Tryz.func215.trans (congrArg some (by kernel_rfl))
 t3 := Tryz.underlying3
 a3 := Tryz.isAgg3
 z3 := Tryz.sizeOf3
 v3 := Tryz.zeroValue3
 t4 := Tryz.underlying4
 a4 := Tryz.isAgg4
 z4 := Tryz.sizeOf4
 v4 := Tryz.zeroValue4
 t5 := Tryz.underlying5
 a5 := Tryz.isAgg5
 z5 := Tryz.sizeOf5
 v5 := Tryz.zeroValue5
 t9 := Tryz.underlying9
 a9 := Tryz.isAgg9
 z9 := Tryz.sizeOf9
 v9 := Tryz.zeroValue9
 t46 := Tryz.underlying226
 a46 := Tryz.isAgg226
 z46 := Tryz.sizeOf226
 v46 := Tryz.zeroValue226
 t51 := Tryz.underlying264
 a51 := Tryz.isAgg264
 z51 := Tryz.sizeOf264
 v51 := Tryz.zeroValue264
 t146 := Tryz.underlying265
 a146 := Tryz.isAgg265
 z146 := Tryz.sizeOf265
 v146 := Tryz.zeroValue265
 g1 := by kernel_rfl }
open Go.RowKit Go.Lib in
theorem Tryz.strings_Index_one (s : ByteArray) (c : UInt8) (w : World) :
 Calls Tryz.prog 88 #[.string s, .string ⟨#[c]⟩] w fun e w' => e = .returned (.int .i64 (Lib.indexByte s.data.toList c)) ∧ w' = w := Any.strings_Index_one Tryz.lays143 s c w
def Tryz.lays138_ren : Go.Shelf.Ren := ⟨fun | 138 => 188 | 195 => 207 | 218 => 209 | 143 => 88 | 219 => 149 | 217 => 163 | 225 => 191 | 224 => 192 | 267 => 193 | 266 => 197 | 314 => 215 | n => n, fun | 9 => 9 | 3 => 3 | 4 => 4 | 5 => 5 | 0 => 0 | 46 => 226 | 146 => 265 | 51 => 264 | n => n, fun | 1 => 1 | n => n⟩
theorem Tryz.lays138 : Go.Proofs.Lays.n138 Tryz.prog Tryz.lays138_ren := {
 mixed := by kernel_rfl
 f138 := Tryz.func188.trans (congrArg some (by kernel_rfl))
 f143 := Tryz.func88.trans (congrArg some (by kernel_rfl))
 f195 := Tryz.func207.trans (congrArg some (by kernel_rfl))
 f217 := Tryz.func163.trans (congrArg some (by kernel_rfl))
 f218 := Tryz.func209.trans (congrArg some (by kernel_rfl))
 f219 := Tryz.func149.trans (congrArg some (by kernel_rfl))
 f224 := Tryz.func192.trans (congrArg some (by kernel_rfl))
 f225 := Tryz.func191.trans (congrArg some (by kernel_rfl))
 f266 := Tryz.func197.trans (congrArg some (by kernel_rfl))
 f267 := Tryz.func193.trans (congrArg some (by kernel_rfl))
 f314 := Tryz.func215.trans (congrArg some (by kernel_rfl))
 t0 := Tryz.underlying0
 a0 := Tryz.isAgg0
 z0 := Tryz.sizeOf0
 v0 := Tryz.zeroValue0
 t3 := Tryz.underlying3
 a3 := Tryz.isAgg3
 z3 := Tryz.sizeOf3
 v3 := Tryz.zeroValue3
 t4 := Tryz.underlying4
 a4 := Tryz.isAgg4
 z4 := Tryz.sizeOf4
 v4 := Tryz.zeroValue4
 t5 := Tryz.underlying5
 a5 := Tryz.isAgg5
 z5 := Tryz.sizeOf5
 v5 := Tryz.zeroValue5
 t9 := Tryz.underlying9
 a9 := Tryz.isAgg9
 z9 := Tryz.sizeOf9
 v9 := Tryz.zeroValue9
 t46 := Tryz.underlying226
 a46 := Tryz.isAgg226
 z46 := Tryz.sizeOf226
 v46 := Tryz.zeroValue226
 t51 := Tryz.underlying264
 a51 := Tryz.isAgg264
 z51 := Tryz.sizeOf264
 v51 := Tryz.zeroValue264
 t146 := Tryz.underlying265
 a146 := Tryz.isAgg265
 z146 := Tryz.sizeOf265
 v146 := Tryz.zeroValue265
 g1 := by kernel_rfl }
open Go.RowKit Go.Lib in
theorem Tryz.strings_Count_one (s : ByteArray) (c : UInt8) (w : World) :
 Calls Tryz.prog 188 #[.string s, .string ⟨#[c]⟩] w fun e w' => e = .returned (.int .i64 (Lib.countByte s.data.toList c)) ∧ w' = w := Any.strings_Count_one Tryz.lays138 s c w
def Tryz.lays221_ren : Go.Shelf.Ren := ⟨fun | 221 => 145 | 268 => 187 | 138 => 188 | 143 => 88 | 195 => 207 | 197 => 208 | 218 => 209 | 219 => 149 | 260 => 218 | 217 => 163 | 225 => 191 | 224 => 192 | 267 => 193 | 266 => 197 | 314 => 215 | n => n, fun | 9 => 9 | 3 => 3 | 31 => 22 | 4 => 4 | 0 => 0 | 105 => 256 | 21 => 21 | 5 => 5 | 46 => 226 | 119 => 281 | 139 => 284 | 138 => 283 | 146 => 265 | 51 => 264 | n => n, fun | 1 => 1 | 3 => 4 | 4 => 5 | n => n⟩
theorem Tryz.lays221 : Go.Proofs.Lays.n221 Tryz.prog Tryz.lays221_ren := {
 mixed := by kernel_rfl
 f138 := Tryz.func188.trans (congrArg some (by kernel_rfl))
 f143 := Tryz.func88.trans (congrArg some (by kernel_rfl))
 f195 := Tryz.func207.trans (congrArg some (by kernel_rfl))
 f197 := Tryz.func208.trans (congrArg some (by kernel_rfl))
 f217 := Tryz.func163.trans (congrArg some (by kernel_rfl))
 f218 := Tryz.func209.trans (congrArg some (by kernel_rfl))
 f219 := Tryz.func149.trans (congrArg some (by kernel_rfl))
 f221 := Tryz.func145.trans (congrArg some (by kernel_rfl))
 f224 := Tryz.func192.trans (congrArg some (by kernel_rfl))
 f225 := Tryz.func191.trans (congrArg some (by kernel_rfl))
 f260 := Tryz.func218.trans (congrArg some (by kernel_rfl))
 f266 := Tryz.func197.trans (congrArg some (by kernel_rfl))
 f267 := Tryz.func193.trans (congrArg some (by kernel_rfl))
 f268 := Tryz.func187.trans (congrArg some (by kernel_rfl))
 f314 := Tryz.func215.trans (congrArg some (by kernel_rfl))
 t0 := Tryz.underlying0
 a0 := Tryz.isAgg0
 z0 := Tryz.sizeOf0
 v0 := Tryz.zeroValue0
 t3 := Tryz.underlying3
 a3 := Tryz.isAgg3
 z3 := Tryz.sizeOf3
 v3 := Tryz.zeroValue3
 t4 := Tryz.underlying4
 a4 := Tryz.isAgg4
 z4 := Tryz.sizeOf4
 v4 := Tryz.zeroValue4
 t5 := Tryz.underlying5
 a5 := Tryz.isAgg5
 z5 := Tryz.sizeOf5
 v5 := Tryz.zeroValue5
 t9 := Tryz.underlying9
 a9 := Tryz.isAgg9
 z9 := Tryz.sizeOf9
 v9 := Tryz.zeroValue9
 t21 := Tryz.underlying21
 a21 := Tryz.isAgg21
 z21 := Tryz.sizeOf21
 v21 := Tryz.zeroValue21
 t31 := Tryz.underlying22
 a31 := Tryz.isAgg22
 z31 := Tryz.sizeOf22
 v31 := Tryz.zeroValue22
 t46 := Tryz.underlying226
 a46 := Tryz.isAgg226
 z46 := Tryz.sizeOf226
 v46 := Tryz.zeroValue226
 t51 := Tryz.underlying264
 a51 := Tryz.isAgg264
 z51 := Tryz.sizeOf264
 v51 := Tryz.zeroValue264
 t105 := Tryz.underlying256
 a105 := Tryz.isAgg256
 z105 := Tryz.sizeOf256
 v105 := Tryz.zeroValue256
 t119 := Tryz.underlying281
 a119 := Tryz.isAgg281
 z119 := Tryz.sizeOf281
 t138 := Tryz.underlying283
 a138 := Tryz.isAgg283
 z138 := Tryz.sizeOf283
 v138 := Tryz.zeroValue283
 t139 := Tryz.underlying284
 a139 := Tryz.isAgg284
 z139 := Tryz.sizeOf284
 v139 := Tryz.zeroValue284
 t146 := Tryz.underlying265
 a146 := Tryz.isAgg265
 z146 := Tryz.sizeOf265
 v146 := Tryz.zeroValue265
 g1 := by kernel_rfl
 g3 := by kernel_rfl
 g4 := by kernel_rfl }
end Go.Proofs
namespace Go.Proofs.YtlghobefhmpfkaaGreatDoor
open Go Go.Ev
set_option maxRecDepth 100000
variable {G : World → Prop}
theorem sound_lib3 {G : World → Prop} {P : Program} {f : FuncId} {g : List SV → Option (Prop × SV)} (hb : HasBody P f)
   (h : ∀ args p x, g args = some (p, x) → p → ∀ w, G w → ∀ m c vs, (∀ a u, c a u → w.cell? a = some u) → CnL m 0 c args vs → Calls P f vs.toArray w fun e w' => (∃ v, e = .returned v ∧ ∀ m n c', (∀ a u, c a u → c' a u) → (∀ a u, w'.cell? a = some u → w.heap.size ≤ a.block → c' a u) → Cn m n c' x v) ∧ RowKit.Below w.heap.size w w') : Sound G P f (pureC g) := by
 refine ⟨pureC_lawful g, ?_, SoundIt.none⟩
 intro H w m B s args vs K hK hO ha
 rw [pureC_wp] at hK
 obtain ⟨p, h1, rfl, h3, h4⟩ := need_ex hK
 refine ⟨hb, (h args p.1 p.2 h1 h3 w hO.gw m _ vs (fun a u hau => hau.1) ha).mono ?_⟩
 rintro e w' ⟨⟨v, rfl, hv⟩, hB⟩
 have hS : Since w m B ⟨0, []⟩ w' m B ⟨0, []⟩ := ⟨hB.os, hB.tape, hB.output, hB.size, fun b hb _ => hB.block b hb, fun b hb => .inl hb, Nat.le_refl _, fun _ _ => rfl, fun o x b _ h1 h2 h3 => .inl ⟨x, h1, h2, h3⟩⟩
 exact ⟨m, B, ⟨0, []⟩, .ret p.2, h4, SOk.empty (fun b hb => Nat.lt_of_lt_of_le (hO.hid b hb) hB.size) (hO.gs hS) _ _, hS, hv _ _ _ hS.vw fun a u h1 h2 => ⟨h1, fun ⟨o, x, e, _⟩ => by simp [lk] at e, fun hh => by have := hO.hid _ hh; omega⟩⟩
def lns : List UInt8 → List (List UInt8)
 | [] => []
 | c :: r => if c = 10 then [10] :: lns r else match lns r with
   | [] => [[c]]
   | p :: ps => (c :: p) :: ps
def pcs : List UInt8 → List (List UInt8)
 | [] => [[]]
 | c :: r => if c = 10 then [10] :: pcs r else match pcs r with
   | [] => [[c]]
   | p :: ps => (c :: p) :: ps
theorem pcs_ne : ∀ l, pcs l ≠ []
 | [] => by simp [pcs]
 | c :: r => by
   simp only [pcs]
   split
   · simp
   · split <;> simp
theorem pcs_lns : ∀ l, pcs l = lns l ++ (if l = [] ∨ l.getLast? = some 10 then [[]] else [])
 | [] => by simp [pcs, lns]
 | c :: r => by
   have h := pcs_lns r
   simp only [pcs, lns]
   by_cases hc : c = 10
   · subst hc
     rw [if_pos rfl, if_pos rfl, h, List.cons_append]
     congr 2
     cases r with
     | nil => simp
     | cons d r => simp [List.getLast?_cons_cons]
   · rw [if_neg hc, if_neg hc]
     cases r with
     | nil => simp [pcs, lns, hc]
     | cons d r =>
       have hn : lns (d :: r) ≠ [] := by
         simp only [lns]
         split
         · simp
         · split <;> simp
       cases hl : lns (d :: r) with
       | nil => exact absurd hl hn
       | cons p ps =>
         rw [h, hl]
         simp [List.getLast?_cons_cons]
theorem pcs_pre (p r : List UInt8) (hp : ∀ c ∈ p, c ≠ 10) : pcs (p ++ 10 :: r) = (p ++ [10]) :: pcs r := by
 induction p with
 | nil => simp [pcs]
 | cons c p ih =>
   have h := ih fun d hd => hp d (List.mem_cons_of_mem _ hd)
   simp only [List.cons_append, pcs, if_neg (hp c (List.mem_cons_self ..)), h]
theorem pcs_no (p : List UInt8) (hp : ∀ c ∈ p, c ≠ 10) : pcs p = [p] := by
 induction p with
 | nil => rfl
 | cons c p ih =>
   have h := ih fun d hd => hp d (List.mem_cons_of_mem _ hd)
   simp only [pcs, if_neg (hp c (List.mem_cons_self ..)), h]
theorem feed_or : ∀ l : List UInt8, (∀ c ∈ l, c ≠ 10) ∨ ∃ p r, l = p ++ 10 :: r ∧ ∀ c ∈ p, c ≠ 10
 | [] => .inl (by simp)
 | c :: l => by
   by_cases hc : c = 10
   · exact .inr ⟨[], l, by rw [hc]; rfl, by simp⟩
   · rcases feed_or l with h | ⟨p, r, rfl, h⟩
     · exact .inl (by simp only [List.mem_cons, forall_eq_or_imp]; exact ⟨hc, h⟩)
     · exact .inr ⟨c :: p, r, rfl, by simp only [List.mem_cons, forall_eq_or_imp]; exact ⟨hc, h⟩⟩
theorem occ_at (l : List UInt8) (i : Nat) : Lib.occAt l [10] i = decide (l[i]? = some 10) := by
 unfold Lib.occAt
 cases h : l.drop i with
 | nil =>
   have := List.drop_eq_nil_iff.1 h
   rw [List.getElem?_eq_none this]; rfl
 | cons c r =>
   have : l[i]? = some c := by rw [← List.head?_drop, h]; rfl
   rw [this]
   by_cases hc : c = 10
   · subst hc; simp [List.isPrefixOf]
   · have : ¬ (10 : UInt8) = c := fun e => hc e.symm
     simp [List.isPrefixOf, hc, this]
theorem index_feed (p r : List UInt8) (hp : ∀ c ∈ p, c ≠ 10) : Lib.index (p ++ 10 :: r) [10] = p.length := by
 refine Lib.index_first (by simp) (by rw [occ_at]; simp) fun j hj => ?_
 rw [occ_at, List.getElem?_append_left hj, List.getElem?_eq_getElem hj]
 simpa using hp _ (List.getElem_mem hj)
theorem splitK_pcs : ∀ (n : Nat) (l : List UInt8), l.count 10 = n → Lib.splitK [10] 1 n l = pcs l
 | 0, l, h => by
   have h2 : ∀ c ∈ l, c ≠ 10 := fun c hc e => by subst e; exact absurd (List.count_pos_iff.2 hc) (by omega)
   rw [pcs_no l h2]; rfl
 | n + 1, l, h => by
   rcases feed_or l with h2 | ⟨p, r, rfl, h2⟩
   · have : l.count 10 = 0 := List.count_eq_zero.2 fun hm => h2 _ hm rfl
     omega
   · have hc : p.count 10 = 0 := List.count_eq_zero.2 fun hm => h2 _ hm rfl
     rw [List.count_append, List.count_cons, hc] at h
     simp only [Lib.splitK, index_feed p r h2]
     have e1 : ((p.length : Int) == -1) = false := by simp
     rw [e1, pcs_pre p r h2]
     simp only [Bool.false_eq_true, if_false, Int.toNat_natCast, List.length_cons, List.length_nil]
     rw [splitK_pcs n _ (by rw [show p ++ 10 :: r = (p ++ [10]) ++ r by simp, List.drop_left' (by simp)]; simpa using h)]
     rw [show p ++ 10 :: r = (p ++ [10]) ++ r by simp, List.take_left' (by simp), List.drop_left' (by simp)]
theorem pcs_len : ∀ l, (pcs l).length = l.count 10 + 1
 | [] => rfl
 | c :: r => by
   have h := pcs_len r
   simp only [pcs]
   by_cases hc : c = 10
   · subst hc; simp [h]
   · rw [if_neg hc, List.count_cons_of_ne (fun e => hc e)]
     cases hp : pcs r with
     | nil => exact absurd hp (pcs_ne r)
     | cons p ps => rw [hp] at h; simpa using h
def CGen : Contract := pureC fun args => match args with
 | [.d (.v (.string s)), .d (.v (.string p)), .d (.v (.int .i64 sv)), .d (.v (.int .i64 n))] => some ((s.size ≤ 1099511627 ∧ p.data.toList = [10] ∧ sv = 1 ∧ n = -1), .d (.sl (strRows (pcs s.data.toList))))
 | _ => none
theorem sGen : Sound G Tryz.prog 145 CGen := by
 refine sound_lib3 ⟨Tryz.f145, by kernel_rfl, by kernel_rfl, by kernel_rfl⟩ fun args p x h hp => ?_
 split at h <;> simp only [Option.some.injEq, Prod.mk.injEq, reduceCtorEq] at h
 obtain ⟨rfl, rfl⟩ := h
 rename_i s q sv n
 obtain ⟨h1, h2, rfl, rfl⟩ := hp
 obtain ⟨q', rfl⟩ := ex_str q
 simp only [sem_str] at h2
 subst h2
 intro w hw m c vs hc hv
 match vs, hv with
 | [a, b, d, e], hv =>
   simp only [CnL, and_true] at hv
   obtain ⟨v1, v2, v3, v4⟩ := hv
   rw [of_v v1, of_v v2, of_v v3, of_v v4]
   have hi : ∀ x : ByteArray, Lib.indexB x ⟨#[10]⟩ = Lib.indexByte x.data.toList 10 := fun x => Lib.index_one _ _
   have hcn : Lib.countB s ⟨#[10]⟩ = s.data.toList.count 10 := Lib.count_one _ _
   have hle := Lib.countB_le ⟨#[10]⟩ (Nat.le_refl _) s.size s (Nat.le_refl _)
   have hlen := Lib.splitB_all ⟨#[10]⟩ (Nat.le_refl _) 1 _ s rfl
   have hd := Lib.splitB_data ⟨#[10]⟩ 1 (Lib.countB s ⟨#[10]⟩) s
   rw [show (⟨#[10]⟩ : ByteArray).data.toList = [10] from rfl, splitK_pcs _ _ hcn.symm] at hd
   have hcc := Any.strings_genSplit_core Tryz.lays221 (by kernel_rfl) s ⟨#[10]⟩ 1 (-1) (Lib.countB s ⟨#[10]⟩ + 1) w (by omega) (Nat.le_refl _) (Nat.le_refl _)
     (fun x cs hx => (Tryz.strings_Index_one x 10 _).mono fun e w' ⟨he, hw⟩ => ⟨by rw [he, hi], hw⟩)
     ((Tryz.strings_Count_one s 10 w).mono fun e w' ⟨he, hw⟩ => ⟨by rw [he, hcn]; rfl, hw⟩) (by decide) (by decide) (by rw [if_pos (by decide)]; omega)
   rw [Nat.add_sub_cancel, hlen] at hcc
   have e2 : Lib.cellsOf (Lib.splitB ⟨#[10]⟩ 1 (Lib.countB s ⟨#[10]⟩) s) (Lib.countB s ⟨#[10]⟩ + 1) = ((Lib.splitB ⟨#[10]⟩ 1 (Lib.countB s ⟨#[10]⟩) s).map Value.string).toArray := by rw [← hlen]; exact Lib.cellsOf_full _
   rw [e2] at hcc
   refine hcc.mono ?_
   rintro e w' ⟨rfl, rfl⟩
   have hpl : (pcs s.data.toList).length = Lib.countB s ⟨#[10]⟩ + 1 := by rw [pcs_len, hcn]
   refine ⟨⟨_, rfl, fun m n c' _ h2 => ?_⟩, (RowKit.Below.refl _ _).alloc (Nat.le_refl _) _⟩
   simp only [Cn, Rd]
   refine ⟨_, _, by rw [strRows_len, hpl], by rw [strRows_len, hpl]; exact Nat.le_refl _, by rw [strRows_len, hpl]; omega, .inr ⟨_, 1, rfl, rfl, ?_⟩⟩
   refine rdRows_of fun i r hir => ?_
   have hil : i < (pcs s.data.toList).length := by
     have := (List.getElem?_eq_some_iff.1 hir).1
     rwa [strRows_len] at this
   rw [strRows_get hil] at hir
   obtain rfl := Option.some.inj hir
   have hbl : i < (Lib.splitB ⟨#[10]⟩ 1 (Lib.countB s ⟨#[10]⟩) s).length := by rw [hlen, ← hpl]; exact hil
   refine ⟨rfl, ⟨.string (Lib.splitB ⟨#[10]⟩ 1 (Lib.countB s ⟨#[10]⟩) s)[i], h2 _ _ ?_ ?_, ?_⟩, trivial⟩
   · have hadd : (⟨w.heap.size, 0, none⟩ : Addr).add (0 + i * 1) = ⟨w.heap.size, i, none⟩ := by
       unfold Addr.add
       by_cases hz : i = 0
       · subst hz; rfl
       · rw [if_neg (by omega)]; simp
     rw [hadd, World.cell?_alloc_at _ _ _ _ (by simp)]
     simp [List.getElem?_eq_getElem hbl]
   · have hb : ((⟨w.heap.size, 0, none⟩ : Addr).add (0 + i * 1)).block = w.heap.size := by unfold Addr.add; split <;> rfl
     rw [hb]; exact Nat.le_refl _
   · simp only [Rd, Value.oneCell', and_true]
     have e3 : (pcs s.data.toList).getD i [] = ((Lib.splitB ⟨#[10]⟩ 1 (Lib.countB s ⟨#[10]⟩) s)[i]).data.toList := by
       rw [← hd, List.getD_eq_getElem?_getD, List.getElem?_map, List.getElem?_eq_getElem hbl]; rfl
     rw [e3]
 | [], hv => simp [CnL] at hv
 | [_], hv => simp [CnL] at hv
 | [_, _], hv => simp [CnL] at hv
 | [_, _, _], hv => simp [CnL] at hv
 | _ :: _ :: _ :: _ :: _ :: _, hv => simp [CnL] at hv
def CAfter : Contract := pureC fun args => match args with
 | [.d (.v (.string s)), .d (.v (.string p))] => some ((s.size ≤ 1099511627 ∧ p.data.toList = [10]), .d (.sl (strRows (pcs s.data.toList))))
 | _ => none
theorem s83 : Sound G Tryz.prog 83 CAfter := by
 refine sd83 (T := tabT [(145, CGen)]) (tab_cons sGen tab_nil) (pureC_lawful _) (pure_hX fun args p x K h hp hk => ?_)
 split at h <;> simp only [Option.some.injEq, Prod.mk.injEq, reduceCtorEq] at h
 obtain ⟨rfl, rfl⟩ := h
 rename_i s q
 obtain ⟨h1, h2⟩ := hp
 obtain ⟨q', rfl⟩ := ex_str q
 simp only [sem_str] at h2
 subst h2
 refine ⟨Nat.le_of_ble_eq_true rfl, ?_⟩
 simp -dsimp -implicitDefEqProofs only [S83, R83, CGen, h1, ↓Ev.xStp_eq, ↓Ev.P, Ev.Q, Bool.cond_true, Bool.cond_false, eq_self, forall_eq_or_imp, implies_true, forall_const, forall_eq, ↓reduceIte, reduceIte, Nat.reduceEqDiff, Nat.reduceAdd, reduceCtorEq, Nat.reduceSub, Int.reduceToNat, Int.reduceLE, Int.reduceLT, Int.reduceNeg, Nat.reduceBEq, Nat.reduceMul, Nat.reduceLeDiff, Nat.reduceMod, UInt8.reduceOfNat, Nat.reduceLT, Int.reduceEq, Int.reduceAdd, Int.reduceSub, Int.reduceMul]
 exact ⟨rfl, hk⟩
def CSplit : Contract := pureC fun args => match args with
 | [.d (.v (.string s))] => some (s.size ≤ 1099511627, .d (.sl (strRows (lns s.data.toList))))
 | _ => none
theorem pcs_last (l : List UInt8) : (pcs l).getD ((pcs l).length - 1) [] = if l = [] ∨ l.getLast? = some 10 then [] else (lns l).getLast?.getD [] := by
 rw [pcs_lns]
 split
 · simp [List.getD_eq_getElem?_getD]
 · rw [List.append_nil, List.getD_eq_getElem?_getD, List.getLast?_eq_getElem?]
theorem lns_ne : ∀ l, ∀ s ∈ lns l, s ≠ []
 | [], s, h => by simp [lns] at h
 | c :: r, s, h => by
   simp only [lns] at h
   split at h
   · rcases List.mem_cons.1 h with rfl | h
     · simp
     · exact lns_ne r s h
   · split at h
     · obtain rfl := List.mem_singleton.1 h; simp
     · rename_i p ps e
       rcases List.mem_cons.1 h with rfl | h
       · simp
       · exact lns_ne r s (by rw [e]; exact List.mem_cons_of_mem _ h)
theorem s34 : Sound G Tryz.prog 34 CSplit := by
 refine sd34 (T := tabT [(83, CAfter)]) (tab_cons s83 tab_nil) (pureC_lawful _) (pure_hX fun args p x K h hp hk => ?_)
 split at h <;> simp only [Option.some.injEq, Prod.mk.injEq, reduceCtorEq] at h
 obtain ⟨rfl, rfl⟩ := h
 rename_i s
 obtain ⟨s, rfl⟩ := ex_str s
 simp only [sem_str] at hp hk
 refine ⟨Nat.le_of_ble_eq_true rfl, ?_⟩
 have hl := pcs_len s
 have hcl := List.count_le_length (a := (10 : UInt8)) (l := s)
 have hg := strRows_get (l := pcs s) (i := (pcs s).length - 1) (by omega)
 have hlast := pcs_last s
 have hL := pcs_lns s
 by_cases hc : s = [] ∨ s.getLast? = some 10
 · rw [if_pos hc] at hlast hL
   rw [hlast] at hg
   have ht : (strRows (pcs s)).take ((pcs s).length - 1) = strRows (lns s) := by rw [hL]; simp [strRows]
   simp -dsimp -implicitDefEqProofs only [S34, R34, CAfter, hp, hg, strRows_len, ↓Ev.xStp_eq, ↓Ev.P, Ev.Q, Bool.cond_true, Bool.cond_false, eq_self, forall_eq_or_imp, implies_true, forall_const, forall_eq, ↓reduceIte, reduceIte, Nat.reduceEqDiff, Nat.reduceAdd, reduceCtorEq, Nat.reduceSub, Int.reduceToNat, Int.reduceLE, Int.reduceLT, Int.reduceNeg, Nat.reduceBEq, Nat.reduceMul, Nat.reduceLeDiff, Nat.reduceMod, UInt8.reduceOfNat, Nat.reduceLT, Int.reduceEq, Int.reduceAdd, Int.reduceSub, Int.reduceMul]
   refine ⟨by omega, by omega, by omega, by omega, by rw [strRows_all]; trivial, ?_⟩
   rw [ht]; exact hk
 · rw [if_neg hc] at hlast hL
   rw [hlast] at hg
   have hne : ¬ (lns s).getLast?.getD [] = [] := by
     cases hq : (lns s).getLast? with
     | none =>
       have h1 := List.getLast?_eq_none_iff.1 hq
       rw [h1, List.append_nil] at hL
       exact absurd hL (pcs_ne s)
     | some x => exact lns_ne s x (List.mem_of_getLast? hq)
   simp -dsimp -implicitDefEqProofs only [S34, R34, CAfter, hp, hg, strRows_len, ↓Ev.xStp_eq, ↓Ev.P, Ev.Q, Bool.cond_true, Bool.cond_false, eq_self, forall_eq_or_imp, implies_true, forall_const, forall_eq, ↓reduceIte, reduceIte, Nat.reduceEqDiff, Nat.reduceAdd, reduceCtorEq, Nat.reduceSub, Int.reduceToNat, Int.reduceLE, Int.reduceLT, Int.reduceNeg, Nat.reduceBEq, Nat.reduceMul, Nat.reduceLeDiff, Nat.reduceMod, UInt8.reduceOfNat, Nat.reduceLT, Int.reduceEq, Int.reduceAdd, Int.reduceSub, Int.reduceMul]
   refine ⟨by omega, by omega, fun h => absurd h hne, fun _ => ?_⟩
   rw [hL, List.append_nil]; exact hk
theorem lns_pre (p r : List UInt8) (hp : ∀ c ∈ p, c ≠ 10) : lns (p ++ 10 :: r) = (p ++ [10]) :: lns r := by
 induction p with
 | nil => simp [lns]
 | cons c p ih =>
   have h := ih fun d hd => hp d (List.mem_cons_of_mem _ hd)
   simp only [List.cons_append, lns, if_neg (hp c (List.mem_cons_self ..)), h]
theorem lns_no (p : List UInt8) (hp : ∀ c ∈ p, c ≠ 10) (hn : p ≠ []) : lns p = [p] := by
 induction p with
 | nil => exact absurd rfl hn
 | cons c p ih =>
   by_cases hq : p = []
   · subst hq; simp [lns, hp c (List.mem_cons_self ..)]
   · have h := ih (fun d hd => hp d (List.mem_cons_of_mem _ hd)) hq
     simp only [lns, if_neg (hp c (List.mem_cons_self ..)), h]
theorem lns_len : ∀ l, (lns l).length ≤ l.length
 | [] => by simp [lns]
 | c :: r => by
   have h := lns_len r
   simp only [lns]
   split
   · simpa using h
   · split
     · simp
     · rename_i p ps e
       rw [e] at h; simp at h ⊢; omega
theorem lns_flat : ∀ l, (lns l).flatten = l
 | [] => rfl
 | c :: r => by
   have h := lns_flat r
   simp only [lns]
   split
   · rename_i e; subst e; simp [h]
   · split
     · rename_i e; rw [e] at h; simp at h; subst h; rfl
     · rename_i p ps e
       rw [e] at h; simp at h ⊢; exact h
structure Cutting (s : List UInt8) (acc : List (List UInt8)) (at_ i : Nat) : Prop where
 le : at_ ≤ i
 all : acc ++ lns (s.drop at_) = lns s
 no : ∀ c ∈ (s.drop at_).take (i - at_), c ≠ 10
 len : acc.length ≤ i
theorem Cutting.step {s : List UInt8} {acc : List (List UInt8)} {at_ i : Nat} (h : Cutting s acc at_ i) (hi : i < s.length) (hc : ¬ s.getD i 0 = 10) : Cutting s acc at_ (i + 1) := by
 obtain ⟨h1, h2, h3, h4⟩ := h
 refine ⟨by omega, h2, fun c hm => ?_, by omega⟩
 rw [show i + 1 - at_ = (i - at_) + 1 by omega, List.take_succ_eq_append_getElem (by rw [List.length_drop]; omega), List.mem_append] at hm
 rcases hm with hm | hm
 · exact h3 c hm
 · rw [List.mem_singleton.1 hm, List.getElem_drop]
   rw [List.getD_eq_getElem?_getD, List.getElem?_eq_getElem hi] at hc
   simpa [show at_ + (i - at_) = i by omega] using hc
theorem Cutting.cut {s : List UInt8} {acc : List (List UInt8)} {at_ i : Nat} (h : Cutting s acc at_ i) (hi : i < s.length) (hc : s.getD i 0 = 10) : Cutting s (acc ++ [(s.drop at_).take (i + 1 - at_)]) (i + 1) (i + 1) := by
 obtain ⟨h1, h2, h3, h4⟩ := h
 have e : s.drop at_ = (s.drop at_).take (i - at_) ++ 10 :: s.drop (i + 1) := by
   conv => lhs; rw [← List.take_append_drop (i - at_) (s.drop at_)]
   rw [List.drop_drop, show at_ + (i - at_) = i by omega, List.drop_eq_getElem_cons hi]
   rw [List.getD_eq_getElem?_getD, List.getElem?_eq_getElem hi] at hc
   simp only [Option.getD_some] at hc
   rw [hc]
 have e2 : (s.drop at_).take (i + 1 - at_) = (s.drop at_).take (i - at_) ++ [10] := by
   rw [show i + 1 - at_ = (i - at_) + 1 by omega, List.take_succ_eq_append_getElem (by rw [List.length_drop]; omega), List.getElem_drop]
   rw [List.getD_eq_getElem?_getD, List.getElem?_eq_getElem hi] at hc
   simp only [Option.getD_some] at hc
   simp only [show at_ + (i - at_) = i by omega, hc]
 refine ⟨Nat.le_refl _, ?_, by simp, by simp; omega⟩
 rw [← h2, e2]
 conv => rhs; rw [e, lns_pre _ _ h3]
 rw [List.append_assoc]
 rfl
theorem Cutting.fin {s : List UInt8} {acc : List (List UInt8)} {at_ i : Nat} (h : Cutting s acc at_ i) (hi : s.length ≤ i) : (s.length ≤ at_ → lns s = acc) ∧ (at_ < s.length → lns s = acc ++ [s.drop at_]) := by
 obtain ⟨h1, h2, h3, h4⟩ := h
 refine ⟨fun h => ?_, fun h => ?_⟩
 · rw [← h2, List.drop_eq_nil_of_le h]; simp [lns]
 · rw [← h2, lns_no]
   · intro c hc; exact h3 c (by rw [List.take_of_length_le (by rw [List.length_drop]; omega)]; exact hc)
   · intro e; have := congrArg List.length e; rw [List.length_drop] at this; simp at this; omega
theorem getD_in {l : List (List UInt8)} {i : Nat} (h : i < l.length) : l.getD i [] ∈ l := by
 rw [List.getD_eq_getElem?_getD, List.getElem?_eq_getElem h]; exact List.getElem_mem h
end Go.Proofs.YtlghobefhmpfkaaGreatDoor
namespace Go.Proofs.YtlghobefhmpfkaaGreatDoor
open Go Go.Ev
set_option maxRecDepth 100000
def A86 : Ann := ⟨fun r i => if r = 1 ∧ i = 4 then 1 else 0, fun _ => none, fun r => if r = 1 then some (false, [0]) else if r = 6 then some (false, [0, 5, 21]) else if r = 8 then some (false, [0]) else if r = 9 then some (false, [6, 7]) else if r = 11 then some (false, [6]) else none, fun r => if r = 4 then [0, 21] else []⟩
def S86_0 : SCode :=
 (.ops [⟨none, (some 2), .mv 2 (.k (Value.int .i64 0)), false⟩,
   ⟨none, (some 3), .mv 3 (.k (Value.int .i64 0)), false⟩])
def S86_1 : SCode :=
 (.seq (.seq (.keep [0]) (.ops [⟨none, (some 8), .mv 8 (.s 0), false⟩,
   ⟨none, (some 9), .bin 9 .eql (.s 8) (.k (Value.string ⟨#[]⟩)), false⟩,
   ⟨none, (some 10), .mv 10 (.s 9), false⟩,
   ⟨(some (10, false)), (some 11), .mv 11 (.s 0), false⟩,
   ⟨(some (10, false)), (some 12), .lens 12 (.s 11), false⟩,
   ⟨(some (10, false)), (some 13), .bin 13 .gtr (.s 12) (.k (Value.int .i64 1)), false⟩,
   ⟨(some (10, false)), (some 14), .mv 14 (.s 13), false⟩,
   ⟨(some (14, true)), (some 15), .mv 15 (.s 0), false⟩,
   ⟨(some (14, true)), (some 16), .ixs 16 (.s 15) (.k (Value.int .i64 0)), false⟩,
   ⟨(some (14, true)), (some 17), .bin 17 .eql (.s 16) (.k (Value.int .u8 48)), true⟩,
   ⟨(some (10, false)), (some 18), .pk 18 (.s 14) (.s 17) (.k (Value.bool false)), false⟩,
   ⟨none, (some 19), .pk 19 (.s 10) (.k (Value.bool true)) (.s 18), false⟩]))
 (.cond (.s 19) (.seq (.ops [⟨none, (some 2), .mv 2 (.k (Value.int .i64 0)), false⟩,
   ⟨none, (some 3), .mv 3 (.k (Value.int .i64 3)), false⟩])
 .ret) .skip))
def S86_2 : SCode :=
 (.seq (.ops [⟨none, (some 20), .mv 20 (.s 0), false⟩,
   ⟨none, (some 21), .rg 21 (.s 20), false⟩])
 (.block 0 (.loop [0, 21] (.seq (.ops [⟨none, (some 22), .nx 22 (.s 21), false⟩,
   ⟨none, (some 23), .ex 23 (.s 22) 0, false⟩])
 (.seq (.cond (.s 23) .skip (.exit 0))
 (.block 1 (.seq (.ops [⟨none, (some 24), .ex 24 (.s 22) 2, false⟩,
   ⟨none, (some 5), .mv 5 (.s 24), false⟩])
 (.seq (.seq (.keep [0, 5, 21]) (.ops [⟨none, (some 25), .mv 25 (.s 5), false⟩,
   ⟨none, (some 26), .bin 26 .lss (.s 25) (.k (Value.int .i32 48)), false⟩,
   ⟨none, (some 27), .mv 27 (.s 26), false⟩,
   ⟨(some (27, false)), (some 28), .mv 28 (.s 5), false⟩,
   ⟨(some (27, false)), (some 29), .bin 29 .gtr (.s 28) (.k (Value.int .i32 57)), false⟩,
   ⟨none, (some 30), .pk 30 (.s 27) (.k (Value.bool true)) (.s 29), false⟩]))
 (.cond (.s 30) (.seq (.ops [⟨none, (some 2), .mv 2 (.k (Value.int .i64 0)), false⟩,
   ⟨none, (some 3), .mv 3 (.k (Value.int .i64 3)), false⟩])
 .ret) .skip)))))))))
def S86_3 : SCode :=
 (.seq (.keep [0]) (.ops [⟨none, (some 32), .mv 32 (.s 0), false⟩,
   ⟨none, (some 33), .call (some 33) 147 false [(.s 32)], false⟩,
   ⟨none, (some 31), .mv 31 (.s 33), false⟩,
   ⟨none, (some 34), .ex 34 (.s 31) 0, false⟩,
   ⟨none, (some 35), .ex 35 (.s 31) 1, false⟩,
   ⟨none, (some 6), .mv 6 (.s 34), false⟩,
   ⟨none, (some 7), .mv 7 (.s 35), false⟩]))
def S86_4 : SCode :=
 (.seq (.seq (.keep [6, 7]) (.ops [⟨none, (some 36), .mv 36 (.s 7), false⟩,
   ⟨none, (some 37), .isnil 37 true true (.s 36), false⟩,
   ⟨none, (some 38), .mv 38 (.s 37), false⟩,
   ⟨(some (38, false)), (some 39), .mv 39 (.s 6), false⟩,
   ⟨(some (38, false)), (some 40), .bin 40 .gtr (.s 39) (.k (Value.int .i64 2147483647)), false⟩,
   ⟨none, (some 41), .pk 41 (.s 38) (.k (Value.bool true)) (.s 40), false⟩]))
 (.cond (.s 41) (.seq (.ops [⟨none, (some 2), .mv 2 (.k (Value.int .i64 0)), false⟩,
   ⟨none, (some 3), .mv 3 (.k (Value.int .i64 2)), false⟩])
 .ret) .skip))
def S86_5 : SCode :=
 (.seq (.keep [6]) (.ops [⟨none, (some 42), .mv 42 (.s 6), false⟩,
   ⟨none, (some 2), .mv 2 (.s 42), false⟩,
   ⟨none, (some 3), .mv 3 (.k (Value.int .i64 0)), false⟩]))
def S86r6 : SCode := .ret
def S86r5 : SCode := .seq S86_5 S86r6
def S86r4 : SCode := .seq S86_4 S86r5
def S86r3 : SCode := .seq S86_3 S86r4
def S86r2 : SCode := .seq S86_2 S86r3
def S86r1 : SCode := .seq S86_1 S86r2
def S86 : SCode := .seq S86_0 S86r1
def R86 : List RR := [.sl 2, .sl 3]
theorem sd86 : SdT Tryz.prog 86 43 S86 R86 := fun hT hl hC hit => sdX (F := Tryz.f86) (A := A86) mo (by kernel_rfl) (by kernel_rfl) (by kernel_rfl) (by kernel_rfl) hT hl hC hit
end Go.Proofs.YtlghobefhmpfkaaGreatDoor
namespace Go.Proofs
open Go.Shelf
def Tryz.laysC172_ren : Go.Shelf.Ren := ⟨fun | 172 => 147 | 244 => 189 | 245 => 190 | 247 => 210 | 279 => 211 | 280 => 212 | 281 => 213 | 282 => 214 | 287 => 219 | 316 => 220 | 171 => 155 | 205 => 221 | 321 => 226 | 322 => 227 | 243 => 194 | 246 => 216 | 283 => 222 | 284 => 223 | 285 => 224 | 286 => 225 | 129 => 229 | 317 => 228 | 318 => 230 | 319 => 231 | 320 => 232 | 337 => 233 | 338 => 234 | n => n, fun | 9 => 9 | 3 => 3 | 75 => 24 | 76 => 118 | 4 => 4 | 5 => 5 | 167 => 258 | 37 => 115 | 0 => 0 | 85 => 259 | 2 => 2 | 168 => 261 | 53 => 270 | 175 => 271 | 46 => 226 | 210 => 274 | 127 => 178 | 145 => 288 | 143 => 286 | 21 => 21 | 171 => 276 | 173 => 279 | 212 => 290 | 51 => 264 | 20 => 20 | 213 => 291 | 232 => 294 | 233 => 295 | 80 => 75 | n => n, fun | 15 => 2 | 16 => 3 | 17 => 6 | 18 => 7 | 19 => 8 | n => n⟩
theorem Tryz.laysC172 : Go.Proofs.LaysC.n172 Tryz.prog Tryz.laysC172_ren := {
 mixed := by kernel_rfl
 f129 := Tryz.func229.trans (congrArg some (by kernel_rfl))
 f171 := Tryz.func155.trans (congrArg some (by kernel_rfl))
 f172 := Tryz.func147.trans (congrArg some (by kernel_rfl))
 f205 := Tryz.func221.trans (congrArg some (by kernel_rfl))
 f243 := Tryz.func194.trans (congrArg some (by kernel_rfl))
 f244 := Tryz.func189.trans (congrArg some (by kernel_rfl))
 f245 := Tryz.func190.trans (congrArg some (by kernel_rfl))
 f246 := Tryz.func216.trans (congrArg some (by kernel_rfl))
 f247 := Tryz.func210.trans (congrArg some (by kernel_rfl))
 f279 := Tryz.func211.trans (congrArg some (by kernel_rfl))
 f280 := Tryz.func212.trans (congrArg some (by kernel_rfl))
 f281 := Tryz.func213.trans (congrArg some (by kernel_rfl))
 f282 := Tryz.func214.trans (congrArg some (by kernel_rfl))
 f283 := Tryz.func222.trans (congrArg some (by kernel_rfl))
 f284 := Tryz.func223.trans (congrArg some (by kernel_rfl))
 f285 := Tryz.func224.trans (congrArg some (by kernel_rfl))
 f286 := Tryz.func225.trans (congrArg some (by kernel_rfl))
 f287 := Tryz.func219.trans (congrArg some (by kernel_rfl))
 f316 := Tryz.func220.trans (congrArg some (by kernel_rfl))
 f317 := Tryz.func228.trans (congrArg some (by kernel_rfl))
 f318 := Tryz.func230.trans (congrArg some (by kernel_rfl))
 f319 := Tryz.func231.trans (congrArg some (by kernel_rfl))
 f320 := Tryz.func232.trans (congrArg some (by kernel_rfl))
 f321 := Tryz.func226.trans (congrArg some (by kernel_rfl))
 f322 := Tryz.func227.trans (congrArg some (by kernel_rfl))
 f337 := Tryz.func233.trans (congrArg some (by kernel_rfl))
 f338 := Tryz.func234.trans (congrArg some (by kernel_rfl))
 t0 := Tryz.underlying0
 a0 := Tryz.isAgg0
 z0 := Tryz.sizeOf0
 v0 := Tryz.zeroValue0
 t2 := Tryz.underlying2
 a2 := Tryz.isAgg2
 z2 := Tryz.sizeOf2
 v2 := Tryz.zeroValue2
 t3 := Tryz.underlying3
 a3 := Tryz.isAgg3
 z3 := Tryz.sizeOf3
 v3 := Tryz.zeroValue3
 t4 := Tryz.underlying4
 a4 := Tryz.isAgg4
 z4 := Tryz.sizeOf4
 v4 := Tryz.zeroValue4
 t5 := Tryz.underlying5
 a5 := Tryz.isAgg5
 z5 := Tryz.sizeOf5
 v5 := Tryz.zeroValue5
 t9 := Tryz.underlying9
 a9 := Tryz.isAgg9
 z9 := Tryz.sizeOf9
 v9 := Tryz.zeroValue9
 t20 := Tryz.underlying20
 a20 := Tryz.isAgg20
 z20 := Tryz.sizeOf20
 v20 := Tryz.zeroValue20
 t21 := Tryz.underlying21
 a21 := Tryz.isAgg21
 z21 := Tryz.sizeOf21
 v21 := Tryz.zeroValue21
 t37 := Tryz.underlying115
 a37 := Tryz.isAgg115
 z37 := Tryz.sizeOf115
 v37 := Tryz.zeroValue115
 t46 := Tryz.underlying226
 a46 := Tryz.isAgg226
 z46 := Tryz.sizeOf226
 v46 := Tryz.zeroValue226
 t51 := Tryz.underlying264
 a51 := Tryz.isAgg264
 z51 := Tryz.sizeOf264
 v51 := Tryz.zeroValue264
 t53 := Tryz.underlying270
 a53 := Tryz.isAgg270
 z53 := Tryz.sizeOf270
 v53 := Tryz.zeroValue270
 t75 := Tryz.underlying24
 a75 := Tryz.isAgg24
 z75 := Tryz.sizeOf24
 v75 := Tryz.zeroValue24
 t76 := Tryz.underlying118
 a76 := Tryz.isAgg118
 z76 := Tryz.sizeOf118
 v76 := Tryz.zeroValue118
 t85 := Tryz.underlying259
 a85 := Tryz.isAgg259
 z85 := Tryz.sizeOf259
 v85 := Tryz.zeroValue259
 t127 := Tryz.underlying178
 a127 := Tryz.isAgg178
 z127 := Tryz.sizeOf178
 v127 := Tryz.zeroValue178
 t143 := Tryz.underlying286
 a143 := Tryz.isAgg286
 z143 := Tryz.sizeOf286
 v143 := Tryz.zeroValue286
 t145 := Tryz.underlying288
 a145 := Tryz.isAgg288
 z145 := Tryz.sizeOf288
 v145 := Tryz.zeroValue288
 t167 := Tryz.underlying258
 a167 := Tryz.isAgg258
 z167 := Tryz.sizeOf258
 v167 := Tryz.zeroValue258
 t168 := Tryz.underlying261
 a168 := Tryz.isAgg261
 z168 := Tryz.sizeOf261
 v168 := Tryz.zeroValue261
 t171 := Tryz.underlying276
 a171 := Tryz.isAgg276
 z171 := Tryz.sizeOf276
 v171 := Tryz.zeroValue276
 t173 := Tryz.underlying279
 a173 := Tryz.isAgg279
 z173 := Tryz.sizeOf279
 v173 := Tryz.zeroValue279
 t175 := Tryz.underlying271
 a175 := Tryz.isAgg271
 z175 := Tryz.sizeOf271
 v175 := Tryz.zeroValue271
 t210 := Tryz.underlying274
 a210 := Tryz.isAgg274
 z210 := Tryz.sizeOf274
 v210 := Tryz.zeroValue274
 t212 := Tryz.underlying290
 a212 := Tryz.isAgg290
 z212 := Tryz.sizeOf290
 v212 := Tryz.zeroValue290
 t213 := Tryz.underlying291
 a213 := Tryz.isAgg291
 z213 := Tryz.sizeOf291
 t232 := Tryz.underlying294
 a232 := Tryz.isAgg294
 z232 := Tryz.sizeOf294
 v232 := Tryz.zeroValue294
 t233 := Tryz.underlying295
 a233 := Tryz.isAgg295
 z233 := Tryz.sizeOf295
 v233 := Tryz.zeroValue295
 g15 := by kernel_rfl
 g16 := by kernel_rfl
 g17 := by kernel_rfl
 g18 := by kernel_rfl
 g19 := by kernel_rfl
 t80 := Tryz.underlying75
 a80 := Tryz.isAgg75
 z80 := Tryz.sizeOf75
 v80 := Tryz.zeroValue75
 i0 := by kernel_rfl
 i2 := by kernel_rfl
 i3 := by kernel_rfl
 i4 := by kernel_rfl
 i5 := by kernel_rfl
 i9 := by kernel_rfl
 i20 := by kernel_rfl
 i21 := by kernel_rfl
 i37 := by kernel_rfl
 i46 := by kernel_rfl
 i51 := by kernel_rfl
 i53 := by kernel_rfl
 i75 := by kernel_rfl
 i76 := by kernel_rfl
 i80 := by kernel_rfl
 i85 := by kernel_rfl
 i127 := by kernel_rfl
 i143 := by kernel_rfl
 i145 := by kernel_rfl
 i167 := by kernel_rfl
 i168 := by kernel_rfl
 i171 := by kernel_rfl
 i173 := by kernel_rfl
 i175 := by kernel_rfl
 i210 := by kernel_rfl
 i212 := by kernel_rfl
 i232 := by kernel_rfl
 i233 := by kernel_rfl
 m15 := by kernel_rfl
 m16 := by kernel_rfl
 m17 := by kernel_rfl
 m18 := by kernel_rfl
 m19 := by kernel_rfl
 c0 := by kernel_rfl
 c2 := by kernel_rfl
 c3 := by kernel_rfl
 c4 := by kernel_rfl
 c5 := by kernel_rfl
 c9 := by kernel_rfl
 c20 := by kernel_rfl
 c21 := by kernel_rfl
 c37 := by kernel_rfl
 c46 := by kernel_rfl
 c51 := by kernel_rfl
 c53 := by kernel_rfl
 c75 := by kernel_rfl
 c76 := by kernel_rfl
 c80 := by kernel_rfl
 c85 := by kernel_rfl
 c127 := by kernel_rfl
 c143 := by kernel_rfl
 c145 := by kernel_rfl
 c167 := by kernel_rfl
 c168 := by kernel_rfl
 c171 := by kernel_rfl
 c173 := by kernel_rfl
 c175 := by kernel_rfl
 c210 := by kernel_rfl
 c212 := by kernel_rfl
 c213 := by kernel_rfl
 c232 := by kernel_rfl
 c233 := by kernel_rfl }
open Go.RowKit in
theorem Tryz.strconv_Atoi_ok (s : ByteArray) (hmax : s.size ≤ 9223372036854775806) (v : Int) (h : Lib.atoiAll s.data.toList = .ok v) (w : World) :
 Calls Tryz.prog 147 #[.string s] w fun e w' => e = .returned (.tuple #[.int .i64 v, .nilIface]) ∧ (w' = w ∨ ∃ t, w' = Lib.bytesWorld w 5 t) := Any.strconv_Atoi_ok Tryz.laysC172 s hmax v h w
open Go.RowKit in
theorem Tryz.strconv_Atoi_range_var (s : ByteArray) (hlim : s.size ≤ 281474976710656) (h : Lib.atoiAll s.data.toList = .range) (tp : TypeId) (p : Value) (w : World) (hvar : w.var? Tryz.prog "strconv.ErrRange" = some #[.iface tp p]) :
 Calls Tryz.prog 147 #[.string s] w fun e w' => ∃ N, e = .returned (.tuple #[.int .i64 (Lib.atoiSat s.data.toList), .iface 261 (.pointer (some ⟨N, 0, none⟩))]) ∧ w.heap.size ≤ N ∧ w'.heap[N]? = some (.cells #[.string ⟨#[65, 116, 111, 105]⟩, .string s, .iface tp p] 274 (0, 0)) ∧ Below w.heap.size w w' := Any.strconv_Atoi_range_var Tryz.laysC172 s hlim h tp p w hvar
end Go.Proofs
namespace Go.Proofs.YtlghobefhmpfkaaGreatDoor
open Go Go.Ev
set_option maxRecDepth 100000
variable {G : World → Prop}
def dig (c : UInt8) : Bool := decide (48 ≤ (c.toNat : Int)) && decide ((c.toNat : Int) ≤ 57)
def valT (l : List UInt8) : Nat := l.foldl (fun n c => n * 10 + (c.toNat - 48)) 0
theorem val_app (l : List UInt8) (c : UInt8) : valT (l ++ [c]) = valT l * 10 + (c.toNat - 48) := by simp [valT]
theorem all_take {l : List UInt8} {i : Nat} (h : i < l.length) : (l.take (i + 1)).all dig = ((l.take i).all dig && dig (l.getD i 0)) := by
 rw [List.take_succ_eq_append_getElem h, List.all_append]
 simp [List.getD_eq_getElem?_getD, List.getElem?_eq_getElem h]
theorem not_all {l : List UInt8} {i : Nat} (h : i < l.length) (hd : dig (l.getD i 0) = false) : l.all dig = false := by
 rw [List.all_eq_false]
 exact ⟨l.getD i 0, by simp [List.getD_eq_getElem?_getD, List.getElem?_eq_getElem h], by rw [hd]; decide⟩
def badP (l : List UInt8) : Prop := l = [] ∨ (1 < l.length ∧ l.getD 0 0 = 48)
instance (l : List UInt8) : Decidable (badP l) := by unfold badP; infer_instance
def parseS (l : List UInt8) : Int × Int := if badP l then (0, 3) else if l.all dig = false then (0, 3) else if 2147483647 < valT l then (0, 2) else (valT l, 0)
def CParse : Contract := pureC fun args => match args with
 | [.d (.v (.string s))] => some (s.size ≤ 1099511627776, .tup [.d (.v (.int .i64 (parseS s.data.toList).1)), .d (.v (.int .i64 (parseS s.data.toList).2))])
 | _ => none
def valA (a : Nat) (l : List UInt8) : Nat := l.foldl (fun n c => n * 10 + (c.toNat - 48)) a
theorem valA_le : ∀ (l : List UInt8) (a : Nat), a ≤ valA a l
 | [], a => Nat.le_refl _
 | c :: l, a => Nat.le_trans (by omega) (valA_le l (a * 10 + (c.toNat - 48)))
theorem dig_nat {c : UInt8} (h : dig c = true) : 48 ≤ c.toNat ∧ c.toNat ≤ 57 := by
 simp only [dig, Bool.and_eq_true, decide_eq_true_eq] at h; omega
theorem pu10 : ∀ (l : List UInt8) (a : Nat), l.all dig = true → a < 18446744073709551616 → Lib.parseUint10 a l = if 18446744073709551616 ≤ valA a l then .range else .ok (valA a l)
 | [], a, _, ha => by simp only [Lib.parseUint10, valA, List.foldl_nil]; exact (if_neg (Nat.not_le.2 ha)).symm
 | c :: l, a, h, ha => by
   simp only [List.all_cons, Bool.and_eq_true] at h
   obtain ⟨h1, h2⟩ := dig_nat h.1
   have hle := valA_le l (a * 10 + (c.toNat - 48))
   have e : valA a (c :: l) = valA (a * 10 + (c.toNat - 48)) l := rfl
   rw [Lib.parseUint10, if_pos ⟨h1, h2⟩, e]
   by_cases k1 : 1844674407370955162 ≤ a
   · rw [if_pos k1, if_pos (by omega)]
   · rw [if_neg k1]
     by_cases k2 : 18446744073709551616 ≤ a * 10 + (c.toNat - 48)
     · rw [if_pos k2, if_pos (by omega)]
     · rw [if_neg k2, pu10 l _ h.2 (by omega)]
theorem atoi_dig {l : List UInt8} (hne : l ≠ []) (h : l.all dig = true) : Lib.atoiAll l = if 9223372036854775808 ≤ valT l then .range else .ok (valT l) := by
 cases l with
 | nil => exact absurd rfl hne
 | cons c r =>
   have hd := dig_nat (List.all_eq_true.1 h c (by simp))
   have hp := pu10 (c :: r) 0 h (by omega)
   have e : valA 0 (c :: r) = valT (c :: r) := rfl
   rw [e] at hp
   simp only [Lib.atoiAll]
   rw [if_neg (by omega), Lib.parseMag, if_neg (by simp), hp]
   by_cases k : 18446744073709551616 ≤ valT (c :: r)
   · rw [if_pos k, if_pos (by omega)]
   · rw [if_neg k]
     simp only
     by_cases k2 : 9223372036854775808 ≤ valT (c :: r)
     · rw [if_pos ⟨by omega, k2⟩, if_pos k2]
     · rw [if_neg (by omega), if_neg (by omega), if_neg k2, if_neg (by omega)]
theorem sat_dig {l : List UInt8} (h : l.all dig = true) : Lib.atoiSat l = 9223372036854775807 := by
 unfold Lib.atoiSat
 cases l with
 | nil => simp
 | cons c r =>
   have hd := dig_nat (List.all_eq_true.1 h c (by simp))
   simp only [List.head?_cons, Option.map_some, Option.some.injEq]
   rw [if_neg (by omega)]
def ErrR (w : World) : Prop := ∃ tp p, w.var? Tryz.prog "strconv.ErrRange" = some #[.iface tp p]
def CAtoi : Contract := pureC fun args => match args with
 | [.d (.v (.string s))] => some (s.size ≤ 1099511627776 ∧ s.data.toList ≠ [] ∧ s.data.toList.all dig = true, .tup [.d (.v (.int .i64 (if 9223372036854775808 ≤ valT s.data.toList then 9223372036854775807 else valT s.data.toList))), .d (if 9223372036854775808 ≤ valT s.data.toList then .ifc 261 (.pt []) else .v .nilIface)])
 | _ => none
theorem sAtoi (hG : ∀ w, G w → ErrR w) : Sound G Tryz.prog 147 CAtoi := by
 refine sound_lib2 ⟨Tryz.f147, by kernel_rfl, by kernel_rfl, by kernel_rfl⟩ fun args p x h hp => ?_
 split at h <;> simp only [Option.some.injEq, Prod.mk.injEq, reduceCtorEq] at h
 obtain ⟨rfl, rfl⟩ := h
 rename_i s
 obtain ⟨h1, h2, h3⟩ := hp
 intro w hw m c vs hc hv
 match vs, hv with
 | [a], hv =>
   simp only [CnL, and_true] at hv
   rw [of_v hv]
   have hA := atoi_dig h2 h3
   by_cases k : 9223372036854775808 ≤ valT s.data.toList
   · rw [if_pos k] at hA
     obtain ⟨tp, p, he⟩ := hG w hw
     refine (Tryz.strconv_Atoi_range_var s (by omega) hA tp p w he).mono ?_
     rintro e w' ⟨N, rfl, _, _, hB⟩
     refine ⟨⟨_, rfl, fun m n c => ?_⟩, hB⟩
     rw [if_pos k, if_pos k, sat_dig h3]
     simp [Cn, CnL, Rd, RdCells, Value.oneCell']
   · rw [if_neg k] at hA
     refine (Tryz.strconv_Atoi_ok s (by omega) _ hA w).mono ?_
     rintro e w' ⟨rfl, hB⟩
     refine ⟨⟨_, rfl, fun m n c => ?_⟩, ?_⟩
     · rw [if_neg k, if_neg k]
       simp [Cn, CnL, Rd, Value.oneCell']
     · rcases hB with rfl | ⟨t, rfl⟩
       · exact RowKit.Below.refl _ _
       · exact Lib.bytesWorld_below w _ t
 | [], hv => simp [CnL] at hv
 | _ :: _ :: _, hv => simp [CnL] at hv
theorem bad_head {l : List UInt8} (h : badP l) : (decide ((l.length : Int) = 0) || (decide (1 < (l.length : Int)) && decide (((l.getD 0 0).toNat : Int) = 48))) = true := by
 rcases h with rfl | ⟨h1, h2⟩
 · rfl
 · rw [h2]; simp; right; omega
theorem bad_not {l : List UInt8} (h : ¬ badP l) : (0 < l.length) ∧ ¬ (1 < (l.length : Int) ∧ ((l.getD 0 0).toNat : Int) = 48) := by
 refine ⟨?_, fun ⟨h1, h2⟩ => h (.inr ⟨by omega, UInt8.toNat_inj.1 (by show _ = 48; omega)⟩)⟩
 cases l with
 | nil => exact absurd (.inl rfl) h
 | cons => simp
theorem dec_at (l : List UInt8) (i : Nat) (h : i < l.length) : (dig (l.getD i 0) = true → Utf8.decode ⟨l.toArray⟩ i = ((l.getD i 0).toNat, 1)) ∧ (dig (l.getD i 0) = false → ((Utf8.decode ⟨l.toArray⟩ i).1 : Int) < 48 ∨ (57 : Int) < ((Utf8.decode ⟨l.toArray⟩ i).1 : Int)) := by
 have hs : i < (⟨l.toArray⟩ : ByteArray).size := h
 have hg : (⟨l.toArray⟩ : ByteArray)[i]'hs = l.getD i 0 := by
   simp [List.getD_eq_getElem?_getD, List.getElem?_eq_getElem h]
   rfl
 by_cases ha : ((⟨l.toArray⟩ : ByteArray)[i]'hs).toNat < 128
 · have := decode_ascii _ i hs ha
   rw [hg] at this
   refine ⟨fun _ => this, fun hd => ?_⟩
   rw [this]
   simp only [dig, Bool.and_eq_false_iff, decide_eq_false_iff_not] at hd
   omega
 · have h2 := (decode_high _ i hs (by omega)).1
   rw [hg] at ha
   refine ⟨fun hd => ?_, fun _ => .inr (by omega)⟩
   have := dig_nat hd
   omega
theorem empty_iff (l : List UInt8) : ((⟨l.toArray⟩ : ByteArray) = ⟨#[]⟩) = (l = []) := by simp
set_option maxHeartbeats 1000000 in
theorem s86 (hG : ∀ w, G w → ErrR w) : Sound G Tryz.prog 86 CParse := by
 refine sd86 (T := tabT [(147, CAtoi)]) (tab_cons (sAtoi hG) tab_nil) (pureC_lawful _) (pure_hX fun args p x K h hp hk => ?_)
 split at h <;> simp only [Option.some.injEq, Prod.mk.injEq, reduceCtorEq] at h
 obtain ⟨rfl, rfl⟩ := h
 refine ⟨Nat.le_of_ble_eq_true rfl, ?_⟩
 rename_i s
 obtain ⟨l, rfl⟩ := ex_str s
 simp only [sem_str] at hk hp
 by_cases hb : badP l
 · rw [show parseS l = (0, 3) by rw [parseS, if_pos hb]] at hk
   simp -dsimp -implicitDefEqProofs only [S86, S86_0, S86r1, S86_1, S86r2, R86, empty_iff, ↓Ev.xStp_eq, ↓Ev.P, Ev.Q, Ev.Z, simprocAttr]
   have hh := bad_head hb
   simp only [Bool.or_eq_true, Bool.and_eq_true, decide_eq_true_eq] at hh
   repeat' (first | with_reducible assumption | refine And.intro ?_ ?_ | intro _)
   all_goals first | omega | exact hk | skip
   all_goals (rename_i h; rcases hb with rfl | hb <;> first | exact absurd rfl h.1 | omega)
 · obtain ⟨h1, h2⟩ := bad_not hb
   have hne : ¬ l = [] := fun e => hb (.inl e)
   simp -dsimp -implicitDefEqProofs only [S86, S86_0, S86r1, S86_1, S86r2, S86_2, S86r3, R86, empty_iff, hne, ↓Ev.xStp_eq, ↓Ev.P, Ev.Q, Ev.Z, simprocAttr]
   refine ⟨by omega, fun h => by omega, fun _ => ?_⟩
   refine xLoop_intro (fun k st => ∃ i : Nat, i ≤ l.length ∧ k = l.length - i ∧ (l.take i).all dig = true ∧
     st = ⟨[(0, .d (.v (.string ⟨l.toArray⟩))), (21, .own 0)], 1, [(0, .iter ⟨l.toArray⟩ i)]⟩) l.length [0] ?_ ?_ ?_
   · simp -dsimp -implicitDefEqProofs only [↓Ev.xStp_eq, ↓Ev.P, Ev.Q, Ev.Z, simprocAttr]
   · simp -dsimp -implicitDefEqProofs only [↓Ev.xStp_eq, ↓Ev.P, Ev.Q, Ev.Z, simprocAttr]
     exact ⟨0, by omega, by omega, rfl, rfl⟩
   · rintro k st ⟨i, hi, hk2, hall, rfl⟩
     by_cases hil : i < l.length
     · obtain ⟨e1, e2⟩ := dec_at l i hil
       by_cases hd : dig (l.getD i 0) = true
       · obtain ⟨d1, d2⟩ := dig_nat hd
         have e1 := e1 hd
         have d3 : ¬ ((l.getD i 0).toNat : Int) < 48 := by omega
         have d4 : ¬ (57 : Int) < ((l.getD i 0).toNat : Int) := by omega
         simp -dsimp -implicitDefEqProofs only [hil, e1, d3, d4, ↓Ev.xStp_eq, ↓Ev.P, Ev.Q, Ev.Z, simprocAttr]
         repeat' (first | with_reducible assumption | refine And.intro ?_ ?_ | intro _)
         all_goals try omega
         refine xAgain_intro (l.length - (i + 1)) [0] (by omega) (by simp -dsimp -implicitDefEqProofs only [↓Ev.xStp_eq, ↓Ev.P, Ev.Q, Ev.Z, simprocAttr]) ⟨i + 1, by omega, rfl, by rw [all_take hil, hall, hd]; rfl, ?_⟩
         simp -dsimp -implicitDefEqProofs only [↓Ev.xStp_eq, ↓Ev.P, Ev.Q, Ev.Z, simprocAttr]
       · simp only [Bool.not_eq_true] at hd
         have hna := not_all hil hd
         rw [show parseS l = (0, 3) by rw [parseS, if_neg hb, if_pos hna]] at hk
         have e2 := e2 hd
         simp -dsimp -implicitDefEqProofs only [hil, ↓Ev.xStp_eq, ↓Ev.P, Ev.Q, Ev.Z, simprocAttr]
         repeat' (first | with_reducible assumption | refine And.intro ?_ ?_ | intro _)
         all_goals first | omega | exact hk | skip
     · obtain rfl : i = l.length := by omega
       rw [List.take_length] at hall
       rw [show parseS l = if 2147483647 < valT l then (0, 2) else ((valT l : Int), 0) by rw [parseS, if_neg hb, if_neg (by rw [hall]; decide)]] at hk
       by_cases k : 9223372036854775808 ≤ valT l
       · rw [if_pos (by omega)] at hk
         simp -dsimp -implicitDefEqProofs only [Nat.lt_irrefl, S86_3, S86r4, S86_4, S86r5, S86_5, S86r6, CAtoi, k, ↓Ev.xStp_eq, ↓Ev.P, Ev.Q, Ev.Z, simprocAttr]
         repeat' (first | with_reducible assumption | refine And.intro ?_ ?_ | intro _)
         all_goals first | omega | exact hk | skip
       · simp -dsimp -implicitDefEqProofs only [Nat.lt_irrefl, S86_3, S86r4, S86_4, S86r5, S86_5, S86r6, CAtoi, k, ↓Ev.xStp_eq, ↓Ev.P, Ev.Q, Ev.Z, simprocAttr]
         refine ⟨⟨by omega, hne, hall⟩, fun h => ?_, fun h => ?_⟩
         · rw [if_pos (by first | omega | (simp at h; omega))] at hk; exact hk
         · rw [if_neg (by first | omega | (simp at h; omega))] at hk; exact hk
end Go.Proofs.YtlghobefhmpfkaaGreatDoor
namespace Go.Proofs.YtlghobefhmpfkaaGreatDoor
open Go Go.Ev Go.Rcs
set_option maxRecDepth 100000
variable {G : World → Prop}
theorem ix_lt (l : List UInt8) (c : UInt8) : Lib.indexByte l c < l.length := by
 induction l with
 | nil => simp [Lib.indexByte]
 | cons b l ih =>
   simp only [Lib.indexByte, List.length_cons]
   split
   · omega
   · split <;> omega
theorem u8_k (x : UInt8) (k : Nat) (hk : k < 256) : ((x.toNat : Int) = k) = (x = UInt8.ofNat k) := by
 rw [eq_iff_iff]
 refine ⟨fun h => UInt8.toNat_inj.1 ?_, fun h => ?_⟩
 · rw [UInt8.toNat_ofNat', Nat.mod_eq_of_lt hk]; omega
 · rw [h, UInt8.toNat_ofNat', Nat.mod_eq_of_lt hk]
def nxC (a : List (List UInt8)) (at_ fa fe : Int) : List UInt8 × Int × Int × Int :=
 if fe = 0 then if (a.length : Int) < at_ + 1 then ([], at_ + 1, at_ + 1, 1) else if (bareS (a.getD at_.toNat [])).2 = true then ((bareS (a.getD at_.toNat [])).1, at_ + 1, fa, 0) else ([], at_ + 1, at_ + 1, 3)
 else ([], at_, fa, fe)
theorem parseS_bd (l : List UInt8) : 0 ≤ (parseS l).1 ∧ (parseS l).1 ≤ 2147483647 := by
 unfold parseS
 repeat' split
 all_goals dsimp only
 all_goals omega
def fltV (at_ e : Int) : D := .ifc 79 (.pt [.v (.int .i64 at_), .ifc 27 (.v (.int .i64 e))])
end Go.Proofs.YtlghobefhmpfkaaGreatDoor
namespace Go.Proofs.YtlghobefhmpfkaaGreatDoor
open Go Go.Ev
set_option maxRecDepth 100000
end Go.Proofs.YtlghobefhmpfkaaGreatDoor
namespace Go.Proofs.YtlghobefhmpfkaaGreatDoor
open Go Go.Ev Go.Rcs
set_option maxRecDepth 100000
variable {G : World → Prop}
abbrev Fl := Int × Int
def nextL (L : List (List UInt8)) (at_ : Nat) : Except Fl (List UInt8 × Nat) :=
 if at_ < L.length then if (bareS (L.getD at_ [])).2 = true then .ok ((bareS (L.getD at_ [])).1, at_ + 1) else .error ((at_ : Int) + 1, 3) else .error ((at_ : Int) + 1, 1)
theorem nextL_ok {L : List (List UInt8)} {k : Nat} (h : k < L.length) (hb : (bareS (L.getD k [])).2 = true) : nextL L k = .ok ((bareS (L.getD k [])).1, k + 1) := by rw [nextL, if_pos h, if_pos hb]
theorem nextL_bad {L : List (List UInt8)} {k : Nat} (h : k < L.length) (hb : (bareS (L.getD k [])).2 = false) : nextL L k = .error ((k : Int) + 1, 3) := by rw [nextL, if_pos h, if_neg (by rw [hb]; decide)]
theorem nextL_end {L : List (List UInt8)} {k : Nat} (h : ¬ k < L.length) : nextL L k = .error ((k : Int) + 1, 1) := by rw [nextL, if_neg h]
def strA (x : List UInt8 × Nat) : SV × Int := (.d (.v (.string ⟨x.1.toArray⟩)), (x.2 : Int))
def smL (L : List (List UInt8)) : Prop := L.length ≤ 1099511627776 ∧ ∀ s ∈ L, s.length ≤ 1099511627776
theorem map_ok {α β : Type} {f : α → β} {x : α} : (Except.ok x : Except Fl α).map f = .ok (f x) := rfl
theorem map_error {α β : Type} {f : α → β} {e : Fl} : (Except.error e : Except Fl α).map f = .error e := rfl
def cutK (k : UInt8) : List UInt8 → Option (List UInt8 × List UInt8)
 | [] => none
 | c :: r => if c = k then some ([], r) else (cutK k r).map fun p => (c :: p.1, p.2)
theorem cutK_ix (k : UInt8) : ∀ l : List UInt8, cutK k l = if Lib.indexByte l k < 0 then none else some (l.take (Lib.indexByte l k).toNat, l.drop ((Lib.indexByte l k).toNat + 1))
 | [] => rfl
 | c :: r => by
   have ih := cutK_ix k r
   have hge := Lib.indexByte_ge r k
   by_cases h : c = k
   · subst h; simp [cutK, Lib.indexByte]
   · have h1 : (c == k) = false := by simpa using h
     have hx : Lib.indexByte (c :: r) k = if Lib.indexByte r k = -1 then -1 else Lib.indexByte r k + 1 := by
       simp only [Lib.indexByte, h1, beq_iff_eq, Bool.false_eq_true, if_false]
     rw [hx, cutK, if_neg h, ih]
     by_cases h2 : Lib.indexByte r k = -1
     · rw [if_pos h2, h2]; rfl
     · rw [if_neg h2, if_neg (by omega), if_neg (by omega)]
       have e : (Lib.indexByte r k + 1).toNat = (Lib.indexByte r k).toNat + 1 := by omega
       rw [e]; rfl
theorem cutK_non {b : UInt8} : ∀ {r : List UInt8}, b ∉ r → cutK b r = none
 | [], _ => rfl
 | c :: r, h => by
   simp only [List.mem_cons, not_or] at h
   rw [cutK, if_neg (fun e => h.1 e.symm), cutK_non h.2]; rfl
def cutG (k : UInt8) (l : List UInt8) : List UInt8 × List UInt8 := (cutK k l).getD (l, [])
def CIxC : Contract := pureC fun args => match args with
 | [.d (.v (.string s)), .d (.v (.string p))] => some (p.data.toList = [44], .d (.v (.int .i64 (Lib.indexByte s.data.toList 44))))
 | _ => none
theorem sIxC : Sound G Tryz.prog 149 CIxC := by
 refine sound_lib ⟨Tryz.f149, by kernel_rfl, by kernel_rfl, by kernel_rfl⟩ fun args p x h hp => ?_
 split at h <;> simp only [Option.some.injEq, Prod.mk.injEq, reduceCtorEq] at h
 obtain ⟨rfl, rfl⟩ := h
 rename_i s q
 obtain ⟨q', rfl⟩ := ex_str q
 simp only [sem_str] at hp
 subst hp
 refine ⟨_, fun m n c => ⟨rfl, rfl⟩, fun w hw m c vs hc hv => ?_⟩
 match vs, hv with
 | [a, b], hv =>
   simp only [CnL, and_true] at hv
   obtain ⟨v1, v2⟩ := hv
   rw [of_v v1, of_v v2]
   refine (Tryz.stringslite_Index_one s 44 w).mono ?_
   rintro e w' ⟨rfl, rfl⟩
   exact ⟨rfl, RowKit.Below.refl _ _⟩
 | [], hv => simp [CnL] at hv
 | [_], hv => simp [CnL] at hv
 | _ :: _ :: _ :: _, hv => simp [CnL] at hv
def CCutC : Contract := pureC fun args => match args with
 | [.d (.v (.string s)), .d (.v (.string p))] => some (s.size ≤ 1099511627776 ∧ p.data.toList = [44], .tup [.d (.v (str (cutG 44 s.data.toList).1)), .d (.v (str (cutG 44 s.data.toList).2)), .d (.v (.bool (cutK 44 s.data.toList).isSome))])
 | _ => none
theorem sCutC : Sound G Tryz.prog 146 CCutC := by
 refine sd146 (T := tabT [(149, CIxC)]) (tab_cons sIxC tab_nil) (pureC_lawful _) (pure_hX fun args p x K h hp hk => ?_)
 split at h <;> simp only [Option.some.injEq, Prod.mk.injEq, reduceCtorEq] at h
 obtain ⟨rfl, rfl⟩ := h
 rename_i s q
 obtain ⟨q, rfl⟩ := ex_str q
 obtain ⟨s, rfl⟩ := ex_str s
 simp only [sem_str] at hp hk
 obtain ⟨h1, rfl⟩ := hp
 refine ⟨Nat.le_of_ble_eq_true rfl, ?_⟩
 have hc := cutK_ix 44 s
 have hlt := ix_lt s 44
 by_cases hn : Lib.indexByte s 44 < 0
 · rw [if_pos hn] at hc
   rw [cutG, hc] at hk
   have hn2 : ¬ 0 ≤ Lib.indexByte s 44 := by omega
   simp -dsimp -implicitDefEqProofs only [S146, R146, CIxC, hn2, ↓Ev.xStp_eq, ↓Ev.P, Ev.Q, Bool.cond_true, Bool.cond_false, eq_self, forall_eq_or_imp, implies_true, forall_const, forall_eq, ↓reduceIte, reduceIte, Nat.reduceEqDiff, Nat.reduceAdd, reduceCtorEq, Nat.reduceSub, Int.reduceToNat, Int.reduceLE, Int.reduceLT, Int.reduceNeg, Nat.reduceBEq, Nat.reduceMul, Nat.reduceLeDiff, Nat.reduceMod, UInt8.reduceOfNat, Nat.reduceLT, Int.reduceEq, Int.reduceAdd, Int.reduceSub, Int.reduceMul]
   exact hk
 · rw [if_neg hn] at hc
   rw [cutG, hc] at hk
   have hn2 : 0 ≤ Lib.indexByte s 44 := by omega
   simp -dsimp -implicitDefEqProofs only [S146, R146, CIxC, hn2, ↓Ev.xStp_eq, ↓Ev.P, Ev.Q, Bool.cond_true, Bool.cond_false, eq_self, forall_eq_or_imp, implies_true, forall_const, forall_eq, ↓reduceIte, reduceIte, Nat.reduceEqDiff, Nat.reduceAdd, reduceCtorEq, Nat.reduceSub, Int.reduceToNat, Int.reduceLE, Int.reduceLT, Int.reduceNeg, Nat.reduceBEq, Nat.reduceMul, Nat.reduceLeDiff, Nat.reduceMod, UInt8.reduceOfNat, Nat.reduceLT, Int.reduceEq, Int.reduceAdd, Int.reduceSub, Int.reduceMul]
   obtain ⟨i, hi⟩ := Int.eq_ofNat_of_zero_le hn2
   rw [hi] at hk hlt ⊢
   refine ⟨by omega, by omega, by omega, ?_⟩
   rw [show ((i : Int) + ((1 : Nat) : Int)).toNat = i + 1 by omega]
   exact hk
theorem sCutCs : Sound G Tryz.prog 85 CCutC := by
 refine sd85 (T := tabT [(146, CCutC)]) (tab_cons sCutC tab_nil) (pureC_lawful _) (pure_hX fun args p x K h hp hk => ?_)
 split at h <;> simp only [Option.some.injEq, Prod.mk.injEq, reduceCtorEq] at h
 obtain ⟨rfl, rfl⟩ := h
 refine ⟨Nat.le_of_ble_eq_true rfl, ?_⟩
 simp -dsimp -implicitDefEqProofs only [S85, R85, CCutC, ↓Ev.xStp_eq, ↓Ev.P, Ev.Q, Bool.cond_true, Bool.cond_false, eq_self, forall_eq_or_imp, implies_true, forall_const, forall_eq, ↓reduceIte, reduceIte, Nat.reduceEqDiff, Nat.reduceAdd, reduceCtorEq, Nat.reduceSub, Int.reduceToNat, Int.reduceLE, Int.reduceLT, Int.reduceNeg, Nat.reduceBEq, Nat.reduceMul, Nat.reduceLeDiff, Nat.reduceMod, UInt8.reduceOfNat, Nat.reduceLT, Int.reduceEq, Int.reduceAdd, Int.reduceSub, Int.reduceMul]
 exact ⟨hp, hk⟩
theorem cutG_len (k : UInt8) (l : List UInt8) : (cutG k l).1.length ≤ l.length ∧ (cutG k l).2.length ≤ l.length := by
 rw [cutG, cutK_ix]
 split
 · simp
 · simp only [Option.getD_some, List.length_take, List.length_drop]; omega
end Go.Proofs.YtlghobefhmpfkaaGreatDoor
namespace Go.Proofs.YtlghobefhmpfkaaGreatDoor
open Go Go.Ev
set_option maxRecDepth 100000
def A198 : Ann := ⟨fun r i => if r = 4 ∧ i = 0 then 7 else 0, fun _ => none, fun r => if r = 1 then some (false, [0]) else if r = 3 then some (false, []) else if r = 6 then some (false, [5, 7]) else if r = 7 then some (false, [5, 7, 8]) else if r = 8 then some (false, [5, 7, 8]) else if r = 9 then some (false, [5, 7, 8, 9, 10]) else if r = 10 then some (false, []) else if r = 11 then some (false, [5, 7, 9]) else if r = 12 then some (false, [5, 7]) else if r = 13 then some (false, [5, 7, 8]) else if r = 14 then some (false, [5, 7]) else if r = 15 then some (false, [5, 7, 8]) else if r = 16 then some (false, [5, 7, 8]) else if r = 17 then some (false, []) else none, fun r => if r = 5 then [5, 7] else []⟩
def S198 : SCode :=
 (.seq (.ops [⟨none, (some 2), .mv 2 (.k (Value.string ⟨#[]⟩)), false⟩,
   ⟨none, (some 3), .mv 3 (.k (Value.string ⟨#[]⟩)), false⟩,
   ⟨none, (some 4), .mv 4 (.k (Value.int .i64 0)), false⟩])
 (.seq (.seq (.keep [0]) (.ops [⟨none, (some 12), .mv 12 (.s 0), false⟩,
   ⟨none, (some 13), .call (some 13) 161 false [(.s 12), (.k (Value.string ⟨#[34]⟩))], false⟩,
   ⟨none, (some 11), .mv 11 (.s 13), false⟩,
   ⟨none, (some 14), .ex 14 (.s 11) 0, false⟩,
   ⟨none, (some 15), .ex 15 (.s 11) 1, false⟩,
   ⟨none, (some 5), .mv 5 (.s 14), false⟩,
   ⟨none, (some 6), .mv 6 (.s 15), false⟩]))
 (.seq (.seq (.ops [⟨none, (some 16), .mv 16 (.s 6), false⟩,
   ⟨none, (some 17), .not 17 (.s 16), false⟩])
 (.cond (.s 17) (.seq (.seq (.keep []) (.ops [⟨none, (some 2), .mv 2 (.k (Value.string ⟨#[]⟩)), false⟩,
   ⟨none, (some 3), .mv 3 (.k (Value.string ⟨#[]⟩)), false⟩,
   ⟨none, (some 4), .mv 4 (.k (Value.int .i64 3)), false⟩]))
 .ret) .skip))
 (.seq (.ops [⟨none, (some 7), .nr 7 5 1, false⟩])
 (.seq (.block 0 (.loop [5, 7] (.seq (.seq (.ops [⟨none, (some 18), .mv 18 (.s 5), false⟩,
   ⟨none, (some 19), .bin 19 .neq (.s 18) (.k (Value.string ⟨#[]⟩)), false⟩])
 (.cond (.s 19) .skip (.exit 0)))
 (.block 1 (.seq (.seq (.keep [5, 7]) (.ops [⟨none, (some 20), .mv 20 (.s 5), false⟩,
   ⟨none, (some 21), .ixs 21 (.s 20) (.k (Value.int .i64 0)), false⟩,
   ⟨none, (some 8), .mv 8 (.s 21), false⟩]))
 (.seq (.seq (.keep [5, 7, 8]) (.ops [⟨none, (some 22), .mv 22 (.s 5), false⟩,
   ⟨none, (some 23), .sls 23 (.s 22) (some (.k (Value.int .i64 1))) none, false⟩,
   ⟨none, (some 5), .mv 5 (.s 23), false⟩]))
 (.block 2 (.seq (.seq (.keep [5, 7, 8]) (.ops [⟨none, (some 42), .mv 42 (.s 8), false⟩,
   ⟨none, (some 43), .bin 43 .eql (.s 42) (.k (Value.int .u8 34)), false⟩,
   ⟨none, (some 41), .mv 41 (.s 43), false⟩]))
 (.cond (.s 41) (.seq (.seq (.keep [5, 7]) (.ops [⟨none, (some 44), .mv 44 (.s 7), false⟩,
   ⟨none, (some 45), .b2s 45 (.s 44), false⟩,
   ⟨none, (some 46), .mv 46 (.s 5), false⟩,
   ⟨none, (some 2), .mv 2 (.s 45), false⟩,
   ⟨none, (some 3), .mv 3 (.s 46), false⟩,
   ⟨none, (some 4), .mv 4 (.k (Value.int .i64 0)), false⟩]))
 .ret) (.seq (.seq (.keep [5, 7, 8]) (.ops [⟨none, (some 48), .mv 48 (.s 8), false⟩,
   ⟨none, (some 49), .call (some 49) 171 false [(.s 48)], false⟩,
   ⟨none, (some 47), .mv 47 (.s 49), false⟩]))
 (.cond (.s 47) (.seq (.keep [5, 7, 8]) (.ops [⟨none, (some 50), .mv 50 (.s 7), false⟩,
   ⟨none, (some 51), .mv 51 (.s 8), false⟩,
   ⟨none, (some 52), .bs 52 5 1 [(.s 51)], false⟩,
   ⟨none, (some 53), .ap 53 5 1 1 (.s 50) (.s 52), false⟩,
   ⟨none, (some 7), .mv 7 (.s 53), false⟩])) (.seq (.seq (.keep [5, 7, 8]) (.ops [⟨none, (some 25), .mv 25 (.s 5), false⟩,
   ⟨none, (some 26), .call (some 26) 217 false [(.s 25)], false⟩,
   ⟨none, (some 24), .mv 24 (.s 26), false⟩,
   ⟨none, (some 27), .ex 27 (.s 24) 0, false⟩,
   ⟨none, (some 28), .ex 28 (.s 24) 1, false⟩,
   ⟨none, (some 9), .mv 9 (.s 27), false⟩,
   ⟨none, (some 10), .mv 10 (.s 28), false⟩]))
 (.seq (.seq (.seq (.keep [5, 7, 8, 9, 10]) (.ops [⟨none, (some 29), .mv 29 (.s 8), false⟩,
   ⟨none, (some 30), .bin 30 .neq (.s 29) (.k (Value.int .u8 92)), false⟩,
   ⟨none, (some 31), .mv 31 (.s 30), false⟩,
   ⟨(some (31, false)), (some 32), .mv 32 (.s 10), false⟩,
   ⟨(some (31, false)), (some 33), .not 33 (.s 32), false⟩,
   ⟨none, (some 34), .pk 34 (.s 31) (.k (Value.bool true)) (.s 33), false⟩]))
 (.cond (.s 34) (.seq (.seq (.keep []) (.ops [⟨none, (some 2), .mv 2 (.k (Value.string ⟨#[]⟩)), false⟩,
   ⟨none, (some 3), .mv 3 (.k (Value.string ⟨#[]⟩)), false⟩,
   ⟨none, (some 4), .mv 4 (.k (Value.int .i64 3)), false⟩]))
 .ret) .skip))
 (.seq (.seq (.keep [5, 7, 9]) (.ops [⟨none, (some 35), .mv 35 (.s 7), false⟩,
   ⟨none, (some 36), .mv 36 (.s 9), false⟩,
   ⟨none, (some 37), .bs 37 5 1 [(.s 36)], false⟩,
   ⟨none, (some 38), .ap 38 5 1 1 (.s 35) (.s 37), false⟩,
   ⟨none, (some 7), .mv 7 (.s 38), false⟩]))
 (.seq (.keep [5, 7]) (.ops [⟨none, (some 39), .mv 39 (.s 5), false⟩,
   ⟨none, (some 40), .sls 40 (.s 39) (some (.k (Value.int .i64 2))) none, false⟩,
   ⟨none, (some 5), .mv 5 (.s 40), false⟩]))))))))))))))))
 (.seq (.seq (.keep []) (.ops [⟨none, (some 2), .mv 2 (.k (Value.string ⟨#[]⟩)), false⟩,
   ⟨none, (some 3), .mv 3 (.k (Value.string ⟨#[]⟩)), false⟩,
   ⟨none, (some 4), .mv 4 (.k (Value.int .i64 3)), false⟩]))
 .ret))))))
def R198 : List RR := [.sl 2, .sl 3, .sl 4]
theorem sd198 : SdT Tryz.prog 198 54 S198 R198 := fun hT hl hC hit => sdX (F := Tryz.f198) (A := A198) mo (by kernel_rfl) (by kernel_rfl) (by kernel_rfl) (by kernel_rfl) hT hl hC hit
def A124 : Ann := ⟨fun r i => if r = 1 ∧ i = 0 then 7 else 0, fun r => if r = 9 then some [(0, true, []), (1, true, []), (2, true, []), (3, true, []), (4, true, []), (5, true, []), (6, false, []), (7, false, [0, 1, 2, 3, 4, 5, 6, 7, 8, 9, 10, 11, 12, 13, 14, 15])] else none, fun r => if r = 3 then some (false, [0, 3]) else if r = 6 then some (false, [0, 3, 4, 8, 9]) else if r = 9 then some (false, [0, 3, 5, 8, 9]) else none, fun r => if r = 4 then [0, 3, 8, 9] else []⟩
def S124 : SCode :=
 (.seq (.ops [⟨none, (some 2), .mv 2 (.k (Value.string ⟨#[]⟩)), false⟩])
 (.seq (.ops [⟨none, (some 3), .alb 3 117 5, false⟩])
 (.seq (.ops [⟨none, (some 6), .call (some 6) 170 false [(.s 3), (.k (Value.int .u8 34))], false⟩])
 (.seq (.seq (.seq (.keep [0, 3]) (.ops [⟨none, (some 7), .mv 7 (.s 0), false⟩,
   ⟨none, (some 8), .lens 8 (.s 7), false⟩,
   ⟨none, (some 9), .mv 9 (.k (Value.int .i64 0)), false⟩]))
 (.block 0 (.loop [0, 3, 8, 9] (.seq (.ops [⟨none, (some 10), .bin 10 .lss (.s 9) (.s 8), false⟩])
 (.seq (.cond (.s 10) .skip (.exit 0))
 (.seq (.block 1 (.seq (.ops [⟨none, (some 11), .mv 11 (.s 9), false⟩,
   ⟨none, (some 4), .mv 4 (.s 11), false⟩])
 (.seq (.seq (.keep [0, 3, 4, 8, 9]) (.ops [⟨none, (some 12), .mv 12 (.s 0), false⟩,
   ⟨none, (some 13), .mv 13 (.s 4), false⟩,
   ⟨none, (some 14), .ixs 14 (.s 12) (.s 13), false⟩,
   ⟨none, (some 5), .mv 5 (.s 14), false⟩]))
 (.seq (.ops [⟨none, (some 15), .mv 15 (.s 5), false⟩,
   ⟨none, (some 16), .call (some 16) 171 false [(.s 15)], false⟩])
 (.cond (.s 16) (.ops [⟨none, (some 17), .mv 17 (.s 5), false⟩,
   ⟨none, (some 18), .call (some 18) 170 false [(.s 3), (.s 17)], false⟩]) (.seq (.keep [0, 3, 5, 8, 9]) (.dr [([], true, ⟨none, (some 19), .mv 19 (.s 5), false⟩),
   ([], true, ⟨none, (some 20), .bin 20 .shr (.s 19) (.k (Value.int .u64 4)), false⟩),
   ([], true, ⟨none, (some 21), .ixs 21 (.k (Value.string ⟨#[48, 49, 50, 51, 52, 53, 54, 55, 56, 57, 97, 98, 99, 100, 101, 102]⟩)) (.s 20), false⟩),
   ([], true, ⟨none, (some 22), .mv 22 (.s 5), false⟩),
   ([], true, ⟨none, (some 23), .bin 23 .and (.s 22) (.k (Value.int .u8 15)), false⟩),
   ([], true, ⟨none, (some 24), .ixs 24 (.k (Value.string ⟨#[48, 49, 50, 51, 52, 53, 54, 55, 56, 57, 97, 98, 99, 100, 101, 102]⟩)) (.s 23), false⟩),
   ([], false, ⟨none, (some 25), .bs 25 5 1 [(.k (Value.int .u8 92)), (.s 21), (.s 24)], false⟩),
   ([0, 1, 2, 3, 4, 5, 6, 7, 8, 9, 10, 11, 12, 13, 14, 15], false, ⟨none, (some 26), .call (some 26) 172 false [(.s 3), (.s 25)], false⟩)])))))))
 (.ops [⟨none, (some 27), .binc 27 .add (.s 9) (.k (Value.int .i64 1)), false⟩,
   ⟨none, (some 9), .mv 9 (.s 27), false⟩])))))))
 (.seq (.ops [⟨none, (some 28), .call (some 28) 170 false [(.s 3), (.k (Value.int .u8 34))], false⟩])
 (.seq (.ops [⟨none, (some 29), .call (some 29) 70 false [(.s 3)], false⟩,
   ⟨none, (some 2), .mv 2 (.s 29), false⟩])
 .ret))))))
def R124 : List RR := [.sl 2]
theorem sd124 : SdT Tryz.prog 124 30 S124 R124 := fun hT hl hC hit => sdX (F := Tryz.f124) (A := A124) mo (by kernel_rfl) (by kernel_rfl) (by kernel_rfl) (by kernel_rfl) hT hl hC hit
def A161 : Ann := ⟨fun _ _ => 0, fun _ => none, fun r => if r = 1 then some (false, [0, 1]) else none, fun _ => []⟩
def S161 : SCode :=
 (.seq (.ops [⟨none, (some 4), .mv 4 (.k (Value.string ⟨#[]⟩)), false⟩,
   ⟨none, (some 5), .mv 5 (.k (Value.bool false)), false⟩])
 (.seq (.seq (.keep [0, 1]) (.ops [⟨none, (some 6), .mv 6 (.s 0), false⟩,
   ⟨none, (some 7), .mv 7 (.s 1), false⟩,
   ⟨none, (some 8), .call (some 8) 196 false [(.s 6), (.s 7)], false⟩,
   ⟨none, (some 9), .ex 9 (.s 8) 0, false⟩,
   ⟨none, (some 10), .ex 10 (.s 8) 1, false⟩,
   ⟨none, (some 4), .mv 4 (.s 9), false⟩,
   ⟨none, (some 5), .mv 5 (.s 10), false⟩]))
 .ret))
def R161 : List RR := [.sl 4, .sl 5]
theorem sd161 : SdT Tryz.prog 161 11 S161 R161 := fun hT hl hC hit => sdX (F := Tryz.f161) (A := A161) mo (by kernel_rfl) (by kernel_rfl) (by kernel_rfl) (by kernel_rfl) hT hl hC hit
def A171 : Ann := ⟨fun _ _ => 0, fun _ => none, fun r => if r = 1 then some (false, [0]) else none, fun _ => []⟩
def S171 : SCode :=
 (.seq (.ops [⟨none, (some 2), .mv 2 (.k (Value.bool false)), false⟩])
 (.seq (.seq (.keep [0]) (.ops [⟨none, (some 3), .mv 3 (.s 0), false⟩,
   ⟨none, (some 4), .bin 4 .geq (.s 3) (.k (Value.int .u8 32)), false⟩,
   ⟨none, (some 5), .mv 5 (.s 4), false⟩,
   ⟨(some (5, true)), (some 6), .mv 6 (.s 0), false⟩,
   ⟨(some (5, true)), (some 7), .bin 7 .leq (.s 6) (.k (Value.int .u8 126)), false⟩,
   ⟨none, (some 8), .pk 8 (.s 5) (.s 7) (.k (Value.bool false)), false⟩,
   ⟨none, (some 9), .mv 9 (.s 8), false⟩,
   ⟨(some (9, true)), (some 10), .mv 10 (.s 0), false⟩,
   ⟨(some (9, true)), (some 11), .bin 11 .neq (.s 10) (.k (Value.int .u8 34)), false⟩,
   ⟨none, (some 12), .pk 12 (.s 9) (.s 11) (.k (Value.bool false)), true⟩,
   ⟨none, (some 13), .mv 13 (.s 12), false⟩,
   ⟨(some (13, true)), (some 14), .mv 14 (.s 0), false⟩,
   ⟨(some (13, true)), (some 15), .bin 15 .neq (.s 14) (.k (Value.int .u8 92)), false⟩,
   ⟨none, (some 16), .pk 16 (.s 13) (.s 15) (.k (Value.bool false)), false⟩,
   ⟨none, (some 2), .mv 2 (.s 16), false⟩]))
 .ret))
def R171 : List RR := [.sl 2]
theorem sd171 : SdT Tryz.prog 171 17 S171 R171 := fun hT hl hC hit => sdX (F := Tryz.f171) (A := A171) mo (by kernel_rfl) (by kernel_rfl) (by kernel_rfl) (by kernel_rfl) hT hl hC hit
def A217 : Ann := ⟨fun r i => if r = 5 ∧ i = 9 then 1 else 0, fun r => if r = 3 then some [(0, true, []), (1, true, []), (3, true, [0, 1, 2, 3, 4, 5, 6, 7, 8, 9, 10, 11, 12, 13, 14, 15]), (4, true, [0, 1, 2, 3, 4, 5, 6, 7, 8, 9, 10, 11, 12, 13, 14, 15]), (2, false, [0, 1, 2, 3, 4, 5, 6, 7, 8, 9, 10, 11, 12, 13, 14, 15]), (5, false, [0, 1, 2, 3, 4, 5, 6, 7, 8, 9, 10, 11, 12, 13, 14, 15]), (6, true, []), (7, true, [])] else none, fun r => if r = 1 then some (false, [0]) else if r = 3 then some (false, [0]) else if r = 4 then some (false, [4, 5]) else if r = 5 then some (false, [4, 5, 6]) else none, fun _ => []⟩
def S217 : SCode :=
 (.seq (.ops [⟨none, (some 2), .mv 2 (.k (Value.int .u8 0)), false⟩,
   ⟨none, (some 3), .mv 3 (.k (Value.bool false)), false⟩])
 (.seq (.seq (.seq (.keep [0]) (.ops [⟨none, (some 7), .mv 7 (.s 0), false⟩,
   ⟨none, (some 8), .lens 8 (.s 7), false⟩,
   ⟨none, (some 9), .bin 9 .lss (.s 8) (.k (Value.int .i64 2)), false⟩]))
 (.cond (.s 9) (.seq (.ops [⟨none, (some 2), .mv 2 (.k (Value.int .u8 0)), false⟩,
   ⟨none, (some 3), .mv 3 (.k (Value.bool false)), false⟩])
 .ret) .skip))
 (.seq (.seq (.keep [0]) (.dr [([], true, ⟨none, (some 10), .mv 10 (.s 0), false⟩),
   ([], true, ⟨none, (some 11), .ixs 11 (.s 10) (.k (Value.int .i64 0)), false⟩),
   ([0, 1, 2, 3, 4, 5, 6, 7, 8, 9, 10, 11, 12, 13, 14, 15], true, ⟨none, (some 13), .mv 13 (.s 0), false⟩),
   ([0, 1, 2, 3, 4, 5, 6, 7, 8, 9, 10, 11, 12, 13, 14, 15], true, ⟨none, (some 14), .ixs 14 (.s 13) (.k (Value.int .i64 1)), false⟩),
   ([0, 1, 2, 3, 4, 5, 6, 7, 8, 9, 10, 11, 12, 13, 14, 15], false, ⟨none, (some 12), .call (some 12) 116 false [(.k (Value.string ⟨#[48, 49, 50, 51, 52, 53, 54, 55, 56, 57, 97, 98, 99, 100, 101, 102]⟩)), (.s 11)], false⟩),
   ([0, 1, 2, 3, 4, 5, 6, 7, 8, 9, 10, 11, 12, 13, 14, 15], false, ⟨none, (some 15), .call (some 15) 116 false [(.k (Value.string ⟨#[48, 49, 50, 51, 52, 53, 54, 55, 56, 57, 97, 98, 99, 100, 101, 102]⟩)), (.s 14)], false⟩),
   ([], true, ⟨none, (some 4), .mv 4 (.s 12), false⟩),
   ([], true, ⟨none, (some 5), .mv 5 (.s 15), false⟩)]))
 (.seq (.seq (.keep [4, 5]) (.ops [⟨none, (some 16), .mv 16 (.s 4), false⟩,
   ⟨none, (some 17), .bin 17 .shl (.s 16) (.k (Value.int .u64 4)), false⟩,
   ⟨none, (some 18), .mv 18 (.s 5), false⟩,
   ⟨none, (some 19), .bin 19 .or (.s 17) (.s 18), false⟩,
   ⟨none, (some 20), .cvi 20 .u8 (.s 19), false⟩,
   ⟨none, (some 6), .mv 6 (.s 20), false⟩]))
 (.seq (.seq (.keep [4, 5, 6]) (.ops [⟨none, (some 21), .mv 21 (.s 6), false⟩,
   ⟨none, (some 22), .mv 22 (.s 4), false⟩,
   ⟨none, (some 23), .bin 23 .geq (.s 22) (.k (Value.int .i64 0)), false⟩,
   ⟨none, (some 24), .mv 24 (.s 23), false⟩,
   ⟨(some (24, true)), (some 25), .mv 25 (.s 5), false⟩,
   ⟨(some (24, true)), (some 26), .bin 26 .geq (.s 25) (.k (Value.int .i64 0)), false⟩,
   ⟨none, (some 27), .pk 27 (.s 24) (.s 26) (.k (Value.bool false)), false⟩,
   ⟨none, (some 28), .mv 28 (.s 27), false⟩,
   ⟨(some (28, true)), (some 29), .mv 29 (.s 6), false⟩,
   ⟨(some (28, true)), (some 30), .call (some 30) 171 true [(.s 29)], true⟩,
   ⟨(some (28, true)), (some 31), .not 31 (.s 30), false⟩,
   ⟨none, (some 32), .pk 32 (.s 28) (.s 31) (.k (Value.bool false)), false⟩,
   ⟨none, (some 2), .mv 2 (.s 21), false⟩,
   ⟨none, (some 3), .mv 3 (.s 32), false⟩]))
 .ret)))))
def R217 : List RR := [.sl 2, .sl 3]
theorem sd217 : SdT Tryz.prog 217 33 S217 R217 := fun hT hl hC hit => sdX (F := Tryz.f217) (A := A217) mo (by kernel_rfl) (by kernel_rfl) (by kernel_rfl) (by kernel_rfl) hT hl hC hit
def A121 : Ann := ⟨fun _ _ => 0, fun _ => none, fun r => if r = 1 then some (false, [0, 1]) else none, fun _ => []⟩
def S121 : SCode :=
 (.seq (.ops [⟨none, (some 4), .mv 4 (.k (Value.bool false)), false⟩])
 (.seq (.seq (.keep [0, 1]) (.ops [⟨none, (some 5), .mv 5 (.s 0), false⟩,
   ⟨none, (some 6), .mv 6 (.s 1), false⟩,
   ⟨none, (some 7), .call (some 7) 166 false [(.s 5), (.s 6)], false⟩,
   ⟨none, (some 4), .mv 4 (.s 7), false⟩]))
 .ret))
def R121 : List RR := [.sl 4]
theorem sd121 : SdT Tryz.prog 121 8 S121 R121 := fun hT hl hC hit => sdX (F := Tryz.f121) (A := A121) mo (by kernel_rfl) (by kernel_rfl) (by kernel_rfl) (by kernel_rfl) hT hl hC hit
def A196 : Ann := ⟨fun _ _ => 0, fun _ => none, fun r => if r = 1 then some (false, [0, 1]) else if r = 2 then some (false, [0]) else if r = 3 then some (false, [0, 1]) else none, fun _ => []⟩
def S196 : SCode :=
 (.seq (.ops [⟨none, (some 4), .mv 4 (.k (Value.string ⟨#[]⟩)), false⟩,
   ⟨none, (some 5), .mv 5 (.k (Value.bool false)), false⟩])
 (.seq (.seq (.seq (.keep [0, 1]) (.ops [⟨none, (some 6), .mv 6 (.s 0), false⟩,
   ⟨none, (some 7), .mv 7 (.s 1), false⟩,
   ⟨none, (some 8), .call (some 8) 166 false [(.s 6), (.s 7)], false⟩,
   ⟨none, (some 9), .not 9 (.s 8), false⟩]))
 (.cond (.s 9) (.seq (.seq (.keep [0]) (.ops [⟨none, (some 10), .mv 10 (.s 0), false⟩,
   ⟨none, (some 4), .mv 4 (.s 10), false⟩,
   ⟨none, (some 5), .mv 5 (.k (Value.bool false)), false⟩]))
 .ret) .skip))
 (.seq (.seq (.keep [0, 1]) (.ops [⟨none, (some 11), .mv 11 (.s 0), false⟩,
   ⟨none, (some 12), .mv 12 (.s 1), false⟩,
   ⟨none, (some 13), .lens 13 (.s 12), false⟩,
   ⟨none, (some 14), .sls 14 (.s 11) (some (.s 13)) none, false⟩,
   ⟨none, (some 4), .mv 4 (.s 14), false⟩,
   ⟨none, (some 5), .mv 5 (.k (Value.bool true)), false⟩]))
 .ret)))
def R196 : List RR := [.sl 4, .sl 5]
theorem sd196 : SdT Tryz.prog 196 15 S196 R196 := fun hT hl hC hit => sdX (F := Tryz.f196) (A := A196) mo (by kernel_rfl) (by kernel_rfl) (by kernel_rfl) (by kernel_rfl) hT hl hC hit
def A116 : Ann := ⟨fun _ _ => 0, fun _ => none, fun r => if r = 1 then some (false, [0, 1]) else none, fun _ => []⟩
def S116 : SCode :=
 (.seq (.ops [⟨none, (some 4), .mv 4 (.k (Value.int .i64 0)), false⟩])
 (.seq (.seq (.keep [0, 1]) (.ops [⟨none, (some 5), .mv 5 (.s 0), false⟩,
   ⟨none, (some 6), .mv 6 (.s 1), false⟩,
   ⟨none, (some 7), .call (some 7) 163 false [(.s 5), (.s 6)], false⟩,
   ⟨none, (some 4), .mv 4 (.s 7), false⟩]))
 .ret))
def R116 : List RR := [.sl 4]
theorem sd116 : SdT Tryz.prog 116 8 S116 R116 := fun hT hl hC hit => sdX (F := Tryz.f116) (A := A116) mo (by kernel_rfl) (by kernel_rfl) (by kernel_rfl) (by kernel_rfl) hT hl hC hit
def A166 : Ann := ⟨fun r i => if r = 1 ∧ i = 8 then 1 else 0, fun _ => none, fun r => if r = 1 then some (false, [0, 1]) else none, fun _ => []⟩
def S166 : SCode :=
 (.seq (.ops [⟨none, (some 4), .mv 4 (.k (Value.bool false)), false⟩])
 (.seq (.seq (.keep [0, 1]) (.ops [⟨none, (some 5), .mv 5 (.s 0), false⟩,
   ⟨none, (some 6), .lens 6 (.s 5), false⟩,
   ⟨none, (some 7), .mv 7 (.s 1), false⟩,
   ⟨none, (some 8), .lens 8 (.s 7), false⟩,
   ⟨none, (some 9), .bin 9 .geq (.s 6) (.s 8), false⟩,
   ⟨none, (some 10), .mv 10 (.s 9), false⟩,
   ⟨(some (10, true)), (some 11), .mv 11 (.s 0), false⟩,
   ⟨(some (10, true)), (some 12), .mv 12 (.s 1), false⟩,
   ⟨(some (10, true)), (some 13), .lens 13 (.s 12), false⟩,
   ⟨(some (10, true)), (some 14), .sls 14 (.s 11) none (some (.s 13)), true⟩,
   ⟨(some (10, true)), (some 15), .mv 15 (.s 1), false⟩,
   ⟨(some (10, true)), (some 16), .bin 16 .eql (.s 14) (.s 15), false⟩,
   ⟨none, (some 17), .pk 17 (.s 10) (.s 16) (.k (Value.bool false)), false⟩,
   ⟨none, (some 4), .mv 4 (.s 17), false⟩]))
 .ret))
def R166 : List RR := [.sl 4]
theorem sd166 : SdT Tryz.prog 166 18 S166 R166 := fun hT hl hC hit => sdX (F := Tryz.f166) (A := A166) mo (by kernel_rfl) (by kernel_rfl) (by kernel_rfl) (by kernel_rfl) hT hl hC hit
def A68 : Ann := ⟨fun _ _ => 0, fun _ => none, fun r => if r = 1 then some (false, [0]) else if r = 2 then some (false, [0, 3]) else if r = 5 then some (false, [0, 3, 4, 8, 9]) else if r = 7 then some (false, [0, 3]) else if r = 10 then some (false, [0]) else none, fun r => if r = 3 then [0, 3, 8, 9] else []⟩
def S68 : SCode :=
 (.seq (.ops [⟨none, (some 2), .mv 2 (.k (Value.string ⟨#[]⟩)), false⟩])
 (.seq (.seq (.keep [0]) (.ops [⟨none, (some 5), .mv 5 (.s 0), false⟩,
   ⟨none, (some 6), .bin 6 .eql (.s 5) (.k (Value.string ⟨#[47, 100, 101, 118, 47, 110, 117, 108, 108]⟩)), false⟩,
   ⟨none, (some 3), .mv 3 (.s 6), false⟩]))
 (.seq (.seq (.seq (.keep [0, 3]) (.ops [⟨none, (some 7), .mv 7 (.s 0), false⟩,
   ⟨none, (some 8), .lens 8 (.s 7), false⟩,
   ⟨none, (some 9), .mv 9 (.k (Value.int .i64 0)), false⟩]))
 (.block 0 (.loop [0, 3, 8, 9] (.seq (.ops [⟨none, (some 10), .bin 10 .lss (.s 9) (.s 8), false⟩])
 (.seq (.cond (.s 10) .skip (.exit 0))
 (.seq (.block 1 (.seq (.ops [⟨none, (some 11), .mv 11 (.s 9), false⟩,
   ⟨none, (some 4), .mv 4 (.s 11), false⟩])
 (.seq (.keep [0, 3, 4, 8, 9]) (.ops [⟨none, (some 12), .mv 12 (.s 3), false⟩,
   ⟨none, (some 13), .mv 13 (.s 12), false⟩,
   ⟨(some (13, false)), (some 14), .mv 14 (.s 0), false⟩,
   ⟨(some (13, false)), (some 15), .mv 15 (.s 4), false⟩,
   ⟨(some (13, false)), (some 16), .ixs 16 (.s 14) (.s 15), false⟩,
   ⟨(some (13, false)), (some 17), .bin 17 .lss (.s 16) (.k (Value.int .u8 33)), false⟩,
   ⟨none, (some 18), .pk 18 (.s 13) (.k (Value.bool true)) (.s 17), false⟩,
   ⟨none, (some 19), .mv 19 (.s 18), false⟩,
   ⟨(some (19, false)), (some 20), .mv 20 (.s 0), false⟩,
   ⟨(some (19, false)), (some 21), .mv 21 (.s 4), true⟩,
   ⟨(some (19, false)), (some 22), .ixs 22 (.s 20) (.s 21), false⟩,
   ⟨(some (19, false)), (some 23), .bin 23 .gtr (.s 22) (.k (Value.int .u8 126)), false⟩,
   ⟨none, (some 24), .pk 24 (.s 19) (.k (Value.bool true)) (.s 23), false⟩,
   ⟨none, (some 25), .mv 25 (.s 24), false⟩,
   ⟨(some (25, false)), (some 26), .mv 26 (.s 0), false⟩,
   ⟨(some (25, false)), (some 27), .mv 27 (.s 4), false⟩,
   ⟨(some (25, false)), (some 28), .ixs 28 (.s 26) (.s 27), false⟩,
   ⟨(some (25, false)), (some 29), .bin 29 .eql (.s 28) (.k (Value.int .u8 34)), false⟩,
   ⟨none, (some 30), .pk 30 (.s 25) (.k (Value.bool true)) (.s 29), false⟩,
   ⟨none, (some 3), .mv 3 (.s 30), true⟩]))))
 (.ops [⟨none, (some 31), .binc 31 .add (.s 9) (.k (Value.int .i64 1)), false⟩,
   ⟨none, (some 9), .mv 9 (.s 31), false⟩])))))))
 (.seq (.block 2 (.seq (.seq (.keep [0, 3]) (.ops [⟨none, (some 33), .mv 33 (.s 0), false⟩,
   ⟨none, (some 34), .bin 34 .eql (.s 33) (.k (Value.string ⟨#[]⟩)), false⟩,
   ⟨none, (some 32), .mv 32 (.s 34), false⟩]))
 (.cond (.s 32) (.seq (.ops [⟨none, (some 2), .mv 2 (.k (Value.string ⟨#[47, 100, 101, 118, 47, 110, 117, 108, 108]⟩)), false⟩])
 .ret) (.seq (.ops [⟨none, (some 36), .mv 36 (.s 3), false⟩,
   ⟨none, (some 35), .mv 35 (.s 36), false⟩])
 (.cond (.s 35) (.seq (.seq (.keep [0]) (.ops [⟨none, (some 37), .mv 37 (.s 0), false⟩,
   ⟨none, (some 38), .call (some 38) 124 false [(.s 37)], false⟩,
   ⟨none, (some 2), .mv 2 (.s 38), false⟩]))
 .ret) .skip)))))
 (.seq (.ops [⟨none, (some 39), .mv 39 (.s 0), false⟩,
   ⟨none, (some 2), .mv 2 (.s 39), false⟩])
 .ret)))))
def R68 : List RR := [.sl 2]
theorem sd68 : SdT Tryz.prog 68 40 S68 R68 := fun hT hl hC hit => sdX (F := Tryz.f68) (A := A68) mo (by kernel_rfl) (by kernel_rfl) (by kernel_rfl) (by kernel_rfl) hT hl hC hit
end Go.Proofs.YtlghobefhmpfkaaGreatDoor
namespace Go.Proofs.YtlghobefhmpfkaaGreatDoor
open Go Go.Ev
set_option maxHeartbeats 1000000 in
set_option maxRecDepth 100000 in
theorem calls163 (s : ByteArray) (c : Int) (w : World) :
   Calls Tryz.prog 163 #[.string s, .int .u8 c] w fun e w' => e = .returned (.int .i64 (Lib.indexByte s.data.toList c.toNat.toUInt8)) ∧ w' = w := by
 go_enter Tryz.func163, Tryz.ntmps163
 go_wp2
 rw [run_callFunc_extern Tryz.func197 (by kernel_rfl) (by kernel_rfl) (by kernel_rfl) (e := Extern.BytealgIndexByte.indexByte) (by kernel_rfl), Lib.run_indexByteString]
 simp only [Result.andThen]
 rw [Oper.upon_value]
 go_wp2
 go_ret
 exact ⟨rfl, rfl⟩
def C163 : Contract := pureC fun args => match args with
 | [.d (.v (.string s)), .d (.v (.int .u8 c))] => some (True, .d (.v (.int .i64 (Lib.indexByte s.data.toList c.toNat.toUInt8))))
 | _ => none
set_option maxRecDepth 100000 in
theorem hb163 : HasBody Tryz.prog 163 := ⟨Tryz.f163, by kernel_rfl, by kernel_rfl, by kernel_rfl⟩
set_option maxRecDepth 100000 in
theorem s163 {G : World → Prop} : Sound G Tryz.prog 163 C163 := by
 refine sound_calls hb163 fun args p x h hp => ?_
 split at h <;> simp only [Option.some.injEq, Prod.mk.injEq, reduceCtorEq] at h
 obtain ⟨rfl, rfl⟩ := h
 refine ⟨_, fun m n c => ⟨rfl, rfl⟩, fun m c vs hv w => ?_⟩
 match vs, hv with
 | [a, b], hv =>
   simp only [CnL, and_true] at hv
   rw [of_v hv.1, of_v hv.2]
   exact calls163 _ _ w
 | [], hv => simp [CnL] at hv
 | [_], hv => simp [CnL] at hv
 | _ :: _ :: _ :: _, hv => simp [CnL] at hv
end Go.Proofs.YtlghobefhmpfkaaGreatDoor
namespace Go.Proofs.YtlghobefhmpfkaaGreatDoor
open Go Go.Ev
set_option maxRecDepth 100000
variable {G : World → Prop}
def plainB (c : Int) : Bool := decide (32 ≤ c) && decide (c ≤ 126) && !decide (c = 34) && !decide (c = 92)
def C171 : Contract := pureC fun args => match args with
 | [.d (.v (.int .u8 c))] => some (True, .d (.v (.bool (plainB c))))
 | _ => none
theorem s171 : Sound G Tryz.prog 171 C171 := by
 refine sd171 (T := tabT []) tab_nil (pureC_lawful _) (pure_hX fun args p x K h hp hk => ?_)
 split at h <;> simp only [Option.some.injEq, Prod.mk.injEq, reduceCtorEq] at h
 obtain ⟨rfl, rfl⟩ := h
 refine ⟨Nat.le_of_ble_eq_true rfl, ?_⟩
 simp -dsimp -implicitDefEqProofs only [S171, R171, ↓Ev.xStp_eq, ↓Ev.P, Ev.Q, Ev.Z, simprocAttr]
 exact hk
def hasPre (s p : ByteArray) : Bool := decide ((p.size : Int) ≤ (s.size : Int)) && decide (s.extract 0 p.size = p)
def C166 : Contract := pureC fun args => match args with
 | [.d (.v (.string s)), .d (.v (.string p))] => some (True, .d (.v (.bool (hasPre s p))))
 | _ => none
theorem s166 : Sound G Tryz.prog 166 C166 := by
 refine sd166 (T := tabT []) tab_nil (pureC_lawful _) (pure_hX fun args p x K h hp hk => ?_)
 split at h <;> simp only [Option.some.injEq, Prod.mk.injEq, reduceCtorEq] at h
 obtain ⟨rfl, rfl⟩ := h
 refine ⟨Nat.le_of_ble_eq_true rfl, ?_⟩
 simp -dsimp -implicitDefEqProofs only [S166, R166, ↓Ev.xStp_eq, ↓Ev.P, Ev.Q, Ev.Z, simprocAttr]
 exact ⟨fun h => by omega, hk⟩
theorem s121 : Sound G Tryz.prog 121 C166 := by
 refine sd121 (T := tabT [(166, C166)]) (tab_cons s166 tab_nil) (pureC_lawful _) (pure_hX fun args p x K h hp hk => ?_)
 split at h <;> simp only [Option.some.injEq, Prod.mk.injEq, reduceCtorEq] at h
 obtain ⟨rfl, rfl⟩ := h
 refine ⟨Nat.le_of_ble_eq_true rfl, ?_⟩
 simp -dsimp -implicitDefEqProofs only [S121, R121, C166, ↓Ev.xStp_eq, ↓Ev.P, Ev.Q, Ev.Z, simprocAttr]
 exact hk
def C196 : Contract := pureC fun args => match args with
 | [.d (.v (.string s)), .d (.v (.string p))] => some (True, .tup [.d (.v (.string (if hasPre s p then s.extract p.size s.size else s))), .d (.v (.bool (hasPre s p)))])
 | _ => none
theorem s196 : Sound G Tryz.prog 196 C196 := by
 refine sd196 (T := tabT [(166, C166)]) (tab_cons s166 tab_nil) (pureC_lawful _) (pure_hX fun args p x K h hp hk => ?_)
 split at h <;> simp only [Option.some.injEq, Prod.mk.injEq, reduceCtorEq] at h
 obtain ⟨rfl, rfl⟩ := h
 rename_i s q
 refine ⟨Nat.le_of_ble_eq_true rfl, ?_⟩
 simp -dsimp -implicitDefEqProofs only [S196, R196, C166, ↓Ev.xStp_eq, ↓Ev.P, Ev.Q, Ev.Z, simprocAttr]
 refine ⟨fun h => ?_, fun h => ?_⟩
 · have h' : hasPre s q = false := by simpa using h
   rw [h'] at hk; exact hk
 · have h' : hasPre s q = true := by simpa using h
   rw [h'] at hk
   have hs : ∀ s p, hasPre s p = true → p.size ≤ s.size := fun s p h => by simp only [hasPre, Bool.and_eq_true, decide_eq_true_eq] at h; omega
   have := hs _ _ h'
   exact ⟨by omega, hk⟩
theorem s161 : Sound G Tryz.prog 161 C196 := by
 refine sd161 (T := tabT [(196, C196)]) (tab_cons s196 tab_nil) (pureC_lawful _) (pure_hX fun args p x K h hp hk => ?_)
 split at h <;> simp only [Option.some.injEq, Prod.mk.injEq, reduceCtorEq] at h
 obtain ⟨rfl, rfl⟩ := h
 refine ⟨Nat.le_of_ble_eq_true rfl, ?_⟩
 simp -dsimp -implicitDefEqProofs only [S161, R161, C196, ↓Ev.xStp_eq, ↓Ev.P, Ev.Q, Ev.Z, simprocAttr]
 exact hk
theorem s116 : Sound G Tryz.prog 116 C163 := by
 refine sd116 (T := tabT [(163, C163)]) (tab_cons s163 tab_nil) (pureC_lawful _) (pure_hX fun args p x K h hp hk => ?_)
 split at h <;> simp only [Option.some.injEq, Prod.mk.injEq, reduceCtorEq] at h
 obtain ⟨rfl, rfl⟩ := h
 refine ⟨Nat.le_of_ble_eq_true rfl, ?_⟩
 simp -dsimp -implicitDefEqProofs only [S116, R116, C163, ↓Ev.xStp_eq, ↓Ev.P, Ev.Q, Ev.Z, simprocAttr]
 exact hk
def hx (c : UInt8) : Int := Lib.indexByte [48, 49, 50, 51, 52, 53, 54, 55, 56, 57, 97, 98, 99, 100, 101, 102] c
def octV (a b : UInt8) : Int := IntKind.u8.wrap (IntKind.i64.wrap ((BitVec.ofInt IntKind.i64.bits (IntKind.i64.wrap (hx a * 2 ^ min 4 IntKind.i64.bits)) ||| BitVec.ofInt IntKind.i64.bits (hx b)).toNat))
def okO (a b : UInt8) : Bool := decide (0 ≤ hx a) && decide (0 ≤ hx b) && !plainB (octV a b)
def oct2 : List UInt8 → Int × Bool
 | a :: b :: _ => (octV a b, okO a b)
 | _ => (0, false)
def C217 : Contract := pureC fun args => match args with
 | [.d (.v (.string s))] => some (True, .tup [.d (.v (.int .u8 (oct2 s.data.toList).1)), .d (.v (.bool (oct2 s.data.toList).2))])
 | _ => none
theorem s217 : Sound G Tryz.prog 217 C217 := by
 refine sd217 (T := tabT [(171, C171), (116, C163)]) (tab_cons s171 (tab_cons s116 tab_nil)) (pureC_lawful _) (pure_hX fun args p x K h hp hk => ?_)
 split at h <;> simp only [Option.some.injEq, Prod.mk.injEq, reduceCtorEq] at h
 obtain ⟨rfl, rfl⟩ := h
 refine ⟨Nat.le_of_ble_eq_true rfl, ?_⟩
 rename_i s
 obtain ⟨l, rfl⟩ := ex_str s
 simp only [sem_str] at hk
 match l, hk with
 | [], hk =>
   simp -dsimp -implicitDefEqProofs only [S217, R217, C163, C171, ↓Ev.xStp_eq, ↓Ev.P, Ev.Q, Ev.Z, simprocAttr]
   repeat' (first | refine And.intro ?_ ?_ | intro _)
   all_goals first | omega | exact hk
 | [a], hk =>
   simp -dsimp -implicitDefEqProofs only [S217, R217, C163, C171, ↓Ev.xStp_eq, ↓Ev.P, Ev.Q, Ev.Z, simprocAttr]
   repeat' (first | refine And.intro ?_ ?_ | intro _)
   all_goals first | omega | exact hk
 | a :: b :: r, hk =>
   simp -dsimp -implicitDefEqProofs only [S217, R217, C163, C171, ↓Ev.xStp_eq, ↓Ev.P, Ev.Q, Ev.Z, simprocAttr]
   repeat' (first | refine And.intro ?_ ?_ | intro _)
   all_goals first | omega | exact hk
def unq : List UInt8 → List UInt8 → Option (List UInt8 × List UInt8)
 | [], _ => none
 | c :: r, out => if c = 34 then some (out, r) else if plainB c.toNat = true then unq r (out ++ [c]) else
   if c = 92 ∧ (oct2 r).2 = true then unq (r.drop 2) (out ++ [UInt8.ofNat (oct2 r).1.toNat]) else none
 termination_by l => l.length
 decreasing_by all_goals (simp; try omega)
def unqS : Option (List UInt8 × List UInt8) → SV
 | some (o, r) => .tup [.d (.v (str o)), .d (.v (str r)), .d (.v (.int .i64 0))]
 | none => .tup [.d (.v (str [])), .d (.v (str [])), .d (.v (.int .i64 3))]
def unqL : List UInt8 → Option (List UInt8 × List UInt8)
 | 34 :: r => unq r []
 | _ => none
def C198 : Contract := pureC fun args => match args with
 | [.d (.v (.string s))] => some (s.size ≤ 1099511627776, unqS (unqL s.data.toList))
 | _ => none
theorem pre34 (l : List UInt8) : hasPre ⟨l.toArray⟩ ⟨[34].toArray⟩ = (match l with | c :: _ => decide (c = 34) | [] => false) := by
 unfold hasPre
 simp only [sem_str]
 cases l with
 | nil => rfl
 | cons c r => simp; omega
theorem octV_byte (a b : UInt8) : ((UInt8.ofNat (octV a b).toNat).toNat : Int) = octV a b := by
 have : 0 ≤ octV a b ∧ octV a b < 256 := by
   unfold octV
   generalize IntKind.i64.wrap _ = z
   simp only [IntKind.wrap, IntKind.bits, IntKind.signed]
   simp
   omega
 simp
 omega
theorem u8_eq (d : UInt8) (n : Nat) (hn : n < 256) : ((d.toNat : Int) = n) ↔ d = UInt8.ofNat n := by
 constructor
 · intro h
   apply UInt8.toNat_inj.1
   rw [UInt8.toNat_ofNat']
   omega
 · rintro rfl
   rw [UInt8.toNat_ofNat']
   omega
theorem unq_end (m out : List UInt8) : unq (34 :: m) out = some (out, m) := by rw [unq]; simp
theorem unq_plain {d : UInt8} (m out : List UInt8) (h : d ≠ 34) (hp : plainB d.toNat = true) : unq (d :: m) out = unq m (out ++ [d]) := by rw [unq]; simp [h, hp]
theorem unq_oct (m out : List UInt8) (ho : (oct2 m).2 = true) : 2 ≤ m.length ∧ unq (92 :: m) out = unq (m.drop 2) (out ++ [UInt8.ofNat (oct2 m).1.toNat]) ∧ (((UInt8.ofNat (oct2 m).1.toNat).toNat : Int) = (oct2 m).1) := by
 match m, ho with
 | a :: b :: r, ho =>
   refine ⟨by simp, ?_, octV_byte a b⟩
   have hp : plainB (92 : UInt8).toNat = false := by decide
   rw [unq]
   simp only [hp]
   simp [ho]
 | [], ho => cases ho
 | [_], ho => cases ho
theorem unq_bad {d : UInt8} (m out : List UInt8) (h : d ≠ 34) (hp : plainB d.toNat = false) (hb : d = 92 → (oct2 m).2 = false) : unq (d :: m) out = none := by
 rw [unq]
 simp only [h, if_false, hp, Bool.false_eq_true]
 rw [if_neg]
 rintro ⟨h1, h2⟩
 rw [hb h1] at h2; cases h2
theorem s198 : Sound G Tryz.prog 198 C198 := by
 refine sd198 (T := tabT [(161, C196), (171, C171), (217, C217)]) (tab_cons s161 (tab_cons s171 (tab_cons s217 tab_nil))) (pureC_lawful _) (pure_hX fun args p x K h hp hk => ?_)
 split at h <;> simp only [Option.some.injEq, Prod.mk.injEq, reduceCtorEq] at h
 obtain ⟨rfl, rfl⟩ := h
 refine ⟨Nat.le_of_ble_eq_true rfl, ?_⟩
 rename_i s
 obtain ⟨l, rfl⟩ := ex_str s
 simp only [sem_str] at hk hp
 have hpre := pre34 l
 have bad : unqL l = none → K (.ret (.tup [.d (.v (.string ⟨#[]⟩)), .d (.v (.string ⟨#[]⟩)), .d (.v (.int .i64 3))])) ⟨0, []⟩ := fun e => by rw [e] at hk; exact hk
 match l, hpre with
 | [], hpre =>
   simp -dsimp -implicitDefEqProofs only [S198, R198, C196, C171, C217, hpre, ↓Ev.xStp_eq, ↓Ev.P, Ev.Q, Ev.Z, simprocAttr]
   exact bad rfl
 | c :: r, hpre =>
   by_cases hc : c = 34
   case neg =>
     have hpre : hasPre ⟨(c :: r).toArray⟩ ⟨[34].toArray⟩ = false := by rw [hpre]; simp [hc]
     simp -dsimp -implicitDefEqProofs only [S198, R198, C196, C171, C217, hpre, ↓Ev.xStp_eq, ↓Ev.P, Ev.Q, Ev.Z, simprocAttr]
     refine bad ?_
     unfold unqL
     split
     · simp_all
     · rfl
   subst hc
   have hpre : hasPre ⟨((34 : UInt8) :: r).toArray⟩ ⟨[34].toArray⟩ = true := by rw [hpre]; simp
   simp -dsimp -implicitDefEqProofs only [S198, R198, C196, C171, C217, hpre, ↓Ev.xStp_eq, ↓Ev.P, Ev.Q, Ev.Z, simprocAttr]
   have good : ∀ o m, unq r [] = some (o, m) → K (.ret (.tup [.d (.v (.string ⟨o.toArray⟩)), .d (.v (.string ⟨m.toArray⟩)), .d (.v (.int .i64 0))])) ⟨0, []⟩ := fun o m e => by
     rw [unqL, e] at hk; exact hk
   have hr : r.length ≤ 1099511627776 := by simp only [List.length_cons] at hp; omega
   refine xLoop_intro (fun n st => ∃ (l out : List UInt8), n = l.length ∧ l.length + out.length ≤ r.length ∧ unq l out = unq r [] ∧
     st = ⟨[(5, .d (.v (.string ⟨l.toArray⟩))), (7, .own 0)], 1, [(0, .row 5 1 (byteRows out))]⟩) r.length [0] ?_ ?_ ?_
   · simp -dsimp -implicitDefEqProofs only [↓Ev.xStp_eq, ↓Ev.P, Ev.Q, Ev.Z, simprocAttr]
   · simp -dsimp -implicitDefEqProofs only [↓Ev.xStp_eq, ↓Ev.P, Ev.Q, Ev.Z, simprocAttr]
     exact ⟨r, [], rfl, by simp, rfl, rfl⟩
   · rintro n st ⟨l, out, hn, hlen, hu, rfl⟩
     cases l with
     | nil =>
       have hb := bad (by rw [unqL, ← hu, unq])
       simp -dsimp -implicitDefEqProofs only [↓Ev.xStp_eq, ↓Ev.P, Ev.Q, Ev.Z, simprocAttr]
       exact hb
     | cons d m =>
       have h34' : ((d.toNat : Int) = 34) ↔ d = 34 := u8_eq d 34 (by omega)
       have h92' : ((d.toNat : Int) = 92) ↔ d = 92 := u8_eq d 92 (by omega)
       simp only [List.length_cons] at hlen hn
       simp -dsimp -implicitDefEqProofs only [↓Ev.xStp_eq, ↓Ev.P, Ev.Q, Ev.Z, simprocAttr]
       repeat' (first | refine And.intro ?_ ?_ | intro _)
       all_goals try omega
       · rename_i h
         exact good _ _ (by rw [← hu, h34'.1 h, unq_end])
       · rename_i h hp
         refine xAgain_intro m.length [2] (by omega) (by simp -dsimp -implicitDefEqProofs only [↓Ev.xStp_eq, ↓Ev.P, Ev.Q, Ev.Z, simprocAttr]) ⟨m, out ++ [d], rfl, by simp; omega, by rw [← hu, unq_plain _ _ (fun e => h (h34'.2 e)) hp], ?_⟩
         simp -dsimp -implicitDefEqProofs only [↓Ev.xStp_eq, ↓Ev.P, Ev.Q, Ev.Z, simprocAttr]
         simp [byteRows]
       · rename_i h hp hb
         refine bad ?_
         rw [unqL, ← hu]
         refine unq_bad _ _ (fun e => h (h34'.2 e)) hp fun e => ?_
         rcases hb with hb | hb
         · exact absurd (h92'.2 e) hb
         · exact hb
       all_goals
         rename_i h hp hb
         obtain ⟨h1, h2⟩ := hb
         have := h92'.1 h1
         subst this
         obtain ⟨k1, k2, k3⟩ := unq_oct m out h2
       · omega
       · refine xAgain_intro (m.drop 2).length [2] (by simp; omega) (by simp -dsimp -implicitDefEqProofs only [↓Ev.xStp_eq, ↓Ev.P, Ev.Q, Ev.Z, simprocAttr]) ⟨m.drop 2, _, rfl, ?_, by rw [← hu, k2], ?_⟩
         · simp; omega
         · simp -dsimp -implicitDefEqProofs only [↓Ev.xStp_eq, ↓Ev.P, Ev.Q, Ev.Z, simprocAttr]
           simp only [byteRows, List.map_append, List.map_cons, List.map_nil, k3]
abbrev hexs : List UInt8 := [48, 49, 50, 51, 52, 53, 54, 55, 56, 57, 97, 98, 99, 100, 101, 102]
section
variable {q out : List UInt8} {i : Nat} (hi : (i : Int) < (q.length : Int))
include hi
end
end Go.Proofs.YtlghobefhmpfkaaGreatDoor
namespace Go.Proofs.YtlghobefhmpfkaaGreatDoor
open Go Go.Ev Go.RowKit
theorem ubyte : Tryz.prog.underlying 115 = some (.slice 5) := by kernel_rfl
theorem infB : (Tryz.prog.info? 5).map (fun i => (i.zero, i.size, i.bytes)) = some (some (.int .u8 0), 1, 1) := by kernel_rfl
set_option maxHeartbeats 2000000 in
set_option maxRecDepth 100000 in
theorem wb_at {t b : Nat} {p v : Value} {bs : List UInt8} (ht : bldT t = true) {w : World} (h : BldAt w t 5 b p v bs) (c : Int) (hc0 : 0 ≤ c) (hc1 : c < 256) (hlen : bs.length + 1 ≤ 140737488355328) :
   Calls Tryz.prog 170 #[.pointer (some ⟨b, 0, none⟩), .int .u8 c] w fun e w' => e = .returned .nilIface ∧ BldTo w w' t 5 b v (bs ++ [UInt8.ofNat c.toNat]) := by
 obtain ⟨i0, hi, hz0, hz1, hz2⟩ := info_parts infB
 go_enter Tryz.func170, Tryz.ntmps170
 go_wp2_with (go_at_call 123; refine (cc_at ht h).mono ?_)
 rintro e w1 ⟨rfl, hb1, h1⟩
 have c0 : w1.cell? ⟨b, 0, none⟩ = some (.pointer (some ⟨b, 0, none⟩)) := by rw [Lib.cell_of_heap h1.blk]; rfl
 have c1 : w1.cell? ⟨b, 1, none⟩ = some v := by rw [Lib.cell_of_heap h1.blk]; rfl
 go_wp2_with (at_builtin; refine wpList_app (t := 115) rfl rfl ubyte hi hz0 hz1 hz2 rfl (h1.own.alloc _) (A := some ⟨w1.heap.size, 0, none⟩) (k := 1) (cap := 1) rfl (news := [.int .u8 c]) rfl ?c1 ?c2 ?c4 ?_)
 case c1 =>
   intro j u hj
   match j, hj with
   | 0, hj => simp at hj; subst hj; exact ⟨_, rfl, by simp [Addr.add]⟩
 case c2 => intro u hu; simp at hu; subst hu; rfl
 case c4 => omega
 intro v' w2 hown' hgrow hv
 have hlt : b < w1.heap.size := (Array.getElem?_eq_some_iff.1 h1.blk).1
 have hb2 : w2.heap[b]? = some (.cells #[.pointer (some ⟨b, 0, none⟩), v] t (0, 0)) := by
   rw [hgrow.block b (by simp; omega) (fun e => h1.ne e.symm), Lib.alloc_old w1 _ b hlt]
   exact h1.blk
 have d0 : w2.cell? ⟨b, 0, none⟩ = some (.pointer (some ⟨b, 0, none⟩)) := by rw [Lib.cell_of_heap hb2]; rfl
 have d1 : w2.cell? ⟨b, 1, none⟩ = some v := by rw [Lib.cell_of_heap hb2]; rfl
 have f1 : w2.frozen? ⟨b, 1, none⟩ = false := Lib.frozen_of_heap hb2 1
 have hfin := BldAt.wrote (hb1.alloc _) (h1.alloc _) (bs' := bs ++ [UInt8.ofNat c.toNat]) (by rw [byteVals_snoc _ _ hc0 hc1]; simpa using hown') hgrow (by simpa using hv)
 obtain ⟨g, cap, rfl⟩ : ∃ g cap, v' = .slice (some ⟨g, 0, none⟩) (bs.length + 1) cap := by
   rcases hown'.2 with ⟨_, h0⟩ | ⟨g, cap, cur, hv, _⟩
   · omega
   · exact ⟨g, cap, hv⟩
 go_wp2
 go_ret
 exact ⟨rfl, hfin⟩
def gWB : List SV → Nat → Nat → List UInt8 → Option (Prop × SV × List UInt8)
 | [.d (.v (.int .u8 c))], t, u, bs => if bldT t = true ∧ u = 5 then some ((0 ≤ c ∧ c < 256) ∧ bs.length + 1 ≤ 140737488355328, .d (.v .nilIface), bs ++ [UInt8.ofNat c.toNat]) else none
 | _, _, _, _ => none
theorem sWB {G : World → Prop} : Sound G Tryz.prog 170 (bldC gWB) := by
 refine bld_sound ⟨Tryz.f170, by kernel_rfl, by kernel_rfl, by kernel_rfl⟩ ?_
 intro args t u bs p x bs' hg hp w b q v hb c m vs hc ha
 unfold gWB at hg
 split at hg
 · obtain ⟨⟨h1, rfl⟩, hg2⟩ := Option.ite_none_right_eq_some.1 hg
   simp only [Option.some.injEq, Prod.mk.injEq] at hg2
   obtain ⟨rfl, rfl, rfl⟩ := hg2
   match vs, ha with
   | [y], ha =>
     simp only [CnL, and_true] at ha
     rw [of_v ha]
     exact ⟨_, fun _ _ _ => ⟨rfl, rfl⟩, wb_at h1 hb _ hp.1.1 hp.1.2 hp.2⟩
   | [], ha => simp [CnL] at ha
   | _ :: _ :: _, ha => simp [CnL] at ha
 · simp only [reduceCtorEq] at hg
theorem ubyte3 : Tryz.prog.underlying 115 = some (.slice 5) := by kernel_rfl
theorem infB3 : (Tryz.prog.info? 5).map (fun i => (i.zero, i.size, i.bytes)) = some (some (.int .u8 0), 1, 1) := by kernel_rfl
set_option maxHeartbeats 2000000 in
set_option maxRecDepth 100000 in
theorem ww_at {t b : Nat} {p v : Value} {bs : List UInt8} (ht : bldT t = true) {w : World} (h : BldAt w t 5 b p v bs) (A : Option Addr) (k cap : Nat) (l : List UInt8) (hl : l.length = k) (hA : ∀ j u, (byteVals l)[j]? = some u → ∃ ad, A = some ad ∧ w.cell? (ad.add j) = some u ∧ (ad.add j).block ≠ b ∧ some (ad.add j).block ≠ v.ownBlock) (hlen : bs.length + k ≤ 140737488355328) :
   Calls Tryz.prog 172 #[.pointer (some ⟨b, 0, none⟩), .slice A k cap] w fun e w' => e = .returned (.tuple #[.int .i64 k, .nilIface]) ∧ BldTo w w' t 5 b v (bs ++ l) := by
 obtain ⟨i0, hi, hz0, hz1, hz2⟩ := info_parts infB3
 go_enter Tryz.func172, Tryz.ntmps172
 go_wp2_with (go_at_call 123; refine (cc_at ht h).mono ?_)
 rintro e w1 ⟨rfl, hb1, h1⟩
 have c0 : w1.cell? ⟨b, 0, none⟩ = some (.pointer (some ⟨b, 0, none⟩)) := by rw [Lib.cell_of_heap h1.blk]; rfl
 have c1 : w1.cell? ⟨b, 1, none⟩ = some v := by rw [Lib.cell_of_heap h1.blk]; rfl
 have hA1 : ∀ j u, (byteVals l)[j]? = some u → ∃ ad, A = some ad ∧ w1.cell? (ad.add j) = some u := by
   intro j u hj
   obtain ⟨ad, e1, e2, e3, e4⟩ := hA j u hj
   exact ⟨ad, e1, by rw [World.cell?_of_block (hb1.block _ (cell_lt e2) e3 e4)]; exact e2⟩
 clear hA
 go_wp2_with (at_builtin; refine wpList_app (t := 115) rfl rfl ubyte3 hi hz0 hz1 hz2 rfl h1.own (A := A) (k := k) (cap := cap) rfl (news := byteVals l) (by rw [byteVals_len]; exact hl) hA1 ?c2 ?c4 ?_)
 case c2 => intro u hu; simp only [byteVals, List.mem_map] at hu; obtain ⟨x, _, rfl⟩ := hu; rfl
 case c4 => omega
 intro v' w2 hown' hgrow hv
 have hlt : b < w1.heap.size := (Array.getElem?_eq_some_iff.1 h1.blk).1
 have hb2 : w2.heap[b]? = some (.cells #[.pointer (some ⟨b, 0, none⟩), v] t (0, 0)) := by
   rw [hgrow.block b hlt (fun e => h1.ne e.symm)]
   exact h1.blk
 have d0 : w2.cell? ⟨b, 0, none⟩ = some (.pointer (some ⟨b, 0, none⟩)) := by rw [Lib.cell_of_heap hb2]; rfl
 have d1 : w2.cell? ⟨b, 1, none⟩ = some v := by rw [Lib.cell_of_heap hb2]; rfl
 have f1 : w2.frozen? ⟨b, 1, none⟩ = false := Lib.frozen_of_heap hb2 1
 have hfin := BldAt.wrote hb1 h1 (bs' := bs ++ l) (by rw [show byteVals (bs ++ l) = byteVals bs ++ byteVals l by simp [byteVals]]; simpa [hl] using hown') hgrow hv
 obtain ⟨ao, n', cap, rfl⟩ : ∃ ao n' cap, v' = .slice ao n' cap := by
   rcases hown'.2 with ⟨hv, _⟩ | ⟨g, cap, cur, hv, _⟩
   · exact ⟨_, _, _, hv⟩
   · exact ⟨_, _, _, hv⟩
 clear hA1
 go_wp2
 go_ret2
 exact ⟨rfl, hfin⟩
def gWW : List SV → Nat → Nat → List UInt8 → Option (Prop × SV × List UInt8)
 | [.d (.sl rows)], t, u, bs => (bytesOf rows).bind fun l => if bldT t = true ∧ u = 5 then some (bs.length + rows.length ≤ 140737488355328 ∧ bytesIn rows, .tup [.d (.v (.int .i64 rows.length)), .d (.v .nilIface)], bs ++ l) else none
 | _, _, _, _ => none
theorem sWW {G : World → Prop} : Sound G Tryz.prog 172 (bldC gWW) := by
 refine bld_sound ⟨Tryz.f172, by kernel_rfl, by kernel_rfl, by kernel_rfl⟩ ?_
 intro args t u bs p x bs' hg hp w b q v hb c m vs hc ha
 unfold gWW at hg
 split at hg
 · obtain ⟨l, hl, hg⟩ := Option.bind_eq_some_iff.1 hg
   obtain ⟨⟨h1, rfl⟩, hg2⟩ := Option.ite_none_right_eq_some.1 hg
   simp only [Option.some.injEq, Prod.mk.injEq] at hg2
   obtain ⟨rfl, rfl, rfl⟩ := hg2
   match vs, ha with
   | [y], ha =>
     simp only [CnL, and_true] at ha
     obtain ⟨A, cap, rfl, hlc, hrows⟩ := sl_bytes hp.2 hl ha
     exact ⟨_, fun m n c => by simp only [Cn]; exact ⟨_, rfl, by simp only [CnL, Cn, and_true]; exact ⟨⟨rfl, rfl⟩, ⟨rfl, rfl⟩⟩⟩, ww_at h1 hb A _ cap l hlc (fun j u hj => by
       obtain ⟨ad, e1, e2⟩ := hrows j u hj
       exact ⟨ad, e1, hc _ _ e2⟩) hp.1⟩
   | [], ha => simp [CnL] at ha
   | _ :: _ :: _, ha => simp [CnL] at ha
 · simp only [reduceCtorEq] at hg
end Go.Proofs.YtlghobefhmpfkaaGreatDoor
namespace Go.Proofs.YtlghobefhmpfkaaGreatDoor
open Go Go.Ev
set_option maxRecDepth 100000
variable {G : World → Prop}
def qb (c : UInt8) : List UInt8 := if plainB c.toNat = true then [c] else [92, hexs.getD (c.toNat / 16) 0, hexs.getD (c.toNat % 16) 0]
def quo (l : List UInt8) : List UInt8 := 34 :: l.flatMap qb ++ [34]
theorem qb_len (c : UInt8) : (qb c).length ≤ 3 := by unfold qb; split <;> simp
theorem quo_len (l : List UInt8) : (quo l).length ≤ 3 * l.length + 2 := by
 unfold quo
 have : ∀ l : List UInt8, (l.flatMap qb).length ≤ 3 * l.length := by
   intro l
   induction l with
   | nil => simp
   | cons c r ih => have := qb_len c; simp only [List.flatMap_cons, List.length_append, List.length_cons]; omega
 have := this l
 simp only [List.length_append, List.length_cons, List.length_nil]; omega
def C124 : Contract := pureC fun args => match args with
 | [.d (.v (.string s))] => some (s.size ≤ 1099511627776, .d (.v (str (quo s.data.toList))))
 | _ => none
theorem take_snoc (l : List UInt8) (i : Nat) (h : i < l.length) : l.take (i + 1) = l.take i ++ [l.getD i 0] := by
 rw [List.take_succ_eq_append_getElem h]
 simp [List.getD_eq_getElem?_getD, List.getElem?_eq_getElem h]
theorem nib_hi (c : UInt8) : ((c.toNat : Nat) : Int).fdiv (2 ^ min 4 IntKind.u8.bits) = ((c.toNat / 16 : Nat) : Int) := by
 have : ∀ n : Fin 256, ((n.val : Nat) : Int).fdiv (2 ^ min 4 IntKind.u8.bits) = ((n.val / 16 : Nat) : Int) := by decide +kernel
 exact this ⟨c.toNat, c.toNat_lt⟩
theorem nib_lo (c : UInt8) : IntKind.u8.wrap ((BitVec.ofInt IntKind.u8.bits ((c.toNat : Nat) : Int) &&& BitVec.ofInt IntKind.u8.bits 15).toNat : Int) = ((c.toNat % 16 : Nat) : Int) := by
 have : ∀ n : Fin 256, IntKind.u8.wrap ((BitVec.ofInt IntKind.u8.bits ((n.val : Nat) : Int) &&& BitVec.ofInt IntKind.u8.bits 15).toNat : Int) = ((n.val % 16 : Nat) : Int) := by decide +kernel
 exact this ⟨c.toNat, c.toNat_lt⟩
theorem flat_len (q : List UInt8) (i : Nat) : ((q.take i).flatMap qb).length ≤ 3 * q.length := by
 have h := quo_len (q.take i)
 unfold quo at h
 simp only [List.length_append, List.length_cons, List.length_nil, List.length_take] at h
 omega
theorem flat_snoc (q : List UInt8) (i : Nat) (h : i < q.length) : (q.take (i + 1)).flatMap qb = (q.take i).flatMap qb ++ qb (q.getD i 0) := by
 rw [take_snoc q i h, List.flatMap_append]; simp
theorem s124 : Sound G Tryz.prog 124 C124 := by
 refine sd124 (T := tabT [(171, C171), (170, bldC gWB), (172, bldC gWW), (70, strC 5)]) (tab_cons s171 (tab_cons sWB (tab_cons sWW (tab_cons sST tab_nil)))) (pureC_lawful _) (pure_hX fun args p x K h hp hk => ?_)
 split at h <;> simp only [Option.some.injEq, Prod.mk.injEq, reduceCtorEq] at h
 obtain ⟨rfl, rfl⟩ := h
 refine ⟨Nat.le_of_ble_eq_true rfl, ?_⟩
 rename_i s
 obtain ⟨q, rfl⟩ := ex_str s
 simp only [sem_str] at hk hp
 simp -dsimp -implicitDefEqProofs only [S124, R124, C171, gWB, gWW, bldT, ↓Ev.xStp_eq, ↓Ev.P, Ev.Q, Ev.Z, simprocAttr]
 refine xLoop_intro (fun n st => ∃ i : Nat, i ≤ q.length ∧ n = q.length - i ∧
     st = ⟨[(0, .d (.v (.string ⟨q.toArray⟩))), (3, .ptr 0 0), (8, .d (.v (.int .i64 q.length))), (9, .d (.v (.int .i64 i)))], 1, [(0, .bld 117 5 (34 :: (q.take i).flatMap qb))]⟩) q.length [0] ?_ ?_ ?_
 · simp -dsimp -implicitDefEqProofs only [↓Ev.xStp_eq, ↓Ev.P, Ev.Q, Ev.Z, simprocAttr]
 · simp -dsimp -implicitDefEqProofs only [↓Ev.xStp_eq, ↓Ev.P, Ev.Q, Ev.Z, simprocAttr]
   refine ⟨0, by omega, by omega, rfl⟩
 · rintro n st ⟨i, hi, hn, rfl⟩
   have hf := flat_len q i
   have hb := (q.getD i 0).toNat_lt
   simp -dsimp -implicitDefEqProofs only [C171, gWB, gWW, bldT, nib_hi, nib_lo, ↓Ev.xStp_eq, ↓Ev.P, Ev.Q, Ev.Z, simprocAttr]
   repeat' (first | refine And.intro ?_ ?_ | intro _)
   all_goals try omega
   · rename_i hl hp
     refine xAgain_intro (q.length - (i + 1)) [0] (by omega) (by simp -dsimp -implicitDefEqProofs only [↓Ev.xStp_eq, ↓Ev.P, Ev.Q, Ev.Z, simprocAttr]) ⟨i + 1, by omega, rfl, ?_⟩
     rw [flat_snoc q i (by omega), qb, if_pos hp]
     simp -dsimp -implicitDefEqProofs only [↓Ev.xStp_eq, ↓Ev.P, Ev.Q, Ev.Z, simprocAttr]
     simp
   · rename_i hl hp
     refine xAgain_intro (q.length - (i + 1)) [0] (by omega) (by simp -dsimp -implicitDefEqProofs only [↓Ev.xStp_eq, ↓Ev.P, Ev.Q, Ev.Z, simprocAttr]) ⟨i + 1, by omega, rfl, ?_⟩
     rw [flat_snoc q i (by omega), qb, if_neg (by rw [hp]; exact Bool.false_ne_true)]
     simp -dsimp -implicitDefEqProofs only [↓Ev.xStp_eq, ↓Ev.P, Ev.Q, Ev.Z, simprocAttr]
     simp
   · rename_i hl
     rw [List.take_of_length_le (by omega)]
     exact hk
def oddB (c : UInt8) : Bool := decide ((c.toNat : Int) < 33) || decide (126 < (c.toNat : Int)) || decide ((c.toNat : Int) = 34)
abbrev nowh : List UInt8 := [47, 100, 101, 118, 47, 110, 117, 108, 108]
def nameS (l : List UInt8) : List UInt8 := if l = [] then nowh else if l = nowh ∨ l.any oddB = true then quo l else l
def decS (l : List UInt8) : List UInt8 := if l = nowh then [] else match l with
 | 34 :: _ => ((unqL l).map (·.1)).getD []
 | _ => l
def namedS (l : List UInt8) : List UInt8 × Int := if 64 < (decS l).length ∨ nameS (decS l) ≠ l then ([], 253) else (decS l, 0)
theorem oct_all (c : UInt8) (h : plainB c.toNat = false) : oct2 (hexs.getD (c.toNat / 16) 0 :: hexs.getD (c.toNat % 16) 0 :: []) = ((c.toNat : Int), true) := by
 have : ∀ n : Fin 256, plainB ((n.val : Nat) : Int) = false → oct2 (hexs.getD (n.val / 16) 0 :: hexs.getD (n.val % 16) 0 :: []) = (((n.val : Nat) : Int), true) := by decide +kernel
 exact this ⟨c.toNat, c.toNat_lt⟩ h
theorem oct_more (a b : UInt8) (r : List UInt8) : oct2 (a :: b :: r) = oct2 (a :: b :: []) := rfl
theorem unq_quo : ∀ (l out rest : List UInt8), unq (l.flatMap qb ++ 34 :: rest) out = some (out ++ l, rest)
 | [], out, rest => by simp [unq_end]
 | c :: l, out, rest => by
   have ih := unq_quo l (out ++ [c]) rest
   simp only [List.flatMap_cons]
   by_cases hp : plainB c.toNat = true
   · have e : qb c = [c] := by unfold qb; rw [if_pos hp]
     have h34 : c ≠ 34 := by rintro rfl; revert hp; decide
     rw [e, List.cons_append, List.cons_append, List.nil_append, unq_plain _ _ h34 hp, ih]
     simp
   · have e : qb c = [92, hexs.getD (c.toNat / 16) 0, hexs.getD (c.toNat % 16) 0] := by unfold qb; rw [if_neg hp]
     have hp' : plainB c.toNat = false := by simpa using hp
     have h2 := oct_all c hp'
     have h3 := unq_oct (hexs.getD (c.toNat / 16) 0 :: hexs.getD (c.toNat % 16) 0 :: (l.flatMap qb ++ 34 :: rest)) out (by rw [oct_more, h2])
     rw [e]
     simp only [List.cons_append, List.nil_append]
     rw [h3.2.1, oct_more, h2]
     simp only [List.drop_succ_cons, List.drop_zero, Int.toNat_natCast, UInt8.ofNat_toNat]
     rw [ih]; simp
theorem unqL_quo (l rest : List UInt8) : unqL (quo l ++ rest) = some (l, rest) := by
 show unqL (34 :: (l.flatMap qb ++ [34]) ++ rest) = _
 rw [List.cons_append, unqL, List.append_assoc]
 exact unq_quo l [] rest
theorem unq_len : ∀ (n : Nat) (l out o r : List UInt8), l.length ≤ n → unq l out = some (o, r) → o.length ≤ out.length + l.length
 | n, [], out, o, r, hn, h => by rw [unq] at h; cases h
 | 0, c :: l, out, o, r, hn, h => by simp at hn
 | n + 1, c :: l, out, o, r, hn, h => by
   simp only [List.length_cons] at hn ⊢
   rw [unq] at h
   split at h
   · simp only [Option.some.injEq, Prod.mk.injEq] at h; obtain ⟨rfl, _⟩ := h; omega
   · split at h
     · have := unq_len n l _ o r (by omega) h
       simp only [List.length_append, List.length_cons, List.length_nil] at this; omega
     · split at h
       · have := unq_len n (l.drop 2) _ o r (by simp; omega) h
         simp only [List.length_append, List.length_cons, List.length_nil, List.length_drop] at this; omega
       · cases h
theorem unqL_len {l o r : List UInt8} (h : unqL l = some (o, r)) : o.length ≤ l.length := by
 unfold unqL at h
 split at h
 · have := unq_len _ _ _ _ _ (Nat.le_refl _) h; simp at this ⊢; omega
 · cases h
theorem decS_len (l : List UInt8) : (decS l).length ≤ l.length := by
 unfold decS
 split
 · simp
 · split
   · cases h : unqL (34 :: _) with
     | none => simp
     | some z => obtain ⟨o, r⟩ := z; simpa using unqL_len h
   · exact Nat.le_refl _
theorem nameS_len (l : List UInt8) : (nameS l).length ≤ 3 * l.length + 9 := by
 unfold nameS
 split
 · simp
 · split
   · have := quo_len l; omega
   · omega
theorem odd34 {l : List UInt8} (h : l.any oddB = false) : ∀ r, l ≠ 34 :: r := by
 rintro r rfl
 simp [oddB] at h
theorem dec_name (l : List UInt8) : decS (nameS l) = l := by
 unfold nameS
 split
 · rename_i h; subst h; simp [decS]
 · rename_i h0
   split
   · have hq : quo l = 34 :: (l.flatMap qb ++ [34]) := rfl
     have hu := unqL_quo l []
     rw [List.append_nil] at hu
     unfold decS
     rw [if_neg (by rw [hq]; simp)]
     rw [hq] at hu ⊢
     simp only [hu]; rfl
   · rename_i h
     have h1 : l ≠ nowh := fun e => h (.inl e)
     have h2 : l.any oddB = false := by simpa using fun e => h (.inr e)
     unfold decS
     rw [if_neg h1]
     split
     · rename_i r; exact absurd rfl (odd34 h2 r)
     · rfl
theorem named_name (l : List UInt8) : namedS (nameS l) = if 64 < l.length then ([], 253) else (l, 0) := by
 unfold namedS
 rw [dec_name]
 simp
def C68 : Contract := pureC fun args => match args with
 | [.d (.v (.string s))] => some (s.size ≤ 1099511627776, .d (.v (str (nameS s.data.toList))))
 | _ => none
theorem any_snoc (q : List UInt8) (i : Nat) (h : i < q.length) : (q.take (i + 1)).any oddB = ((q.take i).any oddB || oddB (q.getD i 0)) := by
 rw [take_snoc q i h]; simp
theorem s68 : Sound G Tryz.prog 68 C68 := by
 refine sd68 (T := tabT [(124, C124)]) (tab_cons s124 tab_nil) (pureC_lawful _) (pure_hX fun args p x K h hp hk => ?_)
 split at h <;> simp only [Option.some.injEq, Prod.mk.injEq, reduceCtorEq] at h
 obtain ⟨rfl, rfl⟩ := h
 refine ⟨Nat.le_of_ble_eq_true rfl, ?_⟩
 rename_i s
 obtain ⟨q, rfl⟩ := ex_str s
 simp only [sem_str] at hk hp
 simp -dsimp -implicitDefEqProofs only [S68, R68, C124, ↓Ev.xStp_eq, ↓Ev.P, Ev.Q, Ev.Z, simprocAttr]
 refine xLoop_intro (fun n st => ∃ i : Nat, i ≤ q.length ∧ n = q.length - i ∧
     st = ⟨[(0, .d (.v (.string ⟨q.toArray⟩))), (3, .d (.v (.bool (decide (q = nowh) || (q.take i).any oddB)))), (8, .d (.v (.int .i64 q.length))), (9, .d (.v (.int .i64 i)))], 0, []⟩) q.length [] ?_ ?_ ?_
 · simp -dsimp -implicitDefEqProofs only [↓Ev.xStp_eq, ↓Ev.P, Ev.Q, Ev.Z, simprocAttr]
 · simp -dsimp -implicitDefEqProofs only [↓Ev.xStp_eq, ↓Ev.P, Ev.Q, Ev.Z, simprocAttr]
   refine ⟨0, by omega, by omega, by simp⟩
 · rintro n st ⟨i, hi, hn, rfl⟩
   simp -dsimp -implicitDefEqProofs only [C124, ↓Ev.xStp_eq, ↓Ev.P, Ev.Q, Ev.Z, simprocAttr]
   repeat' (first | with_reducible assumption | (with_reducible refine And.left (b := _) ?_; with_reducible assumption) | refine And.intro ?_ ?_ | intro _)
   all_goals try omega
   · rename_i hl
     refine xAgain_intro (q.length - (i + 1)) [] (by omega) (by simp -dsimp -implicitDefEqProofs only [↓Ev.xStp_eq, ↓Ev.P, Ev.Q, Ev.Z, simprocAttr]) ⟨i + 1, by omega, rfl, ?_⟩
     rw [any_snoc q i (by omega)]
     simp -dsimp -implicitDefEqProofs only [↓Ev.xStp_eq, ↓Ev.P, Ev.Q, Ev.Z, simprocAttr]
     simp [oddB, Bool.or_assoc]
   · rename_i hl h0
     have : nameS q = nowh := by rw [h0]; rfl
     rw [this] at hk; exact hk
   · rename_i hl h0 h1
     rw [List.take_of_length_le (by omega)] at h1
     have : nameS q = quo q := by rw [nameS, if_neg h0, if_pos h1]
     rw [this] at hk; exact hk
   · rename_i hl h0 h1
     rw [List.take_of_length_le (by omega)] at h1
     have : nameS q = q := by rw [nameS, if_neg h0, if_neg (by rintro (h | h); exact h1.1 h; rw [h] at h1; exact absurd h1.2 (by decide))]
     rw [this] at hk; exact hk
end Go.Proofs.YtlghobefhmpfkaaGreatDoor
