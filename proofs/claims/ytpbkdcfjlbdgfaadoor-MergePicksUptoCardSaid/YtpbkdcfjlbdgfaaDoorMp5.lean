/- What settles conflicts in a merged text is what the reference does: for every text, whatever names, within the bulk that the row allows. Part 5 of 5. -/
import Derived.Test.YtpbkdcfjlbdgfaaDoorProg
import Derived.WalkKit
import Derived.LaidEql
import Derived.Stop.Asserts
import Derived.RowKitTokens
import Derived.Below
import Derived.RegionTactic
import Derived.ChangeAlike
import Derived.Test.YtpbkdcfjlbdgfaaDoorRows
import Derived.Test.YtpbkdcfjlbdgfaaDoorCards
import Derived.Test.YtpbkdcfjlbdgfaaDoorTie
import Derived.Deep.Fields
import Derived.ChangeSame
import Derived.JoinedCond
import Derived.ProofKit
import Derived.Deep.DeepHandedRow
import Derived.LaidLaws
import Derived.LaidHandle
import Derived.Stop.LaidErr
import Derived.Stop.Joined
import Derived.SevenTiedAt
import Derived.Test.YtpbkdcfjlbdgfaaDoorMp1
import Derived.Test.YtpbkdcfjlbdgfaaDoorMp2
import Derived.Test.YtpbkdcfjlbdgfaaDoorMp3
import Derived.Test.YtpbkdcfjlbdgfaaDoorMp4
set_option linter.unusedVariables false
set_option linter.unusedSimpArgs false
/-! errors.As at two concrete targets: *api.Fault and api.Errno (the facts and the walk after the kit's worked toy 'toyas'; printed by as.py). -/
namespace Go.Proofs.YtpbkdcfjlbdgfaaDoor
open Go.RowKit Go.Extern.Stop Go.Stop Go.Extern Go
/-- What errors.As reads of errors.errorType. -/
def ErrT (w : World) : Prop := w.cell? ⟨0, 0, none⟩ = some (.iface 186 (.agg #[.pointer (some ⟨9, 47, none⟩)]))
theorem rlm (z : Sem Value) (f : TypeId → Addr → Nat → Nat → Sem Value) (v : Value) :
    ReflectliteValue.method z f #[v] = (do match ← ReflectliteValue.parts v with | none => z | some (t, a, fl) => f t a fl (fl % 32)) := rfl
theorem rls (v x : Value) : ReflectliteValue.set #[v, x] = (do
    let (some (dst, a, fl), some (src, b, _)) := (← ReflectliteValue.parts v, ← ReflectliteValue.parts x)
      | unsupported (.noEntry "extern/(internal/reflectlite.Value).Set.zeroValue")
    if fl / ReflectliteValue.flagAddr % 2 == 0 then unsupported (.noEntry "extern/(internal/reflectlite.Value).Set.unaddressable")
    let val ← loadVar src b
    if ← Rtype.directlyAssignable dst src then storeVar dst a val
    else if ← Rtype.implements dst src then
      if (← Rtype.kind src) == 20 then
        match val with
        | .nilIface => unsupported (.noEntry "extern/reflectlite: a nil value of one interface type handed on as a value of another")
        | _ => storeVar dst a val
      else storeVar dst a (.iface src val)
    else panicString ("reflectlite.Set: value of type " ++ (← Rtype.spelt src) ++ " is not assignable to type " ++ (← Rtype.spelt dst))
    pure (.tuple #[])) := rfl
theorem mKind (h : Value) (w : World) : (Go.method 364 186 (.agg #[h]) "Kind").run Tryd.prog w = .ok (218, h) w := by kernel_rfl
theorem mElem (h : Value) (w : World) : (Go.method 364 186 (.agg #[h]) "Elem").run Tryd.prog w = .ok (234, .agg #[h]) w := by kernel_rfl
theorem mImplements (h : Value) (w : World) : (Go.method 364 186 (.agg #[h]) "Implements").run Tryd.prog w = .ok (235, .agg #[h]) w := by kernel_rfl
theorem mAssignableTo (h : Value) (w : World) : (Go.method 364 186 (.agg #[h]) "AssignableTo").run Tryd.prog w = .ok (232, .agg #[h]) w := by kernel_rfl
/-! errors.As at a target of type flt -/
theorem valueOfP_flt (t : Addr) (w : World) : (ReflectliteValue.unpack (.iface 110 (.pointer (some t)))).run Tryd.prog w
    = .ok (.agg #[.pointer (some ⟨9, 110, none⟩), .pointer (some ⟨w.heap.size, 0, none⟩), .int .u64 150]) (w.alloc (.cells #[.pointer (some t)] 110)) := by kernel_rfl
theorem typeP_flt (t : Addr) (w : World) : (ReflectliteValue.methodAny (ReflectliteValue.valueError "reflectlite.Value.Type" 0) (fun t _ _ _ => ReflectliteType.toType t) #[.agg #[.pointer (some ⟨9, 110, none⟩), .pointer (some t), .int .u64 150]]).run Tryd.prog w
    = .ok (.iface 186 (.agg #[.pointer (some ⟨9, 110, none⟩)])) w := by kernel_rfl
theorem kindP_flt (w : World) : ((ReflectliteType.abiMethod fun t => (fun a : Nat => Value.int IntKind.u8 (a : Int)) <$> Rtype.kind t) #[.pointer (some ⟨9, 110, none⟩)]).run Tryd.prog w = .ok (.int .u8 22) w := by kernel_rfl
theorem kindE_flt (w : World) : ((ReflectliteType.abiMethod fun t => (fun a : Nat => Value.int IntKind.u8 (a : Int)) <$> Rtype.kind t) #[.pointer (some ⟨9, 104, none⟩)]).run Tryd.prog w = .ok (.int .u8 22) w := by kernel_rfl
theorem partsP_flt (a : Addr) (w : World) : (ReflectliteValue.parts (.agg #[.pointer (some ⟨9, 110, none⟩), .pointer (some a), .int .u64 150])).run Tryd.prog w = .ok (some (110, a, 150)) w := by kernel_rfl
theorem isNilP_flt (a p : Addr) (W : World) (ha : W.cell? a = some (.pointer (some p))) :
    (ReflectliteValue.method (ReflectliteValue.valueError "reflectlite.Value.IsNil" 0) ReflectliteValue.isNil #[.agg #[.pointer (some ⟨9, 110, none⟩), .pointer (some a), .int .u64 150]]).run Tryd.prog W = .ok (.bool false) W := by
  rw [rlm]
  simp only [Sem.run_bind, partsP_flt, Result.andThen]
  simp [ReflectliteValue.isNil, loadVar, isAgg, underlying, Tryd.underlying110, ha, Result.andThen]
theorem elemP_flt (w : World) : (ReflectliteType.method ReflectliteType.elem #[.agg #[.pointer (some ⟨9, 110, none⟩)]]).run Tryd.prog w = .ok (.iface 186 (.agg #[.pointer (some ⟨9, 104, none⟩)])) w := by kernel_rfl
theorem implE_flt (w : World) : (ReflectliteType.relation "Implements" ReflectliteType.implements_ #[.agg #[.pointer (some ⟨9, 104, none⟩)], .iface 186 (.agg #[.pointer (some ⟨9, 47, none⟩)])]).run Tryd.prog w = .ok (.bool true) w := by kernel_rfl
theorem typeOf_flt (v : Value) (w : World) : (ReflectliteType.typeOf #[.iface 104 v]).run Tryd.prog w = .ok (.iface 186 (.agg #[.pointer (some ⟨9, 104, none⟩)])) w := by kernel_rfl
theorem assign_flt (w : World) : (ReflectliteType.relation "AssignableTo" ReflectliteType.assignableTo #[.agg #[.pointer (some ⟨9, 104, none⟩)], .iface 186 (.agg #[.pointer (some ⟨9, 104, none⟩)])]).run Tryd.prog w = .ok (.bool true) w := by kernel_rfl
theorem valueOf_flt (e : Addr) (w : World) : (ReflectliteValue.unpack (.iface 104 (.pointer (some e)))).run Tryd.prog w
    = .ok (.agg #[.pointer (some ⟨9, 104, none⟩), .pointer (some ⟨w.heap.size, 0, none⟩), .int .u64 150]) (w.alloc (.cells #[(.pointer (some e))] 104)) := by kernel_rfl
theorem elemOf_flt (w : World) : (Rtype.elem? 110).run Tryd.prog w = .ok (some 104) w := by kernel_rfl
theorem mkE_flt (p : Addr) (w : World) : (ReflectliteValue.mk 104 p ReflectliteValue.flagAddr).run Tryd.prog w = .ok (.agg #[.pointer (some ⟨9, 104, none⟩), .pointer (some p), .int .u64 406]) w := by kernel_rfl
theorem elemV_flt (a p : Addr) (W : World) (ha : W.cell? a = some (.pointer (some p))) :
    (ReflectliteValue.method (ReflectliteValue.valueError "reflectlite.Value.Elem" 0) ReflectliteValue.elem #[.agg #[.pointer (some ⟨9, 110, none⟩), .pointer (some a), .int .u64 150]]).run Tryd.prog W
      = .ok (.agg #[.pointer (some ⟨9, 104, none⟩), .pointer (some p), .int .u64 406]) W := by
  rw [rlm]
  simp only [Sem.run_bind, partsP_flt, Result.andThen]
  simp [ReflectliteValue.elem, loadVar, isAgg, underlying, Tryd.underlying110, ha, Result.andThen, elemOf_flt, mkE_flt]
theorem partsA_flt (a : Addr) (w : World) : (ReflectliteValue.parts (.agg #[.pointer (some ⟨9, 104, none⟩), .pointer (some a), .int .u64 406])).run Tryd.prog w = .ok (some (104, a, 406)) w := by kernel_rfl
theorem partsB_flt (a : Addr) (w : World) : (ReflectliteValue.parts (.agg #[.pointer (some ⟨9, 104, none⟩), .pointer (some a), .int .u64 150])).run Tryd.prog w = .ok (some (104, a, 150)) w := by kernel_rfl
theorem direct_flt (w : World) : (Rtype.directlyAssignable 104 104).run Tryd.prog w = .ok true w := by kernel_rfl
theorem set_flt (ta b : Addr) (e : Addr) (old : Value) (W : World) (hb : W.cell? b = some (.pointer (some e))) (ht : W.cell? ta = some old) (hf : W.frozen? ta = false) :
    (ReflectliteValue.set #[.agg #[.pointer (some ⟨9, 104, none⟩), .pointer (some ta), .int .u64 406], .agg #[.pointer (some ⟨9, 104, none⟩), .pointer (some b), .int .u64 150]]).run Tryd.prog W
      = .ok (.tuple #[]) (W.setCell ta (.pointer (some e))) := by
  rw [rls]
  simp only [Sem.run_bind, partsA_flt, partsB_flt, Result.andThen]
  simp [ReflectliteValue.flagAddr, loadVar, isAgg, underlying, Tryd.underlying104, hb, Result.andThen, direct_flt, storeVar, Value.cells, storeCells, Addr.add]
  rw [run_store Tryd.prog W ta _ _ (by rfl)]
  simp [ht, hf]
set_option maxHeartbeats 4000000 in
theorem asHit_flt (e : Addr) (t : Addr) (old : Value) (w : World) (hg : ErrT w) (ht0 : w.cell? t = some old) (hf0 : w.frozen? t = false) :
    Calls Tryd.prog 87 #[.iface 104 (.pointer (some e)), .iface 110 (.pointer (some t))] w fun ev w' => ev = .returned (.bool true) ∧ w' = ((((w.alloc (.cells #[.pointer (some t)] 110)).alloc (.cells #[.pointer (some ⟨9, 110, none⟩), .pointer (some ⟨w.heap.size, 0, none⟩), .int .u64 150] 152)).alloc (.cells #[.pointer (some ⟨9, 110, none⟩), .pointer (some ⟨w.heap.size, 0, none⟩), .int .u64 150] 152)).alloc (.cells #[(.pointer (some e))] 104)).setCell t (.pointer (some e)) := by
  have h6 := @run_callFunc_extern Tryd.prog 130 _ (fun args => ReflectliteValue.unpack (args.getD 0 (.tuple #[]))) Tryd.func130 (by kernel_rfl) (by kernel_rfl) (by kernel_rfl) (by kernel_rfl)
  have h7 := @run_callFunc_extern Tryd.prog 131 _ (ReflectliteValue.methodAny (ReflectliteValue.valueError "reflectlite.Value.Type" 0) (fun t _ _ _ => ReflectliteType.toType t)) Tryd.func131 (by kernel_rfl) (by kernel_rfl) (by kernel_rfl) (by kernel_rfl)
  have h8 := @run_callFunc_extern Tryd.prog 132 _ (ReflectliteValue.method (ReflectliteValue.valueError "reflectlite.Value.IsNil" 0) ReflectliteValue.isNil) Tryd.func132 (by kernel_rfl) (by kernel_rfl) (by kernel_rfl) (by kernel_rfl)
  have h27 := @run_callFunc_extern Tryd.prog 218 _ (ReflectliteType.abiMethod fun t => do pure (.int .u8 (← Rtype.kind t))) Tryd.func218 (by kernel_rfl) (by kernel_rfl) (by kernel_rfl) (by kernel_rfl)
  have h37 := @run_callFunc_extern Tryd.prog 234 _ (ReflectliteType.method ReflectliteType.elem) Tryd.func234 (by kernel_rfl) (by kernel_rfl) (by kernel_rfl) (by kernel_rfl)
  have h38 := @run_callFunc_extern Tryd.prog 235 _ (ReflectliteType.relation "Implements" ReflectliteType.implements_) Tryd.func235 (by kernel_rfl) (by kernel_rfl) (by kernel_rfl) (by kernel_rfl)
  have h10 := @run_callFunc_extern Tryd.prog 164 _ ReflectliteType.typeOf Tryd.func164 (by kernel_rfl) (by kernel_rfl) (by kernel_rfl) (by kernel_rfl)
  have h35 := @run_callFunc_extern Tryd.prog 232 _ (ReflectliteType.relation "AssignableTo" ReflectliteType.assignableTo) Tryd.func232 (by kernel_rfl) (by kernel_rfl) (by kernel_rfl) (by kernel_rfl)
  have h11 := @run_callFunc_extern Tryd.prog 165 _ (ReflectliteValue.method (ReflectliteValue.valueError "reflectlite.Value.Elem" 0) ReflectliteValue.elem) Tryd.func165 (by kernel_rfl) (by kernel_rfl) (by kernel_rfl) (by kernel_rfl)
  have h12 := @run_callFunc_extern Tryd.prog 166 _ ReflectliteValue.set Tryd.func166 (by kernel_rfl) (by kernel_rfl) (by kernel_rfl) (by kernel_rfl)
  have f6 := valueOfP_flt
  have f7 := typeP_flt
  have tO := typeOf_flt
  have a25 := assign_flt
  have v25 := valueOf_flt
  have mA := mAssignableTo
  have mK := mKind
  have mE := mElem
  have mI := mImplements
  have k27 := kindP_flt
  have k25 := kindE_flt
  have e27 := elemP_flt
  have i25 := implE_flt
  have n8 := isNilP_flt ⟨w.heap.size, 0, none⟩ t ((w.alloc (.cells #[.pointer (some t)] 110)).alloc (.cells #[.pointer (some ⟨9, 110, none⟩), .pointer (some ⟨w.heap.size, 0, none⟩), .int .u64 150] 152)) (by simp)
  unfold ErrT at hg
  have hlt : 0 < w.heap.size := by
    rcases Nat.eq_zero_or_pos w.heap.size with h0 | h
    · simp [World.cell?, h0] at hg
    · exact h
  have hg2 : ((w.alloc (.cells #[.pointer (some t)] 110)).alloc (.cells #[.pointer (some ⟨9, 110, none⟩), .pointer (some ⟨w.heap.size, 0, none⟩), .int .u64 150] 152)).cell? ⟨0, 0, none⟩ = some (.iface 186 (.agg #[.pointer (some ⟨9, 47, none⟩)])) := by
    rw [World.cell?_alloc_lt _ _ ⟨0, 0, none⟩ (by simp), World.cell?_alloc_lt _ _ ⟨0, 0, none⟩ hlt]; exact hg
  have htl : t.block < w.heap.size := by
    rcases Nat.lt_or_ge t.block w.heap.size with h | h
    · exact h
    · simp [World.cell?, Array.getElem?_eq_none h] at ht0
  have el := elemV_flt ⟨w.heap.size, 0, none⟩ t (((w.alloc (.cells #[.pointer (some t)] 110)).alloc (.cells #[.pointer (some ⟨9, 110, none⟩), .pointer (some ⟨w.heap.size, 0, none⟩), .int .u64 150] 152)).alloc (.cells #[.pointer (some ⟨9, 110, none⟩), .pointer (some ⟨w.heap.size, 0, none⟩), .int .u64 150] 152)) (by rw [World.cell?_alloc_lt _ _ ⟨w.heap.size, 0, none⟩ (by simp; omega)]; simp)
  have st := set_flt t ⟨w.heap.size + 1 + 1 + 1, 0, none⟩ e old ((((w.alloc (.cells #[.pointer (some t)] 110)).alloc (.cells #[.pointer (some ⟨9, 110, none⟩), .pointer (some ⟨w.heap.size, 0, none⟩), .int .u64 150] 152)).alloc (.cells #[.pointer (some ⟨9, 110, none⟩), .pointer (some ⟨w.heap.size, 0, none⟩), .int .u64 150] 152)).alloc (.cells #[(.pointer (some e))] 104))
    (by rw [World.cell?_alloc_at _ _ _ _ (by simp)]; rfl)
    (by rw [World.cell?_alloc_lt _ _ t (by simp; omega), World.cell?_alloc_lt _ _ t (by simp; omega), World.cell?_alloc_lt _ _ t (by simp; omega), World.cell?_alloc_lt _ _ t htl]; exact ht0)
    (by rw [World.frozen?_alloc_old _ _ t (by simp; omega), World.frozen?_alloc_old _ _ t (by simp; omega), World.frozen?_alloc_old _ _ t (by simp; omega), World.frozen?_alloc_old _ _ t (Nat.ne_of_lt htl)]; exact hf0)
  go_enter Tryd.func87, Tryd.ntmps87
  go_wp2
  refine wp_loop_rounds 1 ?_
  rw [rounds_succ]
  go_wp2
  go_ret
  exact ⟨rfl, rfl⟩
/-! errors.As at a target of type errno -/
theorem valueOfP_errno (t : Addr) (w : World) : (ReflectliteValue.unpack (.iface 111 (.pointer (some t)))).run Tryd.prog w
    = .ok (.agg #[.pointer (some ⟨9, 111, none⟩), .pointer (some ⟨w.heap.size, 0, none⟩), .int .u64 150]) (w.alloc (.cells #[.pointer (some t)] 111)) := by kernel_rfl
theorem typeP_errno (t : Addr) (w : World) : (ReflectliteValue.methodAny (ReflectliteValue.valueError "reflectlite.Value.Type" 0) (fun t _ _ _ => ReflectliteType.toType t) #[.agg #[.pointer (some ⟨9, 111, none⟩), .pointer (some t), .int .u64 150]]).run Tryd.prog w
    = .ok (.iface 186 (.agg #[.pointer (some ⟨9, 111, none⟩)])) w := by kernel_rfl
theorem kindP_errno (w : World) : ((ReflectliteType.abiMethod fun t => (fun a : Nat => Value.int IntKind.u8 (a : Int)) <$> Rtype.kind t) #[.pointer (some ⟨9, 111, none⟩)]).run Tryd.prog w = .ok (.int .u8 22) w := by kernel_rfl
theorem kindE_errno (w : World) : ((ReflectliteType.abiMethod fun t => (fun a : Nat => Value.int IntKind.u8 (a : Int)) <$> Rtype.kind t) #[.pointer (some ⟨9, 24, none⟩)]).run Tryd.prog w = .ok (.int .u8 2) w := by kernel_rfl
theorem partsP_errno (a : Addr) (w : World) : (ReflectliteValue.parts (.agg #[.pointer (some ⟨9, 111, none⟩), .pointer (some a), .int .u64 150])).run Tryd.prog w = .ok (some (111, a, 150)) w := by kernel_rfl
theorem isNilP_errno (a p : Addr) (W : World) (ha : W.cell? a = some (.pointer (some p))) :
    (ReflectliteValue.method (ReflectliteValue.valueError "reflectlite.Value.IsNil" 0) ReflectliteValue.isNil #[.agg #[.pointer (some ⟨9, 111, none⟩), .pointer (some a), .int .u64 150]]).run Tryd.prog W = .ok (.bool false) W := by
  rw [rlm]
  simp only [Sem.run_bind, partsP_errno, Result.andThen]
  simp [ReflectliteValue.isNil, loadVar, isAgg, underlying, Tryd.underlying111, ha, Result.andThen]
theorem elemP_errno (w : World) : (ReflectliteType.method ReflectliteType.elem #[.agg #[.pointer (some ⟨9, 111, none⟩)]]).run Tryd.prog w = .ok (.iface 186 (.agg #[.pointer (some ⟨9, 24, none⟩)])) w := by kernel_rfl
theorem implE_errno (w : World) : (ReflectliteType.relation "Implements" ReflectliteType.implements_ #[.agg #[.pointer (some ⟨9, 24, none⟩)], .iface 186 (.agg #[.pointer (some ⟨9, 47, none⟩)])]).run Tryd.prog w = .ok (.bool true) w := by kernel_rfl
theorem typeOf_errno (v : Value) (w : World) : (ReflectliteType.typeOf #[.iface 24 v]).run Tryd.prog w = .ok (.iface 186 (.agg #[.pointer (some ⟨9, 24, none⟩)])) w := by kernel_rfl
theorem assign_errno (w : World) : (ReflectliteType.relation "AssignableTo" ReflectliteType.assignableTo #[.agg #[.pointer (some ⟨9, 24, none⟩)], .iface 186 (.agg #[.pointer (some ⟨9, 24, none⟩)])]).run Tryd.prog w = .ok (.bool true) w := by kernel_rfl
theorem valueOf_errno (e : Int) (w : World) : (ReflectliteValue.unpack (.iface 24 (.int .i64 e))).run Tryd.prog w
    = .ok (.agg #[.pointer (some ⟨9, 24, none⟩), .pointer (some ⟨w.heap.size, 0, none⟩), .int .u64 130]) (w.alloc (.cells #[(.int .i64 e)] 24)) := by kernel_rfl
theorem elemOf_errno (w : World) : (Rtype.elem? 111).run Tryd.prog w = .ok (some 24) w := by kernel_rfl
theorem mkE_errno (p : Addr) (w : World) : (ReflectliteValue.mk 24 p ReflectliteValue.flagAddr).run Tryd.prog w = .ok (.agg #[.pointer (some ⟨9, 24, none⟩), .pointer (some p), .int .u64 386]) w := by kernel_rfl
theorem elemV_errno (a p : Addr) (W : World) (ha : W.cell? a = some (.pointer (some p))) :
    (ReflectliteValue.method (ReflectliteValue.valueError "reflectlite.Value.Elem" 0) ReflectliteValue.elem #[.agg #[.pointer (some ⟨9, 111, none⟩), .pointer (some a), .int .u64 150]]).run Tryd.prog W
      = .ok (.agg #[.pointer (some ⟨9, 24, none⟩), .pointer (some p), .int .u64 386]) W := by
  rw [rlm]
  simp only [Sem.run_bind, partsP_errno, Result.andThen]
  simp [ReflectliteValue.elem, loadVar, isAgg, underlying, Tryd.underlying111, ha, Result.andThen, elemOf_errno, mkE_errno]
theorem partsA_errno (a : Addr) (w : World) : (ReflectliteValue.parts (.agg #[.pointer (some ⟨9, 24, none⟩), .pointer (some a), .int .u64 386])).run Tryd.prog w = .ok (some (24, a, 386)) w := by kernel_rfl
theorem partsB_errno (a : Addr) (w : World) : (ReflectliteValue.parts (.agg #[.pointer (some ⟨9, 24, none⟩), .pointer (some a), .int .u64 130])).run Tryd.prog w = .ok (some (24, a, 130)) w := by kernel_rfl
theorem direct_errno (w : World) : (Rtype.directlyAssignable 24 24).run Tryd.prog w = .ok true w := by kernel_rfl
theorem set_errno (ta b : Addr) (e : Int) (old : Value) (W : World) (hb : W.cell? b = some (.int .i64 e)) (ht : W.cell? ta = some old) (hf : W.frozen? ta = false) :
    (ReflectliteValue.set #[.agg #[.pointer (some ⟨9, 24, none⟩), .pointer (some ta), .int .u64 386], .agg #[.pointer (some ⟨9, 24, none⟩), .pointer (some b), .int .u64 130]]).run Tryd.prog W
      = .ok (.tuple #[]) (W.setCell ta (.int .i64 e)) := by
  rw [rls]
  simp only [Sem.run_bind, partsA_errno, partsB_errno, Result.andThen]
  simp [ReflectliteValue.flagAddr, loadVar, isAgg, underlying, Tryd.underlying24, hb, Result.andThen, direct_errno, storeVar, Value.cells, storeCells, Addr.add]
  rw [run_store Tryd.prog W ta _ _ (by rfl)]
  simp [ht, hf]
set_option maxHeartbeats 4000000 in
theorem asHit_errno (e : Int) (t : Addr) (old : Value) (w : World) (hg : ErrT w) (ht0 : w.cell? t = some old) (hf0 : w.frozen? t = false) :
    Calls Tryd.prog 87 #[.iface 24 (.int .i64 e), .iface 111 (.pointer (some t))] w fun ev w' => ev = .returned (.bool true) ∧ w' = ((((w.alloc (.cells #[.pointer (some t)] 111)).alloc (.cells #[.pointer (some ⟨9, 111, none⟩), .pointer (some ⟨w.heap.size, 0, none⟩), .int .u64 150] 152)).alloc (.cells #[.pointer (some ⟨9, 111, none⟩), .pointer (some ⟨w.heap.size, 0, none⟩), .int .u64 150] 152)).alloc (.cells #[(.int .i64 e)] 24)).setCell t (.int .i64 e) := by
  have h6 := @run_callFunc_extern Tryd.prog 130 _ (fun args => ReflectliteValue.unpack (args.getD 0 (.tuple #[]))) Tryd.func130 (by kernel_rfl) (by kernel_rfl) (by kernel_rfl) (by kernel_rfl)
  have h7 := @run_callFunc_extern Tryd.prog 131 _ (ReflectliteValue.methodAny (ReflectliteValue.valueError "reflectlite.Value.Type" 0) (fun t _ _ _ => ReflectliteType.toType t)) Tryd.func131 (by kernel_rfl) (by kernel_rfl) (by kernel_rfl) (by kernel_rfl)
  have h8 := @run_callFunc_extern Tryd.prog 132 _ (ReflectliteValue.method (ReflectliteValue.valueError "reflectlite.Value.IsNil" 0) ReflectliteValue.isNil) Tryd.func132 (by kernel_rfl) (by kernel_rfl) (by kernel_rfl) (by kernel_rfl)
  have h27 := @run_callFunc_extern Tryd.prog 218 _ (ReflectliteType.abiMethod fun t => do pure (.int .u8 (← Rtype.kind t))) Tryd.func218 (by kernel_rfl) (by kernel_rfl) (by kernel_rfl) (by kernel_rfl)
  have h37 := @run_callFunc_extern Tryd.prog 234 _ (ReflectliteType.method ReflectliteType.elem) Tryd.func234 (by kernel_rfl) (by kernel_rfl) (by kernel_rfl) (by kernel_rfl)
  have h38 := @run_callFunc_extern Tryd.prog 235 _ (ReflectliteType.relation "Implements" ReflectliteType.implements_) Tryd.func235 (by kernel_rfl) (by kernel_rfl) (by kernel_rfl) (by kernel_rfl)
  have h10 := @run_callFunc_extern Tryd.prog 164 _ ReflectliteType.typeOf Tryd.func164 (by kernel_rfl) (by kernel_rfl) (by kernel_rfl) (by kernel_rfl)
  have h35 := @run_callFunc_extern Tryd.prog 232 _ (ReflectliteType.relation "AssignableTo" ReflectliteType.assignableTo) Tryd.func232 (by kernel_rfl) (by kernel_rfl) (by kernel_rfl) (by kernel_rfl)
  have h11 := @run_callFunc_extern Tryd.prog 165 _ (ReflectliteValue.method (ReflectliteValue.valueError "reflectlite.Value.Elem" 0) ReflectliteValue.elem) Tryd.func165 (by kernel_rfl) (by kernel_rfl) (by kernel_rfl) (by kernel_rfl)
  have h12 := @run_callFunc_extern Tryd.prog 166 _ ReflectliteValue.set Tryd.func166 (by kernel_rfl) (by kernel_rfl) (by kernel_rfl) (by kernel_rfl)
  have f6 := valueOfP_errno
  have f7 := typeP_errno
  have tO := typeOf_errno
  have a25 := assign_errno
  have v25 := valueOf_errno
  have mA := mAssignableTo
  have mK := mKind
  have mE := mElem
  have mI := mImplements
  have k27 := kindP_errno
  have k25 := kindE_errno
  have e27 := elemP_errno
  have i25 := implE_errno
  have n8 := isNilP_errno ⟨w.heap.size, 0, none⟩ t ((w.alloc (.cells #[.pointer (some t)] 111)).alloc (.cells #[.pointer (some ⟨9, 111, none⟩), .pointer (some ⟨w.heap.size, 0, none⟩), .int .u64 150] 152)) (by simp)
  unfold ErrT at hg
  have hlt : 0 < w.heap.size := by
    rcases Nat.eq_zero_or_pos w.heap.size with h0 | h
    · simp [World.cell?, h0] at hg
    · exact h
  have hg2 : ((w.alloc (.cells #[.pointer (some t)] 111)).alloc (.cells #[.pointer (some ⟨9, 111, none⟩), .pointer (some ⟨w.heap.size, 0, none⟩), .int .u64 150] 152)).cell? ⟨0, 0, none⟩ = some (.iface 186 (.agg #[.pointer (some ⟨9, 47, none⟩)])) := by
    rw [World.cell?_alloc_lt _ _ ⟨0, 0, none⟩ (by simp), World.cell?_alloc_lt _ _ ⟨0, 0, none⟩ hlt]; exact hg
  have htl : t.block < w.heap.size := by
    rcases Nat.lt_or_ge t.block w.heap.size with h | h
    · exact h
    · simp [World.cell?, Array.getElem?_eq_none h] at ht0
  have el := elemV_errno ⟨w.heap.size, 0, none⟩ t (((w.alloc (.cells #[.pointer (some t)] 111)).alloc (.cells #[.pointer (some ⟨9, 111, none⟩), .pointer (some ⟨w.heap.size, 0, none⟩), .int .u64 150] 152)).alloc (.cells #[.pointer (some ⟨9, 111, none⟩), .pointer (some ⟨w.heap.size, 0, none⟩), .int .u64 150] 152)) (by rw [World.cell?_alloc_lt _ _ ⟨w.heap.size, 0, none⟩ (by simp; omega)]; simp)
  have st := set_errno t ⟨w.heap.size + 1 + 1 + 1, 0, none⟩ e old ((((w.alloc (.cells #[.pointer (some t)] 111)).alloc (.cells #[.pointer (some ⟨9, 111, none⟩), .pointer (some ⟨w.heap.size, 0, none⟩), .int .u64 150] 152)).alloc (.cells #[.pointer (some ⟨9, 111, none⟩), .pointer (some ⟨w.heap.size, 0, none⟩), .int .u64 150] 152)).alloc (.cells #[(.int .i64 e)] 24))
    (by rw [World.cell?_alloc_at _ _ _ _ (by simp)]; rfl)
    (by rw [World.cell?_alloc_lt _ _ t (by simp; omega), World.cell?_alloc_lt _ _ t (by simp; omega), World.cell?_alloc_lt _ _ t (by simp; omega), World.cell?_alloc_lt _ _ t htl]; exact ht0)
    (by rw [World.frozen?_alloc_old _ _ t (by simp; omega), World.frozen?_alloc_old _ _ t (by simp; omega), World.frozen?_alloc_old _ _ t (by simp; omega), World.frozen?_alloc_old _ _ t (Nat.ne_of_lt htl)]; exact hf0)
  go_enter Tryd.func87, Tryd.ntmps87
  go_wp2
  refine wp_loop_rounds 1 ?_
  rw [rounds_succ]
  go_wp2
  go_ret
  exact ⟨rfl, rfl⟩
end Go.Proofs.YtpbkdcfjlbdgfaaDoor
set_option linter.unusedVariables false
set_option linter.unusedSimpArgs false
namespace Go.Proofs.YtpbkdcfjlbdgfaaDoor
open Go.RowKit Go.Extern.Stop Go.Stop Go.Extern Go
set_option maxRecDepth 100000
/-- What a call of errors.As leaves: the target is set, and there are new blocks. -/
structure AsLeft (w w' : World) (t : Addr) (v : Value) : Prop where
  cell : w'.cell? t = some v
  old : ∀ a : Addr, a.block < w.heap.size → a.block ≠ t.block → w'.cell? a = w.cell? a
  size : w.heap.size ≤ w'.heap.size
  frozen : ∀ a : Addr, a.block < w.heap.size → w'.frozen? a = w.frozen? a
  below : ∀ B, B ≤ t.block → Below B w w'
theorem asLeft_of {w : World} {t : Addr} {old v : Value} (ht : w.cell? t = some old) (o1 o2 o3 o4 : Obj) : AsLeft w (((((w.alloc o1).alloc o2).alloc o3).alloc o4).setCell t v) t v := by
  have hl : t.block < w.heap.size := Ev.cell_lt ht
  have hb : Below w.heap.size w ((((w.alloc o1).alloc o2).alloc o3).alloc o4) := ((((Below.refl _ w).alloc (Nat.le_refl _) o1).alloc (by simp) o2).alloc (by simp; omega) o3).alloc (by simp; omega) o4
  have ht4 : ((((w.alloc o1).alloc o2).alloc o3).alloc o4).cell? t = some old := by rw [hb.cell hl]; exact ht
  refine ⟨?_, fun a ha hne => ?_, ?_, fun a ha => ?_, fun B hB => ((hb.mono (by omega)).setCell hB v)⟩
  · exact World.cell?_setCell_same _ _ _ ht4
  · have h2 : (((((w.alloc o1).alloc o2).alloc o3).alloc o4).setCell t v).heap[a.block]? = ((((w.alloc o1).alloc o2).alloc o3).alloc o4).heap[a.block]? := Below.heap_setCell _ _ _ _ hne
    rw [World.cell?_of_block h2, hb.cell ha]
  · simp; omega
  · rw [World.frozen?_setCell, hb.frozen ha]
theorem asF (e t : Addr) (old : Value) (w : World) (hg : ErrT w) (ht0 : w.cell? t = some old) (hf0 : w.frozen? t = false) :
    Calls Tryd.prog 87 #[.iface 104 (.pointer (some e)), .iface 110 (.pointer (some t))] w fun ev w' => ev = .returned (.bool true) ∧ AsLeft w w' t (.pointer (some e)) := by
  refine (asHit_flt e t old w hg ht0 hf0).mono ?_
  rintro ev w' ⟨rfl, rfl⟩
  exact ⟨rfl, asLeft_of ht0 _ _ _ _⟩
theorem asE (e : Int) (t : Addr) (old : Value) (w : World) (hg : ErrT w) (ht0 : w.cell? t = some old) (hf0 : w.frozen? t = false) :
    Calls Tryd.prog 87 #[.iface 24 (.int .i64 e), .iface 111 (.pointer (some t))] w fun ev w' => ev = .returned (.bool true) ∧ AsLeft w w' t (.int .i64 e) := by
  refine (asHit_errno e t old w hg ht0 hf0).mono ?_
  rintro ev w' ⟨rfl, rfl⟩
  exact ⟨rfl, asLeft_of ht0 _ _ _ _⟩
theorem results_pair {P : Program} {fn : Func} {t : Tmp} {ty : TypeId} (h : fn.results = #[.cell t ty]) (tmps : Array Value) (w : World) {b : Nat} {x y : Value} (hp : Ev.ldT P ty = some (true, 2))
    (ht : tmps.getD t undef = .pointer (some ⟨b, 0, none⟩)) (h0 : w.cell? ⟨b, 0, none⟩ = some x) (h1 : w.cell? ⟨b, 1, none⟩ = some y) : (results fn tmps).run P w = .ok (.agg #[x, y]) w := by
  have hv := Ev.run_ld_agg (w := w) hp (ad := ⟨b, 0, none⟩) (vs := [x, y]) rfl (fun j v hj => by
    match j, hj with
    | 0, hj => simp at hj; subst hj; exact h0
    | 1, hj => simp at hj; subst hj; exact h1
    | j + 2, hj => simp at hj)
  rw [Ev.results_eq, h]
  simp [Ev.rrRun, ht, asAddr, hv]
theorem ld53 : Ev.ldT Tryd.prog 53 = some (true, 2) := by kernel_rfl
theorem seen_nil (w : World) : Calls Tryd.prog 37 #[.nilIface] w fun ev w' => ev = .returned (.agg #[.int .i64 0, .int .i64 0]) ∧ Below w.heap.size w w' := by
  go_enter Tryd.func37, Tryd.ntmps37
  go_wp2
  (try simp only [Exit.inBlock, Exit.then])
  refine bodyPost_ret (results_pair (b := w.heap.size) (x := .int .i64 0) (y := .int .i64 0) rfl _ _ ld53 rfl (by simp) (by simp)) rfl ⟨rfl, (Below.refl _ _).alloc (Nat.le_refl _) _⟩
theorem ErrT.pos {w : World} (h : ErrT w) : 0 < w.heap.size := by
  unfold ErrT at h
  exact Ev.cell_lt h
theorem ErrT.below {w w' : World} (h : ErrT w) (hb : Below w.heap.size w w') : ErrT w' := by
  have := h.pos
  unfold ErrT at h ⊢
  rw [hb.cell this]; exact h
set_option maxHeartbeats 4000000 in
theorem seen_flt (p : Addr) (at_ e : Int) (w : World) (hg : ErrT w) (h0 : w.cell? p = some (.int .i64 at_)) (h1 : w.cell? (p.add 1) = some (.iface 24 (.int .i64 e))) :
    Calls Tryd.prog 37 #[.iface 104 (.pointer (some p))] w fun ev w' => ev = .returned (.agg #[.int .i64 at_, .int .i64 e]) ∧ Below w.heap.size w w' := by
  have hpl := Ev.cell_lt h0
  have hpa : (p.add 1).block = p.block := by unfold Addr.add; split <;> rfl
  have hp0 := hg.pos
  have bA : Below w.heap.size w (((w.alloc (.cells #[.int .i64 0, .int .i64 0] 53)).alloc (.cells #[.pointer none] 104)).alloc (.cells #[.int .i64 0] 24)) := (((Below.refl _ _).alloc (Nat.le_refl _) _).alloc (by simp) _).alloc (by simp; omega) _
  obtain ⟨W, hW⟩ : ∃ W, (((w.alloc (.cells #[.int .i64 0, .int .i64 0] 53)).alloc (.cells #[.pointer none] 104)).alloc (.cells #[.int .i64 0] 24)) = W := ⟨_, rfl⟩
  have sA : W.heap.size = w.heap.size + 3 := by rw [← hW]; simp
  have cA0 : W.cell? ⟨w.heap.size, 0, none⟩ = some (.int .i64 0) := by rw [← hW, World.cell?_alloc_lt _ _ _ (by simp <;> omega), World.cell?_alloc_lt _ _ _ (by simp <;> omega), World.cell?_alloc_at _ _ _ _ (by simp)]; rfl
  have cA1 : W.cell? ⟨w.heap.size, 1, none⟩ = some (.int .i64 0) := by rw [← hW, World.cell?_alloc_lt _ _ _ (by simp <;> omega), World.cell?_alloc_lt _ _ _ (by simp <;> omega), World.cell?_alloc_at _ _ _ _ (by simp)]; rfl
  have cA2 : W.cell? ⟨w.heap.size + 1, 0, none⟩ = some (.pointer none) := by rw [← hW, World.cell?_alloc_lt _ _ _ (by simp <;> omega), World.cell?_alloc_at _ _ _ _ (by simp)]; rfl
  have cA3 : W.cell? ⟨w.heap.size + 1 + 1, 0, none⟩ = some (.int .i64 0) := by rw [← hW, World.cell?_alloc_at _ _ _ _ (by simp)]; rfl
  have fA0 : W.frozen? ⟨w.heap.size, 0, none⟩ = false := by rw [← hW, World.frozen?_alloc_old _ _ _ (by simp <;> omega), World.frozen?_alloc_old _ _ _ (by simp <;> omega), World.frozen?_alloc_at _ _ _ _ (by simp)]
  have fA1 : W.frozen? ⟨w.heap.size, 1, none⟩ = false := by rw [← hW, World.frozen?_alloc_old _ _ _ (by simp <;> omega), World.frozen?_alloc_old _ _ _ (by simp <;> omega), World.frozen?_alloc_at _ _ _ _ (by simp)]
  have fA2 : W.frozen? ⟨w.heap.size + 1, 0, none⟩ = false := by rw [← hW, World.frozen?_alloc_old _ _ _ (by simp <;> omega), World.frozen?_alloc_at _ _ _ _ (by simp)]
  have fA3 : W.frozen? ⟨w.heap.size + 1 + 1, 0, none⟩ = false := by rw [← hW, World.frozen?_alloc_at _ _ _ _ (by simp)]
  rw [hW] at bA
  have gA : ErrT W := hg.below bA
  go_enter Tryd.func37, Tryd.ntmps37
  go_wp2_with (go_at_call 87; rw [hW])
  refine (asF p ⟨w.heap.size + 1, 0, none⟩ (.pointer none) W gA cA2 fA2).mono ?_
  rintro ev W1 ⟨rfl, hL⟩
  have hWs : w.heap.size ≤ W.heap.size := by omega
  have b1 : Below w.heap.size W W1 := hL.below _ (by simp)
  have bW1 : Below w.heap.size w W1 := bA.trans b1
  have s1 : W.heap.size ≤ W1.heap.size := hL.size
  have g1 : ErrT W1 := hg.below bW1
  have cB2 : W1.cell? ⟨w.heap.size + 1, 0, none⟩ = some (.pointer (some p)) := hL.cell
  have cB0 : W1.cell? ⟨w.heap.size, 0, none⟩ = some (.int .i64 0) := by rw [hL.old _ (by show w.heap.size < W.heap.size; omega) (by show w.heap.size ≠ w.heap.size + 1; omega)]; exact cA0
  have cB1 : W1.cell? ⟨w.heap.size, 1, none⟩ = some (.int .i64 0) := by rw [hL.old _ (by show w.heap.size < W.heap.size; omega) (by show w.heap.size ≠ w.heap.size + 1; omega)]; exact cA1
  have cB3 : W1.cell? ⟨w.heap.size + 1 + 1, 0, none⟩ = some (.int .i64 0) := by rw [hL.old _ (by show w.heap.size + 1 + 1 < W.heap.size; omega) (by show w.heap.size + 1 + 1 ≠ w.heap.size + 1; omega)]; exact cA3
  have fB0 : W1.frozen? ⟨w.heap.size, 0, none⟩ = false := by rw [hL.frozen _ (by show w.heap.size < W.heap.size; omega)]; exact fA0
  have fB1 : W1.frozen? ⟨w.heap.size, 1, none⟩ = false := by rw [hL.frozen _ (by show w.heap.size < W.heap.size; omega)]; exact fA1
  have fB3 : W1.frozen? ⟨w.heap.size + 1 + 1, 0, none⟩ = false := by rw [hL.frozen _ (by show w.heap.size + 1 + 1 < W.heap.size; omega)]; exact fA3
  have cp0 : W1.cell? p = some (.int .i64 at_) := by rw [bW1.cell hpl]; exact h0
  have cp1 : W1.cell? ⟨p.block, p.off + 1, none⟩ = some (.iface 24 (.int .i64 e)) := by rw [show (⟨p.block, p.off + 1, none⟩ : Addr) = p.add 1 from rfl, bW1.cell (by rw [hpa]; exact hpl)]; exact h1
  clear hL
  go_wp2_with (go_at_call 87; refine (asE e ⟨w.heap.size + 1 + 1, 0, none⟩ (.int .i64 0) W1 g1 cB3 fB3).mono ?_)
  rintro ev W2 ⟨rfl, hL⟩
  have b2 : Below w.heap.size W1 W2 := hL.below _ (by simp <;> omega)
  have bW2 : Below w.heap.size w W2 := bW1.trans b2
  have cC2 : W2.cell? ⟨w.heap.size + 1, 0, none⟩ = some (.pointer (some p)) := by rw [hL.old _ (by show w.heap.size + 1 < W1.heap.size; omega) (by show w.heap.size + 1 ≠ w.heap.size + 1 + 1; omega)]; exact cB2
  have cC3 : W2.cell? ⟨w.heap.size + 1 + 1, 0, none⟩ = some (.int .i64 e) := hL.cell
  have cC0 : W2.cell? ⟨w.heap.size, 0, none⟩ = some (.int .i64 0) := by rw [hL.old _ (by show w.heap.size < W1.heap.size; omega) (by show w.heap.size ≠ w.heap.size + 1 + 1; omega)]; exact cB0
  have cC1 : W2.cell? ⟨w.heap.size, 1, none⟩ = some (.int .i64 0) := by rw [hL.old _ (by show w.heap.size < W1.heap.size; omega) (by show w.heap.size ≠ w.heap.size + 1 + 1; omega)]; exact cB1
  have fC0 : W2.frozen? ⟨w.heap.size, 0, none⟩ = false := by rw [hL.frozen _ (by show w.heap.size < W1.heap.size; omega)]; exact fB0
  have fC1 : W2.frozen? ⟨w.heap.size, 1, none⟩ = false := by rw [hL.frozen _ (by show w.heap.size < W1.heap.size; omega)]; exact fB1
  have cq0 : W2.cell? p = some (.int .i64 at_) := by rw [bW2.cell hpl]; exact h0
  clear hL
  have hadd : p.add 0 = p := rfl
  go_wp2
  go_region
  go_wp2
  (try simp only [Exit.inBlock, Exit.then])
  refine bodyPost_ret (results_pair (b := w.heap.size) (x := .int .i64 at_) (y := .int .i64 e) rfl _ _ ld53 rfl ?_ ?_) rfl ⟨rfl, ((bW2.setCell (Nat.le_refl _) _).setCell (Nat.le_refl _) _).drew⟩
  · show ((W2.setCell _ _).setCell _ _).cell? _ = _
    rw [World.cell?_setCell_other _ _ _ _ (by simp), World.cell?_setCell_same _ _ _ cC0]
  · show ((W2.setCell _ _).setCell _ _).cell? _ = _
    rw [World.cell?_setCell_same _ _ _ (by rw [World.cell?_setCell_other _ _ _ _ (by simp)]; exact cC1)]
open Go.Ev in
/-- What Seen makes of an error. -/
def CSeen : Contract := pureC fun args => match args with
  | [.d (.v .nilIface)] => some (True, .agg [.d (.v (.int .i64 0)), .d (.v (.int .i64 0))])
  | [.d (.ifc t (.pt [.v (.int .i64 at_), .ifc u (.v (.int .i64 e))]))] => some (t = 104 ∧ u = 24, .agg [.d (.v (.int .i64 at_)), .d (.v (.int .i64 e))])
  | _ => none
open Go.Ev in
theorem sSeen {G : World → Prop} (hG : ∀ w, G w → ErrT w) : Sound G Tryd.prog 37 CSeen := by
  refine sound_lib ⟨Tryd.f37, by kernel_rfl, by kernel_rfl, by kernel_rfl⟩ fun args p x h hp => ?_
  split at h <;> simp only [Option.some.injEq, Prod.mk.injEq, reduceCtorEq] at h
  · obtain ⟨rfl, rfl⟩ := h
    refine ⟨.agg #[.int .i64 0, .int .i64 0], fun m n c => by simp [Cn, CnL, Rd, Value.oneCell'], fun w hw m c vs hc hv => ?_⟩
    match vs, hv with
    | [a], hv =>
      simp only [CnL, and_true] at hv
      rw [of_v hv]
      exact seen_nil w
    | [], hv => simp [CnL] at hv
    | _ :: _ :: _, hv => simp [CnL] at hv
  · obtain ⟨rfl, rfl⟩ := h
    rename_i t at_ u e
    obtain ⟨rfl, rfl⟩ := hp
    refine ⟨.agg #[.int .i64 at_, .int .i64 e], fun m n c => by simp [Cn, CnL, Rd, Value.oneCell'], fun w hw m c vs hc hv => ?_⟩
    match vs, hv with
    | [a], hv =>
      simp only [CnL, and_true, Cn, Rd, RdCells] at hv
      obtain ⟨z, rfl, ad, rfl, ⟨u1, h1, rfl, _⟩, ⟨u2, h2, z2, rfl, rfl, _⟩⟩ := hv
      exact seen_flt ad at_ e w (hG w hw) (hc _ _ h1) (hc _ _ h2)
    | [], hv => simp [CnL] at hv
    | _ :: _ :: _, hv => simp [CnL] at hv
end Go.Proofs.YtpbkdcfjlbdgfaaDoor
set_option linter.unusedVariables false
set_option linter.unusedSimpArgs false
namespace Go.Proofs.YtpbkdcfjlbdgfaaDoor
open Go Go.Ev
set_option maxRecDepth 100000
variable {G : World → Prop}
/-! Conflicts that are settled. -/
theorem fl_snoc (l : List (List UInt8)) (i : Nat) (h : i < l.length) : (l.take (i + 1)).flatten = (l.take i).flatten ++ l.getD i [] := by
  rw [List.take_succ_eq_append_getElem h, List.flatten_append]
  simp [List.getD_eq_getElem?_getD, List.getElem?_eq_getElem h]
theorem fl_le (l : List (List UInt8)) (i : Nat) : (l.take i).flatten.length ≤ l.flatten.length := by
  conv => rhs; rw [← List.take_append_drop i l, List.flatten_append, List.length_append]
  exact Nat.le_add_right _ _
def pkS (m o y : List UInt8) (yv : Bool) (st : Int × List UInt8) (s : List UInt8) : Int × List UInt8 :=
  if st.1 = 0 ∧ s = mkL 60 m then (1, st.2)
  else if st.1 = 1 ∧ s = mkL 124 o then (2, st.2)
  else if (st.1 = 1 ∨ st.1 = 2) ∧ s = midL then (3, st.2)
  else if st.1 = 3 ∧ s = mkL 62 y then (0, st.2)
  else if (st.1 = 0 ∨ (st.1 = 1 ∧ yv = false)) ∨ (st.1 = 3 ∧ yv = true) then (st.1, st.2 ++ s)
  else st
def pkF (m o y : List UInt8) (yv : Bool) (l : List (List UInt8)) : Int × List UInt8 := l.foldl (pkS m o y yv) (0, [])
theorem pkF_snoc (m o y : List UInt8) (yv : Bool) {l : List (List UInt8)} {i : Nat} (h : i < l.length) : pkF m o y yv (l.take (i + 1)) = pkS m o y yv (pkF m o y yv (l.take i)) (l.getD i []) := by
  rw [pkF, List.take_succ_eq_append_getElem h, List.foldl_append]
  simp [pkF, List.getD_eq_getElem?_getD, List.getElem?_eq_getElem h]
theorem pkS_len (m o y : List UInt8) (yv : Bool) (st : Int × List UInt8) (s : List UInt8) : (pkS m o y yv st s).2.length ≤ st.2.length + s.length := by
  unfold pkS
  repeat' split
  all_goals simp
theorem pkF_len (m o y : List UInt8) (yv : Bool) (l : List (List UInt8)) : ∀ i, i ≤ l.length → (pkF m o y yv (l.take i)).2.length ≤ (l.take i).flatten.length
  | 0, _ => by simp [pkF]
  | i + 1, h => by
    have h1 := pkF_len m o y yv l i (by omega)
    have h2 := pkS_len m o y yv (pkF m o y yv (l.take i)) (l.getD i [])
    rw [pkF_snoc m o y yv (by omega), fl_snoc l i (by omega), List.length_append]
    omega
/-- A place, what is wrong there. -/
def pickE (m o y : List UInt8) (yv : Bool) (l : List (List UInt8)) : Int × Int :=
  if (nf m && nf o && nf y) = false then (0, 253) else if (pkF m o y yv l).1 = 0 then (0, 0) else (l.length + 1, 1)
def pickT (m o y : List UInt8) (yv : Bool) (l : List (List UInt8)) : List UInt8 :=
  if (nf m && nf o && nf y) = false then [] else if (pkF m o y yv l).1 = 0 then (pkF m o y yv l).2 else []
/-- An error that bears a place. -/
def fltD (e : Int × Int) : D := if e.2 = 0 then .v .nilIface else .ifc 104 (.pt [.v (.int .i64 e.1), .ifc 24 (.v (.int .i64 e.2))])
def CPick : Contract := pureC fun args => match args with
  | [.d (.v (.string t)), .agg [.d (.v (.string m)), .d (.v (.string o)), .d (.v (.string y))], .d (.v (.bool b))] => some (t.size ≤ 1099511627 ∧ m.size ≤ 1099511627 ∧ o.size ≤ 1099511627 ∧ y.size ≤ 1099511627,
      .tup [.d (.v (str (pickT m.data.toList o.data.toList y.data.toList b (lns t.data.toList)))), .d (fltD (pickE m.data.toList o.data.toList y.data.toList b (lns t.data.toList)))])
  | _ => none
def CRPick : Contract := pureC fun args => match args with
  | [.d (.v (.string t)), .agg [.d (.v (.string m)), .d (.v (.string o)), .d (.v (.string y))], .d (.v (.bool b))] => some (t.size ≤ 1099511627 ∧ m.size ≤ 1099511627 ∧ o.size ≤ 1099511627 ∧ y.size ≤ 1099511627,
      .tup [.d (.v (str (pickT m.data.toList o.data.toList y.data.toList b (lns t.data.toList)))), .agg [.d (.v (.int .i64 (pickE m.data.toList o.data.toList y.data.toList b (lns t.data.toList)).1)), .d (.v (.int .i64 (pickE m.data.toList o.data.toList y.data.toList b (lns t.data.toList)).2))]])
  | _ => none
theorem lns_size (l : List UInt8) (i : Nat) : ((lns l).take i).flatten.length ≤ l.length := by
  have := fl_le (lns l) i
  rwa [lns_flat] at this
theorem lns_one {l : List UInt8} {i : Nat} (h : i < (lns l).length) : ((lns l).getD i []).length ≤ l.length := by
  have h1 := fl_snoc (lns l) i h
  have h2 := lns_size l (i + 1)
  rw [h1, List.length_append] at h2
  omega
set_option maxHeartbeats 2000000 in
theorem s36 : Sound G Tryd.prog 36 CRPick := by
  refine sd36 (T := tabT [(84, CRNamed), (85, CSplit), (86, CRMark)]) (tab_cons s84 (tab_cons s85 (tab_cons s86 tab_nil))) (pureC_lawful _) (pure_hX fun args p x K h hp hk => ?_)
  split at h <;> simp only [Option.some.injEq, Prod.mk.injEq, reduceCtorEq] at h
  obtain ⟨rfl, rfl⟩ := h
  rename_i t m o y b
  obtain ⟨t, rfl⟩ := ex_str t
  obtain ⟨m, rfl⟩ := ex_str m
  obtain ⟨o, rfl⟩ := ex_str o
  obtain ⟨y, rfl⟩ := ex_str y
  simp only [sem_str] at hp hk
  obtain ⟨h1, h2, h3, h4⟩ := hp
  refine ⟨Nat.le_of_ble_eq_true rfl, ?_⟩
  by_cases hn : (nf m && nf o && nf y) = false
  · rw [pickT, pickE, if_pos hn, if_pos hn] at hk
    cases n1 : nf m <;> cases n2 : nf o <;> cases n3 : nf y <;> simp only [n1, n2, n3, Bool.and_true, Bool.and_self, Bool.true_eq_false] at hn
    all_goals simp -dsimp -implicitDefEqProofs only [S36, R36, CRNamed, n1, n2, n3, Ev.parts, Ev.St.giveC, ↓Ev.xStp_eq, ↓Ev.P, Ev.Q, Bool.cond_true, Bool.cond_false, eq_self, forall_eq_or_imp, implies_true, forall_const, forall_eq, ↓reduceIte, reduceIte, Nat.reduceEqDiff, Nat.reduceAdd, reduceCtorEq, Nat.reduceSub, Int.reduceToNat, Int.reduceLE, Int.reduceLT, Int.reduceNeg, Nat.reduceBEq, Nat.reduceMul, Nat.reduceLeDiff, Nat.reduceMod, UInt8.reduceOfNat, Nat.reduceLT, Int.reduceEq, Int.reduceAdd, Int.reduceSub, Int.reduceMul]
    all_goals (repeat' (first | with_reducible assumption | refine And.intro ?_ ?_ | intro _))
    all_goals first | omega | exact hk
  rw [pickT, pickE, if_neg hn, if_neg hn] at hk
  simp only [Bool.not_eq_false, Bool.and_eq_true] at hn
  obtain ⟨⟨n1, n2⟩, n3⟩ := hn
  have hl := lns_len t
  simp -dsimp -implicitDefEqProofs only [S36, R36, CRNamed, CSplit, CRMark, n1, n2, n3, Ev.St.giveC, ↓Ev.xStp_eq, ↓Ev.P, Ev.Q, Bool.cond_true, Bool.cond_false, eq_self, forall_eq_or_imp, implies_true, forall_const, forall_eq, ↓reduceIte, reduceIte, Nat.reduceEqDiff, Nat.reduceAdd, reduceCtorEq, Nat.reduceSub, Int.reduceToNat, Int.reduceLE, Int.reduceLT, Int.reduceNeg, Nat.reduceBEq, Nat.reduceMul, Nat.reduceLeDiff, Nat.reduceMod, UInt8.reduceOfNat, Nat.reduceLT, Int.reduceEq, Int.reduceAdd, Int.reduceSub, Int.reduceMul]
  refine ⟨by omega, by omega, by omega, by omega, ?_⟩
  refine xLoop_intro (fun n st => ∃ i : Nat, i ≤ (lns t).length ∧ n = (lns t).length - i ∧
      st = ⟨[(2, .d (.v (.bool b))), (4, .ptr 0 0), (7, .ptr 1 0), (8, .d (.sl (strRows (lns t)))), (9, .d (.v (.string ⟨(pkF m o y b ((lns t).take i)).2.toArray⟩))), (10, .d (.v (.int .i64 (pkF m o y b ((lns t).take i)).1))), (11, .d (.v (.int .i64 i)))], 2,
        [(0, .cells 45 [.d (.v (.string ⟨m.toArray⟩)), .d (.v (.string ⟨o.toArray⟩)), .d (.v (.string ⟨y.toArray⟩))]), (1, .cells 53 [.d (.v (.int .i64 0)), .d (.v (.int .i64 0))])]⟩) (lns t).length [0, 1] ?_ ?_ ?_
  · simp -dsimp -implicitDefEqProofs only [↓Ev.xStp_eq, ↓Ev.P, Ev.Q, Bool.cond_true, Bool.cond_false, eq_self, forall_eq_or_imp, implies_true, forall_const, forall_eq, ↓reduceIte, reduceIte, Nat.reduceEqDiff, Nat.reduceAdd, reduceCtorEq, Nat.reduceSub, Int.reduceToNat, Int.reduceLE, Int.reduceLT, Int.reduceNeg, Nat.reduceBEq, Nat.reduceMul, Nat.reduceLeDiff, Nat.reduceMod, UInt8.reduceOfNat, Nat.reduceLT, Int.reduceEq, Int.reduceAdd, Int.reduceSub, Int.reduceMul]
  · simp -dsimp -implicitDefEqProofs only [↓Ev.xStp_eq, ↓Ev.P, Ev.Q, Bool.cond_true, Bool.cond_false, eq_self, forall_eq_or_imp, implies_true, forall_const, forall_eq, ↓reduceIte, reduceIte, Nat.reduceEqDiff, Nat.reduceAdd, reduceCtorEq, Nat.reduceSub, Int.reduceToNat, Int.reduceLE, Int.reduceLT, Int.reduceNeg, Nat.reduceBEq, Nat.reduceMul, Nat.reduceLeDiff, Nat.reduceMod, UInt8.reduceOfNat, Nat.reduceLT, Int.reduceEq, Int.reduceAdd, Int.reduceSub, Int.reduceMul]
    exact ⟨0, by omega, by omega, by simp [pkF]⟩
  · rintro n st ⟨i, hi, hn, rfl⟩
    by_cases hil : i < (lns t).length
    · have hi3 : (i : Int) < (lns t).length := by omega
      have hg := strRows_get hil
      have hg2 : (strRows (lns t)).getD i [] = [.v (.string ⟨((lns t).getD i []).toArray⟩)] := by rw [List.getD_eq_getElem?_getD, hg]; rfl
      have hsn := pkF_snoc m o y b hil
      have hle := pkF_len m o y b (lns t) (i + 1) hil
      have hls := lns_size t (i + 1)
      have hone := lns_one hil
      generalize (lns t).getD i [] = s at hg hg2 hsn hone
      rw [hsn] at hle
      generalize pkF m o y b ((lns t).take i) = q at hsn hle ⊢
      obtain ⟨p, out⟩ := q
      -- REF WAYS
      by_cases hp0 : p = 0
      · by_cases ha : s = mkL 60 m
        · have e : pkS m o y b (p, out) s = (1, out) := by simp [pkS, midL, hp0, eq_true ha]
          rw [e] at hsn hle
          simp -dsimp -implicitDefEqProofs only [hg, hg2, hi3, hp0, eq_true ha, strRows_len, CRMark, ↓Ev.xStp_eq, ↓Ev.P, Ev.Q, Bool.cond_true, Bool.cond_false, eq_self, forall_eq_or_imp, implies_true, forall_const, forall_eq, ↓reduceIte, reduceIte, Nat.reduceEqDiff, Nat.reduceAdd, reduceCtorEq, Nat.reduceSub, Int.reduceToNat, Int.reduceLE, Int.reduceLT, Int.reduceNeg, Nat.reduceBEq, Nat.reduceMul, Nat.reduceLeDiff, Nat.reduceMod, UInt8.reduceOfNat, Nat.reduceLT, Int.reduceEq, Int.reduceAdd, Int.reduceSub, Int.reduceMul]
          repeat' (first | with_reducible assumption | refine And.intro ?_ ?_ | intro _)
          all_goals try omega
          refine xAgain_intro ((lns t).length - (i + 1)) [0, 1] (by omega) (by simp -dsimp -implicitDefEqProofs only [↓Ev.xStp_eq, ↓Ev.P, Ev.Q, Bool.cond_true, Bool.cond_false, eq_self, forall_eq_or_imp, implies_true, forall_const, forall_eq, ↓reduceIte, reduceIte, Nat.reduceEqDiff, Nat.reduceAdd, reduceCtorEq, Nat.reduceSub, Int.reduceToNat, Int.reduceLE, Int.reduceLT, Int.reduceNeg, Nat.reduceBEq, Nat.reduceMul, Nat.reduceLeDiff, Nat.reduceMod, UInt8.reduceOfNat, Nat.reduceLT, Int.reduceEq, Int.reduceAdd, Int.reduceSub, Int.reduceMul]) ⟨i + 1, by omega, rfl, ?_⟩
          rw [hsn]
          simp -dsimp -implicitDefEqProofs only [↓Ev.xStp_eq, ↓Ev.P, Ev.Q, Bool.cond_true, Bool.cond_false, eq_self, forall_eq_or_imp, implies_true, forall_const, forall_eq, ↓reduceIte, reduceIte, Nat.reduceEqDiff, Nat.reduceAdd, reduceCtorEq, Nat.reduceSub, Int.reduceToNat, Int.reduceLE, Int.reduceLT, Int.reduceNeg, Nat.reduceBEq, Nat.reduceMul, Nat.reduceLeDiff, Nat.reduceMod, UInt8.reduceOfNat, Nat.reduceLT, Int.reduceEq, Int.reduceAdd, Int.reduceSub, Int.reduceMul]
          rfl
        · have e : pkS m o y b (p, out) s = (0, out ++ s) := by simp [pkS, midL, hp0, ha]
          rw [e] at hsn hle
          simp only [List.length_append] at hle
          simp -dsimp -implicitDefEqProofs only [hg, hg2, hi3, hp0, ha, strRows_len, CRMark, ↓Ev.xStp_eq, ↓Ev.P, Ev.Q, Bool.cond_true, Bool.cond_false, eq_self, forall_eq_or_imp, implies_true, forall_const, forall_eq, ↓reduceIte, reduceIte, Nat.reduceEqDiff, Nat.reduceAdd, reduceCtorEq, Nat.reduceSub, Int.reduceToNat, Int.reduceLE, Int.reduceLT, Int.reduceNeg, Nat.reduceBEq, Nat.reduceMul, Nat.reduceLeDiff, Nat.reduceMod, UInt8.reduceOfNat, Nat.reduceLT, Int.reduceEq, Int.reduceAdd, Int.reduceSub, Int.reduceMul]
          repeat' (first | with_reducible assumption | refine And.intro ?_ ?_ | intro _)
          all_goals try omega
          refine xAgain_intro ((lns t).length - (i + 1)) [0, 1] (by omega) (by simp -dsimp -implicitDefEqProofs only [↓Ev.xStp_eq, ↓Ev.P, Ev.Q, Bool.cond_true, Bool.cond_false, eq_self, forall_eq_or_imp, implies_true, forall_const, forall_eq, ↓reduceIte, reduceIte, Nat.reduceEqDiff, Nat.reduceAdd, reduceCtorEq, Nat.reduceSub, Int.reduceToNat, Int.reduceLE, Int.reduceLT, Int.reduceNeg, Nat.reduceBEq, Nat.reduceMul, Nat.reduceLeDiff, Nat.reduceMod, UInt8.reduceOfNat, Nat.reduceLT, Int.reduceEq, Int.reduceAdd, Int.reduceSub, Int.reduceMul]) ⟨i + 1, by omega, rfl, ?_⟩
          rw [hsn]
          simp -dsimp -implicitDefEqProofs only [↓Ev.xStp_eq, ↓Ev.P, Ev.Q, Bool.cond_true, Bool.cond_false, eq_self, forall_eq_or_imp, implies_true, forall_const, forall_eq, ↓reduceIte, reduceIte, Nat.reduceEqDiff, Nat.reduceAdd, reduceCtorEq, Nat.reduceSub, Int.reduceToNat, Int.reduceLE, Int.reduceLT, Int.reduceNeg, Nat.reduceBEq, Nat.reduceMul, Nat.reduceLeDiff, Nat.reduceMod, UInt8.reduceOfNat, Nat.reduceLT, Int.reduceEq, Int.reduceAdd, Int.reduceSub, Int.reduceMul]
          rfl
      · by_cases hp1 : p = 1
        · by_cases hb : s = mkL 124 o
          · have e : pkS m o y b (p, out) s = (2, out) := by simp [pkS, midL, hp0, hp1, eq_true hb]
            rw [e] at hsn hle
            simp -dsimp -implicitDefEqProofs only [hg, hg2, hi3, hp0, hp1, eq_true hb, strRows_len, CRMark, ↓Ev.xStp_eq, ↓Ev.P, Ev.Q, Bool.cond_true, Bool.cond_false, eq_self, forall_eq_or_imp, implies_true, forall_const, forall_eq, ↓reduceIte, reduceIte, Nat.reduceEqDiff, Nat.reduceAdd, reduceCtorEq, Nat.reduceSub, Int.reduceToNat, Int.reduceLE, Int.reduceLT, Int.reduceNeg, Nat.reduceBEq, Nat.reduceMul, Nat.reduceLeDiff, Nat.reduceMod, UInt8.reduceOfNat, Nat.reduceLT, Int.reduceEq, Int.reduceAdd, Int.reduceSub, Int.reduceMul]
            repeat' (first | with_reducible assumption | refine And.intro ?_ ?_ | intro _)
            all_goals try omega
            refine xAgain_intro ((lns t).length - (i + 1)) [0, 1] (by omega) (by simp -dsimp -implicitDefEqProofs only [↓Ev.xStp_eq, ↓Ev.P, Ev.Q, Bool.cond_true, Bool.cond_false, eq_self, forall_eq_or_imp, implies_true, forall_const, forall_eq, ↓reduceIte, reduceIte, Nat.reduceEqDiff, Nat.reduceAdd, reduceCtorEq, Nat.reduceSub, Int.reduceToNat, Int.reduceLE, Int.reduceLT, Int.reduceNeg, Nat.reduceBEq, Nat.reduceMul, Nat.reduceLeDiff, Nat.reduceMod, UInt8.reduceOfNat, Nat.reduceLT, Int.reduceEq, Int.reduceAdd, Int.reduceSub, Int.reduceMul]) ⟨i + 1, by omega, rfl, ?_⟩
            rw [hsn]
            simp -dsimp -implicitDefEqProofs only [↓Ev.xStp_eq, ↓Ev.P, Ev.Q, Bool.cond_true, Bool.cond_false, eq_self, forall_eq_or_imp, implies_true, forall_const, forall_eq, ↓reduceIte, reduceIte, Nat.reduceEqDiff, Nat.reduceAdd, reduceCtorEq, Nat.reduceSub, Int.reduceToNat, Int.reduceLE, Int.reduceLT, Int.reduceNeg, Nat.reduceBEq, Nat.reduceMul, Nat.reduceLeDiff, Nat.reduceMod, UInt8.reduceOfNat, Nat.reduceLT, Int.reduceEq, Int.reduceAdd, Int.reduceSub, Int.reduceMul]
            rfl
          · by_cases hc : s = [61, 61, 61, 61, 61, 61, 61, 10]
            · have e : pkS m o y b (p, out) s = (3, out) := by simp [pkS, midL, hp0, hp1, hb, eq_true hc]
              rw [e] at hsn hle
              simp -dsimp -implicitDefEqProofs only [hg, hg2, hi3, hp0, hp1, hb, eq_true hc, strRows_len, CRMark, ↓Ev.xStp_eq, ↓Ev.P, Ev.Q, Bool.cond_true, Bool.cond_false, eq_self, forall_eq_or_imp, implies_true, forall_const, forall_eq, ↓reduceIte, reduceIte, Nat.reduceEqDiff, Nat.reduceAdd, reduceCtorEq, Nat.reduceSub, Int.reduceToNat, Int.reduceLE, Int.reduceLT, Int.reduceNeg, Nat.reduceBEq, Nat.reduceMul, Nat.reduceLeDiff, Nat.reduceMod, UInt8.reduceOfNat, Nat.reduceLT, Int.reduceEq, Int.reduceAdd, Int.reduceSub, Int.reduceMul]
              repeat' (first | with_reducible assumption | refine And.intro ?_ ?_ | intro _)
              all_goals try omega
              refine xAgain_intro ((lns t).length - (i + 1)) [0, 1] (by omega) (by simp -dsimp -implicitDefEqProofs only [↓Ev.xStp_eq, ↓Ev.P, Ev.Q, Bool.cond_true, Bool.cond_false, eq_self, forall_eq_or_imp, implies_true, forall_const, forall_eq, ↓reduceIte, reduceIte, Nat.reduceEqDiff, Nat.reduceAdd, reduceCtorEq, Nat.reduceSub, Int.reduceToNat, Int.reduceLE, Int.reduceLT, Int.reduceNeg, Nat.reduceBEq, Nat.reduceMul, Nat.reduceLeDiff, Nat.reduceMod, UInt8.reduceOfNat, Nat.reduceLT, Int.reduceEq, Int.reduceAdd, Int.reduceSub, Int.reduceMul]) ⟨i + 1, by omega, rfl, ?_⟩
              rw [hsn]
              simp -dsimp -implicitDefEqProofs only [↓Ev.xStp_eq, ↓Ev.P, Ev.Q, Bool.cond_true, Bool.cond_false, eq_self, forall_eq_or_imp, implies_true, forall_const, forall_eq, ↓reduceIte, reduceIte, Nat.reduceEqDiff, Nat.reduceAdd, reduceCtorEq, Nat.reduceSub, Int.reduceToNat, Int.reduceLE, Int.reduceLT, Int.reduceNeg, Nat.reduceBEq, Nat.reduceMul, Nat.reduceLeDiff, Nat.reduceMod, UInt8.reduceOfNat, Nat.reduceLT, Int.reduceEq, Int.reduceAdd, Int.reduceSub, Int.reduceMul]
              rfl
            · by_cases hy : b = true
              · subst hy
                have e : pkS m o y true (p, out) s = (1, out) := by simp [pkS, midL, hp0, hp1, hb, hc]
                rw [e] at hsn hle
                simp -dsimp -implicitDefEqProofs only [hg, hg2, hi3, hp0, hp1, hb, hc, strRows_len, CRMark, ↓Ev.xStp_eq, ↓Ev.P, Ev.Q, Bool.cond_true, Bool.cond_false, eq_self, forall_eq_or_imp, implies_true, forall_const, forall_eq, ↓reduceIte, reduceIte, Nat.reduceEqDiff, Nat.reduceAdd, reduceCtorEq, Nat.reduceSub, Int.reduceToNat, Int.reduceLE, Int.reduceLT, Int.reduceNeg, Nat.reduceBEq, Nat.reduceMul, Nat.reduceLeDiff, Nat.reduceMod, UInt8.reduceOfNat, Nat.reduceLT, Int.reduceEq, Int.reduceAdd, Int.reduceSub, Int.reduceMul]
                repeat' (first | with_reducible assumption | refine And.intro ?_ ?_ | intro _)
                all_goals try omega
                refine xAgain_intro ((lns t).length - (i + 1)) [0, 1] (by omega) (by simp -dsimp -implicitDefEqProofs only [↓Ev.xStp_eq, ↓Ev.P, Ev.Q, Bool.cond_true, Bool.cond_false, eq_self, forall_eq_or_imp, implies_true, forall_const, forall_eq, ↓reduceIte, reduceIte, Nat.reduceEqDiff, Nat.reduceAdd, reduceCtorEq, Nat.reduceSub, Int.reduceToNat, Int.reduceLE, Int.reduceLT, Int.reduceNeg, Nat.reduceBEq, Nat.reduceMul, Nat.reduceLeDiff, Nat.reduceMod, UInt8.reduceOfNat, Nat.reduceLT, Int.reduceEq, Int.reduceAdd, Int.reduceSub, Int.reduceMul]) ⟨i + 1, by omega, rfl, ?_⟩
                rw [hsn]
                simp -dsimp -implicitDefEqProofs only [↓Ev.xStp_eq, ↓Ev.P, Ev.Q, Bool.cond_true, Bool.cond_false, eq_self, forall_eq_or_imp, implies_true, forall_const, forall_eq, ↓reduceIte, reduceIte, Nat.reduceEqDiff, Nat.reduceAdd, reduceCtorEq, Nat.reduceSub, Int.reduceToNat, Int.reduceLE, Int.reduceLT, Int.reduceNeg, Nat.reduceBEq, Nat.reduceMul, Nat.reduceLeDiff, Nat.reduceMod, UInt8.reduceOfNat, Nat.reduceLT, Int.reduceEq, Int.reduceAdd, Int.reduceSub, Int.reduceMul]
                rfl
              · obtain rfl : b = false := by simpa using hy
                have e : pkS m o y false (p, out) s = (1, out ++ s) := by simp [pkS, midL, hp0, hp1, hb, hc]
                rw [e] at hsn hle
                simp only [List.length_append] at hle
                simp -dsimp -implicitDefEqProofs only [hg, hg2, hi3, hp0, hp1, hb, hc, strRows_len, CRMark, ↓Ev.xStp_eq, ↓Ev.P, Ev.Q, Bool.cond_true, Bool.cond_false, eq_self, forall_eq_or_imp, implies_true, forall_const, forall_eq, ↓reduceIte, reduceIte, Nat.reduceEqDiff, Nat.reduceAdd, reduceCtorEq, Nat.reduceSub, Int.reduceToNat, Int.reduceLE, Int.reduceLT, Int.reduceNeg, Nat.reduceBEq, Nat.reduceMul, Nat.reduceLeDiff, Nat.reduceMod, UInt8.reduceOfNat, Nat.reduceLT, Int.reduceEq, Int.reduceAdd, Int.reduceSub, Int.reduceMul]
                repeat' (first | with_reducible assumption | refine And.intro ?_ ?_ | intro _)
                all_goals try omega
                refine xAgain_intro ((lns t).length - (i + 1)) [0, 1] (by omega) (by simp -dsimp -implicitDefEqProofs only [↓Ev.xStp_eq, ↓Ev.P, Ev.Q, Bool.cond_true, Bool.cond_false, eq_self, forall_eq_or_imp, implies_true, forall_const, forall_eq, ↓reduceIte, reduceIte, Nat.reduceEqDiff, Nat.reduceAdd, reduceCtorEq, Nat.reduceSub, Int.reduceToNat, Int.reduceLE, Int.reduceLT, Int.reduceNeg, Nat.reduceBEq, Nat.reduceMul, Nat.reduceLeDiff, Nat.reduceMod, UInt8.reduceOfNat, Nat.reduceLT, Int.reduceEq, Int.reduceAdd, Int.reduceSub, Int.reduceMul]) ⟨i + 1, by omega, rfl, ?_⟩
                rw [hsn]
                simp -dsimp -implicitDefEqProofs only [↓Ev.xStp_eq, ↓Ev.P, Ev.Q, Bool.cond_true, Bool.cond_false, eq_self, forall_eq_or_imp, implies_true, forall_const, forall_eq, ↓reduceIte, reduceIte, Nat.reduceEqDiff, Nat.reduceAdd, reduceCtorEq, Nat.reduceSub, Int.reduceToNat, Int.reduceLE, Int.reduceLT, Int.reduceNeg, Nat.reduceBEq, Nat.reduceMul, Nat.reduceLeDiff, Nat.reduceMod, UInt8.reduceOfNat, Nat.reduceLT, Int.reduceEq, Int.reduceAdd, Int.reduceSub, Int.reduceMul]
                rfl
        · by_cases hp2 : p = 2
          · by_cases hc : s = [61, 61, 61, 61, 61, 61, 61, 10]
            · have e : pkS m o y b (p, out) s = (3, out) := by simp [pkS, midL, hp0, hp1, hp2, eq_true hc]
              rw [e] at hsn hle
              simp -dsimp -implicitDefEqProofs only [hg, hg2, hi3, hp0, hp1, hp2, eq_true hc, strRows_len, CRMark, ↓Ev.xStp_eq, ↓Ev.P, Ev.Q, Bool.cond_true, Bool.cond_false, eq_self, forall_eq_or_imp, implies_true, forall_const, forall_eq, ↓reduceIte, reduceIte, Nat.reduceEqDiff, Nat.reduceAdd, reduceCtorEq, Nat.reduceSub, Int.reduceToNat, Int.reduceLE, Int.reduceLT, Int.reduceNeg, Nat.reduceBEq, Nat.reduceMul, Nat.reduceLeDiff, Nat.reduceMod, UInt8.reduceOfNat, Nat.reduceLT, Int.reduceEq, Int.reduceAdd, Int.reduceSub, Int.reduceMul]
              repeat' (first | with_reducible assumption | refine And.intro ?_ ?_ | intro _)
              all_goals try omega
              refine xAgain_intro ((lns t).length - (i + 1)) [0, 1] (by omega) (by simp -dsimp -implicitDefEqProofs only [↓Ev.xStp_eq, ↓Ev.P, Ev.Q, Bool.cond_true, Bool.cond_false, eq_self, forall_eq_or_imp, implies_true, forall_const, forall_eq, ↓reduceIte, reduceIte, Nat.reduceEqDiff, Nat.reduceAdd, reduceCtorEq, Nat.reduceSub, Int.reduceToNat, Int.reduceLE, Int.reduceLT, Int.reduceNeg, Nat.reduceBEq, Nat.reduceMul, Nat.reduceLeDiff, Nat.reduceMod, UInt8.reduceOfNat, Nat.reduceLT, Int.reduceEq, Int.reduceAdd, Int.reduceSub, Int.reduceMul]) ⟨i + 1, by omega, rfl, ?_⟩
              rw [hsn]
              simp -dsimp -implicitDefEqProofs only [↓Ev.xStp_eq, ↓Ev.P, Ev.Q, Bool.cond_true, Bool.cond_false, eq_self, forall_eq_or_imp, implies_true, forall_const, forall_eq, ↓reduceIte, reduceIte, Nat.reduceEqDiff, Nat.reduceAdd, reduceCtorEq, Nat.reduceSub, Int.reduceToNat, Int.reduceLE, Int.reduceLT, Int.reduceNeg, Nat.reduceBEq, Nat.reduceMul, Nat.reduceLeDiff, Nat.reduceMod, UInt8.reduceOfNat, Nat.reduceLT, Int.reduceEq, Int.reduceAdd, Int.reduceSub, Int.reduceMul]
              rfl
            · have e : pkS m o y b (p, out) s = (2, out) := by simp [pkS, midL, hp0, hp1, hp2, hc]
              rw [e] at hsn hle
              simp -dsimp -implicitDefEqProofs only [hg, hg2, hi3, hp0, hp1, hp2, hc, strRows_len, CRMark, ↓Ev.xStp_eq, ↓Ev.P, Ev.Q, Bool.cond_true, Bool.cond_false, eq_self, forall_eq_or_imp, implies_true, forall_const, forall_eq, ↓reduceIte, reduceIte, Nat.reduceEqDiff, Nat.reduceAdd, reduceCtorEq, Nat.reduceSub, Int.reduceToNat, Int.reduceLE, Int.reduceLT, Int.reduceNeg, Nat.reduceBEq, Nat.reduceMul, Nat.reduceLeDiff, Nat.reduceMod, UInt8.reduceOfNat, Nat.reduceLT, Int.reduceEq, Int.reduceAdd, Int.reduceSub, Int.reduceMul]
              repeat' (first | with_reducible assumption | refine And.intro ?_ ?_ | intro _)
              all_goals try omega
              refine xAgain_intro ((lns t).length - (i + 1)) [0, 1] (by omega) (by simp -dsimp -implicitDefEqProofs only [↓Ev.xStp_eq, ↓Ev.P, Ev.Q, Bool.cond_true, Bool.cond_false, eq_self, forall_eq_or_imp, implies_true, forall_const, forall_eq, ↓reduceIte, reduceIte, Nat.reduceEqDiff, Nat.reduceAdd, reduceCtorEq, Nat.reduceSub, Int.reduceToNat, Int.reduceLE, Int.reduceLT, Int.reduceNeg, Nat.reduceBEq, Nat.reduceMul, Nat.reduceLeDiff, Nat.reduceMod, UInt8.reduceOfNat, Nat.reduceLT, Int.reduceEq, Int.reduceAdd, Int.reduceSub, Int.reduceMul]) ⟨i + 1, by omega, rfl, ?_⟩
              rw [hsn]
              simp -dsimp -implicitDefEqProofs only [↓Ev.xStp_eq, ↓Ev.P, Ev.Q, Bool.cond_true, Bool.cond_false, eq_self, forall_eq_or_imp, implies_true, forall_const, forall_eq, ↓reduceIte, reduceIte, Nat.reduceEqDiff, Nat.reduceAdd, reduceCtorEq, Nat.reduceSub, Int.reduceToNat, Int.reduceLE, Int.reduceLT, Int.reduceNeg, Nat.reduceBEq, Nat.reduceMul, Nat.reduceLeDiff, Nat.reduceMod, UInt8.reduceOfNat, Nat.reduceLT, Int.reduceEq, Int.reduceAdd, Int.reduceSub, Int.reduceMul]
              rfl
          · by_cases hp3 : p = 3
            · by_cases hd : s = mkL 62 y
              · have e : pkS m o y b (p, out) s = (0, out) := by simp [pkS, midL, hp0, hp1, hp2, hp3, eq_true hd]
                rw [e] at hsn hle
                simp -dsimp -implicitDefEqProofs only [hg, hg2, hi3, hp0, hp1, hp2, hp3, eq_true hd, strRows_len, CRMark, ↓Ev.xStp_eq, ↓Ev.P, Ev.Q, Bool.cond_true, Bool.cond_false, eq_self, forall_eq_or_imp, implies_true, forall_const, forall_eq, ↓reduceIte, reduceIte, Nat.reduceEqDiff, Nat.reduceAdd, reduceCtorEq, Nat.reduceSub, Int.reduceToNat, Int.reduceLE, Int.reduceLT, Int.reduceNeg, Nat.reduceBEq, Nat.reduceMul, Nat.reduceLeDiff, Nat.reduceMod, UInt8.reduceOfNat, Nat.reduceLT, Int.reduceEq, Int.reduceAdd, Int.reduceSub, Int.reduceMul]
                repeat' (first | with_reducible assumption | refine And.intro ?_ ?_ | intro _)
                all_goals try omega
                refine xAgain_intro ((lns t).length - (i + 1)) [0, 1] (by omega) (by simp -dsimp -implicitDefEqProofs only [↓Ev.xStp_eq, ↓Ev.P, Ev.Q, Bool.cond_true, Bool.cond_false, eq_self, forall_eq_or_imp, implies_true, forall_const, forall_eq, ↓reduceIte, reduceIte, Nat.reduceEqDiff, Nat.reduceAdd, reduceCtorEq, Nat.reduceSub, Int.reduceToNat, Int.reduceLE, Int.reduceLT, Int.reduceNeg, Nat.reduceBEq, Nat.reduceMul, Nat.reduceLeDiff, Nat.reduceMod, UInt8.reduceOfNat, Nat.reduceLT, Int.reduceEq, Int.reduceAdd, Int.reduceSub, Int.reduceMul]) ⟨i + 1, by omega, rfl, ?_⟩
                rw [hsn]
                simp -dsimp -implicitDefEqProofs only [↓Ev.xStp_eq, ↓Ev.P, Ev.Q, Bool.cond_true, Bool.cond_false, eq_self, forall_eq_or_imp, implies_true, forall_const, forall_eq, ↓reduceIte, reduceIte, Nat.reduceEqDiff, Nat.reduceAdd, reduceCtorEq, Nat.reduceSub, Int.reduceToNat, Int.reduceLE, Int.reduceLT, Int.reduceNeg, Nat.reduceBEq, Nat.reduceMul, Nat.reduceLeDiff, Nat.reduceMod, UInt8.reduceOfNat, Nat.reduceLT, Int.reduceEq, Int.reduceAdd, Int.reduceSub, Int.reduceMul]
                rfl
              · by_cases hy : b = true
                · subst hy
                  have e : pkS m o y true (p, out) s = (3, out ++ s) := by simp [pkS, midL, hp0, hp1, hp2, hp3, hd]
                  rw [e] at hsn hle
                  simp only [List.length_append] at hle
                  simp -dsimp -implicitDefEqProofs only [hg, hg2, hi3, hp0, hp1, hp2, hp3, hd, strRows_len, CRMark, ↓Ev.xStp_eq, ↓Ev.P, Ev.Q, Bool.cond_true, Bool.cond_false, eq_self, forall_eq_or_imp, implies_true, forall_const, forall_eq, ↓reduceIte, reduceIte, Nat.reduceEqDiff, Nat.reduceAdd, reduceCtorEq, Nat.reduceSub, Int.reduceToNat, Int.reduceLE, Int.reduceLT, Int.reduceNeg, Nat.reduceBEq, Nat.reduceMul, Nat.reduceLeDiff, Nat.reduceMod, UInt8.reduceOfNat, Nat.reduceLT, Int.reduceEq, Int.reduceAdd, Int.reduceSub, Int.reduceMul]
                  repeat' (first | with_reducible assumption | refine And.intro ?_ ?_ | intro _)
                  all_goals try omega
                  refine xAgain_intro ((lns t).length - (i + 1)) [0, 1] (by omega) (by simp -dsimp -implicitDefEqProofs only [↓Ev.xStp_eq, ↓Ev.P, Ev.Q, Bool.cond_true, Bool.cond_false, eq_self, forall_eq_or_imp, implies_true, forall_const, forall_eq, ↓reduceIte, reduceIte, Nat.reduceEqDiff, Nat.reduceAdd, reduceCtorEq, Nat.reduceSub, Int.reduceToNat, Int.reduceLE, Int.reduceLT, Int.reduceNeg, Nat.reduceBEq, Nat.reduceMul, Nat.reduceLeDiff, Nat.reduceMod, UInt8.reduceOfNat, Nat.reduceLT, Int.reduceEq, Int.reduceAdd, Int.reduceSub, Int.reduceMul]) ⟨i + 1, by omega, rfl, ?_⟩
                  rw [hsn]
                  simp -dsimp -implicitDefEqProofs only [↓Ev.xStp_eq, ↓Ev.P, Ev.Q, Bool.cond_true, Bool.cond_false, eq_self, forall_eq_or_imp, implies_true, forall_const, forall_eq, ↓reduceIte, reduceIte, Nat.reduceEqDiff, Nat.reduceAdd, reduceCtorEq, Nat.reduceSub, Int.reduceToNat, Int.reduceLE, Int.reduceLT, Int.reduceNeg, Nat.reduceBEq, Nat.reduceMul, Nat.reduceLeDiff, Nat.reduceMod, UInt8.reduceOfNat, Nat.reduceLT, Int.reduceEq, Int.reduceAdd, Int.reduceSub, Int.reduceMul]
                  rfl
                · obtain rfl : b = false := by simpa using hy
                  have e : pkS m o y false (p, out) s = (3, out) := by simp [pkS, midL, hp0, hp1, hp2, hp3, hd]
                  rw [e] at hsn hle
                  simp -dsimp -implicitDefEqProofs only [hg, hg2, hi3, hp0, hp1, hp2, hp3, hd, strRows_len, CRMark, ↓Ev.xStp_eq, ↓Ev.P, Ev.Q, Bool.cond_true, Bool.cond_false, eq_self, forall_eq_or_imp, implies_true, forall_const, forall_eq, ↓reduceIte, reduceIte, Nat.reduceEqDiff, Nat.reduceAdd, reduceCtorEq, Nat.reduceSub, Int.reduceToNat, Int.reduceLE, Int.reduceLT, Int.reduceNeg, Nat.reduceBEq, Nat.reduceMul, Nat.reduceLeDiff, Nat.reduceMod, UInt8.reduceOfNat, Nat.reduceLT, Int.reduceEq, Int.reduceAdd, Int.reduceSub, Int.reduceMul]
                  repeat' (first | with_reducible assumption | refine And.intro ?_ ?_ | intro _)
                  all_goals try omega
                  refine xAgain_intro ((lns t).length - (i + 1)) [0, 1] (by omega) (by simp -dsimp -implicitDefEqProofs only [↓Ev.xStp_eq, ↓Ev.P, Ev.Q, Bool.cond_true, Bool.cond_false, eq_self, forall_eq_or_imp, implies_true, forall_const, forall_eq, ↓reduceIte, reduceIte, Nat.reduceEqDiff, Nat.reduceAdd, reduceCtorEq, Nat.reduceSub, Int.reduceToNat, Int.reduceLE, Int.reduceLT, Int.reduceNeg, Nat.reduceBEq, Nat.reduceMul, Nat.reduceLeDiff, Nat.reduceMod, UInt8.reduceOfNat, Nat.reduceLT, Int.reduceEq, Int.reduceAdd, Int.reduceSub, Int.reduceMul]) ⟨i + 1, by omega, rfl, ?_⟩
                  rw [hsn]
                  simp -dsimp -implicitDefEqProofs only [↓Ev.xStp_eq, ↓Ev.P, Ev.Q, Bool.cond_true, Bool.cond_false, eq_self, forall_eq_or_imp, implies_true, forall_const, forall_eq, ↓reduceIte, reduceIte, Nat.reduceEqDiff, Nat.reduceAdd, reduceCtorEq, Nat.reduceSub, Int.reduceToNat, Int.reduceLE, Int.reduceLT, Int.reduceNeg, Nat.reduceBEq, Nat.reduceMul, Nat.reduceLeDiff, Nat.reduceMod, UInt8.reduceOfNat, Nat.reduceLT, Int.reduceEq, Int.reduceAdd, Int.reduceSub, Int.reduceMul]
                  rfl
            · have e : pkS m o y b (p, out) s = (p, out) := by simp [pkS, midL, hp0, hp1, hp2, hp3]
              rw [e] at hsn hle
              simp -dsimp -implicitDefEqProofs only [hg, hg2, hi3, hp0, hp1, hp2, hp3, strRows_len, CRMark, ↓Ev.xStp_eq, ↓Ev.P, Ev.Q, Bool.cond_true, Bool.cond_false, eq_self, forall_eq_or_imp, implies_true, forall_const, forall_eq, ↓reduceIte, reduceIte, Nat.reduceEqDiff, Nat.reduceAdd, reduceCtorEq, Nat.reduceSub, Int.reduceToNat, Int.reduceLE, Int.reduceLT, Int.reduceNeg, Nat.reduceBEq, Nat.reduceMul, Nat.reduceLeDiff, Nat.reduceMod, UInt8.reduceOfNat, Nat.reduceLT, Int.reduceEq, Int.reduceAdd, Int.reduceSub, Int.reduceMul]
              repeat' (first | with_reducible assumption | refine And.intro ?_ ?_ | intro _)
              all_goals try omega
              refine xAgain_intro ((lns t).length - (i + 1)) [0, 1] (by omega) (by simp -dsimp -implicitDefEqProofs only [↓Ev.xStp_eq, ↓Ev.P, Ev.Q, Bool.cond_true, Bool.cond_false, eq_self, forall_eq_or_imp, implies_true, forall_const, forall_eq, ↓reduceIte, reduceIte, Nat.reduceEqDiff, Nat.reduceAdd, reduceCtorEq, Nat.reduceSub, Int.reduceToNat, Int.reduceLE, Int.reduceLT, Int.reduceNeg, Nat.reduceBEq, Nat.reduceMul, Nat.reduceLeDiff, Nat.reduceMod, UInt8.reduceOfNat, Nat.reduceLT, Int.reduceEq, Int.reduceAdd, Int.reduceSub, Int.reduceMul]) ⟨i + 1, by omega, rfl, ?_⟩
              rw [hsn]
              simp -dsimp -implicitDefEqProofs only [↓Ev.xStp_eq, ↓Ev.P, Ev.Q, Bool.cond_true, Bool.cond_false, eq_self, forall_eq_or_imp, implies_true, forall_const, forall_eq, ↓reduceIte, reduceIte, Nat.reduceEqDiff, Nat.reduceAdd, reduceCtorEq, Nat.reduceSub, Int.reduceToNat, Int.reduceLE, Int.reduceLT, Int.reduceNeg, Nat.reduceBEq, Nat.reduceMul, Nat.reduceLeDiff, Nat.reduceMod, UInt8.reduceOfNat, Nat.reduceLT, Int.reduceEq, Int.reduceAdd, Int.reduceSub, Int.reduceMul]
              rfl
      -- END REF
    · have hi3 : ¬ (i : Int) < (lns t).length := by omega
      have htk : (lns t).take i = lns t := List.take_of_length_le (by omega)
      rw [htk]
      by_cases hp : (pkF m o y b (lns t)).1 = 0
      · rw [if_pos hp, if_pos hp] at hk
        simp -dsimp -implicitDefEqProofs only [hi3, hp, strRows_len, Ev.parts, Ev.St.giveC, ↓Ev.xStp_eq, ↓Ev.P, Ev.Q, Bool.cond_true, Bool.cond_false, eq_self, forall_eq_or_imp, implies_true, forall_const, forall_eq, ↓reduceIte, reduceIte, Nat.reduceEqDiff, Nat.reduceAdd, reduceCtorEq, Nat.reduceSub, Int.reduceToNat, Int.reduceLE, Int.reduceLT, Int.reduceNeg, Nat.reduceBEq, Nat.reduceMul, Nat.reduceLeDiff, Nat.reduceMod, UInt8.reduceOfNat, Nat.reduceLT, Int.reduceEq, Int.reduceAdd, Int.reduceSub, Int.reduceMul]
        exact hk
      · rw [if_neg hp, if_neg hp] at hk
        simp -dsimp -implicitDefEqProofs only [hi3, hp, strRows_len, Ev.parts, Ev.St.giveC, ↓Ev.xStp_eq, ↓Ev.P, Ev.Q, Bool.cond_true, Bool.cond_false, eq_self, forall_eq_or_imp, implies_true, forall_const, forall_eq, ↓reduceIte, reduceIte, Nat.reduceEqDiff, Nat.reduceAdd, reduceCtorEq, Nat.reduceSub, Int.reduceToNat, Int.reduceLE, Int.reduceLT, Int.reduceNeg, Nat.reduceBEq, Nat.reduceMul, Nat.reduceLeDiff, Nat.reduceMod, UInt8.reduceOfNat, Nat.reduceLT, Int.reduceEq, Int.reduceAdd, Int.reduceSub, Int.reduceMul]
        exact ⟨by omega, hk⟩
set_option maxHeartbeats 4000000 in
theorem s34 : Sound G Tryd.prog 34 CPick := by
  refine sd34 (T := tabT [(81, CNamed), (82, CSplit), (83, CMark), (43, bldC gWS), (45, strC 5)]) (tab_cons s81 (tab_cons s82 (tab_cons s83 (tab_cons sWS (tab_cons sST tab_nil))))) (pureC_lawful _) (pure_hX fun args p x K h hp hk => ?_)
  split at h <;> simp only [Option.some.injEq, Prod.mk.injEq, reduceCtorEq] at h
  obtain ⟨rfl, rfl⟩ := h
  rename_i t m o y b
  obtain ⟨t, rfl⟩ := ex_str t
  obtain ⟨m, rfl⟩ := ex_str m
  obtain ⟨o, rfl⟩ := ex_str o
  obtain ⟨y, rfl⟩ := ex_str y
  simp only [sem_str] at hp hk
  obtain ⟨h1, h2, h3, h4⟩ := hp
  refine ⟨Nat.le_of_ble_eq_true rfl, ?_⟩
  by_cases hn : (nf m && nf o && nf y) = false
  · rw [pickT, pickE, if_pos hn, if_pos hn, fltD, if_neg (by decide)] at hk
    simp -dsimp -implicitDefEqProofs only [S34, R34, CNamed, hn, Ev.parts, Ev.St.giveC, ↓Ev.xStp_eq, ↓Ev.P, Ev.Q, Bool.cond_true, Bool.cond_false, eq_self, forall_eq_or_imp, implies_true, forall_const, forall_eq, ↓reduceIte, reduceIte, Nat.reduceEqDiff, Nat.reduceAdd, reduceCtorEq, Nat.reduceSub, Int.reduceToNat, Int.reduceLE, Int.reduceLT, Int.reduceNeg, Nat.reduceBEq, Nat.reduceMul, Nat.reduceLeDiff, Nat.reduceMod, UInt8.reduceOfNat, Nat.reduceLT, Int.reduceEq, Int.reduceAdd, Int.reduceSub, Int.reduceMul]
    repeat' (first | with_reducible assumption | refine And.intro ?_ ?_ | intro _)
    all_goals first | omega | exact hk
  rw [pickT, pickE, if_neg hn, if_neg hn] at hk
  simp only [Bool.not_eq_false] at hn
  have hl := lns_len t
  simp -dsimp -implicitDefEqProofs only [S34, R34, CNamed, CSplit, hn, Ev.St.giveC, ↓Ev.xStp_eq, ↓Ev.P, Ev.Q, Bool.cond_true, Bool.cond_false, eq_self, forall_eq_or_imp, implies_true, forall_const, forall_eq, ↓reduceIte, reduceIte, Nat.reduceEqDiff, Nat.reduceAdd, reduceCtorEq, Nat.reduceSub, Int.reduceToNat, Int.reduceLE, Int.reduceLT, Int.reduceNeg, Nat.reduceBEq, Nat.reduceMul, Nat.reduceLeDiff, Nat.reduceMod, UInt8.reduceOfNat, Nat.reduceLT, Int.reduceEq, Int.reduceAdd, Int.reduceSub, Int.reduceMul]
  refine ⟨⟨by omega, by omega, by omega⟩, by omega, ?_⟩
  refine xLoop_intro (fun n st => ∃ i : Nat, i ≤ (lns t).length ∧ n = (lns t).length - i ∧
      st = ⟨[(2, .d (.v (.bool b))), (4, .ptr 0 0), (8, .ptr 1 0), (9, .d (.v (.int .i64 (pkF m o y b ((lns t).take i)).1))), (10, .d (.sl (strRows (lns t)))), (22, .d (.sl (strRows (lns t)))), (23, .d (.v (.int .i64 (lns t).length))), (24, .d (.v (.int .i64 i)))], 2,
        [(0, .cells 50 [.d (.v (.string ⟨m.toArray⟩)), .d (.v (.string ⟨o.toArray⟩)), .d (.v (.string ⟨y.toArray⟩))]), (1, .bld 70 5 (pkF m o y b ((lns t).take i)).2)]⟩) (lns t).length [0, 1] ?_ ?_ ?_
  · simp -dsimp -implicitDefEqProofs only [↓Ev.xStp_eq, ↓Ev.P, Ev.Q, Bool.cond_true, Bool.cond_false, eq_self, forall_eq_or_imp, implies_true, forall_const, forall_eq, ↓reduceIte, reduceIte, Nat.reduceEqDiff, Nat.reduceAdd, reduceCtorEq, Nat.reduceSub, Int.reduceToNat, Int.reduceLE, Int.reduceLT, Int.reduceNeg, Nat.reduceBEq, Nat.reduceMul, Nat.reduceLeDiff, Nat.reduceMod, UInt8.reduceOfNat, Nat.reduceLT, Int.reduceEq, Int.reduceAdd, Int.reduceSub, Int.reduceMul]
  · simp -dsimp -implicitDefEqProofs only [↓Ev.xStp_eq, ↓Ev.P, Ev.Q, Bool.cond_true, Bool.cond_false, eq_self, forall_eq_or_imp, implies_true, forall_const, forall_eq, ↓reduceIte, reduceIte, Nat.reduceEqDiff, Nat.reduceAdd, reduceCtorEq, Nat.reduceSub, Int.reduceToNat, Int.reduceLE, Int.reduceLT, Int.reduceNeg, Nat.reduceBEq, Nat.reduceMul, Nat.reduceLeDiff, Nat.reduceMod, UInt8.reduceOfNat, Nat.reduceLT, Int.reduceEq, Int.reduceAdd, Int.reduceSub, Int.reduceMul]
    exact ⟨0, by omega, by omega, by simp [pkF, strRows_len]⟩
  · rintro n st ⟨i, hi, hn2, rfl⟩
    by_cases hil : i < (lns t).length
    · have hi3 : (i : Int) < (lns t).length := by omega
      have hg := strRows_get hil
      have hg2 : (strRows (lns t)).getD i [] = [.v (.string ⟨((lns t).getD i []).toArray⟩)] := by rw [List.getD_eq_getElem?_getD, hg]; rfl
      have hsn := pkF_snoc m o y b hil
      have hle := pkF_len m o y b (lns t) (i + 1) hil
      have hls := lns_size t (i + 1)
      have hone := lns_one hil
      generalize (lns t).getD i [] = s at hg hg2 hsn hone
      rw [hsn] at hle
      generalize pkF m o y b ((lns t).take i) = q at hsn hle ⊢
      obtain ⟨p, out⟩ := q
      -- PRO WAYS
      by_cases hp0 : p = 0
      · by_cases ha : s = mkL 60 m
        · have e : pkS m o y b (p, out) s = (1, out) := by simp [pkS, midL, hp0, eq_true ha]
          rw [e] at hsn hle
          simp -dsimp -implicitDefEqProofs only [hg, hg2, hi3, hp0, eq_true ha, strRows_len, CMark, gWS, bldT, Ev.St.giveC, ↓Ev.xStp_eq, ↓Ev.P, Ev.Q, Bool.cond_true, Bool.cond_false, eq_self, forall_eq_or_imp, implies_true, forall_const, forall_eq, ↓reduceIte, reduceIte, Nat.reduceEqDiff, Nat.reduceAdd, reduceCtorEq, Nat.reduceSub, Int.reduceToNat, Int.reduceLE, Int.reduceLT, Int.reduceNeg, Nat.reduceBEq, Nat.reduceMul, Nat.reduceLeDiff, Nat.reduceMod, UInt8.reduceOfNat, Nat.reduceLT, Int.reduceEq, Int.reduceAdd, Int.reduceSub, Int.reduceMul]
          repeat' (first | with_reducible assumption | refine And.intro ?_ ?_ | intro _)
          all_goals try omega
          refine xAgain_intro ((lns t).length - (i + 1)) [0, 1] (by omega) (by simp -dsimp -implicitDefEqProofs only [↓Ev.xStp_eq, ↓Ev.P, Ev.Q, Bool.cond_true, Bool.cond_false, eq_self, forall_eq_or_imp, implies_true, forall_const, forall_eq, ↓reduceIte, reduceIte, Nat.reduceEqDiff, Nat.reduceAdd, reduceCtorEq, Nat.reduceSub, Int.reduceToNat, Int.reduceLE, Int.reduceLT, Int.reduceNeg, Nat.reduceBEq, Nat.reduceMul, Nat.reduceLeDiff, Nat.reduceMod, UInt8.reduceOfNat, Nat.reduceLT, Int.reduceEq, Int.reduceAdd, Int.reduceSub, Int.reduceMul]) ⟨i + 1, by omega, rfl, ?_⟩
          rw [hsn]
          simp -dsimp -implicitDefEqProofs only [↓Ev.xStp_eq, ↓Ev.P, Ev.Q, Bool.cond_true, Bool.cond_false, eq_self, forall_eq_or_imp, implies_true, forall_const, forall_eq, ↓reduceIte, reduceIte, Nat.reduceEqDiff, Nat.reduceAdd, reduceCtorEq, Nat.reduceSub, Int.reduceToNat, Int.reduceLE, Int.reduceLT, Int.reduceNeg, Nat.reduceBEq, Nat.reduceMul, Nat.reduceLeDiff, Nat.reduceMod, UInt8.reduceOfNat, Nat.reduceLT, Int.reduceEq, Int.reduceAdd, Int.reduceSub, Int.reduceMul]
          rfl
        · have e : pkS m o y b (p, out) s = (0, out ++ s) := by simp [pkS, midL, hp0, ha]
          rw [e] at hsn hle
          simp only [List.length_append] at hle
          simp -dsimp -implicitDefEqProofs only [hg, hg2, hi3, hp0, ha, strRows_len, CMark, gWS, bldT, Ev.St.giveC, ↓Ev.xStp_eq, ↓Ev.P, Ev.Q, Bool.cond_true, Bool.cond_false, eq_self, forall_eq_or_imp, implies_true, forall_const, forall_eq, ↓reduceIte, reduceIte, Nat.reduceEqDiff, Nat.reduceAdd, reduceCtorEq, Nat.reduceSub, Int.reduceToNat, Int.reduceLE, Int.reduceLT, Int.reduceNeg, Nat.reduceBEq, Nat.reduceMul, Nat.reduceLeDiff, Nat.reduceMod, UInt8.reduceOfNat, Nat.reduceLT, Int.reduceEq, Int.reduceAdd, Int.reduceSub, Int.reduceMul]
          repeat' (first | with_reducible assumption | refine And.intro ?_ ?_ | intro _)
          all_goals try omega
          refine xAgain_intro ((lns t).length - (i + 1)) [0, 1] (by omega) (by simp -dsimp -implicitDefEqProofs only [↓Ev.xStp_eq, ↓Ev.P, Ev.Q, Bool.cond_true, Bool.cond_false, eq_self, forall_eq_or_imp, implies_true, forall_const, forall_eq, ↓reduceIte, reduceIte, Nat.reduceEqDiff, Nat.reduceAdd, reduceCtorEq, Nat.reduceSub, Int.reduceToNat, Int.reduceLE, Int.reduceLT, Int.reduceNeg, Nat.reduceBEq, Nat.reduceMul, Nat.reduceLeDiff, Nat.reduceMod, UInt8.reduceOfNat, Nat.reduceLT, Int.reduceEq, Int.reduceAdd, Int.reduceSub, Int.reduceMul]) ⟨i + 1, by omega, rfl, ?_⟩
          rw [hsn]
          simp -dsimp -implicitDefEqProofs only [↓Ev.xStp_eq, ↓Ev.P, Ev.Q, Bool.cond_true, Bool.cond_false, eq_self, forall_eq_or_imp, implies_true, forall_const, forall_eq, ↓reduceIte, reduceIte, Nat.reduceEqDiff, Nat.reduceAdd, reduceCtorEq, Nat.reduceSub, Int.reduceToNat, Int.reduceLE, Int.reduceLT, Int.reduceNeg, Nat.reduceBEq, Nat.reduceMul, Nat.reduceLeDiff, Nat.reduceMod, UInt8.reduceOfNat, Nat.reduceLT, Int.reduceEq, Int.reduceAdd, Int.reduceSub, Int.reduceMul]
          rfl
      · by_cases hp1 : p = 1
        · by_cases hb : s = mkL 124 o
          · have e : pkS m o y b (p, out) s = (2, out) := by simp [pkS, midL, hp0, hp1, eq_true hb]
            rw [e] at hsn hle
            simp -dsimp -implicitDefEqProofs only [hg, hg2, hi3, hp0, hp1, eq_true hb, strRows_len, CMark, gWS, bldT, Ev.St.giveC, ↓Ev.xStp_eq, ↓Ev.P, Ev.Q, Bool.cond_true, Bool.cond_false, eq_self, forall_eq_or_imp, implies_true, forall_const, forall_eq, ↓reduceIte, reduceIte, Nat.reduceEqDiff, Nat.reduceAdd, reduceCtorEq, Nat.reduceSub, Int.reduceToNat, Int.reduceLE, Int.reduceLT, Int.reduceNeg, Nat.reduceBEq, Nat.reduceMul, Nat.reduceLeDiff, Nat.reduceMod, UInt8.reduceOfNat, Nat.reduceLT, Int.reduceEq, Int.reduceAdd, Int.reduceSub, Int.reduceMul]
            repeat' (first | with_reducible assumption | refine And.intro ?_ ?_ | intro _)
            all_goals try omega
            refine xAgain_intro ((lns t).length - (i + 1)) [0, 1] (by omega) (by simp -dsimp -implicitDefEqProofs only [↓Ev.xStp_eq, ↓Ev.P, Ev.Q, Bool.cond_true, Bool.cond_false, eq_self, forall_eq_or_imp, implies_true, forall_const, forall_eq, ↓reduceIte, reduceIte, Nat.reduceEqDiff, Nat.reduceAdd, reduceCtorEq, Nat.reduceSub, Int.reduceToNat, Int.reduceLE, Int.reduceLT, Int.reduceNeg, Nat.reduceBEq, Nat.reduceMul, Nat.reduceLeDiff, Nat.reduceMod, UInt8.reduceOfNat, Nat.reduceLT, Int.reduceEq, Int.reduceAdd, Int.reduceSub, Int.reduceMul]) ⟨i + 1, by omega, rfl, ?_⟩
            rw [hsn]
            simp -dsimp -implicitDefEqProofs only [↓Ev.xStp_eq, ↓Ev.P, Ev.Q, Bool.cond_true, Bool.cond_false, eq_self, forall_eq_or_imp, implies_true, forall_const, forall_eq, ↓reduceIte, reduceIte, Nat.reduceEqDiff, Nat.reduceAdd, reduceCtorEq, Nat.reduceSub, Int.reduceToNat, Int.reduceLE, Int.reduceLT, Int.reduceNeg, Nat.reduceBEq, Nat.reduceMul, Nat.reduceLeDiff, Nat.reduceMod, UInt8.reduceOfNat, Nat.reduceLT, Int.reduceEq, Int.reduceAdd, Int.reduceSub, Int.reduceMul]
            rfl
          · by_cases hc : s = [61, 61, 61, 61, 61, 61, 61, 10]
            · have e : pkS m o y b (p, out) s = (3, out) := by simp [pkS, midL, hp0, hp1, hb, eq_true hc]
              rw [e] at hsn hle
              simp -dsimp -implicitDefEqProofs only [hg, hg2, hi3, hp0, hp1, hb, eq_true hc, strRows_len, CMark, gWS, bldT, Ev.St.giveC, ↓Ev.xStp_eq, ↓Ev.P, Ev.Q, Bool.cond_true, Bool.cond_false, eq_self, forall_eq_or_imp, implies_true, forall_const, forall_eq, ↓reduceIte, reduceIte, Nat.reduceEqDiff, Nat.reduceAdd, reduceCtorEq, Nat.reduceSub, Int.reduceToNat, Int.reduceLE, Int.reduceLT, Int.reduceNeg, Nat.reduceBEq, Nat.reduceMul, Nat.reduceLeDiff, Nat.reduceMod, UInt8.reduceOfNat, Nat.reduceLT, Int.reduceEq, Int.reduceAdd, Int.reduceSub, Int.reduceMul]
              repeat' (first | with_reducible assumption | refine And.intro ?_ ?_ | intro _)
              all_goals try omega
              refine xAgain_intro ((lns t).length - (i + 1)) [0, 1] (by omega) (by simp -dsimp -implicitDefEqProofs only [↓Ev.xStp_eq, ↓Ev.P, Ev.Q, Bool.cond_true, Bool.cond_false, eq_self, forall_eq_or_imp, implies_true, forall_const, forall_eq, ↓reduceIte, reduceIte, Nat.reduceEqDiff, Nat.reduceAdd, reduceCtorEq, Nat.reduceSub, Int.reduceToNat, Int.reduceLE, Int.reduceLT, Int.reduceNeg, Nat.reduceBEq, Nat.reduceMul, Nat.reduceLeDiff, Nat.reduceMod, UInt8.reduceOfNat, Nat.reduceLT, Int.reduceEq, Int.reduceAdd, Int.reduceSub, Int.reduceMul]) ⟨i + 1, by omega, rfl, ?_⟩
              rw [hsn]
              simp -dsimp -implicitDefEqProofs only [↓Ev.xStp_eq, ↓Ev.P, Ev.Q, Bool.cond_true, Bool.cond_false, eq_self, forall_eq_or_imp, implies_true, forall_const, forall_eq, ↓reduceIte, reduceIte, Nat.reduceEqDiff, Nat.reduceAdd, reduceCtorEq, Nat.reduceSub, Int.reduceToNat, Int.reduceLE, Int.reduceLT, Int.reduceNeg, Nat.reduceBEq, Nat.reduceMul, Nat.reduceLeDiff, Nat.reduceMod, UInt8.reduceOfNat, Nat.reduceLT, Int.reduceEq, Int.reduceAdd, Int.reduceSub, Int.reduceMul]
              rfl
            · by_cases hy : b = true
              · subst hy
                have e : pkS m o y true (p, out) s = (1, out) := by simp [pkS, midL, hp0, hp1, hb, hc]
                rw [e] at hsn hle
                simp -dsimp -implicitDefEqProofs only [hg, hg2, hi3, hp0, hp1, hb, hc, strRows_len, CMark, gWS, bldT, Ev.St.giveC, ↓Ev.xStp_eq, ↓Ev.P, Ev.Q, Bool.cond_true, Bool.cond_false, eq_self, forall_eq_or_imp, implies_true, forall_const, forall_eq, ↓reduceIte, reduceIte, Nat.reduceEqDiff, Nat.reduceAdd, reduceCtorEq, Nat.reduceSub, Int.reduceToNat, Int.reduceLE, Int.reduceLT, Int.reduceNeg, Nat.reduceBEq, Nat.reduceMul, Nat.reduceLeDiff, Nat.reduceMod, UInt8.reduceOfNat, Nat.reduceLT, Int.reduceEq, Int.reduceAdd, Int.reduceSub, Int.reduceMul]
                repeat' (first | with_reducible assumption | refine And.intro ?_ ?_ | intro _)
                all_goals try omega
                refine xAgain_intro ((lns t).length - (i + 1)) [0, 1] (by omega) (by simp -dsimp -implicitDefEqProofs only [↓Ev.xStp_eq, ↓Ev.P, Ev.Q, Bool.cond_true, Bool.cond_false, eq_self, forall_eq_or_imp, implies_true, forall_const, forall_eq, ↓reduceIte, reduceIte, Nat.reduceEqDiff, Nat.reduceAdd, reduceCtorEq, Nat.reduceSub, Int.reduceToNat, Int.reduceLE, Int.reduceLT, Int.reduceNeg, Nat.reduceBEq, Nat.reduceMul, Nat.reduceLeDiff, Nat.reduceMod, UInt8.reduceOfNat, Nat.reduceLT, Int.reduceEq, Int.reduceAdd, Int.reduceSub, Int.reduceMul]) ⟨i + 1, by omega, rfl, ?_⟩
                rw [hsn]
                simp -dsimp -implicitDefEqProofs only [↓Ev.xStp_eq, ↓Ev.P, Ev.Q, Bool.cond_true, Bool.cond_false, eq_self, forall_eq_or_imp, implies_true, forall_const, forall_eq, ↓reduceIte, reduceIte, Nat.reduceEqDiff, Nat.reduceAdd, reduceCtorEq, Nat.reduceSub, Int.reduceToNat, Int.reduceLE, Int.reduceLT, Int.reduceNeg, Nat.reduceBEq, Nat.reduceMul, Nat.reduceLeDiff, Nat.reduceMod, UInt8.reduceOfNat, Nat.reduceLT, Int.reduceEq, Int.reduceAdd, Int.reduceSub, Int.reduceMul]
                rfl
              · obtain rfl : b = false := by simpa using hy
                have e : pkS m o y false (p, out) s = (1, out ++ s) := by simp [pkS, midL, hp0, hp1, hb, hc]
                rw [e] at hsn hle
                simp only [List.length_append] at hle
                simp -dsimp -implicitDefEqProofs only [hg, hg2, hi3, hp0, hp1, hb, hc, strRows_len, CMark, gWS, bldT, Ev.St.giveC, ↓Ev.xStp_eq, ↓Ev.P, Ev.Q, Bool.cond_true, Bool.cond_false, eq_self, forall_eq_or_imp, implies_true, forall_const, forall_eq, ↓reduceIte, reduceIte, Nat.reduceEqDiff, Nat.reduceAdd, reduceCtorEq, Nat.reduceSub, Int.reduceToNat, Int.reduceLE, Int.reduceLT, Int.reduceNeg, Nat.reduceBEq, Nat.reduceMul, Nat.reduceLeDiff, Nat.reduceMod, UInt8.reduceOfNat, Nat.reduceLT, Int.reduceEq, Int.reduceAdd, Int.reduceSub, Int.reduceMul]
                repeat' (first | with_reducible assumption | refine And.intro ?_ ?_ | intro _)
                all_goals try omega
                refine xAgain_intro ((lns t).length - (i + 1)) [0, 1] (by omega) (by simp -dsimp -implicitDefEqProofs only [↓Ev.xStp_eq, ↓Ev.P, Ev.Q, Bool.cond_true, Bool.cond_false, eq_self, forall_eq_or_imp, implies_true, forall_const, forall_eq, ↓reduceIte, reduceIte, Nat.reduceEqDiff, Nat.reduceAdd, reduceCtorEq, Nat.reduceSub, Int.reduceToNat, Int.reduceLE, Int.reduceLT, Int.reduceNeg, Nat.reduceBEq, Nat.reduceMul, Nat.reduceLeDiff, Nat.reduceMod, UInt8.reduceOfNat, Nat.reduceLT, Int.reduceEq, Int.reduceAdd, Int.reduceSub, Int.reduceMul]) ⟨i + 1, by omega, rfl, ?_⟩
                rw [hsn]
                simp -dsimp -implicitDefEqProofs only [↓Ev.xStp_eq, ↓Ev.P, Ev.Q, Bool.cond_true, Bool.cond_false, eq_self, forall_eq_or_imp, implies_true, forall_const, forall_eq, ↓reduceIte, reduceIte, Nat.reduceEqDiff, Nat.reduceAdd, reduceCtorEq, Nat.reduceSub, Int.reduceToNat, Int.reduceLE, Int.reduceLT, Int.reduceNeg, Nat.reduceBEq, Nat.reduceMul, Nat.reduceLeDiff, Nat.reduceMod, UInt8.reduceOfNat, Nat.reduceLT, Int.reduceEq, Int.reduceAdd, Int.reduceSub, Int.reduceMul]
                rfl
        · by_cases hp2 : p = 2
          · by_cases hc : s = [61, 61, 61, 61, 61, 61, 61, 10]
            · have e : pkS m o y b (p, out) s = (3, out) := by simp [pkS, midL, hp0, hp1, hp2, eq_true hc]
              rw [e] at hsn hle
              simp -dsimp -implicitDefEqProofs only [hg, hg2, hi3, hp0, hp1, hp2, eq_true hc, strRows_len, CMark, gWS, bldT, Ev.St.giveC, ↓Ev.xStp_eq, ↓Ev.P, Ev.Q, Bool.cond_true, Bool.cond_false, eq_self, forall_eq_or_imp, implies_true, forall_const, forall_eq, ↓reduceIte, reduceIte, Nat.reduceEqDiff, Nat.reduceAdd, reduceCtorEq, Nat.reduceSub, Int.reduceToNat, Int.reduceLE, Int.reduceLT, Int.reduceNeg, Nat.reduceBEq, Nat.reduceMul, Nat.reduceLeDiff, Nat.reduceMod, UInt8.reduceOfNat, Nat.reduceLT, Int.reduceEq, Int.reduceAdd, Int.reduceSub, Int.reduceMul]
              repeat' (first | with_reducible assumption | refine And.intro ?_ ?_ | intro _)
              all_goals try omega
              refine xAgain_intro ((lns t).length - (i + 1)) [0, 1] (by omega) (by simp -dsimp -implicitDefEqProofs only [↓Ev.xStp_eq, ↓Ev.P, Ev.Q, Bool.cond_true, Bool.cond_false, eq_self, forall_eq_or_imp, implies_true, forall_const, forall_eq, ↓reduceIte, reduceIte, Nat.reduceEqDiff, Nat.reduceAdd, reduceCtorEq, Nat.reduceSub, Int.reduceToNat, Int.reduceLE, Int.reduceLT, Int.reduceNeg, Nat.reduceBEq, Nat.reduceMul, Nat.reduceLeDiff, Nat.reduceMod, UInt8.reduceOfNat, Nat.reduceLT, Int.reduceEq, Int.reduceAdd, Int.reduceSub, Int.reduceMul]) ⟨i + 1, by omega, rfl, ?_⟩
              rw [hsn]
              simp -dsimp -implicitDefEqProofs only [↓Ev.xStp_eq, ↓Ev.P, Ev.Q, Bool.cond_true, Bool.cond_false, eq_self, forall_eq_or_imp, implies_true, forall_const, forall_eq, ↓reduceIte, reduceIte, Nat.reduceEqDiff, Nat.reduceAdd, reduceCtorEq, Nat.reduceSub, Int.reduceToNat, Int.reduceLE, Int.reduceLT, Int.reduceNeg, Nat.reduceBEq, Nat.reduceMul, Nat.reduceLeDiff, Nat.reduceMod, UInt8.reduceOfNat, Nat.reduceLT, Int.reduceEq, Int.reduceAdd, Int.reduceSub, Int.reduceMul]
              rfl
            · have e : pkS m o y b (p, out) s = (2, out) := by simp [pkS, midL, hp0, hp1, hp2, hc]
              rw [e] at hsn hle
              simp -dsimp -implicitDefEqProofs only [hg, hg2, hi3, hp0, hp1, hp2, hc, strRows_len, CMark, gWS, bldT, Ev.St.giveC, ↓Ev.xStp_eq, ↓Ev.P, Ev.Q, Bool.cond_true, Bool.cond_false, eq_self, forall_eq_or_imp, implies_true, forall_const, forall_eq, ↓reduceIte, reduceIte, Nat.reduceEqDiff, Nat.reduceAdd, reduceCtorEq, Nat.reduceSub, Int.reduceToNat, Int.reduceLE, Int.reduceLT, Int.reduceNeg, Nat.reduceBEq, Nat.reduceMul, Nat.reduceLeDiff, Nat.reduceMod, UInt8.reduceOfNat, Nat.reduceLT, Int.reduceEq, Int.reduceAdd, Int.reduceSub, Int.reduceMul]
              repeat' (first | with_reducible assumption | refine And.intro ?_ ?_ | intro _)
              all_goals try omega
              refine xAgain_intro ((lns t).length - (i + 1)) [0, 1] (by omega) (by simp -dsimp -implicitDefEqProofs only [↓Ev.xStp_eq, ↓Ev.P, Ev.Q, Bool.cond_true, Bool.cond_false, eq_self, forall_eq_or_imp, implies_true, forall_const, forall_eq, ↓reduceIte, reduceIte, Nat.reduceEqDiff, Nat.reduceAdd, reduceCtorEq, Nat.reduceSub, Int.reduceToNat, Int.reduceLE, Int.reduceLT, Int.reduceNeg, Nat.reduceBEq, Nat.reduceMul, Nat.reduceLeDiff, Nat.reduceMod, UInt8.reduceOfNat, Nat.reduceLT, Int.reduceEq, Int.reduceAdd, Int.reduceSub, Int.reduceMul]) ⟨i + 1, by omega, rfl, ?_⟩
              rw [hsn]
              simp -dsimp -implicitDefEqProofs only [↓Ev.xStp_eq, ↓Ev.P, Ev.Q, Bool.cond_true, Bool.cond_false, eq_self, forall_eq_or_imp, implies_true, forall_const, forall_eq, ↓reduceIte, reduceIte, Nat.reduceEqDiff, Nat.reduceAdd, reduceCtorEq, Nat.reduceSub, Int.reduceToNat, Int.reduceLE, Int.reduceLT, Int.reduceNeg, Nat.reduceBEq, Nat.reduceMul, Nat.reduceLeDiff, Nat.reduceMod, UInt8.reduceOfNat, Nat.reduceLT, Int.reduceEq, Int.reduceAdd, Int.reduceSub, Int.reduceMul]
              rfl
          · by_cases hp3 : p = 3
            · by_cases hd : s = mkL 62 y
              · have e : pkS m o y b (p, out) s = (0, out) := by simp [pkS, midL, hp0, hp1, hp2, hp3, eq_true hd]
                rw [e] at hsn hle
                simp -dsimp -implicitDefEqProofs only [hg, hg2, hi3, hp0, hp1, hp2, hp3, eq_true hd, strRows_len, CMark, gWS, bldT, Ev.St.giveC, ↓Ev.xStp_eq, ↓Ev.P, Ev.Q, Bool.cond_true, Bool.cond_false, eq_self, forall_eq_or_imp, implies_true, forall_const, forall_eq, ↓reduceIte, reduceIte, Nat.reduceEqDiff, Nat.reduceAdd, reduceCtorEq, Nat.reduceSub, Int.reduceToNat, Int.reduceLE, Int.reduceLT, Int.reduceNeg, Nat.reduceBEq, Nat.reduceMul, Nat.reduceLeDiff, Nat.reduceMod, UInt8.reduceOfNat, Nat.reduceLT, Int.reduceEq, Int.reduceAdd, Int.reduceSub, Int.reduceMul]
                repeat' (first | with_reducible assumption | refine And.intro ?_ ?_ | intro _)
                all_goals try omega
                refine xAgain_intro ((lns t).length - (i + 1)) [0, 1] (by omega) (by simp -dsimp -implicitDefEqProofs only [↓Ev.xStp_eq, ↓Ev.P, Ev.Q, Bool.cond_true, Bool.cond_false, eq_self, forall_eq_or_imp, implies_true, forall_const, forall_eq, ↓reduceIte, reduceIte, Nat.reduceEqDiff, Nat.reduceAdd, reduceCtorEq, Nat.reduceSub, Int.reduceToNat, Int.reduceLE, Int.reduceLT, Int.reduceNeg, Nat.reduceBEq, Nat.reduceMul, Nat.reduceLeDiff, Nat.reduceMod, UInt8.reduceOfNat, Nat.reduceLT, Int.reduceEq, Int.reduceAdd, Int.reduceSub, Int.reduceMul]) ⟨i + 1, by omega, rfl, ?_⟩
                rw [hsn]
                simp -dsimp -implicitDefEqProofs only [↓Ev.xStp_eq, ↓Ev.P, Ev.Q, Bool.cond_true, Bool.cond_false, eq_self, forall_eq_or_imp, implies_true, forall_const, forall_eq, ↓reduceIte, reduceIte, Nat.reduceEqDiff, Nat.reduceAdd, reduceCtorEq, Nat.reduceSub, Int.reduceToNat, Int.reduceLE, Int.reduceLT, Int.reduceNeg, Nat.reduceBEq, Nat.reduceMul, Nat.reduceLeDiff, Nat.reduceMod, UInt8.reduceOfNat, Nat.reduceLT, Int.reduceEq, Int.reduceAdd, Int.reduceSub, Int.reduceMul]
                rfl
              · by_cases hy : b = true
                · subst hy
                  have e : pkS m o y true (p, out) s = (3, out ++ s) := by simp [pkS, midL, hp0, hp1, hp2, hp3, hd]
                  rw [e] at hsn hle
                  simp only [List.length_append] at hle
                  simp -dsimp -implicitDefEqProofs only [hg, hg2, hi3, hp0, hp1, hp2, hp3, hd, strRows_len, CMark, gWS, bldT, Ev.St.giveC, ↓Ev.xStp_eq, ↓Ev.P, Ev.Q, Bool.cond_true, Bool.cond_false, eq_self, forall_eq_or_imp, implies_true, forall_const, forall_eq, ↓reduceIte, reduceIte, Nat.reduceEqDiff, Nat.reduceAdd, reduceCtorEq, Nat.reduceSub, Int.reduceToNat, Int.reduceLE, Int.reduceLT, Int.reduceNeg, Nat.reduceBEq, Nat.reduceMul, Nat.reduceLeDiff, Nat.reduceMod, UInt8.reduceOfNat, Nat.reduceLT, Int.reduceEq, Int.reduceAdd, Int.reduceSub, Int.reduceMul]
                  repeat' (first | with_reducible assumption | refine And.intro ?_ ?_ | intro _)
                  all_goals try omega
                  refine xAgain_intro ((lns t).length - (i + 1)) [0, 1] (by omega) (by simp -dsimp -implicitDefEqProofs only [↓Ev.xStp_eq, ↓Ev.P, Ev.Q, Bool.cond_true, Bool.cond_false, eq_self, forall_eq_or_imp, implies_true, forall_const, forall_eq, ↓reduceIte, reduceIte, Nat.reduceEqDiff, Nat.reduceAdd, reduceCtorEq, Nat.reduceSub, Int.reduceToNat, Int.reduceLE, Int.reduceLT, Int.reduceNeg, Nat.reduceBEq, Nat.reduceMul, Nat.reduceLeDiff, Nat.reduceMod, UInt8.reduceOfNat, Nat.reduceLT, Int.reduceEq, Int.reduceAdd, Int.reduceSub, Int.reduceMul]) ⟨i + 1, by omega, rfl, ?_⟩
                  rw [hsn]
                  simp -dsimp -implicitDefEqProofs only [↓Ev.xStp_eq, ↓Ev.P, Ev.Q, Bool.cond_true, Bool.cond_false, eq_self, forall_eq_or_imp, implies_true, forall_const, forall_eq, ↓reduceIte, reduceIte, Nat.reduceEqDiff, Nat.reduceAdd, reduceCtorEq, Nat.reduceSub, Int.reduceToNat, Int.reduceLE, Int.reduceLT, Int.reduceNeg, Nat.reduceBEq, Nat.reduceMul, Nat.reduceLeDiff, Nat.reduceMod, UInt8.reduceOfNat, Nat.reduceLT, Int.reduceEq, Int.reduceAdd, Int.reduceSub, Int.reduceMul]
                  rfl
                · obtain rfl : b = false := by simpa using hy
                  have e : pkS m o y false (p, out) s = (3, out) := by simp [pkS, midL, hp0, hp1, hp2, hp3, hd]
                  rw [e] at hsn hle
                  simp -dsimp -implicitDefEqProofs only [hg, hg2, hi3, hp0, hp1, hp2, hp3, hd, strRows_len, CMark, gWS, bldT, Ev.St.giveC, ↓Ev.xStp_eq, ↓Ev.P, Ev.Q, Bool.cond_true, Bool.cond_false, eq_self, forall_eq_or_imp, implies_true, forall_const, forall_eq, ↓reduceIte, reduceIte, Nat.reduceEqDiff, Nat.reduceAdd, reduceCtorEq, Nat.reduceSub, Int.reduceToNat, Int.reduceLE, Int.reduceLT, Int.reduceNeg, Nat.reduceBEq, Nat.reduceMul, Nat.reduceLeDiff, Nat.reduceMod, UInt8.reduceOfNat, Nat.reduceLT, Int.reduceEq, Int.reduceAdd, Int.reduceSub, Int.reduceMul]
                  repeat' (first | with_reducible assumption | refine And.intro ?_ ?_ | intro _)
                  all_goals try omega
                  refine xAgain_intro ((lns t).length - (i + 1)) [0, 1] (by omega) (by simp -dsimp -implicitDefEqProofs only [↓Ev.xStp_eq, ↓Ev.P, Ev.Q, Bool.cond_true, Bool.cond_false, eq_self, forall_eq_or_imp, implies_true, forall_const, forall_eq, ↓reduceIte, reduceIte, Nat.reduceEqDiff, Nat.reduceAdd, reduceCtorEq, Nat.reduceSub, Int.reduceToNat, Int.reduceLE, Int.reduceLT, Int.reduceNeg, Nat.reduceBEq, Nat.reduceMul, Nat.reduceLeDiff, Nat.reduceMod, UInt8.reduceOfNat, Nat.reduceLT, Int.reduceEq, Int.reduceAdd, Int.reduceSub, Int.reduceMul]) ⟨i + 1, by omega, rfl, ?_⟩
                  rw [hsn]
                  simp -dsimp -implicitDefEqProofs only [↓Ev.xStp_eq, ↓Ev.P, Ev.Q, Bool.cond_true, Bool.cond_false, eq_self, forall_eq_or_imp, implies_true, forall_const, forall_eq, ↓reduceIte, reduceIte, Nat.reduceEqDiff, Nat.reduceAdd, reduceCtorEq, Nat.reduceSub, Int.reduceToNat, Int.reduceLE, Int.reduceLT, Int.reduceNeg, Nat.reduceBEq, Nat.reduceMul, Nat.reduceLeDiff, Nat.reduceMod, UInt8.reduceOfNat, Nat.reduceLT, Int.reduceEq, Int.reduceAdd, Int.reduceSub, Int.reduceMul]
                  rfl
            · have e : pkS m o y b (p, out) s = (p, out) := by simp [pkS, midL, hp0, hp1, hp2, hp3]
              rw [e] at hsn hle
              simp -dsimp -implicitDefEqProofs only [hg, hg2, hi3, hp0, hp1, hp2, hp3, strRows_len, CMark, gWS, bldT, Ev.St.giveC, ↓Ev.xStp_eq, ↓Ev.P, Ev.Q, Bool.cond_true, Bool.cond_false, eq_self, forall_eq_or_imp, implies_true, forall_const, forall_eq, ↓reduceIte, reduceIte, Nat.reduceEqDiff, Nat.reduceAdd, reduceCtorEq, Nat.reduceSub, Int.reduceToNat, Int.reduceLE, Int.reduceLT, Int.reduceNeg, Nat.reduceBEq, Nat.reduceMul, Nat.reduceLeDiff, Nat.reduceMod, UInt8.reduceOfNat, Nat.reduceLT, Int.reduceEq, Int.reduceAdd, Int.reduceSub, Int.reduceMul]
              repeat' (first | with_reducible assumption | refine And.intro ?_ ?_ | intro _)
              all_goals try omega
              refine xAgain_intro ((lns t).length - (i + 1)) [0, 1] (by omega) (by simp -dsimp -implicitDefEqProofs only [↓Ev.xStp_eq, ↓Ev.P, Ev.Q, Bool.cond_true, Bool.cond_false, eq_self, forall_eq_or_imp, implies_true, forall_const, forall_eq, ↓reduceIte, reduceIte, Nat.reduceEqDiff, Nat.reduceAdd, reduceCtorEq, Nat.reduceSub, Int.reduceToNat, Int.reduceLE, Int.reduceLT, Int.reduceNeg, Nat.reduceBEq, Nat.reduceMul, Nat.reduceLeDiff, Nat.reduceMod, UInt8.reduceOfNat, Nat.reduceLT, Int.reduceEq, Int.reduceAdd, Int.reduceSub, Int.reduceMul]) ⟨i + 1, by omega, rfl, ?_⟩
              rw [hsn]
              simp -dsimp -implicitDefEqProofs only [↓Ev.xStp_eq, ↓Ev.P, Ev.Q, Bool.cond_true, Bool.cond_false, eq_self, forall_eq_or_imp, implies_true, forall_const, forall_eq, ↓reduceIte, reduceIte, Nat.reduceEqDiff, Nat.reduceAdd, reduceCtorEq, Nat.reduceSub, Int.reduceToNat, Int.reduceLE, Int.reduceLT, Int.reduceNeg, Nat.reduceBEq, Nat.reduceMul, Nat.reduceLeDiff, Nat.reduceMod, UInt8.reduceOfNat, Nat.reduceLT, Int.reduceEq, Int.reduceAdd, Int.reduceSub, Int.reduceMul]
              rfl
      -- END PRO
    · have hi3 : ¬ (i : Int) < (lns t).length := by omega
      have htk : (lns t).take i = lns t := List.take_of_length_le (by omega)
      have hls := lns_size t i
      have hle := pkF_len m o y b (lns t) i hi
      rw [htk] at hle hls
      rw [htk]
      by_cases hp : (pkF m o y b (lns t)).1 = 0
      · rw [if_pos hp, if_pos hp, fltD, if_pos rfl] at hk
        simp -dsimp -implicitDefEqProofs only [hi3, hp, strRows_len, Ev.parts, Ev.St.giveC, ↓Ev.xStp_eq, ↓Ev.P, Ev.Q, Bool.cond_true, Bool.cond_false, eq_self, forall_eq_or_imp, implies_true, forall_const, forall_eq, ↓reduceIte, reduceIte, Nat.reduceEqDiff, Nat.reduceAdd, reduceCtorEq, Nat.reduceSub, Int.reduceToNat, Int.reduceLE, Int.reduceLT, Int.reduceNeg, Nat.reduceBEq, Nat.reduceMul, Nat.reduceLeDiff, Nat.reduceMod, UInt8.reduceOfNat, Nat.reduceLT, Int.reduceEq, Int.reduceAdd, Int.reduceSub, Int.reduceMul]
        exact hk
      · rw [if_neg hp, if_neg hp, fltD, if_neg (show ¬ (1 : Int) = 0 by decide)] at hk
        simp -dsimp -implicitDefEqProofs only [hi3, hp, strRows_len, Ev.parts, Ev.St.giveC, ↓Ev.xStp_eq, ↓Ev.P, Ev.Q, Bool.cond_true, Bool.cond_false, eq_self, forall_eq_or_imp, implies_true, forall_const, forall_eq, ↓reduceIte, reduceIte, Nat.reduceEqDiff, Nat.reduceAdd, reduceCtorEq, Nat.reduceSub, Int.reduceToNat, Int.reduceLE, Int.reduceLT, Int.reduceNeg, Nat.reduceBEq, Nat.reduceMul, Nat.reduceLeDiff, Nat.reduceMod, UInt8.reduceOfNat, Nat.reduceLT, Int.reduceEq, Int.reduceAdd, Int.reduceSub, Int.reduceMul]
        exact ⟨by omega, hk⟩
end Go.Proofs.YtpbkdcfjlbdgfaaDoor
set_option linter.unusedVariables false
set_option linter.unusedSimpArgs false
namespace Go.Proofs.YtpbkdcfjlbdgfaaDoor
open Go Go.Ev
set_option maxRecDepth 100000
variable {G : World → Prop}
def CNames : Contract := pureC fun args => match args with
  | [.agg [.d (.v (.string m)), .d (.v (.string o)), .d (.v (.string y))]] => some (True, .agg [.d (.v (.string m)), .d (.v (.string o)), .d (.v (.string y))])
  | _ => none
theorem s35 : Sound G Tryd.prog 35 CNames := by
  refine sd35 (T := tabT []) tab_nil (pureC_lawful _) (pure_hX fun args p x K h hp hk => ?_)
  split at h <;> simp only [Option.some.injEq, Prod.mk.injEq, reduceCtorEq] at h
  obtain ⟨rfl, rfl⟩ := h
  refine ⟨Nat.le_of_ble_eq_true rfl, ?_⟩
  simp -dsimp -implicitDefEqProofs only [S35, R35, Ev.parts, Ev.St.giveC, ↓Ev.xStp_eq, ↓Ev.P, Ev.Q, Bool.cond_true, Bool.cond_false, eq_self, forall_eq_or_imp, implies_true, forall_const, forall_eq, ↓reduceIte, reduceIte, Nat.reduceEqDiff, Nat.reduceAdd, reduceCtorEq, Nat.reduceSub, Int.reduceToNat, Int.reduceLE, Int.reduceLT, Int.reduceNeg, Nat.reduceBEq, Nat.reduceMul, Nat.reduceLeDiff, Nat.reduceMod, UInt8.reduceOfNat, Nat.reduceLT, Int.reduceEq, Int.reduceAdd, Int.reduceSub, Int.reduceMul]
  exact hk
def CLawP : Contract := pureC fun args => match args with
  | [.d (.v (.string t)), .agg [.d (.v (.string m)), .d (.v (.string o)), .d (.v (.string y))], .d (.v (.bool b))] => some (t.size ≤ 1099511627 ∧ m.size ≤ 1099511627 ∧ o.size ≤ 1099511627 ∧ y.size ≤ 1099511627, .d (.v (.bool true)))
  | _ => none
theorem s10 (hG : ∀ w, G w → ErrT w) : Sound G Tryd.prog 10 CLawP := by
  refine sd10 (T := tabT [(35, CNames), (34, CPick), (36, CRPick), (37, CSeen)]) (tab_cons s35 (tab_cons s34 (tab_cons s36 (tab_cons (sSeen hG) tab_nil)))) (pureC_lawful _) (pure_hX fun args p x K h hp hk => ?_)
  split at h <;> simp only [Option.some.injEq, Prod.mk.injEq, reduceCtorEq] at h
  obtain ⟨rfl, rfl⟩ := h
  rename_i t m o y b
  obtain ⟨t, rfl⟩ := ex_str t
  obtain ⟨m, rfl⟩ := ex_str m
  obtain ⟨o, rfl⟩ := ex_str o
  obtain ⟨y, rfl⟩ := ex_str y
  simp only [sem_str] at hp
  refine ⟨Nat.le_of_ble_eq_true rfl, ?_⟩
  by_cases hz : (pickE m o y b (lns t)).2 = 0
  · have h1 : (pickE m o y b (lns t)).1 = 0 := by
      unfold pickE at hz ⊢
      split at hz
      · cases hz
      · rename_i hn
        rw [if_neg hn]
        split at hz
        · rename_i h2; rw [if_pos h2]
        · cases hz
    have hA : fltD (pickE m o y b (lns t)) = .v .nilIface := if_pos hz
    simp -dsimp -implicitDefEqProofs only [S10, R10, ↓Ev.P, Ev.Q, Bool.cond_true, Bool.cond_false, eq_self, forall_eq_or_imp, implies_true, forall_const, forall_eq, ↓reduceIte, reduceIte, Nat.reduceEqDiff, Nat.reduceAdd, reduceCtorEq, Nat.reduceSub, Int.reduceToNat, Int.reduceLE, Int.reduceLT, Int.reduceNeg, Nat.reduceBEq, Nat.reduceMul, Nat.reduceLeDiff, Nat.reduceMod, UInt8.reduceOfNat, Nat.reduceLT, Int.reduceEq, Int.reduceAdd, Int.reduceSub, Int.reduceMul]
    repeat' (first | with_reducible assumption | refine And.intro ?_ ?_ | intro _ | (rw [Ev.xStp_eq]; simp -dsimp -implicitDefEqProofs only [CNames, CPick, CRPick, CSeen, hA, hz, h1, Ev.parts, Ev.St.giveC, ↓Ev.P, Ev.Q, Bool.cond_true, Bool.cond_false, eq_self, forall_eq_or_imp, implies_true, forall_const, forall_eq, ↓reduceIte, reduceIte, Nat.reduceEqDiff, Nat.reduceAdd, reduceCtorEq, Nat.reduceSub, Int.reduceToNat, Int.reduceLE, Int.reduceLT, Int.reduceNeg, Nat.reduceBEq, Nat.reduceMul, Nat.reduceLeDiff, Nat.reduceMod, UInt8.reduceOfNat, Nat.reduceLT, Int.reduceEq, Int.reduceAdd, Int.reduceSub, Int.reduceMul]))
    all_goals first | omega | exact hk | trace_state
  · have hA : fltD (pickE m o y b (lns t)) = .ifc 104 (.pt [.v (.int .i64 (pickE m o y b (lns t)).1), .ifc 24 (.v (.int .i64 (pickE m o y b (lns t)).2))]) := if_neg hz
    simp -dsimp -implicitDefEqProofs only [S10, R10, ↓Ev.P, Ev.Q, Bool.cond_true, Bool.cond_false, eq_self, forall_eq_or_imp, implies_true, forall_const, forall_eq, ↓reduceIte, reduceIte, Nat.reduceEqDiff, Nat.reduceAdd, reduceCtorEq, Nat.reduceSub, Int.reduceToNat, Int.reduceLE, Int.reduceLT, Int.reduceNeg, Nat.reduceBEq, Nat.reduceMul, Nat.reduceLeDiff, Nat.reduceMod, UInt8.reduceOfNat, Nat.reduceLT, Int.reduceEq, Int.reduceAdd, Int.reduceSub, Int.reduceMul]
    repeat' (first | with_reducible assumption | refine And.intro ?_ ?_ | intro _ | (rw [Ev.xStp_eq]; simp -dsimp -implicitDefEqProofs only [CNames, CPick, CRPick, CSeen, hA, Ev.parts, Ev.St.giveC, ↓Ev.P, Ev.Q, Bool.cond_true, Bool.cond_false, eq_self, forall_eq_or_imp, implies_true, forall_const, forall_eq, ↓reduceIte, reduceIte, Nat.reduceEqDiff, Nat.reduceAdd, reduceCtorEq, Nat.reduceSub, Int.reduceToNat, Int.reduceLE, Int.reduceLT, Int.reduceNeg, Nat.reduceBEq, Nat.reduceMul, Nat.reduceLeDiff, Nat.reduceMod, UInt8.reduceOfNat, Nat.reduceLT, Int.reduceEq, Int.reduceAdd, Int.reduceSub, Int.reduceMul]))
    all_goals first | omega | exact hk | trace_state
end Go.Proofs.YtpbkdcfjlbdgfaaDoor
set_option linter.unusedVariables false
set_option linter.unusedSimpArgs false
namespace Go.Proofs.YtpbkdcfjlbdgfaaDoor
open Go Go.Ev
open Go.ChangeShapes Go.WideShapes Go.ChangeAt Go.RowKit
open Go.ChangeMaps (open_string shut_string)
set_option maxRecDepth 100000
namespace MergePicks
theorem has_str {d : D} (h : HasD d .str) : ∃ s : List UInt8, d = .v (.string ⟨s.toArray⟩) ∧ dsz d = s.length + 1 := by
  cases d with
  | v x =>
    simp only [HasD] at h
    split at h
    · rename_i e; cases e
    · rename_i s e
      obtain ⟨s, rfl⟩ := ex_str s
      exact ⟨s, rfl, rfl⟩
    · rename_i e; cases e
    · exact h.elim
  | sl r => simp [HasD] at h
  | pt r => simp [HasD] at h
  | ifc t r => simp [HasD] at h
theorem has_cons {r : List D} {s : Sh} {ss : List Sh} (h : HasL r (s :: ss)) : ∃ d ds, r = d :: ds ∧ HasD d s ∧ HasL ds ss ∧ dszL r = dsz d + dszL ds := by
  cases r with
  | nil => simp [HasL] at h
  | cons d ds => simp only [HasL] at h; exact ⟨d, ds, rfl, h.1, h.2, rfl⟩
theorem has_nil {r : List D} (h : HasL r []) : r = [] := by
  cases r with
  | nil => rfl
  | cons d ds => simp [HasL] at h
theorem size_eq (s : ByteArray) : s.data.toList.length = s.size := by rw [Array.length_toList]; rfl
def HE : Hd ErrT := ⟨fun b => b = 0, fun b => b = 0, fun _ h => h, fun w w' h hb => by
  have h0 := hb 0 rfl
  unfold ErrT at h ⊢
  rw [World.cell?_of_block (w := w) (by exact h0)]; exact h, 0⟩
theorem HE_lt {W : World} (h : ErrT W) {b : Nat} (hb : HE b) : b < W.heap.size := by
  have : b = 0 := hb
  subst this; exact h.pos
theorem contract (H : Type) (enc : TypeId × Value → H) (W : World) (base : Nat) (args : Array Value) (ds gs : List (DataW H)) (before : List MemPlace)
    (hval : ∀ (j : Nat) t v, Tryd.f10.params[j]? = some t → args[j]? = some v → Value.okWide Tryd.prog W .any base t v)
    (hW : DataW.Whole enc Tryd.prog Tryd.f10.params.toList Rows.mergePicksSpec.vars false W args.toList ds gs before) (hk : Rows.uptoSmall H (ds ++ gs) = true) (hP : ErrT W) :
    Calls Tryd.prog 10 args W fun e W' => ∃ v, e = .returned v ∧ Rows.mergePicksSpec.post enc Tryd.prog Tryd.f10 false true false false W args v W' := by
  have hW' := hW
  obtain ⟨p, q, hA0, hV, rfl, hfz, hnd⟩ := hW
  have hA : DataW.TrodAll enc Tryd.prog W 0 (fun _ => true) true Tryd.f10.params.toList args.toList ds p := hA0
  rw [Tryd.params10] at hA hval
  obtain ⟨v0, vs0, d0, ds0, p0, q0, hargs, rfl, rfl, h0, r0⟩ := trodAll_cons hA
  obtain ⟨v1, vs1, d1, ds1, p1, q1, hargs1, rfl, rfl, h1, r1⟩ := trodAll_cons r0
  obtain ⟨v2, vs2, d2, ds2, p2, q2, hargs2, rfl, rfl, h2, r2⟩ := trodAll_cons r1
  obtain ⟨rfl, rfl, rfl⟩ := trodAll_nil r2
  obtain rfl : args = #[v0, v1, v2] := by cases args; simp_all
  obtain ⟨rfl, rfl⟩ := trodVars_none hV
  have u9 : Tryd.prog.underlying 9 = some .string := Tryd.underlying9
  have u4 : Tryd.prog.underlying 4 = some .bool := by kernel_rfl
  obtain ⟨x0, rfl, rfl, rfl, hm0⟩ := open_string u9 (hval 0 9 v0 rfl rfl) h0
  obtain ⟨x2, rfl, rfl, rfl⟩ := open_bool u4 (hval 2 4 v2 rfl rfl) h2
  have hv1 := hval 1 45 v1 rfl rfl
  obtain ⟨cs, rfl⟩ : ∃ cs, v1 = .agg cs := by
    unfold Value.okWide at hv1
    rw [Tryd.underlying45] at hv1
    obtain ⟨cs, e, _⟩ := hv1
    exact ⟨cs, e⟩
  have hs : shF Tryd.prog 8 45 = some [.str, .str, .str] := by kernel_rfl
  obtain ⟨fuel, ht⟩ := h1
  obtain ⟨xs, k1, k2, k3⟩ := openF (c := fun a u => W.cell? a = some u) (fun a u h _ => h) 8 _ _ hs fuel _ _ ht
  simp only at k3
  obtain ⟨y1, r1, rfl, a1, a2, a3⟩ := has_cons k2
  obtain ⟨m, rfl, o1⟩ := has_str a1
  obtain ⟨y2, r2, rfl, b1, b2, b3⟩ := has_cons a2
  obtain ⟨o, rfl, o2⟩ := has_str b1
  obtain ⟨y3, r3, rfl, c1, c2, c3⟩ := has_cons b2
  obtain ⟨y, rfl, o3⟩ := has_str c1
  obtain rfl := has_nil c2
  have hbk : Rows.uptoBulkAll ([DataW.lit (.string x0.data.toList), d1, DataW.lit (.bool x2)] ++ [] : List (DataW H)) ≤ 1048576 := of_decide_eq_true hk
  simp only [List.append_nil, Rows.uptoBulkAll, Rows.uptoBulk, size_eq] at hbk
  simp only [List.append_nil] at hW'
  have hr : ∀ c : Rdr, CnL (fun _ => undef) 0 c [.d (.v (.string ⟨m.toArray⟩)), .d (.v (.string ⟨o.toArray⟩)), .d (.v (.string ⟨y.toArray⟩))] cs.toList := by
    intro c
    have k1 : RdL (fun a u => W.cell? a = some u) [.v (.string ⟨m.toArray⟩), .v (.string ⟨o.toArray⟩), .v (.string ⟨y.toArray⟩)] cs.toList := k1
    revert k1
    generalize cs.toList = l
    intro k1
    match l, k1 with
    | [q1, q2, q3], k1 =>
      simp only [RdL, Rd, and_true] at k1
      obtain ⟨⟨e1, _⟩, ⟨e2, _⟩, ⟨e3, _⟩⟩ := k1
      subst e1 e2 e3
      simp [CnL, Cn, Rd, Value.oneCell']
    | [], k1 => simp [RdL] at k1
    | [_], k1 => simp [RdL] at k1
    | [_, _], k1 => simp [RdL] at k1
    | _ :: _ :: _ :: _ :: _, k1 => simp [RdL] at k1
  refine (law_calls HE (s10 (G := ErrT) (fun w h => h)) (args := [.d (.v (.string x0)), .agg [.d (.v (.string ⟨m.toArray⟩)), .d (.v (.string ⟨o.toArray⟩)), .d (.v (.string ⟨y.toArray⟩))], .d (.v (.bool x2))]) (vs := [.string x0, .agg cs, .bool x2]) (W := W) hP (fun b hb => HE_lt hP hb) ?_ ?_).mono fun e W' ⟨he, hg⟩ => ?_
  · simp -dsimp -implicitDefEqProofs only [CLawP, pureC_wp, need_some, sem_str]
    exact ⟨trivial, ⟨by omega, by omega, by omega, by omega⟩, trivial⟩
  · simp only [CnL, Cn, and_true, Rd]
    exact ⟨⟨trivial, rfl⟩, ⟨cs, rfl, hr _, RdL_one k1⟩, trivial, rfl⟩
  · subst he
    have hlt := hW'.lt
    have lo : laidOutB Tryd.prog = true := by kernel_rfl
    have sz : (45 : Nat) < Tryd.prog.types.size := of_decide_eq_true (by kernel_rfl)
    have rr : Tryd.prog.readableRec 45 = true := by kernel_rfl
    refine ⟨_, rfl, post_of_below (pa := [] ++ (p1 ++ ([] ++ []))) (pv := []) hW' (fun _ _ _ => (trodAll_cons_mk (shut_bool u4 _) trodAll_mk0)) (fun sp hsp => trodAll_cons_mk (shut_string u9 hm0) (trodAll_cons_mk (WideElems.Trod_stays lo rr sz ⟨fuel, ht⟩ (fun x hx => hg.same (hlt x (by simp [hx]))) (fun x hx => hsp x (by simp [hx]))) (trodAll_cons_mk (shut_bool u4 _) trodAll_mk0))) (fun _ _ => rfl) (by simp)
      hg (ok_one (by kernel_rfl) rfl (okWide_bool_mk u4 _))⟩
theorem own : ownKnob Tryd.prog.godebug = none := by kernel_rfl
theorem et : Tryd.prog.globalNamed "errors.errorType" = some 0 := by kernel_rfl
theorem rt : (Tryd.prog.cutTypes.find? (·.1 == "internal/reflectlite.rtype")).map (·.2) = some 186 := by kernel_rfl
theorem tsize : Tryd.prog.types.size = 264 := by kernel_rfl
theorem oneRow : ((List.range 264).filter fun t => Tryd.prog.rowNamed t [101, 114, 114, 111, 114]) = [47] := by kernel_rfl
theorem errT {W : World} (h : laidMetH Tryd.prog Rows.mergePicksUptoRow.laid W) : ErrT W := by
  have h' : laidMet Tryd.prog [("unicode/utf8.acceptRanges", Rows.laid_unicode_utf8_acceptRanges), ("unicode/utf8.first", Rows.laid_unicode_utf8_first)] W ∧ handlesMet Tryd.prog [("errors.errorType", Rows.laid_errors_errorType)] W := h
  obtain ⟨name, u, ty, e1, e2, e3, e4, e5⟩ := h'.2 _ (List.mem_singleton.2 rfl)
  have en : name = [101, 114, 114, 111, 114] := (Option.some.inj e1).symm
  subst en
  obtain rfl := Option.some.inj (rt.symm.trans e2)
  have hm : ty ∈ (List.range 264).filter fun t => Tryd.prog.rowNamed t [101, 114, 114, 111, 114] := List.mem_filter.2 ⟨List.mem_range.2 (by rw [← tsize]; exact e3), e4⟩
  rw [oneRow] at hm
  obtain rfl := List.mem_singleton.1 hm
  have hh : typeHandle Tryd.prog 47 = .pointer (some ⟨9, 47, none⟩) := by kernel_rfl
  rw [hh] at e5
  have := World.var?_cell et e5 0
  unfold ErrT
  simpa using this
def lits : List (DataW Unit) → List Value
  | [] => []
  | .lit (.int k z) :: r => Value.int k z :: lits r
  | .agg l :: r => (l.map fun x => match x with | .lit (.int k z) => Value.int k z | _ => undef) ++ lits r
  | _ :: r => lits r
def valsU : DataW Unit → Array Value
  | .agg l => (lits l).toArray
  | _ => #[]
noncomputable def laidWorld (os : Os) : World :=
  let w0 := World.holding Tryd.prog os ⟨#[], #[], []⟩
  let put (h : Array Obj) (g : Nat) (cs : Array Value) : Array Obj := h.modify g fun
    | .cells _ t frozen => .cells cs t frozen
    | o => o
  let h1 := put w0.heap 4 (valsU Rows.laid_unicode_utf8_first)
  let h2 := put h1 5 (valsU Rows.laid_unicode_utf8_acceptRanges)
  let h3 := put h2 0 #[.iface 186 (.agg #[.pointer (some ⟨9, 47, none⟩)])]
  { w0 with heap := h3 }
abbrev wargs : Array Value := #[.string ⟨#[]⟩, .agg #[.string ⟨#[]⟩, .string ⟨#[]⟩, .string ⟨#[]⟩], .bool false]
theorem laid_met (os : Os) : laidMetH Tryd.prog Rows.mergePicksUptoRow.laid ((laidWorld os).forCall (fun _ _ => 0) ⟨#[], wargs, []⟩).memory :=
  laidMetH_of_parts (laidMet_of_run' 8 (by kernel_rfl) (by kernel_rfl)) (by kernel_rfl)
theorem reads (os : Os) {H : Type} (enc : TypeId × Value → H) : ∃ places, DataW.whole enc Tryd.prog ((laidWorld os).forCall (fun _ _ => 0) ⟨#[], wargs, []⟩).memory Tryd.f10.params.toList Rows.mergePicksSpec.vars false wargs.toList 8 = some ([.lit (.string []), .agg [.lit (.string []), .lit (.string []), .lit (.string [])], .lit (.bool false)], [], places) :=
  ⟨[], by kernel_rfl⟩
theorem liftedUpto (os : Os) (started : os.Started) (H : Type) (enc : TypeId × Value → H) (F : Stop.Interp) :
    ReturnsInHanded {} Tryd.checked os 10 .any ((Rows.OpenSpec.upto Rows.mergePicksSpec).preRow enc Tryd.prog Tryd.f10 Rows.mergePicksUptoRow.domain false Rows.mergePicksUptoRow.laid) (((Rows.OpenSpec.upto Rows.mergePicksSpec).at F).post enc Tryd.prog Tryd.f10 false true false false) := by
  obtain ⟨places, hx⟩ := reads os enc
  refine returnsInHanded_of_row (C := Tryd.checked) (s := Rows.OpenSpec.upto Rows.mergePicksSpec) own started (by kernel_rfl) Tryd.func10
    (witness_row_at (enc := enc) (C := Tryd.checked) false (laidWorld os) wargs rfl (by kernel_rfl) (by kernel_rfl) (by kernel_rfl)
      (OpenSpec.preRow_of_cond 8 hx (by kernel_rfl) (fun k hk => by cases hk; kernel_rfl) (by kernel_rfl) (laid_met os))) ?_
  intro W base args ds gs before hval hW _ hcond _ hL _ _
  exact contract H enc W base args ds gs before hval hW (hcond _ rfl) (errT hL)
theorem saidUpto : Rows.MergePicksUptoSaid :=
  OpenClaim.holds_of_cond 10 Tryd.f10 rfl rfl rfl rfl rfl rfl rfl ⟨rfl, rfl, rfl, rfl, rfl⟩ rfl rfl rfl rfl rfl (by kernel_rfl) Tryd.func10 (by kernel_rfl)
    (of_decide_eq_true (by kernel_rfl)) (by unfold Func.isWrapper; first | (rw [if_pos (by decide +kernel)]; kernel_rfl) | (rw [if_neg (by decide +kernel)]; exact ⟨rfl, rfl⟩))
    (fun os started H enc _ F => by rw [OpenClaim.pre_eq_preRow]; exact liftedUpto os started H enc F)
theorem plain (f : FuncId) (fn : Func) (hf : Tryd.pinned.checked.prog.funcNamed "redline/redlinelaw20.MergePicks" = some f) (hfn : Tryd.pinned.checked.prog.funcs[f]? = some fn) :
    true = Tryd.pinned.checked.prog.looks [] ∧ ∀ (j : Nat) t, fn.params[j]? = some t → Tryd.pinned.checked.prog.wantsStandIn t = false := by
  obtain rfl : f = 10 := Option.some.inj ((show Tryd.prog.funcNamed "redline/redlinelaw20.MergePicks" = some 10 by kernel_rfl).symm.trans hf) |>.symm
  obtain rfl : fn = Tryd.f10 := (Option.some.inj (Tryd.func10.symm.trans hfn)).symm
  refine ⟨by kernel_rfl, fun j t ht => ?_⟩
  have hall : (Tryd.f10.params.toList.all fun u => !Tryd.prog.wantsStandIn u) = true := by kernel_rfl
  have hm : t ∈ Tryd.f10.params.toList := by simpa using Array.mem_of_getElem? ht
  exact (show Tryd.prog.wantsStandIn t = false by simpa using List.all_eq_true.1 hall t hm)
theorem cardUpto : Rows.MergePicksUptoCardSaid :=
  Claim7.holds_tied_plain_at .later [] _ _ _ _ saidUpto (fun _ h => by cases h) (by kernel_rfl) (fun _ h => by cases h) mergePicksUpto_row_tie rfl ⟨rfl, rfl⟩ (by kernel_rfl) rfl plain (by kernel_rfl)
end MergePicks
end Go.Proofs.YtpbkdcfjlbdgfaaDoor
