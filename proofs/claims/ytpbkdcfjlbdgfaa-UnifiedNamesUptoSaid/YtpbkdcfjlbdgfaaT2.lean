import Derived.Test.YtpbkdcfjlbdgfaaC1
import Derived.Lib.Strings
import Derived.Lib.Slices
import Derived.Lib.Walk
import Derived.Lib.Bytealg
set_option linter.unusedVariables false
set_option linter.unusedSimpArgs false
namespace Go.Ev
open Go
/-- A function of values alone, by what is proved of its calls. -/
theorem sound_calls {P : Program} {f : FuncId} {g : List SV → Option (Prop × SV)} (hb : HasBody P f)
    (h : ∀ args p x, g args = some (p, x) → p → ∃ v, (∀ m n c, Cn m n c x v) ∧ ∀ m c vs, CnL m 0 c args vs → ∀ w, Calls P f vs.toArray w fun e w' => e = .returned v ∧ w' = w) : Sound P f (pureC g) := by
  refine ⟨pureC_lawful g, ?_⟩
  intro H w m B s args vs K hK hO ha
  rw [pureC_wp] at hK
  obtain ⟨p, h1, rfl, h3, h4⟩ := need_ex hK
  obtain ⟨v, hv, hc⟩ := h args p.1 p.2 h1 h3
  refine ⟨hb, (hc m _ vs ha w).mono ?_⟩
  rintro e w' ⟨rfl, rfl⟩
  exact ⟨m, B, ⟨0, []⟩, .ret p.2, h4, hO, Since.refl _ _ _ _, hv _ _ _⟩
end Go.Ev
namespace Go.Proofs.Ytpbkdcfjlbdgfaa
open Go Go.Ev
set_option maxHeartbeats 1000000 in
set_option maxRecDepth 100000 in
theorem calls28 (s : ByteArray) (c : Int) (w : World) :
    Calls Try.prog 28 #[.string s, .int .u8 c] w fun e w' => e = .returned (.int .i64 (Lib.indexByte s.data.toList c.toNat.toUInt8)) ∧ w' = w := by
  go_enter Try.func28, Try.ntmps28
  go_wp2
  rw [run_callFunc_extern Try.func30 (by kernel_rfl) (by kernel_rfl) (by kernel_rfl) (e := Extern.BytealgIndexByte.indexByte) (by kernel_rfl), Lib.run_indexByteString]
  simp only [Result.andThen]
  rw [Oper.upon_value]
  go_wp2
  go_ret
  exact ⟨rfl, rfl⟩
def C28 : Contract := pureC fun args => match args with
  | [.d (.v (.string s)), .d (.v (.int .u8 c))] => some (True, .d (.v (.int .i64 (Lib.indexByte s.data.toList c.toNat.toUInt8))))
  | _ => none
theorem hb28 : HasBody Try.prog 28 := ⟨Try.f28, by kernel_rfl, by kernel_rfl, by kernel_rfl⟩
theorem s28 : Sound Try.prog 28 C28 := by
  refine sound_calls hb28 fun args p x h hp => ?_
  split at h <;> simp only [Option.some.injEq, Prod.mk.injEq, reduceCtorEq] at h
  obtain ⟨rfl, rfl⟩ := h
  refine ⟨_, fun m n c => ⟨rfl, rfl⟩, fun m c vs hv w => ?_⟩
  match vs, hv with
  | [a, b], hv =>
    simp only [CnL, and_true] at hv
    rw [of_v hv.1, of_v hv.2]
    exact calls28 _ _ w
  | [], hv => simp [CnL] at hv
  | [_], hv => simp [CnL] at hv
  | _ :: _ :: _ :: _, hv => simp [CnL] at hv
end Go.Proofs.Ytpbkdcfjlbdgfaa
