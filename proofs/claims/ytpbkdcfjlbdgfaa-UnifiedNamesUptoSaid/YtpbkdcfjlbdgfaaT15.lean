/- UnifiedNames, where what it reads is of bulk at most 1048576. -/
import Derived.Test.YtpbkdcfjlbdgfaaT14
import Derived.Test.YtpbkdcfjlbdgfaaEvR
import Derived.Test.YtpbkdcfjlbdgfaaRows
import Derived.WalkKit
import Derived.JoinedCond
set_option linter.unusedVariables false
set_option linter.unusedSimpArgs false
namespace Go.Proofs.Ytpbkdcfjlbdgfaa
open Go Go.Ev
set_option maxRecDepth 100000
def C4 : Contract := pureC fun args => match args with
  | [.d (.v (.string s)), .d (.v (.string q))] => some (s.size ≤ 68719476736 ∧ q.size ≤ 68719476736, .d (.v (.bool true)))
  | _ => none
set_option maxHeartbeats 1000000 in
theorem s4 : Sound Try.prog 4 C4 := by
  refine sd4 (T := tabT [(9, C9), (10, C9), (11, C11), (12, C11)]) (tab_cons s9 (tab_cons s10 (tab_cons s11 (tab_cons s12 tab_nil)))) (pureC_lawful _) (pure_hX fun args p x K h hp hk => ?_)
  split at h <;> simp only [Option.some.injEq, Prod.mk.injEq, reduceCtorEq] at h
  obtain ⟨rfl, rfl⟩ := h
  refine ⟨Nat.le_of_ble_eq_true rfl, ?_⟩
  rename_i s q
  obtain ⟨s, rfl⟩ := ex_str s
  obtain ⟨q, rfl⟩ := ex_str q
  obtain ⟨h1, h2⟩ := hp
  simp only [sem_str] at h1 h2
  have h3 := nameS_len s
  generalize hz : namedS q = z
  by_cases hl : 64 < s.length
  · have hn : namedS (nameS s) = ([], 253) := by rw [named_name, if_pos hl]
    simp -dsimp -implicitDefEqProofs only [S4, R4, C9, C11, hz, hn, ↓Ev.xStp_eq, ↓Ev.P, Ev.Q, eq_self, forall_eq_or_imp, implies_true, forall_const, forall_eq, ↓reduceIte, reduceIte, Nat.reduceEqDiff, Nat.reduceAdd, reduceCtorEq, Nat.reduceSub, Int.reduceToNat, Int.reduceLE, Int.reduceLT, Int.reduceNeg, Nat.reduceBEq, Nat.reduceMul, Nat.reduceLeDiff, Nat.reduceMod, UInt8.reduceOfNat, Nat.reduceLT, Int.reduceEq, Int.reduceAdd, Int.reduceSub, Int.reduceMul]
    repeat' (first | with_reducible assumption | refine And.intro ?_ ?_ | intro _)
    all_goals first | omega | skip
    rw [decide_eq_true (by omega : (64 : Int) < s.length)]; exact hk
  · have hn : namedS (nameS s) = (s, 0) := by rw [named_name, if_neg hl]
    simp -dsimp -implicitDefEqProofs only [S4, R4, C9, C11, hz, hn, ↓Ev.xStp_eq, ↓Ev.P, Ev.Q, eq_self, forall_eq_or_imp, implies_true, forall_const, forall_eq, ↓reduceIte, reduceIte, Nat.reduceEqDiff, Nat.reduceAdd, reduceCtorEq, Nat.reduceSub, Int.reduceToNat, Int.reduceLE, Int.reduceLT, Int.reduceNeg, Nat.reduceBEq, Nat.reduceMul, Nat.reduceLeDiff, Nat.reduceMod, UInt8.reduceOfNat, Nat.reduceLT, Int.reduceEq, Int.reduceAdd, Int.reduceSub, Int.reduceMul]
    repeat' (first | with_reducible assumption | refine And.intro ?_ ?_ | intro _)
    all_goals first | omega | skip
    rw [decide_eq_true (by omega : (s.length : Int) ≤ 64)]; exact hk
namespace UnifiedNames
open Go.ChangeShapes Go.WideShapes Go.ChangeAt Go.RowKit
open Go.ChangeMaps (open_string shut_string)
theorem own : ownKnob Try.prog.godebug = none := by kernel_rfl
theorem size_eq (s : ByteArray) : s.data.toList.length = s.size := by rw [Array.length_toList]; rfl
theorem contract (H : Type) (enc : TypeId × Value → H) (W : World) (base : Nat) (args : Array Value) (ds gs : List (DataW H)) (before : List MemPlace)
    (hval : ∀ (j : Nat) t v, Try.f4.params[j]? = some t → args[j]? = some v → Value.okWide Try.prog W .any base t v)
    (hW : DataW.Whole enc Try.prog Try.f4.params.toList Rows.unifiedNamesSpec.vars false W args.toList ds gs before) (hk : Rows.uptoSmall H (ds ++ gs) = true) :
    Calls Try.prog 4 args W fun e W' => ∃ v, e = .returned v ∧ Rows.unifiedNamesSpec.post enc Try.prog Try.f4 false true false false W args v W' := by
  have hW' := hW
  obtain ⟨p, q, hA0, hV, rfl, hfz, hnd⟩ := hW
  have hA : DataW.TrodAll enc Try.prog W 0 (fun _ => true) true Try.f4.params.toList args.toList ds p := hA0
  rw [Try.params4] at hA hval
  obtain ⟨v0, vs0, d0, ds0, p0, q0, hargs, rfl, rfl, h0, r0⟩ := trodAll_cons hA
  obtain ⟨v1, vs1, d1, ds1, p1, q1, hargs1, rfl, rfl, h1, r1⟩ := trodAll_cons r0
  obtain ⟨rfl, rfl, rfl⟩ := trodAll_nil r1
  obtain rfl : args = #[v0, v1] := by cases args; simp_all
  obtain ⟨rfl, rfl⟩ := trodVars_none hV
  have u9 : Try.prog.underlying 9 = some .string := by kernel_rfl
  obtain ⟨s0, rfl, rfl, rfl, hm0⟩ := open_string u9 (hval 0 9 v0 rfl rfl) h0
  obtain ⟨s1, rfl, rfl, rfl, hm1⟩ := open_string u9 (hval 1 9 v1 rfl rfl) h1
  clear hA0
  simp only [List.append_nil] at hW'
  have hb : Rows.uptoBulkAll [DataW.lit (H := H) (.string s0.data.toList), DataW.lit (H := H) (.string s1.data.toList)] ≤ 1048576 := of_decide_eq_true hk
  simp only [Rows.uptoBulkAll, Rows.uptoBulk, size_eq] at hb
  refine (law_calls s4 (args := [.d (.v (.string s0)), .d (.v (.string s1))]) (vs := [.string s0, .string s1]) (W := W) ⟨rfl, by omega, rfl⟩ (by simp [CnL, Cn, Rd, Value.oneCell'])).mono fun e W' ⟨he, hg⟩ => ?_
  subst he
  have u4 : Try.prog.underlying 4 = some .bool := by kernel_rfl
  exact ⟨_, rfl, post_of_below (pa := []) (pv := []) hW' (fun _ _ _ => (trodAll_cons_mk (shut_bool u4 _) trodAll_mk0)) (fun _ _ => trodAll_cons_mk (shut_string u9 hm0) (trodAll_cons_mk (shut_string u9 hm1) trodAll_mk0)) (fun _ _ => rfl) rfl
    hg (ok_one (by kernel_rfl) rfl (okWide_bool_mk u4 _))⟩
theorem lifted (os : Os) (started : os.Started) (H : Type) (enc : TypeId × Value → H) (F : Stop.Interp) :
    ReturnsInHanded {} Try.checked os 4 .any ((Rows.OpenSpec.upto Rows.unifiedNamesSpec).pre6 enc Try.prog Try.f4 Rows.unifiedNamesUptoRow.domain false) (((Rows.OpenSpec.upto Rows.unifiedNamesSpec).at F).post enc Try.prog Try.f4 false true false false) := by
  refine returnsInHanded_of_cond (C := Try.checked) (s := Rows.OpenSpec.upto Rows.unifiedNamesSpec) (k := Rows.uptoSmall) rfl own started (by kernel_rfl) Try.func4
    (OpenSpec.witness (enc := enc) (C := Try.checked) (s := Rows.OpenSpec.upto Rows.unifiedNamesSpec) (k := Rows.uptoSmall) rfl false ⟨#[], #[.string .empty, .string .empty], []⟩ 8 (by kernel_rfl) (by kernel_rfl) (by kernel_rfl)
      (x := ([.lit (.string []), .lit (.string [])], [], [])) (by kernel_rfl) rfl (by kernel_rfl)) ?_
  intro W base args ds gs before hval hW _ hk _
  exact contract H enc W base args ds gs before hval hW hk
theorem proved : Rows.UnifiedNamesUptoSaid :=
  OpenClaim.holds_of_cond 4 Try.f4 rfl rfl rfl rfl rfl rfl rfl ⟨rfl, rfl, rfl, rfl, rfl⟩ rfl rfl rfl rfl rfl (by kernel_rfl) Try.func4 (by kernel_rfl)
    (of_decide_eq_true (by kernel_rfl)) (by unfold Func.isWrapper; first | (rw [if_pos (by decide +kernel)]; kernel_rfl) | (rw [if_neg (by decide +kernel)]; exact ⟨rfl, rfl⟩))
    (fun os started H enc _ F => lifted os started H enc F)
end UnifiedNames
end Go.Proofs.Ytpbkdcfjlbdgfaa
