/- UnifiedAgain: what is read of any text is written and read again as the same Part 6 of 6. -/
import Derived.Shelf.Vars
import Derived.Test.YtlghobefhmpfkaaGreatDoorUa1
import Derived.Test.YtlghobefhmpfkaaGreatDoorUa2
import Derived.Test.YtlghobefhmpfkaaGreatDoorUa3
import Derived.Test.YtlghobefhmpfkaaGreatDoorUa4
import Derived.Test.YtlghobefhmpfkaaGreatDoorUa5
set_option linter.unusedSimpArgs false
set_option linter.unusedVariables false
namespace Go.Proofs.YtlghobefhmpfkaaGreatDoor
open Go Go.Ev
set_option maxRecDepth 100000
theorem maxL {W : World} (h : W.ShapedOpen Tryz.prog) : MaxL W :=
 cell_of_shapedOpen_int (zero := #[.int .i64 0]) (t := 3) h (of_decide_eq_true (by kernel_rfl)) (by kernel_rfl) (by kernel_rfl) (by kernel_rfl) (by kernel_rfl) (by kernel_rfl)
def GA (w : World) : Prop := Pow10 w ∧ ErrR w ∧ MaxL w
def hidA (b : Nat) : Prop := some b = Tryz.prog.globalNamed "internal/strconv.uint64pow10" ∨ some b = Tryz.prog.globalNamed "strconv.ErrRange" ∨ b = 1
noncomputable def HA : Hd GA := ⟨hidA, hidA, fun _ h => h, fun w w' h hb => by
 obtain ⟨h1, ⟨tp, p, h2⟩, m, e⟩ := h
 refine ⟨HP.st w w' h1 fun b e => hb b (.inl e), ⟨tp, p, var_keep h2 fun b e => hb b (.inr (.inl e))⟩, m, ?_⟩
 unfold World.cell? at e ⊢
 rw [hb 1 (.inr (.inr rfl))]
 exact e, 0, []⟩
theorem HA_lt {W : World} (h : GA W) {b : Nat} (hb : HA b) : b < W.heap.size := by
 obtain ⟨h1, ⟨tp, p, h2⟩, m, e⟩ := h
 rcases hb with hb | hb | rfl
 · exact HP_lt h1 hb
 · exact (var_if h2 hb).1
 · unfold World.cell? at e
   by_cases hlt : 1 < W.heap.size
   · exact hlt
   · dsimp only at e
     rw [Array.getElem?_eq_none (Nat.le_of_not_lt hlt)] at e
     cases e
end Go.Proofs.YtlghobefhmpfkaaGreatDoor
namespace Go.Proofs.YtlghobefhmpfkaaGreatDoor
open Go Go.Ev
open Go.ChangeShapes Go.WideShapes Go.ChangeAt Go.RowKit
open Go.ChangeMaps (open_string shut_string)
set_option maxRecDepth 100000
namespace UnifiedAgain
theorem contract (H : Type) (enc : TypeId × Value → H) (W : World) (base : Nat) (args : Array Value) (ds gs : List (DataW H)) (before : List MemPlace)
   (hval : ∀ (j : Nat) t v, Tryz.f7.params[j]? = some t → args[j]? = some v → Value.okWide Tryz.prog W .any base t v)
   (hW : DataW.Whole enc Tryz.prog Tryz.f7.params.toList Rows.unifiedAgainSpec.vars false W args.toList ds gs before) (hk : Rows.uptoSmall H (ds ++ gs) = true) (hP : GA W) :
   Calls Tryz.prog 7 args W fun e W' => ∃ v, e = .returned v ∧ Rows.unifiedAgainSpec.post enc Tryz.prog Tryz.f7 false true false false W args v W' := by
 have hW' := hW
 obtain ⟨p, q, hA0, hV, rfl, hfz, hnd⟩ := hW
 have hA : DataW.TrodAll enc Tryz.prog W 0 (fun _ => true) true Tryz.f7.params.toList args.toList ds p := hA0
 rw [Tryz.params7] at hA hval
 obtain ⟨v0, vs0, d0, ds0, p0, q0, hargs0, rfl, rfl, h0, r0⟩ := trodAll_cons hA
 obtain ⟨rfl, rfl, rfl⟩ := trodAll_nil r0
 obtain rfl : args = #[v0] := by cases args; simp_all
 obtain ⟨rfl, rfl⟩ := trodVars_none hV
 have u3 : Tryz.prog.underlying 3 = some (.int .i64) := Tryz.underlying3
 have u9 : Tryz.prog.underlying 9 = some .string := Tryz.underlying9
 have u4 : Tryz.prog.underlying 4 = some .bool := by kernel_rfl
 obtain ⟨x0, rfl, rfl, rfl, hm0⟩ := open_string u9 (hval 0 9 v0 rfl rfl) h0
 clear hA0
 have hbk : Rows.uptoBulkAll ([DataW.lit (H := H) (.string x0.data.toList)] ++ [] : List (DataW H)) ≤ 1048576 := of_decide_eq_true hk
 simp only [List.append_nil, Rows.uptoBulkAll, Rows.uptoBulk, size_eq] at hbk
 simp only [List.append_nil] at hW'
 refine (law_calls HA (s7 (G := GA) (fun w h => h.1) (fun w h => h.2.1) (fun w h => h.2.2)) (args := [.d (.v (.string x0))]) (vs := [.string x0]) (W := W) hP (fun b hb => HA_lt hP hb) ?_ ⟨⟨rfl, rfl⟩, trivial⟩).mono fun e W' ⟨he, hg⟩ => ?_
 · simp -dsimp -implicitDefEqProofs only [CLawA, pureC_wp, need_some]
   exact ⟨trivial, by omega, trivial⟩
 · subst he
   have hlt := hW'.lt
   have lo : laidOutB Tryz.prog = true := by kernel_rfl
   exact ⟨_, rfl, post_of_below (pa := ([] ++ [])) (pv := []) hW' (fun _ _ _ => (trodAll_cons_mk (shut_bool u4 _) trodAll_mk0)) (fun sp hsp => (trodAll_cons_mk (shut_string u9 hm0) trodAll_mk0)) (fun _ _ => rfl) (by simp)
     hg (ok_one (by kernel_rfl) rfl (okWide_bool_mk u4 _))⟩
theorem gl {W : World} (h : laidMetH Tryz.prog Rows.unifiedAgainUptoRow.laid W) : Pow10 W ∧ ErrR W ∧ True := by
 have h' : laidMet Tryz.prog [("math/bits.deBruijn32tab", Rows.laid_math_bits_deBruijn32tab), ("math/bits.deBruijn64tab", Rows.laid_math_bits_deBruijn64tab), ("internal/strconv.uint64pow10", Rows.laid_internal_strconv_uint64pow10), ("unicode/utf8.acceptRanges", Rows.laid_unicode_utf8_acceptRanges), ("strconv.ErrRange", Rows.laid_strconv_ErrRange), ("strconv.ErrSyntax", Rows.laid_strconv_ErrSyntax), ("unicode/utf8.first", Rows.laid_unicode_utf8_first)] W := h
 exact ⟨pow10 (laidMet.tail (laidMet.tail (h'))), errR (laidMet.tail (laidMet.tail (laidMet.tail (laidMet.tail (h'))))), trivial⟩
abbrev wargs : Array Value := #[.string ⟨#[]⟩]
theorem laid_met (os : Os) : laidMet Tryz.prog Rows.unifiedAgainUptoRow.laid ((laidWorld os).forCall (fun _ _ => 0) ⟨#[], wargs, []⟩).memory :=
 laidMet_of_run' 8 (by kernel_rfl) (by kernel_rfl)
theorem reads (os : Os) {H : Type} (enc : TypeId × Value → H) : ∃ places, DataW.whole enc Tryz.prog ((laidWorld os).forCall (fun _ _ => 0) ⟨#[], wargs, []⟩).memory Tryz.f7.params.toList Rows.unifiedAgainSpec.vars false wargs.toList 8 = some ([.lit (.string [])], [], places) :=
 ⟨[], by kernel_rfl⟩
theorem liftedUpto (os : Os) (started : os.Started) (H : Type) (enc : TypeId × Value → H) (F : Stop.Interp) :
   ReturnsInHanded {} Tryz.checked os 7 .any ((Rows.OpenSpec.upto Rows.unifiedAgainSpec).preRow enc Tryz.prog Tryz.f7 Rows.unifiedAgainUptoRow.domain false Rows.unifiedAgainUptoRow.laid) (((Rows.OpenSpec.upto Rows.unifiedAgainSpec).at F).post enc Tryz.prog Tryz.f7 false true false false) := by
 obtain ⟨places, hx⟩ := reads os enc
 refine returnsInHanded_of_row (C := Tryz.checked) (s := Rows.OpenSpec.upto Rows.unifiedAgainSpec) own started (by kernel_rfl) Tryz.func7
   (witness_row_atRef (enc := enc) (C := Tryz.checked) false (laidWorld os) wargs rfl (by kernel_rfl) (by kernel_rfl) (by kernel_rfl)
     (OpenSpec.preRow_of_cond 8 hx (by kernel_rfl) (fun k hk => by cases hk; kernel_rfl) (by kernel_rfl) (laid_met os))) ?_
 intro W base args ds gs before hval hW _ hcond _ hL hsh _
 exact contract H enc W base args ds gs before hval hW (hcond _ rfl) ⟨(gl hL).1, (gl hL).2.1, maxL hsh⟩
theorem saidUpto : Rows.UnifiedAgainUptoSaid :=
 OpenClaim.holds_of_cond 7 Tryz.f7 rfl rfl rfl rfl rfl rfl rfl ⟨rfl, rfl, rfl, rfl, rfl⟩ rfl rfl rfl rfl rfl (by kernel_rfl) Tryz.func7 (by kernel_rfl)
   (of_decide_eq_true (by kernel_rfl)) (by unfold Func.isWrapper; first | (rw [if_pos (by decide +kernel)]; kernel_rfl) | (rw [if_neg (by decide +kernel)]; exact ⟨rfl, rfl⟩))
   (fun os started H enc _ F => by rw [OpenClaim.pre_eq_preRow]; exact liftedUpto os started H enc F)
theorem plain (f : FuncId) (fn : Func) (hf : Tryz.pinned.checked.prog.funcNamed "redline/redlinelaw16.UnifiedAgain" = some f) (hfn : Tryz.pinned.checked.prog.funcs[f]? = some fn) :
   true = Tryz.pinned.checked.prog.looks [] ∧ ∀ (j : Nat) t, fn.params[j]? = some t → Tryz.pinned.checked.prog.wantsStandIn t = false := by
 obtain rfl : f = 7 := Option.some.inj ((show Tryz.prog.funcNamed "redline/redlinelaw16.UnifiedAgain" = some 7 by kernel_rfl).symm.trans hf) |>.symm
 obtain rfl : fn = Tryz.f7 := (Option.some.inj (Tryz.func7.symm.trans hfn)).symm
 refine ⟨by kernel_rfl, fun j t ht => ?_⟩
 have hall : (Tryz.f7.params.toList.all fun u => !Tryz.prog.wantsStandIn u) = true := by kernel_rfl
 have hm : t ∈ Tryz.f7.params.toList := by simpa using Array.mem_of_getElem? ht
 exact (show Tryz.prog.wantsStandIn t = false by simpa using List.all_eq_true.1 hall t hm)
theorem cardUpto : Rows.UnifiedAgainUptoCardSaid :=
 Claim7.holds_tied_plain_at .later [] _ _ _ _ saidUpto (fun _ h => by cases h) (by kernel_rfl) (fun _ h => by cases h) unifiedAgainUpto_row_tie rfl ⟨rfl, rfl⟩ (by kernel_rfl) rfl plain (by kernel_rfl)
end UnifiedAgain
end Go.Proofs.YtlghobefhmpfkaaGreatDoor
