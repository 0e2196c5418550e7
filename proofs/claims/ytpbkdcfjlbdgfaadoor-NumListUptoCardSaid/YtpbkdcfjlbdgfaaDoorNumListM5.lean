/- The proof of NumList, from the evaluator up to the card. Part 5 of 5. -/
import Derived.Below
import Derived.ChangeSame
import Derived.ProofKit
import Derived.OpenShut
import Derived.Test.YtpbkdcfjlbdgfaaDoorRows
import Derived.WalkKit
import Derived.Deep.Slices
import Derived.Deep.Fields
import Derived.Test.YtpbkdcfjlbdgfaaDoorCards
import Derived.Test.YtpbkdcfjlbdgfaaDoorTie
import Derived.JoinedCond
import Derived.Deep.DeepHandedRow
import Derived.Deep.DeepWitnessRowRef
import Derived.Stop.LaidErr
import Derived.Lib.LaidIn
import Derived.Test.YtpbkdcfjlbdgfaaDoorNumListM1
import Derived.Test.YtpbkdcfjlbdgfaaDoorNumListM2
import Derived.Test.YtpbkdcfjlbdgfaaDoorNumListM3
import Derived.Test.YtpbkdcfjlbdgfaaDoorNumListM4
/- From a law's contract to its row: what a call leaves lies below the heap's end as it lay. -/
set_option linter.unusedVariables false
set_option linter.unusedSimpArgs false
namespace Go.Ev
open Go Go.RowKit Go.WideShapes Go.ChangeShapes

theorem law_calls {G : World → Prop} (H : Hd G) {P : Program} {f : FuncId} {C : Contract} (h : Sound G P f C) {args : List SV} {vs : List Value} {W : World} (hg : G W) (hh : ∀ b, H b → b < W.heap.size) (hw : C.wp args ⟨0, []⟩ fun out s => out = .ret (.d (.v (.bool true))))
    (hvs : CnL (fun _ => undef) 0 (fun a u => W.cell? a = some u ∧ ¬ H a.block) args vs) : Calls P f vs.toArray W fun e W' => e = .returned (.bool true) ∧ Below W.heap.size W W' := by
  obtain ⟨_, hc⟩ := h.2 H W (fun _ => undef) (fun _ _ => False) ⟨0, []⟩ args vs _ hw (SOk.empty hh hg _ _)
    (CnL_mono (Nat.le_refl _) (fun _ _ => rfl) (fun a u hau => ⟨hau.1, fun ⟨_, _, h1, _⟩ => by simp [lk] at h1, hau.2⟩) _ _ hvs)
  refine hc.mono ?_
  rintro e W' ⟨m', B', s', out, rfl, hO, hS, hout⟩
  cases e with
  | returned v =>
    simp only [OutOk, Cn, Rd] at hout
    refine ⟨by rw [hout.1], ⟨hS.os, hS.tape, hS.output, hS.size, fun k hk => hS.block k hk fun ⟨_, _, h1, _⟩ => by simp [lk] at h1⟩⟩
  | _ => exact hout.elim

/-- Nothing is hidden, nothing is laid. -/
def noH : Hd (fun _ => True) := ⟨fun _ => False, fun _ => False, fun _ h => h, fun _ _ _ _ => trivial⟩
section
variable {H : Type} {enc : TypeId × Value → H} {P : Program}
theorem post_of_below {f : Func} {s : ChangeSpec} {apart fresh handsOn again : Bool} {W W' : World} {args : Array Value} {v : Value} {ds gs : List (DataW H)} {before pa pv : List MemPlace}
    (hW : DataW.Whole enc P f.params.toList s.vars apart W args.toList ds gs before)
    (hres : ∀ (b : Nat) (sp : Nat → Bool) (hd : Bool), DataW.TrodAll enc P W' b sp hd f.resultTypes.toList (v.resultList f.resultTypes.size) (s.fn H (ds ++ gs)).results [])
    (hargs : ∀ sp : Nat → Bool, (∀ p ∈ before, sp p.block = true) → DataW.TrodAll enc P W' 0 sp true f.params.toList args.toList (s.fn H (ds ++ gs)).args pa)
    (hvars : ∀ sp : Nat → Bool, (∀ p ∈ before, sp p.block = true) → DataW.TrodVars enc P W' sp s.vars (s.fn H (ds ++ gs)).vars pv)
    (hps : before = pa ++ pv) (hb : Below W.heap.size W W')
    (hok : ∀ (j : Nat) (t : TypeId) (r : Value), f.resultTypes[j]? = some t → (v.resultList f.resultTypes.size)[j]? = some r → Value.okWide P W' .any 0 t r) :
    s.post enc P f apart fresh handsOn again W args v W' := by
  have hlt : ∀ p ∈ before, p.block < W.heap.size := fun p hp => hW.lt p hp
  have hold : ∀ p ∈ before, (fun b => decide (b < W.heap.size)) p.block = true := fun p hp => by simpa using hlt p hp
  refine ⟨ds, gs, before, [], pa, pv, hW, hres _ _ _, hargs _ hold, hvars _ hold, World.keptBut_mono (fun p hp => ⟨hp, ?_⟩) (hb.frame (· ∈ before)), fun _ => ?_⟩
  · rw [hps, List.mem_append] at hp
    exact Or.inr hp
  · obtain ⟨_, _, _, _, _, hz, hn⟩ := hW
    refine ⟨hok, _, _, ([] ++ pa) ++ pv, ⟨[] ++ pa, pv, trodAll_append (hargs _ (fun _ _ => rfl)) (hres _ _ _), hvars _ (fun _ _ => rfl), rfl, ?_, ?_⟩, ?_⟩
    · intro b off hp
      have hin : MemPlace.cell b off ∈ before := by rw [hps]; simpa using hp
      rw [hb.frozen (hlt _ hin)]
      exact hz b off hin
    · intro ha
      have := hn ha
      rw [hps] at this
      simpa using this
    · intro p hp _
      rw [hps]
      simpa using hp
end
end Go.Ev
set_option linter.unusedVariables false
set_option linter.unusedSimpArgs false
namespace Go.Proofs.YtpbkdcfjlbdgfaaDoor
open Go Go.Ev
open Go.ChangeShapes Go.WideShapes Go.ChangeAt Go.RowKit
set_option maxRecDepth 100000
variable {H : Type} {enc : TypeId × Value → H}
theorem bulk_app : ∀ a b : List (DataW H), Rows.uptoBulkAll (a ++ b) = Rows.uptoBulkAll a + Rows.uptoBulkAll b
  | [], b => by simp [Rows.uptoBulkAll]
  | x :: r, b => by rw [List.cons_append, Rows.uptoBulkAll, Rows.uptoBulkAll, bulk_app r b]; omega
theorem bulk_strs : ∀ l : List ByteArray, (l.map fun s => s.data.toList.length + 1).sum = Rows.uptoBulkAll (strs l : List (DataW H))
  | [] => by simp [strs, Rows.uptoBulkAll]
  | s :: r => by
    have := bulk_strs r
    simp only [strs, List.map_cons, List.sum_cons, Rows.uptoBulkAll, Rows.uptoBulk] at this ⊢
    omega
theorem arr_eta (b : ByteArray) : (⟨b.data.toList.toArray⟩ : ByteArray) = b := by cases b; simp
theorem okWide_spot {P : Program} {w : World} {r : Reach} {b : Nat} {t e : TypeId} {a : Addr} {len cap : Nat} (ht : P.underlying t = some (.slice e)) (h : Value.okWide P w r b t (.slice (some a) len cap)) : a.spot = none := by
  simp only [Value.okWide, ht, Cell.okWide, Cell.ok, World.has] at h
  simp_all
theorem openStr {b0 : Nat} {W : World} {c : Rdr} {t e : TypeId} {v : Value} {d : DataW H} {p : List MemPlace} {m : Nat → Value} (hc : ∀ a u, W.cell? a = some u → (∀ z, u ≠ .int .u64 z) → c a u)
    (ht : Tryd.prog.underlying t = some (.slice e)) (he : Tryd.prog.underlying e = some .string) (h1 : Tryd.prog.cellsOf e = 1)
    (hv : Value.okWide Tryd.prog W .any b0 t v) (h : DataW.Trod enc Tryd.prog W 0 (fun _ => true) true t v d p) :
    ∃ l : List (List UInt8), Cn m 0 c (.d (.sl (strRows l))) v ∧ (l.map fun s => s.length + 1).sum + 1 ≤ Rows.uptoBulk d := by
  obtain ⟨a0, len, cap, rfl⟩ := okWide_slice ht hv
  obtain ⟨fuel, hf⟩ := h
  rcases open_strings ht he h1 hf with ⟨hcs, hx⟩ | ⟨a, len', cap', ss, hcs, _, hl, hm, hz, hx, hcell, hws⟩
  · simp [Value.cells] at hcs
    obtain ⟨rfl, rfl, rfl⟩ := hcs
    simp only [Prod.mk.injEq] at hx
    obtain ⟨rfl, rfl⟩ := hx
    exact ⟨[], by simp [Cn, Rd, strRows], by simp [Rows.uptoBulk]⟩
  · simp [Value.cells] at hcs
    obtain ⟨rfl, rfl, rfl⟩ := hcs
    simp only [Prod.mk.injEq] at hx
    obtain ⟨rfl, rfl⟩ := hx
    simp only [if_true] at hz
    have hM : maxLen = 9223372036854775807 := by decide
    refine ⟨(ss.take len).map fun s => s.data.toList, ?_, ?_⟩
    · simp only [Cn, Rd]
      refine ⟨some a, cap, by rw [strRows_len]; simp; omega, by rw [strRows_len]; simp; omega, by rw [strRows_len]; simp; omega, .inr ⟨a, 1, rfl, okWide_spot ht hv, rdStr fun i hi => ?_⟩⟩
      simp only [List.length_map, List.length_take] at hi
      rw [Nat.zero_add]
      refine hc _ _ ?_ (fun z e => by cases e)
      rw [hcell i (by omega)]
      congr 2
      simp [List.getD_eq_getElem?_getD, List.getElem?_map, List.getElem?_take_of_lt (show i < len by omega), List.getElem?_eq_getElem (show i < ss.length by omega)]
    · have := bulk_strs (H := H) (ss.take len)
      simp only [Rows.uptoBulk, List.map_map, Function.comp_def]
      omega
end Go.Proofs.YtpbkdcfjlbdgfaaDoor
set_option linter.unusedVariables false
set_option linter.unusedSimpArgs false
namespace Go.Proofs.YtpbkdcfjlbdgfaaDoor
open Go Go.Ev
open Go.ChangeShapes Go.WideShapes Go.ChangeAt Go.RowKit
set_option maxRecDepth 100000
variable {H : Type} {enc : TypeId × Value → H}
theorem cells_q4 {c : Rdr} {W : World} {a : Addr} {k : Nat} {q : Q4} (hc : ∀ a u, W.cell? a = some u → (∀ z, u ≠ .int .u64 z) → c a u)
    (h0 : W.cell? (a.add k) = some (.int .i64 q.1)) (h1 : W.cell? (a.add (k + 1)) = some (.int .i64 q.2.1)) (h2 : W.cell? (a.add (k + 2)) = some (.int .i64 q.2.2.1)) (h3 : W.cell? (a.add (k + 3)) = some (.int .i64 q.2.2.2)) : RdCells c a k (q4Row q) := by
  simp only [q4Row, RdCells, Rd]
  exact ⟨⟨_, hc _ _ h0 (fun z e => by cases e), rfl, rfl⟩, ⟨_, hc _ _ h1 (fun z e => by cases e), rfl, rfl⟩, ⟨_, hc _ _ h2 (fun z e => by cases e), rfl, rfl⟩, ⟨_, hc _ _ h3 (fun z e => by cases e), rfl, rfl⟩, trivial⟩
open Go.Deep in
theorem openQ4 {b0 : Nat} {W : World} {c : Rdr} {t e : TypeId} {f0 f1 f2 f3 : Field} {v : Value} {d : DataW H} {p : List MemPlace} {m : Nat → Value} (hc : ∀ a u, W.cell? a = some u → (∀ z, u ≠ .int .u64 z) → c a u)
    (ht : Tryd.prog.underlying t = some (.slice e)) (he : Tryd.prog.underlying e = some (.struct #[f0, f1, f2, f3])) (hone : oneCellFields Tryd.prog #[f0, f1, f2, f3] = true) (h1 : Tryd.prog.cellsOf e = 4)
    (k0 : Tryd.prog.underlying f0.type = some (.int .i64)) (k1 : Tryd.prog.underlying f1.type = some (.int .i64)) (k2 : Tryd.prog.underlying f2.type = some (.int .i64)) (k3 : Tryd.prog.underlying f3.type = some (.int .i64))
    (hv : Value.okWide Tryd.prog W .any b0 t v) (h : DataW.Trod enc Tryd.prog W 0 (fun _ => true) true t v d p) :
    ∃ l : List Q4, Cn m 0 c (.d (.sl (q4Rows l))) v ∧ l.length + 1 ≤ Rows.uptoBulk d := by
  obtain ⟨a0, len, cap, rfl⟩ := okWide_slice ht hv
  obtain ⟨fuel, hf⟩ := h
  have hM : maxLen = 9223372036854775807 := by decide
  rcases open_slice ht hf with ⟨hcs, hx⟩ | ⟨a, len', cap', mm, n, D, Pl, hcs, _, hl, hm, hz, hx, hi⟩
  · simp [Value.cells] at hcs
    obtain ⟨rfl, rfl, rfl⟩ := hcs
    simp only [Prod.mk.injEq] at hx
    obtain ⟨rfl, rfl⟩ := hx
    exact ⟨[], by simp [Cn, Rd, q4Rows], by simp [Rows.uptoBulk]⟩
  · simp [Value.cells] at hcs
    obtain ⟨rfl, rfl, rfl⟩ := hcs
    simp only [Prod.mk.injEq] at hx
    obtain ⟨rfl, rfl⟩ := hx
    simp only [if_true] at hz
    subst hz
    have each : ∀ i, ∃ q : Q4, i < len → RdCells c a (i * 4) (q4Row q) := fun i => by
      by_cases him : i < len
      · obtain ⟨cs, hcc, htt⟩ := hi i (by omega)
        rw [h1] at hcc
        obtain ⟨ys, n', hn', hy, hlen, hyl, hff⟩ := DataW.trod_struct he htt
        obtain ⟨_, hcl, hat⟩ := World.cells?_some hcc
        have one : ∀ (j : Nat) (f : Field), (#[f0, f1, f2, f3])[j]? = some f → j < 4 → Tryd.prog.underlying f.type = some (.int .i64) → ∃ z, W.cell? (a.add (i * 4 + j)) = some (.int .i64 z) := fun j f hj hj4 hu => by
          obtain ⟨ho, hk⟩ := hone_of hone j f hj
          have h2 := hff j f hj
          rw [ho, hk, List.drop_eq_getElem_cons (by omega)] at h2
          have hys : ys[j]? = some (ys[j]'(by simp at hyl; omega)) := List.getElem?_eq_getElem _
          obtain ⟨z, hz, _, _⟩ := DataW.trod_int hu (h2.trans hys)
          simp only [List.take_succ_cons, List.take_zero, List.cons.injEq, and_true] at hz
          refine ⟨z, ?_⟩
          rw [← Go.Deep.add_add, hat j hj4, ← hz]
          exact List.getElem?_eq_getElem (by omega)
        obtain ⟨z0, e0⟩ := one 0 f0 rfl (by omega) k0
        obtain ⟨z1, e1⟩ := one 1 f1 rfl (by omega) k1
        obtain ⟨z2, e2⟩ := one 2 f2 rfl (by omega) k2
        obtain ⟨z3, e3⟩ := one 3 f3 rfl (by omega) k3
        exact ⟨(z0, z1, z2, z3), fun _ => cells_q4 hc e0 e1 e2 e3⟩
      · exact ⟨(0, 0, 0, 0), fun h => absurd h him⟩
    refine ⟨(List.range len).map fun i => Classical.choose (each i), ?_, ?_⟩
    · simp only [Cn, Rd]
      refine ⟨some a, mm, by rw [q4Rows_len]; simp, by rw [q4Rows_len]; simp; omega, by rw [q4Rows_len]; simp; omega, .inr ⟨a, 4, rfl, okWide_spot ht hv, rdQ4 fun i hi => ?_⟩⟩
      simp only [List.length_map, List.length_range] at hi
      rw [Nat.zero_add]
      have := Classical.choose_spec (each i) hi
      simpa [List.getD_eq_getElem?_getD, List.getElem?_map, List.getElem?_range hi] using this
    · have hbl : ∀ l : List (DataW H), l.length ≤ Rows.uptoBulkAll l := by
        intro l
        induction l with
        | nil => simp
        | cons x r ih =>
          have : 1 ≤ Rows.uptoBulk x := by
            cases x with
            | lit y => cases y <;> simp [Rows.uptoBulk]
            | _ => simp [Rows.uptoBulk]
          simp only [Rows.uptoBulkAll, List.length_cons]; omega
      have := hbl ((List.range len).map D)
      simp only [List.length_map, List.length_range] at this ⊢
      simp only [Rows.uptoBulk]
      omega
end Go.Proofs.YtpbkdcfjlbdgfaaDoor
set_option linter.unusedVariables false
set_option linter.unusedSimpArgs false
namespace Go.Proofs.YtpbkdcfjlbdgfaaDoor
open Go Go.Ev
open Go.ChangeShapes Go.WideShapes Go.ChangeAt Go.RowKit
open Go.ChangeMaps (open_string shut_string)
set_option maxRecDepth 100000
namespace NumNumbers
theorem own : ownKnob Tryd.prog.godebug = none := by kernel_rfl
theorem gTab : Tryd.prog.globalNamed "internal/strconv.uint64pow10" = some 6 := by kernel_rfl
theorem gTabType : (Tryd.prog.globals[6]?).map (·.type) = some 230 := by kernel_rfl
def GN (w : World) : Prop := Pow10 w ∧ ErrR w
noncomputable def HN : Hd GN := ⟨fun b => some b = Tryd.prog.globalNamed "internal/strconv.uint64pow10" ∨ some b = Tryd.prog.globalNamed "strconv.ErrRange", fun b => some b = Tryd.prog.globalNamed "internal/strconv.uint64pow10" ∨ some b = Tryd.prog.globalNamed "strconv.ErrRange", fun _ h => h, fun w w' h hb => by
  refine ⟨HP.st w w' h.1 fun b e => hb b (.inl e), ?_⟩
  obtain ⟨_, tp, p, h⟩ := h
  refine ⟨tp, p, ?_⟩
  unfold World.var? at h ⊢
  cases e : Tryd.prog.globalNamed "strconv.ErrRange" with
  | none => rw [e] at h; cases h
  | some g => rw [e] at h; simp only [Option.bind_some] at h ⊢; rw [hb g (.inr (by rw [e]))]; exact h⟩
theorem HN_lt {W : World} (h : GN W) {b : Nat} (hb : HN b) : b < W.heap.size := by
  rcases hb with hb | hb
  · exact HP_lt h.1 hb
  · obtain ⟨_, tp, p, h⟩ := h
    unfold World.var? at h
    rw [← hb] at h
    simp only [Option.bind_some] at h
    split at h
    · rename_i e
      exact (Array.getElem?_eq_some_iff.1 e).1
    · cases h
theorem size_eq (s : ByteArray) : s.data.toList.length = s.size := by rw [Array.length_toList]; rfl
theorem starE : "*" ++ "errors.errorString" = "*errors.errorString" := by decide
theorem rowE (u : TypeId) (h : Tryd.prog.typeName? 3 u = some "*errors.errorString") : u = 226 :=
  typeName_ptr_named (nm := "errors.errorString") (by rw [starE]; kernel_rfl) (by kernel_rfl) (by decide) u (by rw [starE]; exact h)
theorem gn {W : World} (h : laidMetH Tryd.prog Rows.numNumbersUptoRow.laid W) : GN W := by
  have h2 : laidMet Tryd.prog [("internal/strconv.uint64pow10", Rows.laid_internal_strconv_uint64pow10), ("strconv.ErrRange", Rows.laid_strconv_ErrRange), ("strconv.ErrSyntax", Rows.laid_strconv_ErrSyntax)] W := laidMet.tail (laidMet.tail h)
  refine ⟨Lib.tabIs_of_head (n := 20) (e := 64) gTab gTabType (by kernel_rfl) (by kernel_rfl) (by kernel_rfl) (by kernel_rfl) h2, ?_⟩
  obtain ⟨a, s, h3, _⟩ := laid_sentinel (g := 3) (ti := 47) (tp := 226) (te := 228) (ts := 9) (laidMet.tail h2) (by kernel_rfl) (by kernel_rfl) Tryd.underlying47 rowE Tryd.underlying226 Tryd.underlying228 rfl rfl Tryd.underlying9 (by kernel_rfl) (by kernel_rfl)
  exact ⟨_, _, h3⟩
end NumNumbers
end Go.Proofs.YtpbkdcfjlbdgfaaDoor
set_option linter.unusedVariables false
set_option linter.unusedSimpArgs false
namespace Go.Proofs.YtpbkdcfjlbdgfaaDoor
open Go Go.Ev
open Go.ChangeShapes Go.WideShapes Go.ChangeAt Go.RowKit
set_option maxRecDepth 100000
variable {H : Type} {enc : TypeId × Value → H}
theorem openStr2 {b0 : Nat} {W : World} {c : Rdr} {t e : TypeId} {v : Value} {d : DataW H} {p : List MemPlace} {m : Nat → Value} (hc : ∀ a s, W.cell? a = some (.string s) → c a (.string s))
    (ht : Tryd.prog.underlying t = some (.slice e)) (he : Tryd.prog.underlying e = some .string) (h1 : Tryd.prog.cellsOf e = 1)
    (hv : Value.okWide Tryd.prog W .any b0 t v) (h : DataW.Trod enc Tryd.prog W 0 (fun _ => true) true t v d p) :
    ∃ l : List (List UInt8), Cn m 0 c (.d (.sl (strRows l))) v ∧ (l.map fun s => s.length + 1).sum + 1 ≤ Rows.uptoBulk d := by
  obtain ⟨a0, len, cap, rfl⟩ := okWide_slice ht hv
  obtain ⟨fuel, hf⟩ := h
  rcases open_strings ht he h1 hf with ⟨hcs, hx⟩ | ⟨a, len', cap', ss, hcs, _, hl, hm, hz, hx, hcell, hws⟩
  · simp [Value.cells] at hcs
    obtain ⟨rfl, rfl, rfl⟩ := hcs
    simp only [Prod.mk.injEq] at hx
    obtain ⟨rfl, rfl⟩ := hx
    exact ⟨[], by simp [Cn, Rd, strRows], by simp [Rows.uptoBulk]⟩
  · simp [Value.cells] at hcs
    obtain ⟨rfl, rfl, rfl⟩ := hcs
    simp only [Prod.mk.injEq] at hx
    obtain ⟨rfl, rfl⟩ := hx
    simp only [if_true] at hz
    have hM : maxLen = 9223372036854775807 := by decide
    refine ⟨(ss.take len).map fun s => s.data.toList, ?_, ?_⟩
    · simp only [Cn, Rd]
      refine ⟨some a, cap, by rw [strRows_len]; simp; omega, by rw [strRows_len]; simp; omega, by rw [strRows_len]; simp; omega, .inr ⟨a, 1, rfl, okWide_spot ht hv, rdStr fun i hi => ?_⟩⟩
      simp only [List.length_map, List.length_take] at hi
      rw [Nat.zero_add]
      refine hc _ _ ?_
      rw [hcell i (by omega)]
      congr 2
      simp [List.getD_eq_getElem?_getD, List.getElem?_map, List.getElem?_take_of_lt (show i < len by omega), List.getElem?_eq_getElem (show i < ss.length by omega)]
    · have := bulk_strs (H := H) (ss.take len)
      simp only [Rows.uptoBulk, List.map_map, Function.comp_def]
      omega
theorem rdInt {c : Rdr} {a : Addr} : ∀ {l : List Int} {k : Nat}, (∀ i, i < l.length → c (a.add (k + i)) (.int .i64 (l.getD i 0))) → RdRows c a 1 k (intRows l)
  | [], k, h => by simp [intRows, RdRows]
  | s :: l, k, h => by
    have h0 := h 0 (by simp)
    have hr : RdRows c a 1 (k + 1) (intRows l) := rdInt fun i hi => by
      have := h (i + 1) (by simp; omega)
      rw [show k + 1 + i = k + (i + 1) by omega]
      simpa using this
    have e : intRows (s :: l) = [.v (.int .i64 s)] :: intRows l := rfl
    rw [e]
    simp only [RdRows, RdCells, Rd]
    exact ⟨rfl, ⟨⟨_, by simpa using h0, rfl, rfl⟩, trivial⟩, hr⟩
theorem bulk_ints : ∀ l : List Int, l.length ≤ Rows.uptoBulkAll (lits .i64 l : List (DataW H))
  | [] => by simp [lits, Rows.uptoBulkAll]
  | s :: r => by
    have := bulk_ints r
    simp only [lits, List.map_cons, List.length_cons, Rows.uptoBulkAll, Rows.uptoBulk] at this ⊢
    omega
theorem openInts {b0 : Nat} {W : World} {c : Rdr} {t e : TypeId} {v : Value} {d : DataW H} {p : List MemPlace} {m : Nat → Value} (hc : ∀ a z, W.cell? a = some (.int .i64 z) → c a (.int .i64 z))
    (ht : Tryd.prog.underlying t = some (.slice e)) (he : Tryd.prog.underlying e = some (.int .i64)) (h1 : Tryd.prog.cellsOf e = 1)
    (hv : Value.okWide Tryd.prog W .any b0 t v) (h : DataW.Trod enc Tryd.prog W 0 (fun _ => true) true t v d p) :
    ∃ l : List Int, Cn m 0 c (.d (.sl (intRows l))) v ∧ l.length ≤ Rows.uptoBulk d := by
  obtain ⟨a0, len, cap, rfl⟩ := okWide_slice ht hv
  obtain ⟨fuel, hf⟩ := h
  rcases open_ints ht he h1 hf with ⟨hcs, hx⟩ | ⟨a, len', cap', zs, hcs, _, hl, hm, hz, hx, hcell, hwf⟩
  · simp [Value.cells] at hcs
    obtain ⟨rfl, rfl, rfl⟩ := hcs
    simp only [Prod.mk.injEq] at hx
    obtain ⟨rfl, rfl⟩ := hx
    exact ⟨[], by simp [Cn, Rd, intRows], by simp⟩
  · simp [Value.cells] at hcs
    obtain ⟨rfl, rfl, rfl⟩ := hcs
    simp only [Prod.mk.injEq] at hx
    obtain ⟨rfl, rfl⟩ := hx
    simp only [if_true] at hz
    have hM : maxLen = 9223372036854775807 := by decide
    refine ⟨zs.take len, ?_, ?_⟩
    · simp only [Cn, Rd]
      refine ⟨some a, cap, by rw [intRows_len]; simp; omega, by rw [intRows_len]; simp; omega, by rw [intRows_len]; simp; omega, .inr ⟨a, 1, rfl, okWide_spot ht hv, rdInt fun i hi => ?_⟩⟩
      simp only [List.length_take] at hi
      rw [Nat.zero_add]
      refine hc _ _ ?_
      rw [hcell i (by omega)]
      simp [List.getD_eq_getElem?_getD, List.getElem?_take_of_lt (show i < len by omega)]
    · have := bulk_ints (H := H) (zs.take len)
      simp only [Rows.uptoBulk]
      omega
open NumNumbers in
theorem HN_no {W : World} (h : GN W) {a : Addr} {u : Value} (ha : W.cell? a = some u) (h1 : ∀ z, u ≠ .int .u64 z) (h2 : ∀ t x, u ≠ .iface t x) : ¬ HN a.block := by
  rintro (hb | hb)
  · exact HP_no h.1 ha h1 hb
  · obtain ⟨_, tp, p, he⟩ := h
    unfold World.var? at he
    rw [← hb] at he
    simp only [Option.bind_some] at he
    unfold World.cell? at ha
    split at he
    · rename_i cs t f e
      rw [e] at ha
      simp only [Option.some.injEq] at he
      subst he
      simp only at ha
      split at ha
      · cases ha
      · have hm := Array.mem_of_getElem? ha
        simp only [List.mem_toArray, List.mem_singleton, List.mem_cons, List.not_mem_nil, or_false] at hm
        exact h2 _ _ hm
    · cases he
end Go.Proofs.YtpbkdcfjlbdgfaaDoor
set_option linter.unusedVariables false
set_option linter.unusedSimpArgs false
namespace Go.Proofs.YtpbkdcfjlbdgfaaDoor
open Go Go.Ev
open Go.ChangeShapes Go.WideShapes Go.ChangeAt Go.RowKit
open Go.ChangeMaps (open_string shut_string)
set_option maxRecDepth 100000
namespace NumList
open NumNumbers (GN HN HN_lt size_eq gn own)
theorem len_bulk : ∀ l : List (List UInt8), l.length ≤ (l.map fun s => s.length + 1).sum ∧ ∀ s ∈ l, s.length ≤ (l.map fun s => s.length + 1).sum
  | [] => by simp
  | s :: r => by
    obtain ⟨h1, h2⟩ := len_bulk r
    simp only [List.map_cons, List.sum_cons, List.length_cons, List.forall_mem_cons]
    exact ⟨by omega, by omega, fun x hx => by have := h2 x hx; omega⟩
theorem contract (H : Type) (enc : TypeId × Value → H) (W : World) (base : Nat) (args : Array Value) (ds gs : List (DataW H)) (before : List MemPlace)
    (hval : ∀ (j : Nat) t v, Tryd.f12.params[j]? = some t → args[j]? = some v → Value.okWide Tryd.prog W .any base t v)
    (hW : DataW.Whole enc Tryd.prog Tryd.f12.params.toList Rows.numListSpec.vars false W args.toList ds gs before) (hk : Rows.uptoSmall H (ds ++ gs) = true) (hP : GN W) :
    Calls Tryd.prog 12 args W fun e W' => ∃ v, e = .returned v ∧ Rows.numListSpec.post enc Tryd.prog Tryd.f12 false true false false W args v W' := by
  have hW' := hW
  obtain ⟨p, q, hA0, hV, rfl, hfz, hnd⟩ := hW
  have hA : DataW.TrodAll enc Tryd.prog W 0 (fun _ => true) true Tryd.f12.params.toList args.toList ds p := hA0
  rw [Tryd.params12] at hA hval
  obtain ⟨v0, vs0, d0, ds0, p0, q0, hargs, rfl, rfl, h0, r0⟩ := trodAll_cons hA
  obtain ⟨v1, vs1, d1, ds1, p1, q1, hargs1, rfl, rfl, h1, r1⟩ := trodAll_cons r0
  obtain ⟨rfl, rfl, rfl⟩ := trodAll_nil r1
  obtain rfl : args = #[v0, v1] := by cases args; simp_all
  obtain ⟨rfl, rfl⟩ := trodVars_none hV
  obtain ⟨a, ha, ba⟩ := openStr2 (c := fun a u => W.cell? a = some u ∧ ¬ HN a.block) (m := fun _ => undef) (fun a s h => ⟨h, HN_no hP h (fun z e => by cases e) (fun t x e => by cases e)⟩) Tryd.underlying23 Tryd.underlying9 (by kernel_rfl) (hval 0 23 v0 rfl rfl) h0
  obtain ⟨g, hg0, bg⟩ := openInts (c := fun a u => W.cell? a = some u ∧ ¬ HN a.block) (m := fun _ => undef) (fun a s h => ⟨h, HN_no hP h (fun z e => by cases e) (fun t x e => by cases e)⟩) Tryd.underlying63 Tryd.underlying3 (by kernel_rfl) (hval 1 63 v1 rfl rfl) h1
  clear hA0
  have hbk : Rows.uptoBulkAll ([d0, d1] ++ [] : List (DataW H)) ≤ 1048576 := of_decide_eq_true hk
  simp only [List.append_nil, Rows.uptoBulkAll] at hbk
  simp only [List.append_nil] at hW'
  obtain ⟨a1, a2⟩ := len_bulk a
  refine (law_calls HN (s12 (G := GN) (fun w h => h.1) (fun w h => h.2)) (args := [.d (.sl (strRows a)), .d (.sl (intRows g))]) (vs := [v0, v1]) (W := W) hP (fun b hb => HN_lt hP hb) ?_ ⟨ha, hg0, trivial⟩).mono fun e W' ⟨he, hg⟩ => ?_
  · simp -dsimp -implicitDefEqProofs only [CLawL, pureC_wp, unStr_rows, unInt_rows, Option.bind_some, Option.map_some, need_some]
    exact ⟨trivial, ⟨by omega, by omega, fun s hs => by have := a2 s hs; omega⟩, trivial⟩
  · subst he
    have u4 : Tryd.prog.underlying 4 = some .bool := by kernel_rfl
    have hlt := hW'.lt
    have lo : laidOutB Tryd.prog = true := by kernel_rfl
    have s0 : (23 : Nat) < Tryd.prog.types.size := of_decide_eq_true (by kernel_rfl)
    have s1 : (63 : Nat) < Tryd.prog.types.size := of_decide_eq_true (by kernel_rfl)
    have r0 : Tryd.prog.readableRec 23 = true := by kernel_rfl
    have r1 : Tryd.prog.readableRec 63 = true := by kernel_rfl
    refine ⟨_, rfl, post_of_below (pa := p0 ++ (p1 ++ [])) (pv := []) hW' (fun _ _ _ => (trodAll_cons_mk (shut_bool u4 _) trodAll_mk0)) (fun sp hsp => trodAll_cons_mk (WideElems.Trod_stays lo r0 s0 h0 (fun x hx => hg.same (hlt x (by simp [hx]))) (fun x hx => hsp x (by simp [hx])))
      (trodAll_cons_mk (WideElems.Trod_stays lo r1 s1 h1 (fun x hx => hg.same (hlt x (by simp [hx]))) (fun x hx => hsp x (by simp [hx]))) trodAll_mk0)) (fun _ _ => rfl) (by simp)
      hg (ok_one (by kernel_rfl) rfl (okWide_bool_mk u4 _))⟩
def lits : List (DataW Unit) → List Value
  | [] => []
  | .lit (.int k z) :: r => Value.int k z :: lits r
  | .agg l :: r => (l.map fun x => match x with | .lit (.int k z) => Value.int k z | _ => undef) ++ lits r
  | _ :: r => lits r
def valsU : DataW Unit → Array Value
  | .agg l => (lits l).toArray
  | _ => #[]
def vals : DataW Unit → Array Value
  | .agg l => (l.map fun x => match x with | .lit (.int k z) => Value.int k z | _ => undef).toArray
  | _ => #[]
def text : DataW Unit → ByteArray
  | .iface _ (.ptr (.agg [.lit (.string s)])) => ⟨s.toArray⟩
  | _ => ⟨#[]⟩
noncomputable def low (os : Os) : Nat := (World.holding Tryd.prog os ⟨#[], #[], []⟩).heap.size
noncomputable def laidWorld (os : Os) : World :=
  let w0 := World.holding Tryd.prog os ⟨#[.cells #[.string (text Rows.laid_strconv_ErrRange)] 228, .cells #[.string (text Rows.laid_strconv_ErrSyntax)] 228], #[], []⟩
  let put (h : Array Obj) (g : Nat) (cs : Array Value) : Array Obj := h.modify g fun
    | .cells _ t frozen => .cells cs t frozen
    | o => o
  let h1 := put w0.heap 6 (vals Rows.laid_internal_strconv_uint64pow10)
  let h2 := put h1 7 (vals Rows.laid_math_bits_deBruijn32tab)
  let h3 := put h2 8 (vals Rows.laid_math_bits_deBruijn64tab)
  let h4 := put h3 3 #[.iface 226 (.pointer (some ⟨low os, 0, none⟩))]
  let h5 := put h4 2 #[.iface 226 (.pointer (some ⟨low os + 1, 0, none⟩))]
  let h6 := put h5 4 (valsU Rows.laid_unicode_utf8_first)
  let h7 := put h6 5 (valsU Rows.laid_unicode_utf8_acceptRanges)
  { w0 with heap := h7 }
theorem gnL {W : World} (h : laidMetH Tryd.prog Rows.numListUptoRow.laid W) : GN W := by
  have h2 : laidMet Tryd.prog [("internal/strconv.uint64pow10", Rows.laid_internal_strconv_uint64pow10), ("unicode/utf8.acceptRanges", Rows.laid_unicode_utf8_acceptRanges), ("strconv.ErrRange", Rows.laid_strconv_ErrRange), ("strconv.ErrSyntax", Rows.laid_strconv_ErrSyntax), ("unicode/utf8.first", Rows.laid_unicode_utf8_first)] W := laidMet.tail (laidMet.tail h)
  refine ⟨Lib.tabIs_of_head (n := 20) (e := 64) NumNumbers.gTab NumNumbers.gTabType (by kernel_rfl) (by kernel_rfl) (by kernel_rfl) (by kernel_rfl) h2, ?_⟩
  obtain ⟨a, s, h3, _⟩ := laid_sentinel (g := 3) (ti := 47) (tp := 226) (te := 228) (ts := 9) (laidMet.tail (laidMet.tail h2)) (by kernel_rfl) (by kernel_rfl) Tryd.underlying47 NumNumbers.rowE Tryd.underlying226 Tryd.underlying228 rfl rfl Tryd.underlying9 (by kernel_rfl) (by kernel_rfl)
  exact ⟨_, _, h3⟩
abbrev wargs : Array Value := #[.slice none 0 0, .slice none 0 0]
theorem laid_met (os : Os) : laidMet Tryd.prog Rows.numListUptoRow.laid ((laidWorld os).forCall (fun _ _ => 0) ⟨#[], wargs, []⟩).memory :=
  laidMet_of_run' 8 (by kernel_rfl) (by kernel_rfl)
theorem reads (os : Os) {H : Type} (enc : TypeId × Value → H) : ∃ places, DataW.whole enc Tryd.prog ((laidWorld os).forCall (fun _ _ => 0) ⟨#[], wargs, []⟩).memory Tryd.f12.params.toList Rows.numListSpec.vars false wargs.toList 8 = some ([.nil, .nil], [], places) :=
  ⟨[], by kernel_rfl⟩
theorem liftedUpto (os : Os) (started : os.Started) (H : Type) (enc : TypeId × Value → H) (F : Stop.Interp) :
    ReturnsInHanded {} Tryd.checked os 12 .any ((Rows.OpenSpec.upto Rows.numListSpec).preRow enc Tryd.prog Tryd.f12 Rows.numListUptoRow.domain false Rows.numListUptoRow.laid) (((Rows.OpenSpec.upto Rows.numListSpec).at F).post enc Tryd.prog Tryd.f12 false true false false) := by
  obtain ⟨places, hx⟩ := reads os enc
  refine returnsInHanded_of_row (C := Tryd.checked) (s := Rows.OpenSpec.upto Rows.numListSpec) own started (by kernel_rfl) Tryd.func12
    (witness_row_atRef (enc := enc) (C := Tryd.checked) false (laidWorld os) wargs rfl (by kernel_rfl) (by kernel_rfl) (by kernel_rfl)
      (OpenSpec.preRow_of_cond 8 hx (by kernel_rfl) (fun k hk => by cases hk; kernel_rfl) (by kernel_rfl) (laid_met os))) ?_
  intro W base args ds gs before hval hW _ hcond _ hL _ _
  exact contract H enc W base args ds gs before hval hW (hcond _ rfl) (gnL hL)
theorem saidUpto : Rows.NumListUptoSaid :=
  OpenClaim.holds_of_cond 12 Tryd.f12 rfl rfl rfl rfl rfl rfl rfl ⟨rfl, rfl, rfl, rfl, rfl⟩ rfl rfl rfl rfl rfl (by kernel_rfl) Tryd.func12 (by kernel_rfl)
    (of_decide_eq_true (by kernel_rfl)) (by unfold Func.isWrapper; first | (rw [if_pos (by decide +kernel)]; kernel_rfl) | (rw [if_neg (by decide +kernel)]; exact ⟨rfl, rfl⟩))
    (fun os started H enc _ F => by rw [OpenClaim.pre_eq_preRow]; exact liftedUpto os started H enc F)
theorem plain (f : FuncId) (fn : Func) (hf : Tryd.pinned.checked.prog.funcNamed "redline/redlinelaw01.NumList" = some f) (hfn : Tryd.pinned.checked.prog.funcs[f]? = some fn) :
    true = Tryd.pinned.checked.prog.looks [] ∧ ∀ (j : Nat) t, fn.params[j]? = some t → Tryd.pinned.checked.prog.wantsStandIn t = false := by
  obtain rfl : f = 12 := Option.some.inj ((show Tryd.prog.funcNamed "redline/redlinelaw01.NumList" = some 12 by kernel_rfl).symm.trans hf) |>.symm
  obtain rfl : fn = Tryd.f12 := (Option.some.inj (Tryd.func12.symm.trans hfn)).symm
  refine ⟨by kernel_rfl, fun j t ht => ?_⟩
  have hall : (Tryd.f12.params.toList.all fun u => !Tryd.prog.wantsStandIn u) = true := by kernel_rfl
  have hm : t ∈ Tryd.f12.params.toList := by simpa using Array.mem_of_getElem? ht
  exact (show Tryd.prog.wantsStandIn t = false by simpa using List.all_eq_true.1 hall t hm)
theorem cardUpto : Rows.NumListUptoCardSaid :=
  Claim7.holds_tied_plain_at .later [] _ _ _ _ saidUpto (fun _ h => by cases h) (by kernel_rfl) (fun _ h => by cases h) numListUpto_row_tie rfl ⟨rfl, rfl⟩ (by kernel_rfl) rfl plain (by kernel_rfl)
end NumList
end Go.Proofs.YtpbkdcfjlbdgfaaDoor
