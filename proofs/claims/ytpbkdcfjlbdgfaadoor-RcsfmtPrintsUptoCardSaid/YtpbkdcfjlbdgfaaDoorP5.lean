import Derived.Test.YtpbkdcfjlbdgfaaDoorP4
import Derived.Test.YtpbkdcfjlbdgfaaDoorN14
import Derived.JoinedCond
import Derived.ProofKit
set_option linter.unusedVariables false
set_option linter.unusedSimpArgs false
namespace Go.Proofs.YtpbkdcfjlbdgfaaDoor
open Go Go.Ev
open Go.ChangeShapes Go.WideShapes Go.ChangeAt Go.RowKit
set_option maxRecDepth 100000
namespace RcsfmtPrints
theorem fl_part (l : List (List UInt8)) (k x n : Nat) (h : k ≤ x) : (part l x n).flatten.length + (l.drop (x + n)).flatten.length ≤ (l.drop k).flatten.length := by
  have h1 : l.drop x = part l x n ++ l.drop (x + n) := by rw [part, ← List.drop_drop]; exact (List.take_append_drop n _).symm
  have h2 : l.drop k = (l.drop k).take (x - k) ++ l.drop x := by
    conv => lhs; rw [← List.take_append_drop (x - k) (l.drop k), List.drop_drop, show k + (x - k) = x by omega]
  rw [h2, List.flatten_append, List.length_append, h1, List.flatten_append, List.length_append]
  omega
theorem rcs_bound (b : List (List UInt8)) : ∀ {l : List Q4} {f : Bool} {u v x y : Int}, chkL f u v l = some (x, y) → 0 ≤ u → 0 ≤ v → (rcsT l b).length ≤ 100 * l.length + (b.drop v.toNat).flatten.length
  | [], f, u, v, x, y, h, hu, hv => Nat.zero_le _
  | (A, AN, B, BN) :: r, f, u, v, x, y, h, hu, hv => by
    rw [chkL] at h
    split at h
    · cases h
    · rename_i h1
      split at h
      · cases h
      · rename_i h2
        obtain ⟨k1, k2, k3, k4, -⟩ := okC h1
        simp only at k1 k2 k3 k4 h
        have h3 : ¬ A - u < 0 := fun e => h2 (.inl (.inl e))
        have h4 : A - u = B - v := Decidable.not_not.1 fun e => h2 (.inr e)
        have ih := rcs_bound b h (by omega) (by omega)
        have w2 := fl_part b v.toNat B.toNat BN.toNat (by omega)
        rw [show (B + BN).toNat = B.toNat + BN.toNat by omega] at ih
        have e : rcsT ((A, AN, B, BN) :: r) b = rcsA A AN ++ rcsB A AN B BN b ++ rcsT r b := rfl
        have g1 := itoa_len (n := A + 1) (by omega)
        have g2 := itoa_len (n := AN) (by omega)
        have g3 := itoa_len (n := A + AN) (by omega)
        have g4 := itoa_len (n := BN) (by omega)
        have ha : (rcsA A AN).length ≤ 45 := by
          unfold rcsA; split
          · simp only [List.length_append, List.length_cons, List.length_nil]; omega
          · simp
        have hb : (rcsB A AN B BN b).length ≤ 45 + (part b B.toNat BN.toNat).flatten.length := by
          unfold rcsB; split
          · simp only [List.length_append, List.length_cons, List.length_nil]; omega
          · simp
        rw [e]
        simp only [List.length_append, List.length_cons]
        omega
theorem rcs_small (l : List Q4) (a b : List (List UInt8)) (h : chk l a.length b.length = 0) : (rcsT l b).length ≤ 100 * l.length + b.flatten.length := by
  unfold chk at h
  split at h
  · cases h
  · rename_i x y e
    have := rcs_bound b e (by omega) (by omega)
    simpa using this
theorem len_bulk : ∀ l : List (List UInt8), l.length + l.flatten.length ≤ (l.map fun s => s.length + 1).sum
  | [] => by simp
  | s :: r => by
    have := len_bulk r
    simp only [List.map_cons, List.sum_cons, List.length_cons, List.flatten_cons, List.length_append]
    omega
theorem contract (H : Type) (enc : TypeId × Value → H) (W : World) (base : Nat) (args : Array Value) (ds gs : List (DataW H)) (before : List MemPlace)
    (hval : ∀ (j : Nat) t v, Tryd.f4.params[j]? = some t → args[j]? = some v → Value.okWide Tryd.prog W .any base t v)
    (hW : DataW.Whole enc Tryd.prog Tryd.f4.params.toList Rows.rcsfmtPrintsSpec.vars false W args.toList ds gs before) (hk : Rows.uptoSmall H (ds ++ gs) = true) (hP : Pow10 W) :
    Calls Tryd.prog 4 args W fun e W' => ∃ v, e = .returned v ∧ Rows.rcsfmtPrintsSpec.post enc Tryd.prog Tryd.f4 false true false false W args v W' := by
  have hW' := hW
  obtain ⟨p, q, hA0, hV, rfl, hfz, hnd⟩ := hW
  have hA : DataW.TrodAll enc Tryd.prog W 0 (fun _ => true) true Tryd.f4.params.toList args.toList ds p := hA0
  rw [Tryd.params4] at hA hval
  obtain ⟨v0, vs0, d0, ds0, p0, q0, hargs, rfl, rfl, h0, r0⟩ := trodAll_cons hA
  obtain ⟨v1, vs1, d1, ds1, p1, q1, hargs1, rfl, rfl, h1, r1⟩ := trodAll_cons r0
  obtain ⟨v2, vs2, d2, ds2, p2, q2, hargs2, rfl, rfl, h2, r2⟩ := trodAll_cons r1
  obtain ⟨rfl, rfl, rfl⟩ := trodAll_nil r2
  obtain rfl : args = #[v0, v1, v2] := by cases args; simp_all
  obtain ⟨rfl, rfl⟩ := trodVars_none hV
  have hcell : ∀ a u, W.cell? a = some u → (∀ z, u ≠ .int .u64 z) → (W.cell? a = some u ∧ ¬ HP a.block) := fun a u h hz => ⟨h, HP_no hP h hz⟩
  obtain ⟨l, hl, bl⟩ := openQ4 (m := fun _ => undef) hcell Tryd.underlying22 Tryd.underlying74 (by kernel_rfl) (by kernel_rfl) (by kernel_rfl) (by kernel_rfl) (by kernel_rfl) (by kernel_rfl) (hval 0 22 v0 rfl rfl) h0
  obtain ⟨a, ha, ba⟩ := openStr (m := fun _ => undef) hcell Tryd.underlying23 Tryd.underlying9 (by kernel_rfl) (hval 1 23 v1 rfl rfl) h1
  obtain ⟨b, hb, bb⟩ := openStr (m := fun _ => undef) hcell Tryd.underlying23 Tryd.underlying9 (by kernel_rfl) (hval 2 23 v2 rfl rfl) h2
  clear hA0
  have hbk : Rows.uptoBulkAll ([d0, d1, d2] ++ [] : List (DataW H)) ≤ 1048576 := of_decide_eq_true hk
  simp only [List.append_nil, Rows.uptoBulkAll] at hbk
  simp only [List.append_nil] at hW'
  have a1 := len_bulk a
  have b1 := len_bulk b
  refine (law_calls HP (s4 (G := Pow10) (fun w h => h)) (args := [.d (.sl (q4Rows l)), .d (.sl (strRows a)), .d (.sl (strRows b))]) (vs := [v0, v1, v2]) (W := W) hP (fun b hb => HP_lt hP hb) ?_ ⟨hl, ha, hb, trivial⟩).mono fun e W' ⟨he, hg⟩ => ?_
  · have hs := rcs_small l a b
    simp -dsimp -implicitDefEqProofs only [CLawR, pureC_wp, unQ4_rows, unStr_rows, Option.bind_some, Option.map_some, need_some]
    refine ⟨trivial, ⟨⟨by omega, by omega, by omega⟩, by omega, fun h => by have := hs h; omega⟩, trivial⟩
  · subst he
    have u4 : Tryd.prog.underlying 4 = some .bool := by kernel_rfl
    have hlt := hW'.lt
    have lo : laidOutB Tryd.prog = true := by kernel_rfl
    have s22 : (22 : Nat) < Tryd.prog.types.size := of_decide_eq_true (by kernel_rfl)
    have s23 : (23 : Nat) < Tryd.prog.types.size := of_decide_eq_true (by kernel_rfl)
    have r22 : Tryd.prog.readableRec 22 = true := by kernel_rfl
    have r23 : Tryd.prog.readableRec 23 = true := by kernel_rfl
    refine ⟨_, rfl, post_of_below (pa := p0 ++ (p1 ++ (p2 ++ []))) (pv := []) hW' (fun _ _ _ => (trodAll_cons_mk (shut_bool u4 _) trodAll_mk0)) (fun sp hsp => trodAll_cons_mk (WideElems.Trod_stays lo r22 s22 h0 (fun x hx => hg.same (hlt x (by simp [hx]))) (fun x hx => hsp x (by simp [hx])))
      (trodAll_cons_mk (WideElems.Trod_stays lo r23 s23 h1 (fun x hx => hg.same (hlt x (by simp [hx]))) (fun x hx => hsp x (by simp [hx]))) (trodAll_cons_mk (WideElems.Trod_stays lo r23 s23 h2 (fun x hx => hg.same (hlt x (by simp [hx]))) (fun x hx => hsp x (by simp [hx]))) trodAll_mk0))) (fun _ _ => rfl) (by simp)
      hg (ok_one (by kernel_rfl) rfl (okWide_bool_mk u4 _))⟩
end RcsfmtPrints
end Go.Proofs.YtpbkdcfjlbdgfaaDoor
