/- EdfmtRaw: line feeds of the lines that are edited do not matter Part 4 of 6. -/
import Derived.Test.YtlghobefhmpfkaaGreatDoorProg
import Derived.Lib.Strings
import Derived.Lib.Slices
import Derived.Lib.Walk
import Derived.Lib.Bytealg
import Derived.WalkKit
import Derived.RowKitTokens
import Derived.Laws.CopyOwn
import Derived.Laws.MakeOwn
import Derived.Lib.Hide
import Derived.Test.YtlghobefhmpfkaaGreatDoorEr1
import Derived.Test.YtlghobefhmpfkaaGreatDoorEr2
import Derived.Test.YtlghobefhmpfkaaGreatDoorEr3
set_option linter.unusedVariables false
namespace Go.Proofs.YtlghobefhmpfkaaGreatDoor
open Go Go.Ev
set_option maxRecDepth 100000
def A101 : Ann := ⟨fun _ _ => 0, fun _ => none, fun r => if r = 2 then some (false, [0, 5]) else if r = 3 then some (false, [0, 5]) else if r = 4 then some (false, [0, 5]) else if r = 5 then some (false, [0, 5]) else if r = 6 then some (false, [0, 5, 6, 7]) else if r = 7 then some (false, [6, 7, 8, 9]) else if r = 8 then some (false, [0]) else if r = 9 then some (false, [10, 11]) else none, fun r => if r = 2 then [0, 5] else []⟩
def S101 : SCode :=
  (.seq (.ops [⟨none, (some 2), .mv 2 (.k (Value.int .i64 0)), false⟩,
    ⟨none, (some 3), .mv 3 (.k (Value.int .i64 0)), false⟩,
    ⟨none, (some 4), .mv 4 (.k (Value.bool false)), false⟩])
  (.seq (.seq (.ops [⟨none, (some 5), .mv 5 (.k (Value.int .i64 0)), false⟩])
  (.block 0 (.loop [0, 5] (.seq (.seq (.seq (.keep [0, 5]) (.ops [⟨none, (some 12), .mv 12 (.s 5), false⟩,
    ⟨none, (some 13), .mv 13 (.s 0), false⟩,
    ⟨none, (some 14), .lens 14 (.s 13), false⟩,
    ⟨none, (some 15), .bin 15 .lss (.s 12) (.s 14), false⟩]))
  (.cond (.s 15) .skip (.exit 0)))
  (.seq (.block 1 (.seq (.seq (.keep [0, 5]) (.ops [⟨none, (some 18), .mv 18 (.s 0), false⟩,
    ⟨none, (some 19), .mv 19 (.s 5), false⟩,
    ⟨none, (some 20), .ixs 20 (.s 18) (.s 19), false⟩,
    ⟨none, (some 21), .bin 21 .eql (.s 20) (.k (Value.int .u8 44)), false⟩]))
  (.cond (.s 21) (.seq (.seq (.keep [0, 5]) (.ops [⟨none, (some 23), .mv 23 (.s 0), false⟩,
    ⟨none, (some 24), .mv 24 (.s 5), false⟩,
    ⟨none, (some 25), .sls 25 (.s 23) none (some (.s 24)), false⟩,
    ⟨none, (some 26), .call (some 26) 90 false [(.s 25)], false⟩,
    ⟨none, (some 22), .mv 22 (.s 26), false⟩,
    ⟨none, (some 27), .ex 27 (.s 22) 0, false⟩,
    ⟨none, (some 28), .ex 28 (.s 22) 1, false⟩,
    ⟨none, (some 6), .mv 6 (.s 27), false⟩,
    ⟨none, (some 7), .mv 7 (.s 28), false⟩]))
  (.seq (.seq (.keep [0, 5, 6, 7]) (.ops [⟨none, (some 30), .mv 30 (.s 0), false⟩,
    ⟨none, (some 31), .mv 31 (.s 5), false⟩,
    ⟨none, (some 32), .binc 32 .add (.s 31) (.k (Value.int .i64 1)), false⟩,
    ⟨none, (some 33), .sls 33 (.s 30) (some (.s 32)) none, false⟩,
    ⟨none, (some 34), .call (some 34) 90 false [(.s 33)], false⟩,
    ⟨none, (some 29), .mv 29 (.s 34), false⟩,
    ⟨none, (some 35), .ex 35 (.s 29) 0, false⟩,
    ⟨none, (some 36), .ex 36 (.s 29) 1, false⟩,
    ⟨none, (some 8), .mv 8 (.s 35), false⟩,
    ⟨none, (some 9), .mv 9 (.s 36), true⟩]))
  (.seq (.seq (.keep [6, 7, 8, 9]) (.ops [⟨none, (some 37), .mv 37 (.s 6), false⟩,
    ⟨none, (some 38), .mv 38 (.s 8), false⟩,
    ⟨none, (some 39), .mv 39 (.s 6), false⟩,
    ⟨none, (some 40), .binc 40 .sub (.s 38) (.s 39), false⟩,
    ⟨none, (some 41), .binc 41 .add (.s 40) (.k (Value.int .i64 1)), false⟩,
    ⟨none, (some 42), .mv 42 (.s 7), false⟩,
    ⟨none, (some 43), .bin 43 .eql (.s 42) (.k (Value.int .i64 0)), false⟩,
    ⟨none, (some 44), .mv 44 (.s 43), false⟩,
    ⟨(some (44, true)), (some 45), .mv 45 (.s 9), false⟩,
    ⟨(some (44, true)), (some 46), .bin 46 .eql (.s 45) (.k (Value.int .i64 0)), true⟩,
    ⟨none, (some 47), .pk 47 (.s 44) (.s 46) (.k (Value.bool false)), false⟩,
    ⟨none, (some 48), .mv 48 (.s 47), false⟩,
    ⟨(some (48, true)), (some 49), .mv 49 (.s 6), false⟩,
    ⟨(some (48, true)), (some 50), .bin 50 .geq (.s 49) (.k (Value.int .i64 1)), false⟩,
    ⟨none, (some 51), .pk 51 (.s 48) (.s 50) (.k (Value.bool false)), false⟩,
    ⟨none, (some 52), .mv 52 (.s 51), false⟩,
    ⟨(some (52, true)), (some 53), .mv 53 (.s 8), false⟩,
    ⟨(some (52, true)), (some 54), .mv 54 (.s 6), false⟩,
    ⟨(some (52, true)), (some 55), .bin 55 .gtr (.s 53) (.s 54), false⟩,
    ⟨none, (some 56), .pk 56 (.s 52) (.s 55) (.k (Value.bool false)), true⟩,
    ⟨none, (some 2), .mv 2 (.s 37), false⟩,
    ⟨none, (some 3), .mv 3 (.s 41), false⟩,
    ⟨none, (some 4), .mv 4 (.s 56), false⟩]))
  .ret))) .skip)))
  (.seq (.keep [0, 5]) (.ops [⟨none, (some 16), .mv 16 (.s 5), false⟩,
    ⟨none, (some 17), .binc 17 .add (.s 16) (.k (Value.int .i64 1)), false⟩,
    ⟨none, (some 5), .mv 5 (.s 17), false⟩])))))))
  (.seq (.seq (.keep [0]) (.ops [⟨none, (some 58), .mv 58 (.s 0), false⟩,
    ⟨none, (some 59), .call (some 59) 90 false [(.s 58)], false⟩,
    ⟨none, (some 57), .mv 57 (.s 59), false⟩,
    ⟨none, (some 60), .ex 60 (.s 57) 0, false⟩,
    ⟨none, (some 61), .ex 61 (.s 57) 1, false⟩,
    ⟨none, (some 10), .mv 10 (.s 60), false⟩,
    ⟨none, (some 11), .mv 11 (.s 61), false⟩]))
  (.seq (.seq (.keep [10, 11]) (.ops [⟨none, (some 62), .mv 62 (.s 10), false⟩,
    ⟨none, (some 63), .mv 63 (.s 11), false⟩,
    ⟨none, (some 64), .bin 64 .eql (.s 63) (.k (Value.int .i64 0)), false⟩,
    ⟨none, (some 65), .mv 65 (.s 64), false⟩,
    ⟨(some (65, true)), (some 66), .mv 66 (.s 10), false⟩,
    ⟨(some (65, true)), (some 67), .bin 67 .geq (.s 66) (.k (Value.int .i64 1)), false⟩,
    ⟨none, (some 68), .pk 68 (.s 65) (.s 67) (.k (Value.bool false)), false⟩,
    ⟨none, (some 2), .mv 2 (.s 62), false⟩,
    ⟨none, (some 3), .mv 3 (.k (Value.int .i64 1)), false⟩,
    ⟨none, (some 4), .mv 4 (.s 68), true⟩]))
  .ret))))
theorem cc101 : (Tryz.f101.body).bind (cc Tryz.prog Tryz.f101.ntmps A101) = some S101 := by kernel_rfl
def R101 : List RR := [.sl 2, .sl 3, .sl 4]
theorem cr101 : Tryz.f101.results.toList.map (crr Tryz.prog) = R101.map some := by kernel_rfl
theorem nm101 : (Tryz.f101.name == "runtime.NumGoroutine") = false := by kernel_rfl
theorem fn101 : Tryz.prog.funcs[101]? = some Tryz.f101 := by kernel_rfl
theorem bd101 : ∃ b, Tryz.f101.body = some b ∧ cc Tryz.prog Tryz.f101.ntmps A101 b = some S101 := Option.bind_eq_some_iff.1 cc101
theorem sd101 {G : World → Prop} {T : FuncId → Contract} {C : Contract} (hT : ∀ f, Sound G Tryz.prog f (T f)) (hl : C.lawful) (hC : ∀ args st K, C.wp args st K → args.length ≤ 69 ∧ ∃ os op, xv T st.n S101 (st0 args st) (retK R101 st.n os K) (panK st.n op K)) (hit : SoundIt G Tryz.prog 101 C.it := by exact SoundIt.none) : Sound G Tryz.prog 101 C := by
  obtain ⟨b, hb, hc⟩ := bd101
  rw [xv_eq] at hC
  exact sound_of_ev mo fn101 hb nm101 hc cr101 hT hl hit hC
end Go.Proofs.YtlghobefhmpfkaaGreatDoor
set_option linter.unusedVariables false
set_option linter.unusedSimpArgs false
namespace Go.Proofs.YtlghobefhmpfkaaGreatDoor
open Go Go.Ev Go.Rcs
set_option maxRecDepth 100000
variable {G : World → Prop}
abbrev Fl := Int × Int
def nextL (L : List (List UInt8)) (at_ : Nat) : Except Fl (List UInt8 × Nat) :=
  if at_ < L.length then if (bareS (L.getD at_ [])).2 = true then .ok ((bareS (L.getD at_ [])).1, at_ + 1) else .error ((at_ : Int) + 1, 3) else .error ((at_ : Int) + 1, 1)
theorem nextL_ok {L : List (List UInt8)} {k : Nat} (h : k < L.length) (hb : (bareS (L.getD k [])).2 = true) : nextL L k = .ok ((bareS (L.getD k [])).1, k + 1) := by rw [nextL, if_pos h, if_pos hb]
theorem nextL_bad {L : List (List UInt8)} {k : Nat} (h : k < L.length) (hb : (bareS (L.getD k [])).2 = false) : nextL L k = .error ((k : Int) + 1, 3) := by rw [nextL, if_pos h, if_neg (by rw [hb]; decide)]
theorem nextL_end {L : List (List UInt8)} {k : Nat} (h : ¬ k < L.length) : nextL L k = .error ((k : Int) + 1, 1) := by rw [nextL, if_neg h]
def strA (x : List UInt8 × Nat) : SV × Int := (.d (.v (.string ⟨x.1.toArray⟩)), (x.2 : Int))
def smL (L : List (List UInt8)) : Prop := L.length ≤ 1099511627776 ∧ ∀ s ∈ L, s.length ≤ 1099511627776
theorem map_ok {α β : Type} {f : α → β} {x : α} : (Except.ok x : Except Fl α).map f = .ok (f x) := rfl
theorem map_error {α β : Type} {f : α → β} {e : Fl} : (Except.error e : Except Fl α).map f = .error e := rfl
def cutK (k : UInt8) : List UInt8 → Option (List UInt8 × List UInt8)
  | [] => none
  | c :: r => if c = k then some ([], r) else (cutK k r).map fun p => (c :: p.1, p.2)
theorem cutK_ix (k : UInt8) : ∀ l : List UInt8, cutK k l = if Lib.indexByte l k < 0 then none else some (l.take (Lib.indexByte l k).toNat, l.drop ((Lib.indexByte l k).toNat + 1))
  | [] => rfl
  | c :: r => by
    have ih := cutK_ix k r
    have hge := Lib.indexByte_ge r k
    by_cases h : c = k
    · subst h; simp [cutK, Lib.indexByte]
    · have h1 : (c == k) = false := by simpa using h
      have hx : Lib.indexByte (c :: r) k = if Lib.indexByte r k = -1 then -1 else Lib.indexByte r k + 1 := by
        simp only [Lib.indexByte, h1, beq_iff_eq, Bool.false_eq_true, if_false]
      rw [hx, cutK, if_neg h, ih]
      by_cases h2 : Lib.indexByte r k = -1
      · rw [if_pos h2, h2]; rfl
      · rw [if_neg h2, if_neg (by omega), if_neg (by omega)]
        have e : (Lib.indexByte r k + 1).toNat = (Lib.indexByte r k).toNat + 1 := by omega
        rw [e]; rfl
theorem cutK_at {b : UInt8} : ∀ {r : List UInt8} {k : Nat}, k < r.length → b ∉ r.take k → r.getD k 0 = b → cutK b r = some (r.take k, r.drop (k + 1))
  | [], _, h, _, _ => by simp at h
  | c :: r, 0, _, _, h => by
    have : c = b := by simpa using h
    rw [cutK, if_pos this]; rfl
  | c :: r, k + 1, h, hn, hc => by
    simp only [List.take_succ_cons, List.mem_cons, not_or] at hn
    rw [cutK, if_neg (fun e => hn.1 e.symm), cutK_at (r := r) (k := k) (by simpa using h) hn.2 (by simpa using hc)]
    rfl
theorem cutK_non {b : UInt8} : ∀ {r : List UInt8}, b ∉ r → cutK b r = none
  | [], _ => rfl
  | c :: r, h => by
    simp only [List.mem_cons, not_or] at h
    rw [cutK, if_neg (fun e => h.1 e.symm), cutK_non h.2]; rfl
def cutG (k : UInt8) (l : List UInt8) : List UInt8 × List UInt8 := (cutK k l).getD (l, [])
def CIxC : Contract := pureC fun args => match args with
  | [.d (.v (.string s)), .d (.v (.string p))] => some (p.data.toList = [44], .d (.v (.int .i64 (Lib.indexByte s.data.toList 44))))
  | _ => none
theorem sIxC : Sound G Tryz.prog 149 CIxC := by
  refine sound_lib ⟨Tryz.f149, by kernel_rfl, by kernel_rfl, by kernel_rfl⟩ fun args p x h hp => ?_
  split at h <;> simp only [Option.some.injEq, Prod.mk.injEq, reduceCtorEq] at h
  obtain ⟨rfl, rfl⟩ := h
  rename_i s q
  obtain ⟨q', rfl⟩ := ex_str q
  simp only [sem_str] at hp
  subst hp
  refine ⟨_, fun m n c => ⟨rfl, rfl⟩, fun w hw m c vs hc hv => ?_⟩
  match vs, hv with
  | [a, b], hv =>
    simp only [CnL, and_true] at hv
    obtain ⟨v1, v2⟩ := hv
    rw [of_v v1, of_v v2]
    refine (Tryz.stringslite_Index_one s 44 w).mono ?_
    rintro e w' ⟨rfl, rfl⟩
    exact ⟨rfl, RowKit.Below.refl _ _⟩
  | [], hv => simp [CnL] at hv
  | [_], hv => simp [CnL] at hv
  | _ :: _ :: _ :: _, hv => simp [CnL] at hv
def CCutC : Contract := pureC fun args => match args with
  | [.d (.v (.string s)), .d (.v (.string p))] => some (s.size ≤ 1099511627776 ∧ p.data.toList = [44], .tup [.d (.v (str (cutG 44 s.data.toList).1)), .d (.v (str (cutG 44 s.data.toList).2)), .d (.v (.bool (cutK 44 s.data.toList).isSome))])
  | _ => none
theorem sCutC : Sound G Tryz.prog 146 CCutC := by
  refine sd146 (T := tabT [(149, CIxC)]) (tab_cons sIxC tab_nil) (pureC_lawful _) (pure_hX fun args p x K h hp hk => ?_)
  split at h <;> simp only [Option.some.injEq, Prod.mk.injEq, reduceCtorEq] at h
  obtain ⟨rfl, rfl⟩ := h
  rename_i s q
  obtain ⟨q, rfl⟩ := ex_str q
  obtain ⟨s, rfl⟩ := ex_str s
  simp only [sem_str] at hp hk
  obtain ⟨h1, rfl⟩ := hp
  refine ⟨Nat.le_of_ble_eq_true rfl, ?_⟩
  have hc := cutK_ix 44 s
  have hlt := ix_lt s 44
  by_cases hn : Lib.indexByte s 44 < 0
  · rw [if_pos hn] at hc
    rw [cutG, hc] at hk
    have hn2 : ¬ 0 ≤ Lib.indexByte s 44 := by omega
    simp -dsimp -implicitDefEqProofs only [S146, R146, CIxC, hn2, ↓Ev.xStp_eq, ↓Ev.P, Ev.Q, Bool.cond_true, Bool.cond_false, eq_self, forall_eq_or_imp, implies_true, forall_const, forall_eq, ↓reduceIte, reduceIte, Nat.reduceEqDiff, Nat.reduceAdd, reduceCtorEq, Nat.reduceSub, Int.reduceToNat, Int.reduceLE, Int.reduceLT, Int.reduceNeg, Nat.reduceBEq, Nat.reduceMul, Nat.reduceLeDiff, Nat.reduceMod, UInt8.reduceOfNat, Nat.reduceLT, Int.reduceEq, Int.reduceAdd, Int.reduceSub, Int.reduceMul]
    exact hk
  · rw [if_neg hn] at hc
    rw [cutG, hc] at hk
    have hn2 : 0 ≤ Lib.indexByte s 44 := by omega
    simp -dsimp -implicitDefEqProofs only [S146, R146, CIxC, hn2, ↓Ev.xStp_eq, ↓Ev.P, Ev.Q, Bool.cond_true, Bool.cond_false, eq_self, forall_eq_or_imp, implies_true, forall_const, forall_eq, ↓reduceIte, reduceIte, Nat.reduceEqDiff, Nat.reduceAdd, reduceCtorEq, Nat.reduceSub, Int.reduceToNat, Int.reduceLE, Int.reduceLT, Int.reduceNeg, Nat.reduceBEq, Nat.reduceMul, Nat.reduceLeDiff, Nat.reduceMod, UInt8.reduceOfNat, Nat.reduceLT, Int.reduceEq, Int.reduceAdd, Int.reduceSub, Int.reduceMul]
    obtain ⟨i, hi⟩ := Int.eq_ofNat_of_zero_le hn2
    rw [hi] at hk hlt ⊢
    refine ⟨by omega, by omega, by omega, ?_⟩
    rw [show ((i : Int) + ((1 : Nat) : Int)).toNat = i + 1 by omega]
    exact hk
theorem sCutCs : Sound G Tryz.prog 85 CCutC := by
  refine sd85 (T := tabT [(146, CCutC)]) (tab_cons sCutC tab_nil) (pureC_lawful _) (pure_hX fun args p x K h hp hk => ?_)
  split at h <;> simp only [Option.some.injEq, Prod.mk.injEq, reduceCtorEq] at h
  obtain ⟨rfl, rfl⟩ := h
  refine ⟨Nat.le_of_ble_eq_true rfl, ?_⟩
  simp -dsimp -implicitDefEqProofs only [S85, R85, CCutC, ↓Ev.xStp_eq, ↓Ev.P, Ev.Q, Bool.cond_true, Bool.cond_false, eq_self, forall_eq_or_imp, implies_true, forall_const, forall_eq, ↓reduceIte, reduceIte, Nat.reduceEqDiff, Nat.reduceAdd, reduceCtorEq, Nat.reduceSub, Int.reduceToNat, Int.reduceLE, Int.reduceLT, Int.reduceNeg, Nat.reduceBEq, Nat.reduceMul, Nat.reduceLeDiff, Nat.reduceMod, UInt8.reduceOfNat, Nat.reduceLT, Int.reduceEq, Int.reduceAdd, Int.reduceSub, Int.reduceMul]
  exact ⟨hp, hk⟩
theorem cutG_len (k : UInt8) (l : List UInt8) : (cutG k l).1.length ≤ l.length ∧ (cutG k l).2.length ≤ l.length := by
  rw [cutG, cutK_ix]
  split
  · simp
  · simp only [Option.getD_some, List.length_take, List.length_drop]; omega
def sevL (s : List UInt8) : (Int × Int) × Bool := match cutK 44 s with
  | none => (((parseS s).1, 1), decide ((parseS s).2 = 0 ∧ 1 ≤ (parseS s).1))
  | some (p, q) => (((parseS p).1, (parseS q).1 - (parseS p).1 + 1), decide (((parseS p).2 = 0 ∧ (parseS q).2 = 0) ∧ 1 ≤ (parseS p).1 ∧ (parseS p).1 < (parseS q).1))
def tri (x : (Int × Int) × Bool) : SV := .tup [.d (.v (.int .i64 x.1.1)), .d (.v (.int .i64 x.1.2)), .d (.v (.bool x.2))]
def CLinR : Contract := pureC fun args => match args with
  | [.d (.v (.string s))] => some (s.size ≤ 1099511627776, tri (sevL s.data.toList))
  | _ => none
set_option maxHeartbeats 2000000 in
theorem s101 : Sound G Tryz.prog 101 CLinR := by
  refine sd101 (T := tabT [(90, CParse)]) (tab_cons s90 tab_nil) (pureC_lawful _) (pure_hX fun args p x K h hp hk => ?_)
  split at h <;> simp only [Option.some.injEq, Prod.mk.injEq, reduceCtorEq] at h
  obtain ⟨rfl, rfl⟩ := h
  rename_i s
  obtain ⟨s, rfl⟩ := ex_str s
  simp only [sem_str] at hp hk
  refine ⟨Nat.le_of_ble_eq_true rfl, ?_⟩
  simp -dsimp -implicitDefEqProofs only [S101, R101, ↓Ev.xStp_eq, ↓Ev.P, Ev.Q, Bool.cond_true, Bool.cond_false, eq_self, forall_eq_or_imp, implies_true, forall_const, forall_eq, ↓reduceIte, reduceIte, Nat.reduceEqDiff, Nat.reduceAdd, reduceCtorEq, Nat.reduceSub, Int.reduceToNat, Int.reduceLE, Int.reduceLT, Int.reduceNeg, Nat.reduceBEq, Nat.reduceMul, Nat.reduceLeDiff, Nat.reduceMod, UInt8.reduceOfNat, Nat.reduceLT, Int.reduceEq, Int.reduceAdd, Int.reduceSub, Int.reduceMul]
  refine xLoop_intro (fun n st => ∃ k : Nat, k ≤ s.length ∧ n = s.length - k ∧ 44 ∉ s.take k ∧ st = ⟨[(0, .d (.v (.string ⟨s.toArray⟩))), (5, .d (.v (.int .i64 k)))], 0, []⟩) s.length [] ?_ ?_ ?_
  · simp -dsimp -implicitDefEqProofs only [↓Ev.xStp_eq, ↓Ev.P, Ev.Q, Bool.cond_true, Bool.cond_false, eq_self, forall_eq_or_imp, implies_true, forall_const, forall_eq, ↓reduceIte, reduceIte, Nat.reduceEqDiff, Nat.reduceAdd, reduceCtorEq, Nat.reduceSub, Int.reduceToNat, Int.reduceLE, Int.reduceLT, Int.reduceNeg, Nat.reduceBEq, Nat.reduceMul, Nat.reduceLeDiff, Nat.reduceMod, UInt8.reduceOfNat, Nat.reduceLT, Int.reduceEq, Int.reduceAdd, Int.reduceSub, Int.reduceMul]
  · simp -dsimp -implicitDefEqProofs only [↓Ev.xStp_eq, ↓Ev.P, Ev.Q, Bool.cond_true, Bool.cond_false, eq_self, forall_eq_or_imp, implies_true, forall_const, forall_eq, ↓reduceIte, reduceIte, Nat.reduceEqDiff, Nat.reduceAdd, reduceCtorEq, Nat.reduceSub, Int.reduceToNat, Int.reduceLE, Int.reduceLT, Int.reduceNeg, Nat.reduceBEq, Nat.reduceMul, Nat.reduceLeDiff, Nat.reduceMod, UInt8.reduceOfNat, Nat.reduceLT, Int.reduceEq, Int.reduceAdd, Int.reduceSub, Int.reduceMul]
    exact ⟨0, by omega, by omega, by simp, rfl⟩
  · rintro n st ⟨k, hk1, hn, hno, rfl⟩
    by_cases hkl : k < s.length
    · have hi3 : (k : Int) < (s.length : Int) := by omega
      have v3 : (((s.getD k 0).toNat : Int) = 44) = (s.getD k 0 = 44) := u8_k _ 44 (by decide)
      by_cases hc : s.getD k 0 = 44
      · have hcut := cutK_at hkl hno hc
        have b1 := parseS_bd (s.take k)
        have b2 := parseS_bd (s.drop (k + 1))
        unfold tri sevL at hk
        rw [hcut] at hk
        dsimp only at hk
        have v4 : (((s.getD k 0).toNat : Int) = 44) = True := v3.trans (eq_true hc)
        simp -dsimp -implicitDefEqProofs only [hi3, v4, CParse, ↓Ev.P, Ev.Q, Bool.cond_true, Bool.cond_false, eq_self, forall_eq_or_imp, implies_true, forall_const, forall_eq, ↓reduceIte, reduceIte, Nat.reduceEqDiff, Nat.reduceAdd, reduceCtorEq, Nat.reduceSub, Int.reduceToNat, Int.reduceLE, Int.reduceLT, Int.reduceNeg, Nat.reduceBEq, Nat.reduceMul, Nat.reduceLeDiff, Nat.reduceMod, UInt8.reduceOfNat, Nat.reduceLT, Int.reduceEq, Int.reduceAdd, Int.reduceSub, Int.reduceMul]
        repeat' (first | with_reducible assumption | refine And.intro ?_ ?_ | intro _ | (rw [Ev.xStp_eq]; simp -dsimp -implicitDefEqProofs only [hi3, v4, CParse, ↓Ev.P, Ev.Q, Bool.cond_true, Bool.cond_false, eq_self, forall_eq_or_imp, implies_true, forall_const, forall_eq, ↓reduceIte, reduceIte, Nat.reduceEqDiff, Nat.reduceAdd, reduceCtorEq, Nat.reduceSub, Int.reduceToNat, Int.reduceLE, Int.reduceLT, Int.reduceNeg, Nat.reduceBEq, Nat.reduceMul, Nat.reduceLeDiff, Nat.reduceMod, UInt8.reduceOfNat, Nat.reduceLT, Int.reduceEq, Int.reduceAdd, Int.reduceSub, Int.reduceMul]))
        all_goals try omega
        all_goals try (simp only [List.length_take, List.length_drop]; omega)
        have e : (decide ((parseS (List.take k s)).snd = 0) && decide ((parseS (List.drop (k + 1) s)).snd = 0) && decide (1 ≤ (parseS (List.take k s)).fst) && decide ((parseS (List.take k s)).fst < (parseS (List.drop (k + 1) s)).fst)) = decide (((parseS (List.take k s)).2 = 0 ∧ (parseS (List.drop (k + 1) s)).2 = 0) ∧ 1 ≤ (parseS (List.take k s)).1 ∧ (parseS (List.take k s)).1 < (parseS (List.drop (k + 1) s)).1) := by
          rw [Bool.eq_iff_iff, decide_eq_true_eq]
          simp only [Bool.and_eq_true, decide_eq_true_eq, and_assoc]
        first
          | (rw [e]; exact hk)
          | (rw [List.take_of_length_le (l := List.drop (k + 1) s) (by rw [List.length_drop]; omega)]; rw [e]; exact hk)
      · simp -dsimp -implicitDefEqProofs only [hi3, v3, hc, CParse, ↓Ev.xStp_eq, ↓Ev.P, Ev.Q, Bool.cond_true, Bool.cond_false, eq_self, forall_eq_or_imp, implies_true, forall_const, forall_eq, ↓reduceIte, reduceIte, Nat.reduceEqDiff, Nat.reduceAdd, reduceCtorEq, Nat.reduceSub, Int.reduceToNat, Int.reduceLE, Int.reduceLT, Int.reduceNeg, Nat.reduceBEq, Nat.reduceMul, Nat.reduceLeDiff, Nat.reduceMod, UInt8.reduceOfNat, Nat.reduceLT, Int.reduceEq, Int.reduceAdd, Int.reduceSub, Int.reduceMul]
        repeat' (first | with_reducible assumption | refine And.intro ?_ ?_ | intro _)
        all_goals try omega
        refine xAgain_intro (s.length - (k + 1)) [] (by omega) (by simp -dsimp -implicitDefEqProofs only [↓Ev.xStp_eq, ↓Ev.P, Ev.Q, Bool.cond_true, Bool.cond_false, eq_self, forall_eq_or_imp, implies_true, forall_const, forall_eq, ↓reduceIte, reduceIte, Nat.reduceEqDiff, Nat.reduceAdd, reduceCtorEq, Nat.reduceSub, Int.reduceToNat, Int.reduceLE, Int.reduceLT, Int.reduceNeg, Nat.reduceBEq, Nat.reduceMul, Nat.reduceLeDiff, Nat.reduceMod, UInt8.reduceOfNat, Nat.reduceLT, Int.reduceEq, Int.reduceAdd, Int.reduceSub, Int.reduceMul]) ⟨k + 1, by omega, rfl, ?_, ?_⟩
        · rw [List.take_succ_eq_append_getElem hkl, List.mem_append]
          rintro (hm | hm)
          · exact hno hm
          · have e := List.mem_singleton.1 hm
            refine hc ?_
            rw [List.getD_eq_getElem?_getD, List.getElem?_eq_getElem hkl, Option.getD_some, e]
        · simp -dsimp -implicitDefEqProofs only [↓Ev.xStp_eq, ↓Ev.P, Ev.Q, Bool.cond_true, Bool.cond_false, eq_self, forall_eq_or_imp, implies_true, forall_const, forall_eq, ↓reduceIte, reduceIte, Nat.reduceEqDiff, Nat.reduceAdd, reduceCtorEq, Nat.reduceSub, Int.reduceToNat, Int.reduceLE, Int.reduceLT, Int.reduceNeg, Nat.reduceBEq, Nat.reduceMul, Nat.reduceLeDiff, Nat.reduceMod, UInt8.reduceOfNat, Nat.reduceLT, Int.reduceEq, Int.reduceAdd, Int.reduceSub, Int.reduceMul]
          all_goals rfl
    · have hi3 : ¬ (k : Int) < (s.length : Int) := by omega
      obtain rfl : k = s.length := by omega
      rw [List.take_length] at hno
      unfold tri sevL at hk
      rw [cutK_non hno] at hk
      dsimp only at hk
      simp -dsimp -implicitDefEqProofs only [hi3, CParse, ↓Ev.xStp_eq, ↓Ev.P, Ev.Q, Bool.cond_true, Bool.cond_false, eq_self, forall_eq_or_imp, implies_true, forall_const, forall_eq, ↓reduceIte, reduceIte, Nat.reduceEqDiff, Nat.reduceAdd, reduceCtorEq, Nat.reduceSub, Int.reduceToNat, Int.reduceLE, Int.reduceLT, Int.reduceNeg, Nat.reduceBEq, Nat.reduceMul, Nat.reduceLeDiff, Nat.reduceMod, UInt8.reduceOfNat, Nat.reduceLT, Int.reduceEq, Int.reduceAdd, Int.reduceSub, Int.reduceMul]
      refine ⟨hp, ?_⟩
      simpa using hk
end Go.Proofs.YtlghobefhmpfkaaGreatDoor
set_option linter.unusedVariables false
namespace Go.Proofs.YtlghobefhmpfkaaGreatDoor
open Go Go.Ev
set_option maxRecDepth 100000
end Go.Proofs.YtlghobefhmpfkaaGreatDoor
set_option linter.unusedVariables false
set_option linter.unusedSimpArgs false
namespace Go.Proofs.YtlghobefhmpfkaaGreatDoor
open Go Go.Ev
end Go.Proofs.YtlghobefhmpfkaaGreatDoor
set_option linter.unusedVariables false
set_option linter.unusedSimpArgs false
namespace Go.Proofs.YtlghobefhmpfkaaGreatDoor
open Go Go.Ev
set_option maxRecDepth 100000
variable {G : World → Prop}
def plainB (c : Int) : Bool := decide (32 ≤ c) && decide (c ≤ 126) && !decide (c = 34) && !decide (c = 92)
def hx (c : UInt8) : Int := Lib.indexByte [48, 49, 50, 51, 52, 53, 54, 55, 56, 57, 97, 98, 99, 100, 101, 102] c
abbrev hexs : List UInt8 := [48, 49, 50, 51, 52, 53, 54, 55, 56, 57, 97, 98, 99, 100, 101, 102]
section
variable {q out : List UInt8} {i : Nat} (hi : (i : Int) < (q.length : Int))
include hi
end
end Go.Proofs.YtlghobefhmpfkaaGreatDoor
set_option linter.unusedVariables false
set_option linter.unusedSimpArgs false
namespace Go.Proofs.YtlghobefhmpfkaaGreatDoor
open Go Go.Ev Go.RowKit
end Go.Proofs.YtlghobefhmpfkaaGreatDoor
set_option linter.unusedVariables false
set_option linter.unusedSimpArgs false
namespace Go.Proofs.YtlghobefhmpfkaaGreatDoor
open Go Go.Ev
set_option maxRecDepth 100000
variable {G : World → Prop}
def qb (c : UInt8) : List UInt8 := if plainB c.toNat = true then [c] else [92, hexs.getD (c.toNat / 16) 0, hexs.getD (c.toNat % 16) 0]
def quo (l : List UInt8) : List UInt8 := 34 :: l.flatMap qb ++ [34]
end Go.Proofs.YtlghobefhmpfkaaGreatDoor
set_option linter.unusedVariables false
namespace Go.Proofs.YtlghobefhmpfkaaGreatDoor
open Go Go.Ev
set_option maxRecDepth 100000
end Go.Proofs.YtlghobefhmpfkaaGreatDoor
set_option linter.unusedVariables false
set_option linter.unusedSimpArgs false
namespace Go.Ev
open Go
inductive ItK where
  | y (d : Option Nat) (t : Nat) (rs : List Rv)
  | m (d t : Nat)
  | p
def itK : SOp → ItK
  | .callv d _ (.s t) rs => .y d t rs
  | .mv d (.s t) => .m d t
  | _ => .p
def niO : Option Nat → List Nat → Prop
  | some k, yl => k ∉ yl
  | none, _ => True
theorem niO_ok {d : Option Nat} {yl : List Nat} (h : niO d yl) : ∀ k, d = some k → k ∉ yl := by
  rintro k rfl; exact h
def itOps (T : FuncId → Contract) (xs : List (List SV)) : List GOp → List Nat → St → Option Nat → (List Nat → St → Option Nat → Prop) → Prop
  | [], yl, st, md, K => K yl st md
  | ⟨some _, _, _, _⟩ :: _, _, _, _, _ => False
  | ⟨none, d', s, _⟩ :: r, yl, st, md, K => match itK s with
    | .y d t rs => (t ∈ yl ∧ niO d yl) ∧ need md fun k => need xs[k]? fun x => (rs.map fun r => r.get st) = x ∧
        itOps T xs r yl (st.putO d (.d (.v (.bool true)))) (some (k + 1)) K ∧ itOps T xs r yl (st.putO d (.d (.v (.bool false)))) none K
    | .m d t => if t ∈ yl then itOps T xs r (d :: yl) (st.put d .any) md K else d ∉ yl ∧ itOps T xs r yl (st.put d (st.get t)) md K
    | .p => (isTk s = true ∧ niO d' yl) ∧ xStep T s st (fun st' => itOps T xs r yl st' md K) noP
abbrev IKs := Ex → List Nat → St → Option Nat → Prop
def itThen (K2 : List Nat → St → Option Nat → Prop) (K : IKs) : IKs
  | .normal, yl, st, md => K2 yl st md
  | e, yl, st, md => K e yl st md
def itBlk (id : Nat) (K : IKs) : IKs
  | .exit j, yl, st, md => if j = id then K .normal yl st md else K (.exit j) yl st md
  | e, yl, st, md => K e yl st md
@[irreducible] def itAgain (I : Nat → St → Option Nat → Prop) (ks yl0 : List Nat) (n : Nat) (yl : List Nat) (st : PSt I) (md : Option Nat) : Prop := (∀ t ∈ yl0, t ∈ yl) ∧ ∃ k, k < n ∧ I k (St.keep ks st) md
@[irreducible] def itLoop (body : List Nat → St → Option Nat → IKs → Prop) (ks yl : List Nat) (K : IKs) (st : PSt (body, K)) (md : Option Nat) : Prop :=
  ∃ (I : Nat → St → Option Nat → Prop) (n : Nat), I n (St.keep ks st) md ∧ ∀ n st md, I n st md → body yl st md (itThen (itAgain I ks yl n) K)
def itv (T : FuncId → Contract) (xs : List (List SV)) : SCode → List Nat → St → Option Nat → IKs → Prop
  | .skip, yl, st, md, K => K .normal yl st md
  | .ops l, yl, st, md, K => itOps T xs l yl st md (K .normal)
  | .keep ks, yl, st, md, K => K .normal yl (st.keep ks) md
  | .seq a b, yl, st, md, K => itv T xs a yl st md (itThen (fun yl' st' md' => itv T xs b yl' st' md' K) K)
  | .cond c t e, yl, st, md, K => match c.get st with
    | .d (.v (.bool b)) => (b = true → itv T xs t yl st md K) ∧ (b = false → itv T xs e yl st md K)
    | _ => False
  | .block id b, yl, st, md, K => itv T xs b yl st md (itBlk id K)
  | .loop ks b, yl, st, md, K => itLoop (itv T xs b) ks yl K st md
  | .exit id, yl, st, md, K => K (.exit id) yl st md
  | .ret, yl, st, md, K => K .ret yl st md
  | _, _, _, _, _ => False
@[congr] theorem itOps_congr {T : FuncId → Contract} {xs : List (List SV)} {l : List GOp} {yl yl' : List Nat} {st st' : St} {md md' : Option Nat} {K : List Nat → St → Option Nat → Prop} (h1 : yl = yl') (h2 : st = st') (h3 : md = md') : itOps T xs l yl st md K = itOps T xs l yl' st' md' K := by rw [h1, h2, h3]
@[congr] theorem itv_congr {T : FuncId → Contract} {xs : List (List SV)} {s : SCode} {yl yl' : List Nat} {st st' : St} {md md' : Option Nat} {K : IKs} (h1 : yl = yl') (h2 : st = st') (h3 : md = md') : itv T xs s yl st md K = itv T xs s yl' st' md' K := by rw [h1, h2, h3]
@[congr] theorem itThen_congr {K2 : List Nat → St → Option Nat → Prop} {K : IKs} {e : Ex} {yl yl' : List Nat} {st st' : St} {md md' : Option Nat} (h1 : yl = yl') (h2 : st = st') (h3 : md = md') : itThen K2 K e yl st md = itThen K2 K e yl' st' md' := by rw [h1, h2, h3]
@[congr] theorem itBlk_congr {id : Nat} {K : IKs} {e : Ex} {yl yl' : List Nat} {st st' : St} {md md' : Option Nat} (h1 : yl = yl') (h2 : st = st') (h3 : md = md') : itBlk id K e yl st md = itBlk id K e yl' st' md' := by rw [h1, h2, h3]
@[congr] theorem itLoop_congr {body : List Nat → St → Option Nat → IKs → Prop} {ks yl yl' : List Nat} {st st' : St} {md md' : Option Nat} {K : IKs} (h1 : yl = yl') (h2 : st = st') (h3 : md = md') : itLoop body ks yl K st md = itLoop body ks yl' K st' md' := by rw [h1, h2, h3]
@[congr] theorem itAgain_congr {I : Nat → St → Option Nat → Prop} {ks yl0 : List Nat} {n : Nat} {yl yl' : List Nat} {st st' : St} {md md' : Option Nat} (h1 : yl = yl') (h2 : st = st') (h3 : md = md') : itAgain I ks yl0 n yl st md = itAgain I ks yl0 n yl' st' md' := by rw [h1, h2, h3]
theorem itLoop_intro {body : List Nat → St → Option Nat → IKs → Prop} {ks yl : List Nat} {st : St} {md : Option Nat} {K : IKs} (I : Nat → St → Option Nat → Prop) (n : Nat) (h1 : I n (st.keep ks) md)
    (h2 : ∀ n st md, I n st md → body yl st md (itThen (itAgain I ks yl n) K)) : itLoop body ks yl K st md := by unfold itLoop; exact ⟨I, n, h1, h2⟩
theorem itAgain_intro {I : Nat → St → Option Nat → Prop} {ks yl0 : List Nat} {n : Nat} {yl : List Nat} {st : St} {md : Option Nat} (k : Nat) (h0 : ∀ t ∈ yl0, t ∈ yl) (h1 : k < n) (h2 : I k (st.keep ks) md) : itAgain I ks yl0 n yl st md := by
  unfold itAgain; exact ⟨h0, k, h1, h2⟩
theorem itKs : (∀ (K2 : List Nat → St → Option Nat → Prop) (K : IKs) yl st md, itThen K2 K .normal yl st md = K2 yl st md) ∧ (∀ (K2 : List Nat → St → Option Nat → Prop) (K : IKs) i yl st md, itThen K2 K (.exit i) yl st md = K (.exit i) yl st md) ∧ (∀ (K2 : List Nat → St → Option Nat → Prop) (K : IKs) yl st md, itThen K2 K .ret yl st md = K .ret yl st md) ∧
    (∀ id (K : IKs) yl st md, itBlk id K .normal yl st md = K .normal yl st md) ∧ (∀ id (K : IKs) yl st md, itBlk id K .ret yl st md = K .ret yl st md) ∧ (∀ id j (K : IKs) yl st md, itBlk id K (.exit j) yl st md = if j = id then K .normal yl st md else K (.exit j) yl st md) :=
  ⟨fun _ _ _ _ _ => rfl, fun _ _ _ _ _ _ => rfl, fun _ _ _ _ _ => rfl, fun _ _ _ _ _ => rfl, fun _ _ _ _ _ => rfl, fun _ _ _ _ _ _ => rfl⟩
section
variable {P : Program} {T : FuncId → Contract} {N l : Nat} {xs : List (List SV)} {S : Nat → Prop} {w : World} {J : Nat → World → Prop} {Jx : World → Prop}
def rdS (S : Nat → Prop) (w : World) : Rdr := fun a u => w.cell? a = some u ∧ S a.block
def WJ (J : Nat → World → Prop) (Jx : World → Prop) : Option Nat → World → Prop
  | some k, W => J k W
  | none, W => Jx W
structure IS (S : Nat → Prop) (w : World) (N l : Nat) (a : Act) (yl : List Nat) (st : St) : Prop where
  size : a.tmps.size = N
  defers : a.defers = []
  slots : SlOk (fun _ => undef) 0 (rdS S w) a st
  ob : st.ob = []
  n : st.n = 0
  yl : ∀ t ∈ yl, a.tmps.getD t undef = .func (.yield l) #[] #[]
structure Env (P : Program) (S : Nat → Prop) (w : World) (l : Nat) (xs : List (List SV)) (J : Nat → World → Prop) (Jx : World → Prop) : Prop where
  kept : ∀ md W, WJ J Jx md W → ∀ b, S b → b < w.heap.size → W.heap[b]? = w.heap[b]?
  yield : ∀ k W x ys, J k W → xs[k]? = some x → CnL (fun _ => undef) 0 (rdS S w) x ys → YieldAt Fence.wide 0 P l ys.toArray W fun e W' => (e = .returned (.bool true) ∧ J (k + 1) W') ∨ (e = .returned (.bool false) ∧ Jx W')
def LiftI (S : Nat → Prop) (w : World) (N l : Nat) (J : Nat → World → Prop) (Jx : World → Prop) (K : IKs) : Exit → Act → World → Prop
  | .normal, a, W => ∃ yl st md, K .normal yl st md ∧ IS S w N l a yl st ∧ WJ J Jx md W
  | .exit id, a, W => ∃ yl st md, K (.exit id) yl st md ∧ IS S w N l a yl st ∧ WJ J Jx md W
  | .ret, a, W => ∃ yl st md, K .ret yl st md ∧ IS S w N l a yl st ∧ WJ J Jx md W
  | _, _, _ => False
def hS (S : Nat → Prop) (n : Nat) (W : World) : Hd (fun _ => True) := ⟨fun b => b < W.heap.size ∧ ¬ (S b ∧ b < n), fun _ => False, fun _ h => h.elim, fun _ _ _ _ => trivial, 0, []⟩
theorem IS.sat {a : Act} {yl : List Nat} {st : St} {W : World} (h : IS S w N l a yl st) (hk : ∀ b, S b → b < w.heap.size → W.heap[b]? = w.heap[b]?) : Sat (hS S w.heap.size W) N W (fun _ => undef) (fun _ _ => False) a st := by
  refine ⟨h.size, by rw [h.defers]; exact Marks.nil rfl _ _ _, fun k => ?_, ?_⟩
  · rw [h.n, h.ob]
    refine Cn_mono (Nat.le_refl _) (fun _ _ => rfl) (fun a u hu => ?_) _ _ (h.slots k)
    have hl := cell_lt hu.1
    refine ⟨by rw [World.cell?_of_block (hk _ hu.2 hl)]; exact hu.1, fun ⟨o, x, h1, _⟩ => by simp [lk] at h1, fun hh => hh.2 ⟨hu.2, hl⟩⟩
  · show SOk _ _ _ _ ⟨st.n, st.ob⟩
    rw [h.n, h.ob]
    exact SOk.empty (H := hS S w.heap.size W) (fun b hb => hb.1) trivial _ _
theorem vw_rdS {W : World} (hk : ∀ b, S b → b < w.heap.size → W.heap[b]? = w.heap[b]?) (a : Addr) (u : Value) (h : vw (hS S w.heap.size W) W (fun _ _ => False) [] a u) : rdS S w a u := by
  have hl := cell_lt h.1
  have : S a.block ∧ a.block < w.heap.size := Classical.byContradiction fun hn => h.2.2 ⟨hl, hn⟩
  exact ⟨by rw [← World.cell?_of_block (hk _ this.1 this.2)]; exact h.1, this.1⟩
theorem IS.put {a : Act} {yl : List Nat} {st : St} (h : IS S w N l a yl st) {d : Nat} (hd : d < N) (hy : d ∉ yl) {x : SV} {v : Value} (hx : Cn (fun _ => undef) 0 (rdS S w) x v) : IS S w N l (a.put (some d) v) yl (st.put d x) :=
  ⟨by simp [Act.put, h.size], h.defers, h.slots.put (by rw [h.size]; exact hd) hx, h.ob, h.n, fun t ht => by
    rw [getD_put _ _ _ _ (by rw [h.size]; exact hd)]
    rw [if_neg (fun (e : d = t) => hy (e ▸ ht))]; exact h.yl t ht⟩
theorem IS.putO {a : Act} {yl : List Nat} {st : St} (h : IS S w N l a yl st) {d : Option Nat} (hd : ∀ k, d = some k → k < N) (hy : ∀ k, d = some k → k ∉ yl) {x : SV} {v : Value} (hx : Cn (fun _ => undef) 0 (rdS S w) x v) : IS S w N l (a.put d v) yl (st.putO d x) := by
  cases d with
  | none => exact h
  | some d => exact h.put (hd d rfl) (hy d rfl) hx
theorem IS.keep {a : Act} {yl : List Nat} {st : St} (h : IS S w N l a yl st) {ks : List Nat} : IS S w N l a yl (st.keep ks) := by
  refine ⟨h.size, h.defers, fun k => ?_, h.ob, h.n, h.yl⟩
  have key : ∀ ks : List Nat, Cn (fun _ => undef) 0 (rdS S w) ((lk (ks.map fun k => (k, st.get k)) k).getD .any) (a.tmps.getD k undef) := by
    intro ks
    induction ks with
    | nil => simp [lk, Cn]
    | cons j r ih =>
      simp only [List.map_cons, lk_cons]
      by_cases e : j = k
      · subst e
        simp only [if_true, Option.getD_some]
        exact h.slots j
      · simp only [e, if_false]; exact ih
  exact key ks
theorem LiftI.notOut {K : IKs} : ¬ LetsOut (LiftI S w N l J Jx K) := fun ⟨_, _, h⟩ => h
theorem cop_callv {an : Nat} {o : Oper} {d : Option Nat} {lend : Bool} {x : Rv} {rs : List Rv} (h : cop P N an o = some (.callv d lend x rs)) : ∃ c, o.op = .call c ∧ copCall P N an c o.dst = some (.callv d lend x rs) := by
  unfold cop at h
  split at h
  all_goals first
    | exact ⟨_, by assumption, h⟩
    | (exfalso
       repeat' (first
         | (simp only [Option.ite_none_right_eq_some, Option.bind_eq_some_iff, Option.map_eq_some_iff, reduceCtorEq, and_false, exists_false, Option.some.injEq] at h; done)
         | (simp only [Option.ite_none_right_eq_some, Option.bind_eq_some_iff, Option.map_eq_some_iff] at h)
         | (obtain ⟨_, h⟩ := h)
         | split at h
         | cases h))
theorem copCall_callv {an : Nat} {c : Call} {d dst : Option Nat} {lend : Bool} {x : Rv} {rs : List Rv} (h : copCall P N an c dst = some (.callv d lend x rs)) : ∃ t, c.callee = .value (.tmp t) ∧ x = .s t ∧ d = dst ∧ (∀ k, d = some k → k < N) ∧ c.args.toList.map opn = rs.map some := by
  unfold copCall at h
  split at h
  all_goals first
    | (rename_i t ec
       obtain ⟨hd, h⟩ := Option.ite_none_right_eq_some.1 h
       obtain ⟨q, hq, hs⟩ := Option.map_eq_some_iff.1 h
       simp only [SOp.callv.injEq] at hs
       obtain ⟨hs1, hs2, hs3, hs4⟩ := hs
       subst hs1 hs3 hs4
       exact ⟨t, ec, rfl, rfl, fun k hk => by rw [hk] at hd; simpa using hd, mapM_some hq⟩)
    | (exfalso
       repeat' (first
         | (simp only [Option.ite_none_right_eq_some, Option.bind_eq_some_iff, Option.map_eq_some_iff, reduceCtorEq, and_false, exists_false, Option.some.injEq] at h; done)
         | (simp only [Option.ite_none_right_eq_some, Option.bind_eq_some_iff, Option.map_eq_some_iff] at h)
         | (obtain ⟨_, h⟩ := h)
         | split at h
         | cases h))
theorem opn_s {x : Operand} {t : Nat} (h : opn x = some (.s t)) : x = .tmp t := by
  unfold opn at h
  repeat' (first | (simp at h; done) | split at h)
  all_goals first | (simp at h; subst h; rfl) | (simp at h)
theorem cop_mv {an : Nat} {o : Oper} {d t : Nat} (h : cop P N an o = some (.mv d (.s t))) : o.dst = some d ∧ d < N ∧ ∀ (a : Act) (W : World), (execOp a.eval o).run P W = .ok (.value (a.tmps.getD t undef)) W := by
  unfold cop at h
  split at h
  case h_1 | h_2 =>
    rename_i x d' e1 e2
    obtain ⟨hd, h⟩ := Option.ite_none_right_eq_some.1 h
    split at h
    · obtain ⟨_, h⟩ := Option.ite_none_right_eq_some.1 h
      obtain ⟨_, _, h⟩ := Option.map_eq_some_iff.1 h
      cases h
    · obtain ⟨r, hr, h⟩ := Option.map_eq_some_iff.1 h
      simp only [SOp.mv.injEq] at h
      obtain ⟨rfl, rfl⟩ := h
      have := opn_s hr
      subst this
      exact ⟨e2, hd, fun a W => by simp [execOp, e1, Act.eval]⟩
  case h_26 =>
    rename_i c e
    exfalso
    unfold copCall at h
    repeat' (first
         | (simp only [Option.ite_none_right_eq_some, Option.bind_eq_some_iff, Option.map_eq_some_iff, reduceCtorEq, and_false, exists_false, Option.some.injEq] at h; done)
         | (simp only [Option.ite_none_right_eq_some, Option.bind_eq_some_iff, Option.map_eq_some_iff] at h)
         | (obtain ⟨_, h⟩ := h)
         | split at h
         | cases h)
  all_goals
      (exfalso
       repeat' (first
         | (simp only [Option.ite_none_right_eq_some, Option.bind_eq_some_iff, Option.map_eq_some_iff, reduceCtorEq, and_false, exists_false, Option.some.injEq] at h; done)
         | (simp only [Option.ite_none_right_eq_some, Option.bind_eq_some_iff, Option.map_eq_some_iff] at h)
         | (obtain ⟨_, h⟩ := h)
         | split at h
         | cases h))
theorem itOps_ok (he : Env P S w l xs J Jx) {an : Nat → Nat} {ops : Array Oper} (hnd : noDefer ops = true) {K : IKs} : ∀ (r : List Oper) (i : Nat) (gs : List GOp) (a : Act) (W : World) (yl : List Nat) (st : St) (md : Option Nat),
    cops P N an ops r i = some gs → (∀ j o, r[j]? = some o → ops[i + j]? = some o) → IS S w N l a yl st → WJ J Jx md W → itOps T xs gs yl st md (K .normal) →
    wpOpsIn Fence.wide 0 P ops (LiftI S w N l J Jx K) (List.range' i r.length) a W
  | [], i, gs, a, W, yl, st, md, hc, _, h, hJ, hK => by
    simp only [cops, Option.some.injEq] at hc; subst hc
    exact ⟨yl, st, md, hK, h, hJ⟩
  | o :: r, i, gs, a, W, yl, st, md, hc, hl, h, hJ, hK => by
    simp only [cops] at hc
    obtain ⟨g, hg, hc⟩ := Option.bind_eq_some_iff.1 hc
    obtain ⟨gs', hgs, rfl⟩ := Option.map_eq_some_iff.1 hc
    obtain ⟨h1, h2, h3, h4⟩ := gop_ok hg
    have ho : ops[i]? = some o := hl 0 o rfl
    have hl' : ∀ j o', r[j]? = some o' → ops[i + 1 + j]? = some o' := fun j o' hj => by
      have := hl (j + 1) o' (by simpa using hj)
      rwa [show i + (j + 1) = i + 1 + j by omega] at this
    simp only [List.length_cons, List.range'_succ, wpOpsIn, ho]
    obtain ⟨gg, gd', s, gb⟩ := g
    cases gg with
    | some p => exact hK.elim
    | none =>
      simp only [itOps] at hK
      rw [wanted_none h1]
      simp only [if_true]
      have ih := itOps_ok he (an := an) hnd (K := K) r (i + 1) gs'
      have hk := he.kept md W hJ
      have hsat := h.sat hk
      have hkx : ∀ x v, Cn (fun _ => undef) st.n (vw (hS S w.heap.size W) W (fun _ _ => False) st.ob) x v → Cn (fun _ => undef) 0 (rdS S w) x v := fun x v hx => by
        rw [h.n, h.ob] at hx
        exact Cn_mono (Nat.le_refl _) (fun _ _ => rfl) (vw_rdS hk) _ _ hx
      simp only at h2 h3 h4
      split at hK
      · -- yield
        rename_i d t rs es
        obtain ⟨⟨y1, y2⟩, hK⟩ := hK
        replace y2 := niO_ok y2
        obtain ⟨k, rfl, hK⟩ := need_ex hK
        replace hK : need xs[k]? fun x => _ := hK
        obtain ⟨x, ex, hK⟩ := need_ex hK
        obtain ⟨hx, kt, kf⟩ := hK
        obtain ⟨lend, rfl⟩ : ∃ lend, s = .callv d lend (.s t) rs := by
          unfold itK at es
          split at es <;> cases es
          exact ⟨_, rfl⟩
        obtain ⟨c, e0, hcc⟩ := cop_callv h2
        obtain ⟨t', e1, e2, rfl, e3, e4⟩ := copCall_callv hcc
        simp only [Rv.s.injEq] at e2; subst e2
        obtain ⟨args, ea⟩ : ∃ args, args = c.args.toList.map a.eval := ⟨_, rfl⟩
        have hargs : CnL (fun _ => undef) 0 (rdS S w) x args := by
          have := getL_ok hsat (xs := c.args.toList) e4
          rw [hx, ← ea, h.n, h.ob] at this
          exact CnL_mono (Nat.le_refl _) (fun _ _ => rfl) (vw_rdS hk) _ _ this
        obtain ⟨f, tmps, assign, body, hy, hr⟩ := he.yield k W x args hJ ex hargs
        have hrun : (execOp a.eval o).run P W = .ok (.round l f tmps assign body) W := by
          obtain ⟨cc, ca, ct⟩ := c
          simp only at e1 ea
          subst e1
          have hyl := h.yl t y1
          have : (a.eval (.tmp t)) = .func (.yield l) #[] #[] := hyl
          have hy2 : (Instr.yield l (ca.map a.eval)).run P W = .ok (.round l f tmps assign body) W := by
            rw [show ca.map a.eval = args.toArray by rw [ea]; apply Array.ext'; simp]; exact hy
          simp only [execOp, e0, resolve, this, Deferred.ofValue, invoke, Sem.run_bind, Sem.run_pure, Result.andThen_ok]
          simpa using hy2
        refine ⟨fun f _ => trivial, ?_⟩
        rw [Oper.semAt_plain Fence.wide a.eval o (noDefer_ok hnd i o ho), hrun, Oper.uponIn_round]
        refine ⟨fun hh => by simp [Fence.wide] at hh, hr.mono ?_⟩
        rintro e W' (⟨rfl, hJ'⟩ | ⟨rfl, hJ'⟩)
        · exact ih _ W' yl _ (some (k + 1)) hgs hl' (h.putO e3 y2 (Cn_dv rfl)) hJ' kt
        · exact ih _ W' yl _ none hgs hl' (h.putO e3 y2 (Cn_dv rfl)) hJ' kf
      · -- a move
        rename_i d t es
        obtain rfl : s = .mv d (.s t) := by
          unfold itK at es
          split at es <;> cases es
          rfl
        obtain ⟨m1, m2, m3⟩ := cop_mv h2
        refine opIn_of_op (.inl rfl) (noDefer_ok hnd i o ho) ?_
        unfold Oper.wp
        rw [m3, Oper.upon_value, m1]
        split at hK
        · rename_i hyt
          refine ih _ W (d :: yl) _ md hgs hl' ⟨by simp [Act.put, h.size], h.defers, h.slots.put (by rw [h.size]; exact m2) (by simp [Cn]), h.ob, h.n, fun t' ht' => ?_⟩ hJ hK
          rw [getD_put _ _ _ _ (by rw [h.size]; exact m2)]
          by_cases e : d = t'
          · rw [if_pos e]; exact h.yl t hyt
          · rw [if_neg e]
            exact h.yl t' ((List.mem_cons.1 ht').resolve_left fun hh => e hh.symm)
        · exact ih _ W yl _ md hgs hl' (h.put m2 hK.1 (h.slots t)) hJ hK.2
      · obtain ⟨⟨p1, p2⟩, hK⟩ := hK
        replace p2 := niO_ok p2
        rw [xStep_eq] at hK
        obtain ⟨d, q1, q2, x, v, q3, q4, q5⟩ := take_ok h2 hsat (fr := []) (xo := []) (tkC_ok p1 (by unfold tkC; split <;> trivial)) (isTk_ts p1) hK (XB := fun _ => False) (fun q hq => hq.elim)
        refine opIn_of_op (.inl rfl) (noDefer_ok hnd i o ho) ?_
        unfold Oper.wp
        rw [q5 W (fun _ _ _ => rfl), Oper.upon_value, q1]
        exact ih _ W yl _ md hgs hl' (h.put q2 (p2 d (h3.trans q1)) (hkx _ _ q4)) hJ q3
theorem itv_ok (he : Env P S w l xs J Jx) {A : Ann} : ∀ (c : Code) (s : SCode), cc P N A c = some s → flat c = true → ∀ (K : IKs) (a : Act) (W : World) (yl : List Nat) (st : St) (md : Option Nat),
    IS S w N l a yl st → WJ J Jx md W → itv T xs s yl st md K → c.wpIn Fence.wide 0 P (LiftI S w N l J Jx K) a W
  | .skip, s, hc, hfl, K, a, W, yl, st, md, h, hJ, hK => by
    simp only [cc, Option.some.injEq] at hc; subst hc
    exact wpIn_skip ⟨yl, st, md, hK, h, hJ⟩
  | .region id ops false, s, hc, hfl, K, a, W, yl, st, md, h, hJ, hK => by
    simp only [cc] at hc
    obtain ⟨hnd, hc⟩ := Option.ite_none_right_eq_some.1 hc
    obtain ⟨gs, hg, rfl⟩ := Option.map_eq_some_iff.1 hc
    have go : ∀ st, IS S w N l a yl st → itOps T xs gs yl st md (K .normal) → (Code.region id ops false).wpIn Fence.wide 0 P (LiftI S w N l J Jx K) a W := fun st h hK => by
      refine wpIn_region ?_
      have := itOps_ok he hnd ops.toList 0 gs a W yl st md hg (fun j o hj => by simpa using hj) h hJ hK
      rwa [Array.length_toList, ← List.range_eq_range'] at this
    unfold cutAt at hK
    split at hK
    · exact hK.elim
    · exact go _ h.keep hK
    · exact go _ h hK
  | .region id ops true, s, hc, hfl, K, a, W, yl, st, md, h, hJ, hK => by
    simp only [cc] at hc
    obtain ⟨p, hp, hc⟩ := Option.bind_eq_some_iff.1 hc
    obtain ⟨h1, hc⟩ := Option.ite_none_right_eq_some.1 hc
    obtain ⟨gs, hg, rfl⟩ := Option.map_eq_some_iff.1 hc
    unfold cutAt at hK
    split at hK <;> exact hK.elim
  | .seq x y, s, hc, hfl, K, a, W, yl, st, md, h, hJ, hK => by
    simp only [cc] at hc
    obtain ⟨sx, hx, hc⟩ := Option.bind_eq_some_iff.1 hc
    obtain ⟨sy, hy, rfl⟩ := Option.map_eq_some_iff.1 hc
    simp only [flat, Bool.and_eq_true] at hfl
    simp only [itv] at hK
    refine wpIn_seq (wpIn_mono (itv_ok he x sx hx hfl.1 _ a W yl st md h hJ hK) ?_)
    intro e a' W' hl
    cases e with
    | normal => obtain ⟨yl', st', md', k1, k2, k3⟩ := hl; exact itv_ok he y sy hy hfl.2 K a' W' yl' st' md' k2 k3 k1
    | exit id => exact hl
    | goto l => exact hl
    | ret => exact hl
    | panic ch => exact hl
    | outgrown => exact hl
  | .cond c x y, s, hc, hfl, K, a, W, yl, st, md, h, hJ, hK => by
    simp only [cc] at hc
    obtain ⟨r, hr, hc⟩ := Option.bind_eq_some_iff.1 hc
    obtain ⟨sx, hx, hc⟩ := Option.bind_eq_some_iff.1 hc
    obtain ⟨sy, hy, rfl⟩ := Option.map_eq_some_iff.1 hc
    simp only [flat, Bool.and_eq_true] at hfl
    simp only [itv] at hK
    have h1 := get_ok (h.sat (he.kept md W hJ)) hr
    split at hK
    · rename_i b e
      rw [e] at h1
      exact wpIn_cond_split (of_v h1) (fun hb => itv_ok he x sx hx hfl.1 K a W yl st md h hJ (hK.1 hb)) (fun hb => itv_ok he y sy hy hfl.2 K a W yl st md h hJ (hK.2 hb))
    · exact hK.elim
  | .block id x, s, hc, hfl, K, a, W, yl, st, md, h, hJ, hK => by
    simp only [cc] at hc
    obtain ⟨sx, hx, rfl⟩ := Option.map_eq_some_iff.1 hc
    simp only [itv] at hK
    refine wpIn_block (wpIn_mono (itv_ok he x sx hx hfl _ a W yl st md h hJ hK) ?_)
    intro e a' W' hl
    cases e with
    | normal => exact hl
    | exit j =>
      obtain ⟨yl', st', md', k1, k2⟩ := hl
      simp only [Exit.inBlock]
      simp only [itBlk] at k1
      by_cases e : j = id
      · simp only [e, if_true] at k1 ⊢; exact ⟨yl', st', md', k1, k2⟩
      · simp only [e, if_false] at k1 ⊢; exact ⟨yl', st', md', k1, k2⟩
    | goto l => exact hl
    | ret => exact hl
    | panic ch => exact hl
    | outgrown => exact hl
  | .loop x, s, hc, hfl, K, a, W, yl, st, md, h, hJ, hK => by
    simp only [cc] at hc
    obtain ⟨sx, hx, rfl⟩ := Option.map_eq_some_iff.1 hc
    simp only [itv] at hK
    unfold itLoop at hK
    obtain ⟨I, n, h0, hr⟩ := hK
    refine wpIn_loop_I (I := fun n a W => ∃ st md, I n st md ∧ IS S w N l a yl st ∧ WJ J Jx md W) ?_ (n := n) ⟨_, md, h0, h.keep, hJ⟩
    rintro n a W ⟨st, md, k1, k2, k3⟩
    refine wpIn_mono (itv_ok he x sx hx hfl _ a W yl st md k2 k3 (hr n st md k1)) ?_
    intro e a' W' hl
    cases e with
    | normal =>
      obtain ⟨yl', st', md', q1, q2, q3⟩ := hl
      simp only [itThen] at q1
      unfold itAgain at q1
      obtain ⟨r1, k, r2, r3⟩ := q1
      have q4 := q2.keep (ks := A.lp ((firstReg x).getD 0))
      exact ⟨k, r2, _, md', r3, ⟨q4.size, q4.defers, q4.slots, q4.ob, q4.n, fun t ht => q4.yl t (r1 t ht)⟩, q3⟩
    | exit id => exact hl
    | goto l => exact hl
    | ret => exact hl
    | panic ch => exact hl
    | outgrown => exact hl
  | .exit id, s, hc, hfl, K, a, W, yl, st, md, h, hJ, hK => by
    simp only [cc, Option.some.injEq] at hc; subst hc
    exact wpIn_exit ⟨yl, st, md, hK, h, hJ⟩
  | .ret, s, hc, hfl, K, a, W, yl, st, md, h, hJ, hK => by
    simp only [cc, Option.some.injEq] at hc; subst hc
    exact wpIn_ret ⟨yl, st, md, hK, h, hJ⟩
  | .rangeFunc _ _ _ _, s, hc, hfl, K, a, W, yl, st, md, h, hJ, hK => by simp [flat] at hfl
  | .scope _, s, hc, hfl, K, a, W, yl, st, md, h, hJ, hK => by simp [flat] at hfl
  | .label _, s, hc, hfl, K, a, W, yl, st, md, h, hJ, hK => by
    simp only [cc, Option.some.injEq] at hc; subst hc
    exact wpIn_label ⟨yl, st, md, hK, h, hJ⟩
  | .goto _, s, hc, hfl, K, a, W, yl, st, md, h, hJ, hK => by
    simp only [cc, Option.some.injEq] at hc; subst hc
    exact hK.elim
  | .refuse _, s, hc, _, _, _, _, _, _, _, _, _, _ => by simp [cc] at hc
end
def itEnd (n : Nat) : IKs
  | .exit _, _, _, _ => False
  | _, _, _, md => md = some n ∨ md = none
theorem soundIt_of_itv {G : World → Prop} {P : Program} {T : FuncId → Contract} {f : FuncId} {fn : Func} {body : Code} {s : SCode} (hf : P.funcs[f]? = some fn) (hb : fn.body = some body) (hn : (fn.name == "runtime.NumGoroutine") = false)
    {A : Ann} (hc : cc P fn.ntmps A body = some s) (hfl : flat body = true) (hr : fn.results = #[]) {it : List D → Option (Prop × List (List SV))}
    (h : ∀ cs p xs, it cs = some (p, xs) → p → cs.length + 1 ≤ fn.ntmps ∧ itv T xs s [0] ⟨slots0 (.any :: cs.map .d) 0, 0, []⟩ (some 0) (itEnd xs.length)) : SoundIt G P f it := by
  intro S w cs vs p xs l J Jx hit hp hcs hJk hJxk _ _ hy hJ0
  obtain ⟨hlen, hv⟩ := h cs p xs hit hp
  refine ⟨⟨fn, hf, by rw [hb]; rfl, hn⟩, ?_⟩
  have hvl := RdL_length hcs
  refine callsIn_of_wp hf hb trivial ?_
  have he : Env P S w l xs J Jx := ⟨fun md W hW => by
    cases md with
    | none => exact hJxk W hW
    | some k => exact (hJk k W hW).2, hy⟩
  refine wpIn_mono (itv_ok he body s hc hfl (itEnd xs.length) _ w [0] _ (some 0) ?_ hJ0 hv) ?_
  · have hsz : (#[Value.func (.yield l) #[] #[]] ++ vs.toArray).size = cs.length + 1 := by simp [hvl, Nat.add_comm]
    refine ⟨by simp [hvl]; omega, rfl, fun k => ?_, rfl, rfl, fun t ht => ?_⟩
    · have hC : CnL (fun _ => undef) 0 (rdS S w) (.any :: cs.map .d) (Value.func (.yield l) #[] #[] :: vs) := by
        simp only [CnL]; exact ⟨trivial, CnL_of_RdL hcs⟩
      simp only [St.get, slots0_lk, Nat.zero_le, if_true, Nat.sub_zero]
      cases e : (SV.any :: cs.map SV.d)[k]? with
      | none => simp [Cn]
      | some x =>
        obtain ⟨v, hv, hx⟩ := CnL_get hC e
        have hk : k < vs.length + 1 := by have := (List.getElem?_eq_some_iff.1 hv).1; simpa using this
        have : (#[Value.func (.yield l) #[] #[]] ++ vs.toArray ++ Array.replicate (fn.ntmps - (#[Value.func (.yield l) #[] #[]] ++ vs.toArray).size) undef).getD k undef = v := by
          rw [Array.getD_eq_getD_getElem?, Array.getElem?_append_left (by rw [hsz]; omega)]
          have : (#[Value.func (.yield l) #[] #[]] ++ vs.toArray) = (Value.func (.yield l) #[] #[] :: vs).toArray := by apply Array.ext'; simp
          rw [this]; simp [hv]
        rw [this]; exact hx
    · simp only [List.mem_singleton] at ht; subst ht
      rw [Array.getD_eq_getD_getElem?, Array.getElem?_append_left (by rw [hsz]; omega), Array.getElem?_append_left (by simp)]
      rfl
  · have fin : ∀ (a : Act) (W : World) (yl : List Nat) (st : St) (md : Option Nat), (md = some xs.length ∨ md = none) → IS S w fn.ntmps l a yl st → WJ J Jx md W →
        a.defers = [] ∧ ∃ v, (results fn a.tmps).run P W = .ok v W ∧ ((∃ v', Ending.returned v = .returned v') ∧ (J xs.length W ∨ Jx W)) := by
      intro a W yl st md h1 h2 h3
      refine ⟨h2.defers, .tuple #[], by rw [results_eq, hr]; simp [Sem.run_bind, Sem.run_pure], ⟨_, rfl⟩, ?_⟩
      rcases h1 with rfl | rfl
      · exact .inl h3
      · exact .inr h3
    intro e a W hl
    cases e with
    | normal => obtain ⟨yl, st, md, k1, k2, k3⟩ := hl; exact fin a W yl st md k1 k2 k3
    | ret => obtain ⟨yl, st, md, k1, k2, k3⟩ := hl; exact fin a W yl st md k1 k2 k3
    | exit id => obtain ⟨yl, st, md, k1, k2, k3⟩ := hl; exact k1.elim
    | goto l => exact hl.elim
    | panic ch => exact hl.elim
    | outgrown => exact hl.elim
end Go.Ev
set_option linter.unusedVariables false
set_option linter.unusedSimpArgs false
namespace Go.Proofs.YtlghobefhmpfkaaGreatDoor
open Go Go.Ev
set_option maxRecDepth 100000
variable {G : World → Prop}
end Go.Proofs.YtlghobefhmpfkaaGreatDoor
set_option linter.unusedVariables false
set_option linter.unusedSimpArgs false
namespace Go.Proofs.YtlghobefhmpfkaaGreatDoor
open Go Go.Ev Go.Rcs
set_option maxRecDepth 100000
variable {G : World → Prop}
def markS : List UInt8 := [92, 32, 78, 111, 32, 110, 101, 119, 108, 105, 110, 101, 32, 97, 116, 32, 101, 110, 100, 32, 111, 102, 32, 102, 105, 108, 101, 10]
theorem nextL_le {L : List (List UInt8)} {k a : Nat} {s : List UInt8} (h : nextL L k = .ok (s, a)) : a = k + 1 ∧ k < L.length ∧ s = (bareS (L.getD k [])).1 := by
  unfold nextL at h
  split at h
  · split at h
    · simp only [Except.ok.injEq, Prod.mk.injEq] at h
      exact ⟨h.2.symm, by assumption, h.1.symm⟩
    · cases h
  · cases h
theorem impF (o : Option Prop) (X : Prop) : Ev.impC false o X = X := by rw [eq_iff_iff, Ev.impC_iff]; simp
theorem bare_len (l : List UInt8) : (bareS l).1.length ≤ l.length := by unfold bareS; split <;> simp
end Go.Proofs.YtlghobefhmpfkaaGreatDoor
set_option linter.unusedVariables false
set_option linter.unusedSimpArgs false
namespace Go.Proofs.YtlghobefhmpfkaaGreatDoor
open Go Go.Ev Go.Rcs
set_option maxRecDepth 100000
def bodyL (L : List (List UInt8)) : Nat → Nat → List (List UInt8) → Except Fl (List (List UInt8) × Nat)
  | 0, k, _ => .error ((k : Int) + 1, 1)
  | n + 1, k, acc => match nextL L k with
    | .error e => .error e
    | .ok (s, a) => if s = [46] then .ok (acc, a) else bodyL L n a (acc ++ [s])
abbrev Ed := List (List UInt8) × Int
def putE (T : List (List UInt8)) (p n : Nat) (l : List (List UInt8)) : Ed := (T.take p ++ l ++ T.drop (p + n), if l = [] then -1 else (p : Int) + l.length - 1)
def placeE (len : Nat) (s : List UInt8) (v : Int) : Except Int (Int × Int) :=
  if v = 97 then (if (parseS s).2 = 0 then (if (len : Int) < (parseS s).1 then .error 2 else .ok ((parseS s).1, 0)) else .error 3)
  else if (sevL s).2 = true then (if (len : Int) < (sevL s).1.1 + (sevL s).1.2 - 1 then .error 2 else .ok ((sevL s).1.1 - 1, (sevL s).1.2)) else .error 3
def bodyE (L : List (List UInt8)) (T : List (List UInt8)) (p n : Nat) (k : Nat) : Except Fl (Ed × Nat) := match bodyL L (L.length - k) k [] with
  | .error e => .error e
  | .ok (l, b) => .ok (putE T p n l, b)
def numE (L : List (List UInt8)) (T : List (List UInt8)) (s : List UInt8) (v : Int) (a : Nat) : Except Fl (Ed × Nat) :=
  if v = 97 ∨ v = 99 ∨ v = 100 then match placeE T.length s v with
    | .error e => .error ((a : Int), e)
    | .ok (p, n) => if v = 100 then .ok (putE T p.toNat n.toNat [], a) else bodyE L T p.toNat n.toNat a
  else .error ((a : Int), 3)
def stripS : List UInt8 := [115, 47, 46, 47, 47]
def cmdE (L : List (List UInt8)) (x : Ed) (k : Nat) : Except Fl (Ed × Nat) := match nextL L k with
  | .error e => .error e
  | .ok (s, a) =>
    if s = [] then .error ((a : Int), 3)
    else if s = [97] then (if x.2 = -1 then .error ((a : Int), 130) else bodyE L x.1 (x.2 + 1).toNat 0 a)
    else if s = stripS then (if x.2 = -1 ∨ x.1.getD x.2.toNat [] = [] then .error ((a : Int), 130) else .ok ((x.1.set x.2.toNat ((x.1.getD x.2.toNat []).drop 1), x.2), a))
    else numE L x.1 (s.take (s.length - 1)) ((s.getD (s.length - 1) 0).toNat : Int) a
def runE (L : List (List UInt8)) : Nat → Ed → Nat → Except Fl (List (List UInt8) × Bool)
  | 0, x, _ => .ok (x.1, false)
  | n + 1, x, k => if k < L.length then
      (if L.getD k [] = markS then (if k + 1 = L.length then .ok (x.1, true) else .error ((k : Int) + 2, 7))
       else match cmdE L x k with
        | .error e => .error e
        | .ok (y, a) => runE L n y a)
    else .ok (x.1, false)
def fedT (T : List (List UInt8)) (j : Nat) : List (List UInt8) := (T.take j).map (· ++ [10]) ++ T.drop j
def fedM (T : List (List UInt8)) (c : Bool) : Nat := if c = true then T.length - 1 else T.length
def fedE (x : List (List UInt8) × Bool) : List (List UInt8) := fedT x.1 (fedM x.1 x.2)
def bareT (a : List (List UInt8)) : List (List UInt8) := a.map fun s => (bareS s).1
def edN (s : List UInt8) (a : List (List UInt8)) : Except Fl (List (List UInt8)) :=
  if 1048576 < s.length then .error (0, 9) else (runE (lns s) ((lns s).length + 1) (bareT a, -1) 0).map fedE
def okE (x : Ed) : Prop := x.2 = -1 ∨ (0 ≤ x.2 ∧ x.2 < x.1.length)
theorem bodyL_le {L : List (List UInt8)} : ∀ {n k : Nat} {acc l : List (List UInt8)} {b : Nat}, bodyL L n k acc = .ok (l, b) → k < b ∧ b ≤ L.length ∧ l.length + k + 1 ≤ acc.length + b
  | 0, k, acc, l, b, h => by cases h
  | n + 1, k, acc, l, b, h => by
    rw [bodyL] at h
    cases hx : nextL L k with
    | error e => rw [hx] at h; cases h
    | ok y =>
      obtain ⟨s, a⟩ := y
      rw [hx] at h; dsimp only at h
      obtain ⟨rfl, hlt, _⟩ := nextL_le hx
      split at h
      · simp only [Except.ok.injEq, Prod.mk.injEq] at h
        obtain ⟨rfl, rfl⟩ := h
        omega
      · have := bodyL_le h
        rw [List.length_append, List.length_singleton] at this
        omega
theorem bodyL_sz {L : List (List UInt8)} {m : Nat} (hL : ∀ x ∈ L, x.length ≤ m) : ∀ {n k : Nat} {acc l : List (List UInt8)} {b : Nat}, bodyL L n k acc = .ok (l, b) → (∀ x ∈ acc, x.length ≤ m) → ∀ x ∈ l, x.length ≤ m
  | 0, k, acc, l, b, h, _ => by cases h
  | n + 1, k, acc, l, b, h, ha => by
    rw [bodyL] at h
    cases hx : nextL L k with
    | error e => rw [hx] at h; cases h
    | ok y =>
      obtain ⟨s, a⟩ := y
      rw [hx] at h; dsimp only at h
      obtain ⟨rfl, hlt, hs⟩ := nextL_le hx
      split at h
      · simp only [Except.ok.injEq, Prod.mk.injEq] at h
        obtain ⟨rfl, rfl⟩ := h
        exact ha
      · refine bodyL_sz hL h fun x hx2 => ?_
        rcases List.mem_append.1 hx2 with h2 | h2
        · exact ha x h2
        · rw [List.mem_singleton.1 h2, hs]
          exact Nat.le_trans (bare_len _) (hL _ (getD_in hlt))
theorem sevL_le {s : List UInt8} (h : (sevL s).2 = true) : 1 ≤ (sevL s).1.1 ∧ (sevL s).1.1 ≤ 2147483647 ∧ 1 ≤ (sevL s).1.2 ∧ (sevL s).1.2 ≤ 2147483647 := by
  unfold sevL at h ⊢
  cases hc : cutK 44 s with
  | none =>
    rw [hc] at h
    have b := parseS_bd s
    simp only [decide_eq_true_eq] at h
    dsimp only
    omega
  | some pq =>
    rw [hc] at h
    obtain ⟨p, q⟩ := pq
    have b1 := parseS_bd p
    have b2 := parseS_bd q
    simp only [decide_eq_true_eq] at h
    dsimp only
    omega
theorem placeE_le {len : Nat} {s : List UInt8} {v : Int} {p n : Int} (h : placeE len s v = .ok (p, n)) : 0 ≤ p ∧ 0 ≤ n ∧ p + n ≤ len := by
  unfold placeE at h
  repeat' split at h
  all_goals simp only [Except.ok.injEq, Prod.mk.injEq, reduceCtorEq] at h
  · obtain ⟨rfl, rfl⟩ := h
    have b := parseS_bd s
    omega
  · obtain ⟨rfl, rfl⟩ := h
    rename_i h1 h2 h3
    have b := sevL_le h2
    omega
theorem putE_ok (T : List (List UInt8)) (p n : Nat) (l : List (List UInt8)) (h : p + n ≤ T.length) : okE (putE T p n l) ∧ (putE T p n l).1.length = T.length - n + l.length := by
  have e : (putE T p n l).1.length = T.length - n + l.length := by
    simp only [putE, List.length_append, List.length_take, List.length_drop]; omega
  refine ⟨?_, e⟩
  unfold okE
  rw [e]
  unfold putE
  by_cases hl : l = []
  · simp [hl]
  · have : 0 < l.length := List.length_pos_iff.2 hl
    simp only [hl, if_false]
    right; omega
theorem putE_sz {m : Nat} {T l : List (List UInt8)} {p n : Nat} (hT : ∀ x ∈ T, x.length ≤ m) (hl : ∀ x ∈ l, x.length ≤ m) : ∀ x ∈ (putE T p n l).1, x.length ≤ m := by
  intro x hx
  simp only [putE, List.mem_append] at hx
  rcases hx with (h | h) | h
  · exact hT x (List.mem_of_mem_take h)
  · exact hl x h
  · exact hT x (List.mem_of_mem_drop h)
theorem bodyE_le {L T : List (List UInt8)} {p n k b : Nat} {y : Ed} (h : bodyE L T p n k = .ok (y, b)) (hp : p + n ≤ T.length) : okE y ∧ k < b ∧ b ≤ L.length ∧ y.1.length + k ≤ T.length + b := by
  unfold bodyE at h
  cases hb : bodyL L (L.length - k) k [] with
  | error e => rw [hb] at h; cases h
  | ok z =>
    obtain ⟨l, c⟩ := z
    rw [hb] at h
    simp only [Except.ok.injEq, Prod.mk.injEq] at h
    obtain ⟨rfl, rfl⟩ := h
    have h1 := bodyL_le hb
    obtain ⟨h2, h3⟩ := putE_ok T p n l hp
    simp at h1
    exact ⟨h2, by omega, by omega, by omega⟩
theorem bodyE_sz {L T : List (List UInt8)} {m : Nat} (hL : ∀ x ∈ L, x.length ≤ m) (hT : ∀ x ∈ T, x.length ≤ m) {p n k b : Nat} {y : Ed} (h : bodyE L T p n k = .ok (y, b)) : ∀ x ∈ y.1, x.length ≤ m := by
  unfold bodyE at h
  cases hb : bodyL L (L.length - k) k [] with
  | error e => rw [hb] at h; cases h
  | ok z =>
    obtain ⟨l, c⟩ := z
    rw [hb] at h
    simp only [Except.ok.injEq, Prod.mk.injEq] at h
    obtain ⟨rfl, rfl⟩ := h
    exact putE_sz hT (bodyL_sz hL hb (by simp))
theorem cmdE_le {L : List (List UInt8)} {x y : Ed} {k a : Nat} (h : cmdE L x k = .ok (y, a)) (hx : okE x) : okE y ∧ k < a ∧ a ≤ L.length ∧ y.1.length + k ≤ x.1.length + a := by
  unfold cmdE at h
  cases hn : nextL L k with
  | error e => rw [hn] at h; cases h
  | ok z =>
    obtain ⟨s, b⟩ := z
    rw [hn] at h; dsimp only at h
    obtain ⟨rfl, hlt, _⟩ := nextL_le hn
    by_cases h1 : s = []
    · rw [if_pos h1] at h; cases h
    rw [if_neg h1] at h
    by_cases h2 : s = [97]
    · rw [if_pos h2] at h
      by_cases h3 : x.2 = -1
      · rw [if_pos h3] at h; cases h
      · rw [if_neg h3] at h
        have := hx.resolve_left h3
        have := bodyE_le h (by omega)
        exact ⟨this.1, by omega, by omega, by omega⟩
    rw [if_neg h2] at h
    by_cases h3 : s = stripS
    · rw [if_pos h3] at h
      split at h
      · cases h
      · simp only [Except.ok.injEq, Prod.mk.injEq] at h
        obtain ⟨rfl, rfl⟩ := h
        refine ⟨?_, by omega, by omega, by simp only [List.length_set]; omega⟩
        unfold okE at hx ⊢
        simpa using hx
    rw [if_neg h3] at h
    unfold numE at h
    split at h
    · cases hp : placeE x.1.length (s.take (s.length - 1)) ((s.getD (s.length - 1) 0).toNat : Int) with
      | error e => rw [hp] at h; cases h
      | ok z =>
        obtain ⟨p, n⟩ := z
        rw [hp] at h; dsimp only at h
        have hle := placeE_le hp
        split at h
        · simp only [Except.ok.injEq, Prod.mk.injEq] at h
          obtain ⟨rfl, rfl⟩ := h
          obtain ⟨h5, h6⟩ := putE_ok x.1 p.toNat n.toNat [] (by omega)
          refine ⟨h5, by omega, by omega, ?_⟩
          rw [h6]; simp; omega
        · have := bodyE_le h (by omega)
          exact ⟨this.1, by omega, by omega, by omega⟩
    · cases h
theorem cmdE_sz {L : List (List UInt8)} {m : Nat} (hL : ∀ x ∈ L, x.length ≤ m) {x y : Ed} {k a : Nat} (h : cmdE L x k = .ok (y, a)) (hT : ∀ z ∈ x.1, z.length ≤ m) : ∀ z ∈ y.1, z.length ≤ m := by
  unfold cmdE at h
  cases hn : nextL L k with
  | error e => rw [hn] at h; cases h
  | ok z =>
    obtain ⟨s, b⟩ := z
    rw [hn] at h; dsimp only at h
    by_cases h1 : s = []
    · rw [if_pos h1] at h; cases h
    rw [if_neg h1] at h
    by_cases h2 : s = [97]
    · rw [if_pos h2] at h
      split at h
      · cases h
      · exact bodyE_sz hL hT h
    rw [if_neg h2] at h
    by_cases h3 : s = stripS
    · rw [if_pos h3] at h
      split at h
      · cases h
      · simp only [Except.ok.injEq, Prod.mk.injEq] at h
        obtain ⟨rfl, rfl⟩ := h
        intro z hz
        rcases List.mem_or_eq_of_mem_set hz with h4 | h4
        · exact hT z h4
        · rw [h4, List.length_drop]
          by_cases h5 : x.2.toNat < x.1.length
          · have := hT _ (getD_in h5); omega
          · rw [List.getD_eq_getElem?_getD, List.getElem?_eq_none (by omega)]; simp
    rw [if_neg h3] at h
    unfold numE at h
    split at h
    · cases hp : placeE x.1.length (s.take (s.length - 1)) ((s.getD (s.length - 1) 0).toNat : Int) with
      | error e => rw [hp] at h; cases h
      | ok z =>
        obtain ⟨p, n⟩ := z
        rw [hp] at h; dsimp only at h
        split at h
        · simp only [Except.ok.injEq, Prod.mk.injEq] at h
          obtain ⟨rfl, rfl⟩ := h
          exact putE_sz hT (by simp)
        · exact bodyE_sz hL hT h
    · cases h
end Go.Proofs.YtlghobefhmpfkaaGreatDoor
set_option linter.unusedVariables false
set_option linter.unusedSimpArgs false
namespace Go.Proofs.YtlghobefhmpfkaaGreatDoor
open Go Go.Ev Go.Rcs
set_option maxRecDepth 100000
variable {G : World → Prop}
theorem nx_next_ok {L : List (List UInt8)} {k a : Nat} {s : List UInt8} (fa : Int) (h : nextL L k = .ok (s, a)) : nxC L k fa 0 = (s, (k : Int) + 1, fa, 0) := by
  unfold nextL at h
  split at h
  · rename_i h1
    split at h
    · rename_i h2
      simp only [Except.ok.injEq, Prod.mk.injEq] at h
      rw [nxC, if_pos rfl, if_neg (by omega), Int.toNat_natCast, if_pos h2, h.1]
    · cases h
  · cases h
theorem nx_next_err {L : List (List UInt8)} {k : Nat} {a e : Int} (fa : Int) (h : nextL L k = .error (a, e)) : nxC L k fa 0 = ([], (k : Int) + 1, (k : Int) + 1, e) ∧ a = (k : Int) + 1 ∧ ¬ e = 0 := by
  unfold nextL at h
  split at h
  · rename_i h1
    split at h
    · cases h
    · rename_i h2
      simp only [Except.error.injEq, Prod.mk.injEq] at h
      obtain ⟨rfl, rfl⟩ := h
      rw [nxC, if_pos rfl, if_neg (by omega), Int.toNat_natCast, if_neg h2]
      exact ⟨rfl, rfl, by decide⟩
  · rename_i h1
    simp only [Except.error.injEq, Prod.mk.injEq] at h
    obtain ⟨rfl, rfl⟩ := h
    rw [nxC, if_pos rfl, if_pos (by omega)]
    exact ⟨rfl, rfl, by decide⟩
end Go.Proofs.YtlghobefhmpfkaaGreatDoor
set_option linter.unusedVariables false
namespace Go.Proofs.YtlghobefhmpfkaaGreatDoor
open Go Go.Ev
set_option maxRecDepth 100000
def A4 : Ann := ⟨fun r i => if r = 1 ∧ i = 5 then 1 else if r = 6 ∧ i = 7 then 1 else 0, fun r => if r = 6 then some [(0, true, []), (2, true, []), (1, false, []), (3, true, []), (4, true, []), (5, true, []), (6, true, []), (7, false, []), (8, true, []), (9, true, [])] else none, fun r => if r = 1 then some (false, [0, 1]) else if r = 3 then some (false, [0, 1]) else if r = 4 then some (false, [0, 1, 5]) else if r = 5 then some (false, [0, 1, 5, 6, 7]) else if r = 6 then some (false, [1, 5, 6, 7, 8, 9]) else if r = 9 then some (false, [1, 5, 6, 10]) else if r = 10 then some (false, [1, 5, 6, 10]) else if r = 11 then some (false, [1, 5, 6, 10]) else if r = 12 then some (false, [1, 5]) else none, fun r => if r = 9 then [1, 5, 6, 10] else []⟩
def S4 : SCode :=
  (.seq (.ops [⟨none, (some 4), .mv 4 (.k (Value.bool false)), false⟩])
  (.seq (.seq (.seq (.keep [0, 1]) (.ops [⟨none, (some 11), .mv 11 (.s 0), false⟩,
    ⟨none, (some 12), .lens 12 (.s 11), false⟩,
    ⟨none, (some 13), .bin 13 .gtr (.s 12) (.k (Value.int .i64 200000)), false⟩,
    ⟨none, (some 14), .mv 14 (.s 13), false⟩,
    ⟨(some (14, true)), (some 15), .mv 15 (.s 0), false⟩,
    ⟨(some (14, true)), (some 16), .lens 16 (.s 15), false⟩,
    ⟨(some (14, true)), (some 17), .bin 17 .leq (.s 16) (.k (Value.int .i64 1048576)), false⟩,
    ⟨none, (some 18), .pk 18 (.s 14) (.s 17) (.k (Value.bool false)), false⟩]))
  (.cond (.s 18) (.seq (.ops [⟨none, (some 4), .mv 4 (.k (Value.bool true)), false⟩])
  .ret) .skip))
  (.seq (.seq (.keep [0, 1]) (.ops [⟨none, (some 19), .bs 19 9 1 [], false⟩,
    ⟨none, (some 20), .mv 20 (.s 1), false⟩,
    ⟨none, (some 21), .ap 21 9 1 16 (.s 19) (.s 20), false⟩,
    ⟨none, (some 5), .mv 5 (.s 21), false⟩]))
  (.seq (.seq (.keep [0, 1, 5]) (.ops [⟨none, (some 23), .mv 23 (.s 0), false⟩,
    ⟨none, (some 24), .mv 24 (.s 5), false⟩,
    ⟨none, (some 25), .call (some 25) 15 false [(.s 23), (.s 24)], false⟩,
    ⟨none, (some 22), .mv 22 (.s 25), false⟩,
    ⟨none, (some 26), .ex 26 (.s 22) 0, false⟩,
    ⟨none, (some 27), .ex 27 (.s 22) 1, false⟩,
    ⟨none, (some 6), .mv 6 (.s 26), false⟩,
    ⟨none, (some 7), .mv 7 (.s 27), false⟩]))
  (.seq (.seq (.keep [0, 1, 5, 6, 7]) (.ops [⟨none, (some 29), .mv 29 (.s 0), false⟩,
    ⟨none, (some 30), .mv 30 (.s 1), false⟩,
    ⟨none, (some 31), .call (some 31) 16 false [(.s 29), (.s 30)], false⟩,
    ⟨none, (some 28), .mv 28 (.s 31), false⟩,
    ⟨none, (some 32), .ex 32 (.s 28) 0, false⟩,
    ⟨none, (some 33), .ex 33 (.s 28) 1, false⟩,
    ⟨none, (some 9), .al 9 29 [(Value.int .i64 0), (Value.int .i64 0)], false⟩,
    ⟨none, (some 8), .mv 8 (.s 32), false⟩,
    ⟨none, none, .st true 2 (.s 9) (.s 33), false⟩]))
  (.seq (.seq (.seq (.keep [1, 5, 6, 7, 8, 9]) (.dr [([], true, ⟨none, (some 34), .mv 34 (.s 7), false⟩),
    ([], true, ⟨none, (some 36), .ld 36 true 2 (.s 9), false⟩),
    ([], false, ⟨none, (some 35), .call (some 35) 13 false [(.s 34)], false⟩),
    ([], true, ⟨none, (some 37), .eqa 37 true [0, 0] (.s 35) (.s 36), false⟩),
    ([], true, ⟨none, (some 38), .mv 38 (.s 37), false⟩),
    ([], true, ⟨(some (38, false)), (some 39), .mv 39 (.s 6), false⟩),
    ([], true, ⟨(some (38, false)), (some 40), .mv 40 (.s 8), false⟩),
    ([], false, ⟨(some (38, false)), (some 41), .call (some 41) 14 true [(.s 39), (.s 40)], false⟩),
    ([], true, ⟨(some (38, false)), (some 42), .not 42 (.s 41), false⟩),
    ([], true, ⟨none, (some 43), .pk 43 (.s 38) (.k (Value.bool true)) (.s 42), true⟩)]))
  (.cond (.s 43) (.seq (.ops [⟨none, (some 4), .mv 4 (.k (Value.bool false)), false⟩])
  .ret) .skip))
  (.seq (.seq (.ops [⟨none, (some 10), .mv 10 (.k (Value.int .i64 0)), false⟩])
  (.block 0 (.loop [1, 5, 6, 10] (.seq (.seq (.seq (.keep [1, 5, 6, 10]) (.ops [⟨none, (some 44), .mv 44 (.s 10), false⟩,
    ⟨none, (some 45), .mv 45 (.s 6), false⟩,
    ⟨none, (some 46), .len 46 (.s 45), false⟩,
    ⟨none, (some 47), .bin 47 .lss (.s 44) (.s 46), false⟩]))
  (.cond (.s 47) .skip (.exit 0)))
  (.seq (.block 1 (.seq (.keep [1, 5, 6, 10]) (.ops [⟨none, (some 50), .mv 50 (.s 6), false⟩,
    ⟨none, (some 51), .mv 51 (.s 10), false⟩,
    ⟨none, (some 52), .ia 52 1 (.s 50) (.s 51), false⟩,
    ⟨none, none, .st false 1 (.s 52) (.k (Value.string ⟨#[115, 112, 111, 105, 108, 116]⟩)), false⟩])))
  (.seq (.keep [1, 5, 6, 10]) (.ops [⟨none, (some 48), .mv 48 (.s 10), false⟩,
    ⟨none, (some 49), .binc 49 .add (.s 48) (.k (Value.int .i64 1)), false⟩,
    ⟨none, (some 10), .mv 10 (.s 49), false⟩])))))))
  (.seq (.seq (.keep [1, 5]) (.ops [⟨none, (some 53), .mv 53 (.s 5), false⟩,
    ⟨none, (some 54), .mv 54 (.s 1), false⟩,
    ⟨none, (some 55), .call (some 55) 14 false [(.s 53), (.s 54)], false⟩,
    ⟨none, (some 4), .mv 4 (.s 55), false⟩]))
  .ret))))))))
theorem cc4 : (Tryz.f4.body).bind (cc Tryz.prog Tryz.f4.ntmps A4) = some S4 := by kernel_rfl
def R4 : List RR := [.sl 4]
theorem cr4 : Tryz.f4.results.toList.map (crr Tryz.prog) = R4.map some := by kernel_rfl
theorem nm4 : (Tryz.f4.name == "runtime.NumGoroutine") = false := by kernel_rfl
theorem fn4 : Tryz.prog.funcs[4]? = some Tryz.f4 := by kernel_rfl
theorem bd4 : ∃ b, Tryz.f4.body = some b ∧ cc Tryz.prog Tryz.f4.ntmps A4 b = some S4 := Option.bind_eq_some_iff.1 cc4
theorem sd4 {G : World → Prop} {T : FuncId → Contract} {C : Contract} (hT : ∀ f, Sound G Tryz.prog f (T f)) (hl : C.lawful) (hC : ∀ args st K, C.wp args st K → args.length ≤ 56 ∧ ∃ os op, xv T st.n S4 (st0 args st) (retK R4 st.n os K) (panK st.n op K)) (hit : SoundIt G Tryz.prog 4 C.it := by exact SoundIt.none) : Sound G Tryz.prog 4 C := by
  obtain ⟨b, hb, hc⟩ := bd4
  rw [xv_eq] at hC
  exact sound_of_ev mo fn4 hb nm4 hc cr4 hT hl hit hC
def A15 : Ann := ⟨fun r i => if r = 4 ∧ i = 3 then 11 else if r = 23 ∧ i = 8 then 1 else 0, fun r => if r = 15 then some [(0, true, []), (1, true, []), (2, true, []), (4, true, []), (5, true, []), (6, true, []), (3, true, []), (7, true, []), (8, true, []), (9, true, []), (10, true, []), (11, true, [])] else if r = 13 then some [(0, true, []), (1, true, []), (2, true, []), (4, true, []), (5, true, []), (6, true, []), (3, true, []), (7, true, []), (8, true, []), (9, true, []), (10, true, [])] else if r = 12 then some [(0, true, []), (1, true, []), (2, true, []), (4, true, []), (5, true, []), (6, true, []), (3, true, []), (7, true, []), (8, true, []), (9, true, [])] else none, fun r => if r = 1 then some (false, [0, 1, 4, 5]) else if r = 2 then some (false, [4, 5]) else if r = 4 then some (false, [0, 1, 4, 5]) else if r = 5 then some (false, [1, 4, 5, 6]) else if r = 7 then some (false, [4, 5, 6, 25, 26, 27]) else if r = 8 then some (false, [4, 5, 6, 8, 25, 26, 27]) else if r = 9 then some (false, [4, 5, 6, 9, 25, 26, 27]) else if r = 12 then some (false, [4, 5, 6, 11]) else if r = 13 then some (false, [4, 5, 6, 11]) else if r = 15 then some (false, [4, 5, 6]) else if r = 17 then some (false, [4, 5, 6, 11]) else if r = 19 then some (false, [4, 5, 6, 11]) else if r = 20 then some (false, [4, 5, 6, 11]) else if r = 23 then some (false, [4, 5, 6, 11, 12, 103, 104]) else if r = 24 then some (false, [4, 5, 6, 11, 12, 103, 104]) else if r = 26 then some (false, [4, 5, 6]) else none, fun r => if r = 6 then [4, 5, 6, 25, 26, 27] else if r = 12 then [4, 5, 6, 11] else if r = 21 then [4, 5, 6, 11, 103, 104] else []⟩
def S15 : SCode :=
  (.seq (.seq (.keep [0, 1, 4, 5]) (.ops [⟨none, (some 21), .mv 21 (.s 0), false⟩,
    ⟨none, (some 22), .call (some 22) 34 false [(.s 21)], false⟩,
    ⟨none, (some 23), .bd 23 [(Value.slice none 0 0), (Value.int .i64 0), (Value.slice none 0 0), (Value.int .i64 0)] [(1, 1, (.k (Value.int .i64 (-1)))), (2, 1, (.s 22))], false⟩,
    ⟨none, (some 24), .bxn 24 87 4 (.s 23) 0 9 1, false⟩,
    ⟨none, (some 6), .mv 6 (.s 24), false⟩]))
  (.seq (.seq (.seq (.keep [1, 4, 5, 6]) (.ops [⟨none, (some 25), .mv 25 (.s 1), false⟩,
    ⟨none, (some 26), .len 26 (.s 25), false⟩,
    ⟨none, (some 27), .mv 27 (.k (Value.int .i64 0)), false⟩]))
  (.block 0 (.loop [4, 5, 6, 25, 26, 27] (.seq (.ops [⟨none, (some 28), .bin 28 .lss (.s 27) (.s 26), false⟩])
  (.seq (.cond (.s 28) .skip (.exit 0))
  (.seq (.block 1 (.seq (.seq (.keep [4, 5, 6, 25, 26, 27]) (.ops [⟨none, (some 29), .ia 29 1 (.s 25) (.s 27), false⟩,
    ⟨none, (some 30), .ld 30 false 1 (.s 29), false⟩,
    ⟨none, (some 8), .mv 8 (.s 30), false⟩]))
  (.seq (.seq (.keep [4, 5, 6, 8, 25, 26, 27]) (.ops [⟨none, (some 32), .mv 32 (.s 8), false⟩,
    ⟨none, (some 33), .call (some 33) 18 false [(.s 32)], false⟩,
    ⟨none, (some 31), .mv 31 (.s 33), false⟩,
    ⟨none, (some 34), .ex 34 (.s 31) 0, false⟩,
    ⟨none, (some 35), .ex 35 (.s 31) 1, false⟩,
    ⟨none, (some 9), .mv 9 (.s 34), false⟩,
    ⟨none, (some 10), .mv 10 (.s 35), false⟩]))
  (.seq (.keep [4, 5, 6, 9, 25, 26, 27]) (.ops [⟨none, (some 36), .mv 36 (.s 6), false⟩,
    ⟨none, (some 37), .mv 37 (.s 6), false⟩,
    ⟨none, (some 38), .nc 38 (.s 37), false⟩,
    ⟨none, (some 39), .fa 39 0 (.s 38), false⟩,
    ⟨none, (some 40), .ld 40 false 1 (.s 39), false⟩,
    ⟨none, (some 41), .mv 41 (.s 9), false⟩,
    ⟨none, (some 42), .bs 42 9 1 [(.s 41)], false⟩,
    ⟨none, (some 43), .ap 43 9 1 16 (.s 40) (.s 42), false⟩,
    ⟨none, (some 44), .nc 44 (.s 36), false⟩,
    ⟨none, (some 45), .fa 45 0 (.s 44), true⟩,
    ⟨none, none, .st false 1 (.s 45) (.s 43), false⟩])))))
  (.ops [⟨none, (some 46), .binc 46 .add (.s 27) (.k (Value.int .i64 1)), false⟩,
    ⟨none, (some 27), .mv 27 (.s 46), false⟩])))))))
  (.seq (.ops [⟨none, (some 11), .mv 11 (.k (Value.bool false)), false⟩])
  (.seq (.block 2 (.loop [4, 5, 6, 11] (.seq (.seq (.seq (.keep [4, 5, 6, 11]) (.dr [([], true, ⟨none, (some 47), .mv 47 (.s 6), false⟩),
    ([], true, ⟨none, (some 48), .nc 48 (.s 47), false⟩),
    ([], true, ⟨none, (some 49), .fa 49 3 (.s 48), false⟩),
    ([], true, ⟨none, (some 51), .mv 51 (.s 6), false⟩),
    ([], true, ⟨none, (some 52), .nc 52 (.s 51), false⟩),
    ([], true, ⟨none, (some 53), .fa 53 2 (.s 52), false⟩),
    ([], true, ⟨none, (some 50), .ld 50 false 1 (.s 49), false⟩),
    ([], true, ⟨none, (some 54), .ld 54 false 1 (.s 53), false⟩),
    ([], true, ⟨none, (some 55), .len 55 (.s 54), false⟩),
    ([], true, ⟨none, (some 56), .bin 56 .lss (.s 50) (.s 55), true⟩)]))
  (.cond (.s 56) .skip (.exit 2)))
  (.block 3 (.seq (.seq (.seq (.keep [4, 5, 6, 11]) (.dr [([], true, ⟨none, (some 57), .mv 57 (.s 6), false⟩),
    ([], true, ⟨none, (some 58), .nc 58 (.s 57), false⟩),
    ([], true, ⟨none, (some 59), .fa 59 2 (.s 58), false⟩),
    ([], true, ⟨none, (some 61), .mv 61 (.s 6), false⟩),
    ([], true, ⟨none, (some 62), .nc 62 (.s 61), false⟩),
    ([], true, ⟨none, (some 63), .fa 63 3 (.s 62), false⟩),
    ([], true, ⟨none, (some 60), .ld 60 false 1 (.s 59), false⟩),
    ([], true, ⟨none, (some 64), .ld 64 false 1 (.s 63), false⟩),
    ([], true, ⟨none, (some 65), .ia 65 1 (.s 60) (.s 64), false⟩),
    ([], true, ⟨none, (some 66), .ld 66 false 1 (.s 65), true⟩),
    ([], true, ⟨none, (some 67), .bin 67 .neq (.s 66) (.k (Value.string ⟨#[92, 32, 78, 111, 32, 110, 101, 119, 108, 105, 110, 101, 32, 97, 116, 32, 101, 110, 100, 32, 111, 102, 32, 102, 105, 108, 101, 10]⟩)), false⟩)]))
  (.cond (.s 67) (.seq (.ops [⟨none, (some 68), .mv 68 (.s 6), false⟩,
    ⟨none, (some 69), .call (some 69) 47 false [(.s 68)], false⟩])
  (.exit 3)) .skip))
  (.seq (.seq (.seq (.keep [4, 5, 6]) (.dr [([], true, ⟨none, (some 70), .mv 70 (.s 6), false⟩),
    ([], true, ⟨none, (some 71), .nc 71 (.s 70), false⟩),
    ([], true, ⟨none, (some 72), .fa 72 3 (.s 71), false⟩),
    ([], true, ⟨none, (some 74), .mv 74 (.s 6), false⟩),
    ([], true, ⟨none, (some 75), .nc 75 (.s 74), false⟩),
    ([], true, ⟨none, (some 76), .fa 76 2 (.s 75), false⟩),
    ([], true, ⟨none, (some 73), .ld 73 false 1 (.s 72), false⟩),
    ([], true, ⟨none, (some 77), .ld 77 false 1 (.s 76), false⟩),
    ([], true, ⟨none, (some 78), .len 78 (.s 77), false⟩),
    ([], true, ⟨none, (some 79), .binc 79 .sub (.s 78) (.k (Value.int .i64 1)), true⟩),
    ([], true, ⟨none, (some 80), .bin 80 .eql (.s 73) (.s 79), false⟩),
    ([], true, ⟨none, (some 11), .mv 11 (.s 80), false⟩)]))
  (.seq (.ops [⟨none, (some 81), .mv 81 (.s 11), false⟩,
    ⟨none, (some 82), .not 82 (.s 81), false⟩])
  (.cond (.s 82) (.seq (.seq (.keep [4, 5, 6, 11]) (.ops [⟨none, (some 83), .mv 83 (.s 6), false⟩,
    ⟨none, (some 84), .nc 84 (.s 83), false⟩,
    ⟨none, (some 85), .fa 85 3 (.s 84), false⟩,
    ⟨none, (some 86), .ld 86 false 1 (.s 85), false⟩,
    ⟨none, (some 87), .binc 87 .add (.s 86) (.k (Value.int .i64 2)), false⟩,
    ⟨none, (some 88), .nc 88 (.s 83), false⟩,
    ⟨none, (some 89), .fa 89 3 (.s 88), false⟩,
    ⟨none, none, .st false 1 (.s 89) (.s 87), false⟩]))
  (.ops [⟨none, (some 90), .mv 90 (.s 6), false⟩,
    ⟨none, (some 91), .call (some 91) 48 false [(.s 90), (.k (Value.int .i64 7))], false⟩])) .skip)))
  (.seq (.keep [4, 5, 6, 11]) (.ops [⟨none, (some 92), .mv 92 (.s 6), false⟩,
    ⟨none, (some 93), .nc 93 (.s 92), false⟩,
    ⟨none, (some 94), .fa 94 3 (.s 93), false⟩,
    ⟨none, (some 95), .ld 95 false 1 (.s 94), false⟩,
    ⟨none, (some 96), .binc 96 .add (.s 95) (.k (Value.int .i64 1)), false⟩,
    ⟨none, (some 97), .nc 97 (.s 92), false⟩,
    ⟨none, (some 98), .fa 98 3 (.s 97), false⟩,
    ⟨none, none, .st false 1 (.s 98) (.s 96), false⟩]))))))))
  (.seq (.seq (.seq (.keep [4, 5, 6, 11]) (.ops [⟨none, (some 99), .mv 99 (.s 6), false⟩,
    ⟨none, (some 100), .nc 100 (.s 99), false⟩,
    ⟨none, (some 101), .fa 101 0 (.s 100), false⟩,
    ⟨none, (some 102), .ld 102 false 1 (.s 101), false⟩,
    ⟨none, (some 103), .len 103 (.s 102), false⟩,
    ⟨none, (some 104), .mv 104 (.k (Value.int .i64 0)), false⟩]))
  (.block 4 (.loop [4, 5, 6, 11, 103, 104] (.seq (.ops [⟨none, (some 105), .bin 105 .lss (.s 104) (.s 103), false⟩])
  (.seq (.cond (.s 105) .skip (.exit 4))
  (.seq (.block 5 (.seq (.ops [⟨none, (some 106), .mv 106 (.s 104), false⟩,
    ⟨none, (some 12), .mv 12 (.s 106), false⟩])
  (.seq (.seq (.keep [4, 5, 6, 11, 12, 103, 104]) (.ops [⟨none, (some 107), .mv 107 (.s 11), false⟩,
    ⟨none, (some 108), .not 108 (.s 107), false⟩,
    ⟨none, (some 109), .mv 109 (.s 108), false⟩,
    ⟨(some (109, false)), (some 110), .mv 110 (.s 12), false⟩,
    ⟨(some (109, false)), (some 111), .mv 111 (.s 6), false⟩,
    ⟨(some (109, false)), (some 112), .nc 112 (.s 111), false⟩,
    ⟨(some (109, false)), (some 113), .fa 113 0 (.s 112), false⟩,
    ⟨(some (109, false)), (some 114), .ld 114 false 1 (.s 113), false⟩,
    ⟨(some (109, false)), (some 115), .len 115 (.s 114), false⟩,
    ⟨(some (109, false)), (some 116), .binc 116 .sub (.s 115) (.k (Value.int .i64 1)), true⟩,
    ⟨(some (109, false)), (some 117), .bin 117 .lss (.s 110) (.s 116), false⟩,
    ⟨none, (some 118), .pk 118 (.s 109) (.k (Value.bool true)) (.s 117), false⟩]))
  (.cond (.s 118) (.seq (.keep [4, 5, 6, 11, 12, 103, 104]) (.ops [⟨none, (some 119), .mv 119 (.s 6), false⟩,
    ⟨none, (some 120), .nc 120 (.s 119), false⟩,
    ⟨none, (some 121), .fa 121 0 (.s 120), false⟩,
    ⟨none, (some 122), .ld 122 false 1 (.s 121), false⟩,
    ⟨none, (some 123), .mv 123 (.s 12), false⟩,
    ⟨none, (some 124), .ia 124 1 (.s 122) (.s 123), false⟩,
    ⟨none, (some 125), .ld 125 false 1 (.s 124), false⟩,
    ⟨none, (some 126), .bin 126 .add (.s 125) (.k (Value.string ⟨#[10]⟩)), false⟩,
    ⟨none, (some 127), .ia 127 1 (.s 122) (.s 123), false⟩,
    ⟨none, none, .st false 1 (.s 127) (.s 126), true⟩])) .skip))))
  (.ops [⟨none, (some 128), .binc 128 .add (.s 104) (.k (Value.int .i64 1)), false⟩,
    ⟨none, (some 104), .mv 104 (.s 128), false⟩])))))))
  (.seq (.seq (.keep [4, 5, 6]) (.ops [⟨none, (some 129), .mv 129 (.s 6), false⟩,
    ⟨none, (some 130), .nc 130 (.s 129), false⟩,
    ⟨none, (some 131), .fa 131 0 (.s 130), false⟩,
    ⟨none, (some 132), .ld 132 false 1 (.s 131), false⟩,
    ⟨none, none, .st false 1 (.s 4) (.s 132), false⟩,
    ⟨none, none, .st false 1 (.s 5) (.k Value.nilIface), false⟩]))
  .ret))))))
def SP15 : List SCode := [(.ops [⟨none, (some 4), .al 4 22 [(Value.slice none 0 0)], false⟩,
    ⟨none, (some 5), .al 5 24 [Value.nilIface], false⟩]),
  (.seq (.seq (.keep [0, 1, 4, 5]) (.ops [⟨none, (some 13), .mv 13 (.s 0), false⟩,
    ⟨none, (some 14), .lens 14 (.s 13), false⟩,
    ⟨none, (some 15), .bin 15 .gtr (.s 14) (.k (Value.int .i64 1048576)), false⟩]))
  (.cond (.s 15) (.seq (.seq (.keep [4, 5]) (.ops [⟨none, (some 16), .mi 16 27 (.k (Value.int .i64 9)), false⟩,
    ⟨none, (some 17), .bd 17 [(Value.int .i64 0), Value.nilIface] [(1, 1, (.s 16))], false⟩,
    ⟨none, (some 18), .bx 18 83 2 (.s 17), false⟩,
    ⟨none, (some 19), .mi 19 79 (.s 18), false⟩,
    ⟨none, none, .st false 1 (.s 4) (.k (Value.slice none 0 0)), false⟩,
    ⟨none, none, .st false 1 (.s 5) (.s 19), false⟩]))
  .ret) .skip))]
theorem cc15 : (Tryz.f15.body).bind (ccD Tryz.prog Tryz.f15.ntmps A15) = some (SP15, S15, 20, 46, [(.s 4), (.s 5)]) := by kernel_rfl
def R15 : List RR := [.ce 4 false 1, .ce 5 false 1]
theorem cr15 : Tryz.f15.results.toList.map (crr Tryz.prog) = R15.map some := by kernel_rfl
theorem nm15 : (Tryz.f15.name == "runtime.NumGoroutine") = false := by kernel_rfl
theorem fn15 : Tryz.prog.funcs[15]? = some Tryz.f15 := by kernel_rfl
theorem bd15 : ∃ b, Tryz.f15.body = some b ∧ ccD Tryz.prog Tryz.f15.ntmps A15 b = some (SP15, S15, 20, 46, [(.s 4), (.s 5)]) := Option.bind_eq_some_iff.1 cc15
theorem sd15 {G : World → Prop} {T : FuncId → Contract} {D : DCon} {C : Contract} (hT : ∀ f, Sound G Tryz.prog f (T f)) (hD : SoundD G Tryz.prog 46 D) (hl : C.lawful) (hC : ∀ args st K, C.wp args st K → args.length ≤ 133 ∧ ∃ os, xvs T st.n (endK R15 st.n os K) SP15 (fun st1 => xv T st1.n S15 (st1.put 20 (.fn 46 (([(.s 4), (.s 5)] : List Rv).map fun x => x.get st1))) (defE D R15 st.n os K (([(.s 4), (.s 5)] : List Rv).map fun x => x.get st1)) (fun x s => defK D R15 st.n os K (some x) (([(.s 4), (.s 5)] : List Rv).map fun x => x.get st1) s)) (st0 args st)) (hit : SoundIt G Tryz.prog 15 C.it := by exact SoundIt.none) : Sound G Tryz.prog 15 C := by
  obtain ⟨b, hb, hc⟩ := bd15
  rw [xvs_eq, xv_eq] at hC
  exact sound_of_ccD mo fn15 hb nm15 hc cr15 hT hD hl hit hC
def A47 : Ann := ⟨fun _ _ => 0, fun r => if r = 7 then some [(0, true, [1, 3000, 4000]), (1, true, [1, 3000, 4000]), (2, true, [1, 3000, 4000]), (3, true, [1, 3000, 4000]), (6, true, []), (4, true, [1, 3000, 4000]), (5, true, [1, 3000, 4000]), (7, false, [1, 3000, 4000]), (8, false, [0, 1, 2, 3, 4, 5, 6, 7, 8, 9, 10, 11, 12, 13, 14, 15])] else if r = 8 then some [(0, true, []), (1, true, []), (2, true, []), (4, true, []), (5, true, []), (6, true, []), (8, true, []), (9, true, []), (10, true, []), (12, true, []), (13, true, []), (14, true, []), (3, true, []), (7, true, []), (11, true, []), (15, true, []), (16, true, []), (17, true, []), (18, true, []), (19, true, []), (20, false, [0, 1, 2, 3, 4, 5, 6, 7, 8, 9, 10, 11, 12, 13, 14, 15])] else if r = 4 then some [(0, true, []), (1, true, []), (2, true, []), (3, true, []), (4, true, []), (5, true, []), (6, true, []), (7, true, []), (8, true, []), (9, true, []), (10, true, []), (11, true, []), (13, true, []), (14, true, []), (15, true, []), (12, true, []), (16, true, []), (17, true, []), (18, true, []), (19, true, []), (20, true, []), (21, true, [])] else none, fun r => if r = 1 then some (false, [0, 2]) else if r = 3 then some (false, [0, 2]) else if r = 4 then some (false, [0, 2]) else if r = 7 then some (false, [0]) else if r = 8 then some (false, [0]) else if r = 9 then some (false, [0, 2]) else if r = 10 then some (false, [0, 2, 3]) else if r = 12 then some (false, [0, 2, 3]) else if r = 15 then some (false, [0, 4, 5]) else if r = 16 then some (false, [0, 4, 5, 6]) else none, fun _ => []⟩
def S47_0 : SCode :=
  (.ops [⟨none, (some 7), .mv 7 (.s 0), false⟩,
    ⟨none, (some 8), .call (some 8) 95 false [(.s 7)], false⟩,
    ⟨none, (some 2), .mv 2 (.s 8), false⟩])
def S47_1 : SCode :=
  (.block 0 (.seq (.seq (.keep [0, 2]) (.ops [⟨none, (some 10), .mv 10 (.s 2), false⟩,
    ⟨none, (some 11), .bin 11 .eql (.s 10) (.k (Value.string ⟨#[]⟩)), false⟩,
    ⟨none, (some 9), .mv 9 (.s 11), false⟩]))
  (.cond (.s 9) (.ops [⟨none, (some 12), .mv 12 (.s 0), false⟩,
    ⟨none, (some 13), .call (some 13) 48 false [(.s 12), (.k (Value.int .i64 3))], false⟩]) (.seq (.seq (.keep [0, 2]) (.ops [⟨none, (some 15), .mv 15 (.s 2), false⟩,
    ⟨none, (some 16), .bin 16 .eql (.s 15) (.k (Value.string ⟨#[97]⟩)), false⟩,
    ⟨none, (some 17), .mv 17 (.s 16), false⟩,
    ⟨(some (17, false)), (some 18), .mv 18 (.s 2), false⟩,
    ⟨(some (17, false)), (some 19), .bin 19 .eql (.s 18) (.k (Value.string ⟨#[115, 47, 46, 47, 47]⟩)), false⟩,
    ⟨none, (some 20), .pk 20 (.s 17) (.k (Value.bool true)) (.s 19), false⟩,
    ⟨none, (some 14), .mv 14 (.s 20), false⟩]))
  (.cond (.s 14) (.seq (.seq (.seq (.keep [0, 2]) (.dr [([], true, ⟨none, (some 21), .mv 21 (.s 0), false⟩),
    ([], true, ⟨none, (some 22), .nc 22 (.s 21), false⟩),
    ([], true, ⟨none, (some 23), .fa 23 1 (.s 22), false⟩),
    ([], true, ⟨none, (some 24), .ld 24 false 1 (.s 23), false⟩),
    ([], true, ⟨none, (some 25), .bin 25 .eql (.s 24) (.k (Value.int .i64 (-1))), false⟩),
    ([], true, ⟨none, (some 26), .mv 26 (.s 25), false⟩),
    ([], true, ⟨(some (26, false)), (some 27), .mv 27 (.s 2), false⟩),
    ([], true, ⟨(some (26, false)), (some 28), .bin 28 .eql (.s 27) (.k (Value.string ⟨#[115, 47, 46, 47, 47]⟩)), false⟩),
    ([], true, ⟨(some (26, false)), (some 29), .mv 29 (.s 28), false⟩),
    ([], true, ⟨(some (29, true)), (some 30), .mv 30 (.s 0), true⟩),
    ([], true, ⟨(some (29, true)), (some 31), .nc 31 (.s 30), false⟩),
    ([], true, ⟨(some (29, true)), (some 32), .fa 32 0 (.s 31), false⟩),
    ([], true, ⟨(some (29, true)), (some 34), .mv 34 (.s 0), false⟩),
    ([], true, ⟨(some (29, true)), (some 35), .nc 35 (.s 34), false⟩),
    ([], true, ⟨(some (29, true)), (some 36), .fa 36 1 (.s 35), false⟩),
    ([], true, ⟨(some (29, true)), (some 33), .ld 33 false 1 (.s 32), false⟩),
    ([], true, ⟨(some (29, true)), (some 37), .ld 37 false 1 (.s 36), false⟩),
    ([], true, ⟨(some (29, true)), (some 38), .ia 38 1 (.s 33) (.s 37), false⟩),
    ([], true, ⟨(some (29, true)), (some 39), .ld 39 false 1 (.s 38), false⟩),
    ([], true, ⟨(some (29, true)), (some 40), .bin 40 .eql (.s 39) (.k (Value.string ⟨#[]⟩)), true⟩),
    ([], true, ⟨(some (26, false)), (some 41), .pk 41 (.s 29) (.s 40) (.k (Value.bool false)), false⟩),
    ([], true, ⟨none, (some 42), .pk 42 (.s 26) (.k (Value.bool true)) (.s 41), false⟩)]))
  (.cond (.s 42) (.ops [⟨none, (some 43), .mv 43 (.s 0), false⟩,
    ⟨none, (some 44), .call (some 44) 48 false [(.s 43), (.k (Value.int .i64 130))], false⟩]) .skip))
  (.seq (.seq (.ops [⟨none, (some 45), .mv 45 (.s 2), false⟩,
    ⟨none, (some 46), .bin 46 .eql (.s 45) (.k (Value.string ⟨#[97]⟩)), false⟩])
  (.cond (.s 46) (.seq (.keep [0]) (.dr [([1, 3000, 4000], true, ⟨none, (some 47), .mv 47 (.s 0), false⟩),
    ([1, 3000, 4000], true, ⟨none, (some 48), .mv 48 (.s 0), false⟩),
    ([1, 3000, 4000], true, ⟨none, (some 49), .nc 49 (.s 48), false⟩),
    ([1, 3000, 4000], true, ⟨none, (some 50), .fa 50 1 (.s 49), false⟩),
    ([], true, ⟨none, (some 53), .mv 53 (.s 0), false⟩),
    ([1, 3000, 4000], true, ⟨none, (some 51), .ld 51 false 1 (.s 50), false⟩),
    ([1, 3000, 4000], true, ⟨none, (some 52), .binc 52 .add (.s 51) (.k (Value.int .i64 1)), false⟩),
    ([1, 3000, 4000], false, ⟨none, (some 54), .call (some 54) 97 false [(.s 53)], false⟩),
    ([0, 1, 2, 3, 4, 5, 6, 7, 8, 9, 10, 11, 12, 13, 14, 15], false, ⟨none, (some 55), .call (some 55) 96 false [(.s 47), (.s 52), (.k (Value.int .i64 0)), (.s 54)], false⟩)])) (.seq (.keep [0]) (.dr [([], true, ⟨none, (some 56), .mv 56 (.s 0), false⟩),
    ([], true, ⟨none, (some 57), .nc 57 (.s 56), false⟩),
    ([], true, ⟨none, (some 58), .fa 58 0 (.s 57), false⟩),
    ([], true, ⟨none, (some 60), .mv 60 (.s 0), false⟩),
    ([], true, ⟨none, (some 61), .nc 61 (.s 60), false⟩),
    ([], true, ⟨none, (some 62), .fa 62 1 (.s 61), false⟩),
    ([], true, ⟨none, (some 64), .mv 64 (.s 0), false⟩),
    ([], true, ⟨none, (some 65), .nc 65 (.s 64), true⟩),
    ([], true, ⟨none, (some 66), .fa 66 0 (.s 65), false⟩),
    ([], true, ⟨none, (some 68), .mv 68 (.s 0), false⟩),
    ([], true, ⟨none, (some 69), .nc 69 (.s 68), false⟩),
    ([], true, ⟨none, (some 70), .fa 70 1 (.s 69), false⟩),
    ([], true, ⟨none, (some 59), .ld 59 false 1 (.s 58), false⟩),
    ([], true, ⟨none, (some 63), .ld 63 false 1 (.s 62), false⟩),
    ([], true, ⟨none, (some 67), .ld 67 false 1 (.s 66), false⟩),
    ([], true, ⟨none, (some 71), .ld 71 false 1 (.s 70), false⟩),
    ([], true, ⟨none, (some 72), .ia 72 1 (.s 67) (.s 71), false⟩),
    ([], true, ⟨none, (some 73), .ld 73 false 1 (.s 72), false⟩),
    ([], true, ⟨none, (some 74), .sls 74 (.s 73) (some (.k (Value.int .i64 1))) none, false⟩),
    ([], true, ⟨none, (some 75), .ia 75 1 (.s 59) (.s 63), true⟩),
    ([0, 1, 2, 3, 4, 5, 6, 7, 8, 9, 10, 11, 12, 13, 14, 15], false, ⟨none, none, .st false 1 (.s 75) (.s 74), false⟩)]))))
  .ret)) .skip)))))
def S47_2 : SCode :=
  (.seq (.keep [0, 2]) (.ops [⟨none, (some 76), .mv 76 (.s 2), false⟩,
    ⟨none, (some 77), .mv 77 (.s 2), false⟩,
    ⟨none, (some 78), .lens 78 (.s 77), false⟩,
    ⟨none, (some 79), .binc 79 .sub (.s 78) (.k (Value.int .i64 1)), false⟩,
    ⟨none, (some 80), .ixs 80 (.s 76) (.s 79), false⟩,
    ⟨none, (some 3), .mv 3 (.s 80), false⟩]))
def S47_3 : SCode :=
  (.seq (.seq (.keep [0, 2, 3]) (.ops [⟨none, (some 81), .mv 81 (.s 3), false⟩,
    ⟨none, (some 82), .bin 82 .neq (.s 81) (.k (Value.int .u8 97)), false⟩,
    ⟨none, (some 83), .mv 83 (.s 82), false⟩,
    ⟨(some (83, true)), (some 84), .mv 84 (.s 3), false⟩,
    ⟨(some (83, true)), (some 85), .bin 85 .neq (.s 84) (.k (Value.int .u8 99)), false⟩,
    ⟨none, (some 86), .pk 86 (.s 83) (.s 85) (.k (Value.bool false)), false⟩,
    ⟨none, (some 87), .mv 87 (.s 86), false⟩,
    ⟨(some (87, true)), (some 88), .mv 88 (.s 3), false⟩,
    ⟨(some (87, true)), (some 89), .bin 89 .neq (.s 88) (.k (Value.int .u8 100)), false⟩,
    ⟨none, (some 90), .pk 90 (.s 87) (.s 89) (.k (Value.bool false)), true⟩]))
  (.cond (.s 90) (.ops [⟨none, (some 91), .mv 91 (.s 0), false⟩,
    ⟨none, (some 92), .call (some 92) 48 false [(.s 91), (.k (Value.int .i64 3))], false⟩]) .skip))
def S47_4 : SCode :=
  (.seq (.keep [0, 2, 3]) (.ops [⟨none, (some 94), .mv 94 (.s 0), false⟩,
    ⟨none, (some 95), .mv 95 (.s 2), false⟩,
    ⟨none, (some 96), .mv 96 (.s 2), false⟩,
    ⟨none, (some 97), .lens 97 (.s 96), false⟩,
    ⟨none, (some 98), .binc 98 .sub (.s 97) (.k (Value.int .i64 1)), false⟩,
    ⟨none, (some 99), .sls 99 (.s 95) none (some (.s 98)), false⟩,
    ⟨none, (some 100), .mv 100 (.s 3), false⟩,
    ⟨none, (some 101), .call (some 101) 98 false [(.s 94), (.s 99), (.s 100)], false⟩,
    ⟨none, (some 93), .mv 93 (.s 101), false⟩,
    ⟨none, (some 102), .ex 102 (.s 93) 0, true⟩,
    ⟨none, (some 103), .ex 103 (.s 93) 1, false⟩,
    ⟨none, (some 4), .mv 4 (.s 102), false⟩,
    ⟨none, (some 5), .mv 5 (.s 103), false⟩]))
def S47_5 : SCode :=
  (.ops [⟨none, (some 6), .mv 6 (.k (Value.slice none 0 0)), false⟩])
def S47_6 : SCode :=
  (.seq (.ops [⟨none, (some 104), .mv 104 (.s 3), false⟩,
    ⟨none, (some 105), .bin 105 .neq (.s 104) (.k (Value.int .u8 100)), false⟩])
  (.cond (.s 105) (.seq (.keep [0, 4, 5]) (.ops [⟨none, (some 106), .mv 106 (.s 0), false⟩,
    ⟨none, (some 107), .call (some 107) 97 false [(.s 106)], false⟩,
    ⟨none, (some 6), .mv 6 (.s 107), false⟩])) .skip))
def S47_7 : SCode :=
  (.keep [0, 4, 5, 6])
def S47r8 : SCode := (.ops [⟨none, (some 108), .mv 108 (.s 0), false⟩,
    ⟨none, (some 109), .mv 109 (.s 4), false⟩,
    ⟨none, (some 110), .mv 110 (.s 5), false⟩,
    ⟨none, (some 111), .mv 111 (.s 6), false⟩,
    ⟨none, (some 112), .call (some 112) 96 false [(.s 108), (.s 109), (.s 110), (.s 111)], false⟩])
def S47r7 : SCode := .seq S47_7 S47r8
def S47r6 : SCode := .seq S47_6 S47r7
def S47r5 : SCode := .seq S47_5 S47r6
def S47r4 : SCode := .seq S47_4 S47r5
def S47r3 : SCode := .seq S47_3 S47r4
def S47r2 : SCode := .seq S47_2 S47r3
def S47r1 : SCode := .seq S47_1 S47r2
def S47 : SCode := .seq S47_0 S47r1
theorem cc47 : (Tryz.f47.body).bind (cc Tryz.prog Tryz.f47.ntmps A47) = some S47 := by kernel_rfl
def R47 : List RR := []
theorem cr47 : Tryz.f47.results.toList.map (crr Tryz.prog) = R47.map some := by kernel_rfl
theorem nm47 : (Tryz.f47.name == "runtime.NumGoroutine") = false := by kernel_rfl
theorem fn47 : Tryz.prog.funcs[47]? = some Tryz.f47 := by kernel_rfl
theorem bd47 : ∃ b, Tryz.f47.body = some b ∧ cc Tryz.prog Tryz.f47.ntmps A47 b = some S47 := Option.bind_eq_some_iff.1 cc47
theorem sd47 {G : World → Prop} {T : FuncId → Contract} {C : Contract} (hT : ∀ f, Sound G Tryz.prog f (T f)) (hl : C.lawful) (hC : ∀ args st K, C.wp args st K → args.length ≤ 113 ∧ ∃ os op, xv T st.n S47 (st0 args st) (retK R47 st.n os K) (panK st.n op K)) (hit : SoundIt G Tryz.prog 47 C.it := by exact SoundIt.none) : Sound G Tryz.prog 47 C := by
  obtain ⟨b, hb, hc⟩ := bd47
  rw [xv_eq] at hC
  exact sound_of_ev mo fn47 hb nm47 hc cr47 hT hl hit hC
def A98 : Ann := ⟨fun _ _ => 0, fun _ => none, fun r => if r = 1 then some (false, [0, 1, 2]) else if r = 2 then some (false, [0, 2, 8, 9, 10]) else if r = 4 then some (false, [0, 10, 11, 12]) else if r = 6 then some (false, [0, 11]) else if r = 8 then some (false, [11]) else if r = 12 then some (false, [0, 9, 11, 12]) else if r = 13 then some (false, [0, 11, 12, 13, 14]) else if r = 15 then some (false, [0, 11, 12, 13]) else if r = 17 then some (false, [0, 11, 13]) else if r = 19 then some (false, [11, 13]) else none, fun _ => []⟩
def S98 : SCode :=
  (.seq (.ops [⟨none, (some 6), .mv 6 (.k (Value.int .i64 0)), false⟩,
    ⟨none, (some 7), .mv 7 (.k (Value.int .i64 0)), false⟩])
  (.seq (.seq (.keep [0, 1, 2]) (.ops [⟨none, (some 16), .mv 16 (.s 1), false⟩,
    ⟨none, (some 17), .call (some 17) 85 false [(.s 16), (.k (Value.string ⟨#[44]⟩))], false⟩,
    ⟨none, (some 15), .mv 15 (.s 17), false⟩,
    ⟨none, (some 18), .ex 18 (.s 15) 0, false⟩,
    ⟨none, (some 19), .ex 19 (.s 15) 1, false⟩,
    ⟨none, (some 20), .ex 20 (.s 15) 2, false⟩,
    ⟨none, (some 8), .mv 8 (.s 18), false⟩,
    ⟨none, (some 9), .mv 9 (.s 19), false⟩,
    ⟨none, (some 10), .mv 10 (.s 20), false⟩]))
  (.seq (.seq (.keep [0, 2, 8, 9, 10]) (.ops [⟨none, (some 22), .mv 22 (.s 8), false⟩,
    ⟨none, (some 23), .call (some 23) 86 false [(.s 22)], false⟩,
    ⟨none, (some 21), .mv 21 (.s 23), false⟩,
    ⟨none, (some 24), .ex 24 (.s 21) 0, false⟩,
    ⟨none, (some 25), .ex 25 (.s 21) 1, false⟩,
    ⟨none, (some 11), .mv 11 (.s 24), false⟩,
    ⟨none, (some 12), .mv 12 (.s 25), false⟩]))
  (.seq (.seq (.ops [⟨none, (some 26), .mv 26 (.s 2), false⟩,
    ⟨none, (some 27), .bin 27 .eql (.s 26) (.k (Value.int .u8 97)), false⟩])
  (.cond (.s 27) (.seq (.seq (.seq (.keep [0, 10, 11, 12]) (.ops [⟨none, (some 28), .mv 28 (.s 10), false⟩,
    ⟨none, (some 29), .mv 29 (.s 28), false⟩,
    ⟨(some (29, false)), (some 30), .mv 30 (.s 12), false⟩,
    ⟨(some (29, false)), (some 31), .bin 31 .neq (.s 30) (.k (Value.int .i64 0)), false⟩,
    ⟨none, (some 32), .pk 32 (.s 29) (.k (Value.bool true)) (.s 31), false⟩]))
  (.cond (.s 32) (.ops [⟨none, (some 33), .mv 33 (.s 0), false⟩,
    ⟨none, (some 34), .call (some 34) 48 false [(.s 33), (.k (Value.int .i64 3))], false⟩]) .skip))
  (.seq (.seq (.seq (.keep [0, 11]) (.ops [⟨none, (some 35), .mv 35 (.s 11), false⟩,
    ⟨none, (some 36), .mv 36 (.s 0), false⟩,
    ⟨none, (some 37), .nc 37 (.s 36), false⟩,
    ⟨none, (some 38), .fa 38 0 (.s 37), false⟩,
    ⟨none, (some 39), .ld 39 false 1 (.s 38), false⟩,
    ⟨none, (some 40), .len 40 (.s 39), false⟩,
    ⟨none, (some 41), .bin 41 .gtr (.s 35) (.s 40), false⟩]))
  (.cond (.s 41) (.ops [⟨none, (some 42), .mv 42 (.s 0), false⟩,
    ⟨none, (some 43), .call (some 43) 48 false [(.s 42), (.k (Value.int .i64 2))], false⟩]) .skip))
  (.seq (.seq (.keep [11]) (.ops [⟨none, (some 44), .mv 44 (.s 11), false⟩,
    ⟨none, (some 6), .mv 6 (.s 44), false⟩,
    ⟨none, (some 7), .mv 7 (.k (Value.int .i64 0)), false⟩]))
  .ret))) .skip))
  (.seq (.ops [⟨none, (some 45), .mv 45 (.s 11), false⟩,
    ⟨none, (some 13), .mv 13 (.s 45), false⟩])
  (.seq (.seq (.ops [⟨none, (some 46), .mv 46 (.s 10), false⟩])
  (.cond (.s 46) (.seq (.ops [⟨none, (some 14), .mv 14 (.k (Value.int .i64 0)), false⟩])
  (.seq (.seq (.keep [0, 9, 11, 12]) (.ops [⟨none, (some 48), .mv 48 (.s 9), false⟩,
    ⟨none, (some 49), .call (some 49) 86 false [(.s 48)], false⟩,
    ⟨none, (some 47), .mv 47 (.s 49), false⟩,
    ⟨none, (some 50), .ex 50 (.s 47) 0, false⟩,
    ⟨none, (some 51), .ex 51 (.s 47) 1, false⟩,
    ⟨none, (some 13), .mv 13 (.s 50), false⟩,
    ⟨none, (some 14), .mv 14 (.s 51), false⟩]))
  (.seq (.seq (.keep [0, 11, 12, 13, 14]) (.ops [⟨none, (some 52), .mv 52 (.s 14), false⟩,
    ⟨none, (some 53), .bin 53 .neq (.s 52) (.k (Value.int .i64 0)), false⟩,
    ⟨none, (some 54), .mv 54 (.s 53), false⟩,
    ⟨(some (54, false)), (some 55), .mv 55 (.s 13), false⟩,
    ⟨(some (54, false)), (some 56), .mv 56 (.s 11), false⟩,
    ⟨(some (54, false)), (some 57), .bin 57 .leq (.s 55) (.s 56), false⟩,
    ⟨none, (some 58), .pk 58 (.s 54) (.k (Value.bool true)) (.s 57), false⟩]))
  (.cond (.s 58) (.ops [⟨none, (some 59), .mv 59 (.s 0), false⟩,
    ⟨none, (some 60), .call (some 60) 48 false [(.s 59), (.k (Value.int .i64 3))], false⟩]) .skip)))) .skip))
  (.seq (.seq (.seq (.keep [0, 11, 12, 13]) (.ops [⟨none, (some 61), .mv 61 (.s 12), false⟩,
    ⟨none, (some 62), .bin 62 .neq (.s 61) (.k (Value.int .i64 0)), false⟩,
    ⟨none, (some 63), .mv 63 (.s 62), false⟩,
    ⟨(some (63, false)), (some 64), .mv 64 (.s 11), false⟩,
    ⟨(some (63, false)), (some 65), .bin 65 .eql (.s 64) (.k (Value.int .i64 0)), false⟩,
    ⟨none, (some 66), .pk 66 (.s 63) (.k (Value.bool true)) (.s 65), false⟩]))
  (.cond (.s 66) (.ops [⟨none, (some 67), .mv 67 (.s 0), false⟩,
    ⟨none, (some 68), .call (some 68) 48 false [(.s 67), (.k (Value.int .i64 3))], false⟩]) .skip))
  (.seq (.seq (.seq (.keep [0, 11, 13]) (.ops [⟨none, (some 69), .mv 69 (.s 13), false⟩,
    ⟨none, (some 70), .mv 70 (.s 0), false⟩,
    ⟨none, (some 71), .nc 71 (.s 70), false⟩,
    ⟨none, (some 72), .fa 72 0 (.s 71), false⟩,
    ⟨none, (some 73), .ld 73 false 1 (.s 72), false⟩,
    ⟨none, (some 74), .len 74 (.s 73), false⟩,
    ⟨none, (some 75), .bin 75 .gtr (.s 69) (.s 74), false⟩]))
  (.cond (.s 75) (.ops [⟨none, (some 76), .mv 76 (.s 0), false⟩,
    ⟨none, (some 77), .call (some 77) 48 false [(.s 76), (.k (Value.int .i64 2))], false⟩]) .skip))
  (.seq (.seq (.keep [11, 13]) (.ops [⟨none, (some 78), .mv 78 (.s 11), false⟩,
    ⟨none, (some 79), .binc 79 .sub (.s 78) (.k (Value.int .i64 1)), false⟩,
    ⟨none, (some 80), .mv 80 (.s 13), false⟩,
    ⟨none, (some 81), .mv 81 (.s 11), false⟩,
    ⟨none, (some 82), .binc 82 .sub (.s 80) (.s 81), false⟩,
    ⟨none, (some 83), .binc 83 .add (.s 82) (.k (Value.int .i64 1)), false⟩,
    ⟨none, (some 6), .mv 6 (.s 79), false⟩,
    ⟨none, (some 7), .mv 7 (.s 83), false⟩]))
  .ret)))))))))
theorem cc98 : (Tryz.f98.body).bind (cc Tryz.prog Tryz.f98.ntmps A98) = some S98 := by kernel_rfl
def R98 : List RR := [.sl 6, .sl 7]
theorem cr98 : Tryz.f98.results.toList.map (crr Tryz.prog) = R98.map some := by kernel_rfl
theorem nm98 : (Tryz.f98.name == "runtime.NumGoroutine") = false := by kernel_rfl
theorem fn98 : Tryz.prog.funcs[98]? = some Tryz.f98 := by kernel_rfl
theorem bd98 : ∃ b, Tryz.f98.body = some b ∧ cc Tryz.prog Tryz.f98.ntmps A98 b = some S98 := Option.bind_eq_some_iff.1 cc98
theorem sd98 {G : World → Prop} {T : FuncId → Contract} {C : Contract} (hT : ∀ f, Sound G Tryz.prog f (T f)) (hl : C.lawful) (hC : ∀ args st K, C.wp args st K → args.length ≤ 84 ∧ ∃ os op, xv T st.n S98 (st0 args st) (retK R98 st.n os K) (panK st.n op K)) (hit : SoundIt G Tryz.prog 98 C.it := by exact SoundIt.none) : Sound G Tryz.prog 98 C := by
  obtain ⟨b, hb, hc⟩ := bd98
  rw [xv_eq] at hC
  exact sound_of_ev mo fn98 hb nm98 hc cr98 hT hl hit hC
def A97 : Ann := ⟨fun r i => if r = 1 ∧ i = 0 then 11 else 0, fun _ => none, fun r => if r = 2 then some (false, [0, 3]) else if r = 5 then some (false, [0, 3, 4]) else none, fun r => if r = 2 then [0, 3] else []⟩
def S97 : SCode :=
  (.seq (.ops [⟨none, (some 2), .mv 2 (.k (Value.slice none 0 0)), false⟩])
  (.seq (.ops [⟨none, (some 3), .nr 3 9 1, false⟩])
  (.block 0 (.loop [0, 3] (.block 1 (.seq (.seq (.keep [0, 3]) (.ops [⟨none, (some 5), .mv 5 (.s 0), false⟩,
    ⟨none, (some 6), .call (some 6) 95 false [(.s 5)], false⟩,
    ⟨none, (some 4), .mv 4 (.s 6), false⟩]))
  (.seq (.seq (.ops [⟨none, (some 7), .mv 7 (.s 4), false⟩,
    ⟨none, (some 8), .bin 8 .eql (.s 7) (.k (Value.string ⟨#[46]⟩)), false⟩])
  (.cond (.s 8) (.seq (.ops [⟨none, (some 9), .mv 9 (.s 3), false⟩,
    ⟨none, (some 2), .mv 2 (.s 9), false⟩])
  .ret) .skip))
  (.seq (.keep [0, 3, 4]) (.ops [⟨none, (some 10), .mv 10 (.s 3), false⟩,
    ⟨none, (some 11), .mv 11 (.s 4), false⟩,
    ⟨none, (some 12), .bs 12 9 1 [(.s 11)], false⟩,
    ⟨none, (some 13), .ap 13 9 1 16 (.s 10) (.s 12), false⟩,
    ⟨none, (some 3), .mv 3 (.s 13), false⟩])))))))))
theorem cc97 : (Tryz.f97.body).bind (cc Tryz.prog Tryz.f97.ntmps A97) = some S97 := by kernel_rfl
def R97 : List RR := [.sl 2]
theorem cr97 : Tryz.f97.results.toList.map (crr Tryz.prog) = R97.map some := by kernel_rfl
theorem nm97 : (Tryz.f97.name == "runtime.NumGoroutine") = false := by kernel_rfl
theorem fn97 : Tryz.prog.funcs[97]? = some Tryz.f97 := by kernel_rfl
theorem bd97 : ∃ b, Tryz.f97.body = some b ∧ cc Tryz.prog Tryz.f97.ntmps A97 b = some S97 := Option.bind_eq_some_iff.1 cc97
theorem sd97 {G : World → Prop} {T : FuncId → Contract} {C : Contract} (hT : ∀ f, Sound G Tryz.prog f (T f)) (hl : C.lawful) (hC : ∀ args st K, C.wp args st K → args.length ≤ 14 ∧ ∃ os op, xv T st.n S97 (st0 args st) (retK R97 st.n os K) (panK st.n op K)) (hit : SoundIt G Tryz.prog 97 C.it := by exact SoundIt.none) : Sound G Tryz.prog 97 C := by
  obtain ⟨b, hb, hc⟩ := bd97
  rw [xv_eq] at hC
  exact sound_of_ev mo fn97 hb nm97 hc cr97 hT hl hit hC
def A95 : Ann := ⟨fun _ _ => 0, fun r => if r = 4 then some [(0, true, []), (1, true, []), (2, true, []), (4, true, []), (5, true, []), (6, true, []), (3, true, []), (7, true, []), (8, true, []), (9, true, []), (10, true, []), (11, false, [0, 1, 2, 3, 4, 5, 6, 7, 8, 9, 10, 11, 12, 13, 14, 15]), (12, true, []), (13, true, []), (14, true, []), (15, true, []), (16, true, [])] else if r = 2 then some [(0, true, []), (1, true, []), (2, true, []), (4, true, []), (5, true, []), (6, true, []), (3, true, []), (7, true, []), (8, true, []), (9, true, [])] else none, fun r => if r = 1 then some (false, [0]) else if r = 2 then some (false, [0]) else if r = 4 then some (false, [0]) else none, fun _ => []⟩
def S95 : SCode :=
  (.seq (.ops [⟨none, (some 2), .mv 2 (.k (Value.string ⟨#[]⟩)), false⟩])
  (.seq (.seq (.keep [0]) (.ops [⟨none, (some 5), .mv 5 (.s 0), false⟩,
    ⟨none, (some 6), .nc 6 (.s 5), false⟩,
    ⟨none, (some 7), .fa 7 3 (.s 6), false⟩,
    ⟨none, (some 8), .ld 8 false 1 (.s 7), false⟩,
    ⟨none, (some 9), .binc 9 .add (.s 8) (.k (Value.int .i64 1)), false⟩,
    ⟨none, (some 10), .nc 10 (.s 5), false⟩,
    ⟨none, (some 11), .fa 11 3 (.s 10), false⟩,
    ⟨none, none, .st false 1 (.s 11) (.s 9), false⟩]))
  (.seq (.seq (.seq (.keep [0]) (.dr [([], true, ⟨none, (some 12), .mv 12 (.s 0), false⟩),
    ([], true, ⟨none, (some 13), .nc 13 (.s 12), false⟩),
    ([], true, ⟨none, (some 14), .fa 14 3 (.s 13), false⟩),
    ([], true, ⟨none, (some 16), .mv 16 (.s 0), false⟩),
    ([], true, ⟨none, (some 17), .nc 17 (.s 16), false⟩),
    ([], true, ⟨none, (some 18), .fa 18 2 (.s 17), false⟩),
    ([], true, ⟨none, (some 15), .ld 15 false 1 (.s 14), false⟩),
    ([], true, ⟨none, (some 19), .ld 19 false 1 (.s 18), false⟩),
    ([], true, ⟨none, (some 20), .len 20 (.s 19), false⟩),
    ([], true, ⟨none, (some 21), .bin 21 .gtr (.s 15) (.s 20), true⟩)]))
  (.cond (.s 21) (.ops [⟨none, (some 22), .mv 22 (.s 0), false⟩,
    ⟨none, (some 23), .call (some 23) 48 false [(.s 22), (.k (Value.int .i64 1))], false⟩]) .skip))
  (.seq (.seq (.keep [0]) (.dr [([], true, ⟨none, (some 25), .mv 25 (.s 0), false⟩),
    ([], true, ⟨none, (some 26), .nc 26 (.s 25), false⟩),
    ([], true, ⟨none, (some 27), .fa 27 2 (.s 26), false⟩),
    ([], true, ⟨none, (some 29), .mv 29 (.s 0), false⟩),
    ([], true, ⟨none, (some 30), .nc 30 (.s 29), false⟩),
    ([], true, ⟨none, (some 31), .fa 31 3 (.s 30), false⟩),
    ([], true, ⟨none, (some 28), .ld 28 false 1 (.s 27), false⟩),
    ([], true, ⟨none, (some 32), .ld 32 false 1 (.s 31), false⟩),
    ([], true, ⟨none, (some 33), .binc 33 .sub (.s 32) (.k (Value.int .i64 1)), false⟩),
    ([], true, ⟨none, (some 34), .ia 34 1 (.s 28) (.s 33), true⟩),
    ([], true, ⟨none, (some 35), .ld 35 false 1 (.s 34), false⟩),
    ([0, 1, 2, 3, 4, 5, 6, 7, 8, 9, 10, 11, 12, 13, 14, 15], false, ⟨none, (some 36), .call (some 36) 18 false [(.s 35)], false⟩),
    ([], true, ⟨none, (some 24), .mv 24 (.s 36), false⟩),
    ([], true, ⟨none, (some 37), .ex 37 (.s 24) 0, false⟩),
    ([], true, ⟨none, (some 38), .ex 38 (.s 24) 1, false⟩),
    ([], true, ⟨none, (some 3), .mv 3 (.s 37), false⟩),
    ([], true, ⟨none, (some 4), .mv 4 (.s 38), false⟩)]))
  (.seq (.seq (.ops [⟨none, (some 39), .mv 39 (.s 4), false⟩,
    ⟨none, (some 40), .not 40 (.s 39), false⟩])
  (.cond (.s 40) (.ops [⟨none, (some 41), .mv 41 (.s 0), false⟩,
    ⟨none, (some 42), .call (some 42) 48 false [(.s 41), (.k (Value.int .i64 3))], false⟩]) .skip))
  (.seq (.ops [⟨none, (some 43), .mv 43 (.s 3), false⟩,
    ⟨none, (some 2), .mv 2 (.s 43), false⟩])
  .ret))))))
theorem cc95 : (Tryz.f95.body).bind (cc Tryz.prog Tryz.f95.ntmps A95) = some S95 := by kernel_rfl
def R95 : List RR := [.sl 2]
theorem cr95 : Tryz.f95.results.toList.map (crr Tryz.prog) = R95.map some := by kernel_rfl
theorem nm95 : (Tryz.f95.name == "runtime.NumGoroutine") = false := by kernel_rfl
theorem fn95 : Tryz.prog.funcs[95]? = some Tryz.f95 := by kernel_rfl
theorem bd95 : ∃ b, Tryz.f95.body = some b ∧ cc Tryz.prog Tryz.f95.ntmps A95 b = some S95 := Option.bind_eq_some_iff.1 cc95
theorem sd95 {G : World → Prop} {T : FuncId → Contract} {C : Contract} (hT : ∀ f, Sound G Tryz.prog f (T f)) (hl : C.lawful) (hC : ∀ args st K, C.wp args st K → args.length ≤ 44 ∧ ∃ os op, xv T st.n S95 (st0 args st) (retK R95 st.n os K) (panK st.n op K)) (hit : SoundIt G Tryz.prog 95 C.it := by exact SoundIt.none) : Sound G Tryz.prog 95 C := by
  obtain ⟨b, hb, hc⟩ := bd95
  rw [xv_eq] at hC
  exact sound_of_ev mo fn95 hb nm95 hc cr95 hT hl hit hC
def A48 : Ann := ⟨fun _ _ => 0, fun _ => none, fun _ => none, fun _ => []⟩
def S48 : SCode :=
  (.ops [⟨none, (some 4), .mv 4 (.s 0), false⟩,
    ⟨none, (some 5), .nc 5 (.s 4), false⟩,
    ⟨none, (some 6), .fa 6 3 (.s 5), false⟩,
    ⟨none, (some 7), .ld 7 false 1 (.s 6), false⟩,
    ⟨none, (some 8), .mv 8 (.s 1), false⟩,
    ⟨none, (some 9), .mi 9 27 (.s 8), false⟩,
    ⟨none, (some 10), .bd 10 [(Value.int .i64 0), Value.nilIface] [(0, 1, (.s 7)), (1, 1, (.s 9))], false⟩,
    ⟨none, (some 11), .bx 11 83 2 (.s 10), false⟩,
    ⟨none, (some 12), .mi 12 79 (.s 11), false⟩,
    ⟨none, none, .pn (.s 12), true⟩])
theorem cc48 : (Tryz.f48.body).bind (cc Tryz.prog Tryz.f48.ntmps A48) = some S48 := by kernel_rfl
def R48 : List RR := []
theorem cr48 : Tryz.f48.results.toList.map (crr Tryz.prog) = R48.map some := by kernel_rfl
theorem nm48 : (Tryz.f48.name == "runtime.NumGoroutine") = false := by kernel_rfl
theorem fn48 : Tryz.prog.funcs[48]? = some Tryz.f48 := by kernel_rfl
theorem bd48 : ∃ b, Tryz.f48.body = some b ∧ cc Tryz.prog Tryz.f48.ntmps A48 b = some S48 := Option.bind_eq_some_iff.1 cc48
theorem sd48 {G : World → Prop} {T : FuncId → Contract} {C : Contract} (hT : ∀ f, Sound G Tryz.prog f (T f)) (hl : C.lawful) (hC : ∀ args st K, C.wp args st K → args.length ≤ 13 ∧ ∃ os op, xv T st.n S48 (st0 args st) (retK R48 st.n os K) (panK st.n op K)) (hit : SoundIt G Tryz.prog 48 C.it := by exact SoundIt.none) : Sound G Tryz.prog 48 C := by
  obtain ⟨b, hb, hc⟩ := bd48
  rw [xv_eq] at hC
  exact sound_of_ev mo fn48 hb nm48 hc cr48 hT hl hit hC
def A16 : Ann := ⟨fun r i => if r = 2 ∧ i = 1 then 11 else if r = 22 ∧ i = 8 then 1 else 0, fun r => if r = 23 then some [(0, true, []), (1, true, []), (2, true, []), (4, true, []), (5, true, []), (6, true, []), (7, true, []), (9, true, []), (3, true, []), (8, true, []), (10, true, []), (11, true, []), (12, true, []), (13, true, []), (14, false, [0, 1, 2, 3, 4, 5, 6, 7, 8, 9, 10, 11, 12, 13, 14, 15])] else if r = 18 then some [(0, true, []), (1, true, []), (2, true, []), (4, true, []), (3, true, []), (5, false, [0, 1, 2, 3, 4, 5, 6, 7, 8, 9, 10, 11, 12, 13, 14, 15])] else if r = 10 then some [(0, true, []), (1, true, []), (2, true, []), (4, true, []), (5, true, []), (6, true, []), (3, true, []), (7, true, []), (8, true, []), (9, true, []), (10, true, [])] else none, fun r => if r = 1 then some (false, [0, 1, 5]) else if r = 2 then some (false, [1, 5, 6]) else if r = 4 then some (false, [1, 5, 6, 7, 8]) else if r = 5 then some (false, [1, 5, 6, 7, 8]) else if r = 6 then some (false, [1, 5, 6, 7, 8]) else if r = 7 then some (false, [1, 5, 6, 7, 8, 9]) else if r = 10 then some (false, [5, 6, 7, 11]) else if r = 11 then some (false, [5, 6, 7]) else if r = 14 then some (false, [5, 6, 7, 11]) else if r = 16 then some (false, [5, 6, 7, 11]) else if r = 17 then some (false, [5, 6, 7, 11]) else if r = 18 then some (false, [5, 6]) else if r = 20 then some (false, [5, 7, 11, 12]) else if r = 21 then some (false, [5, 7, 11, 12]) else if r = 22 then some (false, [5, 7, 11, 12]) else if r = 23 then some (false, [5, 7, 11, 12]) else if r = 24 then some (false, [5, 7]) else none, fun r => if r = 4 then [1, 5, 6, 7, 8] else if r = 9 then [5, 6, 7, 11] else if r = 20 then [5, 7, 11, 12] else []⟩
def S16_0 : SCode :=
  (.ops [⟨none, (some 4), .mv 4 (.k (Value.slice none 0 0)), false⟩,
    ⟨none, (some 5), .al 5 29 [(Value.int .i64 0), (Value.int .i64 0)], false⟩])
def S16_1 : SCode :=
  (.seq (.keep [0, 1, 5]) (.ops [⟨none, (some 13), .mv 13 (.s 0), false⟩,
    ⟨none, (some 14), .call (some 14) 39 false [(.s 13)], false⟩,
    ⟨none, (some 6), .mv 6 (.s 14), false⟩]))
def S16_2 : SCode :=
  (.seq (.keep [1, 5, 6]) (.ops [⟨none, (some 15), .bd 15 [(Value.slice none 0 0), (Value.int .i64 0)] [(1, 1, (.k (Value.int .i64 (-1))))], false⟩,
    ⟨none, (some 16), .bxn 16 90 2 (.s 15) 0 9 1, false⟩,
    ⟨none, (some 7), .mv 7 (.s 16), false⟩]))
def S16_3 : SCode :=
  (.seq (.ops [⟨none, (some 8), .mv 8 (.k (Value.int .i64 0)), false⟩])
  (.block 0 (.loop [1, 5, 6, 7, 8] (.seq (.seq (.seq (.keep [1, 5, 6, 7, 8]) (.ops [⟨none, (some 17), .mv 17 (.s 8), false⟩,
    ⟨none, (some 18), .mv 18 (.s 1), false⟩,
    ⟨none, (some 19), .len 19 (.s 18), false⟩,
    ⟨none, (some 20), .bin 20 .lss (.s 17) (.s 19), false⟩]))
  (.cond (.s 20) .skip (.exit 0)))
  (.seq (.block 1 (.seq (.seq (.keep [1, 5, 6, 7, 8]) (.ops [⟨none, (some 24), .mv 24 (.s 1), false⟩,
    ⟨none, (some 25), .mv 25 (.s 8), false⟩,
    ⟨none, (some 26), .ia 26 1 (.s 24) (.s 25), false⟩,
    ⟨none, (some 27), .ld 27 false 1 (.s 26), false⟩,
    ⟨none, (some 28), .call (some 28) 49 false [(.s 27)], false⟩,
    ⟨none, (some 23), .mv 23 (.s 28), false⟩,
    ⟨none, (some 29), .ex 29 (.s 23) 0, false⟩,
    ⟨none, (some 30), .ex 30 (.s 23) 1, false⟩,
    ⟨none, (some 9), .mv 9 (.s 29), false⟩,
    ⟨none, (some 10), .mv 10 (.s 30), true⟩]))
  (.seq (.keep [1, 5, 6, 7, 8, 9]) (.ops [⟨none, (some 31), .mv 31 (.s 7), false⟩,
    ⟨none, (some 32), .mv 32 (.s 7), false⟩,
    ⟨none, (some 33), .nc 33 (.s 32), false⟩,
    ⟨none, (some 34), .fa 34 0 (.s 33), false⟩,
    ⟨none, (some 35), .ld 35 false 1 (.s 34), false⟩,
    ⟨none, (some 36), .mv 36 (.s 9), false⟩,
    ⟨none, (some 37), .bs 37 9 1 [(.s 36)], false⟩,
    ⟨none, (some 38), .ap 38 9 1 16 (.s 35) (.s 37), false⟩,
    ⟨none, (some 39), .nc 39 (.s 31), false⟩,
    ⟨none, (some 40), .fa 40 0 (.s 39), true⟩,
    ⟨none, none, .st false 1 (.s 40) (.s 38), false⟩]))))
  (.seq (.keep [1, 5, 6, 7, 8]) (.ops [⟨none, (some 21), .mv 21 (.s 8), false⟩,
    ⟨none, (some 22), .binc 22 .add (.s 21) (.k (Value.int .i64 1)), false⟩,
    ⟨none, (some 8), .mv 8 (.s 22), false⟩])))))))
def S16_4 : SCode :=
  (.ops [⟨none, (some 11), .mv 11 (.k (Value.bool false)), false⟩])
def S16_5 : SCode :=
  (.block 2 (.loop [5, 6, 7, 11] (.seq (.seq (.ops [⟨none, (some 41), .mv 41 (.s 6), false⟩,
    ⟨none, (some 42), .call (some 42) 40 false [(.s 41)], false⟩])
  (.cond (.s 42) .skip (.exit 2)))
  (.block 3 (.seq (.seq (.seq (.keep [5, 6, 7, 11]) (.dr [([], true, ⟨none, (some 43), .mv 43 (.s 6), false⟩),
    ([], true, ⟨none, (some 44), .nc 44 (.s 43), false⟩),
    ([], true, ⟨none, (some 45), .fa 45 0 (.s 44), false⟩),
    ([], true, ⟨none, (some 47), .mv 47 (.s 6), false⟩),
    ([], true, ⟨none, (some 48), .nc 48 (.s 47), false⟩),
    ([], true, ⟨none, (some 49), .fa 49 1 (.s 48), false⟩),
    ([], true, ⟨none, (some 46), .ld 46 false 1 (.s 45), false⟩),
    ([], true, ⟨none, (some 50), .ld 50 false 1 (.s 49), false⟩),
    ([], true, ⟨none, (some 51), .ia 51 1 (.s 46) (.s 50), false⟩),
    ([], true, ⟨none, (some 52), .ld 52 false 1 (.s 51), true⟩),
    ([], true, ⟨none, (some 53), .bin 53 .eql (.s 52) (.k (Value.string ⟨#[92, 32, 78, 111, 32, 110, 101, 119, 108, 105, 110, 101, 32, 97, 116, 32, 101, 110, 100, 32, 111, 102, 32, 102, 105, 108, 101, 10]⟩)), false⟩)]))
  (.cond (.s 53) (.seq (.seq (.keep [5, 6, 7]) (.ops [⟨none, (some 54), .mv 54 (.s 6), false⟩,
    ⟨none, (some 55), .nc 55 (.s 54), false⟩,
    ⟨none, (some 56), .fa 56 1 (.s 55), false⟩,
    ⟨none, (some 57), .ld 57 false 1 (.s 56), false⟩,
    ⟨none, (some 58), .binc 58 .add (.s 57) (.k (Value.int .i64 1)), false⟩,
    ⟨none, (some 59), .nc 59 (.s 54), false⟩,
    ⟨none, (some 60), .fa 60 1 (.s 59), false⟩,
    ⟨none, none, .st false 1 (.s 60) (.s 58), false⟩]))
  (.seq (.ops [⟨none, (some 11), .mv 11 (.k (Value.bool true)), false⟩])
  (.seq (.seq (.ops [⟨none, (some 61), .mv 61 (.s 6), false⟩,
    ⟨none, (some 62), .call (some 62) 40 false [(.s 61)], false⟩])
  (.cond (.s 62) (.seq (.seq (.keep [5, 6, 7, 11]) (.ops [⟨none, (some 63), .mv 63 (.s 6), false⟩,
    ⟨none, (some 64), .nc 64 (.s 63), false⟩,
    ⟨none, (some 65), .fa 65 1 (.s 64), false⟩,
    ⟨none, (some 66), .ld 66 false 1 (.s 65), false⟩,
    ⟨none, (some 67), .binc 67 .add (.s 66) (.k (Value.int .i64 1)), false⟩,
    ⟨none, (some 68), .nc 68 (.s 63), false⟩,
    ⟨none, (some 69), .fa 69 1 (.s 68), false⟩,
    ⟨none, none, .st false 1 (.s 69) (.s 67), false⟩]))
  (.ops [⟨none, (some 70), .mv 70 (.s 6), false⟩,
    ⟨none, (some 71), .call (some 71) 43 false [(.s 70), (.k (Value.int .i64 7))], false⟩])) .skip))
  (.exit 2)))) .skip))
  (.seq (.keep [5, 6, 7, 11]) (.ops [⟨none, (some 72), .mv 72 (.s 7), false⟩,
    ⟨none, (some 73), .mv 73 (.s 6), false⟩,
    ⟨none, (some 74), .call (some 74) 50 false [(.s 72), (.s 73)], false⟩])))))))
def S16_6 : SCode :=
  (.seq (.seq (.keep [5, 6, 7, 11]) (.ops [⟨none, (some 75), .mv 75 (.s 6), false⟩,
    ⟨none, (some 76), .nc 76 (.s 75), false⟩,
    ⟨none, (some 77), .fa 77 2 (.s 76), false⟩,
    ⟨none, (some 78), .fa 78 1 (.s 77), false⟩,
    ⟨none, (some 79), .ld 79 false 1 (.s 78), false⟩,
    ⟨none, (some 80), .bin 80 .neq (.s 79) (.k (Value.int .i64 0)), false⟩]))
  (.cond (.s 80) (.seq (.seq (.keep [5, 6]) (.dr [([], true, ⟨none, (some 81), .mv 81 (.s 6), false⟩),
    ([], true, ⟨none, (some 82), .nc 82 (.s 81), false⟩),
    ([], true, ⟨none, (some 83), .fa 83 2 (.s 82), false⟩),
    ([], true, ⟨none, (some 4), .mv 4 (.k (Value.slice none 0 0)), false⟩),
    ([], true, ⟨none, (some 84), .ld 84 true 2 (.s 83), false⟩),
    ([0, 1, 2, 3, 4, 5, 6, 7, 8, 9, 10, 11, 12, 13, 14, 15], false, ⟨none, none, .st true 2 (.s 5) (.s 84), false⟩)]))
  .ret) .skip))
def S16_7 : SCode :=
  (.seq (.ops [⟨none, (some 12), .mv 12 (.k (Value.int .i64 0)), false⟩])
  (.block 4 (.loop [5, 7, 11, 12] (.seq (.seq (.seq (.keep [5, 7, 11, 12]) (.ops [⟨none, (some 85), .mv 85 (.s 12), false⟩,
    ⟨none, (some 86), .mv 86 (.s 7), false⟩,
    ⟨none, (some 87), .nc 87 (.s 86), false⟩,
    ⟨none, (some 88), .fa 88 0 (.s 87), false⟩,
    ⟨none, (some 89), .ld 89 false 1 (.s 88), false⟩,
    ⟨none, (some 90), .len 90 (.s 89), false⟩,
    ⟨none, (some 91), .bin 91 .lss (.s 85) (.s 90), false⟩]))
  (.cond (.s 91) .skip (.exit 4)))
  (.seq (.block 5 (.seq (.seq (.keep [5, 7, 11, 12]) (.ops [⟨none, (some 94), .mv 94 (.s 11), false⟩,
    ⟨none, (some 95), .not 95 (.s 94), false⟩,
    ⟨none, (some 96), .mv 96 (.s 95), false⟩,
    ⟨(some (96, false)), (some 97), .mv 97 (.s 12), false⟩,
    ⟨(some (96, false)), (some 98), .mv 98 (.s 7), false⟩,
    ⟨(some (96, false)), (some 99), .nc 99 (.s 98), false⟩,
    ⟨(some (96, false)), (some 100), .fa 100 0 (.s 99), false⟩,
    ⟨(some (96, false)), (some 101), .ld 101 false 1 (.s 100), false⟩,
    ⟨(some (96, false)), (some 102), .len 102 (.s 101), false⟩,
    ⟨(some (96, false)), (some 103), .binc 103 .sub (.s 102) (.k (Value.int .i64 1)), true⟩,
    ⟨(some (96, false)), (some 104), .bin 104 .lss (.s 97) (.s 103), false⟩,
    ⟨none, (some 105), .pk 105 (.s 96) (.k (Value.bool true)) (.s 104), false⟩]))
  (.cond (.s 105) (.seq (.keep [5, 7, 11, 12]) (.dr [([], true, ⟨none, (some 106), .mv 106 (.s 7), false⟩),
    ([], true, ⟨none, (some 107), .nc 107 (.s 106), false⟩),
    ([], true, ⟨none, (some 108), .fa 108 0 (.s 107), false⟩),
    ([], true, ⟨none, (some 110), .mv 110 (.s 12), false⟩),
    ([], true, ⟨none, (some 111), .mv 111 (.s 7), false⟩),
    ([], true, ⟨none, (some 112), .nc 112 (.s 111), false⟩),
    ([], true, ⟨none, (some 113), .fa 113 0 (.s 112), false⟩),
    ([], true, ⟨none, (some 115), .mv 115 (.s 12), true⟩),
    ([], true, ⟨none, (some 109), .ld 109 false 1 (.s 108), false⟩),
    ([], true, ⟨none, (some 114), .ld 114 false 1 (.s 113), false⟩),
    ([], true, ⟨none, (some 116), .ia 116 1 (.s 114) (.s 115), false⟩),
    ([], true, ⟨none, (some 117), .ld 117 false 1 (.s 116), false⟩),
    ([], true, ⟨none, (some 118), .bin 118 .add (.s 117) (.k (Value.string ⟨#[10]⟩)), false⟩),
    ([], true, ⟨none, (some 119), .ia 119 1 (.s 109) (.s 110), false⟩),
    ([0, 1, 2, 3, 4, 5, 6, 7, 8, 9, 10, 11, 12, 13, 14, 15], false, ⟨none, none, .st false 1 (.s 119) (.s 118), false⟩)])) .skip)))
  (.seq (.keep [5, 7, 11, 12]) (.ops [⟨none, (some 92), .mv 92 (.s 12), false⟩,
    ⟨none, (some 93), .binc 93 .add (.s 92) (.k (Value.int .i64 1)), false⟩,
    ⟨none, (some 12), .mv 12 (.s 93), false⟩])))))))
def S16_8 : SCode :=
  (.seq (.keep [5, 7]) (.ops [⟨none, (some 120), .mv 120 (.s 7), false⟩,
    ⟨none, (some 121), .nc 121 (.s 120), false⟩,
    ⟨none, (some 122), .fa 122 0 (.s 121), false⟩,
    ⟨none, (some 123), .ld 123 false 1 (.s 122), false⟩,
    ⟨none, (some 124), .bd 124 [(Value.int .i64 0), (Value.int .i64 0)] [], false⟩,
    ⟨none, (some 4), .mv 4 (.s 123), false⟩,
    ⟨none, none, .st true 2 (.s 5) (.s 124), false⟩]))
def S16r9 : SCode := .ret
def S16r8 : SCode := .seq S16_8 S16r9
def S16r7 : SCode := .seq S16_7 S16r8
def S16r6 : SCode := .seq S16_6 S16r7
def S16r5 : SCode := .seq S16_5 S16r6
def S16r4 : SCode := .seq S16_4 S16r5
def S16r3 : SCode := .seq S16_3 S16r4
def S16r2 : SCode := .seq S16_2 S16r3
def S16r1 : SCode := .seq S16_1 S16r2
def S16 : SCode := .seq S16_0 S16r1
theorem cc16 : (Tryz.f16.body).bind (cc Tryz.prog Tryz.f16.ntmps A16) = some S16 := by kernel_rfl
def R16 : List RR := [.sl 4, .ce 5 true 2]
theorem cr16 : Tryz.f16.results.toList.map (crr Tryz.prog) = R16.map some := by kernel_rfl
theorem nm16 : (Tryz.f16.name == "runtime.NumGoroutine") = false := by kernel_rfl
theorem fn16 : Tryz.prog.funcs[16]? = some Tryz.f16 := by kernel_rfl
theorem bd16 : ∃ b, Tryz.f16.body = some b ∧ cc Tryz.prog Tryz.f16.ntmps A16 b = some S16 := Option.bind_eq_some_iff.1 cc16
theorem sd16 {G : World → Prop} {T : FuncId → Contract} {C : Contract} (hT : ∀ f, Sound G Tryz.prog f (T f)) (hl : C.lawful) (hC : ∀ args st K, C.wp args st K → args.length ≤ 125 ∧ ∃ os op, xv T st.n S16 (st0 args st) (retK R16 st.n os K) (panK st.n op K)) (hit : SoundIt G Tryz.prog 16 C.it := by exact SoundIt.none) : Sound G Tryz.prog 16 C := by
  obtain ⟨b, hb, hc⟩ := bd16
  rw [xv_eq] at hC
  exact sound_of_ev mo fn16 hb nm16 hc cr16 hT hl hit hC
def A50 : Ann := ⟨fun r i => if r = 3 ∧ i = 19 then 1 else if r = 27 ∧ i = 18 then 1 else 0, fun r => if r = 27 then some [(0, true, [997, 999]), (2, true, []), (3, true, []), (4, true, []), (6, true, []), (7, true, []), (10, true, [997]), (11, true, [997]), (12, true, [997]), (14, true, [997]), (15, true, [997]), (16, true, [997]), (17, true, [997]), (5, true, []), (8, true, []), (13, true, [997]), (18, true, [997]), (1, false, []), (9, false, [997]), (19, false, [999]), (20, true, []), (21, true, []), (22, false, [999])] else if r = 8 then some [(0, true, []), (1, true, []), (2, true, []), (4, true, []), (5, true, []), (6, true, []), (8, true, []), (9, true, []), (10, true, []), (12, true, []), (13, true, []), (14, true, []), (3, true, []), (7, true, []), (11, true, []), (15, true, []), (16, true, []), (17, true, []), (18, true, []), (19, true, []), (20, false, [0, 1, 2, 3, 4, 5, 6, 7, 8, 9, 10, 11, 12, 13, 14, 15])] else if r = 3 then some [(0, true, []), (1, true, []), (2, true, []), (3, true, []), (4, true, []), (5, true, []), (6, true, []), (7, true, []), (8, true, []), (9, true, []), (10, true, []), (11, true, []), (13, true, []), (14, true, []), (15, true, []), (12, true, []), (16, true, []), (17, true, []), (18, true, []), (19, true, []), (20, true, []), (21, true, []), (22, true, [])] else none, fun r => if r = 1 then some (false, [0, 1, 4]) else if r = 2 then some (false, [0, 1, 4]) else if r = 3 then some (false, [0, 1, 4]) else if r = 6 then some (false, [0, 1]) else if r = 7 then some (false, [0, 5]) else if r = 8 then some (false, [0]) else if r = 9 then some (false, [0, 1, 4]) else if r = 11 then some (false, [0, 1, 4]) else if r = 12 then some (false, [0, 1, 4, 6]) else if r = 13 then some (false, [0, 1, 4, 6]) else if r = 15 then some (false, [0, 1, 4, 6]) else if r = 16 then some (false, [0, 1, 6, 10, 11]) else if r = 18 then some (false, [0, 1, 6, 7, 8, 11]) else if r = 19 then some (false, [0, 1, 6, 7, 8, 9]) else if r = 21 then some (false, [0, 1, 6, 7, 8]) else if r = 25 then some (false, [0, 1, 7, 8]) else if r = 26 then some (false, [0, 1, 7, 8, 12]) else if r = 27 then some (false, [0, 7, 8, 12]) else if r = 28 then some (false, [0, 7, 12]) else none, fun _ => []⟩
def S50_0 : SCode :=
  (.ops [⟨none, (some 13), .mv 13 (.s 1), false⟩,
    ⟨none, (some 14), .call (some 14) 42 false [(.s 13)], false⟩,
    ⟨none, (some 4), .mv 4 (.s 14), false⟩])
def S50_1 : SCode :=
  (.seq (.seq (.keep [0, 1, 4]) (.ops [⟨none, (some 15), .mv 15 (.s 1), false⟩,
    ⟨none, (some 16), .nc 16 (.s 15), false⟩,
    ⟨none, (some 17), .fa 17 2 (.s 16), false⟩,
    ⟨none, (some 18), .fa 18 1 (.s 17), false⟩,
    ⟨none, (some 19), .ld 19 false 1 (.s 18), false⟩,
    ⟨none, (some 20), .bin 20 .neq (.s 19) (.k (Value.int .i64 0)), false⟩]))
  (.cond (.s 20) .ret .skip))
def S50_2 : SCode :=
  (.seq (.seq (.keep [0, 1, 4]) (.ops [⟨none, (some 21), .mv 21 (.s 4), false⟩,
    ⟨none, (some 22), .bin 22 .eql (.s 21) (.k (Value.string ⟨#[97]⟩)), false⟩,
    ⟨none, (some 23), .mv 23 (.s 22), false⟩,
    ⟨(some (23, false)), (some 24), .mv 24 (.s 4), false⟩,
    ⟨(some (23, false)), (some 25), .bin 25 .eql (.s 24) (.k (Value.string ⟨#[115, 47, 46, 47, 47]⟩)), false⟩,
    ⟨none, (some 26), .pk 26 (.s 23) (.k (Value.bool true)) (.s 25), false⟩]))
  (.cond (.s 26) (.seq (.seq (.seq (.keep [0, 1, 4]) (.dr [([], true, ⟨none, (some 27), .mv 27 (.s 0), false⟩),
    ([], true, ⟨none, (some 28), .nc 28 (.s 27), false⟩),
    ([], true, ⟨none, (some 29), .fa 29 1 (.s 28), false⟩),
    ([], true, ⟨none, (some 30), .ld 30 false 1 (.s 29), false⟩),
    ([], true, ⟨none, (some 31), .bin 31 .lss (.s 30) (.k (Value.int .i64 0)), false⟩),
    ([], true, ⟨none, (some 32), .mv 32 (.s 31), false⟩),
    ([], true, ⟨(some (32, false)), (some 33), .mv 33 (.s 4), false⟩),
    ([], true, ⟨(some (32, false)), (some 34), .bin 34 .neq (.s 33) (.k (Value.string ⟨#[97]⟩)), false⟩),
    ([], true, ⟨(some (32, false)), (some 35), .mv 35 (.s 34), false⟩),
    ([], true, ⟨(some (35, true)), (some 36), .mv 36 (.s 0), true⟩),
    ([], true, ⟨(some (35, true)), (some 37), .nc 37 (.s 36), false⟩),
    ([], true, ⟨(some (35, true)), (some 38), .fa 38 0 (.s 37), false⟩),
    ([], true, ⟨(some (35, true)), (some 40), .mv 40 (.s 0), false⟩),
    ([], true, ⟨(some (35, true)), (some 41), .nc 41 (.s 40), false⟩),
    ([], true, ⟨(some (35, true)), (some 42), .fa 42 1 (.s 41), false⟩),
    ([], true, ⟨(some (35, true)), (some 39), .ld 39 false 1 (.s 38), false⟩),
    ([], true, ⟨(some (35, true)), (some 43), .ld 43 false 1 (.s 42), false⟩),
    ([], true, ⟨(some (35, true)), (some 44), .ia 44 1 (.s 39) (.s 43), false⟩),
    ([], true, ⟨(some (35, true)), (some 45), .ld 45 false 1 (.s 44), false⟩),
    ([], true, ⟨(some (35, true)), (some 46), .lens 46 (.s 45), true⟩),
    ([], true, ⟨(some (35, true)), (some 47), .bin 47 .eql (.s 46) (.k (Value.int .i64 0)), false⟩),
    ([], true, ⟨(some (32, false)), (some 48), .pk 48 (.s 35) (.s 47) (.k (Value.bool false)), false⟩),
    ([], true, ⟨none, (some 49), .pk 49 (.s 32) (.k (Value.bool true)) (.s 48), false⟩)]))
  (.cond (.s 49) (.seq (.ops [⟨none, (some 50), .mv 50 (.s 1), false⟩,
    ⟨none, (some 51), .call (some 51) 43 false [(.s 50), (.k (Value.int .i64 130))], false⟩])
  .ret) .skip))
  (.seq (.seq (.ops [⟨none, (some 52), .mv 52 (.s 4), false⟩,
    ⟨none, (some 53), .bin 53 .eql (.s 52) (.k (Value.string ⟨#[97]⟩)), false⟩])
  (.cond (.s 53) (.seq (.seq (.keep [0, 1]) (.ops [⟨none, (some 54), .mv 54 (.s 1), false⟩,
    ⟨none, (some 55), .call (some 55) 99 false [(.s 54)], false⟩,
    ⟨none, (some 5), .mv 5 (.s 55), false⟩]))
  (.seq (.keep [0, 5]) (.ops [⟨none, (some 56), .mv 56 (.s 0), false⟩,
    ⟨none, (some 57), .mv 57 (.s 0), false⟩,
    ⟨none, (some 58), .nc 58 (.s 57), false⟩,
    ⟨none, (some 59), .fa 59 1 (.s 58), false⟩,
    ⟨none, (some 60), .ld 60 false 1 (.s 59), false⟩,
    ⟨none, (some 61), .binc 61 .add (.s 60) (.k (Value.int .i64 1)), false⟩,
    ⟨none, (some 62), .mv 62 (.s 5), false⟩,
    ⟨none, (some 63), .call (some 63) 100 false [(.s 56), (.s 61), (.s 62)], false⟩]))) (.seq (.keep [0]) (.dr [([], true, ⟨none, (some 64), .mv 64 (.s 0), false⟩),
    ([], true, ⟨none, (some 65), .nc 65 (.s 64), false⟩),
    ([], true, ⟨none, (some 66), .fa 66 0 (.s 65), false⟩),
    ([], true, ⟨none, (some 68), .mv 68 (.s 0), false⟩),
    ([], true, ⟨none, (some 69), .nc 69 (.s 68), false⟩),
    ([], true, ⟨none, (some 70), .fa 70 1 (.s 69), false⟩),
    ([], true, ⟨none, (some 72), .mv 72 (.s 0), false⟩),
    ([], true, ⟨none, (some 73), .nc 73 (.s 72), true⟩),
    ([], true, ⟨none, (some 74), .fa 74 0 (.s 73), false⟩),
    ([], true, ⟨none, (some 76), .mv 76 (.s 0), false⟩),
    ([], true, ⟨none, (some 77), .nc 77 (.s 76), false⟩),
    ([], true, ⟨none, (some 78), .fa 78 1 (.s 77), false⟩),
    ([], true, ⟨none, (some 67), .ld 67 false 1 (.s 66), false⟩),
    ([], true, ⟨none, (some 71), .ld 71 false 1 (.s 70), false⟩),
    ([], true, ⟨none, (some 75), .ld 75 false 1 (.s 74), false⟩),
    ([], true, ⟨none, (some 79), .ld 79 false 1 (.s 78), false⟩),
    ([], true, ⟨none, (some 80), .ia 80 1 (.s 75) (.s 79), false⟩),
    ([], true, ⟨none, (some 81), .ld 81 false 1 (.s 80), false⟩),
    ([], true, ⟨none, (some 82), .sls 82 (.s 81) (some (.k (Value.int .i64 1))) none, false⟩),
    ([], true, ⟨none, (some 83), .ia 83 1 (.s 67) (.s 71), true⟩),
    ([0, 1, 2, 3, 4, 5, 6, 7, 8, 9, 10, 11, 12, 13, 14, 15], false, ⟨none, none, .st false 1 (.s 83) (.s 82), false⟩)]))))
  .ret)) .skip))
def S50_3 : SCode :=
  (.seq (.seq (.keep [0, 1, 4]) (.ops [⟨none, (some 84), .mv 84 (.s 4), false⟩,
    ⟨none, (some 85), .lens 85 (.s 84), false⟩,
    ⟨none, (some 86), .bin 86 .eql (.s 85) (.k (Value.int .i64 0)), false⟩]))
  (.cond (.s 86) (.seq (.ops [⟨none, (some 87), .mv 87 (.s 1), false⟩,
    ⟨none, (some 88), .call (some 88) 43 false [(.s 87), (.k (Value.int .i64 3))], false⟩])
  .ret) .skip))
def S50_4 : SCode :=
  (.seq (.keep [0, 1, 4]) (.ops [⟨none, (some 89), .mv 89 (.s 4), false⟩,
    ⟨none, (some 90), .mv 90 (.s 4), false⟩,
    ⟨none, (some 91), .lens 91 (.s 90), false⟩,
    ⟨none, (some 92), .binc 92 .sub (.s 91) (.k (Value.int .i64 1)), false⟩,
    ⟨none, (some 93), .ixs 93 (.s 89) (.s 92), false⟩,
    ⟨none, (some 6), .mv 6 (.s 93), false⟩]))
def S50_5 : SCode :=
  (.seq (.keep [0, 1, 4, 6]) (.ops [⟨none, (some 94), .mv 94 (.s 4), false⟩,
    ⟨none, (some 95), .mv 95 (.s 4), false⟩,
    ⟨none, (some 96), .lens 96 (.s 95), false⟩,
    ⟨none, (some 97), .binc 97 .sub (.s 96) (.k (Value.int .i64 1)), false⟩,
    ⟨none, (some 98), .sls 98 (.s 94) none (some (.s 97)), false⟩,
    ⟨none, (some 4), .mv 4 (.s 98), false⟩]))
def S50_6 : SCode :=
  (.seq (.keep [0, 1, 4, 6]) (.ops [⟨none, (some 100), .mv 100 (.s 4), false⟩,
    ⟨none, (some 101), .call (some 101) 101 false [(.s 100)], false⟩,
    ⟨none, (some 99), .mv 99 (.s 101), false⟩,
    ⟨none, (some 102), .ex 102 (.s 99) 0, false⟩,
    ⟨none, (some 103), .ex 103 (.s 99) 1, false⟩,
    ⟨none, (some 104), .ex 104 (.s 99) 2, false⟩,
    ⟨none, (some 7), .mv 7 (.s 102), false⟩,
    ⟨none, (some 8), .mv 8 (.s 103), false⟩,
    ⟨none, (some 9), .mv 9 (.s 104), false⟩]))
def S50_7 : SCode :=
  (.seq (.ops [⟨none, (some 105), .mv 105 (.s 6), false⟩,
    ⟨none, (some 106), .bin 106 .eql (.s 105) (.k (Value.int .u8 97)), false⟩])
  (.cond (.s 106) (.seq (.seq (.keep [0, 1, 4, 6]) (.ops [⟨none, (some 108), .mv 108 (.s 4), false⟩,
    ⟨none, (some 109), .call (some 109) 90 false [(.s 108)], false⟩,
    ⟨none, (some 107), .mv 107 (.s 109), false⟩,
    ⟨none, (some 110), .ex 110 (.s 107) 0, false⟩,
    ⟨none, (some 111), .ex 111 (.s 107) 1, false⟩,
    ⟨none, (some 10), .mv 10 (.s 110), false⟩,
    ⟨none, (some 11), .mv 11 (.s 111), false⟩]))
  (.seq (.seq (.keep [0, 1, 6, 10, 11]) (.ops [⟨none, (some 112), .mv 112 (.s 10), false⟩,
    ⟨none, (some 113), .binc 113 .add (.s 112) (.k (Value.int .i64 1)), false⟩,
    ⟨none, (some 7), .mv 7 (.s 113), false⟩]))
  (.seq (.ops [⟨none, (some 8), .mv 8 (.k (Value.int .i64 0)), false⟩])
  (.seq (.keep [0, 1, 6, 7, 8, 11]) (.ops [⟨none, (some 114), .mv 114 (.s 11), false⟩,
    ⟨none, (some 115), .bin 115 .eql (.s 114) (.k (Value.int .i64 0)), false⟩,
    ⟨none, (some 9), .mv 9 (.s 115), false⟩]))))) .skip))
def S50_8 : SCode :=
  (.seq (.seq (.keep [0, 1, 6, 7, 8, 9]) (.ops [⟨none, (some 116), .mv 116 (.s 9), false⟩,
    ⟨none, (some 117), .not 117 (.s 116), false⟩,
    ⟨none, (some 118), .mv 118 (.s 117), false⟩,
    ⟨(some (118, false)), (some 119), .mv 119 (.s 6), false⟩,
    ⟨(some (118, false)), (some 120), .bin 120 .neq (.s 119) (.k (Value.int .u8 97)), false⟩,
    ⟨(some (118, false)), (some 121), .mv 121 (.s 120), false⟩,
    ⟨(some (121, true)), (some 122), .mv 122 (.s 6), false⟩,
    ⟨(some (121, true)), (some 123), .bin 123 .neq (.s 122) (.k (Value.int .u8 99)), false⟩,
    ⟨(some (118, false)), (some 124), .pk 124 (.s 121) (.s 123) (.k (Value.bool false)), false⟩,
    ⟨(some (118, false)), (some 125), .mv 125 (.s 124), true⟩,
    ⟨(some (125, true)), (some 126), .mv 126 (.s 6), false⟩,
    ⟨(some (125, true)), (some 127), .bin 127 .neq (.s 126) (.k (Value.int .u8 100)), false⟩,
    ⟨(some (118, false)), (some 128), .pk 128 (.s 125) (.s 127) (.k (Value.bool false)), false⟩,
    ⟨none, (some 129), .pk 129 (.s 118) (.k (Value.bool true)) (.s 128), false⟩]))
  (.cond (.s 129) (.seq (.ops [⟨none, (some 130), .mv 130 (.s 1), false⟩,
    ⟨none, (some 131), .call (some 131) 43 false [(.s 130), (.k (Value.int .i64 3))], false⟩])
  .ret) .skip))
def S50_9 : SCode :=
  (.seq (.seq (.keep [0, 1, 6, 7, 8]) (.ops [⟨none, (some 132), .mv 132 (.s 7), false⟩,
    ⟨none, (some 133), .mv 133 (.s 8), false⟩,
    ⟨none, (some 134), .binc 134 .add (.s 132) (.s 133), false⟩,
    ⟨none, (some 135), .binc 135 .sub (.s 134) (.k (Value.int .i64 1)), false⟩,
    ⟨none, (some 136), .mv 136 (.s 0), false⟩,
    ⟨none, (some 137), .nc 137 (.s 136), false⟩,
    ⟨none, (some 138), .fa 138 0 (.s 137), false⟩,
    ⟨none, (some 139), .ld 139 false 1 (.s 138), false⟩,
    ⟨none, (some 140), .len 140 (.s 139), false⟩,
    ⟨none, (some 141), .bin 141 .gtr (.s 135) (.s 140), true⟩]))
  (.cond (.s 141) (.seq (.ops [⟨none, (some 142), .mv 142 (.s 1), false⟩,
    ⟨none, (some 143), .call (some 143) 43 false [(.s 142), (.k (Value.int .i64 2))], false⟩])
  .ret) .skip))
def S50_10 : SCode :=
  (.ops [⟨none, (some 12), .mv 12 (.k (Value.slice none 0 0)), false⟩])
def S50_11 : SCode :=
  (.seq (.ops [⟨none, (some 144), .mv 144 (.s 6), false⟩,
    ⟨none, (some 145), .bin 145 .neq (.s 144) (.k (Value.int .u8 100)), false⟩])
  (.cond (.s 145) (.seq (.keep [0, 1, 7, 8]) (.ops [⟨none, (some 146), .mv 146 (.s 1), false⟩,
    ⟨none, (some 147), .call (some 147) 99 false [(.s 146)], false⟩,
    ⟨none, (some 12), .mv 12 (.s 147), false⟩])) .skip))
def S50_12 : SCode :=
  (.seq (.keep [0, 1, 7, 8, 12]) (.ops [⟨none, (some 148), .mv 148 (.s 1), false⟩,
    ⟨none, (some 149), .nc 149 (.s 148), false⟩,
    ⟨none, (some 150), .fa 150 2 (.s 149), false⟩,
    ⟨none, (some 151), .fa 151 1 (.s 150), false⟩,
    ⟨none, (some 152), .ld 152 false 1 (.s 151), false⟩,
    ⟨none, (some 153), .bin 153 .eql (.s 152) (.k (Value.int .i64 0)), false⟩]))
def S50r13 : SCode := (.cond (.s 153) (.seq (.seq (.keep [0, 7, 8, 12]) (.dr [([997, 999], true, ⟨none, (some 154), .mv 154 (.s 0), false⟩),
    ([], true, ⟨none, (some 156), .mv 156 (.s 0), false⟩),
    ([], true, ⟨none, (some 157), .nc 157 (.s 156), false⟩),
    ([], true, ⟨none, (some 158), .fa 158 0 (.s 157), false⟩),
    ([], true, ⟨none, (some 160), .mv 160 (.s 7), false⟩),
    ([], true, ⟨none, (some 161), .binc 161 .sub (.s 160) (.k (Value.int .i64 1)), false⟩),
    ([997], true, ⟨none, (some 164), .mv 164 (.s 0), false⟩),
    ([997], true, ⟨none, (some 165), .nc 165 (.s 164), false⟩),
    ([997], true, ⟨none, (some 166), .fa 166 0 (.s 165), false⟩),
    ([997], true, ⟨none, (some 168), .mv 168 (.s 7), false⟩),
    ([997], true, ⟨none, (some 169), .binc 169 .sub (.s 168) (.k (Value.int .i64 1)), false⟩),
    ([997], true, ⟨none, (some 170), .mv 170 (.s 8), false⟩),
    ([997], true, ⟨none, (some 171), .binc 171 .add (.s 169) (.s 170), false⟩),
    ([], true, ⟨none, (some 159), .ld 159 false 1 (.s 158), false⟩),
    ([], true, ⟨none, (some 162), .slr 162 1 (.s 159) none (some (.s 161)), false⟩),
    ([997], true, ⟨none, (some 167), .ld 167 false 1 (.s 166), false⟩),
    ([997], true, ⟨none, (some 172), .slp 172 1 (.s 167) (some (.s 171)) none, false⟩),
    ([], false, ⟨none, (some 155), .bs 155 9 1 [], false⟩),
    ([997], false, ⟨none, (some 163), .ap 163 9 1 16 (.s 155) (.s 162), true⟩),
    ([999], false, ⟨none, (some 173), .ap 173 9 1 16 (.s 163) (.s 172), true⟩),
    ([], true, ⟨none, (some 174), .nc 174 (.s 154), false⟩),
    ([], true, ⟨none, (some 175), .fa 175 0 (.s 174), false⟩),
    ([999], false, ⟨none, none, .st false 1 (.s 175) (.s 173), false⟩)]))
  (.seq (.keep [0, 7, 12]) (.ops [⟨none, (some 176), .mv 176 (.s 0), false⟩,
    ⟨none, (some 177), .mv 177 (.s 7), false⟩,
    ⟨none, (some 178), .binc 178 .sub (.s 177) (.k (Value.int .i64 1)), false⟩,
    ⟨none, (some 179), .mv 179 (.s 12), false⟩,
    ⟨none, (some 180), .call (some 180) 100 false [(.s 176), (.s 178), (.s 179)], false⟩]))) .skip)
def S50r12 : SCode := .seq S50_12 S50r13
def S50r11 : SCode := .seq S50_11 S50r12
def S50r10 : SCode := .seq S50_10 S50r11
def S50r9 : SCode := .seq S50_9 S50r10
def S50r8 : SCode := .seq S50_8 S50r9
def S50r7 : SCode := .seq S50_7 S50r8
def S50r6 : SCode := .seq S50_6 S50r7
def S50r5 : SCode := .seq S50_5 S50r6
def S50r4 : SCode := .seq S50_4 S50r5
def S50r3 : SCode := .seq S50_3 S50r4
def S50r2 : SCode := .seq S50_2 S50r3
def S50r1 : SCode := .seq S50_1 S50r2
def S50 : SCode := .seq S50_0 S50r1
theorem cc50 : (Tryz.f50.body).bind (cc Tryz.prog Tryz.f50.ntmps A50) = some S50 := by kernel_rfl
def R50 : List RR := []
theorem cr50 : Tryz.f50.results.toList.map (crr Tryz.prog) = R50.map some := by kernel_rfl
theorem nm50 : (Tryz.f50.name == "runtime.NumGoroutine") = false := by kernel_rfl
theorem fn50 : Tryz.prog.funcs[50]? = some Tryz.f50 := by kernel_rfl
theorem bd50 : ∃ b, Tryz.f50.body = some b ∧ cc Tryz.prog Tryz.f50.ntmps A50 b = some S50 := Option.bind_eq_some_iff.1 cc50
theorem sd50 {G : World → Prop} {T : FuncId → Contract} {C : Contract} (hT : ∀ f, Sound G Tryz.prog f (T f)) (hl : C.lawful) (hC : ∀ args st K, C.wp args st K → args.length ≤ 181 ∧ ∃ os op, xv T st.n S50 (st0 args st) (retK R50 st.n os K) (panK st.n op K)) (hit : SoundIt G Tryz.prog 50 C.it := by exact SoundIt.none) : Sound G Tryz.prog 50 C := by
  obtain ⟨b, hb, hc⟩ := bd50
  rw [xv_eq] at hC
  exact sound_of_ev mo fn50 hb nm50 hc cr50 hT hl hit hC
def A100 : Ann := ⟨fun r i => if r = 1 ∧ i = 9 then 1 else 0, fun r => if r = 1 then some [(0, true, [2, 3, 4, 999]), (1, true, []), (2, true, []), (4, true, [2, 3, 4]), (5, true, [2, 3, 4]), (6, true, [2, 3, 4]), (8, true, [2, 3, 4]), (7, true, [2, 3, 4]), (9, true, [2, 3, 4]), (3, false, [2, 3, 4]), (10, false, [999]), (11, true, []), (12, true, []), (13, false, [999])] else none, fun r => if r = 1 then some (false, [0, 1, 2, 6]) else if r = 2 then some (false, [0, 1, 2]) else if r = 3 then some (false, [0, 1, 2]) else if r = 4 then some (false, [0, 1, 2]) else none, fun _ => []⟩
def S100 : SCode :=
  (.seq (.ops [⟨none, (some 7), .bs 7 9 1 [], false⟩,
    ⟨none, (some 8), .mv 8 (.s 0), false⟩,
    ⟨none, (some 9), .nc 9 (.s 8), false⟩,
    ⟨none, (some 10), .fa 10 0 (.s 9), false⟩,
    ⟨none, (some 11), .ld 11 false 1 (.s 10), false⟩,
    ⟨none, (some 12), .mv 12 (.s 1), false⟩,
    ⟨none, (some 13), .slr 13 1 (.s 11) none (some (.s 12)), false⟩,
    ⟨none, (some 14), .ap 14 9 1 16 (.s 7) (.s 13), false⟩,
    ⟨none, (some 6), .mv 6 (.s 14), false⟩])
  (.seq (.seq (.keep [0, 1, 2, 6]) (.dr [([2, 3, 4, 999], true, ⟨none, (some 15), .mv 15 (.s 0), false⟩),
    ([], true, ⟨none, (some 16), .mv 16 (.s 6), false⟩),
    ([], true, ⟨none, (some 17), .mv 17 (.s 2), false⟩),
    ([2, 3, 4], true, ⟨none, (some 19), .mv 19 (.s 0), false⟩),
    ([2, 3, 4], true, ⟨none, (some 20), .nc 20 (.s 19), false⟩),
    ([2, 3, 4], true, ⟨none, (some 21), .fa 21 0 (.s 20), false⟩),
    ([2, 3, 4], true, ⟨none, (some 23), .mv 23 (.s 1), false⟩),
    ([2, 3, 4], true, ⟨none, (some 22), .ld 22 false 1 (.s 21), false⟩),
    ([2, 3, 4], true, ⟨none, (some 24), .slp 24 1 (.s 22) (some (.s 23)) none, true⟩),
    ([2, 3, 4], false, ⟨none, (some 18), .ap 18 9 1 16 (.s 16) (.s 17), false⟩),
    ([999], false, ⟨none, (some 25), .ap 25 9 1 16 (.s 18) (.s 24), false⟩),
    ([], true, ⟨none, (some 26), .nc 26 (.s 15), false⟩),
    ([], true, ⟨none, (some 27), .fa 27 0 (.s 26), false⟩),
    ([999], false, ⟨none, none, .st false 1 (.s 27) (.s 25), false⟩)]))
  (.seq (.seq (.keep [0, 1, 2]) (.ops [⟨none, (some 28), .mv 28 (.s 0), false⟩,
    ⟨none, (some 29), .nc 29 (.s 28), false⟩,
    ⟨none, (some 30), .fa 30 1 (.s 29), false⟩,
    ⟨none, none, .st false 1 (.s 30) (.k (Value.int .i64 (-1))), false⟩]))
  (.seq (.seq (.keep [0, 1, 2]) (.ops [⟨none, (some 31), .mv 31 (.s 2), false⟩,
    ⟨none, (some 32), .len 32 (.s 31), false⟩,
    ⟨none, (some 33), .bin 33 .gtr (.s 32) (.k (Value.int .i64 0)), false⟩]))
  (.cond (.s 33) (.seq (.keep [0, 1, 2]) (.ops [⟨none, (some 34), .mv 34 (.s 0), false⟩,
    ⟨none, (some 35), .mv 35 (.s 1), false⟩,
    ⟨none, (some 36), .mv 36 (.s 2), false⟩,
    ⟨none, (some 37), .len 37 (.s 36), false⟩,
    ⟨none, (some 38), .binc 38 .add (.s 35) (.s 37), false⟩,
    ⟨none, (some 39), .binc 39 .sub (.s 38) (.k (Value.int .i64 1)), false⟩,
    ⟨none, (some 40), .nc 40 (.s 34), false⟩,
    ⟨none, (some 41), .fa 41 1 (.s 40), false⟩,
    ⟨none, none, .st false 1 (.s 41) (.s 39), false⟩])) .skip)))))
theorem cc100 : (Tryz.f100.body).bind (cc Tryz.prog Tryz.f100.ntmps A100) = some S100 := by kernel_rfl
def R100 : List RR := []
theorem cr100 : Tryz.f100.results.toList.map (crr Tryz.prog) = R100.map some := by kernel_rfl
theorem nm100 : (Tryz.f100.name == "runtime.NumGoroutine") = false := by kernel_rfl
theorem fn100 : Tryz.prog.funcs[100]? = some Tryz.f100 := by kernel_rfl
theorem bd100 : ∃ b, Tryz.f100.body = some b ∧ cc Tryz.prog Tryz.f100.ntmps A100 b = some S100 := Option.bind_eq_some_iff.1 cc100
theorem sd100 {G : World → Prop} {T : FuncId → Contract} {C : Contract} (hT : ∀ f, Sound G Tryz.prog f (T f)) (hl : C.lawful) (hC : ∀ args st K, C.wp args st K → args.length ≤ 42 ∧ ∃ os op, xv T st.n S100 (st0 args st) (retK R100 st.n os K) (panK st.n op K)) (hit : SoundIt G Tryz.prog 100 C.it := by exact SoundIt.none) : Sound G Tryz.prog 100 C := by
  obtain ⟨b, hb, hc⟩ := bd100
  rw [xv_eq] at hC
  exact sound_of_ev mo fn100 hb nm100 hc cr100 hT hl hit hC
def A99 : Ann := ⟨fun r i => if r = 1 ∧ i = 0 then 11 else 0, fun _ => none, fun r => if r = 2 then some (false, [0, 3]) else if r = 3 then some (false, [0, 3]) else if r = 6 then some (false, [0, 3, 4]) else none, fun r => if r = 2 then [0, 3] else []⟩
def S99 : SCode :=
  (.seq (.ops [⟨none, (some 2), .mv 2 (.k (Value.slice none 0 0)), false⟩])
  (.seq (.ops [⟨none, (some 3), .nr 3 9 1, false⟩])
  (.seq (.block 0 (.loop [0, 3] (.seq (.seq (.seq (.keep [0, 3]) (.ops [⟨none, (some 5), .mv 5 (.s 0), false⟩,
    ⟨none, (some 6), .nc 6 (.s 5), false⟩,
    ⟨none, (some 7), .fa 7 2 (.s 6), false⟩,
    ⟨none, (some 8), .fa 8 1 (.s 7), false⟩,
    ⟨none, (some 9), .ld 9 false 1 (.s 8), false⟩,
    ⟨none, (some 10), .bin 10 .eql (.s 9) (.k (Value.int .i64 0)), false⟩]))
  (.cond (.s 10) .skip (.exit 0)))
  (.block 1 (.seq (.seq (.keep [0, 3]) (.ops [⟨none, (some 11), .mv 11 (.s 0), false⟩,
    ⟨none, (some 12), .call (some 12) 42 false [(.s 11)], false⟩,
    ⟨none, (some 4), .mv 4 (.s 12), false⟩]))
  (.seq (.seq (.ops [⟨none, (some 13), .mv 13 (.s 4), false⟩,
    ⟨none, (some 14), .bin 14 .eql (.s 13) (.k (Value.string ⟨#[46]⟩)), false⟩])
  (.cond (.s 14) (.seq (.ops [⟨none, (some 15), .mv 15 (.s 3), false⟩,
    ⟨none, (some 2), .mv 2 (.s 15), false⟩])
  .ret) .skip))
  (.seq (.keep [0, 3, 4]) (.ops [⟨none, (some 16), .mv 16 (.s 3), false⟩,
    ⟨none, (some 17), .mv 17 (.s 4), false⟩,
    ⟨none, (some 18), .bs 18 9 1 [(.s 17)], false⟩,
    ⟨none, (some 19), .ap 19 9 1 16 (.s 16) (.s 18), false⟩,
    ⟨none, (some 3), .mv 3 (.s 19), false⟩]))))))))
  (.seq (.ops [⟨none, (some 2), .mv 2 (.k (Value.slice none 0 0)), false⟩])
  .ret))))
theorem cc99 : (Tryz.f99.body).bind (cc Tryz.prog Tryz.f99.ntmps A99) = some S99 := by kernel_rfl
def R99 : List RR := [.sl 2]
theorem cr99 : Tryz.f99.results.toList.map (crr Tryz.prog) = R99.map some := by kernel_rfl
theorem nm99 : (Tryz.f99.name == "runtime.NumGoroutine") = false := by kernel_rfl
theorem fn99 : Tryz.prog.funcs[99]? = some Tryz.f99 := by kernel_rfl
theorem bd99 : ∃ b, Tryz.f99.body = some b ∧ cc Tryz.prog Tryz.f99.ntmps A99 b = some S99 := Option.bind_eq_some_iff.1 cc99
theorem sd99 {G : World → Prop} {T : FuncId → Contract} {C : Contract} (hT : ∀ f, Sound G Tryz.prog f (T f)) (hl : C.lawful) (hC : ∀ args st K, C.wp args st K → args.length ≤ 20 ∧ ∃ os op, xv T st.n S99 (st0 args st) (retK R99 st.n os K) (panK st.n op K)) (hit : SoundIt G Tryz.prog 99 C.it := by exact SoundIt.none) : Sound G Tryz.prog 99 C := by
  obtain ⟨b, hb, hc⟩ := bd99
  rw [xv_eq] at hC
  exact sound_of_ev mo fn99 hb nm99 hc cr99 hT hl hit hC
def A5 : Ann := ⟨fun r i => if r = 5 ∧ i = 0 then 11 else if r = 5 ∧ i = 1 then 11 else if r = 10 ∧ i = 5 then 1 else if r = 17 ∧ i = 8 then 1 else if r = 17 ∧ i = 17 then 1 else 0, fun _ => none, fun r => if r = 3 then some (false, [0, 1]) else if r = 7 then some (false, [0, 1, 5, 6, 7]) else if r = 8 then some (false, [0, 1, 5, 6, 7]) else if r = 9 then some (false, [0, 1, 5, 6, 7]) else if r = 10 then some (false, [0, 1, 5, 6, 7, 8]) else if r = 12 then some (false, [0, 1, 5, 6, 7, 8]) else if r = 13 then some (false, [0, 1, 5, 6, 7, 8]) else if r = 14 then some (false, [0, 5, 6]) else if r = 15 then some (false, [0, 5, 6, 10, 11]) else if r = 16 then some (false, [5, 6, 10, 11, 12, 13]) else if r = 17 then some (false, [6, 10, 11, 12, 13, 14, 15]) else none, fun r => if r = 7 then [0, 1, 5, 6, 7] else []⟩
def S5_0 : SCode :=
  (.ops [⟨none, (some 4), .mv 4 (.k (Value.bool false)), false⟩])
def S5_1 : SCode :=
  (.seq (.ops [⟨none, (some 16), .call (some 16) 17 false [], false⟩,
    ⟨none, (some 17), .not 17 (.s 16), false⟩])
  (.cond (.s 17) (.seq (.ops [⟨none, (some 4), .mv 4 (.k (Value.bool false)), false⟩])
  .ret) .skip))
def S5_2 : SCode :=
  (.seq (.seq (.keep [0, 1]) (.ops [⟨none, (some 18), .mv 18 (.s 0), false⟩,
    ⟨none, (some 19), .lens 19 (.s 18), false⟩,
    ⟨none, (some 20), .bin 20 .gtr (.s 19) (.k (Value.int .i64 100000)), false⟩]))
  (.cond (.s 20) (.seq (.ops [⟨none, (some 4), .mv 4 (.k (Value.bool true)), false⟩])
  .ret) .skip))
def S5_3 : SCode :=
  (.ops [⟨none, (some 5), .nr 5 9 1, false⟩,
    ⟨none, (some 6), .nr 6 9 1, false⟩])
def S5_4 : SCode :=
  (.seq (.ops [⟨none, (some 7), .mv 7 (.k (Value.int .i64 0)), false⟩])
  (.block 0 (.loop [0, 1, 5, 6, 7] (.seq (.seq (.seq (.keep [0, 1, 5, 6, 7]) (.ops [⟨none, (some 21), .mv 21 (.s 7), false⟩,
    ⟨none, (some 22), .mv 22 (.s 1), false⟩,
    ⟨none, (some 23), .len 23 (.s 22), false⟩,
    ⟨none, (some 24), .bin 24 .lss (.s 21) (.s 23), false⟩]))
  (.cond (.s 24) .skip (.exit 0)))
  (.seq (.block 1 (.seq (.seq (.keep [0, 1, 5, 6, 7]) (.ops [⟨none, (some 28), .mv 28 (.s 1), false⟩,
    ⟨none, (some 29), .mv 29 (.s 7), false⟩,
    ⟨none, (some 30), .ia 30 1 (.s 28) (.s 29), false⟩,
    ⟨none, (some 31), .ld 31 false 1 (.s 30), false⟩,
    ⟨none, (some 32), .call (some 32) 18 false [(.s 31)], false⟩,
    ⟨none, (some 27), .mv 27 (.s 32), false⟩,
    ⟨none, (some 33), .ex 33 (.s 27) 0, false⟩,
    ⟨none, (some 34), .ex 34 (.s 27) 1, false⟩,
    ⟨none, (some 8), .mv 8 (.s 33), false⟩,
    ⟨none, (some 9), .mv 9 (.s 34), true⟩]))
  (.seq (.seq (.seq (.keep [0, 1, 5, 6, 7, 8]) (.ops [⟨none, (some 35), .mv 35 (.s 8), false⟩,
    ⟨none, (some 36), .bin 36 .neq (.s 35) (.k (Value.string ⟨#[]⟩)), false⟩,
    ⟨none, (some 37), .mv 37 (.s 36), false⟩,
    ⟨(some (37, true)), (some 38), .mv 38 (.s 8), false⟩,
    ⟨(some (37, true)), (some 39), .mv 39 (.s 8), false⟩,
    ⟨(some (37, true)), (some 40), .lens 40 (.s 39), false⟩,
    ⟨(some (37, true)), (some 41), .binc 41 .sub (.s 40) (.k (Value.int .i64 1)), false⟩,
    ⟨(some (37, true)), (some 42), .ixs 42 (.s 38) (.s 41), false⟩,
    ⟨(some (37, true)), (some 43), .bin 43 .eql (.s 42) (.k (Value.int .u8 10)), false⟩,
    ⟨none, (some 44), .pk 44 (.s 37) (.s 43) (.k (Value.bool false)), true⟩]))
  (.cond (.s 44) (.seq (.ops [⟨none, (some 4), .mv 4 (.k (Value.bool true)), false⟩])
  .ret) .skip))
  (.seq (.seq (.keep [0, 1, 5, 6, 7, 8]) (.ops [⟨none, (some 45), .mv 45 (.s 5), false⟩,
    ⟨none, (some 46), .mv 46 (.s 8), false⟩,
    ⟨none, (some 47), .bs 47 9 1 [(.s 46)], false⟩,
    ⟨none, (some 48), .ap 48 9 1 16 (.s 45) (.s 47), false⟩,
    ⟨none, (some 5), .mv 5 (.s 48), false⟩]))
  (.seq (.keep [0, 1, 5, 6, 7, 8]) (.ops [⟨none, (some 49), .mv 49 (.s 6), false⟩,
    ⟨none, (some 50), .mv 50 (.s 8), false⟩,
    ⟨none, (some 51), .bin 51 .add (.s 50) (.k (Value.string ⟨#[10]⟩)), false⟩,
    ⟨none, (some 52), .bs 52 9 1 [(.s 51)], false⟩,
    ⟨none, (some 53), .ap 53 9 1 16 (.s 49) (.s 52), false⟩,
    ⟨none, (some 6), .mv 6 (.s 53), false⟩]))))))
  (.seq (.keep [0, 1, 5, 6, 7]) (.ops [⟨none, (some 25), .mv 25 (.s 7), false⟩,
    ⟨none, (some 26), .binc 26 .add (.s 25) (.k (Value.int .i64 1)), false⟩,
    ⟨none, (some 7), .mv 7 (.s 26), false⟩])))))))
def S5_5 : SCode :=
  (.seq (.keep [0, 5, 6]) (.ops [⟨none, (some 55), .mv 55 (.s 0), false⟩,
    ⟨none, (some 56), .bs 56 9 1 [], false⟩,
    ⟨none, (some 57), .mv 57 (.s 5), false⟩,
    ⟨none, (some 58), .ap 58 9 1 16 (.s 56) (.s 57), false⟩,
    ⟨none, (some 59), .call (some 59) 15 false [(.s 55), (.s 58)], false⟩,
    ⟨none, (some 54), .mv 54 (.s 59), false⟩,
    ⟨none, (some 60), .ex 60 (.s 54) 0, false⟩,
    ⟨none, (some 61), .ex 61 (.s 54) 1, false⟩,
    ⟨none, (some 10), .mv 10 (.s 60), false⟩,
    ⟨none, (some 11), .mv 11 (.s 61), true⟩]))
def S5_6 : SCode :=
  (.seq (.keep [0, 5, 6, 10, 11]) (.ops [⟨none, (some 63), .mv 63 (.s 0), false⟩,
    ⟨none, (some 64), .bs 64 9 1 [], false⟩,
    ⟨none, (some 65), .mv 65 (.s 6), false⟩,
    ⟨none, (some 66), .ap 66 9 1 16 (.s 64) (.s 65), false⟩,
    ⟨none, (some 67), .call (some 67) 15 false [(.s 63), (.s 66)], false⟩,
    ⟨none, (some 62), .mv 62 (.s 67), false⟩,
    ⟨none, (some 68), .ex 68 (.s 62) 0, false⟩,
    ⟨none, (some 69), .ex 69 (.s 62) 1, false⟩,
    ⟨none, (some 12), .mv 12 (.s 68), false⟩,
    ⟨none, (some 13), .mv 13 (.s 69), true⟩]))
def S5_7 : SCode :=
  (.seq (.keep [5, 6, 10, 11, 12, 13]) (.ops [⟨none, (some 71), .bs 71 9 1 [], false⟩,
    ⟨none, (some 72), .mv 72 (.s 5), false⟩,
    ⟨none, (some 73), .ap 73 9 1 16 (.s 71) (.s 72), false⟩,
    ⟨none, (some 74), .call (some 74) 15 false [(.k (Value.string ⟨#[]⟩)), (.s 73)], false⟩,
    ⟨none, (some 70), .mv 70 (.s 74), false⟩,
    ⟨none, (some 75), .ex 75 (.s 70) 0, false⟩,
    ⟨none, (some 76), .ex 76 (.s 70) 1, false⟩,
    ⟨none, (some 14), .mv 14 (.s 75), false⟩,
    ⟨none, (some 15), .mv 15 (.s 76), false⟩]))
def S5_8 : SCode :=
  (.seq (.keep [6, 10, 11, 12, 13, 14, 15]) (.ops [⟨none, (some 77), .mv 77 (.s 11), false⟩,
    ⟨none, (some 78), .call (some 78) 13 false [(.s 77)], false⟩,
    ⟨none, (some 79), .mv 79 (.s 13), false⟩,
    ⟨none, (some 80), .call (some 80) 13 false [(.s 79)], false⟩,
    ⟨none, (some 81), .eqa 81 false [0, 0] (.s 78) (.s 80), false⟩,
    ⟨none, (some 82), .mv 82 (.s 81), false⟩,
    ⟨(some (82, true)), (some 83), .mv 83 (.s 10), false⟩,
    ⟨(some (82, true)), (some 84), .mv 84 (.s 12), false⟩,
    ⟨(some (82, true)), (some 85), .call (some 85) 14 true [(.s 83), (.s 84)], false⟩,
    ⟨none, (some 86), .pk 86 (.s 82) (.s 85) (.k (Value.bool false)), true⟩,
    ⟨none, (some 87), .mv 87 (.s 86), false⟩,
    ⟨(some (87, true)), (some 88), .mv 88 (.s 15), false⟩,
    ⟨(some (87, true)), (some 89), .isnil 89 false true (.s 88), false⟩,
    ⟨none, (some 90), .pk 90 (.s 87) (.s 89) (.k (Value.bool false)), false⟩,
    ⟨none, (some 91), .mv 91 (.s 90), false⟩,
    ⟨(some (91, true)), (some 92), .mv 92 (.s 14), false⟩,
    ⟨(some (91, true)), (some 93), .mv 93 (.s 6), false⟩,
    ⟨(some (91, true)), (some 94), .call (some 94) 14 true [(.s 92), (.s 93)], false⟩,
    ⟨none, (some 95), .pk 95 (.s 91) (.s 94) (.k (Value.bool false)), false⟩,
    ⟨none, (some 4), .mv 4 (.s 95), true⟩]))
def S5r9 : SCode := .ret
def S5r8 : SCode := .seq S5_8 S5r9
def S5r7 : SCode := .seq S5_7 S5r8
def S5r6 : SCode := .seq S5_6 S5r7
def S5r5 : SCode := .seq S5_5 S5r6
def S5r4 : SCode := .seq S5_4 S5r5
def S5r3 : SCode := .seq S5_3 S5r4
def S5r2 : SCode := .seq S5_2 S5r3
def S5r1 : SCode := .seq S5_1 S5r2
def S5 : SCode := .seq S5_0 S5r1
theorem cc5 : (Tryz.f5.body).bind (cc Tryz.prog Tryz.f5.ntmps A5) = some S5 := by kernel_rfl
def R5 : List RR := [.sl 4]
theorem cr5 : Tryz.f5.results.toList.map (crr Tryz.prog) = R5.map some := by kernel_rfl
theorem nm5 : (Tryz.f5.name == "runtime.NumGoroutine") = false := by kernel_rfl
theorem fn5 : Tryz.prog.funcs[5]? = some Tryz.f5 := by kernel_rfl
theorem bd5 : ∃ b, Tryz.f5.body = some b ∧ cc Tryz.prog Tryz.f5.ntmps A5 b = some S5 := Option.bind_eq_some_iff.1 cc5
theorem sd5 {G : World → Prop} {T : FuncId → Contract} {C : Contract} (hT : ∀ f, Sound G Tryz.prog f (T f)) (hl : C.lawful) (hC : ∀ args st K, C.wp args st K → args.length ≤ 96 ∧ ∃ os op, xv T st.n S5 (st0 args st) (retK R5 st.n os K) (panK st.n op K)) (hit : SoundIt G Tryz.prog 5 C.it := by exact SoundIt.none) : Sound G Tryz.prog 5 C := by
  obtain ⟨b, hb, hc⟩ := bd5
  rw [xv_eq] at hC
  exact sound_of_ev mo fn5 hb nm5 hc cr5 hT hl hit hC
def A17 : Ann := ⟨fun r i => if r = 3 ∧ i = 13 then 1 else 0, fun _ => none, fun r => if r = 1 then some (false, []) else if r = 2 then some (false, [1, 2]) else if r = 3 then some (false, [1, 2, 3, 4]) else none, fun _ => []⟩
def S17 : SCode :=
  (.seq (.ops [⟨none, (some 0), .mv 0 (.k (Value.bool false)), false⟩])
  (.seq (.seq (.keep []) (.ops [⟨none, (some 6), .bd 6 [(Value.int .i64 0), (Value.int .i64 0), (Value.int .i64 0), (Value.int .i64 0)] [(0, 1, (.k (Value.int .i64 1))), (1, 1, (.k (Value.int .i64 2))), (2, 1, (.k (Value.int .i64 1))), (3, 1, (.k (Value.int .i64 1)))], false⟩,
    ⟨none, (some 7), .bs 7 94 4 [(.s 6)], false⟩,
    ⟨none, (some 8), .bs 8 9 1 [(.k (Value.string ⟨#[49, 10]⟩)), (.k (Value.string ⟨#[50, 10]⟩)), (.k (Value.string ⟨#[51, 10]⟩))], false⟩,
    ⟨none, (some 9), .bs 9 9 1 [(.k (Value.string ⟨#[49, 10]⟩)), (.k (Value.string ⟨#[46, 10]⟩))], false⟩,
    ⟨none, (some 10), .call (some 10) 51 false [(.s 7), (.s 8), (.s 9)], false⟩,
    ⟨none, (some 5), .mv 5 (.s 10), false⟩,
    ⟨none, (some 11), .ex 11 (.s 5) 0, false⟩,
    ⟨none, (some 12), .ex 12 (.s 5) 1, false⟩,
    ⟨none, (some 1), .mv 1 (.s 11), false⟩,
    ⟨none, (some 2), .mv 2 (.s 12), true⟩]))
  (.seq (.seq (.keep [1, 2]) (.ops [⟨none, (some 14), .bs 14 9 1 [(.k (Value.string ⟨#[49, 10]⟩)), (.k (Value.string ⟨#[50, 10]⟩)), (.k (Value.string ⟨#[51, 10]⟩))], false⟩,
    ⟨none, (some 15), .call (some 15) 15 false [(.k (Value.string ⟨#[50, 44, 51, 99, 10, 46, 46, 10, 46, 10, 115, 47, 46, 47, 47, 10]⟩)), (.s 14)], false⟩,
    ⟨none, (some 13), .mv 13 (.s 15), false⟩,
    ⟨none, (some 16), .ex 16 (.s 13) 0, false⟩,
    ⟨none, (some 17), .ex 17 (.s 13) 1, false⟩,
    ⟨none, (some 3), .mv 3 (.s 16), false⟩,
    ⟨none, (some 4), .mv 4 (.s 17), false⟩]))
  (.seq (.seq (.keep [1, 2, 3, 4]) (.ops [⟨none, (some 18), .mv 18 (.s 2), false⟩,
    ⟨none, (some 19), .bin 19 .eql (.s 18) (.k (Value.int .i64 0)), false⟩,
    ⟨none, (some 20), .mv 20 (.s 19), false⟩,
    ⟨(some (20, true)), (some 21), .mv 21 (.s 1), false⟩,
    ⟨(some (20, true)), (some 22), .bin 22 .eql (.s 21) (.k (Value.string ⟨#[50, 44, 51, 99, 10, 46, 46, 10, 46, 10, 115, 47, 46, 47, 47, 10]⟩)), false⟩,
    ⟨none, (some 23), .pk 23 (.s 20) (.s 22) (.k (Value.bool false)), false⟩,
    ⟨none, (some 24), .mv 24 (.s 23), false⟩,
    ⟨(some (24, true)), (some 25), .mv 25 (.s 4), false⟩,
    ⟨(some (24, true)), (some 26), .isnil 26 false true (.s 25), false⟩,
    ⟨none, (some 27), .pk 27 (.s 24) (.s 26) (.k (Value.bool false)), true⟩,
    ⟨none, (some 28), .mv 28 (.s 27), false⟩,
    ⟨(some (28, true)), (some 29), .mv 29 (.s 3), false⟩,
    ⟨(some (28, true)), (some 30), .bs 30 9 1 [(.k (Value.string ⟨#[49, 10]⟩)), (.k (Value.string ⟨#[46, 10]⟩))], false⟩,
    ⟨(some (28, true)), (some 31), .call (some 31) 14 true [(.s 29), (.s 30)], false⟩,
    ⟨none, (some 32), .pk 32 (.s 28) (.s 31) (.k (Value.bool false)), false⟩,
    ⟨none, (some 0), .mv 0 (.s 32), false⟩]))
  .ret))))
theorem cc17 : (Tryz.f17.body).bind (cc Tryz.prog Tryz.f17.ntmps A17) = some S17 := by kernel_rfl
def R17 : List RR := [.sl 0]
theorem cr17 : Tryz.f17.results.toList.map (crr Tryz.prog) = R17.map some := by kernel_rfl
theorem nm17 : (Tryz.f17.name == "runtime.NumGoroutine") = false := by kernel_rfl
theorem fn17 : Tryz.prog.funcs[17]? = some Tryz.f17 := by kernel_rfl
theorem bd17 : ∃ b, Tryz.f17.body = some b ∧ cc Tryz.prog Tryz.f17.ntmps A17 b = some S17 := Option.bind_eq_some_iff.1 cc17
theorem sd17 {G : World → Prop} {T : FuncId → Contract} {C : Contract} (hT : ∀ f, Sound G Tryz.prog f (T f)) (hl : C.lawful) (hC : ∀ args st K, C.wp args st K → args.length ≤ 33 ∧ ∃ os op, xv T st.n S17 (st0 args st) (retK R17 st.n os K) (panK st.n op K)) (hit : SoundIt G Tryz.prog 17 C.it := by exact SoundIt.none) : Sound G Tryz.prog 17 C := by
  obtain ⟨b, hb, hc⟩ := bd17
  rw [xv_eq] at hC
  exact sound_of_ev mo fn17 hb nm17 hc cr17 hT hl hit hC
end Go.Proofs.YtlghobefhmpfkaaGreatDoor
set_option linter.unusedVariables false
set_option linter.unusedSimpArgs false
namespace Go.Proofs.YtlghobefhmpfkaaGreatDoor
open Go Go.Ev Go.Rcs
set_option maxRecDepth 100000
variable {G : World → Prop}
def bodR (t : TypeId) (rows : List (List D)) (fa : Int) : Except Fl (List (List UInt8) × Nat) → SV × Store
  | .ok (l, b) => (.own 1, ⟨2, [(0, .cells t [.d (.sl rows), .d (.v (.int .i64 (b : Nat))), .d (.v (.int .i64 fa)), .d (.v (.int .i64 0))]), (1, .row 9 1 (strRows l))]⟩)
  | .error (a, e) => (.d (.sl []), ⟨1, [(0, .cells t [.d (.sl rows), .d (.v (.int .i64 a)), .d (.v (.int .i64 a)), .d (.v (.int .i64 e))])]⟩)
def CBodyR : Contract := stC fun args st => match args, st with
  | [.ptr 0 0], ⟨1, [(0, .cells t [.d (.sl rows), .d (.v (.int .i64 at_)), .d (.v (.int .i64 fa)), .d (.v (.int .i64 fe))])]⟩ =>
    (unStr rows).map fun L => ((fe = 0 ∧ (0 ≤ at_ ∧ at_ ≤ L.length) ∧ smL L), bodR t rows fa (bodyL L (L.length - at_.toNat) at_.toNat []))
  | _, _ => none
theorem bodyL_err {L : List (List UInt8)} : ∀ {n k : Nat} {acc : List (List UInt8)} {a e : Int}, bodyL L n k acc = .error (a, e) → ¬ e = 0
  | 0, k, acc, a, e, h => by
    simp only [bodyL, Except.error.injEq, Prod.mk.injEq] at h
    obtain ⟨_, rfl⟩ := h; decide
  | n + 1, k, acc, a, e, h => by
    rw [bodyL] at h
    cases hx : nextL L k with
    | error y =>
      obtain ⟨ya, ye⟩ := y
      rw [hx] at h
      simp only [Except.error.injEq, Prod.mk.injEq] at h
      obtain ⟨rfl, rfl⟩ := h
      exact (nx_next_err 0 hx).2.2
    | ok y =>
      obtain ⟨s, b⟩ := y
      rw [hx] at h; dsimp only at h
      split at h
      · cases h
      · exact bodyL_err h
set_option maxHeartbeats 4000000 in
theorem s99 : Sound G Tryz.prog 99 CBodyR := by
  refine sd99 (T := tabT [(42, CNext)]) (tab_cons s42 tab_nil) (stC_lawful _) (st_hX fun args st p x st' K h hp hk => ?_)
  split at h <;> simp only [Option.map_eq_some_iff, Prod.mk.injEq, reduceCtorEq] at h
  obtain ⟨L, hl, rfl, h2⟩ := h
  rename_i t rows at_ fa fe
  rw [unStr_eq hl] at *
  obtain ⟨rfl, ⟨t0, t1⟩, hLl, hL⟩ := hp
  obtain ⟨at0, rfl⟩ := Int.eq_ofNat_of_zero_le t0
  rw [Int.toNat_natCast] at h2
  generalize hY : bodyL L (L.length - at0) at0 [] = Y at h2
  refine ⟨Nat.le_of_ble_eq_true rfl, ?_⟩
  have key : ∀ os, (∀ y, Y = .ok y → os = [0, 1]) → (∀ y, Y = .error y → os = [0]) → xv (tabT [(42, CNext)]) 1 S99 (st0 [.ptr 0 0] ⟨1, [(0, .cells t [.d (.sl (strRows L)), .d (.v (.int .i64 (at0 : Nat))), .d (.v (.int .i64 fa)), .d (.v (.int .i64 0))])]⟩) (retK R99 1 os K) (panK 1 [] K) := by
    intro os ho1 ho2
    simp -dsimp -implicitDefEqProofs only [S99, R99, ↓Ev.xStp_eq, ↓Ev.P, Ev.Q, Bool.cond_true, Bool.cond_false, eq_self, forall_eq_or_imp, implies_true, forall_const, forall_eq, ↓reduceIte, reduceIte, Nat.reduceEqDiff, Nat.reduceAdd, reduceCtorEq, Nat.reduceSub, Int.reduceToNat, Int.reduceLE, Int.reduceLT, Int.reduceNeg, Nat.reduceBEq, Nat.reduceMul, Nat.reduceLeDiff, Nat.reduceMod, UInt8.reduceOfNat, Nat.reduceLT, Int.reduceEq, Int.reduceAdd, Int.reduceSub, Int.reduceMul]
    refine xLoop_intro (fun m st => (∃ (k : Nat) (acc : List (List UInt8)), k ≤ L.length ∧ m = L.length - k + 1 ∧ acc.length ≤ k ∧ bodyL L (L.length - k) k acc = Y ∧ (∀ x ∈ acc, x.length ≤ 1099511627776) ∧
        st = ⟨[(0, .ptr 0 0), (3, .own 1)], 2, [(0, .cells t [.d (.sl (strRows L)), .d (.v (.int .i64 (k : Nat))), .d (.v (.int .i64 fa)), .d (.v (.int .i64 0))]), (1, .row 9 1 (strRows acc))]⟩) ∨
      (∃ (a e : Int) (rows : List (List D)), m = 0 ∧ ¬ e = 0 ∧ Y = .error (a, e) ∧ st = ⟨[(0, .ptr 0 0), (3, .own 1)], 2, [(0, .cells t [.d (.sl (strRows L)), .d (.v (.int .i64 a)), .d (.v (.int .i64 a)), .d (.v (.int .i64 e))]), (1, .row 9 1 rows)]⟩)) (L.length - at0 + 1) [0, 1] ?_ ?_ ?_
    · simp -dsimp -implicitDefEqProofs only [↓Ev.xStp_eq, ↓Ev.P, Ev.Q, Bool.cond_true, Bool.cond_false, eq_self, forall_eq_or_imp, implies_true, forall_const, forall_eq, ↓reduceIte, reduceIte, Nat.reduceEqDiff, Nat.reduceAdd, reduceCtorEq, Nat.reduceSub, Int.reduceToNat, Int.reduceLE, Int.reduceLT, Int.reduceNeg, Nat.reduceBEq, Nat.reduceMul, Nat.reduceLeDiff, Nat.reduceMod, UInt8.reduceOfNat, Nat.reduceLT, Int.reduceEq, Int.reduceAdd, Int.reduceSub, Int.reduceMul]
    · simp -dsimp -implicitDefEqProofs only [↓Ev.xStp_eq, ↓Ev.P, Ev.Q, Bool.cond_true, Bool.cond_false, eq_self, forall_eq_or_imp, implies_true, forall_const, forall_eq, ↓reduceIte, reduceIte, Nat.reduceEqDiff, Nat.reduceAdd, reduceCtorEq, Nat.reduceSub, Int.reduceToNat, Int.reduceLE, Int.reduceLT, Int.reduceNeg, Nat.reduceBEq, Nat.reduceMul, Nat.reduceLeDiff, Nat.reduceMod, UInt8.reduceOfNat, Nat.reduceLT, Int.reduceEq, Int.reduceAdd, Int.reduceSub, Int.reduceMul]
      exact .inl ⟨at0, [], by omega, rfl, by simp, hY, by simp, rfl⟩
    · rintro m st (⟨k, acc, hk1, rfl, hal, hgo, hacc, rfl⟩ | ⟨a, e, rows, rfl, he, rfl, rfl⟩)
      · have _t := trivial
        by_cases hlt : k < L.length
        · obtain ⟨j, hj⟩ : ∃ j, L.length - k = j + 1 := ⟨L.length - k - 1, by omega⟩
          rw [hj, bodyL] at hgo
          cases hx : nextL L k with
          | error x =>
            obtain ⟨xa, xe⟩ := x
            rw [hx] at hgo; dsimp only at hgo
            have hye := hgo.symm
            obtain ⟨hn, ha, he⟩ := nx_next_err fa hx
            (try subst ha)
            simp -dsimp -implicitDefEqProofs only [hn, CNext, rdr, unStr_rows, strRows_len, List.length_append, ↓Ev.P, Ev.Q, Bool.cond_true, Bool.cond_false, eq_self, forall_eq_or_imp, implies_true, forall_const, forall_eq, ↓reduceIte, reduceIte, Nat.reduceEqDiff, Nat.reduceAdd, reduceCtorEq, Nat.reduceSub, Int.reduceToNat, Int.reduceLE, Int.reduceLT, Int.reduceNeg, Nat.reduceBEq, Nat.reduceMul, Nat.reduceLeDiff, Nat.reduceMod, UInt8.reduceOfNat, Nat.reduceLT, Int.reduceEq, Int.reduceAdd, Int.reduceSub, Int.reduceMul]
            repeat' (first | with_reducible assumption | refine And.intro ?_ ?_ | intro _ | (rw [Ev.xStp_eq]; simp -dsimp -implicitDefEqProofs only [hn, CNext, rdr, unStr_rows, strRows_len, List.length_append, ↓Ev.P, Ev.Q, Bool.cond_true, Bool.cond_false, eq_self, forall_eq_or_imp, implies_true, forall_const, forall_eq, ↓reduceIte, reduceIte, Nat.reduceEqDiff, Nat.reduceAdd, reduceCtorEq, Nat.reduceSub, Int.reduceToNat, Int.reduceLE, Int.reduceLT, Int.reduceNeg, Nat.reduceBEq, Nat.reduceMul, Nat.reduceLeDiff, Nat.reduceMod, UInt8.reduceOfNat, Nat.reduceLT, Int.reduceEq, Int.reduceAdd, Int.reduceSub, Int.reduceMul]))
            all_goals try omega
            refine xAgain_intro 0 [0, 3] (by omega) (by simp -dsimp -implicitDefEqProofs only [↓Ev.xStp_eq, ↓Ev.P, Ev.Q, Bool.cond_true, Bool.cond_false, eq_self, forall_eq_or_imp, implies_true, forall_const, forall_eq, ↓reduceIte, reduceIte, Nat.reduceEqDiff, Nat.reduceAdd, reduceCtorEq, Nat.reduceSub, Int.reduceToNat, Int.reduceLE, Int.reduceLT, Int.reduceNeg, Nat.reduceBEq, Nat.reduceMul, Nat.reduceLeDiff, Nat.reduceMod, UInt8.reduceOfNat, Nat.reduceLT, Int.reduceEq, Int.reduceAdd, Int.reduceSub, Int.reduceMul]) (.inr ⟨(k : Int) + 1, _, (strRows acc ++ [[.v (.string ⟨([] : List UInt8).toArray⟩)]]), rfl, he, hye, ?_⟩)
            simp -dsimp -implicitDefEqProofs only [↓Ev.xStp_eq, ↓Ev.P, Ev.Q, Bool.cond_true, Bool.cond_false, eq_self, forall_eq_or_imp, implies_true, forall_const, forall_eq, ↓reduceIte, reduceIte, Nat.reduceEqDiff, Nat.reduceAdd, reduceCtorEq, Nat.reduceSub, Int.reduceToNat, Int.reduceLE, Int.reduceLT, Int.reduceNeg, Nat.reduceBEq, Nat.reduceMul, Nat.reduceLeDiff, Nat.reduceMod, UInt8.reduceOfNat, Nat.reduceLT, Int.reduceEq, Int.reduceAdd, Int.reduceSub, Int.reduceMul]
            all_goals rfl
          | ok x =>
            obtain ⟨s, a⟩ := x
            obtain ⟨rfl, _, hs⟩ := nextL_le hx
            have hsl : s.length ≤ 1099511627776 := by rw [hs]; exact Nat.le_trans (bare_len _) (hL _ (getD_in hlt))
            have hn := nx_next_ok fa hx
            have ec : ((k + 1 : Nat) : Int) = (k : Int) + 1 := by omega
            rw [hx] at hgo; dsimp only at hgo
            clear hs
            by_cases hd : s = [46]
            · rw [if_pos hd] at hgo; subst hgo
              rw [ho1 _ rfl]
              simp only [bodR, Prod.mk.injEq] at h2
              obtain ⟨rfl, rfl⟩ := h2
              rw [ec] at hk
              simp -dsimp -implicitDefEqProofs only [hn, hd, CNext, rdr, unStr_rows, strRows_len, List.length_append, ↓Ev.P, Ev.Q, Bool.cond_true, Bool.cond_false, eq_self, forall_eq_or_imp, implies_true, forall_const, forall_eq, ↓reduceIte, reduceIte, Nat.reduceEqDiff, Nat.reduceAdd, reduceCtorEq, Nat.reduceSub, Int.reduceToNat, Int.reduceLE, Int.reduceLT, Int.reduceNeg, Nat.reduceBEq, Nat.reduceMul, Nat.reduceLeDiff, Nat.reduceMod, UInt8.reduceOfNat, Nat.reduceLT, Int.reduceEq, Int.reduceAdd, Int.reduceSub, Int.reduceMul]
              repeat' (first | with_reducible assumption | refine And.intro ?_ ?_ | intro _ | (rw [Ev.xStp_eq]; simp -dsimp -implicitDefEqProofs only [hn, hd, CNext, rdr, unStr_rows, strRows_len, List.length_append, ↓Ev.P, Ev.Q, Bool.cond_true, Bool.cond_false, eq_self, forall_eq_or_imp, implies_true, forall_const, forall_eq, ↓reduceIte, reduceIte, Nat.reduceEqDiff, Nat.reduceAdd, reduceCtorEq, Nat.reduceSub, Int.reduceToNat, Int.reduceLE, Int.reduceLT, Int.reduceNeg, Nat.reduceBEq, Nat.reduceMul, Nat.reduceLeDiff, Nat.reduceMod, UInt8.reduceOfNat, Nat.reduceLT, Int.reduceEq, Int.reduceAdd, Int.reduceSub, Int.reduceMul]))
              all_goals try omega
              all_goals exact hk
            · rw [if_neg hd] at hgo
              simp -dsimp -implicitDefEqProofs only [hn, hd, CNext, rdr, unStr_rows, strRows_len, List.length_append, ↓Ev.P, Ev.Q, Bool.cond_true, Bool.cond_false, eq_self, forall_eq_or_imp, implies_true, forall_const, forall_eq, ↓reduceIte, reduceIte, Nat.reduceEqDiff, Nat.reduceAdd, reduceCtorEq, Nat.reduceSub, Int.reduceToNat, Int.reduceLE, Int.reduceLT, Int.reduceNeg, Nat.reduceBEq, Nat.reduceMul, Nat.reduceLeDiff, Nat.reduceMod, UInt8.reduceOfNat, Nat.reduceLT, Int.reduceEq, Int.reduceAdd, Int.reduceSub, Int.reduceMul]
              repeat' (first | with_reducible assumption | refine And.intro ?_ ?_ | intro _ | (rw [Ev.xStp_eq]; simp -dsimp -implicitDefEqProofs only [hn, hd, CNext, rdr, unStr_rows, strRows_len, List.length_append, ↓Ev.P, Ev.Q, Bool.cond_true, Bool.cond_false, eq_self, forall_eq_or_imp, implies_true, forall_const, forall_eq, ↓reduceIte, reduceIte, Nat.reduceEqDiff, Nat.reduceAdd, reduceCtorEq, Nat.reduceSub, Int.reduceToNat, Int.reduceLE, Int.reduceLT, Int.reduceNeg, Nat.reduceBEq, Nat.reduceMul, Nat.reduceLeDiff, Nat.reduceMod, UInt8.reduceOfNat, Nat.reduceLT, Int.reduceEq, Int.reduceAdd, Int.reduceSub, Int.reduceMul]))
              all_goals try omega
              refine xAgain_intro (j + 1) [0, 3] (by omega) (by simp -dsimp -implicitDefEqProofs only [↓Ev.xStp_eq, ↓Ev.P, Ev.Q, Bool.cond_true, Bool.cond_false, eq_self, forall_eq_or_imp, implies_true, forall_const, forall_eq, ↓reduceIte, reduceIte, Nat.reduceEqDiff, Nat.reduceAdd, reduceCtorEq, Nat.reduceSub, Int.reduceToNat, Int.reduceLE, Int.reduceLT, Int.reduceNeg, Nat.reduceBEq, Nat.reduceMul, Nat.reduceLeDiff, Nat.reduceMod, UInt8.reduceOfNat, Nat.reduceLT, Int.reduceEq, Int.reduceAdd, Int.reduceSub, Int.reduceMul]) (.inl ⟨k + 1, acc ++ [s], by omega, by omega, by rw [List.length_append, List.length_singleton]; omega, by rw [show L.length - (k + 1) = j by omega]; exact hgo, ?_, ?_⟩)
              · intro x hx2
                rcases List.mem_append.1 hx2 with h3 | h3
                · exact hacc x h3
                · rw [List.mem_singleton.1 h3]; exact hsl
              · rw [strRows_snoc]
                simp -dsimp -implicitDefEqProofs only [ec, ↓Ev.xStp_eq, ↓Ev.P, Ev.Q, Bool.cond_true, Bool.cond_false, eq_self, forall_eq_or_imp, implies_true, forall_const, forall_eq, ↓reduceIte, reduceIte, Nat.reduceEqDiff, Nat.reduceAdd, reduceCtorEq, Nat.reduceSub, Int.reduceToNat, Int.reduceLE, Int.reduceLT, Int.reduceNeg, Nat.reduceBEq, Nat.reduceMul, Nat.reduceLeDiff, Nat.reduceMod, UInt8.reduceOfNat, Nat.reduceLT, Int.reduceEq, Int.reduceAdd, Int.reduceSub, Int.reduceMul]
                all_goals rfl
        · have e0 : L.length - k = 0 := by omega
          rw [e0, bodyL] at hgo
          have hye := hgo.symm
          have hx := nextL_end hlt
          obtain ⟨hn, ha, he⟩ := nx_next_err fa hx
          (try subst ha)
          simp -dsimp -implicitDefEqProofs only [hn, CNext, rdr, unStr_rows, strRows_len, List.length_append, ↓Ev.P, Ev.Q, Bool.cond_true, Bool.cond_false, eq_self, forall_eq_or_imp, implies_true, forall_const, forall_eq, ↓reduceIte, reduceIte, Nat.reduceEqDiff, Nat.reduceAdd, reduceCtorEq, Nat.reduceSub, Int.reduceToNat, Int.reduceLE, Int.reduceLT, Int.reduceNeg, Nat.reduceBEq, Nat.reduceMul, Nat.reduceLeDiff, Nat.reduceMod, UInt8.reduceOfNat, Nat.reduceLT, Int.reduceEq, Int.reduceAdd, Int.reduceSub, Int.reduceMul]
          repeat' (first | with_reducible assumption | refine And.intro ?_ ?_ | intro _ | (rw [Ev.xStp_eq]; simp -dsimp -implicitDefEqProofs only [hn, CNext, rdr, unStr_rows, strRows_len, List.length_append, ↓Ev.P, Ev.Q, Bool.cond_true, Bool.cond_false, eq_self, forall_eq_or_imp, implies_true, forall_const, forall_eq, ↓reduceIte, reduceIte, Nat.reduceEqDiff, Nat.reduceAdd, reduceCtorEq, Nat.reduceSub, Int.reduceToNat, Int.reduceLE, Int.reduceLT, Int.reduceNeg, Nat.reduceBEq, Nat.reduceMul, Nat.reduceLeDiff, Nat.reduceMod, UInt8.reduceOfNat, Nat.reduceLT, Int.reduceEq, Int.reduceAdd, Int.reduceSub, Int.reduceMul]))
          all_goals try omega
          refine xAgain_intro 0 [0, 3] (by omega) (by simp -dsimp -implicitDefEqProofs only [↓Ev.xStp_eq, ↓Ev.P, Ev.Q, Bool.cond_true, Bool.cond_false, eq_self, forall_eq_or_imp, implies_true, forall_const, forall_eq, ↓reduceIte, reduceIte, Nat.reduceEqDiff, Nat.reduceAdd, reduceCtorEq, Nat.reduceSub, Int.reduceToNat, Int.reduceLE, Int.reduceLT, Int.reduceNeg, Nat.reduceBEq, Nat.reduceMul, Nat.reduceLeDiff, Nat.reduceMod, UInt8.reduceOfNat, Nat.reduceLT, Int.reduceEq, Int.reduceAdd, Int.reduceSub, Int.reduceMul]) (.inr ⟨(k : Int) + 1, _, (strRows acc ++ [[.v (.string ⟨([] : List UInt8).toArray⟩)]]), rfl, he, hye, ?_⟩)
          simp -dsimp -implicitDefEqProofs only [↓Ev.xStp_eq, ↓Ev.P, Ev.Q, Bool.cond_true, Bool.cond_false, eq_self, forall_eq_or_imp, implies_true, forall_const, forall_eq, ↓reduceIte, reduceIte, Nat.reduceEqDiff, Nat.reduceAdd, reduceCtorEq, Nat.reduceSub, Int.reduceToNat, Int.reduceLE, Int.reduceLT, Int.reduceNeg, Nat.reduceBEq, Nat.reduceMul, Nat.reduceLeDiff, Nat.reduceMod, UInt8.reduceOfNat, Nat.reduceLT, Int.reduceEq, Int.reduceAdd, Int.reduceSub, Int.reduceMul]
          all_goals rfl
      · rw [ho2 _ rfl]
        simp only [bodR, Prod.mk.injEq] at h2
        obtain ⟨rfl, rfl⟩ := h2
        simp -dsimp -implicitDefEqProofs only [he, ↓Ev.xStp_eq, ↓Ev.P, Ev.Q, Bool.cond_true, Bool.cond_false, eq_self, forall_eq_or_imp, implies_true, forall_const, forall_eq, ↓reduceIte, reduceIte, Nat.reduceEqDiff, Nat.reduceAdd, reduceCtorEq, Nat.reduceSub, Int.reduceToNat, Int.reduceLE, Int.reduceLT, Int.reduceNeg, Nat.reduceBEq, Nat.reduceMul, Nat.reduceLeDiff, Nat.reduceMod, UInt8.reduceOfNat, Nat.reduceLT, Int.reduceEq, Int.reduceAdd, Int.reduceSub, Int.reduceMul]
        exact hk
  cases Y with
  | ok y => exact ⟨[0, 1], key _ (fun _ _ => rfl) (fun y h => by cases h)⟩
  | error y => exact ⟨[0], key _ (fun y h => by cases h) (fun _ _ => rfl)⟩
end Go.Proofs.YtlghobefhmpfkaaGreatDoor
set_option linter.unusedVariables false
set_option linter.unusedSimpArgs false
namespace Go.Proofs.YtlghobefhmpfkaaGreatDoor
open Go Go.RowKit
set_option maxRecDepth 100000
def SlCells (w : World) (A : Option Addr) (xs : List Value) : Prop := 0 < xs.length → ∃ ad, A = some ad ∧ ∀ j v, xs[j]? = some v → w.cell? (ad.add j) = some v
theorem SlCells.keep {w W : World} {A : Option Addr} {xs : List Value} (h : SlCells w A xs) (hk : ∀ k, k < w.heap.size → W.heap[k]? = w.heap[k]?) : SlCells W A xs := fun h0 => by
  obtain ⟨ad, e, hc⟩ := h h0
  exact ⟨ad, e, fun j v hj => by rw [World.cell?_of_block (hk _ (Ev.cell_lt (hc j v hj)))]; exact hc j v hj⟩
theorem SlCells.take {w : World} {A : Option Addr} {xs : List Value} (h : SlCells w A xs) (k : Nat) : SlCells w A (xs.take k) := fun h0 => by
  obtain ⟨ad, e, hc⟩ := h (by rw [List.length_take] at h0; omega)
  refine ⟨ad, e, fun j v hj => hc j v ?_⟩
  rw [List.getElem?_take] at hj
  split at hj
  · exact hj
  · cases hj
theorem SlCells.drop {w : World} {A : Option Addr} {xs : List Value} (h : SlCells w A xs) (k : Nat) : SlCells w (A.map (·.add k)) (xs.drop k) := fun h0 => by
  obtain ⟨ad, e, hc⟩ := h (by rw [List.length_drop] at h0; omega)
  subst e
  refine ⟨_, rfl, fun j v hj => ?_⟩
  rw [Ev.add_add]
  exact hc _ v (by rw [List.getElem?_drop] at hj; exact hj)
theorem uStrs : Tryz.prog.underlying 22 = some (.slice 9) := by kernel_rfl
theorem zStr : (Tryz.prog.info? 9).map (·.size) = some 1 := by kernel_rfl
theorem iStr : ∃ i z, Tryz.prog.info? 9 = some i ∧ i.zero = some z ∧ i.size = 1 ∧ i.bytes = 16 := by
  have h : ((Tryz.prog.info? 9).bind fun i => i.zero.map fun z => (i.size, i.bytes)) = some (1, 16) := by kernel_rfl
  obtain ⟨i, h1, h2⟩ := Option.bind_eq_some_iff.1 h
  obtain ⟨z, h3, h4⟩ := Option.map_eq_some_iff.1 h2
  simp only [Prod.mk.injEq] at h4
  exact ⟨i, z, h1, h3, h4.1, h4.2⟩
theorem mk_strs (N : Nat) (V : Int) (hV : V = N) (hN : N ≤ 4398046511104) : ∃ Z : List Value, Z.length = N ∧ ∀ W : World, (Instr.makeSlice 22 (.int .i64 V) (.int .i64 V)).run Tryz.prog W = .ok (.slice (some ⟨W.heap.size, 0, none⟩) N N) (W.alloc (.cells Z.toArray 9)) := by
  obtain ⟨i, z, h1, h2, h3, h4⟩ := iStr
  subst hV
  refine ⟨(madeCells z.cells (N * i.size)).toList, by simp [size_madeCells, h3], fun W => ?_⟩
  have := run_make (P := Tryz.prog) W 22 9 i z uStrs h1 h2 .i64 .i64 (N : Int) (N : Int) (by omega) (Int.le_refl _) (by rw [h4]; omega) (by omega)
  simpa using this
structure OneRow (g : Nat) (w w' : World) : Prop where
  os : w'.os = w.os
  tape : w'.tape = w.tape
  output : w'.output = w.output
  size : w'.heap.size = w.heap.size
  other : ∀ k, k ≠ g → w'.heap[k]? = w.heap[k]?
theorem OneRow.refl (g : Nat) (w : World) : OneRow g w w := ⟨rfl, rfl, rfl, rfl, fun _ _ => rfl⟩
theorem OneRow.trans {g : Nat} {w w1 w2 : World} (h : OneRow g w w1) (k : OneRow g w1 w2) : OneRow g w w2 :=
  ⟨k.os.trans h.os, k.tape.trans h.tape, k.output.trans h.output, k.size.trans h.size, fun j hj => (k.other j hj).trans (h.other j hj)⟩
theorem OneRow.cell {g : Nat} {w w' : World} (h : OneRow g w w') {a : Addr} (ha : a.block ≠ g) : w'.cell? a = w.cell? a := by simp [World.cell?, h.other _ ha]
theorem OneRow.frozen {g : Nat} {w w' : World} (h : OneRow g w w') {a : Addr} (ha : a.block ≠ g) : w'.frozen? a = w.frozen? a := by simp [World.frozen?, h.other _ ha]
theorem oneRow_setRow (w : World) (g : Nat) (cs : Array Value) : OneRow g w (w.setRow g cs) := ⟨rfl, rfl, rfl, by simp [World.setRow], fun k hk => setRow_other w g k cs hk⟩
theorem copy_step {W : World} {dp sp : Option Addr} {dLen dCap sLen sCap : Nat} {C : Result Next → Prop} (g off : Nat) (cur cs : List Value)
    (hg : W.heap[g]? = some (.cells cur.toArray 9 (0, 0))) (hn : cs.length = Nat.min sLen dLen)
    (hpos : 0 < cs.length → dp = some ⟨g, off, none⟩ ∧ ∃ ad, sp = some ad ∧ ∀ j v, cs[j]? = some v → W.cell? (ad.add j) = some v)
    (hfit : off + cs.length ≤ cur.length) (h1 : ∀ v ∈ cs, v.oneCell' = true)
    (h : ∀ w', Hid (w'.heap[g]? = some (.cells (splice cur off cs).toArray 9 (0, 0))) → OneRow g W w' → C (.ok (.value (goInt cs.length)) w')) :
    C ((Sem.run Tryz.prog (Builtin.copy_ #[22, 22] 3 #[.slice dp dLen dCap, .slice sp sLen sCap]) W).andThen fun a w' => .ok (.value a) w') := by
  by_cases h0 : cs.length = 0
  · obtain rfl : cs = [] := List.eq_nil_of_length_eq_zero h0
    rw [run_copy_none (P := Tryz.prog) W 22 22 3 9 dp sp dLen dCap sLen sCap uStrs zStr (by simpa using hn.symm)]
    exact h W (show _ = _ by simpa [splice] using hg) (OneRow.refl _ _)
  · obtain ⟨rfl, ad, rfl, hsrc⟩ := hpos (by omega)
    rw [run_copy_row (P := Tryz.prog) W 22 22 3 9 g off dLen dCap ad sLen sCap cur.toArray 9 cs uStrs zStr hg hn hsrc (by simpa using hfit) h1]
    exact h _ (show _ = _ by simpa [splice] using setRow_heap W g _ _ 9 _ hg) (oneRow_setRow _ _ _)
theorem oneRow_setCell (w : World) (b o : Nat) (v : Value) : OneRow b w (w.setCell ⟨b, o, none⟩ v) := ⟨rfl, rfl, rfl, by simp [World.setCell], fun k hk => Below.heap_setCell _ _ _ _ hk⟩
theorem set4 {w : World} {b : Nat} {te : TypeId} {x0 x1 x2 x3 : Value} (h : w.heap[b]? = some (.cells #[x0, x1, x2, x3] te (0, 0))) (v : Value) :
    (w.setCell ⟨b, 0, none⟩ v).heap[b]? = some (.cells #[v, x1, x2, x3] te (0, 0)) ∧ (w.setCell ⟨b, 1, none⟩ v).heap[b]? = some (.cells #[x0, v, x2, x3] te (0, 0)) := by
  constructor
  · simp only [World.setCell, Array.getElem?_modify, if_true, h, Option.map_some]
    rfl
  · simp only [World.setCell, Array.getElem?_modify, if_true, h, Option.map_some]
    rfl
def ReplW (w : World) (b : Nat) (te : TypeId) (lv av : Value) (rows : List Value) (cur : Int) (e : Ending) (w' : World) : Prop :=
  e = .returned (.tuple #[]) ∧ ∃ g, w.heap.size ≤ g ∧ w'.heap[g]? = some (.cells rows.toArray 9 (0, 0)) ∧ w'.heap[b]? = some (.cells #[.slice (some ⟨g, 0, none⟩) rows.length rows.length, .int .i64 cur, lv, av] te (0, 0)) ∧
    w'.os = w.os ∧ w'.tape = w.tape ∧ w'.output = w.output ∧ w.heap.size ≤ w'.heap.size ∧ ∀ k, k < w.heap.size → k ≠ b → w'.heap[k]? = w.heap[k]?
theorem repl_fin {w w3 W : World} {b : Nat} {te : TypeId} {lv av V : Value} {Z3 R : List Value} {cu cv : Int} (hbl : b < w.heap.size) (hB : Below w.heap.size w w3) (hG : w3.heap[w.heap.size]? = some (.cells Z3.toArray 9 (0, 0)))
    (hW : W.heap[b]? = some (.cells #[V, .int .i64 cv, lv, av] te (0, 0))) (ho : OneRow b w3 W) (hV : V = .slice (some ⟨w.heap.size, 0, none⟩) R.length R.length) (hZ : Z3 = R) (hc : cv = cu) : ReplW w b te lv av R cu (.returned (.tuple #[])) W :=
  ⟨rfl, w.heap.size, Nat.le_refl _, by rw [ho.other _ (by omega), hG, hZ], by rw [hW, hV, hc], ho.os.trans hB.os, ho.tape.trans hB.tape, ho.output.trans hB.output, by rw [ho.size]; exact hB.size, fun k hk hkb => (ho.other k hkb).trans (hB.block k hk)⟩
theorem repl_fin1 {w w3 : World} {b N : Nat} {te : TypeId} {x0 x1 lv av : Value} {Z3 R : List Value} {cu cv : Int} (hbl : b < w.heap.size) (hB : Below w.heap.size w w3) (hG : w3.heap[w.heap.size]? = some (.cells Z3.toArray 9 (0, 0)))
    (hb3 : w3.heap[b]? = some (.cells #[x0, x1, lv, av] te (0, 0))) (hN : R.length = N) (hZ : Z3 = R) (hc : cv = cu) :
    ReplW w b te lv av R cu (.returned (.tuple #[])) ((w3.setCell ⟨b, 0, none⟩ (.slice (some ⟨w.heap.size, 0, none⟩) N N)).setCell ⟨b, 1, none⟩ (.int .i64 cv)) :=
  repl_fin hbl hB hG (set4 (set4 hb3 _).1 _).2 ((oneRow_setCell _ _ _ _).trans (oneRow_setCell _ _ _ _)) (by rw [hN]) hZ hc
theorem repl_fin2 {w w3 : World} {b N : Nat} {te : TypeId} {x0 x1 lv av u : Value} {Z3 R : List Value} {cu cv : Int} (hbl : b < w.heap.size) (hB : Below w.heap.size w w3) (hG : w3.heap[w.heap.size]? = some (.cells Z3.toArray 9 (0, 0)))
    (hb3 : w3.heap[b]? = some (.cells #[x0, x1, lv, av] te (0, 0))) (hN : R.length = N) (hZ : Z3 = R) (hc : cv = cu) :
    ReplW w b te lv av R cu (.returned (.tuple #[])) (((w3.setCell ⟨b, 0, none⟩ (.slice (some ⟨w.heap.size, 0, none⟩) N N)).setCell ⟨b, 1, none⟩ u).setCell ⟨b, 1, none⟩ (.int .i64 cv)) :=
  repl_fin hbl hB hG (set4 (set4 (set4 hb3 _).1 _).2 _).2 (((oneRow_setCell _ _ _ _).trans (oneRow_setCell _ _ _ _)).trans (oneRow_setCell _ _ _ _)) (by rw [hN]) hZ hc
theorem repl_len {xs ys R Z X1 X2 : List Value} {at_ n tl ll N M1 M2 : Nat} (hR : R = xs.take at_ ++ (ys ++ xs.drop (at_ + n))) (hX1 : X1 = xs.take at_) (hX2 : X2 = xs.drop M2) (e1 : M1 = at_ + ll) (e2 : M2 = at_ + n) (e3 : N = tl - n + ll) (e5 : ys.length = ll) (e6 : Z.length = N) (e7 : xs.length = tl) (h1 : at_ + n ≤ tl) :
    R.length = N ∧ splice (splice (splice Z 0 X1) at_ ys) M1 X2 = R := by
  subst e1 e2
  have l1 : X1.length = at_ := by rw [hX1, List.length_take]; omega
  have l2 : X2.length = tl - (at_ + n) := by rw [hX2, List.length_drop]; omega
  refine ⟨?_, ?_⟩
  · rw [hR]
    simp only [List.length_append, List.length_take, List.length_drop]
    omega
  · rw [splice_splice_splice Z X1 ys X2 at_ ll l1 e5 (by omega), hR, hX1, hX2]
set_option maxHeartbeats 8000000 in
theorem repl_run (w : World) (b : Nat) (te : TypeId) (A : Option Addr) (tl tc : Nat) (c0 lv av : Value) (at_ n : Nat) (LA : Option Addr) (ll lc : Nat) (xs ys R : List Value) (cu : Int) (hR : R = xs.take at_ ++ (ys ++ xs.drop (at_ + n))) (hcu : cu = if ys.length = 0 then -1 else (at_ : Int) + ys.length - 1)
    (hb : w.heap[b]? = some (.cells #[.slice A tl tc, c0, lv, av] te (0, 0))) (h1 : at_ + n ≤ tl) (htc : tl ≤ tc) (hlc : ll ≤ lc) (hs : tl ≤ 1099511627776 ∧ ll ≤ 1099511627776) (hxl : xs.length = tl) (hA : SlCells w A xs) (hyl : ys.length = ll) (hLA : SlCells w LA ys) (hx1 : ∀ v ∈ xs, v.oneCell' = true) (hy1 : ∀ v ∈ ys, v.oneCell' = true) :
    Calls Tryz.prog 96 #[.pointer (some ⟨b, 0, none⟩), .int .i64 at_, .int .i64 n, .slice LA ll lc] w (ReplW w b te lv av R cu) := by
  have HR := Lib.hid hR
  have Hcu := Lib.hid hcu
  clear hR hcu
  have hbl : b < w.heap.size := (Array.getElem?_eq_some_iff.1 hb).1
  have c1 : w.cell? ⟨b, 0, none⟩ = some (.slice A tl tc) := by simp [World.cell?, hb]
  obtain ⟨N, hN0⟩ : ∃ N, N = tl - n + ll := ⟨_, rfl⟩
  have hN1 : N + n ≤ tl + ll := by omega
  have hN2 : tl + ll ≤ N + n := by omega
  obtain ⟨Z, hZ0, hm⟩ := mk_strs N ((tl : Int) - n + ll) (by omega) (by omega)
  have hN := Lib.hid hN0
  have hZ := Lib.hid hZ0
  clear hN0 hZ0
  have hatN : at_ ≤ N := by omega
  obtain ⟨X1, hX1⟩ : ∃ X1, X1 = xs.take at_ := ⟨_, rfl⟩
  have hl1 : X1.length = Nat.min at_ N := by
    have e : Nat.min at_ N = at_ := Nat.min_eq_left hatN
    rw [hX1, List.length_take, e]; omega
  have ho1 : ∀ v ∈ X1, v.oneCell' = true := fun v hv => hx1 v (List.mem_of_mem_take (hX1 ▸ hv))
  have hz1 : 0 + X1.length ≤ Z.length := by
    have e : Nat.min at_ N = at_ := Nat.min_eq_left hatN
    rw [hl1, e, hZ.out]; omega
  have hX1c : SlCells w A X1 := hX1 ▸ hA.take at_
  obtain ⟨M1, hM1⟩ : ∃ M1, M1 = at_ + ll := ⟨_, rfl⟩
  obtain ⟨M2, hM2⟩ : ∃ M2, M2 = at_ + n := ⟨_, rfl⟩
  have HM1 := Lib.hid hM1
  have HM2 := Lib.hid hM2
  clear hM1 hM2
  obtain ⟨X2, hX2⟩ : ∃ X2, X2 = xs.drop M2 := ⟨_, rfl⟩
  have ho2 : ∀ v ∈ X2, v.oneCell' = true := fun v hv => hx1 v (List.mem_of_mem_drop (hX2 ▸ hv))
  have hl2 : X2.length = tl - M2 := by rw [hX2, List.length_drop, hxl]
  have hX2c : SlCells w (A.map (·.add M2)) X2 := hX2 ▸ hA.drop M2
  have HX2 := Lib.hid hX2
  have HX2o := Lib.hid ho2
  have Hl2 := Lib.hid hl2
  have HX2c := Lib.hid hX2c
  clear hX2 ho2 hl2 hX2c
  have Hl1 := Lib.hid hl1
  have Ho1 := Lib.hid ho1
  have Hz1 := Lib.hid hz1
  have HX1c := Lib.hid hX1c
  have HX1 := Lib.hid hX1
  have Hxl := Lib.hid hxl
  have Hyl := Lib.hid hyl
  have HA := Lib.hid hA
  have HLA := Lib.hid hLA
  have Hx1 := Lib.hid hx1
  have Hy1 := Lib.hid hy1
  clear hl1 ho1 hz1 hX1c hX1 hxl hyl hA hLA hx1 hy1
  go_enter Tryz.func96, Tryz.ntmps96
  go_wp2_with fail
  refine copy_step (C := Oper.upon _ _ _ _ _) w.heap.size 0 Z X1 (heap_alloc_new w _) Hl1.out (fun h0 => ⟨rfl, HX1c.out.keep (fun k hk => Ev.al_old _ _ _ hk) h0⟩) Hz1.out Ho1.out ?_
  intro W1 HG1 HR1
  have hk1 : ∀ k, k < w.heap.size → W1.heap[k]? = w.heap[k]? := fun k hk => (HR1.other k (by omega)).trans (Ev.al_old _ _ _ hk)
  have Hk1 := Lib.hid hk1
  have hb1 : W1.heap[b]? = some (.cells #[.slice A tl tc, c0, lv, av] te (0, 0)) := (hk1 b hbl).trans hb
  have c1' : W1.cell? ⟨b, 0, none⟩ = some (.slice A tl tc) := by simp [World.cell?, hb1]
  clear hk1 hb1
  go_wp2_with fail
  all_goals refine copy_step (C := Oper.upon _ _ _ _ _) w.heap.size at_ (splice Z 0 X1) ys HG1.out (by have e1 := Hyl.out; have e2 := hN.out; show _ = min _ _; omega) (fun h0 => ⟨by first | rfl | (exfalso; have e1 := Hyl.out; have e2 := hN.out; omega), HLA.out.keep Hk1.out h0⟩) (by have e1 := Hyl.out; have e2 := hN.out; have e3 := hZ.out; rw [length_splice _ _ _ Hz1.out]; omega) Hy1.out ?_
  all_goals intro W2 HG2 HR2
  all_goals (
    have hk2 : ∀ k, k < w.heap.size → W2.heap[k]? = w.heap[k]? := fun k hk => (HR2.other k (by omega)).trans (Hk1.out k hk)
    have Hk2 := Lib.hid hk2
    have hb2 : W2.heap[b]? = some (.cells #[.slice A tl tc, c0, lv, av] te (0, 0)) := (hk2 b hbl).trans hb
    have c2' : W2.cell? ⟨b, 0, none⟩ = some (.slice A tl tc) := by simp [World.cell?, hb2]
    clear hk2 hb2)
  all_goals go_wp2_with fail
  · have hB2 : Below w.heap.size w W2 := ⟨HR2.os.trans HR1.os, HR2.tape.trans HR1.tape, HR2.output.trans HR1.output, by rw [HR2.size, HR1.size]; simp, fun k hk => Hk2.out k hk⟩
    have HB2 := Lib.hid hB2
    clear hB2
    have hM1N : M1 ≤ at_ := by have e1 := HM1.out; have e2 := hN.out; omega
    have hM2t : M2 ≤ tl := by have e1 := HM2.out; omega
    have hfit2 : M1 + X2.length ≤ (splice (splice Z 0 X1) at_ ys).length := by
      have e1 := Hl2.out; have e2 := hN.out; have e3 := HM1.out; have e4 := HM2.out; have e5 := hZ.out; have e6 := Hyl.out
      have e7 := length_splice Z 0 X1 Hz1.out
      rw [length_splice _ _ _ (by omega)]; omega
    have Hfit2 := Lib.hid hfit2
    clear hfit2
    rcases Nat.lt_or_ge M1 at_ with q1 | q1
    · have q1' : ¬ at_ = M1 := by omega
      rcases Nat.lt_or_ge M2 tc with q2 | q2
      · have q2' : ¬ tc = M2 := by omega
        have w1 : IntKind.i64.wrap ((at_ : Int) + (ll : Int)) = (M1 : Int) := by
          have e1 := HM1.out
          rw [IntKind.wrap_i64]; omega
        have w2 : IntKind.i64.wrap ((at_ : Int) + (n : Int)) = (M2 : Int) := by
          have e1 := HM2.out
          rw [IntKind.wrap_i64]; omega
        go_region_law (refine step_copy_splice rfl (.tmp 38) (.tmp 46) 22 22 rfl 9 uStrs zStr _ _ _ _ _ _ rfl rfl w.heap.size M1 (splice (splice Z 0 X1) at_ ys) 9 HG2.out X2 (by have e1 := Hl2.out; have e2 := hN.out; have e3 := HM1.out; have e4 := HM2.out; show _ = min _ _; omega) (fun h0 => ⟨by first | rfl | (exfalso; have e1 := Hl2.out; have e2 := hN.out; have e3 := HM1.out; have e4 := HM2.out; omega), by first | exact HX2c.out.keep Hk2.out h0 | (exfalso; have e1 := Hl2.out; have e2 := hN.out; have e3 := HM1.out; have e4 := HM2.out; omega)⟩) Hfit2.out HX2o.out w.heap.size w HB2.out.drew (Nat.le_refl _) ?_; intro w3 HG3 HB3; (have hb3 : w3.heap[b]? = some (.cells #[.slice A tl tc, c0, lv, av] te (0, 0)) := (HB3.block b hbl).trans hb); (have c3a : w3.cell? ⟨b, 0, none⟩ = some (.slice A tl tc) := by simp [World.cell?, hb3]); (have c3b : w3.cell? ⟨b, 1, none⟩ = some c0 := by simp [World.cell?, hb3]); (have f3a : w3.frozen? ⟨b, 0, none⟩ = false := by simp [World.frozen?, hb3]); (have f3b : w3.frozen? ⟨b, 1, none⟩ = false := by simp [World.frozen?, hb3]); (have Hb3 := Lib.hid hb3); clear hb3)
        go_wp2_with fail
        all_goals refine ⟨rfl, _, results_none rfl _ _ _, ?_⟩
        all_goals (
          obtain ⟨hRl, hZ3⟩ := repl_len HR.out HX1.out HX2.out HM1.out HM2.out hN.out Hyl.out hZ.out Hxl.out h1
          first
            | (with_reducible refine repl_fin1 hbl HB3 HG3.out Hb3.out (hRl.trans (by have e1 := HM1.out; have e3 := hN.out; omega)) hZ3 ?_
               rw [Hcu.out, if_pos (by have e1 := HM1.out; rw [Hyl.out]; omega)])
            | (with_reducible refine repl_fin2 hbl HB3 HG3.out Hb3.out (hRl.trans (by have e1 := HM1.out; have e3 := hN.out; omega)) hZ3 ?_
               rw [Hcu.out, if_neg (by rw [Hyl.out]; omega), Hyl.out, HM1.out]
               omega)
            | (exfalso; have e1 := HM1.out; have e3 := hN.out; omega))
      · obtain rfl : tc = M2 := by omega
        have w1 : IntKind.i64.wrap ((at_ : Int) + (ll : Int)) = (M1 : Int) := by
          have e1 := HM1.out
          rw [IntKind.wrap_i64]; omega
        have w2 : IntKind.i64.wrap ((at_ : Int) + (n : Int)) = (tc : Int) := by
          have e1 := HM2.out
          rw [IntKind.wrap_i64]; omega
        go_region_law (refine step_copy_splice rfl (.tmp 38) (.tmp 46) 22 22 rfl 9 uStrs zStr _ _ _ _ _ _ rfl rfl w.heap.size M1 (splice (splice Z 0 X1) at_ ys) 9 HG2.out X2 (by have e1 := Hl2.out; have e2 := hN.out; have e3 := HM1.out; have e4 := HM2.out; show _ = min _ _; omega) (fun h0 => ⟨by first | rfl | (exfalso; have e1 := Hl2.out; have e2 := hN.out; have e3 := HM1.out; have e4 := HM2.out; omega), by first | exact HX2c.out.keep Hk2.out h0 | (exfalso; have e1 := Hl2.out; have e2 := hN.out; have e3 := HM1.out; have e4 := HM2.out; omega)⟩) Hfit2.out HX2o.out w.heap.size w HB2.out.drew (Nat.le_refl _) ?_; intro w3 HG3 HB3; (have hb3 : w3.heap[b]? = some (.cells #[.slice A tl tc, c0, lv, av] te (0, 0)) := (HB3.block b hbl).trans hb); (have c3a : w3.cell? ⟨b, 0, none⟩ = some (.slice A tl tc) := by simp [World.cell?, hb3]); (have c3b : w3.cell? ⟨b, 1, none⟩ = some c0 := by simp [World.cell?, hb3]); (have f3a : w3.frozen? ⟨b, 0, none⟩ = false := by simp [World.frozen?, hb3]); (have f3b : w3.frozen? ⟨b, 1, none⟩ = false := by simp [World.frozen?, hb3]); (have Hb3 := Lib.hid hb3); clear hb3)
        go_wp2_with fail
        all_goals refine ⟨rfl, _, results_none rfl _ _ _, ?_⟩
        all_goals (
          obtain ⟨hRl, hZ3⟩ := repl_len HR.out HX1.out HX2.out HM1.out HM2.out hN.out Hyl.out hZ.out Hxl.out h1
          first
            | (with_reducible refine repl_fin1 hbl HB3 HG3.out Hb3.out (hRl.trans (by have e1 := HM1.out; have e3 := hN.out; omega)) hZ3 ?_
               rw [Hcu.out, if_pos (by have e1 := HM1.out; rw [Hyl.out]; omega)])
            | (with_reducible refine repl_fin2 hbl HB3 HG3.out Hb3.out (hRl.trans (by have e1 := HM1.out; have e3 := hN.out; omega)) hZ3 ?_
               rw [Hcu.out, if_neg (by rw [Hyl.out]; omega), Hyl.out, HM1.out]
               omega)
            | (exfalso; have e1 := HM1.out; have e3 := hN.out; omega))
    · obtain rfl : at_ = M1 := by omega
      rcases Nat.lt_or_ge M2 tc with q2 | q2
      · have q2' : ¬ tc = M2 := by omega
        have w1 : IntKind.i64.wrap ((at_ : Int) + (ll : Int)) = (at_ : Int) := by
          have e1 := HM1.out
          rw [IntKind.wrap_i64]; omega
        have w2 : IntKind.i64.wrap ((at_ : Int) + (n : Int)) = (M2 : Int) := by
          have e1 := HM2.out
          rw [IntKind.wrap_i64]; omega
        go_region_law (refine step_copy_splice rfl (.tmp 38) (.tmp 46) 22 22 rfl 9 uStrs zStr _ _ _ _ _ _ rfl rfl w.heap.size at_ (splice (splice Z 0 X1) at_ ys) 9 HG2.out X2 (by have e1 := Hl2.out; have e2 := hN.out; have e3 := HM1.out; have e4 := HM2.out; show _ = min _ _; omega) (fun h0 => ⟨by first | rfl | (exfalso; have e1 := Hl2.out; have e2 := hN.out; have e3 := HM1.out; have e4 := HM2.out; omega), by first | exact HX2c.out.keep Hk2.out h0 | (exfalso; have e1 := Hl2.out; have e2 := hN.out; have e3 := HM1.out; have e4 := HM2.out; omega)⟩) Hfit2.out HX2o.out w.heap.size w HB2.out.drew (Nat.le_refl _) ?_; intro w3 HG3 HB3; (have hb3 : w3.heap[b]? = some (.cells #[.slice A tl tc, c0, lv, av] te (0, 0)) := (HB3.block b hbl).trans hb); (have c3a : w3.cell? ⟨b, 0, none⟩ = some (.slice A tl tc) := by simp [World.cell?, hb3]); (have c3b : w3.cell? ⟨b, 1, none⟩ = some c0 := by simp [World.cell?, hb3]); (have f3a : w3.frozen? ⟨b, 0, none⟩ = false := by simp [World.frozen?, hb3]); (have f3b : w3.frozen? ⟨b, 1, none⟩ = false := by simp [World.frozen?, hb3]); (have Hb3 := Lib.hid hb3); clear hb3)
        go_wp2_with fail
        all_goals refine ⟨rfl, _, results_none rfl _ _ _, ?_⟩
        all_goals (
          obtain ⟨hRl, hZ3⟩ := repl_len HR.out HX1.out HX2.out HM1.out HM2.out hN.out Hyl.out hZ.out Hxl.out h1
          first
            | (with_reducible refine repl_fin1 hbl HB3 HG3.out Hb3.out (hRl.trans (by have e1 := HM1.out; have e3 := hN.out; omega)) hZ3 ?_
               rw [Hcu.out, if_pos (by have e1 := HM1.out; rw [Hyl.out]; omega)])
            | (with_reducible refine repl_fin2 hbl HB3 HG3.out Hb3.out (hRl.trans (by have e1 := HM1.out; have e3 := hN.out; omega)) hZ3 ?_
               rw [Hcu.out, if_neg (by rw [Hyl.out]; omega), Hyl.out, HM1.out]
               omega)
            | (exfalso; have e1 := HM1.out; have e3 := hN.out; omega))
      · obtain rfl : tc = M2 := by omega
        have w1 : IntKind.i64.wrap ((at_ : Int) + (ll : Int)) = (at_ : Int) := by
          have e1 := HM1.out
          rw [IntKind.wrap_i64]; omega
        have w2 : IntKind.i64.wrap ((at_ : Int) + (n : Int)) = (tc : Int) := by
          have e1 := HM2.out
          rw [IntKind.wrap_i64]; omega
        go_region_law (refine step_copy_splice rfl (.tmp 38) (.tmp 46) 22 22 rfl 9 uStrs zStr _ _ _ _ _ _ rfl rfl w.heap.size at_ (splice (splice Z 0 X1) at_ ys) 9 HG2.out X2 (by have e1 := Hl2.out; have e2 := hN.out; have e3 := HM1.out; have e4 := HM2.out; show _ = min _ _; omega) (fun h0 => ⟨by first | rfl | (exfalso; have e1 := Hl2.out; have e2 := hN.out; have e3 := HM1.out; have e4 := HM2.out; omega), by first | exact HX2c.out.keep Hk2.out h0 | (exfalso; have e1 := Hl2.out; have e2 := hN.out; have e3 := HM1.out; have e4 := HM2.out; omega)⟩) Hfit2.out HX2o.out w.heap.size w HB2.out.drew (Nat.le_refl _) ?_; intro w3 HG3 HB3; (have hb3 : w3.heap[b]? = some (.cells #[.slice A tl tc, c0, lv, av] te (0, 0)) := (HB3.block b hbl).trans hb); (have c3a : w3.cell? ⟨b, 0, none⟩ = some (.slice A tl tc) := by simp [World.cell?, hb3]); (have c3b : w3.cell? ⟨b, 1, none⟩ = some c0 := by simp [World.cell?, hb3]); (have f3a : w3.frozen? ⟨b, 0, none⟩ = false := by simp [World.frozen?, hb3]); (have f3b : w3.frozen? ⟨b, 1, none⟩ = false := by simp [World.frozen?, hb3]); (have Hb3 := Lib.hid hb3); clear hb3)
        go_wp2_with fail
        all_goals refine ⟨rfl, _, results_none rfl _ _ _, ?_⟩
        all_goals (
          obtain ⟨hRl, hZ3⟩ := repl_len HR.out HX1.out HX2.out HM1.out HM2.out hN.out Hyl.out hZ.out Hxl.out h1
          first
            | (with_reducible refine repl_fin1 hbl HB3 HG3.out Hb3.out (hRl.trans (by have e1 := HM1.out; have e3 := hN.out; omega)) hZ3 ?_
               rw [Hcu.out, if_pos (by have e1 := HM1.out; rw [Hyl.out]; omega)])
            | (with_reducible refine repl_fin2 hbl HB3 HG3.out Hb3.out (hRl.trans (by have e1 := HM1.out; have e3 := hN.out; omega)) hZ3 ?_
               rw [Hcu.out, if_neg (by rw [Hyl.out]; omega), Hyl.out, HM1.out]
               omega)
            | (exfalso; have e1 := HM1.out; have e3 := hN.out; omega))
  · have hB2 : Below w.heap.size w W2 := ⟨HR2.os.trans HR1.os, HR2.tape.trans HR1.tape, HR2.output.trans HR1.output, by rw [HR2.size, HR1.size]; simp, fun k hk => Hk2.out k hk⟩
    have HB2 := Lib.hid hB2
    clear hB2
    have hM1N : M1 ≤ N := by have e1 := HM1.out; have e2 := hN.out; omega
    have hM2t : M2 ≤ tl := by have e1 := HM2.out; omega
    have hfit2 : M1 + X2.length ≤ (splice (splice Z 0 X1) at_ ys).length := by
      have e1 := Hl2.out; have e2 := hN.out; have e3 := HM1.out; have e4 := HM2.out; have e5 := hZ.out; have e6 := Hyl.out
      have e7 := length_splice Z 0 X1 Hz1.out
      rw [length_splice _ _ _ (by omega)]; omega
    have Hfit2 := Lib.hid hfit2
    clear hfit2
    rcases Nat.lt_or_ge M1 N with q1 | q1
    · have q1' : ¬ N = M1 := by omega
      rcases Nat.lt_or_ge M2 tc with q2 | q2
      · have q2' : ¬ tc = M2 := by omega
        have w1 : IntKind.i64.wrap ((at_ : Int) + (ll : Int)) = (M1 : Int) := by
          have e1 := HM1.out
          rw [IntKind.wrap_i64]; omega
        have w2 : IntKind.i64.wrap ((at_ : Int) + (n : Int)) = (M2 : Int) := by
          have e1 := HM2.out
          rw [IntKind.wrap_i64]; omega
        go_region_law (refine step_copy_splice rfl (.tmp 38) (.tmp 46) 22 22 rfl 9 uStrs zStr _ _ _ _ _ _ rfl rfl w.heap.size M1 (splice (splice Z 0 X1) at_ ys) 9 HG2.out X2 (by have e1 := Hl2.out; have e2 := hN.out; have e3 := HM1.out; have e4 := HM2.out; show _ = min _ _; omega) (fun h0 => ⟨by first | rfl | (exfalso; have e1 := Hl2.out; have e2 := hN.out; have e3 := HM1.out; have e4 := HM2.out; omega), by first | exact HX2c.out.keep Hk2.out h0 | (exfalso; have e1 := Hl2.out; have e2 := hN.out; have e3 := HM1.out; have e4 := HM2.out; omega)⟩) Hfit2.out HX2o.out w.heap.size w HB2.out.drew (Nat.le_refl _) ?_; intro w3 HG3 HB3; (have hb3 : w3.heap[b]? = some (.cells #[.slice A tl tc, c0, lv, av] te (0, 0)) := (HB3.block b hbl).trans hb); (have c3a : w3.cell? ⟨b, 0, none⟩ = some (.slice A tl tc) := by simp [World.cell?, hb3]); (have c3b : w3.cell? ⟨b, 1, none⟩ = some c0 := by simp [World.cell?, hb3]); (have f3a : w3.frozen? ⟨b, 0, none⟩ = false := by simp [World.frozen?, hb3]); (have f3b : w3.frozen? ⟨b, 1, none⟩ = false := by simp [World.frozen?, hb3]); (have Hb3 := Lib.hid hb3); clear hb3)
        go_wp2_with fail
        all_goals refine ⟨rfl, _, results_none rfl _ _ _, ?_⟩
        all_goals (
          obtain ⟨hRl, hZ3⟩ := repl_len HR.out HX1.out HX2.out HM1.out HM2.out hN.out Hyl.out hZ.out Hxl.out h1
          first
            | (with_reducible refine repl_fin1 hbl HB3 HG3.out Hb3.out (hRl.trans (by have e1 := HM1.out; have e3 := hN.out; omega)) hZ3 ?_
               rw [Hcu.out, if_pos (by have e1 := HM1.out; rw [Hyl.out]; omega)])
            | (with_reducible refine repl_fin2 hbl HB3 HG3.out Hb3.out (hRl.trans (by have e1 := HM1.out; have e3 := hN.out; omega)) hZ3 ?_
               rw [Hcu.out, if_neg (by rw [Hyl.out]; omega), Hyl.out, HM1.out]
               omega)
            | (exfalso; have e1 := HM1.out; have e3 := hN.out; omega))
      · obtain rfl : tc = M2 := by omega
        have w1 : IntKind.i64.wrap ((at_ : Int) + (ll : Int)) = (M1 : Int) := by
          have e1 := HM1.out
          rw [IntKind.wrap_i64]; omega
        have w2 : IntKind.i64.wrap ((at_ : Int) + (n : Int)) = (tc : Int) := by
          have e1 := HM2.out
          rw [IntKind.wrap_i64]; omega
        go_region_law (refine step_copy_splice rfl (.tmp 38) (.tmp 46) 22 22 rfl 9 uStrs zStr _ _ _ _ _ _ rfl rfl w.heap.size M1 (splice (splice Z 0 X1) at_ ys) 9 HG2.out X2 (by have e1 := Hl2.out; have e2 := hN.out; have e3 := HM1.out; have e4 := HM2.out; show _ = min _ _; omega) (fun h0 => ⟨by first | rfl | (exfalso; have e1 := Hl2.out; have e2 := hN.out; have e3 := HM1.out; have e4 := HM2.out; omega), by first | exact HX2c.out.keep Hk2.out h0 | (exfalso; have e1 := Hl2.out; have e2 := hN.out; have e3 := HM1.out; have e4 := HM2.out; omega)⟩) Hfit2.out HX2o.out w.heap.size w HB2.out.drew (Nat.le_refl _) ?_; intro w3 HG3 HB3; (have hb3 : w3.heap[b]? = some (.cells #[.slice A tl tc, c0, lv, av] te (0, 0)) := (HB3.block b hbl).trans hb); (have c3a : w3.cell? ⟨b, 0, none⟩ = some (.slice A tl tc) := by simp [World.cell?, hb3]); (have c3b : w3.cell? ⟨b, 1, none⟩ = some c0 := by simp [World.cell?, hb3]); (have f3a : w3.frozen? ⟨b, 0, none⟩ = false := by simp [World.frozen?, hb3]); (have f3b : w3.frozen? ⟨b, 1, none⟩ = false := by simp [World.frozen?, hb3]); (have Hb3 := Lib.hid hb3); clear hb3)
        go_wp2_with fail
        all_goals refine ⟨rfl, _, results_none rfl _ _ _, ?_⟩
        all_goals (
          obtain ⟨hRl, hZ3⟩ := repl_len HR.out HX1.out HX2.out HM1.out HM2.out hN.out Hyl.out hZ.out Hxl.out h1
          first
            | (with_reducible refine repl_fin1 hbl HB3 HG3.out Hb3.out (hRl.trans (by have e1 := HM1.out; have e3 := hN.out; omega)) hZ3 ?_
               rw [Hcu.out, if_pos (by have e1 := HM1.out; rw [Hyl.out]; omega)])
            | (with_reducible refine repl_fin2 hbl HB3 HG3.out Hb3.out (hRl.trans (by have e1 := HM1.out; have e3 := hN.out; omega)) hZ3 ?_
               rw [Hcu.out, if_neg (by rw [Hyl.out]; omega), Hyl.out, HM1.out]
               omega)
            | (exfalso; have e1 := HM1.out; have e3 := hN.out; omega))
    · obtain rfl : N = M1 := by omega
      rcases Nat.lt_or_ge M2 tc with q2 | q2
      · have q2' : ¬ tc = M2 := by omega
        have w1 : IntKind.i64.wrap ((at_ : Int) + (ll : Int)) = (N : Int) := by
          have e1 := HM1.out
          rw [IntKind.wrap_i64]; omega
        have w2 : IntKind.i64.wrap ((at_ : Int) + (n : Int)) = (M2 : Int) := by
          have e1 := HM2.out
          rw [IntKind.wrap_i64]; omega
        go_region_law (refine step_copy_splice rfl (.tmp 38) (.tmp 46) 22 22 rfl 9 uStrs zStr _ _ _ _ _ _ rfl rfl w.heap.size N (splice (splice Z 0 X1) at_ ys) 9 HG2.out X2 (by have e1 := Hl2.out; have e2 := hN.out; have e3 := HM1.out; have e4 := HM2.out; show _ = min _ _; omega) (fun h0 => ⟨by first | rfl | (exfalso; have e1 := Hl2.out; have e2 := hN.out; have e3 := HM1.out; have e4 := HM2.out; omega), by first | exact HX2c.out.keep Hk2.out h0 | (exfalso; have e1 := Hl2.out; have e2 := hN.out; have e3 := HM1.out; have e4 := HM2.out; omega)⟩) Hfit2.out HX2o.out w.heap.size w HB2.out.drew (Nat.le_refl _) ?_; intro w3 HG3 HB3; (have hb3 : w3.heap[b]? = some (.cells #[.slice A tl tc, c0, lv, av] te (0, 0)) := (HB3.block b hbl).trans hb); (have c3a : w3.cell? ⟨b, 0, none⟩ = some (.slice A tl tc) := by simp [World.cell?, hb3]); (have c3b : w3.cell? ⟨b, 1, none⟩ = some c0 := by simp [World.cell?, hb3]); (have f3a : w3.frozen? ⟨b, 0, none⟩ = false := by simp [World.frozen?, hb3]); (have f3b : w3.frozen? ⟨b, 1, none⟩ = false := by simp [World.frozen?, hb3]); (have Hb3 := Lib.hid hb3); clear hb3)
        go_wp2_with fail
        all_goals refine ⟨rfl, _, results_none rfl _ _ _, ?_⟩
        all_goals (
          obtain ⟨hRl, hZ3⟩ := repl_len HR.out HX1.out HX2.out HM1.out HM2.out hN.out Hyl.out hZ.out Hxl.out h1
          first
            | (with_reducible refine repl_fin1 hbl HB3 HG3.out Hb3.out (hRl.trans (by have e1 := HM1.out; have e3 := hN.out; omega)) hZ3 ?_
               rw [Hcu.out, if_pos (by have e1 := HM1.out; rw [Hyl.out]; omega)])
            | (with_reducible refine repl_fin2 hbl HB3 HG3.out Hb3.out (hRl.trans (by have e1 := HM1.out; have e3 := hN.out; omega)) hZ3 ?_
               rw [Hcu.out, if_neg (by rw [Hyl.out]; omega), Hyl.out, HM1.out]
               omega)
            | (exfalso; have e1 := HM1.out; have e3 := hN.out; omega))
      · obtain rfl : tc = M2 := by omega
        have w1 : IntKind.i64.wrap ((at_ : Int) + (ll : Int)) = (N : Int) := by
          have e1 := HM1.out
          rw [IntKind.wrap_i64]; omega
        have w2 : IntKind.i64.wrap ((at_ : Int) + (n : Int)) = (tc : Int) := by
          have e1 := HM2.out
          rw [IntKind.wrap_i64]; omega
        go_region_law (refine step_copy_splice rfl (.tmp 38) (.tmp 46) 22 22 rfl 9 uStrs zStr _ _ _ _ _ _ rfl rfl w.heap.size N (splice (splice Z 0 X1) at_ ys) 9 HG2.out X2 (by have e1 := Hl2.out; have e2 := hN.out; have e3 := HM1.out; have e4 := HM2.out; show _ = min _ _; omega) (fun h0 => ⟨by first | rfl | (exfalso; have e1 := Hl2.out; have e2 := hN.out; have e3 := HM1.out; have e4 := HM2.out; omega), by first | exact HX2c.out.keep Hk2.out h0 | (exfalso; have e1 := Hl2.out; have e2 := hN.out; have e3 := HM1.out; have e4 := HM2.out; omega)⟩) Hfit2.out HX2o.out w.heap.size w HB2.out.drew (Nat.le_refl _) ?_; intro w3 HG3 HB3; (have hb3 : w3.heap[b]? = some (.cells #[.slice A tl tc, c0, lv, av] te (0, 0)) := (HB3.block b hbl).trans hb); (have c3a : w3.cell? ⟨b, 0, none⟩ = some (.slice A tl tc) := by simp [World.cell?, hb3]); (have c3b : w3.cell? ⟨b, 1, none⟩ = some c0 := by simp [World.cell?, hb3]); (have f3a : w3.frozen? ⟨b, 0, none⟩ = false := by simp [World.frozen?, hb3]); (have f3b : w3.frozen? ⟨b, 1, none⟩ = false := by simp [World.frozen?, hb3]); (have Hb3 := Lib.hid hb3); clear hb3)
        go_wp2_with fail
        all_goals refine ⟨rfl, _, results_none rfl _ _ _, ?_⟩
        all_goals (
          obtain ⟨hRl, hZ3⟩ := repl_len HR.out HX1.out HX2.out HM1.out HM2.out hN.out Hyl.out hZ.out Hxl.out h1
          first
            | (with_reducible refine repl_fin1 hbl HB3 HG3.out Hb3.out (hRl.trans (by have e1 := HM1.out; have e3 := hN.out; omega)) hZ3 ?_
               rw [Hcu.out, if_pos (by have e1 := HM1.out; rw [Hyl.out]; omega)])
            | (with_reducible refine repl_fin2 hbl HB3 HG3.out Hb3.out (hRl.trans (by have e1 := HM1.out; have e3 := hN.out; omega)) hZ3 ?_
               rw [Hcu.out, if_neg (by rw [Hyl.out]; omega), Hyl.out, HM1.out]
               omega)
            | (exfalso; have e1 := HM1.out; have e3 := hN.out; omega))
end Go.Proofs.YtlghobefhmpfkaaGreatDoor
set_option linter.unusedVariables false
set_option linter.unusedSimpArgs false
namespace Go.Proofs.YtlghobefhmpfkaaGreatDoor
open Go Go.Ev Go.Rcs
set_option maxRecDepth 100000
variable {G : World → Prop}
def edK (t u : TypeId) (z : Nat) (T rows : List (List D)) (c : Int) (K : Out → Store → Prop) : Except Fl (SV × Int) → Prop
  | .ok (x, a) => K (.ret x) ⟨2, [(0, .cells t [.own 1, .d (.v (.int .i64 c)), .d (.sl rows), .d (.v (.int .i64 a))]), (1, .row u z T)]⟩
  | .error (a, e) => K (.pan (.d (fltV a e))) ⟨2, [(0, .cells t [.own 1, .d (.v (.int .i64 c)), .d (.sl rows), .d (.v (.int .i64 a))]), (1, .row u z T)]⟩
def edW (g : List (List UInt8) → Nat → Int → List SV → Option (Prop × Except Fl (SV × Int))) (args : List SV) (st : Store) (K : Out → Store → Prop) : Prop := match args, st with
  | .ptr 0 0 :: rest, ⟨2, [(0, .cells t [.own 1, .d (.v (.int .i64 c)), .d (.sl rows), .d (.v (.int .i64 at_))]), (1, .row u z T)]⟩ => need ((unStr rows).bind fun L => g L T.length at_ rest) fun y => y.1 ∧ edK t u z T rows c K y.2
  | _, _ => False
def edC (g : List (List UInt8) → Nat → Int → List SV → Option (Prop × Except Fl (SV × Int))) : Contract := wpC (edW g)
theorem edC_wp {g : List (List UInt8) → Nat → Int → List SV → Option (Prop × Except Fl (SV × Int))} {t u : TypeId} {z : Nat} {T rows : List (List D)} {c at_ : Int} {rest : List SV} {K : Out → Store → Prop} :
    (edC g).wp (.ptr 0 0 :: rest) ⟨2, [(0, .cells t [.own 1, .d (.v (.int .i64 c)), .d (.sl rows), .d (.v (.int .i64 at_))]), (1, .row u z T)]⟩ K = need ((unStr rows).bind fun L => g L T.length at_ rest) fun y => y.1 ∧ edK t u z T rows c K y.2 := rfl
@[congr] theorem edC_congr {g : List (List UInt8) → Nat → Int → List SV → Option (Prop × Except Fl (SV × Int))} {l l' : List SV} {s s' : Store} {K : Out → Store → Prop} (h : l = l') (h2 : s = s') : (edC g).wp l s K = (edC g).wp l' s' K := by rw [h, h2]
theorem edK_ok {t u : TypeId} {z : Nat} {T rows : List (List D)} {c : Int} {K : Out → Store → Prop} {x : SV} {a : Int} : edK t u z T rows c K (.ok (x, a)) = K (.ret x) ⟨2, [(0, .cells t [.own 1, .d (.v (.int .i64 c)), .d (.sl rows), .d (.v (.int .i64 a))]), (1, .row u z T)]⟩ := rfl
theorem edK_error {t u : TypeId} {z : Nat} {T rows : List (List D)} {c : Int} {K : Out → Store → Prop} {a e : Int} : edK t u z T rows c K (.error (a, e)) = K (.pan (.d (fltV a e))) ⟨2, [(0, .cells t [.own 1, .d (.v (.int .i64 c)), .d (.sl rows), .d (.v (.int .i64 a))]), (1, .row u z T)]⟩ := rfl
theorem edC_lawful (g : List (List UInt8) → Nat → Int → List SV → Option (Prop × Except Fl (SV × Int))) : (edC g).lawful := wpC_lawful _
theorem ed_hX {T : FuncId → Contract} {n : Nat} {S : SCode} {R : List RR} {g : List (List UInt8) → Nat → Int → List SV → Option (Prop × Except Fl (SV × Int))}
    (h : ∀ t u z X L c at_ rest p y K, g L X.length at_ rest = some (p, y) → p → edK t u z X (strRows L) c K y → rest.length + 1 ≤ n ∧ xv T 2 S (st0 (.ptr 0 0 :: rest) ⟨2, [(0, .cells t [.own 1, .d (.v (.int .i64 c)), .d (.sl (strRows L)), .d (.v (.int .i64 at_))]), (1, .row u z X)]⟩) (retK R 2 [0, 1] K) (panK 2 [0, 1] K)) :
    ∀ args st K, (edC g).wp args st K → args.length ≤ n ∧ ∃ os op, xv T st.n S (st0 args st) (retK R st.n os K) (panK st.n op K) := by
  intro args st K hw
  replace hw : edW g args st K := hw
  unfold edW at hw
  split at hw
  · rename_i rest t c rows at_ u z X
    obtain ⟨y, h1, h2, h3⟩ := need_ex hw
    obtain ⟨L, h4, h5⟩ := Option.bind_eq_some_iff.1 h1
    rw [unStr_eq h4] at h3 ⊢
    obtain ⟨h6, h7⟩ := h t u z X L c at_ rest y.1 y.2 K h5 h2 h3
    exact ⟨h6, [0, 1], [0, 1], h7⟩
  · exact hw.elim
def CStopE : Contract := edC fun L n at_ rest => match rest with
  | [.d (.v (.int .i64 e))] => some (True, .error (at_, e))
  | _ => none
def CNextE : Contract := edC fun L n at_ rest => match rest with
  | [] => some ((0 ≤ at_ ∧ at_ ≤ 1099511627776 ∧ smL L), (nextL L at_.toNat).map strA)
  | _ => none
theorem s48 : Sound G Tryz.prog 48 CStopE := by
  refine sd48 (T := tabT []) tab_nil (edC_lawful _) (ed_hX fun t u z X L c at_ rest p y K h hp hk => ?_)
  split at h <;> simp only [Option.some.injEq, Prod.mk.injEq, reduceCtorEq] at h
  obtain ⟨rfl, rfl⟩ := h
  rw [edK_error] at hk
  refine ⟨Nat.le_of_ble_eq_true rfl, ?_⟩
  unfold fltV at hk
  simp -dsimp -implicitDefEqProofs only [S48, R48, Ev.panK, ↓Ev.xStp_eq, ↓Ev.P, Ev.Q, Bool.cond_true, Bool.cond_false, eq_self, forall_eq_or_imp, implies_true, forall_const, forall_eq, ↓reduceIte, reduceIte, Nat.reduceEqDiff, Nat.reduceAdd, reduceCtorEq, Nat.reduceSub, Int.reduceToNat, Int.reduceLE, Int.reduceLT, Int.reduceNeg, Nat.reduceBEq, Nat.reduceMul, Nat.reduceLeDiff, Nat.reduceMod, UInt8.reduceOfNat, Nat.reduceLT, Int.reduceEq, Int.reduceAdd, Int.reduceSub, Int.reduceMul]
  exact hk
set_option maxHeartbeats 1000000 in
theorem s95 : Sound G Tryz.prog 95 CNextE := by
  refine sd95 (T := tabT [(48, CStopE), (18, CBare)]) (tab_cons s48 (tab_cons s18 tab_nil)) (edC_lawful _) (ed_hX fun t u z X L c at_ rest p y K h hp hk => ?_)
  split at h <;> simp only [Option.some.injEq, Prod.mk.injEq, reduceCtorEq] at h
  obtain ⟨rfl, rfl⟩ := h
  obtain ⟨h1, h2, h3, h4⟩ := hp
  refine ⟨Nat.le_of_ble_eq_true rfl, ?_⟩
  obtain ⟨k, rfl⟩ := Int.eq_ofNat_of_zero_le h1
  rw [Int.toNat_natCast] at hk
  by_cases hlt : k < L.length
  · have h5 : ¬ (L.length : Int) < (k : Int) + 1 := by omega
    have e1 : ((k : Int) + 1 - 1).toNat = k := by omega
    have hg := strRows_get hlt
    have hb := h4 _ (getD_in hlt)
    cases hbs : (bareS (L.getD k [])).2 with
    | true =>
      rw [nextL_ok hlt hbs, map_ok, strA, edK_ok] at hk
      generalize L.getD k [] = s at hg hb hk hbs
      simp -dsimp -implicitDefEqProofs only [S95, R95, h5, hg, e1, hbs, strRows_len, CBare, CStopE, edC_wp, unStr_rows, edK_ok, edK_error, ↓Ev.xStp_eq, ↓Ev.P, Ev.Q, Bool.cond_true, Bool.cond_false, eq_self, forall_eq_or_imp, implies_true, forall_const, forall_eq, ↓reduceIte, reduceIte, Nat.reduceEqDiff, Nat.reduceAdd, reduceCtorEq, Nat.reduceSub, Int.reduceToNat, Int.reduceLE, Int.reduceLT, Int.reduceNeg, Nat.reduceBEq, Nat.reduceMul, Nat.reduceLeDiff, Nat.reduceMod, UInt8.reduceOfNat, Nat.reduceLT, Int.reduceEq, Int.reduceAdd, Int.reduceSub, Int.reduceMul]
      repeat' (first | with_reducible assumption | refine And.intro ?_ ?_ | intro _)
      all_goals try omega
      all_goals exact hk
    | false =>
      rw [nextL_bad hlt hbs, map_error, edK_error] at hk
      generalize L.getD k [] = s at hg hb hk hbs
      unfold fltV at hk
      simp -dsimp -implicitDefEqProofs only [S95, R95, h5, hg, e1, hbs, strRows_len, CBare, CStopE, fltV, Ev.panK, edC_wp, unStr_rows, edK_ok, edK_error, ↓Ev.xStp_eq, ↓Ev.P, Ev.Q, Bool.cond_true, Bool.cond_false, eq_self, forall_eq_or_imp, implies_true, forall_const, forall_eq, ↓reduceIte, reduceIte, Nat.reduceEqDiff, Nat.reduceAdd, reduceCtorEq, Nat.reduceSub, Int.reduceToNat, Int.reduceLE, Int.reduceLT, Int.reduceNeg, Nat.reduceBEq, Nat.reduceMul, Nat.reduceLeDiff, Nat.reduceMod, UInt8.reduceOfNat, Nat.reduceLT, Int.reduceEq, Int.reduceAdd, Int.reduceSub, Int.reduceMul]
      repeat' (first | with_reducible assumption | refine And.intro ?_ ?_ | intro _)
      all_goals try omega
      all_goals exact hk
  · have h5 : (L.length : Int) < (k : Int) + 1 := by omega
    rw [nextL_end hlt, map_error, edK_error] at hk
    unfold fltV at hk
    simp -dsimp -implicitDefEqProofs only [S95, R95, h5, strRows_len, CBare, CStopE, fltV, Ev.panK, edC_wp, unStr_rows, edK_ok, edK_error, ↓Ev.xStp_eq, ↓Ev.P, Ev.Q, Bool.cond_true, Bool.cond_false, eq_self, forall_eq_or_imp, implies_true, forall_const, forall_eq, ↓reduceIte, reduceIte, Nat.reduceEqDiff, Nat.reduceAdd, reduceCtorEq, Nat.reduceSub, Int.reduceToNat, Int.reduceLE, Int.reduceLT, Int.reduceNeg, Nat.reduceBEq, Nat.reduceMul, Nat.reduceLeDiff, Nat.reduceMod, UInt8.reduceOfNat, Nat.reduceLT, Int.reduceEq, Int.reduceAdd, Int.reduceSub, Int.reduceMul]
    repeat' (first | with_reducible assumption | refine And.intro ?_ ?_ | intro _)
    all_goals try omega
    all_goals exact hk
def bodK (t u : TypeId) (z : Nat) (T rows : List (List D)) (c : Int) (K : Out → Store → Prop) : Except Fl (List (List UInt8) × Nat) → Prop
  | .ok (l, b) => K (.ret (.own 2)) ⟨3, [(0, .cells t [.own 1, .d (.v (.int .i64 c)), .d (.sl rows), .d (.v (.int .i64 (b : Nat)))]), (1, .row u z T), (2, .row 9 1 (strRows l))]⟩
  | .error (a, e) => K (.pan (.d (fltV a e))) ⟨2, [(0, .cells t [.own 1, .d (.v (.int .i64 c)), .d (.sl rows), .d (.v (.int .i64 a))]), (1, .row u z T)]⟩
def bodW (args : List SV) (st : Store) (K : Out → Store → Prop) : Prop := match args, st with
  | [.ptr 0 0], ⟨2, [(0, .cells t [.own 1, .d (.v (.int .i64 c)), .d (.sl rows), .d (.v (.int .i64 at_))]), (1, .row u z T)]⟩ => need (unStr rows) fun L => (0 ≤ at_ ∧ at_ ≤ L.length ∧ smL L) ∧ bodK t u z T rows c K (bodyL L (L.length - at_.toNat) at_.toNat [])
  | _, _ => False
def CBodyE : Contract := wpC bodW
theorem bodE_wp {t u : TypeId} {z : Nat} {T rows : List (List D)} {c at_ : Int} {K : Out → Store → Prop} :
    CBodyE.wp [.ptr 0 0] ⟨2, [(0, .cells t [.own 1, .d (.v (.int .i64 c)), .d (.sl rows), .d (.v (.int .i64 at_))]), (1, .row u z T)]⟩ K = need (unStr rows) fun L => (0 ≤ at_ ∧ at_ ≤ L.length ∧ smL L) ∧ bodK t u z T rows c K (bodyL L (L.length - at_.toNat) at_.toNat []) := rfl
@[congr] theorem bodE_congr {l l' : List SV} {s s' : Store} {K : Out → Store → Prop} (h : l = l') (h2 : s = s') : CBodyE.wp l s K = CBodyE.wp l' s' K := by rw [h, h2]
theorem bodK_ok {t u : TypeId} {z : Nat} {T rows : List (List D)} {c : Int} {K : Out → Store → Prop} {l : List (List UInt8)} {b : Nat} : bodK t u z T rows c K (.ok (l, b)) = K (.ret (.own 2)) ⟨3, [(0, .cells t [.own 1, .d (.v (.int .i64 c)), .d (.sl rows), .d (.v (.int .i64 (b : Nat)))]), (1, .row u z T), (2, .row 9 1 (strRows l))]⟩ := rfl
theorem bodK_error {t u : TypeId} {z : Nat} {T rows : List (List D)} {c : Int} {K : Out → Store → Prop} {a e : Int} : bodK t u z T rows c K (.error (a, e)) = K (.pan (.d (fltV a e))) ⟨2, [(0, .cells t [.own 1, .d (.v (.int .i64 c)), .d (.sl rows), .d (.v (.int .i64 a))]), (1, .row u z T)]⟩ := rfl
set_option maxHeartbeats 4000000 in
theorem s97 : Sound G Tryz.prog 97 CBodyE := by
  refine sd97 (T := tabT [(95, CNextE)]) (tab_cons s95 tab_nil) (wpC_lawful _) (fun args st K hW => ?_)
  replace hW : bodW args st K := hW
  unfold bodW at hW
  split at hW
  rotate_left
  · exact hW.elim
  rename_i t c rows at_ u z X
  obtain ⟨L, hL0, ⟨t0, t1, hLl, hL⟩, hk⟩ := need_ex hW
  rw [unStr_eq hL0] at *
  obtain ⟨at0, rfl⟩ := Int.eq_ofNat_of_zero_le t0
  rw [Int.toNat_natCast] at hk
  refine ⟨Nat.le_of_ble_eq_true rfl, [0, 1, 2], [0, 1], ?_⟩
  generalize hY : bodyL L (L.length - at0) at0 [] = Y at hk
  simp -dsimp -implicitDefEqProofs only [S97, R97, ↓Ev.xStp_eq, ↓Ev.P, Ev.Q, Bool.cond_true, Bool.cond_false, eq_self, forall_eq_or_imp, implies_true, forall_const, forall_eq, ↓reduceIte, reduceIte, Nat.reduceEqDiff, Nat.reduceAdd, reduceCtorEq, Nat.reduceSub, Int.reduceToNat, Int.reduceLE, Int.reduceLT, Int.reduceNeg, Nat.reduceBEq, Nat.reduceMul, Nat.reduceLeDiff, Nat.reduceMod, UInt8.reduceOfNat, Nat.reduceLT, Int.reduceEq, Int.reduceAdd, Int.reduceSub, Int.reduceMul]
  refine xLoop_intro (fun m st => ∃ (k : Nat) (acc : List (List UInt8)), k ≤ L.length ∧ m = L.length - k ∧ acc.length ≤ k ∧ bodyL L m k acc = Y ∧ (∀ x ∈ acc, x.length ≤ 1099511627776) ∧
      st = ⟨[(0, .ptr 0 0), (3, .own 2)], 3, [(0, .cells t [.own 1, .d (.v (.int .i64 c)), .d (.sl (strRows L)), .d (.v (.int .i64 (k : Nat)))]), (1, .row u z X), (2, .row 9 1 (strRows acc))]⟩) (L.length - at0) [0, 1, 2] ?_ ?_ ?_
  · simp -dsimp -implicitDefEqProofs only [↓Ev.xStp_eq, ↓Ev.P, Ev.Q, Bool.cond_true, Bool.cond_false, eq_self, forall_eq_or_imp, implies_true, forall_const, forall_eq, ↓reduceIte, reduceIte, Nat.reduceEqDiff, Nat.reduceAdd, reduceCtorEq, Nat.reduceSub, Int.reduceToNat, Int.reduceLE, Int.reduceLT, Int.reduceNeg, Nat.reduceBEq, Nat.reduceMul, Nat.reduceLeDiff, Nat.reduceMod, UInt8.reduceOfNat, Nat.reduceLT, Int.reduceEq, Int.reduceAdd, Int.reduceSub, Int.reduceMul]
  · simp -dsimp -implicitDefEqProofs only [↓Ev.xStp_eq, ↓Ev.P, Ev.Q, Bool.cond_true, Bool.cond_false, eq_self, forall_eq_or_imp, implies_true, forall_const, forall_eq, ↓reduceIte, reduceIte, Nat.reduceEqDiff, Nat.reduceAdd, reduceCtorEq, Nat.reduceSub, Int.reduceToNat, Int.reduceLE, Int.reduceLT, Int.reduceNeg, Nat.reduceBEq, Nat.reduceMul, Nat.reduceLeDiff, Nat.reduceMod, UInt8.reduceOfNat, Nat.reduceLT, Int.reduceEq, Int.reduceAdd, Int.reduceSub, Int.reduceMul]
    exact ⟨at0, [], by omega, rfl, by simp, hY, by simp, rfl⟩
  · rintro m st ⟨k, acc, hk1, rfl, hal, hgo, hacc, rfl⟩
    by_cases hlt : k < L.length
    · obtain ⟨j, hj⟩ : ∃ j, L.length - k = j + 1 := ⟨L.length - k - 1, by omega⟩
      rw [hj, bodyL] at hgo
      cases hx : nextL L k with
      | error x =>
        obtain ⟨xa, xe⟩ := x
        rw [hx] at hgo; dsimp only at hgo; subst hgo
        rw [bodK_error] at hk
        unfold fltV at hk
        simp -dsimp -implicitDefEqProofs only [hx, CNextE, fltV, Ev.panK, edC_wp, edK_ok, edK_error, map_ok, map_error, strA, unStr_rows, strRows_len, List.length_append, ↓Ev.P, Ev.Q, Bool.cond_true, Bool.cond_false, eq_self, forall_eq_or_imp, implies_true, forall_const, forall_eq, ↓reduceIte, reduceIte, Nat.reduceEqDiff, Nat.reduceAdd, reduceCtorEq, Nat.reduceSub, Int.reduceToNat, Int.reduceLE, Int.reduceLT, Int.reduceNeg, Nat.reduceBEq, Nat.reduceMul, Nat.reduceLeDiff, Nat.reduceMod, UInt8.reduceOfNat, Nat.reduceLT, Int.reduceEq, Int.reduceAdd, Int.reduceSub, Int.reduceMul]
        repeat' (first | with_reducible assumption | refine And.intro ?_ ?_ | intro _ | (rw [Ev.xStp_eq]; simp -dsimp -implicitDefEqProofs only [hx, CNextE, fltV, Ev.panK, edC_wp, edK_ok, edK_error, map_ok, map_error, strA, unStr_rows, strRows_len, List.length_append, ↓Ev.P, Ev.Q, Bool.cond_true, Bool.cond_false, eq_self, forall_eq_or_imp, implies_true, forall_const, forall_eq, ↓reduceIte, reduceIte, Nat.reduceEqDiff, Nat.reduceAdd, reduceCtorEq, Nat.reduceSub, Int.reduceToNat, Int.reduceLE, Int.reduceLT, Int.reduceNeg, Nat.reduceBEq, Nat.reduceMul, Nat.reduceLeDiff, Nat.reduceMod, UInt8.reduceOfNat, Nat.reduceLT, Int.reduceEq, Int.reduceAdd, Int.reduceSub, Int.reduceMul]))
        all_goals try omega
        all_goals exact hk
      | ok x =>
        obtain ⟨s, a⟩ := x
        obtain ⟨rfl, _, hs⟩ := nextL_le hx
        have hsl : s.length ≤ 1099511627776 := by rw [hs]; exact Nat.le_trans (bare_len _) (hL _ (getD_in hlt))
        rw [hx] at hgo; dsimp only at hgo
        clear hs
        by_cases hd : s = [46]
        · rw [if_pos hd] at hgo; subst hgo
          rw [bodK_ok] at hk
          simp -dsimp -implicitDefEqProofs only [hx, hd, CNextE, fltV, Ev.panK, edC_wp, edK_ok, edK_error, map_ok, map_error, strA, unStr_rows, strRows_len, List.length_append, ↓Ev.P, Ev.Q, Bool.cond_true, Bool.cond_false, eq_self, forall_eq_or_imp, implies_true, forall_const, forall_eq, ↓reduceIte, reduceIte, Nat.reduceEqDiff, Nat.reduceAdd, reduceCtorEq, Nat.reduceSub, Int.reduceToNat, Int.reduceLE, Int.reduceLT, Int.reduceNeg, Nat.reduceBEq, Nat.reduceMul, Nat.reduceLeDiff, Nat.reduceMod, UInt8.reduceOfNat, Nat.reduceLT, Int.reduceEq, Int.reduceAdd, Int.reduceSub, Int.reduceMul]
          repeat' (first | with_reducible assumption | refine And.intro ?_ ?_ | intro _ | (rw [Ev.xStp_eq]; simp -dsimp -implicitDefEqProofs only [hx, hd, CNextE, fltV, Ev.panK, edC_wp, edK_ok, edK_error, map_ok, map_error, strA, unStr_rows, strRows_len, List.length_append, ↓Ev.P, Ev.Q, Bool.cond_true, Bool.cond_false, eq_self, forall_eq_or_imp, implies_true, forall_const, forall_eq, ↓reduceIte, reduceIte, Nat.reduceEqDiff, Nat.reduceAdd, reduceCtorEq, Nat.reduceSub, Int.reduceToNat, Int.reduceLE, Int.reduceLT, Int.reduceNeg, Nat.reduceBEq, Nat.reduceMul, Nat.reduceLeDiff, Nat.reduceMod, UInt8.reduceOfNat, Nat.reduceLT, Int.reduceEq, Int.reduceAdd, Int.reduceSub, Int.reduceMul]))
          all_goals try omega
          all_goals exact hk
        · rw [if_neg hd] at hgo
          simp -dsimp -implicitDefEqProofs only [hx, hd, CNextE, fltV, Ev.panK, edC_wp, edK_ok, edK_error, map_ok, map_error, strA, unStr_rows, strRows_len, List.length_append, ↓Ev.P, Ev.Q, Bool.cond_true, Bool.cond_false, eq_self, forall_eq_or_imp, implies_true, forall_const, forall_eq, ↓reduceIte, reduceIte, Nat.reduceEqDiff, Nat.reduceAdd, reduceCtorEq, Nat.reduceSub, Int.reduceToNat, Int.reduceLE, Int.reduceLT, Int.reduceNeg, Nat.reduceBEq, Nat.reduceMul, Nat.reduceLeDiff, Nat.reduceMod, UInt8.reduceOfNat, Nat.reduceLT, Int.reduceEq, Int.reduceAdd, Int.reduceSub, Int.reduceMul]
          repeat' (first | with_reducible assumption | refine And.intro ?_ ?_ | intro _ | (rw [Ev.xStp_eq]; simp -dsimp -implicitDefEqProofs only [hx, hd, CNextE, fltV, Ev.panK, edC_wp, edK_ok, edK_error, map_ok, map_error, strA, unStr_rows, strRows_len, List.length_append, ↓Ev.P, Ev.Q, Bool.cond_true, Bool.cond_false, eq_self, forall_eq_or_imp, implies_true, forall_const, forall_eq, ↓reduceIte, reduceIte, Nat.reduceEqDiff, Nat.reduceAdd, reduceCtorEq, Nat.reduceSub, Int.reduceToNat, Int.reduceLE, Int.reduceLT, Int.reduceNeg, Nat.reduceBEq, Nat.reduceMul, Nat.reduceLeDiff, Nat.reduceMod, UInt8.reduceOfNat, Nat.reduceLT, Int.reduceEq, Int.reduceAdd, Int.reduceSub, Int.reduceMul]))
          all_goals try omega
          refine xAgain_intro j [0, 1, 4] (by omega) (by simp -dsimp -implicitDefEqProofs only [↓Ev.xStp_eq, ↓Ev.P, Ev.Q, Bool.cond_true, Bool.cond_false, eq_self, forall_eq_or_imp, implies_true, forall_const, forall_eq, ↓reduceIte, reduceIte, Nat.reduceEqDiff, Nat.reduceAdd, reduceCtorEq, Nat.reduceSub, Int.reduceToNat, Int.reduceLE, Int.reduceLT, Int.reduceNeg, Nat.reduceBEq, Nat.reduceMul, Nat.reduceLeDiff, Nat.reduceMod, UInt8.reduceOfNat, Nat.reduceLT, Int.reduceEq, Int.reduceAdd, Int.reduceSub, Int.reduceMul]) ⟨k + 1, acc ++ [s], by omega, by omega, by rw [List.length_append, List.length_singleton]; omega, hgo, ?_, ?_⟩
          · intro x hx2
            rcases List.mem_append.1 hx2 with h2 | h2
            · exact hacc x h2
            · rw [List.mem_singleton.1 h2]; exact hsl
          · rw [strRows_snoc]
            simp -dsimp -implicitDefEqProofs only [↓Ev.xStp_eq, ↓Ev.P, Ev.Q, Bool.cond_true, Bool.cond_false, eq_self, forall_eq_or_imp, implies_true, forall_const, forall_eq, ↓reduceIte, reduceIte, Nat.reduceEqDiff, Nat.reduceAdd, reduceCtorEq, Nat.reduceSub, Int.reduceToNat, Int.reduceLE, Int.reduceLT, Int.reduceNeg, Nat.reduceBEq, Nat.reduceMul, Nat.reduceLeDiff, Nat.reduceMod, UInt8.reduceOfNat, Nat.reduceLT, Int.reduceEq, Int.reduceAdd, Int.reduceSub, Int.reduceMul]
            all_goals rfl
    · have e0 : L.length - k = 0 := by omega
      rw [e0, bodyL] at hgo
      subst hgo
      rw [bodK_error] at hk
      unfold fltV at hk
      have hx := nextL_end hlt
      simp -dsimp -implicitDefEqProofs only [hx, CNextE, fltV, Ev.panK, edC_wp, edK_ok, edK_error, map_ok, map_error, strA, unStr_rows, strRows_len, List.length_append, ↓Ev.P, Ev.Q, Bool.cond_true, Bool.cond_false, eq_self, forall_eq_or_imp, implies_true, forall_const, forall_eq, ↓reduceIte, reduceIte, Nat.reduceEqDiff, Nat.reduceAdd, reduceCtorEq, Nat.reduceSub, Int.reduceToNat, Int.reduceLE, Int.reduceLT, Int.reduceNeg, Nat.reduceBEq, Nat.reduceMul, Nat.reduceLeDiff, Nat.reduceMod, UInt8.reduceOfNat, Nat.reduceLT, Int.reduceEq, Int.reduceAdd, Int.reduceSub, Int.reduceMul]
      repeat' (first | with_reducible assumption | refine And.intro ?_ ?_ | intro _ | (rw [Ev.xStp_eq]; simp -dsimp -implicitDefEqProofs only [hx, CNextE, fltV, Ev.panK, edC_wp, edK_ok, edK_error, map_ok, map_error, strA, unStr_rows, strRows_len, List.length_append, ↓Ev.P, Ev.Q, Bool.cond_true, Bool.cond_false, eq_self, forall_eq_or_imp, implies_true, forall_const, forall_eq, ↓reduceIte, reduceIte, Nat.reduceEqDiff, Nat.reduceAdd, reduceCtorEq, Nat.reduceSub, Int.reduceToNat, Int.reduceLE, Int.reduceLT, Int.reduceNeg, Nat.reduceBEq, Nat.reduceMul, Nat.reduceLeDiff, Nat.reduceMod, UInt8.reduceOfNat, Nat.reduceLT, Int.reduceEq, Int.reduceAdd, Int.reduceSub, Int.reduceMul]))
      all_goals try omega
      all_goals exact hk
theorem parseS_comma (l : List UInt8) (h : (parseS l).2 = 0) : 44 ∉ l := by
  unfold parseS at h
  repeat' split at h
  all_goals simp at h
  rename_i h1 h2 h3
  intro hm
  have h4 : l.all dig = true := by simpa using h2
  have := List.all_eq_true.1 h4 44 hm
  revert this; decide
theorem cutG_no {s : List UInt8} (h : cutK 44 s = none) : cutG 44 s = (s, []) := by rw [cutG, h]; rfl
theorem cutK_bar {s p q : List UInt8} (h : cutK 44 s = some (p, q)) : 44 ∈ s := by
  apply Classical.byContradiction
  intro hn
  rw [cutK_non hn] at h; cases h
theorem parse_cut {s p q : List UInt8} (h : cutK 44 s = some (p, q)) : ¬ (parseS s).2 = 0 := fun hp => parseS_comma s hp (cutK_bar h)
def plK (a : Int) : Except Int (Int × Int) → Except Fl (SV × Int)
  | .ok (p, n) => .ok (.tup [.d (.v (.int .i64 p)), .d (.v (.int .i64 n))], a)
  | .error e => .error (a, e)
def CPlaceE : Contract := edC fun L n at_ rest => match rest with
  | [.d (.v (.string s)), .d (.v (.int .u8 v))] => some ((n ≤ 1099511627776 ∧ s.size ≤ 1099511627776), plK at_ (placeE n s.data.toList v))
  | _ => none
set_option maxHeartbeats 8000000 in
theorem s98 (hE : ∀ w, G w → ErrR w) : Sound G Tryz.prog 98 CPlaceE := by
  refine sd98 (T := tabT [(85, CCutC), (86, CParse), (48, CStopE)]) (tab_cons sCutCs (tab_cons (s86 hE) (tab_cons s48 tab_nil))) (edC_lawful _) (ed_hX fun t u z X L c at_ rest p y K h hp hk => ?_)
  split at h <;> simp only [Option.some.injEq, Prod.mk.injEq, reduceCtorEq] at h
  obtain ⟨rfl, rfl⟩ := h
  rename_i s v
  obtain ⟨s, rfl⟩ := ex_str s
  simp only [sem_str] at hp hk
  obtain ⟨h1, h2⟩ := hp
  refine ⟨Nat.le_of_ble_eq_true rfl, ?_⟩
  have hl := cutG_len 44 s
  by_cases hv : v = 97
  · rw [placeE, if_pos hv] at hk
    cases hc : cutK 44 s with
    | some pq =>
      obtain ⟨a, b⟩ := pq
      rw [if_neg (parse_cut hc)] at hk
      have hi : (cutK 44 s).isSome = true := by rw [hc]; rfl
      simp only [plK, edK_error] at hk
      unfold fltV at hk
      simp -dsimp -implicitDefEqProofs only [S98, R98, hv, hc, hi, Option.isSome_some, CCutC, CParse, CStopE, fltV, Ev.panK, edC_wp, unStr_rows, edK_ok, edK_error, ↓Ev.P, Ev.Q, Bool.cond_true, Bool.cond_false, eq_self, forall_eq_or_imp, implies_true, forall_const, forall_eq, ↓reduceIte, reduceIte, Nat.reduceEqDiff, Nat.reduceAdd, reduceCtorEq, Nat.reduceSub, Int.reduceToNat, Int.reduceLE, Int.reduceLT, Int.reduceNeg, Nat.reduceBEq, Nat.reduceMul, Nat.reduceLeDiff, Nat.reduceMod, UInt8.reduceOfNat, Nat.reduceLT, Int.reduceEq, Int.reduceAdd, Int.reduceSub, Int.reduceMul]
      repeat' (first | with_reducible assumption | refine And.intro ?_ ?_ | intro _ | (rw [Ev.xStp_eq]; simp -dsimp -implicitDefEqProofs only [S98, R98, hv, hc, hi, Option.isSome_some, CCutC, CParse, CStopE, fltV, Ev.panK, edC_wp, unStr_rows, edK_ok, edK_error, ↓Ev.P, Ev.Q, Bool.cond_true, Bool.cond_false, eq_self, forall_eq_or_imp, implies_true, forall_const, forall_eq, ↓reduceIte, reduceIte, Nat.reduceEqDiff, Nat.reduceAdd, reduceCtorEq, Nat.reduceSub, Int.reduceToNat, Int.reduceLE, Int.reduceLT, Int.reduceNeg, Nat.reduceBEq, Nat.reduceMul, Nat.reduceLeDiff, Nat.reduceMod, UInt8.reduceOfNat, Nat.reduceLT, Int.reduceEq, Int.reduceAdd, Int.reduceSub, Int.reduceMul]))
      all_goals try omega
      all_goals exact hk
    | none =>
      have hi : (cutK 44 s).isSome = false := by rw [hc]; rfl
      have hg := cutG_no hc
      have b1 := parseS_bd s
      generalize hq : parseS s = pe at hk b1
      obtain ⟨p, e⟩ := pe
      dsimp only at hk b1
      by_cases he : e = 0
      · rw [if_pos he] at hk
        by_cases hr : (X.length : Int) < p
        · rw [if_pos hr] at hk
          simp only [plK, edK_error] at hk
          unfold fltV at hk
          simp -dsimp -implicitDefEqProofs only [S98, R98, hv, hc, hi, hg, hq, he, hr, Option.isSome_none, CCutC, CParse, CStopE, fltV, Ev.panK, edC_wp, unStr_rows, edK_ok, edK_error, ↓Ev.P, Ev.Q, Bool.cond_true, Bool.cond_false, eq_self, forall_eq_or_imp, implies_true, forall_const, forall_eq, ↓reduceIte, reduceIte, Nat.reduceEqDiff, Nat.reduceAdd, reduceCtorEq, Nat.reduceSub, Int.reduceToNat, Int.reduceLE, Int.reduceLT, Int.reduceNeg, Nat.reduceBEq, Nat.reduceMul, Nat.reduceLeDiff, Nat.reduceMod, UInt8.reduceOfNat, Nat.reduceLT, Int.reduceEq, Int.reduceAdd, Int.reduceSub, Int.reduceMul]
          repeat' (first | with_reducible assumption | refine And.intro ?_ ?_ | intro _ | (rw [Ev.xStp_eq]; simp -dsimp -implicitDefEqProofs only [S98, R98, hv, hc, hi, hg, hq, he, hr, Option.isSome_none, CCutC, CParse, CStopE, fltV, Ev.panK, edC_wp, unStr_rows, edK_ok, edK_error, ↓Ev.P, Ev.Q, Bool.cond_true, Bool.cond_false, eq_self, forall_eq_or_imp, implies_true, forall_const, forall_eq, ↓reduceIte, reduceIte, Nat.reduceEqDiff, Nat.reduceAdd, reduceCtorEq, Nat.reduceSub, Int.reduceToNat, Int.reduceLE, Int.reduceLT, Int.reduceNeg, Nat.reduceBEq, Nat.reduceMul, Nat.reduceLeDiff, Nat.reduceMod, UInt8.reduceOfNat, Nat.reduceLT, Int.reduceEq, Int.reduceAdd, Int.reduceSub, Int.reduceMul]))
          all_goals try omega
          all_goals exact hk
        · rw [if_neg hr] at hk
          simp only [plK, edK_ok] at hk
          simp -dsimp -implicitDefEqProofs only [S98, R98, hv, hc, hi, hg, hq, he, hr, Option.isSome_none, CCutC, CParse, CStopE, fltV, Ev.panK, edC_wp, unStr_rows, edK_ok, edK_error, ↓Ev.P, Ev.Q, Bool.cond_true, Bool.cond_false, eq_self, forall_eq_or_imp, implies_true, forall_const, forall_eq, ↓reduceIte, reduceIte, Nat.reduceEqDiff, Nat.reduceAdd, reduceCtorEq, Nat.reduceSub, Int.reduceToNat, Int.reduceLE, Int.reduceLT, Int.reduceNeg, Nat.reduceBEq, Nat.reduceMul, Nat.reduceLeDiff, Nat.reduceMod, UInt8.reduceOfNat, Nat.reduceLT, Int.reduceEq, Int.reduceAdd, Int.reduceSub, Int.reduceMul]
          repeat' (first | with_reducible assumption | refine And.intro ?_ ?_ | intro _ | (rw [Ev.xStp_eq]; simp -dsimp -implicitDefEqProofs only [S98, R98, hv, hc, hi, hg, hq, he, hr, Option.isSome_none, CCutC, CParse, CStopE, fltV, Ev.panK, edC_wp, unStr_rows, edK_ok, edK_error, ↓Ev.P, Ev.Q, Bool.cond_true, Bool.cond_false, eq_self, forall_eq_or_imp, implies_true, forall_const, forall_eq, ↓reduceIte, reduceIte, Nat.reduceEqDiff, Nat.reduceAdd, reduceCtorEq, Nat.reduceSub, Int.reduceToNat, Int.reduceLE, Int.reduceLT, Int.reduceNeg, Nat.reduceBEq, Nat.reduceMul, Nat.reduceLeDiff, Nat.reduceMod, UInt8.reduceOfNat, Nat.reduceLT, Int.reduceEq, Int.reduceAdd, Int.reduceSub, Int.reduceMul]))
          all_goals try omega
          all_goals exact hk
      · rw [if_neg he] at hk
        simp only [plK, edK_error] at hk
        unfold fltV at hk
        simp -dsimp -implicitDefEqProofs only [S98, R98, hv, hc, hi, hg, hq, he, Option.isSome_none, CCutC, CParse, CStopE, fltV, Ev.panK, edC_wp, unStr_rows, edK_ok, edK_error, ↓Ev.P, Ev.Q, Bool.cond_true, Bool.cond_false, eq_self, forall_eq_or_imp, implies_true, forall_const, forall_eq, ↓reduceIte, reduceIte, Nat.reduceEqDiff, Nat.reduceAdd, reduceCtorEq, Nat.reduceSub, Int.reduceToNat, Int.reduceLE, Int.reduceLT, Int.reduceNeg, Nat.reduceBEq, Nat.reduceMul, Nat.reduceLeDiff, Nat.reduceMod, UInt8.reduceOfNat, Nat.reduceLT, Int.reduceEq, Int.reduceAdd, Int.reduceSub, Int.reduceMul]
        repeat' (first | with_reducible assumption | refine And.intro ?_ ?_ | intro _ | (rw [Ev.xStp_eq]; simp -dsimp -implicitDefEqProofs only [S98, R98, hv, hc, hi, hg, hq, he, Option.isSome_none, CCutC, CParse, CStopE, fltV, Ev.panK, edC_wp, unStr_rows, edK_ok, edK_error, ↓Ev.P, Ev.Q, Bool.cond_true, Bool.cond_false, eq_self, forall_eq_or_imp, implies_true, forall_const, forall_eq, ↓reduceIte, reduceIte, Nat.reduceEqDiff, Nat.reduceAdd, reduceCtorEq, Nat.reduceSub, Int.reduceToNat, Int.reduceLE, Int.reduceLT, Int.reduceNeg, Nat.reduceBEq, Nat.reduceMul, Nat.reduceLeDiff, Nat.reduceMod, UInt8.reduceOfNat, Nat.reduceLT, Int.reduceEq, Int.reduceAdd, Int.reduceSub, Int.reduceMul]))
        all_goals try omega
        all_goals exact hk
  · rw [placeE, if_neg hv] at hk
    cases hc : cutK 44 s with
    | some ab =>
      obtain ⟨a, b⟩ := ab
      have hi : (cutK 44 s).isSome = true := by rw [hc]; rfl
      have hg : cutG 44 s = (a, b) := by rw [cutG, hc]; rfl
      rw [hg] at hl
      dsimp only at hl
      simp only [sevL, hc] at hk
      have b1 := parseS_bd a
      have b2 := parseS_bd b
      generalize hq : parseS a = pe at hk b1
      generalize hq2 : parseS b = qf at hk b2
      obtain ⟨p, e⟩ := pe
      obtain ⟨q, f⟩ := qf
      dsimp only at hk b1 b2
      by_cases hf : f = 0
      · by_cases hqp : q ≤ p
        · have _t := trivial
          rw [if_neg (by simp only [decide_eq_true_eq]; omega)] at hk
          simp only [plK, edK_error] at hk
          unfold fltV at hk
          simp -dsimp -implicitDefEqProofs only [S98, R98, hv, hc, hi, hg, hq, hq2, Option.isSome_some, hf, hqp, CCutC, CParse, CStopE, fltV, Ev.panK, edC_wp, unStr_rows, edK_ok, edK_error, ↓Ev.P, Ev.Q, Bool.cond_true, Bool.cond_false, eq_self, forall_eq_or_imp, implies_true, forall_const, forall_eq, ↓reduceIte, reduceIte, Nat.reduceEqDiff, Nat.reduceAdd, reduceCtorEq, Nat.reduceSub, Int.reduceToNat, Int.reduceLE, Int.reduceLT, Int.reduceNeg, Nat.reduceBEq, Nat.reduceMul, Nat.reduceLeDiff, Nat.reduceMod, UInt8.reduceOfNat, Nat.reduceLT, Int.reduceEq, Int.reduceAdd, Int.reduceSub, Int.reduceMul]
          repeat' (first | with_reducible assumption | refine And.intro ?_ ?_ | intro _ | (rw [Ev.xStp_eq]; simp -dsimp -implicitDefEqProofs only [S98, R98, hv, hc, hi, hg, hq, hq2, Option.isSome_some, hf, hqp, CCutC, CParse, CStopE, fltV, Ev.panK, edC_wp, unStr_rows, edK_ok, edK_error, ↓Ev.P, Ev.Q, Bool.cond_true, Bool.cond_false, eq_self, forall_eq_or_imp, implies_true, forall_const, forall_eq, ↓reduceIte, reduceIte, Nat.reduceEqDiff, Nat.reduceAdd, reduceCtorEq, Nat.reduceSub, Int.reduceToNat, Int.reduceLE, Int.reduceLT, Int.reduceNeg, Nat.reduceBEq, Nat.reduceMul, Nat.reduceLeDiff, Nat.reduceMod, UInt8.reduceOfNat, Nat.reduceLT, Int.reduceEq, Int.reduceAdd, Int.reduceSub, Int.reduceMul]))
          all_goals try omega
          all_goals exact hk
        · by_cases he : e = 0
          · by_cases hp0 : p = 0
            · have _t := trivial
              rw [if_neg (by simp only [decide_eq_true_eq]; omega)] at hk
              simp only [plK, edK_error] at hk
              unfold fltV at hk
              simp -dsimp -implicitDefEqProofs only [S98, R98, hv, hc, hi, hg, hq, hq2, Option.isSome_some, hf, hqp, he, hp0, CCutC, CParse, CStopE, fltV, Ev.panK, edC_wp, unStr_rows, edK_ok, edK_error, ↓Ev.P, Ev.Q, Bool.cond_true, Bool.cond_false, eq_self, forall_eq_or_imp, implies_true, forall_const, forall_eq, ↓reduceIte, reduceIte, Nat.reduceEqDiff, Nat.reduceAdd, reduceCtorEq, Nat.reduceSub, Int.reduceToNat, Int.reduceLE, Int.reduceLT, Int.reduceNeg, Nat.reduceBEq, Nat.reduceMul, Nat.reduceLeDiff, Nat.reduceMod, UInt8.reduceOfNat, Nat.reduceLT, Int.reduceEq, Int.reduceAdd, Int.reduceSub, Int.reduceMul]
              repeat' (first | with_reducible assumption | refine And.intro ?_ ?_ | intro _ | (rw [Ev.xStp_eq]; simp -dsimp -implicitDefEqProofs only [S98, R98, hv, hc, hi, hg, hq, hq2, Option.isSome_some, hf, hqp, he, hp0, CCutC, CParse, CStopE, fltV, Ev.panK, edC_wp, unStr_rows, edK_ok, edK_error, ↓Ev.P, Ev.Q, Bool.cond_true, Bool.cond_false, eq_self, forall_eq_or_imp, implies_true, forall_const, forall_eq, ↓reduceIte, reduceIte, Nat.reduceEqDiff, Nat.reduceAdd, reduceCtorEq, Nat.reduceSub, Int.reduceToNat, Int.reduceLE, Int.reduceLT, Int.reduceNeg, Nat.reduceBEq, Nat.reduceMul, Nat.reduceLeDiff, Nat.reduceMod, UInt8.reduceOfNat, Nat.reduceLT, Int.reduceEq, Int.reduceAdd, Int.reduceSub, Int.reduceMul]))
              all_goals try omega
              all_goals exact hk
            · rw [if_pos (by simp only [decide_eq_true_eq]; omega)] at hk
              rw [show p + (q - p + 1) - 1 = q by omega] at hk
              by_cases hr : (X.length : Int) < q
              · rw [if_pos hr] at hk
                simp only [plK, edK_error] at hk
                unfold fltV at hk
                simp -dsimp -implicitDefEqProofs only [S98, R98, hv, hc, hi, hg, hq, hq2, Option.isSome_some, hf, hqp, he, hp0, hr, CCutC, CParse, CStopE, fltV, Ev.panK, edC_wp, unStr_rows, edK_ok, edK_error, ↓Ev.P, Ev.Q, Bool.cond_true, Bool.cond_false, eq_self, forall_eq_or_imp, implies_true, forall_const, forall_eq, ↓reduceIte, reduceIte, Nat.reduceEqDiff, Nat.reduceAdd, reduceCtorEq, Nat.reduceSub, Int.reduceToNat, Int.reduceLE, Int.reduceLT, Int.reduceNeg, Nat.reduceBEq, Nat.reduceMul, Nat.reduceLeDiff, Nat.reduceMod, UInt8.reduceOfNat, Nat.reduceLT, Int.reduceEq, Int.reduceAdd, Int.reduceSub, Int.reduceMul]
                repeat' (first | with_reducible assumption | refine And.intro ?_ ?_ | intro _ | (rw [Ev.xStp_eq]; simp -dsimp -implicitDefEqProofs only [S98, R98, hv, hc, hi, hg, hq, hq2, Option.isSome_some, hf, hqp, he, hp0, hr, CCutC, CParse, CStopE, fltV, Ev.panK, edC_wp, unStr_rows, edK_ok, edK_error, ↓Ev.P, Ev.Q, Bool.cond_true, Bool.cond_false, eq_self, forall_eq_or_imp, implies_true, forall_const, forall_eq, ↓reduceIte, reduceIte, Nat.reduceEqDiff, Nat.reduceAdd, reduceCtorEq, Nat.reduceSub, Int.reduceToNat, Int.reduceLE, Int.reduceLT, Int.reduceNeg, Nat.reduceBEq, Nat.reduceMul, Nat.reduceLeDiff, Nat.reduceMod, UInt8.reduceOfNat, Nat.reduceLT, Int.reduceEq, Int.reduceAdd, Int.reduceSub, Int.reduceMul]))
                all_goals try omega
                all_goals exact hk
              · rw [if_neg hr] at hk
                simp only [plK, edK_ok] at hk
                simp -dsimp -implicitDefEqProofs only [S98, R98, hv, hc, hi, hg, hq, hq2, Option.isSome_some, hf, hqp, he, hp0, hr, CCutC, CParse, CStopE, fltV, Ev.panK, edC_wp, unStr_rows, edK_ok, edK_error, ↓Ev.P, Ev.Q, Bool.cond_true, Bool.cond_false, eq_self, forall_eq_or_imp, implies_true, forall_const, forall_eq, ↓reduceIte, reduceIte, Nat.reduceEqDiff, Nat.reduceAdd, reduceCtorEq, Nat.reduceSub, Int.reduceToNat, Int.reduceLE, Int.reduceLT, Int.reduceNeg, Nat.reduceBEq, Nat.reduceMul, Nat.reduceLeDiff, Nat.reduceMod, UInt8.reduceOfNat, Nat.reduceLT, Int.reduceEq, Int.reduceAdd, Int.reduceSub, Int.reduceMul]
                repeat' (first | with_reducible assumption | refine And.intro ?_ ?_ | intro _ | (rw [Ev.xStp_eq]; simp -dsimp -implicitDefEqProofs only [S98, R98, hv, hc, hi, hg, hq, hq2, Option.isSome_some, hf, hqp, he, hp0, hr, CCutC, CParse, CStopE, fltV, Ev.panK, edC_wp, unStr_rows, edK_ok, edK_error, ↓Ev.P, Ev.Q, Bool.cond_true, Bool.cond_false, eq_self, forall_eq_or_imp, implies_true, forall_const, forall_eq, ↓reduceIte, reduceIte, Nat.reduceEqDiff, Nat.reduceAdd, reduceCtorEq, Nat.reduceSub, Int.reduceToNat, Int.reduceLE, Int.reduceLT, Int.reduceNeg, Nat.reduceBEq, Nat.reduceMul, Nat.reduceLeDiff, Nat.reduceMod, UInt8.reduceOfNat, Nat.reduceLT, Int.reduceEq, Int.reduceAdd, Int.reduceSub, Int.reduceMul]))
                all_goals try omega
                all_goals exact hk
          · have _t := trivial
            rw [if_neg (by simp only [decide_eq_true_eq]; omega)] at hk
            simp only [plK, edK_error] at hk
            unfold fltV at hk
            simp -dsimp -implicitDefEqProofs only [S98, R98, hv, hc, hi, hg, hq, hq2, Option.isSome_some, hf, hqp, he, CCutC, CParse, CStopE, fltV, Ev.panK, edC_wp, unStr_rows, edK_ok, edK_error, ↓Ev.P, Ev.Q, Bool.cond_true, Bool.cond_false, eq_self, forall_eq_or_imp, implies_true, forall_const, forall_eq, ↓reduceIte, reduceIte, Nat.reduceEqDiff, Nat.reduceAdd, reduceCtorEq, Nat.reduceSub, Int.reduceToNat, Int.reduceLE, Int.reduceLT, Int.reduceNeg, Nat.reduceBEq, Nat.reduceMul, Nat.reduceLeDiff, Nat.reduceMod, UInt8.reduceOfNat, Nat.reduceLT, Int.reduceEq, Int.reduceAdd, Int.reduceSub, Int.reduceMul]
            repeat' (first | with_reducible assumption | refine And.intro ?_ ?_ | intro _ | (rw [Ev.xStp_eq]; simp -dsimp -implicitDefEqProofs only [S98, R98, hv, hc, hi, hg, hq, hq2, Option.isSome_some, hf, hqp, he, CCutC, CParse, CStopE, fltV, Ev.panK, edC_wp, unStr_rows, edK_ok, edK_error, ↓Ev.P, Ev.Q, Bool.cond_true, Bool.cond_false, eq_self, forall_eq_or_imp, implies_true, forall_const, forall_eq, ↓reduceIte, reduceIte, Nat.reduceEqDiff, Nat.reduceAdd, reduceCtorEq, Nat.reduceSub, Int.reduceToNat, Int.reduceLE, Int.reduceLT, Int.reduceNeg, Nat.reduceBEq, Nat.reduceMul, Nat.reduceLeDiff, Nat.reduceMod, UInt8.reduceOfNat, Nat.reduceLT, Int.reduceEq, Int.reduceAdd, Int.reduceSub, Int.reduceMul]))
            all_goals try omega
            all_goals exact hk
      · have _t := trivial
        rw [if_neg (by simp only [decide_eq_true_eq]; omega)] at hk
        simp only [plK, edK_error] at hk
        unfold fltV at hk
        simp -dsimp -implicitDefEqProofs only [S98, R98, hv, hc, hi, hg, hq, hq2, Option.isSome_some, hf, CCutC, CParse, CStopE, fltV, Ev.panK, edC_wp, unStr_rows, edK_ok, edK_error, ↓Ev.P, Ev.Q, Bool.cond_true, Bool.cond_false, eq_self, forall_eq_or_imp, implies_true, forall_const, forall_eq, ↓reduceIte, reduceIte, Nat.reduceEqDiff, Nat.reduceAdd, reduceCtorEq, Nat.reduceSub, Int.reduceToNat, Int.reduceLE, Int.reduceLT, Int.reduceNeg, Nat.reduceBEq, Nat.reduceMul, Nat.reduceLeDiff, Nat.reduceMod, UInt8.reduceOfNat, Nat.reduceLT, Int.reduceEq, Int.reduceAdd, Int.reduceSub, Int.reduceMul]
        repeat' (first | with_reducible assumption | refine And.intro ?_ ?_ | intro _ | (rw [Ev.xStp_eq]; simp -dsimp -implicitDefEqProofs only [S98, R98, hv, hc, hi, hg, hq, hq2, Option.isSome_some, hf, CCutC, CParse, CStopE, fltV, Ev.panK, edC_wp, unStr_rows, edK_ok, edK_error, ↓Ev.P, Ev.Q, Bool.cond_true, Bool.cond_false, eq_self, forall_eq_or_imp, implies_true, forall_const, forall_eq, ↓reduceIte, reduceIte, Nat.reduceEqDiff, Nat.reduceAdd, reduceCtorEq, Nat.reduceSub, Int.reduceToNat, Int.reduceLE, Int.reduceLT, Int.reduceNeg, Nat.reduceBEq, Nat.reduceMul, Nat.reduceLeDiff, Nat.reduceMod, UInt8.reduceOfNat, Nat.reduceLT, Int.reduceEq, Int.reduceAdd, Int.reduceSub, Int.reduceMul]))
        all_goals try omega
        all_goals exact hk
    | none =>
      have hi : (cutK 44 s).isSome = false := by rw [hc]; rfl
      have hg := cutG_no hc
      simp only [sevL, hc] at hk
      have b1 := parseS_bd s
      generalize hq : parseS s = pe at hk b1
      obtain ⟨p, e⟩ := pe
      dsimp only at hk b1
      by_cases he : e = 0
      · by_cases hp0 : p = 0
        · have _t := trivial
          rw [if_neg (by simp only [decide_eq_true_eq]; omega)] at hk
          simp only [plK, edK_error] at hk
          unfold fltV at hk
          simp -dsimp -implicitDefEqProofs only [S98, R98, hv, hc, hi, hg, hq, Option.isSome_none, he, hp0, CCutC, CParse, CStopE, fltV, Ev.panK, edC_wp, unStr_rows, edK_ok, edK_error, ↓Ev.P, Ev.Q, Bool.cond_true, Bool.cond_false, eq_self, forall_eq_or_imp, implies_true, forall_const, forall_eq, ↓reduceIte, reduceIte, Nat.reduceEqDiff, Nat.reduceAdd, reduceCtorEq, Nat.reduceSub, Int.reduceToNat, Int.reduceLE, Int.reduceLT, Int.reduceNeg, Nat.reduceBEq, Nat.reduceMul, Nat.reduceLeDiff, Nat.reduceMod, UInt8.reduceOfNat, Nat.reduceLT, Int.reduceEq, Int.reduceAdd, Int.reduceSub, Int.reduceMul]
          repeat' (first | with_reducible assumption | refine And.intro ?_ ?_ | intro _ | (rw [Ev.xStp_eq]; simp -dsimp -implicitDefEqProofs only [S98, R98, hv, hc, hi, hg, hq, Option.isSome_none, he, hp0, CCutC, CParse, CStopE, fltV, Ev.panK, edC_wp, unStr_rows, edK_ok, edK_error, ↓Ev.P, Ev.Q, Bool.cond_true, Bool.cond_false, eq_self, forall_eq_or_imp, implies_true, forall_const, forall_eq, ↓reduceIte, reduceIte, Nat.reduceEqDiff, Nat.reduceAdd, reduceCtorEq, Nat.reduceSub, Int.reduceToNat, Int.reduceLE, Int.reduceLT, Int.reduceNeg, Nat.reduceBEq, Nat.reduceMul, Nat.reduceLeDiff, Nat.reduceMod, UInt8.reduceOfNat, Nat.reduceLT, Int.reduceEq, Int.reduceAdd, Int.reduceSub, Int.reduceMul]))
          all_goals try omega
          all_goals exact hk
        · rw [if_pos (by simp only [decide_eq_true_eq]; omega)] at hk
          rw [show p + 1 - 1 = p by omega] at hk
          by_cases hr : (X.length : Int) < p
          · rw [if_pos hr] at hk
            simp only [plK, edK_error] at hk
            unfold fltV at hk
            simp -dsimp -implicitDefEqProofs only [S98, R98, hv, hc, hi, hg, hq, Option.isSome_none, he, hp0, hr, CCutC, CParse, CStopE, fltV, Ev.panK, edC_wp, unStr_rows, edK_ok, edK_error, ↓Ev.P, Ev.Q, Bool.cond_true, Bool.cond_false, eq_self, forall_eq_or_imp, implies_true, forall_const, forall_eq, ↓reduceIte, reduceIte, Nat.reduceEqDiff, Nat.reduceAdd, reduceCtorEq, Nat.reduceSub, Int.reduceToNat, Int.reduceLE, Int.reduceLT, Int.reduceNeg, Nat.reduceBEq, Nat.reduceMul, Nat.reduceLeDiff, Nat.reduceMod, UInt8.reduceOfNat, Nat.reduceLT, Int.reduceEq, Int.reduceAdd, Int.reduceSub, Int.reduceMul]
            repeat' (first | with_reducible assumption | refine And.intro ?_ ?_ | intro _ | (rw [Ev.xStp_eq]; simp -dsimp -implicitDefEqProofs only [S98, R98, hv, hc, hi, hg, hq, Option.isSome_none, he, hp0, hr, CCutC, CParse, CStopE, fltV, Ev.panK, edC_wp, unStr_rows, edK_ok, edK_error, ↓Ev.P, Ev.Q, Bool.cond_true, Bool.cond_false, eq_self, forall_eq_or_imp, implies_true, forall_const, forall_eq, ↓reduceIte, reduceIte, Nat.reduceEqDiff, Nat.reduceAdd, reduceCtorEq, Nat.reduceSub, Int.reduceToNat, Int.reduceLE, Int.reduceLT, Int.reduceNeg, Nat.reduceBEq, Nat.reduceMul, Nat.reduceLeDiff, Nat.reduceMod, UInt8.reduceOfNat, Nat.reduceLT, Int.reduceEq, Int.reduceAdd, Int.reduceSub, Int.reduceMul]))
            all_goals try omega
            all_goals exact hk
          · rw [if_neg hr] at hk
            simp only [plK, edK_ok] at hk
            simp -dsimp -implicitDefEqProofs only [S98, R98, hv, hc, hi, hg, hq, Option.isSome_none, he, hp0, hr, CCutC, CParse, CStopE, fltV, Ev.panK, edC_wp, unStr_rows, edK_ok, edK_error, ↓Ev.P, Ev.Q, Bool.cond_true, Bool.cond_false, eq_self, forall_eq_or_imp, implies_true, forall_const, forall_eq, ↓reduceIte, reduceIte, Nat.reduceEqDiff, Nat.reduceAdd, reduceCtorEq, Nat.reduceSub, Int.reduceToNat, Int.reduceLE, Int.reduceLT, Int.reduceNeg, Nat.reduceBEq, Nat.reduceMul, Nat.reduceLeDiff, Nat.reduceMod, UInt8.reduceOfNat, Nat.reduceLT, Int.reduceEq, Int.reduceAdd, Int.reduceSub, Int.reduceMul]
            repeat' (first | with_reducible assumption | refine And.intro ?_ ?_ | intro _ | (rw [Ev.xStp_eq]; simp -dsimp -implicitDefEqProofs only [S98, R98, hv, hc, hi, hg, hq, Option.isSome_none, he, hp0, hr, CCutC, CParse, CStopE, fltV, Ev.panK, edC_wp, unStr_rows, edK_ok, edK_error, ↓Ev.P, Ev.Q, Bool.cond_true, Bool.cond_false, eq_self, forall_eq_or_imp, implies_true, forall_const, forall_eq, ↓reduceIte, reduceIte, Nat.reduceEqDiff, Nat.reduceAdd, reduceCtorEq, Nat.reduceSub, Int.reduceToNat, Int.reduceLE, Int.reduceLT, Int.reduceNeg, Nat.reduceBEq, Nat.reduceMul, Nat.reduceLeDiff, Nat.reduceMod, UInt8.reduceOfNat, Nat.reduceLT, Int.reduceEq, Int.reduceAdd, Int.reduceSub, Int.reduceMul]))
            all_goals try omega
            all_goals (rw [show p - p + 1 = 1 by omega]; exact hk)
      · have _t := trivial
        rw [if_neg (by simp only [decide_eq_true_eq]; omega)] at hk
        simp only [plK, edK_error] at hk
        unfold fltV at hk
        simp -dsimp -implicitDefEqProofs only [S98, R98, hv, hc, hi, hg, hq, Option.isSome_none, he, CCutC, CParse, CStopE, fltV, Ev.panK, edC_wp, unStr_rows, edK_ok, edK_error, ↓Ev.P, Ev.Q, Bool.cond_true, Bool.cond_false, eq_self, forall_eq_or_imp, implies_true, forall_const, forall_eq, ↓reduceIte, reduceIte, Nat.reduceEqDiff, Nat.reduceAdd, reduceCtorEq, Nat.reduceSub, Int.reduceToNat, Int.reduceLE, Int.reduceLT, Int.reduceNeg, Nat.reduceBEq, Nat.reduceMul, Nat.reduceLeDiff, Nat.reduceMod, UInt8.reduceOfNat, Nat.reduceLT, Int.reduceEq, Int.reduceAdd, Int.reduceSub, Int.reduceMul]
        repeat' (first | with_reducible assumption | refine And.intro ?_ ?_ | intro _ | (rw [Ev.xStp_eq]; simp -dsimp -implicitDefEqProofs only [S98, R98, hv, hc, hi, hg, hq, Option.isSome_none, he, CCutC, CParse, CStopE, fltV, Ev.panK, edC_wp, unStr_rows, edK_ok, edK_error, ↓Ev.P, Ev.Q, Bool.cond_true, Bool.cond_false, eq_self, forall_eq_or_imp, implies_true, forall_const, forall_eq, ↓reduceIte, reduceIte, Nat.reduceEqDiff, Nat.reduceAdd, reduceCtorEq, Nat.reduceSub, Int.reduceToNat, Int.reduceLE, Int.reduceLT, Int.reduceNeg, Nat.reduceBEq, Nat.reduceMul, Nat.reduceLeDiff, Nat.reduceMod, UInt8.reduceOfNat, Nat.reduceLT, Int.reduceEq, Int.reduceAdd, Int.reduceSub, Int.reduceMul]))
        all_goals try omega
        all_goals exact hk
end Go.Proofs.YtlghobefhmpfkaaGreatDoor
