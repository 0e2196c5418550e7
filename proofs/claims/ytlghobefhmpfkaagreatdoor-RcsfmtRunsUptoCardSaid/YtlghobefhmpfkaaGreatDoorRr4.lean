/- RcsfmtRuns: any text is run over any lines, or refused with the line and the reason that the chapter gives, for all arguments that the statement names. Part 4 of 5. -/
import Derived.Lib.IndexBytes
import Derived.Test.YtlghobefhmpfkaaGreatDoorProg
import Derived.Shelf.Strings.Builder1
import Derived.Shelf.Small.Utf8
import Derived.Shelf.Small.Strs
import Derived.Shelf.Strings.BuilderF
import Derived.Shelf.Strconv.Atoi
import Derived.Shelf.Strconv.Itoa0
import Derived.Shelf.Strconv.Itoa1
import Derived.Shelf.LaysM
import Derived.Shelf.Strconv.Itoa2
import Derived.Shelf.Strconv.Itoa3
import Derived.Shelf.Strconv.AtoiErrFast
import Derived.Shelf.Strconv.ParseIntEmpty
import Derived.Shelf.Strconv.AtoiFail
import Derived.Shelf.Strconv.Clone
import Derived.Shelf.Strconv.SyntaxError
import Derived.Shelf.LaysC
import Derived.Shelf.Strconv.ToError
import Derived.Shelf.Strconv.Lower
import Derived.Shelf.Strconv.ParseUint10
import Derived.Shelf.Strconv.ParseUint10Empty
import Derived.Shelf.Strconv.ParseUint10Any
import Derived.Shelf.Strconv.ParseInt10
import Derived.Shelf.Strconv.AtoiLong
import Derived.Shelf.Strconv.AtoiInnerAll
import Derived.Shelf.Strconv.RangeError
import Derived.Shelf.Strconv.ToErrorRange
import Derived.Shelf.Strconv.AtoiAll
import Derived.Shelf.Strconv.ErrVarAll
import Derived.Shelf.Strings.Search1
import Derived.Shelf.Strings.Search2
import Derived.Shelf.Strings.Search3
import Derived.Shelf.Strings.Cut
import Derived.Shelf.Strings.Count
import Derived.Shelf.Strings.Shaped
import Derived.Shelf.Strings.Prefix
import Derived.Shelf.Strings.Runes
import Derived.Shelf.Strings.IndexAny
import Derived.Shelf.Strings.AsciiSet
import Derived.Shelf.Strings.IndexAnyAll
import Derived.Shelf.Unicode.DecodeSlow
import Derived.Lib.AtoiErrMem
import Derived.Laws.RangeAny
import Derived.Test.YtlghobefhmpfkaaGreatDoorRr1
import Derived.Test.YtlghobefhmpfkaaGreatDoorRr2
import Derived.Test.YtlghobefhmpfkaaGreatDoorRr3
set_option linter.unusedVariables false
set_option linter.unusedSimpArgs false
namespace Go.Proofs.YtlghobefhmpfkaaGreatDoor
open Go Go.Ev
set_option maxRecDepth 100000
variable {G : World → Prop}
/-- A library function whose answer leads to new blocks. -/
theorem sound_lib3 {G : World → Prop} {P : Program} {f : FuncId} {g : List SV → Option (Prop × SV)} (hb : HasBody P f)
    (h : ∀ args p x, g args = some (p, x) → p → ∀ w, G w → ∀ m c vs, (∀ a u, c a u → w.cell? a = some u) → CnL m 0 c args vs → Calls P f vs.toArray w fun e w' => (∃ v, e = .returned v ∧ ∀ m n c', (∀ a u, c a u → c' a u) → (∀ a u, w'.cell? a = some u → w.heap.size ≤ a.block → c' a u) → Cn m n c' x v) ∧ RowKit.Below w.heap.size w w') : Sound G P f (pureC g) := by
  refine ⟨pureC_lawful g, ?_, SoundIt.none⟩
  intro H w m B s args vs K hK hO ha
  rw [pureC_wp] at hK
  obtain ⟨p, h1, rfl, h3, h4⟩ := need_ex hK
  refine ⟨hb, (h args p.1 p.2 h1 h3 w hO.gw m _ vs (fun a u hau => hau.1) ha).mono ?_⟩
  rintro e w' ⟨⟨v, rfl, hv⟩, hB⟩
  have hS : Since w m B ⟨0, []⟩ w' m B ⟨0, []⟩ := ⟨hB.os, hB.tape, hB.output, hB.size, fun b hb _ => hB.block b hb, fun b hb => .inl hb, Nat.le_refl _, fun _ _ => rfl, fun o x b _ h1 h2 h3 => .inl ⟨x, h1, h2, h3⟩⟩
  exact ⟨m, B, ⟨0, []⟩, .ret p.2, h4, SOk.empty (fun b hb => Nat.lt_of_lt_of_le (hO.hid b hb) hB.size) (hO.gs hS) _ _, hS, hv _ _ _ hS.vw fun a u h1 h2 => ⟨h1, fun ⟨o, x, e, _⟩ => by simp [lk] at e, fun hh => by have := hO.hid _ hh; omega⟩⟩
/-- The lines of a text. -/
def lns : List UInt8 → List (List UInt8)
  | [] => []
  | c :: r => if c = 10 then [10] :: lns r else match lns r with
    | [] => [[c]]
    | p :: ps => (c :: p) :: ps
/-- The pieces: a last one is empty where the text is, or ends with a line feed. -/
def pcs : List UInt8 → List (List UInt8)
  | [] => [[]]
  | c :: r => if c = 10 then [10] :: pcs r else match pcs r with
    | [] => [[c]]
    | p :: ps => (c :: p) :: ps
theorem pcs_ne : ∀ l, pcs l ≠ []
  | [] => by simp [pcs]
  | c :: r => by
    simp only [pcs]
    split
    · simp
    · split <;> simp
theorem pcs_lns : ∀ l, pcs l = lns l ++ (if l = [] ∨ l.getLast? = some 10 then [[]] else [])
  | [] => by simp [pcs, lns]
  | c :: r => by
    have h := pcs_lns r
    simp only [pcs, lns]
    by_cases hc : c = 10
    · subst hc
      rw [if_pos rfl, if_pos rfl, h, List.cons_append]
      congr 2
      cases r with
      | nil => simp
      | cons d r => simp [List.getLast?_cons_cons]
    · rw [if_neg hc, if_neg hc]
      cases r with
      | nil => simp [pcs, lns, hc]
      | cons d r =>
        have hn : lns (d :: r) ≠ [] := by
          simp only [lns]
          split
          · simp
          · split <;> simp
        cases hl : lns (d :: r) with
        | nil => exact absurd hl hn
        | cons p ps =>
          rw [h, hl]
          simp [List.getLast?_cons_cons]
theorem pcs_pre (p r : List UInt8) (hp : ∀ c ∈ p, c ≠ 10) : pcs (p ++ 10 :: r) = (p ++ [10]) :: pcs r := by
  induction p with
  | nil => simp [pcs]
  | cons c p ih =>
    have h := ih fun d hd => hp d (List.mem_cons_of_mem _ hd)
    simp only [List.cons_append, pcs, if_neg (hp c (List.mem_cons_self ..)), h]
theorem pcs_no (p : List UInt8) (hp : ∀ c ∈ p, c ≠ 10) : pcs p = [p] := by
  induction p with
  | nil => rfl
  | cons c p ih =>
    have h := ih fun d hd => hp d (List.mem_cons_of_mem _ hd)
    simp only [pcs, if_neg (hp c (List.mem_cons_self ..)), h]
theorem feed_or : ∀ l : List UInt8, (∀ c ∈ l, c ≠ 10) ∨ ∃ p r, l = p ++ 10 :: r ∧ ∀ c ∈ p, c ≠ 10
  | [] => .inl (by simp)
  | c :: l => by
    by_cases hc : c = 10
    · exact .inr ⟨[], l, by rw [hc]; rfl, by simp⟩
    · rcases feed_or l with h | ⟨p, r, rfl, h⟩
      · exact .inl (by simp only [List.mem_cons, forall_eq_or_imp]; exact ⟨hc, h⟩)
      · exact .inr ⟨c :: p, r, rfl, by simp only [List.mem_cons, forall_eq_or_imp]; exact ⟨hc, h⟩⟩
theorem occ_at (l : List UInt8) (i : Nat) : Lib.occAt l [10] i = decide (l[i]? = some 10) := by
  unfold Lib.occAt
  cases h : l.drop i with
  | nil =>
    have := List.drop_eq_nil_iff.1 h
    rw [List.getElem?_eq_none this]; rfl
  | cons c r =>
    have : l[i]? = some c := by rw [← List.head?_drop, h]; rfl
    rw [this]
    by_cases hc : c = 10
    · subst hc; simp [List.isPrefixOf]
    · have : ¬ (10 : UInt8) = c := fun e => hc e.symm
      simp [List.isPrefixOf, hc, this]
theorem index_feed (p r : List UInt8) (hp : ∀ c ∈ p, c ≠ 10) : Lib.index (p ++ 10 :: r) [10] = p.length := by
  refine Lib.index_first (by simp) (by rw [occ_at]; simp) fun j hj => ?_
  rw [occ_at, List.getElem?_append_left hj, List.getElem?_eq_getElem hj]
  simpa using hp _ (List.getElem_mem hj)
theorem splitK_pcs : ∀ (n : Nat) (l : List UInt8), l.count 10 = n → Lib.splitK [10] 1 n l = pcs l
  | 0, l, h => by
    have h2 : ∀ c ∈ l, c ≠ 10 := fun c hc e => by subst e; exact absurd (List.count_pos_iff.2 hc) (by omega)
    rw [pcs_no l h2]; rfl
  | n + 1, l, h => by
    rcases feed_or l with h2 | ⟨p, r, rfl, h2⟩
    · have : l.count 10 = 0 := List.count_eq_zero.2 fun hm => h2 _ hm rfl
      omega
    · have hc : p.count 10 = 0 := List.count_eq_zero.2 fun hm => h2 _ hm rfl
      rw [List.count_append, List.count_cons, hc] at h
      simp only [Lib.splitK, index_feed p r h2]
      have e1 : ((p.length : Int) == -1) = false := by simp
      rw [e1, pcs_pre p r h2]
      simp only [Bool.false_eq_true, if_false, Int.toNat_natCast, List.length_cons, List.length_nil]
      rw [splitK_pcs n _ (by rw [show p ++ 10 :: r = (p ++ [10]) ++ r by simp, List.drop_left' (by simp)]; simpa using h)]
      rw [show p ++ 10 :: r = (p ++ [10]) ++ r by simp, List.take_left' (by simp), List.drop_left' (by simp)]
theorem pcs_len : ∀ l, (pcs l).length = l.count 10 + 1
  | [] => rfl
  | c :: r => by
    have h := pcs_len r
    simp only [pcs]
    by_cases hc : c = 10
    · subst hc; simp [h]
    · rw [if_neg hc, List.count_cons_of_ne (fun e => hc e)]
      cases hp : pcs r with
      | nil => exact absurd hp (pcs_ne r)
      | cons p ps => rw [hp] at h; simpa using h
/-- strings.genSplit behind line feeds: each piece ends with one, but the last. -/
def CGen : Contract := pureC fun args => match args with
  | [.d (.v (.string s)), .d (.v (.string p)), .d (.v (.int .i64 sv)), .d (.v (.int .i64 n))] => some ((s.size ≤ 1099511627 ∧ p.data.toList = [10] ∧ sv = 1 ∧ n = -1), .d (.sl (strRows (pcs s.data.toList))))
  | _ => none
theorem sGen : Sound G Tryz.prog 145 CGen := by
  refine sound_lib3 ⟨Tryz.f145, by kernel_rfl, by kernel_rfl, by kernel_rfl⟩ fun args p x h hp => ?_
  split at h <;> simp only [Option.some.injEq, Prod.mk.injEq, reduceCtorEq] at h
  obtain ⟨rfl, rfl⟩ := h
  rename_i s q sv n
  obtain ⟨h1, h2, rfl, rfl⟩ := hp
  obtain ⟨q', rfl⟩ := ex_str q
  simp only [sem_str] at h2
  subst h2
  intro w hw m c vs hc hv
  match vs, hv with
  | [a, b, d, e], hv =>
    simp only [CnL, and_true] at hv
    obtain ⟨v1, v2, v3, v4⟩ := hv
    rw [of_v v1, of_v v2, of_v v3, of_v v4]
    have hi : ∀ x : ByteArray, Lib.indexB x ⟨#[10]⟩ = Lib.indexByte x.data.toList 10 := fun x => Lib.index_one _ _
    have hcn : Lib.countB s ⟨#[10]⟩ = s.data.toList.count 10 := Lib.count_one _ _
    have hle := Lib.countB_le ⟨#[10]⟩ (Nat.le_refl _) s.size s (Nat.le_refl _)
    have hlen := Lib.splitB_all ⟨#[10]⟩ (Nat.le_refl _) 1 _ s rfl
    have hd := Lib.splitB_data ⟨#[10]⟩ 1 (Lib.countB s ⟨#[10]⟩) s
    rw [show (⟨#[10]⟩ : ByteArray).data.toList = [10] from rfl, splitK_pcs _ _ hcn.symm] at hd
    have hcc := Any.strings_genSplit_core Tryz.lays221 (by kernel_rfl) s ⟨#[10]⟩ 1 (-1) (Lib.countB s ⟨#[10]⟩ + 1) w (by omega) (Nat.le_refl _) (Nat.le_refl _)
      (fun x cs hx => (Tryz.strings_Index_one x 10 _).mono fun e w' ⟨he, hw⟩ => ⟨by rw [he, hi], hw⟩)
      ((Tryz.strings_Count_one s 10 w).mono fun e w' ⟨he, hw⟩ => ⟨by rw [he, hcn]; rfl, hw⟩) (by decide) (by decide) (by rw [if_pos (by decide)]; omega)
    rw [Nat.add_sub_cancel, hlen] at hcc
    have e2 : Lib.cellsOf (Lib.splitB ⟨#[10]⟩ 1 (Lib.countB s ⟨#[10]⟩) s) (Lib.countB s ⟨#[10]⟩ + 1) = ((Lib.splitB ⟨#[10]⟩ 1 (Lib.countB s ⟨#[10]⟩) s).map Value.string).toArray := by rw [← hlen]; exact Lib.cellsOf_full _
    rw [e2] at hcc
    refine hcc.mono ?_
    rintro e w' ⟨rfl, rfl⟩
    have hpl : (pcs s.data.toList).length = Lib.countB s ⟨#[10]⟩ + 1 := by rw [pcs_len, hcn]
    refine ⟨⟨_, rfl, fun m n c' _ h2 => ?_⟩, (RowKit.Below.refl _ _).alloc (Nat.le_refl _) _⟩
    simp only [Cn, Rd]
    refine ⟨_, _, by rw [strRows_len, hpl], by rw [strRows_len, hpl]; exact Nat.le_refl _, by rw [strRows_len, hpl]; omega, .inr ⟨_, 1, rfl, rfl, ?_⟩⟩
    refine rdRows_of fun i r hir => ?_
    have hil : i < (pcs s.data.toList).length := by
      have := (List.getElem?_eq_some_iff.1 hir).1
      rwa [strRows_len] at this
    rw [strRows_get hil] at hir
    obtain rfl := Option.some.inj hir
    have hbl : i < (Lib.splitB ⟨#[10]⟩ 1 (Lib.countB s ⟨#[10]⟩) s).length := by rw [hlen, ← hpl]; exact hil
    refine ⟨rfl, ⟨.string (Lib.splitB ⟨#[10]⟩ 1 (Lib.countB s ⟨#[10]⟩) s)[i], h2 _ _ ?_ ?_, ?_⟩, trivial⟩
    · have hadd : (⟨w.heap.size, 0, none⟩ : Addr).add (0 + i * 1) = ⟨w.heap.size, i, none⟩ := by
        unfold Addr.add
        by_cases hz : i = 0
        · subst hz; rfl
        · rw [if_neg (by omega)]; simp
      rw [hadd, World.cell?_alloc_at _ _ _ _ (by simp)]
      simp [List.getElem?_eq_getElem hbl]
    · have hb : ((⟨w.heap.size, 0, none⟩ : Addr).add (0 + i * 1)).block = w.heap.size := by unfold Addr.add; split <;> rfl
      rw [hb]; exact Nat.le_refl _
    · simp only [Rd, Value.oneCell', and_true]
      have e3 : (pcs s.data.toList).getD i [] = ((Lib.splitB ⟨#[10]⟩ 1 (Lib.countB s ⟨#[10]⟩) s)[i]).data.toList := by
        rw [← hd, List.getD_eq_getElem?_getD, List.getElem?_map, List.getElem?_eq_getElem hbl]; rfl
      rw [e3]
  | [], hv => simp [CnL] at hv
  | [_], hv => simp [CnL] at hv
  | [_, _], hv => simp [CnL] at hv
  | [_, _, _], hv => simp [CnL] at hv
  | _ :: _ :: _ :: _ :: _ :: _, hv => simp [CnL] at hv
/-- strings.SplitAfter, lines.Split. -/
def CAfter : Contract := pureC fun args => match args with
  | [.d (.v (.string s)), .d (.v (.string p))] => some ((s.size ≤ 1099511627 ∧ p.data.toList = [10]), .d (.sl (strRows (pcs s.data.toList))))
  | _ => none
theorem s83 : Sound G Tryz.prog 83 CAfter := by
  refine sd83 (T := tabT [(145, CGen)]) (tab_cons sGen tab_nil) (pureC_lawful _) (pure_hX fun args p x K h hp hk => ?_)
  split at h <;> simp only [Option.some.injEq, Prod.mk.injEq, reduceCtorEq] at h
  obtain ⟨rfl, rfl⟩ := h
  rename_i s q
  obtain ⟨h1, h2⟩ := hp
  obtain ⟨q', rfl⟩ := ex_str q
  simp only [sem_str] at h2
  subst h2
  refine ⟨Nat.le_of_ble_eq_true rfl, ?_⟩
  simp -dsimp -implicitDefEqProofs only [S83, R83, CGen, h1, ↓Ev.xStp_eq, ↓Ev.P, Ev.Q, Bool.cond_true, Bool.cond_false, eq_self, forall_eq_or_imp, implies_true, forall_const, forall_eq, ↓reduceIte, reduceIte, Nat.reduceEqDiff, Nat.reduceAdd, reduceCtorEq, Nat.reduceSub, Int.reduceToNat, Int.reduceLE, Int.reduceLT, Int.reduceNeg, Nat.reduceBEq, Nat.reduceMul, Nat.reduceLeDiff, Nat.reduceMod, UInt8.reduceOfNat, Nat.reduceLT, Int.reduceEq, Int.reduceAdd, Int.reduceSub, Int.reduceMul]
  exact ⟨rfl, hk⟩
def CSplit : Contract := pureC fun args => match args with
  | [.d (.v (.string s))] => some (s.size ≤ 1099511627, .d (.sl (strRows (lns s.data.toList))))
  | _ => none
theorem pcs_last (l : List UInt8) : (pcs l).getD ((pcs l).length - 1) [] = if l = [] ∨ l.getLast? = some 10 then [] else (lns l).getLast?.getD [] := by
  rw [pcs_lns]
  split
  · simp [List.getD_eq_getElem?_getD]
  · rw [List.append_nil, List.getD_eq_getElem?_getD, List.getLast?_eq_getElem?]
theorem lns_ne : ∀ l, ∀ s ∈ lns l, s ≠ []
  | [], s, h => by simp [lns] at h
  | c :: r, s, h => by
    simp only [lns] at h
    split at h
    · rcases List.mem_cons.1 h with rfl | h
      · simp
      · exact lns_ne r s h
    · split at h
      · obtain rfl := List.mem_singleton.1 h; simp
      · rename_i p ps e
        rcases List.mem_cons.1 h with rfl | h
        · simp
        · exact lns_ne r s (by rw [e]; exact List.mem_cons_of_mem _ h)
theorem s34 : Sound G Tryz.prog 34 CSplit := by
  refine sd34 (T := tabT [(83, CAfter)]) (tab_cons s83 tab_nil) (pureC_lawful _) (pure_hX fun args p x K h hp hk => ?_)
  split at h <;> simp only [Option.some.injEq, Prod.mk.injEq, reduceCtorEq] at h
  obtain ⟨rfl, rfl⟩ := h
  rename_i s
  obtain ⟨s, rfl⟩ := ex_str s
  simp only [sem_str] at hp hk
  refine ⟨Nat.le_of_ble_eq_true rfl, ?_⟩
  have hl := pcs_len s
  have hcl := List.count_le_length (a := (10 : UInt8)) (l := s)
  have hg := strRows_get (l := pcs s) (i := (pcs s).length - 1) (by omega)
  have hlast := pcs_last s
  have hL := pcs_lns s
  by_cases hc : s = [] ∨ s.getLast? = some 10
  · rw [if_pos hc] at hlast hL
    rw [hlast] at hg
    have ht : (strRows (pcs s)).take ((pcs s).length - 1) = strRows (lns s) := by rw [hL]; simp [strRows]
    simp -dsimp -implicitDefEqProofs only [S34, R34, CAfter, hp, hg, strRows_len, ↓Ev.xStp_eq, ↓Ev.P, Ev.Q, Bool.cond_true, Bool.cond_false, eq_self, forall_eq_or_imp, implies_true, forall_const, forall_eq, ↓reduceIte, reduceIte, Nat.reduceEqDiff, Nat.reduceAdd, reduceCtorEq, Nat.reduceSub, Int.reduceToNat, Int.reduceLE, Int.reduceLT, Int.reduceNeg, Nat.reduceBEq, Nat.reduceMul, Nat.reduceLeDiff, Nat.reduceMod, UInt8.reduceOfNat, Nat.reduceLT, Int.reduceEq, Int.reduceAdd, Int.reduceSub, Int.reduceMul]
    refine ⟨by omega, by omega, by omega, by omega, by rw [strRows_all]; trivial, ?_⟩
    rw [ht]; exact hk
  · rw [if_neg hc] at hlast hL
    rw [hlast] at hg
    have hne : ¬ (lns s).getLast?.getD [] = [] := by
      cases hq : (lns s).getLast? with
      | none =>
        have h1 := List.getLast?_eq_none_iff.1 hq
        rw [h1, List.append_nil] at hL
        exact absurd hL (pcs_ne s)
      | some x => exact lns_ne s x (List.mem_of_getLast? hq)
    simp -dsimp -implicitDefEqProofs only [S34, R34, CAfter, hp, hg, strRows_len, ↓Ev.xStp_eq, ↓Ev.P, Ev.Q, Bool.cond_true, Bool.cond_false, eq_self, forall_eq_or_imp, implies_true, forall_const, forall_eq, ↓reduceIte, reduceIte, Nat.reduceEqDiff, Nat.reduceAdd, reduceCtorEq, Nat.reduceSub, Int.reduceToNat, Int.reduceLE, Int.reduceLT, Int.reduceNeg, Nat.reduceBEq, Nat.reduceMul, Nat.reduceLeDiff, Nat.reduceMod, UInt8.reduceOfNat, Nat.reduceLT, Int.reduceEq, Int.reduceAdd, Int.reduceSub, Int.reduceMul]
    refine ⟨by omega, by omega, fun h => absurd h hne, fun _ => ?_⟩
    rw [hL, List.append_nil]; exact hk
end Go.Proofs.YtlghobefhmpfkaaGreatDoor
set_option linter.unusedVariables false
set_option linter.unusedSimpArgs false
namespace Go.Proofs.YtlghobefhmpfkaaGreatDoor
open Go Go.Ev
set_option maxRecDepth 100000
variable {G : World → Prop}
theorem indexByte_mem (c : UInt8) : ∀ l : List UInt8, 0 ≤ Lib.indexByte l c ↔ c ∈ l
  | [] => by simp [Lib.indexByte]
  | b :: l => by
    have ih := indexByte_mem c l
    have hge := Lib.indexByte_ge l c
    rw [Lib.indexByte, List.mem_cons, ← ih]
    by_cases h : b = c
    · subst h; simp
    · have h1 : (b == c) = false := by simpa using h
      have h3 : ¬ c = b := fun e => h e.symm
      rw [h1, if_neg (by simp)]
      by_cases h2 : Lib.indexByte l c = -1
      · rw [h2]; simp [h3]
      · have h4 : (Lib.indexByte l c == -1) = false := by simpa using h2
        rw [h4, if_neg (by simp)]
        simp only [h3, false_or]
        omega
theorem u8_ten (x : UInt8) : ((x.toNat : Int) = 10) ↔ x = 10 := ⟨fun h => UInt8.toNat_inj.1 (by show _ = 10; omega), fun h => by rw [h]; rfl⟩
theorem lns_pre (p r : List UInt8) (hp : ∀ c ∈ p, c ≠ 10) : lns (p ++ 10 :: r) = (p ++ [10]) :: lns r := by
  induction p with
  | nil => simp [lns]
  | cons c p ih =>
    have h := ih fun d hd => hp d (List.mem_cons_of_mem _ hd)
    simp only [List.cons_append, lns, if_neg (hp c (List.mem_cons_self ..)), h]
theorem lns_no (p : List UInt8) (hp : ∀ c ∈ p, c ≠ 10) (hn : p ≠ []) : lns p = [p] := by
  induction p with
  | nil => exact absurd rfl hn
  | cons c p ih =>
    by_cases hq : p = []
    · subst hq; simp [lns, hp c (List.mem_cons_self ..)]
    · have h := ih (fun d hd => hp d (List.mem_cons_of_mem _ hd)) hq
      simp only [lns, if_neg (hp c (List.mem_cons_self ..)), h]
theorem lns_len : ∀ l, (lns l).length ≤ l.length
  | [] => by simp [lns]
  | c :: r => by
    have h := lns_len r
    simp only [lns]
    split
    · simpa using h
    · split
      · simp
      · rename_i p ps e
        rw [e] at h; simp at h ⊢; omega
theorem lns_flat : ∀ l, (lns l).flatten = l
  | [] => rfl
  | c :: r => by
    have h := lns_flat r
    simp only [lns]
    split
    · rename_i e; subst e; simp [h]
    · split
      · rename_i e; rw [e] at h; simp at h; subst h; rfl
      · rename_i p ps e
        rw [e] at h; simp at h ⊢; exact h
/-- While lines are taken: those that are taken, and the rest. -/
structure Cutting (s : List UInt8) (acc : List (List UInt8)) (at_ i : Nat) : Prop where
  le : at_ ≤ i
  all : acc ++ lns (s.drop at_) = lns s
  no : ∀ c ∈ (s.drop at_).take (i - at_), c ≠ 10
  len : acc.length ≤ i
theorem Cutting.step {s : List UInt8} {acc : List (List UInt8)} {at_ i : Nat} (h : Cutting s acc at_ i) (hi : i < s.length) (hc : ¬ s.getD i 0 = 10) : Cutting s acc at_ (i + 1) := by
  obtain ⟨h1, h2, h3, h4⟩ := h
  refine ⟨by omega, h2, fun c hm => ?_, by omega⟩
  rw [show i + 1 - at_ = (i - at_) + 1 by omega, List.take_succ_eq_append_getElem (by rw [List.length_drop]; omega), List.mem_append] at hm
  rcases hm with hm | hm
  · exact h3 c hm
  · rw [List.mem_singleton.1 hm, List.getElem_drop]
    rw [List.getD_eq_getElem?_getD, List.getElem?_eq_getElem hi] at hc
    simpa [show at_ + (i - at_) = i by omega] using hc
theorem Cutting.cut {s : List UInt8} {acc : List (List UInt8)} {at_ i : Nat} (h : Cutting s acc at_ i) (hi : i < s.length) (hc : s.getD i 0 = 10) : Cutting s (acc ++ [(s.drop at_).take (i + 1 - at_)]) (i + 1) (i + 1) := by
  obtain ⟨h1, h2, h3, h4⟩ := h
  have e : s.drop at_ = (s.drop at_).take (i - at_) ++ 10 :: s.drop (i + 1) := by
    conv => lhs; rw [← List.take_append_drop (i - at_) (s.drop at_)]
    rw [List.drop_drop, show at_ + (i - at_) = i by omega, List.drop_eq_getElem_cons hi]
    rw [List.getD_eq_getElem?_getD, List.getElem?_eq_getElem hi] at hc
    simp only [Option.getD_some] at hc
    rw [hc]
  have e2 : (s.drop at_).take (i + 1 - at_) = (s.drop at_).take (i - at_) ++ [10] := by
    rw [show i + 1 - at_ = (i - at_) + 1 by omega, List.take_succ_eq_append_getElem (by rw [List.length_drop]; omega), List.getElem_drop]
    rw [List.getD_eq_getElem?_getD, List.getElem?_eq_getElem hi] at hc
    simp only [Option.getD_some] at hc
    simp only [show at_ + (i - at_) = i by omega, hc]
  refine ⟨Nat.le_refl _, ?_, by simp, by simp; omega⟩
  rw [← h2, e2]
  conv => rhs; rw [e, lns_pre _ _ h3]
  rw [List.append_assoc]
  rfl
theorem Cutting.fin {s : List UInt8} {acc : List (List UInt8)} {at_ i : Nat} (h : Cutting s acc at_ i) (hi : s.length ≤ i) : (s.length ≤ at_ → lns s = acc) ∧ (at_ < s.length → lns s = acc ++ [s.drop at_]) := by
  obtain ⟨h1, h2, h3, h4⟩ := h
  refine ⟨fun h => ?_, fun h => ?_⟩
  · rw [← h2, List.drop_eq_nil_of_le h]; simp [lns]
  · rw [← h2, lns_no]
    · intro c hc; exact h3 c (by rw [List.take_of_length_le (by rw [List.length_drop]; omega)]; exact hc)
    · intro e; have := congrArg List.length e; rw [List.length_drop] at this; simp at this; omega
theorem strRows_snoc (a : List (List UInt8)) (x : List UInt8) : strRows (a ++ [x]) = strRows a ++ [[.v (.string ⟨x.toArray⟩)]] := by simp [strRows]
theorem s89 : Sound G Tryz.prog 89 CSplit := by
  refine sd89 (T := tabT []) tab_nil (pureC_lawful _) (pure_hX fun args p x K h hp hk => ?_)
  split at h <;> simp only [Option.some.injEq, Prod.mk.injEq, reduceCtorEq] at h
  obtain ⟨rfl, rfl⟩ := h
  rename_i q
  obtain ⟨q, rfl⟩ := ex_str q
  simp only [sem_str] at hp hk
  refine ⟨Nat.le_of_ble_eq_true rfl, ?_⟩
  simp -dsimp -implicitDefEqProofs only [S89, R89, ↓Ev.xStp_eq, ↓Ev.P, Ev.Q, Bool.cond_true, Bool.cond_false, eq_self, forall_eq_or_imp, implies_true, forall_const, forall_eq, ↓reduceIte, reduceIte, Nat.reduceEqDiff, Nat.reduceAdd, reduceCtorEq, Nat.reduceSub, Int.reduceToNat, Int.reduceLE, Int.reduceLT, Int.reduceNeg, Nat.reduceBEq, Nat.reduceMul, Nat.reduceLeDiff, Nat.reduceMod, UInt8.reduceOfNat, Nat.reduceLT, Int.reduceEq, Int.reduceAdd, Int.reduceSub, Int.reduceMul]
  refine xLoop_intro (fun n st => ∃ (acc : List (List UInt8)) (at_ i : Nat), i ≤ q.length ∧ n = q.length - i ∧ Cutting q acc at_ i ∧
      st = ⟨[(0, .d (.v (.string ⟨q.toArray⟩))), (3, .own 0), (4, .d (.v (.int .i64 at_))), (5, .d (.v (.int .i64 i)))], 1, [(0, .row 9 1 (strRows acc))]⟩) q.length [0] ?_ ?_ ?_
  · simp -dsimp -implicitDefEqProofs only [↓Ev.xStp_eq, ↓Ev.P, Ev.Q, Bool.cond_true, Bool.cond_false, eq_self, forall_eq_or_imp, implies_true, forall_const, forall_eq, ↓reduceIte, reduceIte, Nat.reduceEqDiff, Nat.reduceAdd, reduceCtorEq, Nat.reduceSub, Int.reduceToNat, Int.reduceLE, Int.reduceLT, Int.reduceNeg, Nat.reduceBEq, Nat.reduceMul, Nat.reduceLeDiff, Nat.reduceMod, UInt8.reduceOfNat, Nat.reduceLT, Int.reduceEq, Int.reduceAdd, Int.reduceSub, Int.reduceMul]
  · simp -dsimp -implicitDefEqProofs only [↓Ev.xStp_eq, ↓Ev.P, Ev.Q, Bool.cond_true, Bool.cond_false, eq_self, forall_eq_or_imp, implies_true, forall_const, forall_eq, ↓reduceIte, reduceIte, Nat.reduceEqDiff, Nat.reduceAdd, reduceCtorEq, Nat.reduceSub, Int.reduceToNat, Int.reduceLE, Int.reduceLT, Int.reduceNeg, Nat.reduceBEq, Nat.reduceMul, Nat.reduceLeDiff, Nat.reduceMod, UInt8.reduceOfNat, Nat.reduceLT, Int.reduceEq, Int.reduceAdd, Int.reduceSub, Int.reduceMul]
    exact ⟨[], 0, 0, by omega, by omega, ⟨Nat.le_refl _, rfl, by simp, by simp⟩, rfl⟩
  · rintro n st ⟨acc, at_, i, hi, hn, hc, rfl⟩
    have hal := hc.le
    have hacc := hc.len
    by_cases hil : i < q.length
    · have hi3 : (i : Int) < q.length := by omega
      by_cases hf : q.getD i 0 = 10
      · have hf2 : ((q.getD i 0).toNat : Int) = 10 := (u8_ten _).2 hf
        simp -dsimp -implicitDefEqProofs only [hi3, hf2, strRows_len, ↓Ev.xStp_eq, ↓Ev.P, Ev.Q, Bool.cond_true, Bool.cond_false, eq_self, forall_eq_or_imp, implies_true, forall_const, forall_eq, ↓reduceIte, reduceIte, Nat.reduceEqDiff, Nat.reduceAdd, reduceCtorEq, Nat.reduceSub, Int.reduceToNat, Int.reduceLE, Int.reduceLT, Int.reduceNeg, Nat.reduceBEq, Nat.reduceMul, Nat.reduceLeDiff, Nat.reduceMod, UInt8.reduceOfNat, Nat.reduceLT, Int.reduceEq, Int.reduceAdd, Int.reduceSub, Int.reduceMul]
        repeat' (first | with_reducible assumption | refine And.intro ?_ ?_ | intro _)
        all_goals try omega
        refine xAgain_intro (q.length - (i + 1)) [2] (by omega) (by simp -dsimp -implicitDefEqProofs only [↓Ev.xStp_eq, ↓Ev.P, Ev.Q, Bool.cond_true, Bool.cond_false, eq_self, forall_eq_or_imp, implies_true, forall_const, forall_eq, ↓reduceIte, reduceIte, Nat.reduceEqDiff, Nat.reduceAdd, reduceCtorEq, Nat.reduceSub, Int.reduceToNat, Int.reduceLE, Int.reduceLT, Int.reduceNeg, Nat.reduceBEq, Nat.reduceMul, Nat.reduceLeDiff, Nat.reduceMod, UInt8.reduceOfNat, Nat.reduceLT, Int.reduceEq, Int.reduceAdd, Int.reduceSub, Int.reduceMul]) ⟨acc ++ [(q.drop at_).take (i + 1 - at_)], i + 1, i + 1, by omega, rfl, hc.cut hil hf, ?_⟩
        rw [strRows_snoc]
        simp -dsimp -implicitDefEqProofs only [↓Ev.xStp_eq, ↓Ev.P, Ev.Q, Bool.cond_true, Bool.cond_false, eq_self, forall_eq_or_imp, implies_true, forall_const, forall_eq, ↓reduceIte, reduceIte, Nat.reduceEqDiff, Nat.reduceAdd, reduceCtorEq, Nat.reduceSub, Int.reduceToNat, Int.reduceLE, Int.reduceLT, Int.reduceNeg, Nat.reduceBEq, Nat.reduceMul, Nat.reduceLeDiff, Nat.reduceMod, UInt8.reduceOfNat, Nat.reduceLT, Int.reduceEq, Int.reduceAdd, Int.reduceSub, Int.reduceMul]
        rfl
      · have hf2 : ¬ ((q.getD i 0).toNat : Int) = 10 := fun h => hf ((u8_ten _).1 h)
        simp -dsimp -implicitDefEqProofs only [hi3, hf2, strRows_len, ↓Ev.xStp_eq, ↓Ev.P, Ev.Q, Bool.cond_true, Bool.cond_false, eq_self, forall_eq_or_imp, implies_true, forall_const, forall_eq, ↓reduceIte, reduceIte, Nat.reduceEqDiff, Nat.reduceAdd, reduceCtorEq, Nat.reduceSub, Int.reduceToNat, Int.reduceLE, Int.reduceLT, Int.reduceNeg, Nat.reduceBEq, Nat.reduceMul, Nat.reduceLeDiff, Nat.reduceMod, UInt8.reduceOfNat, Nat.reduceLT, Int.reduceEq, Int.reduceAdd, Int.reduceSub, Int.reduceMul]
        repeat' (first | with_reducible assumption | refine And.intro ?_ ?_ | intro _)
        all_goals try omega
        refine xAgain_intro (q.length - (i + 1)) [0] (by omega) (by simp -dsimp -implicitDefEqProofs only [↓Ev.xStp_eq, ↓Ev.P, Ev.Q, Bool.cond_true, Bool.cond_false, eq_self, forall_eq_or_imp, implies_true, forall_const, forall_eq, ↓reduceIte, reduceIte, Nat.reduceEqDiff, Nat.reduceAdd, reduceCtorEq, Nat.reduceSub, Int.reduceToNat, Int.reduceLE, Int.reduceLT, Int.reduceNeg, Nat.reduceBEq, Nat.reduceMul, Nat.reduceLeDiff, Nat.reduceMod, UInt8.reduceOfNat, Nat.reduceLT, Int.reduceEq, Int.reduceAdd, Int.reduceSub, Int.reduceMul]) ⟨acc, at_, i + 1, by omega, rfl, hc.step hil hf, ?_⟩
        simp -dsimp -implicitDefEqProofs only [↓Ev.xStp_eq, ↓Ev.P, Ev.Q, Bool.cond_true, Bool.cond_false, eq_self, forall_eq_or_imp, implies_true, forall_const, forall_eq, ↓reduceIte, reduceIte, Nat.reduceEqDiff, Nat.reduceAdd, reduceCtorEq, Nat.reduceSub, Int.reduceToNat, Int.reduceLE, Int.reduceLT, Int.reduceNeg, Nat.reduceBEq, Nat.reduceMul, Nat.reduceLeDiff, Nat.reduceMod, UInt8.reduceOfNat, Nat.reduceLT, Int.reduceEq, Int.reduceAdd, Int.reduceSub, Int.reduceMul]
        rfl
    · have hi3 : ¬ (i : Int) < q.length := by omega
      obtain ⟨f1, f2⟩ := hc.fin (by omega)
      by_cases ha : at_ < q.length
      · have ha3 : (at_ : Int) < q.length := by omega
        rw [f2 ha] at hk
        rw [strRows_snoc] at hk
        simp -dsimp -implicitDefEqProofs only [hi3, ha3, strRows_len, ↓Ev.xStp_eq, ↓Ev.P, Ev.Q, Bool.cond_true, Bool.cond_false, eq_self, forall_eq_or_imp, implies_true, forall_const, forall_eq, ↓reduceIte, reduceIte, Nat.reduceEqDiff, Nat.reduceAdd, reduceCtorEq, Nat.reduceSub, Int.reduceToNat, Int.reduceLE, Int.reduceLT, Int.reduceNeg, Nat.reduceBEq, Nat.reduceMul, Nat.reduceLeDiff, Nat.reduceMod, UInt8.reduceOfNat, Nat.reduceLT, Int.reduceEq, Int.reduceAdd, Int.reduceSub, Int.reduceMul]
        repeat' (first | with_reducible assumption | refine And.intro ?_ ?_ | intro _)
        all_goals try omega
      · have ha3 : ¬ (at_ : Int) < q.length := by omega
        rw [f1 (by omega)] at hk
        simp -dsimp -implicitDefEqProofs only [hi3, ha3, strRows_len, ↓Ev.xStp_eq, ↓Ev.P, Ev.Q, Bool.cond_true, Bool.cond_false, eq_self, forall_eq_or_imp, implies_true, forall_const, forall_eq, ↓reduceIte, reduceIte, Nat.reduceEqDiff, Nat.reduceAdd, reduceCtorEq, Nat.reduceSub, Int.reduceToNat, Int.reduceLE, Int.reduceLT, Int.reduceNeg, Nat.reduceBEq, Nat.reduceMul, Nat.reduceLeDiff, Nat.reduceMod, UInt8.reduceOfNat, Nat.reduceLT, Int.reduceEq, Int.reduceAdd, Int.reduceSub, Int.reduceMul]
        exact hk
/-! What is wrong with lines. -/
/-- A line feed's place, or -1. -/
def CIxF : Contract := pureC fun args => match args with
  | [.d (.v (.string s)), .d (.v (.string p))] => some (p.data.toList = [10], .d (.v (.int .i64 (Lib.indexByte s.data.toList 10))))
  | _ => none
theorem sIxF : Sound G Tryz.prog 88 CIxF := by
  refine sound_lib ⟨Tryz.f88, by kernel_rfl, by kernel_rfl, by kernel_rfl⟩ fun args p x h hp => ?_
  split at h <;> simp only [Option.some.injEq, Prod.mk.injEq, reduceCtorEq] at h
  obtain ⟨rfl, rfl⟩ := h
  rename_i s q
  obtain ⟨q', rfl⟩ := ex_str q
  simp only [sem_str] at hp
  subst hp
  refine ⟨_, fun m n c => ⟨rfl, rfl⟩, fun w hw m c vs hc hv => ?_⟩
  match vs, hv with
  | [a, b], hv =>
    simp only [CnL, and_true] at hv
    obtain ⟨v1, v2⟩ := hv
    rw [of_v v1, of_v v2]
    refine (Tryz.strings_Index_one s 10 w).mono ?_
    rintro e w' ⟨rfl, rfl⟩
    exact ⟨rfl, RowKit.Below.refl _ _⟩
  | [], hv => simp [CnL] at hv
  | [_], hv => simp [CnL] at hv
  | _ :: _ :: _ :: _, hv => simp [CnL] at hv
/-- Is a line right? last: the last one. -/
def okLine (last : Bool) (s : List UInt8) : Bool := decide (s ≠ []) && !s.dropLast.contains 10 && (last || decide (s.getLast? = some 10))
def okLs (l : List (List UInt8)) : Bool := (l.dropLast.all (okLine false)) && ((l.getLast?.map (okLine true)).getD true)
def okUp (n : Nat) (l : List (List UInt8)) : Bool := (List.range n).all fun i => okLine (decide (i + 1 = l.length)) (l.getD i [])
def CLns : Contract := pureC fun args => match args with
  | [.d (.sl rows)] => (unStr rows).map fun l => (l.length ≤ 1099511627776 ∧ ∀ s ∈ l, s.length ≤ 1099511627776, .d (.v (.int .i64 (if okUp l.length l = true then 0 else 6))))
  | _ => none
theorem ix_feed (s : List UInt8) : (Lib.indexByte s 10 < 0 ↔ 10 ∉ s) ∧ (∀ i : Nat, Lib.indexByte s 10 = i → i < s.length ∧ s.getD i 0 = 10 ∧ 10 ∉ s.take i) := by
  rcases feed_or s with h | ⟨p, r, rfl, h⟩
  · have hn : 10 ∉ s := fun hm => h 10 hm rfl
    have := Lib.indexByte_ge s 10
    have hi : ¬ 0 ≤ Lib.indexByte s 10 := fun hh => hn ((indexByte_mem 10 s).1 hh)
    exact ⟨⟨fun _ => hn, fun _ => by omega⟩, fun i e => by omega⟩
  · have hx := index_feed p r h
    rw [Lib.index_one] at hx
    rw [hx]
    refine ⟨⟨fun hh => by omega, fun hh => absurd (by simp) hh⟩, fun i e => ?_⟩
    have : i = p.length := by omega
    subst this
    refine ⟨by simp, by simp [List.getD_eq_getElem?_getD], fun hm => ?_⟩
    rw [List.take_left' rfl] at hm
    exact h 10 hm rfl
end Go.Proofs.YtlghobefhmpfkaaGreatDoor
set_option linter.unusedVariables false
set_option linter.unusedSimpArgs false
namespace Go.Proofs.YtlghobefhmpfkaaGreatDoor
open Go Go.Ev
set_option maxRecDepth 100000
variable {G : World → Prop}
theorem getD_mem {s : List UInt8} {i : Nat} (h : i < s.length) : s.getD i 0 ∈ s := by
  rw [List.getD_eq_getElem?_getD, List.getElem?_eq_getElem h]; exact List.getElem_mem h
theorem last_get {s : List UInt8} (h : s ≠ []) : s.getLast? = some (s.getD (s.length - 1) 0) := by
  have hl : 0 < s.length := List.length_pos_iff.2 h
  rw [List.getLast?_eq_getElem?, List.getD_eq_getElem?_getD, List.getElem?_eq_getElem (by omega)]; rfl
theorem okLine_eq (last : Bool) (s : List UInt8) : okLine last s = true ↔ ¬ ((s = [] ∨ (0 ≤ Lib.indexByte s 10 ∧ Lib.indexByte s 10 ≠ (s.length : Int) - 1)) ∨ (Lib.indexByte s 10 < 0 ∧ last = false)) := by
  obtain ⟨h1, h2⟩ := ix_feed s
  have hge := Lib.indexByte_ge s 10
  by_cases he : s = []
  · subst he; simp [okLine]
  have hl : 0 < s.length := List.length_pos_iff.2 he
  have hg := last_get he
  have hd : s.dropLast = s.take (s.length - 1) := List.dropLast_eq_take
  simp only [okLine, Bool.and_eq_true, decide_eq_true_eq, Bool.or_eq_true, Bool.not_eq_true', hg, Option.some.injEq, he, not_false_eq_true, ne_eq, true_and, false_or]
  have hc : s.dropLast.contains 10 = false ↔ 10 ∉ s.dropLast := by simp
  rw [hc, hd]
  by_cases hn : Lib.indexByte s 10 < 0
  · have hm := h1.1 hn
    have a1 : 10 ∉ s.take (s.length - 1) := fun h => hm (List.mem_of_mem_take h)
    have a2 : ¬ s.getD (s.length - 1) 0 = 10 := fun e => hm (by rw [← e]; exact getD_mem (by omega))
    simp only [a1, not_false_eq_true, a2, or_false, true_and, hn]
    cases last <;> simp <;> omega
  · obtain ⟨i, hi⟩ := Int.eq_ofNat_of_zero_le (show 0 ≤ Lib.indexByte s 10 by omega)
    obtain ⟨b1, b2, b3⟩ := h2 i hi
    rw [hi]
    by_cases hil : i = s.length - 1
    · subst hil
      simp only [b3, not_false_eq_true, b2, or_true, and_self, true_iff]
      omega
    · have hm : 10 ∈ s.take (s.length - 1) := by
        rw [← b2]
        rw [List.getD_eq_getElem?_getD, List.getElem?_eq_getElem b1, Option.getD_some]
        exact List.mem_take_iff_getElem.2 ⟨i, by omega, rfl⟩
      simp only [hm, not_true_eq_false, false_and, false_iff, Classical.not_not]
      omega
theorem okUp_succ (n : Nat) (l : List (List UInt8)) : okUp (n + 1) l = (okUp n l && okLine (decide (n + 1 = l.length)) (l.getD n [])) := by
  simp [okUp, List.range_succ, List.all_append]
theorem okUp_out {n : Nat} {l : List (List UInt8)} (h : n < l.length) (hb : okLine (decide (n + 1 = l.length)) (l.getD n []) = false) : okUp l.length l = false := by
  rw [okUp, Bool.eq_false_iff]
  intro ha
  have := List.all_eq_true.1 ha n (List.mem_range.2 h)
  rw [hb] at this; cases this
theorem getD_in {l : List (List UInt8)} {i : Nat} (h : i < l.length) : l.getD i [] ∈ l := by
  rw [List.getD_eq_getElem?_getD, List.getElem?_eq_getElem h]; exact List.getElem_mem h
set_option maxHeartbeats 1000000 in
theorem s38 : Sound G Tryz.prog 38 CLns := by
  refine sd38 (T := tabT [(88, CIxF)]) (tab_cons sIxF tab_nil) (pureC_lawful _) (pure_hX fun args p x K h hp hk => ?_)
  split at h <;> simp only [Option.map_eq_some_iff, Prod.mk.injEq, reduceCtorEq] at h
  obtain ⟨l, hl, rfl, rfl⟩ := h
  rw [unStr_eq hl] at *
  obtain ⟨h1, h2⟩ := hp
  refine ⟨Nat.le_of_ble_eq_true rfl, ?_⟩
  simp -dsimp -implicitDefEqProofs only [S38, R38, strRows_len, ↓Ev.xStp_eq, ↓Ev.P, Ev.Q, Bool.cond_true, Bool.cond_false, eq_self, forall_eq_or_imp, implies_true, forall_const, forall_eq, ↓reduceIte, reduceIte, Nat.reduceEqDiff, Nat.reduceAdd, reduceCtorEq, Nat.reduceSub, Int.reduceToNat, Int.reduceLE, Int.reduceLT, Int.reduceNeg, Nat.reduceBEq, Nat.reduceMul, Nat.reduceLeDiff, Nat.reduceMod, UInt8.reduceOfNat, Nat.reduceLT, Int.reduceEq, Int.reduceAdd, Int.reduceSub, Int.reduceMul]
  refine xLoop_intro (fun n st => ∃ i : Nat, i ≤ l.length ∧ n = l.length - i ∧ okUp i l = true ∧
      st = ⟨[(0, .d (.sl (strRows l))), (7, .d (.sl (strRows l))), (8, .d (.v (.int .i64 l.length))), (9, .d (.v (.int .i64 i)))], 0, []⟩) l.length [] ?_ ?_ ?_
  · simp -dsimp -implicitDefEqProofs only [↓Ev.xStp_eq, ↓Ev.P, Ev.Q, Bool.cond_true, Bool.cond_false, eq_self, forall_eq_or_imp, implies_true, forall_const, forall_eq, ↓reduceIte, reduceIte, Nat.reduceEqDiff, Nat.reduceAdd, reduceCtorEq, Nat.reduceSub, Int.reduceToNat, Int.reduceLE, Int.reduceLT, Int.reduceNeg, Nat.reduceBEq, Nat.reduceMul, Nat.reduceLeDiff, Nat.reduceMod, UInt8.reduceOfNat, Nat.reduceLT, Int.reduceEq, Int.reduceAdd, Int.reduceSub, Int.reduceMul]
  · simp -dsimp -implicitDefEqProofs only [↓Ev.xStp_eq, ↓Ev.P, Ev.Q, Bool.cond_true, Bool.cond_false, eq_self, forall_eq_or_imp, implies_true, forall_const, forall_eq, ↓reduceIte, reduceIte, Nat.reduceEqDiff, Nat.reduceAdd, reduceCtorEq, Nat.reduceSub, Int.reduceToNat, Int.reduceLE, Int.reduceLT, Int.reduceNeg, Nat.reduceBEq, Nat.reduceMul, Nat.reduceLeDiff, Nat.reduceMod, UInt8.reduceOfNat, Nat.reduceLT, Int.reduceEq, Int.reduceAdd, Int.reduceSub, Int.reduceMul]
    exact ⟨0, by omega, by omega, rfl, by simp⟩
  · rintro n st ⟨i, hi, hn, hok, rfl⟩
    by_cases hil : i < l.length
    · have hi3 : (i : Int) < l.length := by omega
      have hg := strRows_get hil
      have hsz := h2 _ (getD_in hil)
      have hoe := okLine_eq (decide (i + 1 = l.length)) (l.getD i [])
      have hst := okUp_succ i l
      have hout := okUp_out hil
      have hge := Lib.indexByte_ge (l.getD i []) 10
      generalize l.getD i [] = s at hg hsz hoe hst hout hge
      have e9 : decide (i + 1 = l.length) = false ↔ ¬ (i : Int) = l.length - 1 := by rw [decide_eq_false_iff_not]; omega
      simp -dsimp -implicitDefEqProofs only [hg, hi3, strRows_len, CIxF, ↓Ev.xStp_eq, ↓Ev.P, Ev.Q, Bool.cond_true, Bool.cond_false, eq_self, forall_eq_or_imp, implies_true, forall_const, forall_eq, ↓reduceIte, reduceIte, Nat.reduceEqDiff, Nat.reduceAdd, reduceCtorEq, Nat.reduceSub, Int.reduceToNat, Int.reduceLE, Int.reduceLT, Int.reduceNeg, Nat.reduceBEq, Nat.reduceMul, Nat.reduceLeDiff, Nat.reduceMod, UInt8.reduceOfNat, Nat.reduceLT, Int.reduceEq, Int.reduceAdd, Int.reduceSub, Int.reduceMul]
      repeat' (first | with_reducible assumption | refine And.intro ?_ ?_ | intro _)
      all_goals try omega
      · rename_i h
        have hb : okLine (decide (i + 1 = l.length)) s = false := Bool.eq_false_iff.2 fun h9 => hoe.1 h9 (h.imp id fun h => ⟨h.1, e9.2 h.2⟩)
        rw [hout hb] at hk; exact hk
      · rename_i h
        have hb : okLine (decide (i + 1 = l.length)) s = true := hoe.2 fun h9 => by
          obtain ⟨⟨a1, a2⟩, a3⟩ := h
          rcases h9 with (h9 | h9) | h9
          · exact a1 h9
          · rcases a2 with a2 | a2
            · exact a2 h9.1
            · exact h9.2 a2
          · rcases a3 with a3 | a3
            · exact a3 h9.1
            · exact e9.1 h9.2 a3
        refine xAgain_intro (l.length - (i + 1)) [] (by omega) (by simp -dsimp -implicitDefEqProofs only [↓Ev.xStp_eq, ↓Ev.P, Ev.Q, Bool.cond_true, Bool.cond_false, eq_self, forall_eq_or_imp, implies_true, forall_const, forall_eq, ↓reduceIte, reduceIte, Nat.reduceEqDiff, Nat.reduceAdd, reduceCtorEq, Nat.reduceSub, Int.reduceToNat, Int.reduceLE, Int.reduceLT, Int.reduceNeg, Nat.reduceBEq, Nat.reduceMul, Nat.reduceLeDiff, Nat.reduceMod, UInt8.reduceOfNat, Nat.reduceLT, Int.reduceEq, Int.reduceAdd, Int.reduceSub, Int.reduceMul]) ⟨i + 1, by omega, rfl, by rw [hst, hok, hb]; rfl, ?_⟩
        simp -dsimp -implicitDefEqProofs only [↓Ev.xStp_eq, ↓Ev.P, Ev.Q, Bool.cond_true, Bool.cond_false, eq_self, forall_eq_or_imp, implies_true, forall_const, forall_eq, ↓reduceIte, reduceIte, Nat.reduceEqDiff, Nat.reduceAdd, reduceCtorEq, Nat.reduceSub, Int.reduceToNat, Int.reduceLE, Int.reduceLT, Int.reduceNeg, Nat.reduceBEq, Nat.reduceMul, Nat.reduceLeDiff, Nat.reduceMod, UInt8.reduceOfNat, Nat.reduceLT, Int.reduceEq, Int.reduceAdd, Int.reduceSub, Int.reduceMul]
        rfl
    · have hi3 : ¬ (i : Int) < l.length := by omega
      obtain rfl : i = l.length := by omega
      rw [if_pos hok] at hk
      simp -dsimp -implicitDefEqProofs only [hi3, strRows_len, ↓Ev.xStp_eq, ↓Ev.P, Ev.Q, Bool.cond_true, Bool.cond_false, eq_self, forall_eq_or_imp, implies_true, forall_const, forall_eq, ↓reduceIte, reduceIte, Nat.reduceEqDiff, Nat.reduceAdd, reduceCtorEq, Nat.reduceSub, Int.reduceToNat, Int.reduceLE, Int.reduceLT, Int.reduceNeg, Nat.reduceBEq, Nat.reduceMul, Nat.reduceLeDiff, Nat.reduceMod, UInt8.reduceOfNat, Nat.reduceLT, Int.reduceEq, Int.reduceAdd, Int.reduceSub, Int.reduceMul]
      exact hk
theorem in_drop {s : List UInt8} {k : Nat} (hk : (k : Int) < (s.length : Int) - 1) (h : s.getD k 0 = 10) : s.dropLast.contains 10 = true := by
  have hm : (10 : UInt8) ∈ s.dropLast := by
    rw [List.dropLast_eq_take, ← h, List.getD_eq_getElem?_getD, List.getElem?_eq_getElem (by omega), Option.getD_some]
    exact List.mem_take_iff_getElem.2 ⟨k, by omega, rfl⟩
  simpa using hm
theorem no_drop {s : List UInt8} {k : Nat} (hk : (s.length : Int) - 1 ≤ k) (h : 10 ∉ s.take k) : s.dropLast.contains 10 = false := by
  have hm : (10 : UInt8) ∉ s.dropLast := fun hm => h (by
    rw [List.dropLast_eq_take] at hm
    exact List.take_subset_take_left s (by omega) hm)
  simpa using hm
set_option maxHeartbeats 2000000 in
theorem s44 : Sound G Tryz.prog 44 CLns := by
  refine sd44 (T := tabT []) tab_nil (pureC_lawful _) (pure_hX fun args p x K h hp hk => ?_)
  split at h <;> simp only [Option.map_eq_some_iff, Prod.mk.injEq, reduceCtorEq] at h
  obtain ⟨l, hl, rfl, rfl⟩ := h
  rw [unStr_eq hl] at *
  obtain ⟨h1, h2⟩ := hp
  refine ⟨Nat.le_of_ble_eq_true rfl, ?_⟩
  simp -dsimp -implicitDefEqProofs only [S44, R44, strRows_len, ↓Ev.xStp_eq, ↓Ev.P, Ev.Q, Bool.cond_true, Bool.cond_false, eq_self, forall_eq_or_imp, implies_true, forall_const, forall_eq, ↓reduceIte, reduceIte, Nat.reduceEqDiff, Nat.reduceAdd, reduceCtorEq, Nat.reduceSub, Int.reduceToNat, Int.reduceLE, Int.reduceLT, Int.reduceNeg, Nat.reduceBEq, Nat.reduceMul, Nat.reduceLeDiff, Nat.reduceMod, UInt8.reduceOfNat, Nat.reduceLT, Int.reduceEq, Int.reduceAdd, Int.reduceSub, Int.reduceMul]
  refine xLoop_intro (fun n st => ∃ i : Nat, i ≤ l.length ∧ n = l.length - i ∧ okUp i l = true ∧
      st = ⟨[(0, .d (.sl (strRows l))), (3, .d (.v (.int .i64 i)))], 0, []⟩) l.length [] ?_ ?_ ?_
  · simp -dsimp -implicitDefEqProofs only [↓Ev.xStp_eq, ↓Ev.P, Ev.Q, Bool.cond_true, Bool.cond_false, eq_self, forall_eq_or_imp, implies_true, forall_const, forall_eq, ↓reduceIte, reduceIte, Nat.reduceEqDiff, Nat.reduceAdd, reduceCtorEq, Nat.reduceSub, Int.reduceToNat, Int.reduceLE, Int.reduceLT, Int.reduceNeg, Nat.reduceBEq, Nat.reduceMul, Nat.reduceLeDiff, Nat.reduceMod, UInt8.reduceOfNat, Nat.reduceLT, Int.reduceEq, Int.reduceAdd, Int.reduceSub, Int.reduceMul]
  · simp -dsimp -implicitDefEqProofs only [↓Ev.xStp_eq, ↓Ev.P, Ev.Q, Bool.cond_true, Bool.cond_false, eq_self, forall_eq_or_imp, implies_true, forall_const, forall_eq, ↓reduceIte, reduceIte, Nat.reduceEqDiff, Nat.reduceAdd, reduceCtorEq, Nat.reduceSub, Int.reduceToNat, Int.reduceLE, Int.reduceLT, Int.reduceNeg, Nat.reduceBEq, Nat.reduceMul, Nat.reduceLeDiff, Nat.reduceMod, UInt8.reduceOfNat, Nat.reduceLT, Int.reduceEq, Int.reduceAdd, Int.reduceSub, Int.reduceMul]
    exact ⟨0, by omega, by omega, rfl, by simp⟩
  · rintro n st ⟨i, hi, hn, hok, rfl⟩
    by_cases hil : i < l.length
    · have hi3 : (i : Int) < l.length := by omega
      have hg := strRows_get hil
      have hg2 : (strRows l).getD i [] = [.v (.string ⟨(l.getD i []).toArray⟩)] := by rw [List.getD_eq_getElem?_getD, hg]; rfl
      have hsz := h2 _ (getD_in hil)
      have hst := okUp_succ i l
      have hout := okUp_out hil
      generalize l.getD i [] = s at hg hg2 hsz hst hout
      simp -dsimp -implicitDefEqProofs only [hg, hi3, strRows_len, ↓Ev.xStp_eq, ↓Ev.P, Ev.Q, Bool.cond_true, Bool.cond_false, eq_self, forall_eq_or_imp, implies_true, forall_const, forall_eq, ↓reduceIte, reduceIte, Nat.reduceEqDiff, Nat.reduceAdd, reduceCtorEq, Nat.reduceSub, Int.reduceToNat, Int.reduceLE, Int.reduceLT, Int.reduceNeg, Nat.reduceBEq, Nat.reduceMul, Nat.reduceLeDiff, Nat.reduceMod, UInt8.reduceOfNat, Nat.reduceLT, Int.reduceEq, Int.reduceAdd, Int.reduceSub, Int.reduceMul]
      refine xLoop_intro (fun n st => ∃ k : Nat, (k = 0 ∨ (k : Int) ≤ s.length - 1) ∧ n = s.length - k ∧ 10 ∉ s.take k ∧
        st = ⟨[(0, .d (.sl (strRows l))), (3, .d (.v (.int .i64 i))), (4, .d (.v (.int .i64 k)))], 0, []⟩) s.length [] ?_ ?_ ?_
      · simp -dsimp -implicitDefEqProofs only [↓Ev.xStp_eq, ↓Ev.P, Ev.Q, Bool.cond_true, Bool.cond_false, eq_self, forall_eq_or_imp, implies_true, forall_const, forall_eq, ↓reduceIte, reduceIte, Nat.reduceEqDiff, Nat.reduceAdd, reduceCtorEq, Nat.reduceSub, Int.reduceToNat, Int.reduceLE, Int.reduceLT, Int.reduceNeg, Nat.reduceBEq, Nat.reduceMul, Nat.reduceLeDiff, Nat.reduceMod, UInt8.reduceOfNat, Nat.reduceLT, Int.reduceEq, Int.reduceAdd, Int.reduceSub, Int.reduceMul]
      · simp -dsimp -implicitDefEqProofs only [↓Ev.xStp_eq, ↓Ev.P, Ev.Q, Bool.cond_true, Bool.cond_false, eq_self, forall_eq_or_imp, implies_true, forall_const, forall_eq, ↓reduceIte, reduceIte, Nat.reduceEqDiff, Nat.reduceAdd, reduceCtorEq, Nat.reduceSub, Int.reduceToNat, Int.reduceLE, Int.reduceLT, Int.reduceNeg, Nat.reduceBEq, Nat.reduceMul, Nat.reduceLeDiff, Nat.reduceMod, UInt8.reduceOfNat, Nat.reduceLT, Int.reduceEq, Int.reduceAdd, Int.reduceSub, Int.reduceMul]
        exact ⟨0, .inl rfl, by omega, by simp, by simp⟩
      · rintro n2 st2 ⟨k, hk1, hn2, hno, rfl⟩
        by_cases hkl : (k : Int) < (s.length : Int) - 1
        · simp -dsimp -implicitDefEqProofs only [hg, hg2, hi3, hkl, strRows_len, ↓Ev.xStp_eq, ↓Ev.P, Ev.Q, Bool.cond_true, Bool.cond_false, eq_self, forall_eq_or_imp, implies_true, forall_const, forall_eq, ↓reduceIte, reduceIte, Nat.reduceEqDiff, Nat.reduceAdd, reduceCtorEq, Nat.reduceSub, Int.reduceToNat, Int.reduceLE, Int.reduceLT, Int.reduceNeg, Nat.reduceBEq, Nat.reduceMul, Nat.reduceLeDiff, Nat.reduceMod, UInt8.reduceOfNat, Nat.reduceLT, Int.reduceEq, Int.reduceAdd, Int.reduceSub, Int.reduceMul]
          repeat' (first | with_reducible assumption | refine And.intro ?_ ?_ | intro _)
          all_goals try omega
          · rename_i h
            have hb : okLine (decide (i + 1 = l.length)) s = false := by rw [okLine, in_drop hkl ((u8_ten _).1 h)]; simp
            rw [hout hb] at hk; exact hk
          · rename_i h
            refine xAgain_intro (s.length - (k + 1)) [] (by omega) (by simp -dsimp -implicitDefEqProofs only [↓Ev.xStp_eq, ↓Ev.P, Ev.Q, Bool.cond_true, Bool.cond_false, eq_self, forall_eq_or_imp, implies_true, forall_const, forall_eq, ↓reduceIte, reduceIte, Nat.reduceEqDiff, Nat.reduceAdd, reduceCtorEq, Nat.reduceSub, Int.reduceToNat, Int.reduceLE, Int.reduceLT, Int.reduceNeg, Nat.reduceBEq, Nat.reduceMul, Nat.reduceLeDiff, Nat.reduceMod, UInt8.reduceOfNat, Nat.reduceLT, Int.reduceEq, Int.reduceAdd, Int.reduceSub, Int.reduceMul]) ⟨k + 1, .inr (by omega), rfl, ?_, ?_⟩
            · rw [List.take_succ_eq_append_getElem (by omega), List.mem_append]
              rintro (hm | hm)
              · exact hno hm
              · have e := List.mem_singleton.1 hm
                refine h ((u8_ten _).2 ?_)
                rw [List.getD_eq_getElem?_getD, List.getElem?_eq_getElem (by omega), Option.getD_some, e]
            · simp -dsimp -implicitDefEqProofs only [↓Ev.xStp_eq, ↓Ev.P, Ev.Q, Bool.cond_true, Bool.cond_false, eq_self, forall_eq_or_imp, implies_true, forall_const, forall_eq, ↓reduceIte, reduceIte, Nat.reduceEqDiff, Nat.reduceAdd, reduceCtorEq, Nat.reduceSub, Int.reduceToNat, Int.reduceLE, Int.reduceLT, Int.reduceNeg, Nat.reduceBEq, Nat.reduceMul, Nat.reduceLeDiff, Nat.reduceMod, UInt8.reduceOfNat, Nat.reduceLT, Int.reduceEq, Int.reduceAdd, Int.reduceSub, Int.reduceMul]
              rfl
        · have hnd := no_drop (by omega) hno
          simp -dsimp -implicitDefEqProofs only [hg, hg2, hi3, hkl, strRows_len, ↓Ev.xStp_eq, ↓Ev.P, Ev.Q, Bool.cond_true, Bool.cond_false, eq_self, forall_eq_or_imp, implies_true, forall_const, forall_eq, ↓reduceIte, reduceIte, Nat.reduceEqDiff, Nat.reduceAdd, reduceCtorEq, Nat.reduceSub, Int.reduceToNat, Int.reduceLE, Int.reduceLT, Int.reduceNeg, Nat.reduceBEq, Nat.reduceMul, Nat.reduceLeDiff, Nat.reduceMod, UInt8.reduceOfNat, Nat.reduceLT, Int.reduceEq, Int.reduceAdd, Int.reduceSub, Int.reduceMul]
          repeat' (first | with_reducible assumption | refine And.intro ?_ ?_ | intro _)
          all_goals try omega
          · rename_i h
            have hb : okLine (decide (i + 1 = l.length)) s = false := by
              by_cases he : s = []
              · subst he; rfl
              · rcases h with h | ⟨h, h3⟩
                · exact absurd (List.length_eq_zero_iff.1 (by omega)) he
                · have e1 : decide (i + 1 = l.length) = false := by rw [decide_eq_false_iff_not]; omega
                  rw [okLine, e1, last_get he, Bool.false_or, decide_eq_false (p := some (s.getD (s.length - 1) 0) = some 10) (fun e => h3 ((u8_ten _).2 (Option.some.inj e))), Bool.and_false]
            rw [hout hb] at hk; exact hk
          · rename_i h
            obtain ⟨a1, a2⟩ := h
            have he : s ≠ [] := fun e => a1 (by rw [e]; rfl)
            have hb : okLine (decide (i + 1 = l.length)) s = true := by
              rw [okLine, hnd, last_get he]
              simp only [he, ne_eq, not_false_eq_true, decide_true, Bool.not_false, Bool.true_and, Bool.or_eq_true, decide_eq_true_eq, Option.some.injEq]
              rcases a2 with a2 | a2
              · exact .inl (by omega)
              · exact .inr ((u8_ten _).1 a2)
            refine xAgain_intro (l.length - (i + 1)) [] (by omega) (by simp -dsimp -implicitDefEqProofs only [↓Ev.xStp_eq, ↓Ev.P, Ev.Q, Bool.cond_true, Bool.cond_false, eq_self, forall_eq_or_imp, implies_true, forall_const, forall_eq, ↓reduceIte, reduceIte, Nat.reduceEqDiff, Nat.reduceAdd, reduceCtorEq, Nat.reduceSub, Int.reduceToNat, Int.reduceLE, Int.reduceLT, Int.reduceNeg, Nat.reduceBEq, Nat.reduceMul, Nat.reduceLeDiff, Nat.reduceMod, UInt8.reduceOfNat, Nat.reduceLT, Int.reduceEq, Int.reduceAdd, Int.reduceSub, Int.reduceMul]) ⟨i + 1, by omega, rfl, by rw [hst, hok, hb]; rfl, ?_⟩
            simp -dsimp -implicitDefEqProofs only [↓Ev.xStp_eq, ↓Ev.P, Ev.Q, Bool.cond_true, Bool.cond_false, eq_self, forall_eq_or_imp, implies_true, forall_const, forall_eq, ↓reduceIte, reduceIte, Nat.reduceEqDiff, Nat.reduceAdd, reduceCtorEq, Nat.reduceSub, Int.reduceToNat, Int.reduceLE, Int.reduceLT, Int.reduceNeg, Nat.reduceBEq, Nat.reduceMul, Nat.reduceLeDiff, Nat.reduceMod, UInt8.reduceOfNat, Nat.reduceLT, Int.reduceEq, Int.reduceAdd, Int.reduceSub, Int.reduceMul]
            rfl
    · have hi3 : ¬ (i : Int) < l.length := by omega
      obtain rfl : i = l.length := by omega
      rw [if_pos hok] at hk
      simp -dsimp -implicitDefEqProofs only [hi3, strRows_len, ↓Ev.xStp_eq, ↓Ev.P, Ev.Q, Bool.cond_true, Bool.cond_false, eq_self, forall_eq_or_imp, implies_true, forall_const, forall_eq, ↓reduceIte, reduceIte, Nat.reduceEqDiff, Nat.reduceAdd, reduceCtorEq, Nat.reduceSub, Int.reduceToNat, Int.reduceLE, Int.reduceLT, Int.reduceNeg, Nat.reduceBEq, Nat.reduceMul, Nat.reduceLeDiff, Nat.reduceMod, UInt8.reduceOfNat, Nat.reduceLT, Int.reduceEq, Int.reduceAdd, Int.reduceSub, Int.reduceMul]
      exact hk
end Go.Proofs.YtlghobefhmpfkaaGreatDoor
/- The compiled code of functions, by program (gen.py): each theorem says that the loaded program compiles to it. -/
set_option linter.unusedVariables false
namespace Go.Proofs.YtlghobefhmpfkaaGreatDoor
open Go Go.Ev
set_option maxRecDepth 100000

/-! 86: redline/num.Parse -/
def A86 : Ann := ⟨fun r i => if r = 1 ∧ i = 4 then 1 else 0, fun _ => none, fun r => if r = 1 then some (false, [0]) else if r = 6 then some (false, [0, 5, 21]) else if r = 8 then some (false, [0]) else if r = 9 then some (false, [6, 7]) else if r = 11 then some (false, [6]) else none, fun r => if r = 4 then [0, 21] else []⟩
def S86_0 : SCode :=
  (.ops [⟨none, (some 2), .mv 2 (.k (Value.int .i64 0)), false⟩,
    ⟨none, (some 3), .mv 3 (.k (Value.int .i64 0)), false⟩])
def S86_1 : SCode :=
  (.seq (.seq (.keep [0]) (.ops [⟨none, (some 8), .mv 8 (.s 0), false⟩,
    ⟨none, (some 9), .bin 9 .eql (.s 8) (.k (Value.string ⟨#[]⟩)), false⟩,
    ⟨none, (some 10), .mv 10 (.s 9), false⟩,
    ⟨(some (10, false)), (some 11), .mv 11 (.s 0), false⟩,
    ⟨(some (10, false)), (some 12), .lens 12 (.s 11), false⟩,
    ⟨(some (10, false)), (some 13), .bin 13 .gtr (.s 12) (.k (Value.int .i64 1)), false⟩,
    ⟨(some (10, false)), (some 14), .mv 14 (.s 13), false⟩,
    ⟨(some (14, true)), (some 15), .mv 15 (.s 0), false⟩,
    ⟨(some (14, true)), (some 16), .ixs 16 (.s 15) (.k (Value.int .i64 0)), false⟩,
    ⟨(some (14, true)), (some 17), .bin 17 .eql (.s 16) (.k (Value.int .u8 48)), true⟩,
    ⟨(some (10, false)), (some 18), .pk 18 (.s 14) (.s 17) (.k (Value.bool false)), false⟩,
    ⟨none, (some 19), .pk 19 (.s 10) (.k (Value.bool true)) (.s 18), false⟩]))
  (.cond (.s 19) (.seq (.ops [⟨none, (some 2), .mv 2 (.k (Value.int .i64 0)), false⟩,
    ⟨none, (some 3), .mv 3 (.k (Value.int .i64 3)), false⟩])
  .ret) .skip))
def S86_2 : SCode :=
  (.seq (.ops [⟨none, (some 20), .mv 20 (.s 0), false⟩,
    ⟨none, (some 21), .rg 21 (.s 20), false⟩])
  (.block 0 (.loop [0, 21] (.seq (.ops [⟨none, (some 22), .nx 22 (.s 21), false⟩,
    ⟨none, (some 23), .ex 23 (.s 22) 0, false⟩])
  (.seq (.cond (.s 23) .skip (.exit 0))
  (.block 1 (.seq (.ops [⟨none, (some 24), .ex 24 (.s 22) 2, false⟩,
    ⟨none, (some 5), .mv 5 (.s 24), false⟩])
  (.seq (.seq (.keep [0, 5, 21]) (.ops [⟨none, (some 25), .mv 25 (.s 5), false⟩,
    ⟨none, (some 26), .bin 26 .lss (.s 25) (.k (Value.int .i32 48)), false⟩,
    ⟨none, (some 27), .mv 27 (.s 26), false⟩,
    ⟨(some (27, false)), (some 28), .mv 28 (.s 5), false⟩,
    ⟨(some (27, false)), (some 29), .bin 29 .gtr (.s 28) (.k (Value.int .i32 57)), false⟩,
    ⟨none, (some 30), .pk 30 (.s 27) (.k (Value.bool true)) (.s 29), false⟩]))
  (.cond (.s 30) (.seq (.ops [⟨none, (some 2), .mv 2 (.k (Value.int .i64 0)), false⟩,
    ⟨none, (some 3), .mv 3 (.k (Value.int .i64 3)), false⟩])
  .ret) .skip)))))))))
def S86_3 : SCode :=
  (.seq (.keep [0]) (.ops [⟨none, (some 32), .mv 32 (.s 0), false⟩,
    ⟨none, (some 33), .call (some 33) 147 false [(.s 32)], false⟩,
    ⟨none, (some 31), .mv 31 (.s 33), false⟩,
    ⟨none, (some 34), .ex 34 (.s 31) 0, false⟩,
    ⟨none, (some 35), .ex 35 (.s 31) 1, false⟩,
    ⟨none, (some 6), .mv 6 (.s 34), false⟩,
    ⟨none, (some 7), .mv 7 (.s 35), false⟩]))
def S86_4 : SCode :=
  (.seq (.seq (.keep [6, 7]) (.ops [⟨none, (some 36), .mv 36 (.s 7), false⟩,
    ⟨none, (some 37), .isnil 37 true true (.s 36), false⟩,
    ⟨none, (some 38), .mv 38 (.s 37), false⟩,
    ⟨(some (38, false)), (some 39), .mv 39 (.s 6), false⟩,
    ⟨(some (38, false)), (some 40), .bin 40 .gtr (.s 39) (.k (Value.int .i64 2147483647)), false⟩,
    ⟨none, (some 41), .pk 41 (.s 38) (.k (Value.bool true)) (.s 40), false⟩]))
  (.cond (.s 41) (.seq (.ops [⟨none, (some 2), .mv 2 (.k (Value.int .i64 0)), false⟩,
    ⟨none, (some 3), .mv 3 (.k (Value.int .i64 2)), false⟩])
  .ret) .skip))
def S86_5 : SCode :=
  (.seq (.keep [6]) (.ops [⟨none, (some 42), .mv 42 (.s 6), false⟩,
    ⟨none, (some 2), .mv 2 (.s 42), false⟩,
    ⟨none, (some 3), .mv 3 (.k (Value.int .i64 0)), false⟩]))
def S86r6 : SCode := .ret
def S86r5 : SCode := .seq S86_5 S86r6
def S86r4 : SCode := .seq S86_4 S86r5
def S86r3 : SCode := .seq S86_3 S86r4
def S86r2 : SCode := .seq S86_2 S86r3
def S86r1 : SCode := .seq S86_1 S86r2
def S86 : SCode := .seq S86_0 S86r1
theorem cc86 : (Tryz.f86.body).bind (cc Tryz.prog Tryz.f86.ntmps A86) = some S86 := by kernel_rfl
def R86 : List RR := [.sl 2, .sl 3]
theorem cr86 : Tryz.f86.results.toList.map (crr Tryz.prog) = R86.map some := by kernel_rfl
theorem nm86 : (Tryz.f86.name == "runtime.NumGoroutine") = false := by kernel_rfl
theorem fn86 : Tryz.prog.funcs[86]? = some Tryz.f86 := by kernel_rfl
theorem bd86 : ∃ b, Tryz.f86.body = some b ∧ cc Tryz.prog Tryz.f86.ntmps A86 b = some S86 := Option.bind_eq_some_iff.1 cc86
theorem sd86 {G : World → Prop} {T : FuncId → Contract} {C : Contract} (hT : ∀ f, Sound G Tryz.prog f (T f)) (hl : C.lawful) (hC : ∀ args st K, C.wp args st K → args.length ≤ 43 ∧ ∃ os op, xv T st.n S86 (st0 args st) (retK R86 st.n os K) (panK st.n op K)) (hit : SoundIt G Tryz.prog 86 C.it := by exact SoundIt.none) : Sound G Tryz.prog 86 C := by
  obtain ⟨b, hb, hc⟩ := bd86
  rw [xv_eq] at hC
  exact sound_of_ev mo fn86 hb nm86 hc cr86 hT hl hit hC

/-! 90: redline/redlineref01.Parse -/
def A90 : Ann := ⟨fun r i => if r = 1 ∧ i = 5 then 1 else 0, fun _ => none, fun r => if r = 1 then some (false, [0]) else if r = 5 then some (false, [0, 4, 5]) else if r = 6 then some (false, [0, 4, 5]) else if r = 7 then some (false, [0, 4, 5]) else if r = 9 then some (false, [0, 4, 5]) else if r = 12 then some (false, [4]) else none, fun r => if r = 5 then [0, 4, 5] else []⟩
def S90 : SCode :=
  (.seq (.ops [⟨none, (some 2), .mv 2 (.k (Value.int .i64 0)), false⟩,
    ⟨none, (some 3), .mv 3 (.k (Value.int .i64 0)), false⟩])
  (.seq (.seq (.seq (.keep [0]) (.ops [⟨none, (some 6), .mv 6 (.s 0), false⟩,
    ⟨none, (some 7), .lens 7 (.s 6), false⟩,
    ⟨none, (some 8), .bin 8 .eql (.s 7) (.k (Value.int .i64 0)), false⟩,
    ⟨none, (some 9), .mv 9 (.s 8), false⟩,
    ⟨(some (9, false)), (some 10), .mv 10 (.s 0), false⟩,
    ⟨(some (9, false)), (some 11), .lens 11 (.s 10), false⟩,
    ⟨(some (9, false)), (some 12), .bin 12 .gtr (.s 11) (.k (Value.int .i64 1)), false⟩,
    ⟨(some (9, false)), (some 13), .mv 13 (.s 12), false⟩,
    ⟨(some (13, true)), (some 14), .mv 14 (.s 0), false⟩,
    ⟨(some (13, true)), (some 15), .ixs 15 (.s 14) (.k (Value.int .i64 0)), true⟩,
    ⟨(some (13, true)), (some 16), .bin 16 .eql (.s 15) (.k (Value.int .u8 48)), false⟩,
    ⟨(some (9, false)), (some 17), .pk 17 (.s 13) (.s 16) (.k (Value.bool false)), false⟩,
    ⟨none, (some 18), .pk 18 (.s 9) (.k (Value.bool true)) (.s 17), false⟩]))
  (.cond (.s 18) (.seq (.ops [⟨none, (some 2), .mv 2 (.k (Value.int .i64 0)), false⟩,
    ⟨none, (some 3), .mv 3 (.k (Value.int .i64 3)), false⟩])
  .ret) .skip))
  (.seq (.ops [⟨none, (some 4), .mv 4 (.k (Value.int .i64 0)), false⟩])
  (.seq (.seq (.ops [⟨none, (some 5), .mv 5 (.k (Value.int .i64 0)), false⟩])
  (.block 0 (.loop [0, 4, 5] (.seq (.seq (.seq (.keep [0, 4, 5]) (.ops [⟨none, (some 19), .mv 19 (.s 5), false⟩,
    ⟨none, (some 20), .mv 20 (.s 0), false⟩,
    ⟨none, (some 21), .lens 21 (.s 20), false⟩,
    ⟨none, (some 22), .bin 22 .lss (.s 19) (.s 21), false⟩]))
  (.cond (.s 22) .skip (.exit 0)))
  (.seq (.block 1 (.seq (.seq (.seq (.keep [0, 4, 5]) (.ops [⟨none, (some 25), .mv 25 (.s 0), false⟩,
    ⟨none, (some 26), .mv 26 (.s 5), false⟩,
    ⟨none, (some 27), .ixs 27 (.s 25) (.s 26), false⟩,
    ⟨none, (some 28), .bin 28 .lss (.s 27) (.k (Value.int .u8 48)), false⟩,
    ⟨none, (some 29), .mv 29 (.s 28), false⟩,
    ⟨(some (29, false)), (some 30), .mv 30 (.s 0), false⟩,
    ⟨(some (29, false)), (some 31), .mv 31 (.s 5), false⟩,
    ⟨(some (29, false)), (some 32), .ixs 32 (.s 30) (.s 31), false⟩,
    ⟨(some (29, false)), (some 33), .bin 33 .gtr (.s 32) (.k (Value.int .u8 57)), false⟩,
    ⟨none, (some 34), .pk 34 (.s 29) (.k (Value.bool true)) (.s 33), true⟩]))
  (.cond (.s 34) (.seq (.ops [⟨none, (some 2), .mv 2 (.k (Value.int .i64 0)), false⟩,
    ⟨none, (some 3), .mv 3 (.k (Value.int .i64 3)), false⟩])
  .ret) .skip))
  (.seq (.keep [0, 4, 5]) (.ops [⟨none, (some 35), .mv 35 (.s 4), false⟩,
    ⟨none, (some 36), .binc 36 .mul (.s 35) (.k (Value.int .i64 10)), false⟩,
    ⟨none, (some 37), .mv 37 (.s 0), false⟩,
    ⟨none, (some 38), .mv 38 (.s 5), false⟩,
    ⟨none, (some 39), .ixs 39 (.s 37) (.s 38), false⟩,
    ⟨none, (some 40), .bin 40 .sub (.s 39) (.k (Value.int .u8 48)), false⟩,
    ⟨none, (some 41), .cvi 41 .i64 (.s 40), false⟩,
    ⟨none, (some 42), .binc 42 .add (.s 36) (.s 41), false⟩,
    ⟨none, (some 43), .mm 43 true (.s 42) [(.k (Value.int .i64 2147483648))], false⟩,
    ⟨none, (some 4), .mv 4 (.s 43), true⟩]))))
  (.seq (.keep [0, 4, 5]) (.ops [⟨none, (some 23), .mv 23 (.s 5), false⟩,
    ⟨none, (some 24), .binc 24 .add (.s 23) (.k (Value.int .i64 1)), false⟩,
    ⟨none, (some 5), .mv 5 (.s 24), false⟩])))))))
  (.seq (.seq (.ops [⟨none, (some 44), .mv 44 (.s 4), false⟩,
    ⟨none, (some 45), .bin 45 .gtr (.s 44) (.k (Value.int .i64 2147483647)), false⟩])
  (.cond (.s 45) (.seq (.ops [⟨none, (some 2), .mv 2 (.k (Value.int .i64 0)), false⟩,
    ⟨none, (some 3), .mv 3 (.k (Value.int .i64 2)), false⟩])
  .ret) .skip))
  (.seq (.seq (.keep [4]) (.ops [⟨none, (some 46), .mv 46 (.s 4), false⟩,
    ⟨none, (some 2), .mv 2 (.s 46), false⟩,
    ⟨none, (some 3), .mv 3 (.k (Value.int .i64 0)), false⟩]))
  .ret))))))
theorem cc90 : (Tryz.f90.body).bind (cc Tryz.prog Tryz.f90.ntmps A90) = some S90 := by kernel_rfl
def R90 : List RR := [.sl 2, .sl 3]
theorem cr90 : Tryz.f90.results.toList.map (crr Tryz.prog) = R90.map some := by kernel_rfl
theorem nm90 : (Tryz.f90.name == "runtime.NumGoroutine") = false := by kernel_rfl
theorem fn90 : Tryz.prog.funcs[90]? = some Tryz.f90 := by kernel_rfl
theorem bd90 : ∃ b, Tryz.f90.body = some b ∧ cc Tryz.prog Tryz.f90.ntmps A90 b = some S90 := Option.bind_eq_some_iff.1 cc90
theorem sd90 {G : World → Prop} {T : FuncId → Contract} {C : Contract} (hT : ∀ f, Sound G Tryz.prog f (T f)) (hl : C.lawful) (hC : ∀ args st K, C.wp args st K → args.length ≤ 47 ∧ ∃ os op, xv T st.n S90 (st0 args st) (retK R90 st.n os K) (panK st.n op K)) (hit : SoundIt G Tryz.prog 90 C.it := by exact SoundIt.none) : Sound G Tryz.prog 90 C := by
  obtain ⟨b, hb, hc⟩ := bd90
  rw [xv_eq] at hC
  exact sound_of_ev mo fn90 hb nm90 hc cr90 hT hl hit hC

end Go.Proofs.YtlghobefhmpfkaaGreatDoor
/-
  DERIVED: THE SHELF's CONTRACTS AT THIS DUMP, IN PLAIN WORDS (tools/lay-plain.mjs out of 'TryzShelfPart.lean', which tools/lay-shelf.mjs wrote): THE SAME DECLARATIONS UNDER THE SAME NAMES: 'import', 'namespace', 'open', 'def', 'theorem' AND NOTHING ELSE: no command of the shelf's: FOR A HAND-IN. Each laying: the table of numbers ('.._ren') and one theorem, a field a fact of the dump's own or the kernel's comparison; each contract: ONE APPLICATION.
-/
namespace Go.Proofs
open Go.Shelf
def Tryz.laysC172_ren : Go.Shelf.Ren := ⟨fun | 172 => 147 | 244 => 189 | 245 => 190 | 247 => 210 | 279 => 211 | 280 => 212 | 281 => 213 | 282 => 214 | 287 => 219 | 316 => 220 | 171 => 155 | 205 => 221 | 321 => 226 | 322 => 227 | 243 => 194 | 246 => 216 | 283 => 222 | 284 => 223 | 285 => 224 | 286 => 225 | 129 => 229 | 317 => 228 | 318 => 230 | 319 => 231 | 320 => 232 | 337 => 233 | 338 => 234 | n => n, fun | 9 => 9 | 3 => 3 | 75 => 24 | 76 => 118 | 4 => 4 | 5 => 5 | 167 => 258 | 37 => 115 | 0 => 0 | 85 => 259 | 2 => 2 | 168 => 261 | 53 => 270 | 175 => 271 | 46 => 226 | 210 => 274 | 127 => 178 | 145 => 288 | 143 => 286 | 21 => 21 | 171 => 276 | 173 => 279 | 212 => 290 | 51 => 264 | 20 => 20 | 213 => 291 | 232 => 294 | 233 => 295 | 80 => 75 | n => n, fun | 15 => 2 | 16 => 3 | 17 => 6 | 18 => 7 | 19 => 8 | n => n⟩
theorem Tryz.laysC172 : Go.Proofs.LaysC.n172 Tryz.prog Tryz.laysC172_ren := {
  mixed := by kernel_rfl
  f129 := Tryz.func229.trans (congrArg some (by kernel_rfl))
  f171 := Tryz.func155.trans (congrArg some (by kernel_rfl))
  f172 := Tryz.func147.trans (congrArg some (by kernel_rfl))
  f205 := Tryz.func221.trans (congrArg some (by kernel_rfl))
  f243 := Tryz.func194.trans (congrArg some (by kernel_rfl))
  f244 := Tryz.func189.trans (congrArg some (by kernel_rfl))
  f245 := Tryz.func190.trans (congrArg some (by kernel_rfl))
  f246 := Tryz.func216.trans (congrArg some (by kernel_rfl))
  f247 := Tryz.func210.trans (congrArg some (by kernel_rfl))
  f279 := Tryz.func211.trans (congrArg some (by kernel_rfl))
  f280 := Tryz.func212.trans (congrArg some (by kernel_rfl))
  f281 := Tryz.func213.trans (congrArg some (by kernel_rfl))
  f282 := Tryz.func214.trans (congrArg some (by kernel_rfl))
  f283 := Tryz.func222.trans (congrArg some (by kernel_rfl))
  f284 := Tryz.func223.trans (congrArg some (by kernel_rfl))
  f285 := Tryz.func224.trans (congrArg some (by kernel_rfl))
  f286 := Tryz.func225.trans (congrArg some (by kernel_rfl))
  f287 := Tryz.func219.trans (congrArg some (by kernel_rfl))
  f316 := Tryz.func220.trans (congrArg some (by kernel_rfl))
  f317 := Tryz.func228.trans (congrArg some (by kernel_rfl))
  f318 := Tryz.func230.trans (congrArg some (by kernel_rfl))
  f319 := Tryz.func231.trans (congrArg some (by kernel_rfl))
  f320 := Tryz.func232.trans (congrArg some (by kernel_rfl))
  f321 := Tryz.func226.trans (congrArg some (by kernel_rfl))
  f322 := Tryz.func227.trans (congrArg some (by kernel_rfl))
  f337 := Tryz.func233.trans (congrArg some (by kernel_rfl))
  f338 := Tryz.func234.trans (congrArg some (by kernel_rfl))
  t0 := Tryz.underlying0
  a0 := Tryz.isAgg0
  z0 := Tryz.sizeOf0
  v0 := Tryz.zeroValue0
  t2 := Tryz.underlying2
  a2 := Tryz.isAgg2
  z2 := Tryz.sizeOf2
  v2 := Tryz.zeroValue2
  t3 := Tryz.underlying3
  a3 := Tryz.isAgg3
  z3 := Tryz.sizeOf3
  v3 := Tryz.zeroValue3
  t4 := Tryz.underlying4
  a4 := Tryz.isAgg4
  z4 := Tryz.sizeOf4
  v4 := Tryz.zeroValue4
  t5 := Tryz.underlying5
  a5 := Tryz.isAgg5
  z5 := Tryz.sizeOf5
  v5 := Tryz.zeroValue5
  t9 := Tryz.underlying9
  a9 := Tryz.isAgg9
  z9 := Tryz.sizeOf9
  v9 := Tryz.zeroValue9
  t20 := Tryz.underlying20
  a20 := Tryz.isAgg20
  z20 := Tryz.sizeOf20
  v20 := Tryz.zeroValue20
  t21 := Tryz.underlying21
  a21 := Tryz.isAgg21
  z21 := Tryz.sizeOf21
  v21 := Tryz.zeroValue21
  t37 := Tryz.underlying115
  a37 := Tryz.isAgg115
  z37 := Tryz.sizeOf115
  v37 := Tryz.zeroValue115
  t46 := Tryz.underlying226
  a46 := Tryz.isAgg226
  z46 := Tryz.sizeOf226
  v46 := Tryz.zeroValue226
  t51 := Tryz.underlying264
  a51 := Tryz.isAgg264
  z51 := Tryz.sizeOf264
  v51 := Tryz.zeroValue264
  t53 := Tryz.underlying270
  a53 := Tryz.isAgg270
  z53 := Tryz.sizeOf270
  v53 := Tryz.zeroValue270
  t75 := Tryz.underlying24
  a75 := Tryz.isAgg24
  z75 := Tryz.sizeOf24
  v75 := Tryz.zeroValue24
  t76 := Tryz.underlying118
  a76 := Tryz.isAgg118
  z76 := Tryz.sizeOf118
  v76 := Tryz.zeroValue118
  t85 := Tryz.underlying259
  a85 := Tryz.isAgg259
  z85 := Tryz.sizeOf259
  v85 := Tryz.zeroValue259
  t127 := Tryz.underlying178
  a127 := Tryz.isAgg178
  z127 := Tryz.sizeOf178
  v127 := Tryz.zeroValue178
  t143 := Tryz.underlying286
  a143 := Tryz.isAgg286
  z143 := Tryz.sizeOf286
  v143 := Tryz.zeroValue286
  t145 := Tryz.underlying288
  a145 := Tryz.isAgg288
  z145 := Tryz.sizeOf288
  v145 := Tryz.zeroValue288
  t167 := Tryz.underlying258
  a167 := Tryz.isAgg258
  z167 := Tryz.sizeOf258
  v167 := Tryz.zeroValue258
  t168 := Tryz.underlying261
  a168 := Tryz.isAgg261
  z168 := Tryz.sizeOf261
  v168 := Tryz.zeroValue261
  t171 := Tryz.underlying276
  a171 := Tryz.isAgg276
  z171 := Tryz.sizeOf276
  v171 := Tryz.zeroValue276
  t173 := Tryz.underlying279
  a173 := Tryz.isAgg279
  z173 := Tryz.sizeOf279
  v173 := Tryz.zeroValue279
  t175 := Tryz.underlying271
  a175 := Tryz.isAgg271
  z175 := Tryz.sizeOf271
  v175 := Tryz.zeroValue271
  t210 := Tryz.underlying274
  a210 := Tryz.isAgg274
  z210 := Tryz.sizeOf274
  v210 := Tryz.zeroValue274
  t212 := Tryz.underlying290
  a212 := Tryz.isAgg290
  z212 := Tryz.sizeOf290
  v212 := Tryz.zeroValue290
  t213 := Tryz.underlying291
  a213 := Tryz.isAgg291
  z213 := Tryz.sizeOf291
  t232 := Tryz.underlying294
  a232 := Tryz.isAgg294
  z232 := Tryz.sizeOf294
  v232 := Tryz.zeroValue294
  t233 := Tryz.underlying295
  a233 := Tryz.isAgg295
  z233 := Tryz.sizeOf295
  v233 := Tryz.zeroValue295
  g15 := by kernel_rfl
  g16 := by kernel_rfl
  g17 := by kernel_rfl
  g18 := by kernel_rfl
  g19 := by kernel_rfl
  t80 := Tryz.underlying75
  a80 := Tryz.isAgg75
  z80 := Tryz.sizeOf75
  v80 := Tryz.zeroValue75
  i0 := by kernel_rfl
  i2 := by kernel_rfl
  i3 := by kernel_rfl
  i4 := by kernel_rfl
  i5 := by kernel_rfl
  i9 := by kernel_rfl
  i20 := by kernel_rfl
  i21 := by kernel_rfl
  i37 := by kernel_rfl
  i46 := by kernel_rfl
  i51 := by kernel_rfl
  i53 := by kernel_rfl
  i75 := by kernel_rfl
  i76 := by kernel_rfl
  i80 := by kernel_rfl
  i85 := by kernel_rfl
  i127 := by kernel_rfl
  i143 := by kernel_rfl
  i145 := by kernel_rfl
  i167 := by kernel_rfl
  i168 := by kernel_rfl
  i171 := by kernel_rfl
  i173 := by kernel_rfl
  i175 := by kernel_rfl
  i210 := by kernel_rfl
  i212 := by kernel_rfl
  i232 := by kernel_rfl
  i233 := by kernel_rfl
  m15 := by kernel_rfl
  m16 := by kernel_rfl
  m17 := by kernel_rfl
  m18 := by kernel_rfl
  m19 := by kernel_rfl
  c0 := by kernel_rfl
  c2 := by kernel_rfl
  c3 := by kernel_rfl
  c4 := by kernel_rfl
  c5 := by kernel_rfl
  c9 := by kernel_rfl
  c20 := by kernel_rfl
  c21 := by kernel_rfl
  c37 := by kernel_rfl
  c46 := by kernel_rfl
  c51 := by kernel_rfl
  c53 := by kernel_rfl
  c75 := by kernel_rfl
  c76 := by kernel_rfl
  c80 := by kernel_rfl
  c85 := by kernel_rfl
  c127 := by kernel_rfl
  c143 := by kernel_rfl
  c145 := by kernel_rfl
  c167 := by kernel_rfl
  c168 := by kernel_rfl
  c171 := by kernel_rfl
  c173 := by kernel_rfl
  c175 := by kernel_rfl
  c210 := by kernel_rfl
  c212 := by kernel_rfl
  c213 := by kernel_rfl
  c232 := by kernel_rfl
  c233 := by kernel_rfl }
open Go.RowKit in
/-- strconv.Atoi, AT EVERY STRING THAT SPELLS AN int ('Lib.atoiAll .. = .ok v'; of whatever length: leading zeros count): v, AND NO ERROR. The world: as it was, or with the one new row that '[]byte(..)' lays. (LAID: no walk: one application.) -/
theorem Tryz.strconv_Atoi_ok (s : ByteArray) (hmax : s.size ≤ 9223372036854775806) (v : Int) (h : Lib.atoiAll s.data.toList = .ok v) (w : World) :
    Calls Tryz.prog 147 #[.string s] w fun e w' => e = .returned (.tuple #[.int .i64 v, .nilIface]) ∧ (w' = w ∨ ∃ t, w' = Lib.bytesWorld w 5 t) := Any.strconv_Atoi_ok Tryz.laysC172 s hmax v h w
open Go.RowKit in
theorem Tryz.strconv_Atoi_range_var (s : ByteArray) (hlim : s.size ≤ 281474976710656) (h : Lib.atoiAll s.data.toList = .range) (tp : TypeId) (p : Value) (w : World) (hvar : w.var? Tryz.prog "strconv.ErrRange" = some #[.iface tp p]) :
    Calls Tryz.prog 147 #[.string s] w fun e w' => ∃ N, e = .returned (.tuple #[.int .i64 (Lib.atoiSat s.data.toList), .iface 261 (.pointer (some ⟨N, 0, none⟩))]) ∧ w.heap.size ≤ N ∧ w'.heap[N]? = some (.cells #[.string ⟨#[65, 116, 111, 105]⟩, .string s, .iface tp p] 274 (0, 0)) ∧ Below w.heap.size w w' := Any.strconv_Atoi_range_var Tryz.laysC172 s hlim h tp p w hvar
end Go.Proofs
set_option linter.unusedVariables false
set_option linter.unusedSimpArgs false
namespace Go.Proofs.YtlghobefhmpfkaaGreatDoor
open Go Go.Ev
set_option maxRecDepth 100000
variable {G : World → Prop}
/-- Digits. -/
def dig (c : UInt8) : Bool := decide (48 ≤ (c.toNat : Int)) && decide ((c.toNat : Int) ≤ 57)
def valT (l : List UInt8) : Nat := l.foldl (fun n c => n * 10 + (c.toNat - 48)) 0
theorem val_app (l : List UInt8) (c : UInt8) : valT (l ++ [c]) = valT l * 10 + (c.toNat - 48) := by simp [valT]
theorem val_snoc {l : List UInt8} {i : Nat} (h : i < l.length) : valT (l.take (i + 1)) = valT (l.take i) * 10 + ((l.getD i 0).toNat - 48) := by
  rw [List.take_succ_eq_append_getElem h, val_app]
  simp [List.getD_eq_getElem?_getD, List.getElem?_eq_getElem h]
theorem all_take {l : List UInt8} {i : Nat} (h : i < l.length) : (l.take (i + 1)).all dig = ((l.take i).all dig && dig (l.getD i 0)) := by
  rw [List.take_succ_eq_append_getElem h, List.all_append]
  simp [List.getD_eq_getElem?_getD, List.getElem?_eq_getElem h]
theorem not_all {l : List UInt8} {i : Nat} (h : i < l.length) (hd : dig (l.getD i 0) = false) : l.all dig = false := by
  rw [List.all_eq_false]
  exact ⟨l.getD i 0, by simp [List.getD_eq_getElem?_getD, List.getElem?_eq_getElem h], by rw [hd]; decide⟩
/-- Numbers are read. -/
def badP (l : List UInt8) : Prop := l = [] ∨ (1 < l.length ∧ l.getD 0 0 = 48)
instance (l : List UInt8) : Decidable (badP l) := by unfold badP; infer_instance
def parseS (l : List UInt8) : Int × Int := if badP l then (0, 3) else if l.all dig = false then (0, 3) else if 2147483647 < valT l then (0, 2) else (valT l, 0)
def CParse : Contract := pureC fun args => match args with
  | [.d (.v (.string s))] => some (s.size ≤ 1099511627776, .tup [.d (.v (.int .i64 (parseS s.data.toList).1)), .d (.v (.int .i64 (parseS s.data.toList).2))])
  | _ => none
def valA (a : Nat) (l : List UInt8) : Nat := l.foldl (fun n c => n * 10 + (c.toNat - 48)) a
theorem valA_le : ∀ (l : List UInt8) (a : Nat), a ≤ valA a l
  | [], a => Nat.le_refl _
  | c :: l, a => Nat.le_trans (by omega) (valA_le l (a * 10 + (c.toNat - 48)))
theorem dig_nat {c : UInt8} (h : dig c = true) : 48 ≤ c.toNat ∧ c.toNat ≤ 57 := by
  simp only [dig, Bool.and_eq_true, decide_eq_true_eq] at h; omega
theorem pu10 : ∀ (l : List UInt8) (a : Nat), l.all dig = true → a < 18446744073709551616 → Lib.parseUint10 a l = if 18446744073709551616 ≤ valA a l then .range else .ok (valA a l)
  | [], a, _, ha => by simp only [Lib.parseUint10, valA, List.foldl_nil]; exact (if_neg (Nat.not_le.2 ha)).symm
  | c :: l, a, h, ha => by
    simp only [List.all_cons, Bool.and_eq_true] at h
    obtain ⟨h1, h2⟩ := dig_nat h.1
    have hle := valA_le l (a * 10 + (c.toNat - 48))
    have e : valA a (c :: l) = valA (a * 10 + (c.toNat - 48)) l := rfl
    rw [Lib.parseUint10, if_pos ⟨h1, h2⟩, e]
    by_cases k1 : 1844674407370955162 ≤ a
    · rw [if_pos k1, if_pos (by omega)]
    · rw [if_neg k1]
      by_cases k2 : 18446744073709551616 ≤ a * 10 + (c.toNat - 48)
      · rw [if_pos k2, if_pos (by omega)]
      · rw [if_neg k2, pu10 l _ h.2 (by omega)]
theorem atoi_dig {l : List UInt8} (hne : l ≠ []) (h : l.all dig = true) : Lib.atoiAll l = if 9223372036854775808 ≤ valT l then .range else .ok (valT l) := by
  cases l with
  | nil => exact absurd rfl hne
  | cons c r =>
    have hd := dig_nat (List.all_eq_true.1 h c (by simp))
    have hp := pu10 (c :: r) 0 h (by omega)
    have e : valA 0 (c :: r) = valT (c :: r) := rfl
    rw [e] at hp
    simp only [Lib.atoiAll]
    rw [if_neg (by omega), Lib.parseMag, if_neg (by simp), hp]
    by_cases k : 18446744073709551616 ≤ valT (c :: r)
    · rw [if_pos k, if_pos (by omega)]
    · rw [if_neg k]
      simp only
      by_cases k2 : 9223372036854775808 ≤ valT (c :: r)
      · rw [if_pos ⟨by omega, k2⟩, if_pos k2]
      · rw [if_neg (by omega), if_neg (by omega), if_neg k2, if_neg (by omega)]
theorem sat_dig {l : List UInt8} (h : l.all dig = true) : Lib.atoiSat l = 9223372036854775807 := by
  unfold Lib.atoiSat
  cases l with
  | nil => simp
  | cons c r =>
    have hd := dig_nat (List.all_eq_true.1 h c (by simp))
    simp only [List.head?_cons, Option.map_some, Option.some.injEq]
    rw [if_neg (by omega)]
/-- What strconv.Atoi reads beside its tables. -/
def ErrR (w : World) : Prop := ∃ tp p, w.var? Tryz.prog "strconv.ErrRange" = some #[.iface tp p]
def CAtoi : Contract := pureC fun args => match args with
  | [.d (.v (.string s))] => some (s.size ≤ 1099511627776 ∧ s.data.toList ≠ [] ∧ s.data.toList.all dig = true, .tup [.d (.v (.int .i64 (if 9223372036854775808 ≤ valT s.data.toList then 9223372036854775807 else valT s.data.toList))), .d (if 9223372036854775808 ≤ valT s.data.toList then .ifc 261 (.pt []) else .v .nilIface)])
  | _ => none
theorem sAtoi (hG : ∀ w, G w → ErrR w) : Sound G Tryz.prog 147 CAtoi := by
  refine sound_lib2 ⟨Tryz.f147, by kernel_rfl, by kernel_rfl, by kernel_rfl⟩ fun args p x h hp => ?_
  split at h <;> simp only [Option.some.injEq, Prod.mk.injEq, reduceCtorEq] at h
  obtain ⟨rfl, rfl⟩ := h
  rename_i s
  obtain ⟨h1, h2, h3⟩ := hp
  intro w hw m c vs hc hv
  match vs, hv with
  | [a], hv =>
    simp only [CnL, and_true] at hv
    rw [of_v hv]
    have hA := atoi_dig h2 h3
    by_cases k : 9223372036854775808 ≤ valT s.data.toList
    · rw [if_pos k] at hA
      obtain ⟨tp, p, he⟩ := hG w hw
      refine (Tryz.strconv_Atoi_range_var s (by omega) hA tp p w he).mono ?_
      rintro e w' ⟨N, rfl, _, _, hB⟩
      refine ⟨⟨_, rfl, fun m n c => ?_⟩, hB⟩
      rw [if_pos k, if_pos k, sat_dig h3]
      simp [Cn, CnL, Rd, RdCells, Value.oneCell']
    · rw [if_neg k] at hA
      refine (Tryz.strconv_Atoi_ok s (by omega) _ hA w).mono ?_
      rintro e w' ⟨rfl, hB⟩
      refine ⟨⟨_, rfl, fun m n c => ?_⟩, ?_⟩
      · rw [if_neg k, if_neg k]
        simp [Cn, CnL, Rd, Value.oneCell']
      · rcases hB with rfl | ⟨t, rfl⟩
        · exact RowKit.Below.refl _ _
        · exact Lib.bytesWorld_below w _ t
  | [], hv => simp [CnL] at hv
  | _ :: _ :: _, hv => simp [CnL] at hv
end Go.Proofs.YtlghobefhmpfkaaGreatDoor
set_option linter.unusedVariables false
set_option linter.unusedSimpArgs false
namespace Go.Proofs.YtlghobefhmpfkaaGreatDoor
open Go Go.Ev
set_option maxRecDepth 100000
variable {G : World → Prop}
def capN (n : Nat) : Nat := if 2147483648 < n then 2147483648 else n
theorem cap_step (n d : Nat) : capN (n * 10 + d) = if 2147483648 < capN n * 10 + d then 2147483648 else capN n * 10 + d := by
  unfold capN; (repeat' split) <;> first | rfl | omega
theorem cap_le (n : Nat) : capN n ≤ 2147483648 := by unfold capN; split <;> omega
theorem u8s (c : Nat) (h : 48 ≤ c ∧ c ≤ 57) : IntKind.u8.wrap ((c : Int) - 48) = ((c - 48 : Nat) : Int) := by
  simp only [IntKind.wrap, IntKind.bits, IntKind.signed]
  simp
  omega
theorem i64n (c : Nat) (h : c ≤ 1000) : IntKind.i64.wrap (c : Int) = (c : Int) := wrap64 _ (by omega) (by omega)
theorem bad_head {l : List UInt8} (h : badP l) : (decide ((l.length : Int) = 0) || (decide (1 < (l.length : Int)) && decide (((l.getD 0 0).toNat : Int) = 48))) = true := by
  rcases h with rfl | ⟨h1, h2⟩
  · rfl
  · rw [h2]; simp; right; omega
theorem bad_not {l : List UInt8} (h : ¬ badP l) : (0 < l.length) ∧ ¬ (1 < (l.length : Int) ∧ ((l.getD 0 0).toNat : Int) = 48) := by
  refine ⟨?_, fun ⟨h1, h2⟩ => h (.inr ⟨by omega, UInt8.toNat_inj.1 (by show _ = 48; omega)⟩)⟩
  cases l with
  | nil => exact absurd (.inl rfl) h
  | cons => simp
set_option maxHeartbeats 1000000 in
theorem s90 : Sound G Tryz.prog 90 CParse := by
  refine sd90 (T := tabT []) tab_nil (pureC_lawful _) (pure_hX fun args p x K h hp hk => ?_)
  split at h <;> simp only [Option.some.injEq, Prod.mk.injEq, reduceCtorEq] at h
  obtain ⟨rfl, rfl⟩ := h
  refine ⟨Nat.le_of_ble_eq_true rfl, ?_⟩
  rename_i s
  obtain ⟨l, rfl⟩ := ex_str s
  simp only [sem_str] at hk hp
  by_cases hb : badP l
  · rw [show parseS l = (0, 3) by rw [parseS, if_pos hb]] at hk
    simp -dsimp -implicitDefEqProofs only [S90, R90, ↓Ev.xStp_eq, ↓Ev.P, Ev.Q, Bool.cond_true, Bool.cond_false, eq_self, forall_eq_or_imp, implies_true, forall_const, forall_eq, ↓reduceIte, reduceIte, Nat.reduceEqDiff, Nat.reduceAdd, reduceCtorEq, Nat.reduceSub, Int.reduceToNat, Int.reduceLE, Int.reduceLT, Int.reduceNeg, Nat.reduceBEq, Nat.reduceMul, Nat.reduceLeDiff, Nat.reduceMod, UInt8.reduceOfNat, Nat.reduceLT, Int.reduceEq, Int.reduceAdd, Int.reduceSub, Int.reduceMul]
    have hh := bad_head hb
    simp only [Bool.or_eq_true, Bool.and_eq_true, decide_eq_true_eq] at hh
    refine ⟨by omega, by omega, fun _ => hk, fun h => ?_⟩
    omega
  · obtain ⟨h1, h2⟩ := bad_not hb
    simp -dsimp -implicitDefEqProofs only [S90, R90, ↓Ev.xStp_eq, ↓Ev.P, Ev.Q, Bool.cond_true, Bool.cond_false, eq_self, forall_eq_or_imp, implies_true, forall_const, forall_eq, ↓reduceIte, reduceIte, Nat.reduceEqDiff, Nat.reduceAdd, reduceCtorEq, Nat.reduceSub, Int.reduceToNat, Int.reduceLE, Int.reduceLT, Int.reduceNeg, Nat.reduceBEq, Nat.reduceMul, Nat.reduceLeDiff, Nat.reduceMod, UInt8.reduceOfNat, Nat.reduceLT, Int.reduceEq, Int.reduceAdd, Int.reduceSub, Int.reduceMul]
    refine ⟨by omega, by omega, fun h => by omega, fun _ => ?_⟩
    refine xLoop_intro (fun k st => ∃ i : Nat, i ≤ l.length ∧ k = l.length - i ∧ (l.take i).all dig = true ∧
      st = ⟨[(0, .d (.v (.string ⟨l.toArray⟩))), (4, .d (.v (.int .i64 (capN (valT (l.take i)))))), (5, .d (.v (.int .i64 i)))], 0, []⟩) l.length [] ?_ ?_ ?_
    · simp -dsimp -implicitDefEqProofs only [↓Ev.xStp_eq, ↓Ev.P, Ev.Q, Bool.cond_true, Bool.cond_false, eq_self, forall_eq_or_imp, implies_true, forall_const, forall_eq, ↓reduceIte, reduceIte, Nat.reduceEqDiff, Nat.reduceAdd, reduceCtorEq, Nat.reduceSub, Int.reduceToNat, Int.reduceLE, Int.reduceLT, Int.reduceNeg, Nat.reduceBEq, Nat.reduceMul, Nat.reduceLeDiff, Nat.reduceMod, UInt8.reduceOfNat, Nat.reduceLT, Int.reduceEq, Int.reduceAdd, Int.reduceSub, Int.reduceMul]
    · simp -dsimp -implicitDefEqProofs only [↓Ev.xStp_eq, ↓Ev.P, Ev.Q, Bool.cond_true, Bool.cond_false, eq_self, forall_eq_or_imp, implies_true, forall_const, forall_eq, ↓reduceIte, reduceIte, Nat.reduceEqDiff, Nat.reduceAdd, reduceCtorEq, Nat.reduceSub, Int.reduceToNat, Int.reduceLE, Int.reduceLT, Int.reduceNeg, Nat.reduceBEq, Nat.reduceMul, Nat.reduceLeDiff, Nat.reduceMod, UInt8.reduceOfNat, Nat.reduceLT, Int.reduceEq, Int.reduceAdd, Int.reduceSub, Int.reduceMul]
      exact ⟨0, by omega, by omega, rfl, rfl⟩
    · rintro k st ⟨i, hi, hk2, hall, rfl⟩
      by_cases hil : i < l.length
      · have hi3 : (i : Int) < l.length := by omega
        have hcl := cap_le (valT (l.take i))
        by_cases hd : dig (l.getD i 0) = true
        · obtain ⟨d1, d2⟩ := dig_nat hd
          have d3 : ¬ ((l.getD i 0).toNat : Int) < 48 := by omega
          have d4 : ¬ (57 : Int) < ((l.getD i 0).toNat : Int) := by omega
          have hu := u8s _ ⟨d1, d2⟩
          have hc := i64n ((l.getD i 0).toNat - 48) (by omega)
          simp -dsimp -implicitDefEqProofs only [hi3, d3, d4, hu, hc, ↓Ev.xStp_eq, ↓Ev.P, Ev.Q, Bool.cond_true, Bool.cond_false, eq_self, forall_eq_or_imp, implies_true, forall_const, forall_eq, ↓reduceIte, reduceIte, Nat.reduceEqDiff, Nat.reduceAdd, reduceCtorEq, Nat.reduceSub, Int.reduceToNat, Int.reduceLE, Int.reduceLT, Int.reduceNeg, Nat.reduceBEq, Nat.reduceMul, Nat.reduceLeDiff, Nat.reduceMod, UInt8.reduceOfNat, Nat.reduceLT, Int.reduceEq, Int.reduceAdd, Int.reduceSub, Int.reduceMul]
          repeat' (first | with_reducible assumption | refine And.intro ?_ ?_ | intro _)
          all_goals try omega
          refine xAgain_intro (l.length - (i + 1)) [] (by omega) (by simp -dsimp -implicitDefEqProofs only [↓Ev.xStp_eq, ↓Ev.P, Ev.Q, Bool.cond_true, Bool.cond_false, eq_self, forall_eq_or_imp, implies_true, forall_const, forall_eq, ↓reduceIte, reduceIte, Nat.reduceEqDiff, Nat.reduceAdd, reduceCtorEq, Nat.reduceSub, Int.reduceToNat, Int.reduceLE, Int.reduceLT, Int.reduceNeg, Nat.reduceBEq, Nat.reduceMul, Nat.reduceLeDiff, Nat.reduceMod, UInt8.reduceOfNat, Nat.reduceLT, Int.reduceEq, Int.reduceAdd, Int.reduceSub, Int.reduceMul]) ⟨i + 1, by omega, rfl, by rw [all_take hil, hall, hd]; rfl, ?_⟩
          rw [val_snoc hil, cap_step]
          simp -dsimp -implicitDefEqProofs only [↓Ev.xStp_eq, ↓Ev.P, Ev.Q, Bool.cond_true, Bool.cond_false, eq_self, forall_eq_or_imp, implies_true, forall_const, forall_eq, ↓reduceIte, reduceIte, Nat.reduceEqDiff, Nat.reduceAdd, reduceCtorEq, Nat.reduceSub, Int.reduceToNat, Int.reduceLE, Int.reduceLT, Int.reduceNeg, Nat.reduceBEq, Nat.reduceMul, Nat.reduceLeDiff, Nat.reduceMod, UInt8.reduceOfNat, Nat.reduceLT, Int.reduceEq, Int.reduceAdd, Int.reduceSub, Int.reduceMul]
          simp
          (repeat' split) <;> omega
        · simp only [Bool.not_eq_true] at hd
          have hna := not_all hil hd
          rw [show parseS l = (0, 3) by rw [parseS, if_neg hb, if_pos hna]] at hk
          have hd2 : ((l.getD i 0).toNat : Int) < 48 ∨ (57 : Int) < ((l.getD i 0).toNat : Int) := by
            simp only [dig, Bool.and_eq_false_iff, decide_eq_false_iff_not] at hd; omega
          simp -dsimp -implicitDefEqProofs only [hi3, ↓Ev.xStp_eq, ↓Ev.P, Ev.Q, Bool.cond_true, Bool.cond_false, eq_self, forall_eq_or_imp, implies_true, forall_const, forall_eq, ↓reduceIte, reduceIte, Nat.reduceEqDiff, Nat.reduceAdd, reduceCtorEq, Nat.reduceSub, Int.reduceToNat, Int.reduceLE, Int.reduceLT, Int.reduceNeg, Nat.reduceBEq, Nat.reduceMul, Nat.reduceLeDiff, Nat.reduceMod, UInt8.reduceOfNat, Nat.reduceLT, Int.reduceEq, Int.reduceAdd, Int.reduceSub, Int.reduceMul]
          repeat' (first | with_reducible assumption | refine And.intro ?_ ?_ | intro _)
          all_goals first | omega | exact hk | skip
      · have hi3 : ¬ (i : Int) < l.length := by omega
        obtain rfl : i = l.length := by omega
        rw [List.take_length] at hall
        rw [show parseS l = if 2147483647 < valT l then (0, 2) else ((valT l : Int), 0) by rw [parseS, if_neg hb, if_neg (by rw [hall]; decide)]] at hk
        simp -dsimp -implicitDefEqProofs only [hi3, List.take_length, ↓Ev.xStp_eq, ↓Ev.P, Ev.Q, Bool.cond_true, Bool.cond_false, eq_self, forall_eq_or_imp, implies_true, forall_const, forall_eq, ↓reduceIte, reduceIte, Nat.reduceEqDiff, Nat.reduceAdd, reduceCtorEq, Nat.reduceSub, Int.reduceToNat, Int.reduceLE, Int.reduceLT, Int.reduceNeg, Nat.reduceBEq, Nat.reduceMul, Nat.reduceLeDiff, Nat.reduceMod, UInt8.reduceOfNat, Nat.reduceLT, Int.reduceEq, Int.reduceAdd, Int.reduceSub, Int.reduceMul]
        refine ⟨fun h => ?_, fun h => ?_⟩
        · rw [if_pos (by unfold capN at h; split at h <;> omega)] at hk; exact hk
        · have hv : valT l ≤ 2147483647 := by unfold capN at h; split at h <;> omega
          rw [if_neg (by omega)] at hk
          rw [show capN (valT l) = valT l by unfold capN; rw [if_neg (by omega)]]
          exact hk
end Go.Proofs.YtlghobefhmpfkaaGreatDoor
set_option linter.unusedVariables false
set_option linter.unusedSimpArgs false
namespace Go.Proofs.YtlghobefhmpfkaaGreatDoor
open Go Go.Ev
set_option maxRecDepth 100000
variable {G : World → Prop}
theorem dec_at (l : List UInt8) (i : Nat) (h : i < l.length) : (dig (l.getD i 0) = true → Utf8.decode ⟨l.toArray⟩ i = ((l.getD i 0).toNat, 1)) ∧ (dig (l.getD i 0) = false → ((Utf8.decode ⟨l.toArray⟩ i).1 : Int) < 48 ∨ (57 : Int) < ((Utf8.decode ⟨l.toArray⟩ i).1 : Int)) := by
  have hs : i < (⟨l.toArray⟩ : ByteArray).size := h
  have hg : (⟨l.toArray⟩ : ByteArray)[i]'hs = l.getD i 0 := by
    simp [List.getD_eq_getElem?_getD, List.getElem?_eq_getElem h]
    rfl
  by_cases ha : ((⟨l.toArray⟩ : ByteArray)[i]'hs).toNat < 128
  · have := decode_ascii _ i hs ha
    rw [hg] at this
    refine ⟨fun _ => this, fun hd => ?_⟩
    rw [this]
    simp only [dig, Bool.and_eq_false_iff, decide_eq_false_iff_not] at hd
    omega
  · have h2 := (decode_high _ i hs (by omega)).1
    rw [hg] at ha
    refine ⟨fun hd => ?_, fun _ => .inr (by omega)⟩
    have := dig_nat hd
    omega
theorem empty_iff (l : List UInt8) : ((⟨l.toArray⟩ : ByteArray) = ⟨#[]⟩) = (l = []) := by simp
set_option maxHeartbeats 1000000 in
theorem s86 (hG : ∀ w, G w → ErrR w) : Sound G Tryz.prog 86 CParse := by
  refine sd86 (T := tabT [(147, CAtoi)]) (tab_cons (sAtoi hG) tab_nil) (pureC_lawful _) (pure_hX fun args p x K h hp hk => ?_)
  split at h <;> simp only [Option.some.injEq, Prod.mk.injEq, reduceCtorEq] at h
  obtain ⟨rfl, rfl⟩ := h
  refine ⟨Nat.le_of_ble_eq_true rfl, ?_⟩
  rename_i s
  obtain ⟨l, rfl⟩ := ex_str s
  simp only [sem_str] at hk hp
  by_cases hb : badP l
  · rw [show parseS l = (0, 3) by rw [parseS, if_pos hb]] at hk
    simp -dsimp -implicitDefEqProofs only [S86, S86_0, S86r1, S86_1, S86r2, R86, empty_iff, ↓Ev.xStp_eq, ↓Ev.P, Ev.Q, Bool.cond_true, Bool.cond_false, eq_self, forall_eq_or_imp, implies_true, forall_const, forall_eq, ↓reduceIte, reduceIte, Nat.reduceEqDiff, Nat.reduceAdd, reduceCtorEq, Nat.reduceSub, Int.reduceToNat, Int.reduceLE, Int.reduceLT, Int.reduceNeg, Nat.reduceBEq, Nat.reduceMul, Nat.reduceLeDiff, Nat.reduceMod, UInt8.reduceOfNat, Nat.reduceLT, Int.reduceEq, Int.reduceAdd, Int.reduceSub, Int.reduceMul]
    have hh := bad_head hb
    simp only [Bool.or_eq_true, Bool.and_eq_true, decide_eq_true_eq] at hh
    repeat' (first | with_reducible assumption | refine And.intro ?_ ?_ | intro _)
    all_goals first | omega | exact hk | skip
    all_goals (rename_i h; rcases hb with rfl | hb <;> first | exact absurd rfl h.1 | omega)
  · obtain ⟨h1, h2⟩ := bad_not hb
    have hne : ¬ l = [] := fun e => hb (.inl e)
    simp -dsimp -implicitDefEqProofs only [S86, S86_0, S86r1, S86_1, S86r2, S86_2, S86r3, R86, empty_iff, hne, ↓Ev.xStp_eq, ↓Ev.P, Ev.Q, Bool.cond_true, Bool.cond_false, eq_self, forall_eq_or_imp, implies_true, forall_const, forall_eq, ↓reduceIte, reduceIte, Nat.reduceEqDiff, Nat.reduceAdd, reduceCtorEq, Nat.reduceSub, Int.reduceToNat, Int.reduceLE, Int.reduceLT, Int.reduceNeg, Nat.reduceBEq, Nat.reduceMul, Nat.reduceLeDiff, Nat.reduceMod, UInt8.reduceOfNat, Nat.reduceLT, Int.reduceEq, Int.reduceAdd, Int.reduceSub, Int.reduceMul]
    refine ⟨by omega, fun h => by omega, fun _ => ?_⟩
    refine xLoop_intro (fun k st => ∃ i : Nat, i ≤ l.length ∧ k = l.length - i ∧ (l.take i).all dig = true ∧
      st = ⟨[(0, .d (.v (.string ⟨l.toArray⟩))), (21, .own 0)], 1, [(0, .iter ⟨l.toArray⟩ i)]⟩) l.length [0] ?_ ?_ ?_
    · simp -dsimp -implicitDefEqProofs only [↓Ev.xStp_eq, ↓Ev.P, Ev.Q, Bool.cond_true, Bool.cond_false, eq_self, forall_eq_or_imp, implies_true, forall_const, forall_eq, ↓reduceIte, reduceIte, Nat.reduceEqDiff, Nat.reduceAdd, reduceCtorEq, Nat.reduceSub, Int.reduceToNat, Int.reduceLE, Int.reduceLT, Int.reduceNeg, Nat.reduceBEq, Nat.reduceMul, Nat.reduceLeDiff, Nat.reduceMod, UInt8.reduceOfNat, Nat.reduceLT, Int.reduceEq, Int.reduceAdd, Int.reduceSub, Int.reduceMul]
    · simp -dsimp -implicitDefEqProofs only [↓Ev.xStp_eq, ↓Ev.P, Ev.Q, Bool.cond_true, Bool.cond_false, eq_self, forall_eq_or_imp, implies_true, forall_const, forall_eq, ↓reduceIte, reduceIte, Nat.reduceEqDiff, Nat.reduceAdd, reduceCtorEq, Nat.reduceSub, Int.reduceToNat, Int.reduceLE, Int.reduceLT, Int.reduceNeg, Nat.reduceBEq, Nat.reduceMul, Nat.reduceLeDiff, Nat.reduceMod, UInt8.reduceOfNat, Nat.reduceLT, Int.reduceEq, Int.reduceAdd, Int.reduceSub, Int.reduceMul]
      exact ⟨0, by omega, by omega, rfl, rfl⟩
    · rintro k st ⟨i, hi, hk2, hall, rfl⟩
      by_cases hil : i < l.length
      · obtain ⟨e1, e2⟩ := dec_at l i hil
        by_cases hd : dig (l.getD i 0) = true
        · obtain ⟨d1, d2⟩ := dig_nat hd
          have e1 := e1 hd
          have d3 : ¬ ((l.getD i 0).toNat : Int) < 48 := by omega
          have d4 : ¬ (57 : Int) < ((l.getD i 0).toNat : Int) := by omega
          simp -dsimp -implicitDefEqProofs only [hil, e1, d3, d4, ↓Ev.xStp_eq, ↓Ev.P, Ev.Q, Bool.cond_true, Bool.cond_false, eq_self, forall_eq_or_imp, implies_true, forall_const, forall_eq, ↓reduceIte, reduceIte, Nat.reduceEqDiff, Nat.reduceAdd, reduceCtorEq, Nat.reduceSub, Int.reduceToNat, Int.reduceLE, Int.reduceLT, Int.reduceNeg, Nat.reduceBEq, Nat.reduceMul, Nat.reduceLeDiff, Nat.reduceMod, UInt8.reduceOfNat, Nat.reduceLT, Int.reduceEq, Int.reduceAdd, Int.reduceSub, Int.reduceMul]
          repeat' (first | with_reducible assumption | refine And.intro ?_ ?_ | intro _)
          all_goals try omega
          refine xAgain_intro (l.length - (i + 1)) [0] (by omega) (by simp -dsimp -implicitDefEqProofs only [↓Ev.xStp_eq, ↓Ev.P, Ev.Q, Bool.cond_true, Bool.cond_false, eq_self, forall_eq_or_imp, implies_true, forall_const, forall_eq, ↓reduceIte, reduceIte, Nat.reduceEqDiff, Nat.reduceAdd, reduceCtorEq, Nat.reduceSub, Int.reduceToNat, Int.reduceLE, Int.reduceLT, Int.reduceNeg, Nat.reduceBEq, Nat.reduceMul, Nat.reduceLeDiff, Nat.reduceMod, UInt8.reduceOfNat, Nat.reduceLT, Int.reduceEq, Int.reduceAdd, Int.reduceSub, Int.reduceMul]) ⟨i + 1, by omega, rfl, by rw [all_take hil, hall, hd]; rfl, ?_⟩
          simp -dsimp -implicitDefEqProofs only [↓Ev.xStp_eq, ↓Ev.P, Ev.Q, Bool.cond_true, Bool.cond_false, eq_self, forall_eq_or_imp, implies_true, forall_const, forall_eq, ↓reduceIte, reduceIte, Nat.reduceEqDiff, Nat.reduceAdd, reduceCtorEq, Nat.reduceSub, Int.reduceToNat, Int.reduceLE, Int.reduceLT, Int.reduceNeg, Nat.reduceBEq, Nat.reduceMul, Nat.reduceLeDiff, Nat.reduceMod, UInt8.reduceOfNat, Nat.reduceLT, Int.reduceEq, Int.reduceAdd, Int.reduceSub, Int.reduceMul]
        · simp only [Bool.not_eq_true] at hd
          have hna := not_all hil hd
          rw [show parseS l = (0, 3) by rw [parseS, if_neg hb, if_pos hna]] at hk
          have e2 := e2 hd
          simp -dsimp -implicitDefEqProofs only [hil, ↓Ev.xStp_eq, ↓Ev.P, Ev.Q, Bool.cond_true, Bool.cond_false, eq_self, forall_eq_or_imp, implies_true, forall_const, forall_eq, ↓reduceIte, reduceIte, Nat.reduceEqDiff, Nat.reduceAdd, reduceCtorEq, Nat.reduceSub, Int.reduceToNat, Int.reduceLE, Int.reduceLT, Int.reduceNeg, Nat.reduceBEq, Nat.reduceMul, Nat.reduceLeDiff, Nat.reduceMod, UInt8.reduceOfNat, Nat.reduceLT, Int.reduceEq, Int.reduceAdd, Int.reduceSub, Int.reduceMul]
          repeat' (first | with_reducible assumption | refine And.intro ?_ ?_ | intro _)
          all_goals first | omega | exact hk | skip
      · obtain rfl : i = l.length := by omega
        rw [List.take_length] at hall
        rw [show parseS l = if 2147483647 < valT l then (0, 2) else ((valT l : Int), 0) by rw [parseS, if_neg hb, if_neg (by rw [hall]; decide)]] at hk
        by_cases k : 9223372036854775808 ≤ valT l
        · rw [if_pos (by omega)] at hk
          simp -dsimp -implicitDefEqProofs only [Nat.lt_irrefl, S86_3, S86r4, S86_4, S86r5, S86_5, S86r6, CAtoi, k, ↓Ev.xStp_eq, ↓Ev.P, Ev.Q, Bool.cond_true, Bool.cond_false, eq_self, forall_eq_or_imp, implies_true, forall_const, forall_eq, ↓reduceIte, reduceIte, Nat.reduceEqDiff, Nat.reduceAdd, reduceCtorEq, Nat.reduceSub, Int.reduceToNat, Int.reduceLE, Int.reduceLT, Int.reduceNeg, Nat.reduceBEq, Nat.reduceMul, Nat.reduceLeDiff, Nat.reduceMod, UInt8.reduceOfNat, Nat.reduceLT, Int.reduceEq, Int.reduceAdd, Int.reduceSub, Int.reduceMul]
          repeat' (first | with_reducible assumption | refine And.intro ?_ ?_ | intro _)
          all_goals first | omega | exact hk | skip
        · simp -dsimp -implicitDefEqProofs only [Nat.lt_irrefl, S86_3, S86r4, S86_4, S86r5, S86_5, S86r6, CAtoi, k, ↓Ev.xStp_eq, ↓Ev.P, Ev.Q, Bool.cond_true, Bool.cond_false, eq_self, forall_eq_or_imp, implies_true, forall_const, forall_eq, ↓reduceIte, reduceIte, Nat.reduceEqDiff, Nat.reduceAdd, reduceCtorEq, Nat.reduceSub, Int.reduceToNat, Int.reduceLE, Int.reduceLT, Int.reduceNeg, Nat.reduceBEq, Nat.reduceMul, Nat.reduceLeDiff, Nat.reduceMod, UInt8.reduceOfNat, Nat.reduceLT, Int.reduceEq, Int.reduceAdd, Int.reduceSub, Int.reduceMul]
          refine ⟨⟨by omega, hne, hall⟩, fun h => ?_, fun h => ?_⟩
          · rw [if_pos (by first | omega | (simp at h; omega))] at hk; exact hk
          · rw [if_neg (by first | omega | (simp at h; omega))] at hk; exact hk
end Go.Proofs.YtlghobefhmpfkaaGreatDoor
set_option linter.unusedVariables false
set_option linter.unusedSimpArgs false
namespace Go.Proofs.YtlghobefhmpfkaaGreatDoor
open Go Go.Ev Go.Rcs
set_option maxRecDepth 100000
variable {G : World → Prop}
/-! A line that is a command. -/
theorem cutB_ix : ∀ l : List UInt8, cutB l = if Lib.indexByte l 32 < 0 then none else some (l.take (Lib.indexByte l 32).toNat, l.drop ((Lib.indexByte l 32).toNat + 1))
  | [] => rfl
  | c :: r => by
    have ih := cutB_ix r
    have hge := Lib.indexByte_ge r 32
    by_cases h : c = 32
    · subst h; simp [cutB, Lib.indexByte]
    · have h1 : (c == 32) = false := by simpa using h
      have hx : Lib.indexByte (c :: r) 32 = if Lib.indexByte r 32 = -1 then -1 else Lib.indexByte r 32 + 1 := by
        simp only [Lib.indexByte, h1, beq_iff_eq, Bool.false_eq_true, if_false]
      rw [hx, cutB, if_neg h, ih]
      by_cases h2 : Lib.indexByte r 32 = -1
      · rw [if_pos h2, h2]; rfl
      · rw [if_neg h2, if_neg (by omega), if_neg (by omega)]
        have e : (Lib.indexByte r 32 + 1).toNat = (Lib.indexByte r 32).toNat + 1 := by omega
        rw [e]; rfl
def CIxB : Contract := pureC fun args => match args with
  | [.d (.v (.string s)), .d (.v (.string p))] => some (p.data.toList = [32], .d (.v (.int .i64 (Lib.indexByte s.data.toList 32))))
  | _ => none
theorem sIxB : Sound G Tryz.prog 149 CIxB := by
  refine sound_lib ⟨Tryz.f149, by kernel_rfl, by kernel_rfl, by kernel_rfl⟩ fun args p x h hp => ?_
  split at h <;> simp only [Option.some.injEq, Prod.mk.injEq, reduceCtorEq] at h
  obtain ⟨rfl, rfl⟩ := h
  rename_i s q
  obtain ⟨q', rfl⟩ := ex_str q
  simp only [sem_str] at hp
  subst hp
  refine ⟨_, fun m n c => ⟨rfl, rfl⟩, fun w hw m c vs hc hv => ?_⟩
  match vs, hv with
  | [a, b], hv =>
    simp only [CnL, and_true] at hv
    obtain ⟨v1, v2⟩ := hv
    rw [of_v v1, of_v v2]
    refine (Tryz.stringslite_Index_one s 32 w).mono ?_
    rintro e w' ⟨rfl, rfl⟩
    exact ⟨rfl, RowKit.Below.refl _ _⟩
  | [], hv => simp [CnL] at hv
  | [_], hv => simp [CnL] at hv
  | _ :: _ :: _ :: _, hv => simp [CnL] at hv
def CCutB : Contract := pureC fun args => match args with
  | [.d (.v (.string s)), .d (.v (.string p))] => some (s.size ≤ 1099511627776 ∧ p.data.toList = [32], .tup [.d (.v (str (cutH s.data.toList).1)), .d (.v (str (cutH s.data.toList).2)), .d (.v (.bool (cutB s.data.toList).isSome))])
  | _ => none
theorem ix_lt (l : List UInt8) (c : UInt8) : Lib.indexByte l c < l.length := by
  induction l with
  | nil => simp [Lib.indexByte]
  | cons b l ih =>
    simp only [Lib.indexByte, List.length_cons]
    split
    · omega
    · split <;> omega
theorem s146 : Sound G Tryz.prog 146 CCutB := by
  refine sd146 (T := tabT [(149, CIxB)]) (tab_cons sIxB tab_nil) (pureC_lawful _) (pure_hX fun args p x K h hp hk => ?_)
  split at h <;> simp only [Option.some.injEq, Prod.mk.injEq, reduceCtorEq] at h
  obtain ⟨rfl, rfl⟩ := h
  rename_i s q
  obtain ⟨q', rfl⟩ := ex_str q
  obtain ⟨s, rfl⟩ := ex_str s
  simp only [sem_str] at hp hk
  obtain ⟨h1, rfl⟩ := hp
  refine ⟨Nat.le_of_ble_eq_true rfl, ?_⟩
  have hc := cutB_ix s
  have hlt := ix_lt s 32
  by_cases hn : Lib.indexByte s 32 < 0
  · rw [if_pos hn] at hc
    rw [cutH, hc] at hk
    have hn2 : ¬ 0 ≤ Lib.indexByte s 32 := by omega
    simp -dsimp -implicitDefEqProofs only [S146, R146, CIxB, hn2, ↓Ev.xStp_eq, ↓Ev.P, Ev.Q, Bool.cond_true, Bool.cond_false, eq_self, forall_eq_or_imp, implies_true, forall_const, forall_eq, ↓reduceIte, reduceIte, Nat.reduceEqDiff, Nat.reduceAdd, reduceCtorEq, Nat.reduceSub, Int.reduceToNat, Int.reduceLE, Int.reduceLT, Int.reduceNeg, Nat.reduceBEq, Nat.reduceMul, Nat.reduceLeDiff, Nat.reduceMod, UInt8.reduceOfNat, Nat.reduceLT, Int.reduceEq, Int.reduceAdd, Int.reduceSub, Int.reduceMul]
    exact hk
  · rw [if_neg hn] at hc
    rw [cutH, hc] at hk
    have hn2 : 0 ≤ Lib.indexByte s 32 := by omega
    simp -dsimp -implicitDefEqProofs only [S146, R146, CIxB, hn2, ↓Ev.xStp_eq, ↓Ev.P, Ev.Q, Bool.cond_true, Bool.cond_false, eq_self, forall_eq_or_imp, implies_true, forall_const, forall_eq, ↓reduceIte, reduceIte, Nat.reduceEqDiff, Nat.reduceAdd, reduceCtorEq, Nat.reduceSub, Int.reduceToNat, Int.reduceLE, Int.reduceLT, Int.reduceNeg, Nat.reduceBEq, Nat.reduceMul, Nat.reduceLeDiff, Nat.reduceMod, UInt8.reduceOfNat, Nat.reduceLT, Int.reduceEq, Int.reduceAdd, Int.reduceSub, Int.reduceMul]
    obtain ⟨i, hi⟩ := Int.eq_ofNat_of_zero_le hn2
    rw [hi] at hk hlt ⊢
    refine ⟨by omega, by omega, by omega, ?_⟩
    rw [show ((i : Int) + ((1 : Nat) : Int)).toNat = i + 1 by omega]
    exact hk
theorem s85 : Sound G Tryz.prog 85 CCutB := by
  refine sd85 (T := tabT [(146, CCutB)]) (tab_cons s146 tab_nil) (pureC_lawful _) (pure_hX fun args p x K h hp hk => ?_)
  split at h <;> simp only [Option.some.injEq, Prod.mk.injEq, reduceCtorEq] at h
  obtain ⟨rfl, rfl⟩ := h
  refine ⟨Nat.le_of_ble_eq_true rfl, ?_⟩
  simp -dsimp -implicitDefEqProofs only [S85, R85, CCutB, ↓Ev.xStp_eq, ↓Ev.P, Ev.Q, Bool.cond_true, Bool.cond_false, eq_self, forall_eq_or_imp, implies_true, forall_const, forall_eq, ↓reduceIte, reduceIte, Nat.reduceEqDiff, Nat.reduceAdd, reduceCtorEq, Nat.reduceSub, Int.reduceToNat, Int.reduceLE, Int.reduceLT, Int.reduceNeg, Nat.reduceBEq, Nat.reduceMul, Nat.reduceLeDiff, Nat.reduceMod, UInt8.reduceOfNat, Nat.reduceLT, Int.reduceEq, Int.reduceAdd, Int.reduceSub, Int.reduceMul]
  exact ⟨hp, hk⟩
theorem s87 : Sound G Tryz.prog 87 CSuf := by
  refine sd87 (T := tabT [(148, CSuf)]) (tab_cons s148 tab_nil) (pureC_lawful _) (pure_hX fun args p x K h hp hk => ?_)
  split at h <;> simp only [Option.some.injEq, Prod.mk.injEq, reduceCtorEq] at h
  obtain ⟨rfl, rfl⟩ := h
  refine ⟨Nat.le_of_ble_eq_true rfl, ?_⟩
  simp -dsimp -implicitDefEqProofs only [S87, R87, CSuf, ↓Ev.xStp_eq, ↓Ev.P, Ev.Q, Bool.cond_true, Bool.cond_false, eq_self, forall_eq_or_imp, implies_true, forall_const, forall_eq, ↓reduceIte, reduceIte, Nat.reduceEqDiff, Nat.reduceAdd, reduceCtorEq, Nat.reduceSub, Int.reduceToNat, Int.reduceLE, Int.reduceLT, Int.reduceNeg, Nat.reduceBEq, Nat.reduceMul, Nat.reduceLeDiff, Nat.reduceMod, UInt8.reduceOfNat, Nat.reduceLT, Int.reduceEq, Int.reduceAdd, Int.reduceSub, Int.reduceMul]
  exact ⟨hp, hk⟩
/-- A field: a number, what stands behind it, whether it is one. -/
def CFld : Contract := pureC fun args => match args with
  | [.d (.v (.string s))] => some (s.size ≤ 1099511627776, .tup [.d (.v (.int .i64 (parseS (cutH s.data.toList).1).1)), .d (.v (str (cutH s.data.toList).2)), .d (.v (.bool (decide ((parseS (cutH s.data.toList).1).2 = 0))))])
  | _ => none
theorem cutH_len (l : List UInt8) : (cutH l).1.length ≤ l.length ∧ (cutH l).2.length ≤ l.length := by
  rw [cutH, cutB_ix]
  split
  · simp
  · simp only [Option.getD_some, List.length_take, List.length_drop]; omega
theorem s84 (hG : ∀ w, G w → ErrR w) : Sound G Tryz.prog 84 CFld := by
  refine sd84 (T := tabT [(85, CCutB), (86, CParse)]) (tab_cons s85 (tab_cons (s86 hG) tab_nil)) (pureC_lawful _) (pure_hX fun args p x K h hp hk => ?_)
  split at h <;> simp only [Option.some.injEq, Prod.mk.injEq, reduceCtorEq] at h
  obtain ⟨rfl, rfl⟩ := h
  rename_i s
  obtain ⟨s, rfl⟩ := ex_str s
  simp only [sem_str] at hp hk
  have h1 := cutH_len s
  refine ⟨Nat.le_of_ble_eq_true rfl, ?_⟩
  simp -dsimp -implicitDefEqProofs only [S84, R84, CCutB, CParse, ↓Ev.xStp_eq, ↓Ev.P, Ev.Q, Bool.cond_true, Bool.cond_false, eq_self, forall_eq_or_imp, implies_true, forall_const, forall_eq, ↓reduceIte, reduceIte, Nat.reduceEqDiff, Nat.reduceAdd, reduceCtorEq, Nat.reduceSub, Int.reduceToNat, Int.reduceLE, Int.reduceLT, Int.reduceNeg, Nat.reduceBEq, Nat.reduceMul, Nat.reduceLeDiff, Nat.reduceMod, UInt8.reduceOfNat, Nat.reduceLT, Int.reduceEq, Int.reduceAdd, Int.reduceSub, Int.reduceMul]
  exact ⟨by omega, by omega, hk⟩
instance (ps : List UInt8 → Int × Int) (v : UInt8) (r : List UInt8) : Decidable (rdOk ps v r) := by unfold rdOk; infer_instance
/-- What the program reads of a line: verb, line, how many; whether it is a command. -/
def rdC (s : List UInt8) : (UInt8 × Int × Int) × Bool := if (bareS s).2 = true then match (bareS s).1 with
    | [] => ((0, 0, 0), false)
    | v :: r => ((v, (parseS (cutH r).1).1, (parseS (cutH (cutH r).2).1).1), decide (rdOk parseS v r))
  else ((0, 0, 0), false)
def CRead : Contract := pureC fun args => match args with
  | [.d (.v (.string s))] => some (s.size ≤ 1099511627776, .tup [.agg [.d (.v (.int .u8 (rdC s.data.toList).1.1.toNat)), .d (.v (.int .i64 (rdC s.data.toList).1.2.1)), .d (.v (.int .i64 (rdC s.data.toList).1.2.2))], .d (.v (.bool (rdC s.data.toList).2))])
  | _ => none
theorem suf_last (s : List UInt8) : hasSuf s [32] = decide (s.getLast? = some 32) := by
  by_cases he : s = []
  · subst he; rfl
  · have hl : 0 < s.length := List.length_pos_iff.2 he
    have h1 : decide ((([32] : List UInt8).length : Int) ≤ (s.length : Int)) = true := by rw [decide_eq_true_eq]; simp; omega
    rw [hasSuf, h1, Bool.true_and, decide_eq_decide, last_get he]
    have e : s.drop (s.length - 1) = [s.getD (s.length - 1) 0] := by
      rw [List.drop_eq_getElem_cons (by omega), List.drop_eq_nil_of_le (by omega), List.getD_eq_getElem?_getD, List.getElem?_eq_getElem (by omega)]; rfl
    show s.drop (s.length - 1) = [32] ↔ _
    rw [e]; simp
end Go.Proofs.YtlghobefhmpfkaaGreatDoor
set_option linter.unusedVariables false
set_option linter.unusedSimpArgs false
namespace Go.Proofs.YtlghobefhmpfkaaGreatDoor
open Go Go.Ev Go.Rcs
set_option maxRecDepth 100000
variable {G : World → Prop}
theorem u8_k (x : UInt8) (k : Nat) (hk : k < 256) : ((x.toNat : Int) = k) = (x = UInt8.ofNat k) := by
  rw [eq_iff_iff]
  refine ⟨fun h => UInt8.toNat_inj.1 ?_, fun h => ?_⟩
  · rw [UInt8.toNat_ofNat', Nat.mod_eq_of_lt hk]; omega
  · rw [h, UInt8.toNat_ofNat', Nat.mod_eq_of_lt hk]
set_option maxHeartbeats 2000000 in
theorem s35 (hG : ∀ w, G w → ErrR w) : Sound G Tryz.prog 35 CRead := by
  refine sd35 (T := tabT [(18, CBare), (84, CFld), (87, CSuf)]) (tab_cons s18 (tab_cons (s84 hG) (tab_cons s87 tab_nil))) (pureC_lawful _) (pure_hX fun args p x K h hp hk => ?_)
  split at h <;> simp only [Option.some.injEq, Prod.mk.injEq, reduceCtorEq] at h
  obtain ⟨rfl, rfl⟩ := h
  rename_i s
  obtain ⟨s, rfl⟩ := ex_str s
  simp only [sem_str] at hp hk
  refine ⟨Nat.le_of_ble_eq_true rfl, ?_⟩
  unfold rdC at hk
  have hbl : (bareS s).1.length ≤ s.length := by unfold bareS; split <;> simp
  cases hf : (bareS s).2 with
  | false =>
    rw [hf] at hk
    simp -dsimp -implicitDefEqProofs only [S35, R35, ↓Ev.P, Ev.Q, Bool.cond_true, Bool.cond_false, eq_self, forall_eq_or_imp, implies_true, forall_const, forall_eq, ↓reduceIte, reduceIte, Nat.reduceEqDiff, Nat.reduceAdd, reduceCtorEq, Nat.reduceSub, Int.reduceToNat, Int.reduceLE, Int.reduceLT, Int.reduceNeg, Nat.reduceBEq, Nat.reduceMul, Nat.reduceLeDiff, Nat.reduceMod, UInt8.reduceOfNat, Nat.reduceLT, Int.reduceEq, Int.reduceAdd, Int.reduceSub, Int.reduceMul]
    repeat' (first | with_reducible assumption | refine And.intro ?_ ?_ | intro _ | (rw [Ev.xStp_eq]; simp -dsimp -implicitDefEqProofs only [CBare, hf, Ev.St.giveC, ↓Ev.P, Ev.Q, Bool.cond_true, Bool.cond_false, eq_self, forall_eq_or_imp, implies_true, forall_const, forall_eq, ↓reduceIte, reduceIte, Nat.reduceEqDiff, Nat.reduceAdd, reduceCtorEq, Nat.reduceSub, Int.reduceToNat, Int.reduceLE, Int.reduceLT, Int.reduceNeg, Nat.reduceBEq, Nat.reduceMul, Nat.reduceLeDiff, Nat.reduceMod, UInt8.reduceOfNat, Nat.reduceLT, Int.reduceEq, Int.reduceAdd, Int.reduceSub, Int.reduceMul]))
    all_goals first | omega | exact hk | trace_state
  | true =>
    rw [hf] at hk
    cases ht : (bareS s).1 with
    | nil =>
      rw [ht] at hk
      simp -dsimp -implicitDefEqProofs only [S35, R35, ↓Ev.P, Ev.Q, Bool.cond_true, Bool.cond_false, eq_self, forall_eq_or_imp, implies_true, forall_const, forall_eq, ↓reduceIte, reduceIte, Nat.reduceEqDiff, Nat.reduceAdd, reduceCtorEq, Nat.reduceSub, Int.reduceToNat, Int.reduceLE, Int.reduceLT, Int.reduceNeg, Nat.reduceBEq, Nat.reduceMul, Nat.reduceLeDiff, Nat.reduceMod, UInt8.reduceOfNat, Nat.reduceLT, Int.reduceEq, Int.reduceAdd, Int.reduceSub, Int.reduceMul]
      repeat' (first | with_reducible assumption | refine And.intro ?_ ?_ | intro _ | (rw [Ev.xStp_eq]; simp -dsimp -implicitDefEqProofs only [CBare, hf, ht, Ev.St.giveC, ↓Ev.P, Ev.Q, Bool.cond_true, Bool.cond_false, eq_self, forall_eq_or_imp, implies_true, forall_const, forall_eq, ↓reduceIte, reduceIte, Nat.reduceEqDiff, Nat.reduceAdd, reduceCtorEq, Nat.reduceSub, Int.reduceToNat, Int.reduceLE, Int.reduceLT, Int.reduceNeg, Nat.reduceBEq, Nat.reduceMul, Nat.reduceLeDiff, Nat.reduceMod, UInt8.reduceOfNat, Nat.reduceLT, Int.reduceEq, Int.reduceAdd, Int.reduceSub, Int.reduceMul]))
      all_goals first | omega | exact hk | trace_state
    | cons v r =>
      rw [ht] at hk hbl
      have h1 := cutH_len r
      have h2 := cutH_len (cutH r).2
      simp only [List.length_cons] at hbl
      simp -dsimp -implicitDefEqProofs only [S35, R35, ↓Ev.P, Ev.Q, Bool.cond_true, Bool.cond_false, eq_self, forall_eq_or_imp, implies_true, forall_const, forall_eq, ↓reduceIte, reduceIte, Nat.reduceEqDiff, Nat.reduceAdd, reduceCtorEq, Nat.reduceSub, Int.reduceToNat, Int.reduceLE, Int.reduceLT, Int.reduceNeg, Nat.reduceBEq, Nat.reduceMul, Nat.reduceLeDiff, Nat.reduceMod, UInt8.reduceOfNat, Nat.reduceLT, Int.reduceEq, Int.reduceAdd, Int.reduceSub, Int.reduceMul]
      repeat' (first | with_reducible assumption | refine And.intro ?_ ?_ | intro _ | (rw [Ev.xStp_eq]; simp -dsimp -implicitDefEqProofs only [CBare, CFld, CSuf, suf_last, hf, ht, Ev.St.giveC, ↓Ev.P, Ev.Q, Bool.cond_true, Bool.cond_false, eq_self, forall_eq_or_imp, implies_true, forall_const, forall_eq, ↓reduceIte, reduceIte, Nat.reduceEqDiff, Nat.reduceAdd, reduceCtorEq, Nat.reduceSub, Int.reduceToNat, Int.reduceLE, Int.reduceLT, Int.reduceNeg, Nat.reduceBEq, Nat.reduceMul, Nat.reduceLeDiff, Nat.reduceMod, UInt8.reduceOfNat, Nat.reduceLT, Int.reduceEq, Int.reduceAdd, Int.reduceSub, Int.reduceMul]))
      all_goals try omega
      have e : (decide ((parseS (cutH r).fst).snd = 0) && decide ((parseS (cutH (cutH r).snd).fst).snd = 0) && decide ((cutH (cutH r).snd).snd = []) && !decide ((v :: r).getLast? = some 32) && decide (0 < (parseS (cutH (cutH r).snd).fst).fst) && (decide ((v.toNat : Int) = 97) || decide ((v.toNat : Int) = 100) && decide (0 < (parseS (cutH r).fst).fst))) = decide (rdOk parseS v r) := by
        rw [Bool.eq_iff_iff]
        have v1 : ((v.toNat : Int) = 97) = (v = 97) := u8_k v 97 (by decide)
        have v2 : ((v.toNat : Int) = 100) = (v = 100) := u8_k v 100 (by decide)
        rw [decide_eq_true_eq]
        simp only [Bool.and_eq_true, Bool.or_eq_true, decide_eq_true_eq, Bool.not_eq_true', decide_eq_false_iff_not, rdOk, v1, v2, and_assoc]
      rw [e]; exact hk
end Go.Proofs.YtlghobefhmpfkaaGreatDoor
set_option linter.unusedVariables false
set_option linter.unusedSimpArgs false
namespace Go.Proofs.YtlghobefhmpfkaaGreatDoor
open Go Go.Ev Go.Rcs
set_option maxRecDepth 100000
variable {G : World → Prop}
theorem cutB_at : ∀ {r : List UInt8} {k : Nat}, k < r.length → 32 ∉ r.take k → r.getD k 0 = 32 → cutB r = some (r.take k, r.drop (k + 1))
  | [], _, h, _, _ => by simp at h
  | c :: r, 0, _, _, h => by
    have : c = 32 := by simpa using h
    rw [cutB, if_pos this]; rfl
  | c :: r, k + 1, h, hn, hc => by
    simp only [List.take_succ_cons, List.mem_cons, not_or] at hn
    rw [cutB, if_neg (fun e => hn.1 e.symm), cutB_at (r := r) (k := k) (by simpa using h) hn.2 (by simpa using hc)]
    rfl
theorem cutB_non : ∀ {r : List UInt8}, 32 ∉ r → cutB r = none
  | [], _ => rfl
  | c :: r, h => by
    simp only [List.mem_cons, not_or] at h
    rw [cutB, if_neg (fun e => h.1 e.symm), cutB_non h.2]; rfl
/-- What the reference reads of a line without its line feed. -/
def cmC (s : List UInt8) : (UInt8 × Int × Int) × Bool := match s with
  | [] => ((0, 0, 0), false)
  | v :: r => if v = 97 ∨ v = 100 then match cutB r with
      | none => ((0, 0, 0), false)
      | some (p, q) => ((v, (parseS p).1, (parseS q).1), decide (((parseS p).2 = 0 ∧ (parseS q).2 = 0) ∧ 0 < (parseS q).1 ∧ (v = 97 ∨ 0 < (parseS p).1)))
    else ((0, 0, 0), false)
def CCmd : Contract := pureC fun args => match args with
  | [.d (.v (.string s))] => some (s.size ≤ 1099511627776, .tup [.d (.v (.int .u8 (cmC s.data.toList).1.1.toNat)), .d (.v (.int .i64 (cmC s.data.toList).1.2.1)), .d (.v (.int .i64 (cmC s.data.toList).1.2.2)), .d (.v (.bool (cmC s.data.toList).2))])
  | _ => none
set_option maxHeartbeats 2000000 in
theorem s41 : Sound G Tryz.prog 41 CCmd := by
  refine sd41 (T := tabT [(90, CParse)]) (tab_cons s90 tab_nil) (pureC_lawful _) (pure_hX fun args p x K h hp hk => ?_)
  split at h <;> simp only [Option.some.injEq, Prod.mk.injEq, reduceCtorEq] at h
  obtain ⟨rfl, rfl⟩ := h
  rename_i s
  obtain ⟨s, rfl⟩ := ex_str s
  simp only [sem_str] at hp hk
  refine ⟨Nat.le_of_ble_eq_true rfl, ?_⟩
  cases s with
  | nil =>
    simp -dsimp -implicitDefEqProofs only [S41, R41, ↓Ev.xStp_eq, ↓Ev.P, Ev.Q, Bool.cond_true, Bool.cond_false, eq_self, forall_eq_or_imp, implies_true, forall_const, forall_eq, ↓reduceIte, reduceIte, Nat.reduceEqDiff, Nat.reduceAdd, reduceCtorEq, Nat.reduceSub, Int.reduceToNat, Int.reduceLE, Int.reduceLT, Int.reduceNeg, Nat.reduceBEq, Nat.reduceMul, Nat.reduceLeDiff, Nat.reduceMod, UInt8.reduceOfNat, Nat.reduceLT, Int.reduceEq, Int.reduceAdd, Int.reduceSub, Int.reduceMul]
    exact hk
  | cons v r =>
    have v1 : ((v.toNat : Int) = 97) = (v = 97) := u8_k v 97 (by decide)
    have v2 : ((v.toNat : Int) = 100) = (v = 100) := u8_k v 100 (by decide)
    simp only [List.length_cons] at hp
    have hg0 : (v :: r).getD 0 0 = v := rfl
    by_cases hv : v = 97 ∨ v = 100
    · simp -dsimp -implicitDefEqProofs only [S41, R41, hg0, v1, v2, ↓Ev.P, Ev.Q, Bool.cond_true, Bool.cond_false, eq_self, forall_eq_or_imp, implies_true, forall_const, forall_eq, ↓reduceIte, reduceIte, Nat.reduceEqDiff, Nat.reduceAdd, reduceCtorEq, Nat.reduceSub, Int.reduceToNat, Int.reduceLE, Int.reduceLT, Int.reduceNeg, Nat.reduceBEq, Nat.reduceMul, Nat.reduceLeDiff, Nat.reduceMod, UInt8.reduceOfNat, Nat.reduceLT, Int.reduceEq, Int.reduceAdd, Int.reduceSub, Int.reduceMul]
      repeat' (first | with_reducible assumption | refine And.intro ?_ ?_ | intro _ | (rw [Ev.xStp_eq]; simp -dsimp -implicitDefEqProofs only [hg0, v1, v2, ↓Ev.P, Ev.Q, Bool.cond_true, Bool.cond_false, eq_self, forall_eq_or_imp, implies_true, forall_const, forall_eq, ↓reduceIte, reduceIte, Nat.reduceEqDiff, Nat.reduceAdd, reduceCtorEq, Nat.reduceSub, Int.reduceToNat, Int.reduceLE, Int.reduceLT, Int.reduceNeg, Nat.reduceBEq, Nat.reduceMul, Nat.reduceLeDiff, Nat.reduceMod, UInt8.reduceOfNat, Nat.reduceLT, Int.reduceEq, Int.reduceAdd, Int.reduceSub, Int.reduceMul]))
      all_goals try omega
      · rename_i h
        rcases hv with rfl | rfl
        · rcases h with h | h
          · omega
          · exact absurd rfl h.2
        · rcases h with h | h
          · omega
          · exact absurd rfl h.1
      · refine xLoop_intro (fun n st => ∃ k : Nat, k ≤ r.length ∧ n = r.length - k ∧ 32 ∉ r.take k ∧ st = ⟨[(0, .d (.v (.string ⟨(v :: r).toArray⟩))), (6, .d (.v (.int .i64 (k + 1 : Nat))))], 0, []⟩) r.length [] ?_ ?_ ?_
        · simp -dsimp -implicitDefEqProofs only [↓Ev.xStp_eq, ↓Ev.P, Ev.Q, Bool.cond_true, Bool.cond_false, eq_self, forall_eq_or_imp, implies_true, forall_const, forall_eq, ↓reduceIte, reduceIte, Nat.reduceEqDiff, Nat.reduceAdd, reduceCtorEq, Nat.reduceSub, Int.reduceToNat, Int.reduceLE, Int.reduceLT, Int.reduceNeg, Nat.reduceBEq, Nat.reduceMul, Nat.reduceLeDiff, Nat.reduceMod, UInt8.reduceOfNat, Nat.reduceLT, Int.reduceEq, Int.reduceAdd, Int.reduceSub, Int.reduceMul]
        · simp -dsimp -implicitDefEqProofs only [↓Ev.xStp_eq, ↓Ev.P, Ev.Q, Bool.cond_true, Bool.cond_false, eq_self, forall_eq_or_imp, implies_true, forall_const, forall_eq, ↓reduceIte, reduceIte, Nat.reduceEqDiff, Nat.reduceAdd, reduceCtorEq, Nat.reduceSub, Int.reduceToNat, Int.reduceLE, Int.reduceLT, Int.reduceNeg, Nat.reduceBEq, Nat.reduceMul, Nat.reduceLeDiff, Nat.reduceMod, UInt8.reduceOfNat, Nat.reduceLT, Int.reduceEq, Int.reduceAdd, Int.reduceSub, Int.reduceMul]
          exact ⟨0, by omega, by omega, by simp, rfl⟩
        · rintro n st ⟨k, hk1, hn, hno, rfl⟩
          by_cases hkl : k < r.length
          · have hi3 : ((k + 1 : Nat) : Int) < ((v :: r).length : Int) := by simp only [List.length_cons]; omega
            have hge : (v :: r).getD (k + 1) 0 = r.getD k 0 := rfl
            have v3 : (((r.getD k 0).toNat : Int) = 32) = (r.getD k 0 = 32) := u8_k _ 32 (by decide)
            by_cases hc : r.getD k 0 = 32
            · have hcut := cutB_at hkl hno hc
              simp only [cmC, if_pos hv, hcut] at hk
              have hd : (v :: r).drop (k + 2) = r.drop (k + 1) := rfl
              have ht : ((v :: r).take (k + 1)).drop 1 = r.take k := rfl
              simp -dsimp -implicitDefEqProofs only [hi3, hge, v3, hc, hg0, v1, v2, CParse, ↓Ev.P, Ev.Q, Bool.cond_true, Bool.cond_false, eq_self, forall_eq_or_imp, implies_true, forall_const, forall_eq, ↓reduceIte, reduceIte, Nat.reduceEqDiff, Nat.reduceAdd, reduceCtorEq, Nat.reduceSub, Int.reduceToNat, Int.reduceLE, Int.reduceLT, Int.reduceNeg, Nat.reduceBEq, Nat.reduceMul, Nat.reduceLeDiff, Nat.reduceMod, UInt8.reduceOfNat, Nat.reduceLT, Int.reduceEq, Int.reduceAdd, Int.reduceSub, Int.reduceMul]
              repeat' (first | with_reducible assumption | refine And.intro ?_ ?_ | intro _ | (rw [Ev.xStp_eq]; simp -dsimp -implicitDefEqProofs only [hi3, hge, v3, hc, hg0, v1, v2, CParse, ↓Ev.P, Ev.Q, Bool.cond_true, Bool.cond_false, eq_self, forall_eq_or_imp, implies_true, forall_const, forall_eq, ↓reduceIte, reduceIte, Nat.reduceEqDiff, Nat.reduceAdd, reduceCtorEq, Nat.reduceSub, Int.reduceToNat, Int.reduceLE, Int.reduceLT, Int.reduceNeg, Nat.reduceBEq, Nat.reduceMul, Nat.reduceLeDiff, Nat.reduceMod, UInt8.reduceOfNat, Nat.reduceLT, Int.reduceEq, Int.reduceAdd, Int.reduceSub, Int.reduceMul]))
              all_goals try omega
              · rw [List.length_take]; omega
              · rw [List.length_take, List.length_drop]; omega
              · rw [List.take_of_length_le (l := List.drop (k + 1) r) (by rw [List.length_drop]; omega)]
                have e : (decide ((parseS (List.take k r)).snd = 0) && decide ((parseS (List.drop (k + 1) r)).snd = 0) && decide (0 < (parseS (List.drop (k + 1) r)).fst) && (decide (v = 97) || decide (0 < (parseS (List.take k r)).fst))) = decide (((parseS (List.take k r)).2 = 0 ∧ (parseS (List.drop (k + 1) r)).2 = 0) ∧ 0 < (parseS (List.drop (k + 1) r)).1 ∧ (v = 97 ∨ 0 < (parseS (List.take k r)).1)) := by
                  rw [Bool.eq_iff_iff, decide_eq_true_eq]
                  simp only [Bool.and_eq_true, Bool.or_eq_true, decide_eq_true_eq, and_assoc]
                rw [e]; exact hk
              · rename_i h; exact absurd rfl h
            · simp -dsimp -implicitDefEqProofs only [hi3, hge, v3, hc, hg0, v1, v2, CParse, ↓Ev.xStp_eq, ↓Ev.P, Ev.Q, Bool.cond_true, Bool.cond_false, eq_self, forall_eq_or_imp, implies_true, forall_const, forall_eq, ↓reduceIte, reduceIte, Nat.reduceEqDiff, Nat.reduceAdd, reduceCtorEq, Nat.reduceSub, Int.reduceToNat, Int.reduceLE, Int.reduceLT, Int.reduceNeg, Nat.reduceBEq, Nat.reduceMul, Nat.reduceLeDiff, Nat.reduceMod, UInt8.reduceOfNat, Nat.reduceLT, Int.reduceEq, Int.reduceAdd, Int.reduceSub, Int.reduceMul]
              repeat' (first | with_reducible assumption | refine And.intro ?_ ?_ | intro _)
              all_goals try omega
              refine xAgain_intro (r.length - (k + 1)) [] (by omega) (by simp -dsimp -implicitDefEqProofs only [↓Ev.xStp_eq, ↓Ev.P, Ev.Q, Bool.cond_true, Bool.cond_false, eq_self, forall_eq_or_imp, implies_true, forall_const, forall_eq, ↓reduceIte, reduceIte, Nat.reduceEqDiff, Nat.reduceAdd, reduceCtorEq, Nat.reduceSub, Int.reduceToNat, Int.reduceLE, Int.reduceLT, Int.reduceNeg, Nat.reduceBEq, Nat.reduceMul, Nat.reduceLeDiff, Nat.reduceMod, UInt8.reduceOfNat, Nat.reduceLT, Int.reduceEq, Int.reduceAdd, Int.reduceSub, Int.reduceMul]) ⟨k + 1, by omega, rfl, ?_, ?_⟩
              · rw [List.take_succ_eq_append_getElem hkl, List.mem_append]
                rintro (hm | hm)
                · exact hno hm
                · have e := List.mem_singleton.1 hm
                  refine hc ?_
                  rw [List.getD_eq_getElem?_getD, List.getElem?_eq_getElem hkl, Option.getD_some, e]
              · simp -dsimp -implicitDefEqProofs only [↓Ev.xStp_eq, ↓Ev.P, Ev.Q, Bool.cond_true, Bool.cond_false, eq_self, forall_eq_or_imp, implies_true, forall_const, forall_eq, ↓reduceIte, reduceIte, Nat.reduceEqDiff, Nat.reduceAdd, reduceCtorEq, Nat.reduceSub, Int.reduceToNat, Int.reduceLE, Int.reduceLT, Int.reduceNeg, Nat.reduceBEq, Nat.reduceMul, Nat.reduceLeDiff, Nat.reduceMod, UInt8.reduceOfNat, Nat.reduceLT, Int.reduceEq, Int.reduceAdd, Int.reduceSub, Int.reduceMul]
                rfl
          · have hi3 : ¬ ((k + 1 : Nat) : Int) < ((v :: r).length : Int) := by simp only [List.length_cons]; omega
            obtain rfl : k = r.length := by omega
            rw [List.take_length] at hno
            simp only [cmC, if_pos hv, cutB_non hno] at hk
            have hi4 : ¬ ((r.length + 1 : Nat) : Int) < ((r.length + 1 : Nat) : Int) := by omega
            simp -dsimp -implicitDefEqProofs only [hi4, ↓Ev.xStp_eq, ↓Ev.P, Ev.Q, Bool.cond_true, Bool.cond_false, eq_self, forall_eq_or_imp, implies_true, forall_const, forall_eq, ↓reduceIte, reduceIte, Nat.reduceEqDiff, Nat.reduceAdd, reduceCtorEq, Nat.reduceSub, Int.reduceToNat, Int.reduceLE, Int.reduceLT, Int.reduceNeg, Nat.reduceBEq, Nat.reduceMul, Nat.reduceLeDiff, Nat.reduceMod, UInt8.reduceOfNat, Nat.reduceLT, Int.reduceEq, Int.reduceAdd, Int.reduceSub, Int.reduceMul]
            exact hk
    · have n1 : ¬ v = 97 := fun e => hv (.inl e)
      have n2 : ¬ v = 100 := fun e => hv (.inr e)
      simp only [cmC, if_neg hv] at hk
      simp -dsimp -implicitDefEqProofs only [S41, R41, hg0, v1, v2, n1, n2, ↓Ev.xStp_eq, ↓Ev.P, Ev.Q, Bool.cond_true, Bool.cond_false, eq_self, forall_eq_or_imp, implies_true, forall_const, forall_eq, ↓reduceIte, reduceIte, Nat.reduceEqDiff, Nat.reduceAdd, reduceCtorEq, Nat.reduceSub, Int.reduceToNat, Int.reduceLE, Int.reduceLT, Int.reduceNeg, Nat.reduceBEq, Nat.reduceMul, Nat.reduceLeDiff, Nat.reduceMod, UInt8.reduceOfNat, Nat.reduceLT, Int.reduceEq, Int.reduceAdd, Int.reduceSub, Int.reduceMul]
      exact ⟨fun _ => ⟨by omega, by omega⟩, fun _ => ⟨by omega, by omega⟩, hk⟩
end Go.Proofs.YtlghobefhmpfkaaGreatDoor
set_option linter.unusedVariables false
set_option linter.unusedSimpArgs false
namespace Go.Proofs.YtlghobefhmpfkaaGreatDoor
open Go Go.Ev Go.Rcs
set_option maxRecDepth 100000
variable {G : World → Prop}
/-- What is wrong with a command: the verb, a line, how many; of so many lines; so many are done; the line behind which lines were put. -/
def alw (v : UInt8) (p n la done put : Int) : Int :=
  if v = 100 then (if p - 1 < max done put then 121 else if la < p ∨ la - p + 1 < n then 2 else 0)
  else if p < done ∨ p = put then 121 else if la < p then 2 else 0
def inI (z : Int) : Prop := -1099511627776 ≤ z ∧ z ≤ 1099511627776
def CAlw : Contract := stC fun args st => match args, st with
  | [.ptr 0 0, .agg [.d (.v (.int .u8 v)), .d (.v (.int .i64 p)), .d (.v (.int .i64 n))]], ⟨1, [(0, .cells t [.d (.sl a), .d o, .d (.v (.int .i64 done)), .d (.v (.int .i64 put))])]⟩ =>
    some ((inI p ∧ inI n ∧ a.length ≤ 1099511627776 ∧ 0 ≤ v ∧ v < 256), .d (.v (.int .i64 (alw (UInt8.ofNat v.toNat) p n a.length done put))), ⟨1, [(0, .cells t [.d (.sl a), .d o, .d (.v (.int .i64 done)), .d (.v (.int .i64 put))])]⟩)
  | [.ptr 0 0, .agg [.d (.v (.int .u8 v)), .d (.v (.int .i64 p)), .d (.v (.int .i64 n))]], ⟨2, [(0, .cells t [.d (.sl a), .own 1, .d (.v (.int .i64 done)), .d (.v (.int .i64 put))]), (1, .row u z rows)]⟩ =>
    some ((inI p ∧ inI n ∧ a.length ≤ 1099511627776 ∧ 0 ≤ v ∧ v < 256), .d (.v (.int .i64 (alw (UInt8.ofNat v.toNat) p n a.length done put))), ⟨2, [(0, .cells t [.d (.sl a), .own 1, .d (.v (.int .i64 done)), .d (.v (.int .i64 put))]), (1, .row u z rows)]⟩)
  | _, _ => none
set_option maxHeartbeats 4000000 in
theorem s36 : Sound G Tryz.prog 36 CAlw := by
  refine sd36 (T := tabT []) tab_nil (stC_lawful _) (st_hX fun args st p x st' K h hp hk => ?_)
  split at h <;> simp only [Option.some.injEq, Prod.mk.injEq, reduceCtorEq] at h
  · obtain ⟨rfl, rfl, rfl⟩ := h
    rename_i v p n t a o done put
    obtain ⟨⟨p1, p2⟩, ⟨n1, n2⟩, h3, h4, h5⟩ := hp
    refine ⟨Nat.le_of_ble_eq_true rfl, [0], ?_⟩
    have e0 : ((UInt8.ofNat v.toNat).toNat : Int) = v := by rw [UInt8.toNat_ofNat', Nat.mod_eq_of_lt (by omega)]; omega
    have v1 : (v = 100) = (UInt8.ofNat v.toNat = 100) := by
      have := u8_k (UInt8.ofNat v.toNat) 100 (by decide)
      rw [e0] at this
      exact this
    unfold alw at hk
    by_cases hv : v = 100
    · rw [if_pos (v1 ▸ hv)] at hk
      simp -dsimp -implicitDefEqProofs only [S36, R36, hv, Ev.St.giveC, ↓Ev.xStp_eq, ↓Ev.P, Ev.Q, Bool.cond_true, Bool.cond_false, eq_self, forall_eq_or_imp, implies_true, forall_const, forall_eq, ↓reduceIte, reduceIte, Nat.reduceEqDiff, Nat.reduceAdd, reduceCtorEq, Nat.reduceSub, Int.reduceToNat, Int.reduceLE, Int.reduceLT, Int.reduceNeg, Nat.reduceBEq, Nat.reduceMul, Nat.reduceLeDiff, Nat.reduceMod, UInt8.reduceOfNat, Nat.reduceLT, Int.reduceEq, Int.reduceAdd, Int.reduceSub, Int.reduceMul]
      repeat' (first | with_reducible assumption | refine And.intro ?_ ?_ | intro _)
      all_goals try omega
      · rename_i h; rw [if_pos h] at hk; exact hk
      · rename_i h1 h2; rw [if_neg h1, if_pos h2] at hk; exact hk
      · rename_i h1 h2; rw [if_neg h1, if_neg (fun e => e.elim h2.1 h2.2)] at hk; exact hk
    · rw [if_neg (fun e => hv (v1.mpr e))] at hk
      simp -dsimp -implicitDefEqProofs only [S36, R36, hv, Ev.St.giveC, ↓Ev.xStp_eq, ↓Ev.P, Ev.Q, Bool.cond_true, Bool.cond_false, eq_self, forall_eq_or_imp, implies_true, forall_const, forall_eq, ↓reduceIte, reduceIte, Nat.reduceEqDiff, Nat.reduceAdd, reduceCtorEq, Nat.reduceSub, Int.reduceToNat, Int.reduceLE, Int.reduceLT, Int.reduceNeg, Nat.reduceBEq, Nat.reduceMul, Nat.reduceLeDiff, Nat.reduceMod, UInt8.reduceOfNat, Nat.reduceLT, Int.reduceEq, Int.reduceAdd, Int.reduceSub, Int.reduceMul]
      repeat' (first | with_reducible assumption | refine And.intro ?_ ?_ | intro _)
      all_goals try omega
      · rename_i h; rw [if_pos h] at hk; exact hk
      · rename_i h1 h2; rw [if_neg (fun e => e.elim h1.1 h1.2), if_pos h2] at hk; exact hk
      · rename_i h1 h2; rw [if_neg (fun e => e.elim h1.1 h1.2), if_neg h2] at hk; exact hk
  · obtain ⟨rfl, rfl, rfl⟩ := h
    rename_i v p n t a done put u z rows
    obtain ⟨⟨p1, p2⟩, ⟨n1, n2⟩, h3, h4, h5⟩ := hp
    refine ⟨Nat.le_of_ble_eq_true rfl, [0, 1], ?_⟩
    have e0 : ((UInt8.ofNat v.toNat).toNat : Int) = v := by rw [UInt8.toNat_ofNat', Nat.mod_eq_of_lt (by omega)]; omega
    have v1 : (v = 100) = (UInt8.ofNat v.toNat = 100) := by
      have := u8_k (UInt8.ofNat v.toNat) 100 (by decide)
      rw [e0] at this
      exact this
    unfold alw at hk
    by_cases hv : v = 100
    · rw [if_pos (v1 ▸ hv)] at hk
      simp -dsimp -implicitDefEqProofs only [S36, R36, hv, Ev.St.giveC, ↓Ev.xStp_eq, ↓Ev.P, Ev.Q, Bool.cond_true, Bool.cond_false, eq_self, forall_eq_or_imp, implies_true, forall_const, forall_eq, ↓reduceIte, reduceIte, Nat.reduceEqDiff, Nat.reduceAdd, reduceCtorEq, Nat.reduceSub, Int.reduceToNat, Int.reduceLE, Int.reduceLT, Int.reduceNeg, Nat.reduceBEq, Nat.reduceMul, Nat.reduceLeDiff, Nat.reduceMod, UInt8.reduceOfNat, Nat.reduceLT, Int.reduceEq, Int.reduceAdd, Int.reduceSub, Int.reduceMul]
      repeat' (first | with_reducible assumption | refine And.intro ?_ ?_ | intro _)
      all_goals try omega
      · rename_i h; rw [if_pos h] at hk; exact hk
      · rename_i h1 h2; rw [if_neg h1, if_pos h2] at hk; exact hk
      · rename_i h1 h2; rw [if_neg h1, if_neg (fun e => e.elim h2.1 h2.2)] at hk; exact hk
    · rw [if_neg (fun e => hv (v1.mpr e))] at hk
      simp -dsimp -implicitDefEqProofs only [S36, R36, hv, Ev.St.giveC, ↓Ev.xStp_eq, ↓Ev.P, Ev.Q, Bool.cond_true, Bool.cond_false, eq_self, forall_eq_or_imp, implies_true, forall_const, forall_eq, ↓reduceIte, reduceIte, Nat.reduceEqDiff, Nat.reduceAdd, reduceCtorEq, Nat.reduceSub, Int.reduceToNat, Int.reduceLE, Int.reduceLT, Int.reduceNeg, Nat.reduceBEq, Nat.reduceMul, Nat.reduceLeDiff, Nat.reduceMod, UInt8.reduceOfNat, Nat.reduceLT, Int.reduceEq, Int.reduceAdd, Int.reduceSub, Int.reduceMul]
      repeat' (first | with_reducible assumption | refine And.intro ?_ ?_ | intro _)
      all_goals try omega
      · rename_i h; rw [if_pos h] at hk; exact hk
      · rename_i h1 h2; rw [if_neg (fun e => e.elim h1.1 h1.2), if_pos h2] at hk; exact hk
      · rename_i h1 h2; rw [if_neg (fun e => e.elim h1.1 h1.2), if_neg h2] at hk; exact hk
end Go.Proofs.YtlghobefhmpfkaaGreatDoor
set_option linter.unusedVariables false
set_option linter.unusedSimpArgs false
namespace Go.Proofs.YtlghobefhmpfkaaGreatDoor
open Go Go.Ev Go.Rcs
set_option maxRecDepth 100000
variable {G : World → Prop}
/-- Lines of the first text are taken, up to one over. -/
def CKeep : Contract := stC fun args st => match args, st with
  | [.ptr 0 0, .d (.v (.int .i64 to))], ⟨1, [(0, .cells t [.d (.sl a), .d (.v (.slice none 0 0)), .d (.v (.int .i64 done)), .d (.v (.int .i64 put))])]⟩ =>
    some ((0 ≤ done ∧ done ≤ to ∧ to ≤ a.length ∧ a.length ≤ 1099511627776 ∧ ∀ r ∈ a, r.length = 1), .tup [], ⟨2, [(0, .cells t [.d (.sl a), .own 1, .d (.v (.int .i64 to)), .d (.v (.int .i64 put))]), (1, .row 9 1 ((a.take to.toNat).drop done.toNat))]⟩)
  | [.ptr 0 0, .d (.v (.int .i64 to))], ⟨2, [(0, .cells t [.d (.sl a), .own 1, .d (.v (.int .i64 done)), .d (.v (.int .i64 put))]), (1, .row u z rows)]⟩ =>
    some ((0 ≤ done ∧ done ≤ to ∧ to ≤ a.length ∧ a.length ≤ 1099511627776 ∧ (∀ r ∈ a, r.length = 1) ∧ u = 9 ∧ z = 1 ∧ rows.length ≤ 1099511627776), .tup [], ⟨3, [(0, .cells t [.d (.sl a), .own 2, .d (.v (.int .i64 to)), .d (.v (.int .i64 put))]), (1, .dead), (2, .row u z (rows ++ (a.take to.toNat).drop done.toNat))]⟩)
  | _, _ => none
set_option maxHeartbeats 4000000 in
theorem s37 : Sound G Tryz.prog 37 CKeep := by
  refine sd37 (T := tabT []) tab_nil (stC_lawful _) (st_hX fun args st p x st' K h hp hk => ?_)
  split at h <;> simp only [Option.some.injEq, Prod.mk.injEq, reduceCtorEq] at h
  · obtain ⟨rfl, rfl, rfl⟩ := h
    rename_i to t a done put
    obtain ⟨h1, h2, h3, h4, h5⟩ := hp
    have h6 : ∀ r ∈ (a.take to.toNat).drop done.toNat, r.length = 1 := fun r hr => h5 r (List.mem_of_mem_take (List.mem_of_mem_drop hr))
    have h7 : ((a.take to.toNat).drop done.toNat).length ≤ a.length := by rw [List.length_drop, List.length_take]; omega
    refine ⟨Nat.le_of_ble_eq_true rfl, [0, 1], ?_⟩
    simp -dsimp -implicitDefEqProofs only [S37, R37, ↓Ev.xStp_eq, ↓Ev.P, Ev.Q, Bool.cond_true, Bool.cond_false, eq_self, forall_eq_or_imp, implies_true, forall_const, forall_eq, ↓reduceIte, reduceIte, Nat.reduceEqDiff, Nat.reduceAdd, reduceCtorEq, Nat.reduceSub, Int.reduceToNat, Int.reduceLE, Int.reduceLT, Int.reduceNeg, Nat.reduceBEq, Nat.reduceMul, Nat.reduceLeDiff, Nat.reduceMod, UInt8.reduceOfNat, Nat.reduceLT, Int.reduceEq, Int.reduceAdd, Int.reduceSub, Int.reduceMul]
    exact ⟨⟨h1, h2, h3⟩, h5, h6, by omega, hk⟩
  · obtain ⟨rfl, rfl, rfl⟩ := h
    rename_i to t a done put u z rows
    obtain ⟨h1, h2, h3, h4, h5, rfl, rfl, h8⟩ := hp
    have h6 : ∀ r ∈ (a.take to.toNat).drop done.toNat, r.length = 1 := fun r hr => h5 r (List.mem_of_mem_take (List.mem_of_mem_drop hr))
    have h7 : ((a.take to.toNat).drop done.toNat).length ≤ a.length := by rw [List.length_drop, List.length_take]; omega
    refine ⟨Nat.le_of_ble_eq_true rfl, [0, 1, 2], ?_⟩
    simp -dsimp -implicitDefEqProofs only [S37, R37, ↓Ev.xStp_eq, ↓Ev.P, Ev.Q, Bool.cond_true, Bool.cond_false, eq_self, forall_eq_or_imp, implies_true, forall_const, forall_eq, ↓reduceIte, reduceIte, Nat.reduceEqDiff, Nat.reduceAdd, reduceCtorEq, Nat.reduceSub, Int.reduceToNat, Int.reduceLE, Int.reduceLT, Int.reduceNeg, Nat.reduceBEq, Nat.reduceMul, Nat.reduceLeDiff, Nat.reduceMod, UInt8.reduceOfNat, Nat.reduceLT, Int.reduceEq, Int.reduceAdd, Int.reduceSub, Int.reduceMul]
    exact ⟨⟨h1, h2, h3⟩, h5, h6, by omega, hk⟩
end Go.Proofs.YtlghobefhmpfkaaGreatDoor
set_option linter.unusedVariables false
set_option linter.unusedSimpArgs false
namespace Go.Proofs.YtlghobefhmpfkaaGreatDoor
open Go Go.Ev Go.Rcs
set_option maxRecDepth 100000
variable {G : World → Prop}
/-- A reader's cells. -/
abbrev rdr (t : TypeId) (l : D) (at_ fa fe : Int) : Ob := .cells t [.d l, .d (.v (.int .i64 at_)), .d (.v (.int .i64 fa)), .d (.v (.int .i64 fe))]
def nilS : D := .v (.slice none 0 0)
/-- The line that was taken last is wrong. -/
def CFail : Contract := stC fun args st => match args, st with
  | [.ptr 0 0, .d (.v (.int .i64 e))], ⟨1, [(0, .cells t [.d l, .d (.v (.int .i64 at_)), .d (.v (.int .i64 fa)), .d (.v (.int .i64 fe))])]⟩ =>
    some (True, .tup [], ⟨1, [(0, rdr t l at_ (if fe = 0 then at_ else fa) (if fe = 0 then e else fe))]⟩)
  | _, _ => none
theorem s43 : Sound G Tryz.prog 43 CFail := by
  refine sd43 (T := tabT []) tab_nil (stC_lawful _) (st_hX fun args st p x st' K h hp hk => ?_)
  split at h <;> simp only [Option.some.injEq, Prod.mk.injEq, reduceCtorEq] at h
  obtain ⟨rfl, rfl, rfl⟩ := h
  rename_i e t l at_ fa fe
  refine ⟨Nat.le_of_ble_eq_true rfl, [0], ?_⟩
  by_cases h0 : fe = 0
  · rw [if_pos h0, if_pos h0] at hk
    simp -dsimp -implicitDefEqProofs only [S43, R43, h0, ↓Ev.xStp_eq, ↓Ev.P, Ev.Q, Bool.cond_true, Bool.cond_false, eq_self, forall_eq_or_imp, implies_true, forall_const, forall_eq, ↓reduceIte, reduceIte, Nat.reduceEqDiff, Nat.reduceAdd, reduceCtorEq, Nat.reduceSub, Int.reduceToNat, Int.reduceLE, Int.reduceLT, Int.reduceNeg, Nat.reduceBEq, Nat.reduceMul, Nat.reduceLeDiff, Nat.reduceMod, UInt8.reduceOfNat, Nat.reduceLT, Int.reduceEq, Int.reduceAdd, Int.reduceSub, Int.reduceMul]
    exact hk
  · rw [if_neg h0, if_neg h0] at hk
    simp -dsimp -implicitDefEqProofs only [S43, R43, h0, ↓Ev.xStp_eq, ↓Ev.P, Ev.Q, Bool.cond_true, Bool.cond_false, eq_self, forall_eq_or_imp, implies_true, forall_const, forall_eq, ↓reduceIte, reduceIte, Nat.reduceEqDiff, Nat.reduceAdd, reduceCtorEq, Nat.reduceSub, Int.reduceToNat, Int.reduceLE, Int.reduceLT, Int.reduceNeg, Nat.reduceBEq, Nat.reduceMul, Nat.reduceLeDiff, Nat.reduceMod, UInt8.reduceOfNat, Nat.reduceLT, Int.reduceEq, Int.reduceAdd, Int.reduceSub, Int.reduceMul]
    exact hk
/-- Is there another line, and is all right so far? -/
def CMore : Contract := stC fun args st => match args, st with
  | [.ptr 0 0], ⟨1, [(0, .cells t [.d (.sl a), .d (.v (.int .i64 at_)), .d (.v (.int .i64 fa)), .d (.v (.int .i64 fe))])]⟩ =>
    some (True, .d (.v (.bool (decide (fe = 0) && decide (at_ < a.length)))), ⟨1, [(0, rdr t (.sl a) at_ fa fe)]⟩)
  | [.ptr 0 0], ⟨1, [(0, .cells t [.d (.v (.slice none 0 0)), .d (.v (.int .i64 at_)), .d (.v (.int .i64 fa)), .d (.v (.int .i64 fe))])]⟩ =>
    some (¬ fe = 0, .d (.v (.bool false)), ⟨1, [(0, rdr t (.v (.slice none 0 0)) at_ fa fe)]⟩)
  | _, _ => none
theorem s40 : Sound G Tryz.prog 40 CMore := by
  refine sd40 (T := tabT []) tab_nil (stC_lawful _) (st_hX fun args st p x st' K h hp hk => ?_)
  split at h <;> simp only [Option.some.injEq, Prod.mk.injEq, reduceCtorEq] at h
  · obtain ⟨rfl, rfl, rfl⟩ := h
    rename_i t a at_ fa fe
    refine ⟨Nat.le_of_ble_eq_true rfl, [0], ?_⟩
    by_cases h0 : fe = 0
    · simp only [h0, decide_true, Bool.true_and] at hk
      simp -dsimp -implicitDefEqProofs only [S40, R40, h0, ↓Ev.xStp_eq, ↓Ev.P, Ev.Q, Bool.cond_true, Bool.cond_false, eq_self, forall_eq_or_imp, implies_true, forall_const, forall_eq, ↓reduceIte, reduceIte, Nat.reduceEqDiff, Nat.reduceAdd, reduceCtorEq, Nat.reduceSub, Int.reduceToNat, Int.reduceLE, Int.reduceLT, Int.reduceNeg, Nat.reduceBEq, Nat.reduceMul, Nat.reduceLeDiff, Nat.reduceMod, UInt8.reduceOfNat, Nat.reduceLT, Int.reduceEq, Int.reduceAdd, Int.reduceSub, Int.reduceMul]
      exact hk
    · simp only [h0, decide_false, Bool.false_and] at hk
      simp -dsimp -implicitDefEqProofs only [S40, R40, h0, ↓Ev.xStp_eq, ↓Ev.P, Ev.Q, Bool.cond_true, Bool.cond_false, eq_self, forall_eq_or_imp, implies_true, forall_const, forall_eq, ↓reduceIte, reduceIte, Nat.reduceEqDiff, Nat.reduceAdd, reduceCtorEq, Nat.reduceSub, Int.reduceToNat, Int.reduceLE, Int.reduceLT, Int.reduceNeg, Nat.reduceBEq, Nat.reduceMul, Nat.reduceLeDiff, Nat.reduceMod, UInt8.reduceOfNat, Nat.reduceLT, Int.reduceEq, Int.reduceAdd, Int.reduceSub, Int.reduceMul]
      exact hk
  · obtain ⟨rfl, rfl, rfl⟩ := h
    rename_i t at_ fa fe
    refine ⟨Nat.le_of_ble_eq_true rfl, [0], ?_⟩
    simp -dsimp -implicitDefEqProofs only [S40, R40, hp, ↓Ev.xStp_eq, ↓Ev.P, Ev.Q, Bool.cond_true, Bool.cond_false, eq_self, forall_eq_or_imp, implies_true, forall_const, forall_eq, ↓reduceIte, reduceIte, Nat.reduceEqDiff, Nat.reduceAdd, reduceCtorEq, Nat.reduceSub, Int.reduceToNat, Int.reduceLE, Int.reduceLT, Int.reduceNeg, Nat.reduceBEq, Nat.reduceMul, Nat.reduceLeDiff, Nat.reduceMod, UInt8.reduceOfNat, Nat.reduceLT, Int.reduceEq, Int.reduceAdd, Int.reduceSub, Int.reduceMul]
    exact hk
/-- The next line without its line feed; where the reader stands, its fault. -/
def nxC (a : List (List UInt8)) (at_ fa fe : Int) : List UInt8 × Int × Int × Int :=
  if fe = 0 then if (a.length : Int) < at_ + 1 then ([], at_ + 1, at_ + 1, 1) else if (bareS (a.getD at_.toNat [])).2 = true then ((bareS (a.getD at_.toNat [])).1, at_ + 1, fa, 0) else ([], at_ + 1, at_ + 1, 3)
  else ([], at_, fa, fe)
def CNext : Contract := stC fun args st => match args, st with
  | [.ptr 0 0], ⟨1, [(0, .cells t [.d (.sl rows), .d (.v (.int .i64 at_)), .d (.v (.int .i64 fa)), .d (.v (.int .i64 fe))])]⟩ =>
    (unStr rows).map fun a => ((0 ≤ at_ ∧ at_ ≤ 1099511627776 ∧ ∀ s ∈ a, s.length ≤ 1099511627776), .d (.v (.string ⟨(nxC a at_ fa fe).1.toArray⟩)), ⟨1, [(0, rdr t (.sl rows) (nxC a at_ fa fe).2.1 (nxC a at_ fa fe).2.2.1 (nxC a at_ fa fe).2.2.2)]⟩)
  | _, _ => none
set_option maxHeartbeats 1000000 in
theorem s42 : Sound G Tryz.prog 42 CNext := by
  refine sd42 (T := tabT [(43, CFail), (49, CBare)]) (tab_cons s43 (tab_cons s49 tab_nil)) (stC_lawful _) (st_hX fun args st p x st' K h hp hk => ?_)
  split at h <;> simp only [Option.map_eq_some_iff, Prod.mk.injEq, reduceCtorEq] at h
  obtain ⟨a, hl, rfl, rfl, rfl⟩ := h
  rename_i t rows at_ fa fe
  rw [unStr_eq hl] at *
  obtain ⟨h1, h2, h3⟩ := hp
  refine ⟨Nat.le_of_ble_eq_true rfl, [0], ?_⟩
  unfold nxC at hk
  by_cases h0 : fe = 0
  · subst h0
    rw [if_pos rfl] at hk
    by_cases h4 : (a.length : Int) < at_ + 1
    · rw [if_pos h4] at hk
      simp -dsimp -implicitDefEqProofs only [S42, R42, h4, strRows_len, CFail, ↓Ev.xStp_eq, ↓Ev.P, Ev.Q, Bool.cond_true, Bool.cond_false, eq_self, forall_eq_or_imp, implies_true, forall_const, forall_eq, ↓reduceIte, reduceIte, Nat.reduceEqDiff, Nat.reduceAdd, reduceCtorEq, Nat.reduceSub, Int.reduceToNat, Int.reduceLE, Int.reduceLT, Int.reduceNeg, Nat.reduceBEq, Nat.reduceMul, Nat.reduceLeDiff, Nat.reduceMod, UInt8.reduceOfNat, Nat.reduceLT, Int.reduceEq, Int.reduceAdd, Int.reduceSub, Int.reduceMul]
      repeat' (first | with_reducible assumption | refine And.intro ?_ ?_ | intro _)
      all_goals try omega
      all_goals exact hk
    · rw [if_neg h4] at hk
      obtain ⟨k, rfl⟩ := Int.eq_ofNat_of_zero_le h1
      have hg := strRows_get (l := a) (i := k) (by omega)
      have hb := h3 _ (getD_in (l := a) (i := k) (by omega))
      rw [Int.toNat_natCast] at hk
      have e1 : ((k : Int) + 1 - 1).toNat = k := by omega
      generalize a.getD k [] = s at hg hb hk
      cases hbs : (bareS s).2 with
      | true =>
        rw [if_pos hbs] at hk
        simp -dsimp -implicitDefEqProofs only [S42, R42, h4, hg, e1, hbs, strRows_len, CFail, CBare, ↓Ev.xStp_eq, ↓Ev.P, Ev.Q, Bool.cond_true, Bool.cond_false, eq_self, forall_eq_or_imp, implies_true, forall_const, forall_eq, ↓reduceIte, reduceIte, Nat.reduceEqDiff, Nat.reduceAdd, reduceCtorEq, Nat.reduceSub, Int.reduceToNat, Int.reduceLE, Int.reduceLT, Int.reduceNeg, Nat.reduceBEq, Nat.reduceMul, Nat.reduceLeDiff, Nat.reduceMod, UInt8.reduceOfNat, Nat.reduceLT, Int.reduceEq, Int.reduceAdd, Int.reduceSub, Int.reduceMul]
        repeat' (first | with_reducible assumption | refine And.intro ?_ ?_ | intro _)
        all_goals try omega
        all_goals exact hk
      | false =>
        rw [if_neg (by rw [hbs]; decide)] at hk
        simp -dsimp -implicitDefEqProofs only [S42, R42, h4, hg, e1, hbs, strRows_len, CFail, CBare, ↓Ev.xStp_eq, ↓Ev.P, Ev.Q, Bool.cond_true, Bool.cond_false, eq_self, forall_eq_or_imp, implies_true, forall_const, forall_eq, ↓reduceIte, reduceIte, Nat.reduceEqDiff, Nat.reduceAdd, reduceCtorEq, Nat.reduceSub, Int.reduceToNat, Int.reduceLE, Int.reduceLT, Int.reduceNeg, Nat.reduceBEq, Nat.reduceMul, Nat.reduceLeDiff, Nat.reduceMod, UInt8.reduceOfNat, Nat.reduceLT, Int.reduceEq, Int.reduceAdd, Int.reduceSub, Int.reduceMul]
        repeat' (first | with_reducible assumption | refine And.intro ?_ ?_ | intro _)
        all_goals try omega
        all_goals exact hk
  · rw [if_neg h0] at hk
    simp -dsimp -implicitDefEqProofs only [S42, R42, h0, ↓Ev.xStp_eq, ↓Ev.P, Ev.Q, Bool.cond_true, Bool.cond_false, eq_self, forall_eq_or_imp, implies_true, forall_const, forall_eq, ↓reduceIte, reduceIte, Nat.reduceEqDiff, Nat.reduceAdd, reduceCtorEq, Nat.reduceSub, Int.reduceToNat, Int.reduceLE, Int.reduceLT, Int.reduceNeg, Nat.reduceBEq, Nat.reduceMul, Nat.reduceLeDiff, Nat.reduceMod, UInt8.reduceOfNat, Nat.reduceLT, Int.reduceEq, Int.reduceAdd, Int.reduceSub, Int.reduceMul]
    exact hk
/-- A text's reader. -/
def CRdr : Contract := stC fun args st => match args, st with
  | [.d (.v (.string s))], ⟨0, []⟩ => some (s.size ≤ 1099511627776, .ptr 0 0, ⟨1, [(0, if 1048576 < s.size then rdr 77 nilS 0 0 9 else rdr 77 (.sl (strRows (lns s.data.toList))) 0 0 0)]⟩)
  | _, _ => none
set_option maxHeartbeats 1000000 in
theorem s39 : Sound G Tryz.prog 39 CRdr := by
  refine sd39 (T := tabT [(89, CSplit)]) (tab_cons s89 tab_nil) (stC_lawful _) (st_hX fun args st p x st' K h hp hk => ?_)
  split at h <;> simp only [Option.some.injEq, Prod.mk.injEq, reduceCtorEq] at h
  obtain ⟨rfl, rfl, rfl⟩ := h
  rename_i s
  obtain ⟨s, rfl⟩ := ex_str s
  simp only [sem_str] at hp hk
  refine ⟨Nat.le_of_ble_eq_true rfl, [0], ?_⟩
  by_cases h4 : 1048576 < s.length
  · rw [if_pos h4] at hk
    have h5 : (1048576 : Int) < (s.length : Int) := by omega
    simp -dsimp -implicitDefEqProofs only [S39, R39, h5, nilS, CSplit, ↓Ev.xStp_eq, ↓Ev.P, Ev.Q, Bool.cond_true, Bool.cond_false, eq_self, forall_eq_or_imp, implies_true, forall_const, forall_eq, ↓reduceIte, reduceIte, Nat.reduceEqDiff, Nat.reduceAdd, reduceCtorEq, Nat.reduceSub, Int.reduceToNat, Int.reduceLE, Int.reduceLT, Int.reduceNeg, Nat.reduceBEq, Nat.reduceMul, Nat.reduceLeDiff, Nat.reduceMod, UInt8.reduceOfNat, Nat.reduceLT, Int.reduceEq, Int.reduceAdd, Int.reduceSub, Int.reduceMul]
    exact hk
  · rw [if_neg h4] at hk
    have h5 : ¬ (1048576 : Int) < (s.length : Int) := by omega
    simp -dsimp -implicitDefEqProofs only [S39, R39, h5, nilS, CSplit, ↓Ev.xStp_eq, ↓Ev.P, Ev.Q, Bool.cond_true, Bool.cond_false, eq_self, forall_eq_or_imp, implies_true, forall_const, forall_eq, ↓reduceIte, reduceIte, Nat.reduceEqDiff, Nat.reduceAdd, reduceCtorEq, Nat.reduceSub, Int.reduceToNat, Int.reduceLE, Int.reduceLT, Int.reduceNeg, Nat.reduceBEq, Nat.reduceMul, Nat.reduceLeDiff, Nat.reduceMod, UInt8.reduceOfNat, Nat.reduceLT, Int.reduceEq, Int.reduceAdd, Int.reduceSub, Int.reduceMul]
    exact ⟨by omega, hk⟩
end Go.Proofs.YtlghobefhmpfkaaGreatDoor
set_option linter.unusedVariables false
set_option linter.unusedSimpArgs false
namespace Go.Proofs.YtlghobefhmpfkaaGreatDoor
open Go Go.Ev Go.Rcs
set_option maxRecDepth 100000
variable {G : World → Prop}
/-! The machine of the archives' form, in plain words. -/
/-- The command of a line. -/
def cmdOf (s : List UInt8) : Option (UInt8 × Int × Int) := if (bareS s).2 = true then rcmd parseS (bareS s).1 else none
theorem parseS_bd (l : List UInt8) : 0 ≤ (parseS l).1 ∧ (parseS l).1 ≤ 2147483647 := by
  unfold parseS
  repeat' split
  all_goals dsimp only
  all_goals omega
theorem parseS_bl (l : List UInt8) (h : (parseS l).2 = 0) : 32 ∉ l := by
  unfold parseS at h
  repeat' split at h
  all_goals simp at h
  rename_i h1 h2 h3
  intro hm
  have h4 : l.all dig = true := by simpa using h2
  have := List.all_eq_true.1 h4 32 hm
  revert this; decide
theorem parseS_nil : ¬ (parseS []).2 = 0 := by
  simp [parseS, badP]
theorem rdC_cmd (s : List UInt8) : (∀ c, cmdOf s = some c → rdC s = (c, true)) ∧ (cmdOf s = none → (rdC s).2 = false) := by
  unfold cmdOf rdC
  cases hb : (bareS s).2 with
  | false => simp
  | true =>
    simp only [if_true]
    cases (bareS s).1 with
    | nil => simp [rcmd]
    | cons v r =>
      obtain ⟨h1, h2⟩ := rd_eq parseS parseS_bl parseS_nil v r
      by_cases h : rdOk parseS v r
      · rw [h1 h]
        refine ⟨fun c hc => ?_, fun hc => by cases hc⟩
        simp only [Option.some.injEq] at hc
        subst hc
        simp [h]
      · rw [h2 h]
        refine ⟨fun c hc => (by cases hc), fun _ => by simp [h]⟩
theorem cmC_cmd (s : List UInt8) : (∀ c, rcmd parseS s = some c → cmC s = (c, true)) ∧ (rcmd parseS s = none → (cmC s).2 = false) := by
  cases s with
  | nil => simp [rcmd, cmC]
  | cons v r =>
    simp only [rcmd, cmC]
    split
    · cases cutB r with
      | none => simp
      | some pq =>
        obtain ⟨p, q⟩ := pq
        simp only [and_assoc]
        split
        · rename_i h
          refine ⟨fun c hc => ?_, fun hc => by cases hc⟩
          simp only [Option.some.injEq] at hc
          subst hc
          simp [h]
        · rename_i h
          exact ⟨fun c hc => (by cases hc), fun _ => decide_eq_false h⟩
    · simp
theorem rcmd_bd {s : List UInt8} {v : UInt8} {p k : Int} (h : rcmd parseS s = some (v, p, k)) : (v = 97 ∨ v = 100) ∧ 0 ≤ p ∧ p ≤ 2147483647 ∧ 0 < k ∧ k ≤ 2147483647 ∧ (v = 100 → 0 < p) := by
  cases s with
  | nil => simp [rcmd] at h
  | cons w r =>
    simp only [rcmd] at h
    split at h
    · rename_i hv
      split at h
      · cases h
      · rename_i pp qq e
        split at h
        · rename_i hc
          simp only [Option.some.injEq, Prod.mk.injEq] at h
          obtain ⟨rfl, rfl, rfl⟩ := h
          have b1 := parseS_bd pp
          have b2 := parseS_bd qq
          refine ⟨hv, b1.1, b1.2, hc.2.2.1, b2.2, fun e => ?_⟩
          rcases hc.2.2.2 with h | h
          · rw [h] at e; cases e
          · exact h
        · cases h
    · cases h
theorem cmd_bd {s : List UInt8} {v : UInt8} {p k : Int} (h : cmdOf s = some (v, p, k)) : (v = 97 ∨ v = 100) ∧ 0 ≤ p ∧ p ≤ 2147483647 ∧ 0 < k ∧ k ≤ 2147483647 ∧ (v = 100 → 0 < p) := by
  unfold cmdOf at h
  split at h
  · exact rcmd_bd h
  · cases h
abbrev Ans := List (List UInt8) × Int × Int
/-- The answer behind the last command. -/
def rcsEnd (L a out : List (List UInt8)) (done : Nat) : Ans :=
  if okUp (out ++ a.drop done).length (out ++ a.drop done) = true then (out ++ a.drop done, 0, 0) else ([], L.length + 1, 6)
/-- Some lines. -/
def seg (l : List (List UInt8)) (i j : Nat) : List (List UInt8) := (l.take j).drop i
/-- The answer from a line on. -/
def rcsGo (L a : List (List UInt8)) : Nat → Nat → List (List UInt8) → Nat → Int → Ans
  | 0, _, out, done, _ => rcsEnd L a out done
  | n + 1, i, out, done, put =>
    match cmdOf (L.getD i []) with
    | none => ([], i + 1, 3)
    | some (v, p, k) =>
      if alw v p k a.length done put ≠ 0 then ([], i + 1, alw v p k a.length done put)
      else if v = 100 then rcsGo L a n (i + 1) (out ++ seg a done (p - 1).toNat) (p - 1 + k).toNat put
      else if (L.length : Int) - 1 - i < k then ([], L.length + 1, 1)
      else rcsGo L a (n - k.toNat) (i + 1 + k.toNat) (out ++ seg a done p.toNat ++ seg L (i + 1) (i + 1 + k.toNat)) p.toNat p
def rcsRun (s : List UInt8) (a : List (List UInt8)) : Ans := if 1048576 < s.length then ([], 0, 9) else rcsGo (lns s) a (lns s).length 0 [] 0 (-1)
theorem alw_ok {v : UInt8} {p k la done put : Int} (hv : v = 97 ∨ v = 100) (h : alw v p k la done put = 0) : (v = 100 → done ≤ p - 1 ∧ p - 1 + k ≤ la) ∧ (v = 97 → done ≤ p ∧ p ≤ la) := by
  unfold alw at h
  refine ⟨fun e => ?_, fun e => ?_⟩
  · rw [if_pos e] at h
    split at h
    · cases h
    · split at h
      · cases h
      · rename_i h1 h2
        simp only [not_or] at h2
        omega
  · rw [if_neg (by rw [e]; decide)] at h
    split at h
    · cases h
    · split at h
      · cases h
      · rename_i h1 h2
        simp only [not_or] at h1
        omega
def fltV (at_ e : Int) : D := .ifc 79 (.pt [.v (.int .i64 at_), .ifc 27 (.v (.int .i64 e))])
/-- What a run leaves: lines, or what is wrong. -/
def runR (y : Ans) : SV × Store := if y.2.2 = 0 then (.tup [.own 0, .d (.v .nilIface)], ⟨1, [(0, .row 9 1 (strRows y.1))]⟩) else (.tup [.d (.sl []), .d (fltV y.2.1 y.2.2)], ⟨0, []⟩)
theorem runR0 (l : List (List UInt8)) (p : Int) : runR (l, p, 0) = (.tup [.own 0, .d (.v .nilIface)], ⟨1, [(0, .row 9 1 (strRows l))]⟩) := rfl
theorem runRe (l : List (List UInt8)) (p e : Int) (h : ¬ e = 0) : runR (l, p, e) = (.tup [.d (.sl []), .d (fltV p e)], ⟨0, []⟩) := if_neg h
def CFlt : Contract := pureC fun args => match args with
  | [.d (.v (.int .i64 at_)), .d (.v (.int .i64 e))] => some (True, .d (fltV at_ e))
  | _ => none
theorem s33 : Sound G Tryz.prog 33 CFlt := by
  refine sd33 (T := tabT []) tab_nil (pureC_lawful _) (pure_hX fun args p x K h hp hk => ?_)
  split at h <;> simp only [Option.some.injEq, Prod.mk.injEq, reduceCtorEq] at h
  obtain ⟨rfl, rfl⟩ := h
  refine ⟨Nat.le_of_ble_eq_true rfl, ?_⟩
  unfold fltV at hk
  simp -dsimp -implicitDefEqProofs only [S33, R33, ↓Ev.xStp_eq, ↓Ev.P, Ev.Q, Bool.cond_true, Bool.cond_false, eq_self, forall_eq_or_imp, implies_true, forall_const, forall_eq, ↓reduceIte, reduceIte, Nat.reduceEqDiff, Nat.reduceAdd, reduceCtorEq, Nat.reduceSub, Int.reduceToNat, Int.reduceLE, Int.reduceLT, Int.reduceNeg, Nat.reduceBEq, Nat.reduceMul, Nat.reduceLeDiff, Nat.reduceMod, UInt8.reduceOfNat, Nat.reduceLT, Int.reduceEq, Int.reduceAdd, Int.reduceSub, Int.reduceMul]
  exact hk
theorem strRows_app (a b : List (List UInt8)) : strRows a ++ strRows b = strRows (a ++ b) := by simp [strRows]
theorem seg_mem {l : List (List UInt8)} {i j : Nat} {s : List UInt8} (h : s ∈ seg l i j) : s ∈ l := List.mem_of_mem_take (List.mem_of_mem_drop h)
theorem seg_len {l : List (List UInt8)} {i j : Nat} (h1 : i ≤ j) (h2 : j ≤ l.length) : (seg l i j).length = j - i := by unfold seg; rw [List.length_drop, List.length_take]; omega
end Go.Proofs.YtlghobefhmpfkaaGreatDoor
set_option linter.unusedVariables false
set_option linter.unusedSimpArgs false
namespace Go.Proofs.YtlghobefhmpfkaaGreatDoor
open Go Go.Ev Go.Rcs
set_option maxRecDepth 100000
variable {G : World → Prop}
def CRun : Contract := stC fun args st => match args, st with
  | [.d (.v (.string s)), .d (.sl rows)], ⟨0, []⟩ => (unStr rows).map fun a => ((s.size ≤ 1099511627776 ∧ a.length ≤ 1073741824 ∧ ∀ x ∈ a, x.length ≤ 1099511627776), runR (rcsRun s.data.toList a))
  | _, _ => none
abbrev rcsTab : List (FuncId × Contract) := [(33, CFlt), (34, CSplit), (35, CRead), (36, CAlw), (37, CKeep), (38, CLns)]
theorem lns_sz (s : List UInt8) (h : s.length ≤ 1048576) : (lns s).length ≤ 1048576 ∧ ∀ x ∈ lns s, x.length ≤ 1099511627776 := by
  refine ⟨Nat.le_trans (lns_len s) h, fun x hx => ?_⟩
  have h2 : x.length ≤ (lns s).flatten.length := by
    obtain ⟨a, b, e⟩ := List.append_of_mem hx
    rw [e]; simp; omega
  rw [lns_flat] at h2
  omega
set_option maxHeartbeats 16000000 in
theorem runS0 {s : List UInt8} {a L : List (List UInt8)} {Y : Ans} {K : Out → Store → Prop} (h4 : s.length ≤ 1048576) (ha : a.length ≤ 1073741824) (hA : ∀ x ∈ a, x.length ≤ 1099511627776) (hLs : lns s = L) (hLl : L.length ≤ 1048576) (hL : ∀ x ∈ L, x.length ≤ 1099511627776) (hY : rcsGo L a L.length 0 [] 0 (-1) = Y) (hz : Y.2.2 = 0) (hL0 : L.length = 0) (hk : K (.ret (.tup [.own 0, .d (.v .nilIface)])) ⟨1, [(0, .row 9 1 (strRows Y.1))]⟩) :
  xv (tabT rcsTab) 0 S11 (st0 [.d (.v (.string ⟨s.toArray⟩)), .d (.sl (strRows a))] ⟨0, []⟩) (retK R11 0 [1] K) (panK 0 [] K) := by
  have h5 : ¬ (1048576 : Int) < (s.length : Int) := by omega
  simp -dsimp -implicitDefEqProofs only [S11, S11_0, S11r1, S11_1, S11r2, S11_2, S11r3, S11_3, S11r4, S11_4, S11r5, S11_5, S11r6, S11_6, S11r7, S11_7, S11r8, R11, CSplit, CFlt, h5, hLs, ↓Ev.xStp_eq, ↓Ev.P, Ev.Q, Bool.cond_true, Bool.cond_false, eq_self, forall_eq_or_imp, implies_true, forall_const, forall_eq, ↓reduceIte, reduceIte, Nat.reduceEqDiff, Nat.reduceAdd, reduceCtorEq, Nat.reduceSub, Int.reduceToNat, Int.reduceLE, Int.reduceLT, Int.reduceNeg, Nat.reduceBEq, Nat.reduceMul, Nat.reduceLeDiff, Nat.reduceMod, UInt8.reduceOfNat, Nat.reduceLT, Int.reduceEq, Int.reduceAdd, Int.reduceSub, Int.reduceMul]
  repeat' (first | with_reducible assumption | refine And.intro ?_ ?_ | intro _)
  all_goals try omega
  refine xLoop_intro (fun n st => ∃ (i : Nat) (out : List (List UInt8)) (done put : Int), i ≤ L.length ∧ n = L.length - i ∧ 0 ≤ done ∧ done ≤ a.length ∧ (out.length : Int) ≤ done + i ∧ (∀ x ∈ out, x.length ≤ 1099511627776) ∧ rcsGo L a (L.length - i) i out done.toNat put = Y ∧
      (out = [] ∧ done = 0 ∧ st = ⟨[(1, .d (.sl (strRows a))), (6, .d (.sl (strRows L))), (7, .ptr 0 0), (8, .d (.v (.int .i64 i)))], 1, [(0, .cells 63 [.d (.sl (strRows a)), .d (.v (.slice none 0 0)), .d (.v (.int .i64 done)), .d (.v (.int .i64 put))])]⟩)) L.length [0] ?_ ?_ ?_
  · simp -dsimp -implicitDefEqProofs only [↓Ev.xStp_eq, ↓Ev.P, Ev.Q, Bool.cond_true, Bool.cond_false, eq_self, forall_eq_or_imp, implies_true, forall_const, forall_eq, ↓reduceIte, reduceIte, Nat.reduceEqDiff, Nat.reduceAdd, reduceCtorEq, Nat.reduceSub, Int.reduceToNat, Int.reduceLE, Int.reduceLT, Int.reduceNeg, Nat.reduceBEq, Nat.reduceMul, Nat.reduceLeDiff, Nat.reduceMod, UInt8.reduceOfNat, Nat.reduceLT, Int.reduceEq, Int.reduceAdd, Int.reduceSub, Int.reduceMul]
  · simp -dsimp -implicitDefEqProofs only [↓Ev.xStp_eq, ↓Ev.P, Ev.Q, Bool.cond_true, Bool.cond_false, eq_self, forall_eq_or_imp, implies_true, forall_const, forall_eq, ↓reduceIte, reduceIte, Nat.reduceEqDiff, Nat.reduceAdd, reduceCtorEq, Nat.reduceSub, Int.reduceToNat, Int.reduceLE, Int.reduceLT, Int.reduceNeg, Nat.reduceBEq, Nat.reduceMul, Nat.reduceLeDiff, Nat.reduceMod, UInt8.reduceOfNat, Nat.reduceLT, Int.reduceEq, Int.reduceAdd, Int.reduceSub, Int.reduceMul]
    exact ⟨0, [], 0, -1, by omega, by omega, by omega, by omega, by simp, by simp, hY, rfl, rfl, rfl⟩
  · rintro n st ⟨i, out, done, put, hi, hn, hd0, hd3, hol, ho, hgo, hA1, hA2, rfl⟩
    have hi3 : ¬ (i : Int) < L.length := by omega
    rw [show L.length - i = 0 by omega, rcsGo, rcsEnd] at hgo
    obtain ⟨done, rfl⟩ := Int.eq_ofNat_of_zero_le hd0
    rw [Int.toNat_natCast] at hgo
    have hdl : done ≤ a.length := by omega
    have e4 : (a.take a.length).drop done = a.drop done := by rw [List.take_length]
    have hsl : (a.drop done).length = a.length - done := List.length_drop
    have hmem : ∀ x ∈ out ++ a.drop done, x.length ≤ 1099511627776 := by
      intro x hx; rcases List.mem_append.1 hx with hx | hx
      · rw [hA1] at hx; cases hx
      · exact hA x (List.mem_of_mem_drop hx)
    rw [hA1, List.nil_append] at hgo hmem
    have hlen : (a.drop done).length ≤ 1099511627776 := by omega
    by_cases hok : okUp (a.drop done).length (a.drop done) = true
    · rw [if_pos hok] at hgo
      subst hgo
      simp -dsimp -implicitDefEqProofs only [hi3, e4, hok, CLns, fltV, CRead, CAlw, CKeep, CFlt, strRows_len, strRows_sub, strRows_all, strRows_app, unStr_rows, UInt8.ofNat_toNat, Ev.St.giveC, ↓Ev.P, Ev.Q, Bool.cond_true, Bool.cond_false, eq_self, forall_eq_or_imp, implies_true, forall_const, forall_eq, ↓reduceIte, reduceIte, Nat.reduceEqDiff, Nat.reduceAdd, reduceCtorEq, Nat.reduceSub, Int.reduceToNat, Int.reduceLE, Int.reduceLT, Int.reduceNeg, Nat.reduceBEq, Nat.reduceMul, Nat.reduceLeDiff, Nat.reduceMod, UInt8.reduceOfNat, Nat.reduceLT, Int.reduceEq, Int.reduceAdd, Int.reduceSub, Int.reduceMul]
      repeat' (first | with_reducible assumption | refine And.intro ?_ ?_ | intro _ | (rw [Ev.xStp_eq]; simp -dsimp -implicitDefEqProofs only [hi3, e4, hok, CLns, fltV, CRead, CAlw, CKeep, CFlt, strRows_len, strRows_sub, strRows_all, strRows_app, unStr_rows, UInt8.ofNat_toNat, Ev.St.giveC, ↓Ev.P, Ev.Q, Bool.cond_true, Bool.cond_false, eq_self, forall_eq_or_imp, implies_true, forall_const, forall_eq, ↓reduceIte, reduceIte, Nat.reduceEqDiff, Nat.reduceAdd, reduceCtorEq, Nat.reduceSub, Int.reduceToNat, Int.reduceLE, Int.reduceLT, Int.reduceNeg, Nat.reduceBEq, Nat.reduceMul, Nat.reduceLeDiff, Nat.reduceMod, UInt8.reduceOfNat, Nat.reduceLT, Int.reduceEq, Int.reduceAdd, Int.reduceSub, Int.reduceMul]))
      all_goals try omega
      all_goals first | exact hk | exact hmem | exact hlen | trace_state
    · rw [if_neg hok] at hgo
      subst hgo; simp at hz
set_option maxHeartbeats 16000000 in
theorem runS1 {s : List UInt8} {a L : List (List UInt8)} {Y : Ans} {K : Out → Store → Prop} (h4 : s.length ≤ 1048576) (ha : a.length ≤ 1073741824) (hA : ∀ x ∈ a, x.length ≤ 1099511627776) (hLs : lns s = L) (hLl : L.length ≤ 1048576) (hL : ∀ x ∈ L, x.length ≤ 1099511627776) (hY : rcsGo L a L.length 0 [] 0 (-1) = Y) (hz : Y.2.2 = 0) (hL0 : 0 < L.length) (hk : K (.ret (.tup [.own 0, .d (.v .nilIface)])) ⟨1, [(0, .row 9 1 (strRows Y.1))]⟩) :
  xv (tabT rcsTab) 0 S11 (st0 [.d (.v (.string ⟨s.toArray⟩)), .d (.sl (strRows a))] ⟨0, []⟩) (retK R11 0 [2] K) (panK 0 [] K) := by
  have h5 : ¬ (1048576 : Int) < (s.length : Int) := by omega
  simp -dsimp -implicitDefEqProofs only [S11, S11_0, S11r1, S11_1, S11r2, S11_2, S11r3, S11_3, S11r4, S11_4, S11r5, S11_5, S11r6, S11_6, S11r7, S11_7, S11r8, R11, CSplit, CFlt, h5, hLs, ↓Ev.xStp_eq, ↓Ev.P, Ev.Q, Bool.cond_true, Bool.cond_false, eq_self, forall_eq_or_imp, implies_true, forall_const, forall_eq, ↓reduceIte, reduceIte, Nat.reduceEqDiff, Nat.reduceAdd, reduceCtorEq, Nat.reduceSub, Int.reduceToNat, Int.reduceLE, Int.reduceLT, Int.reduceNeg, Nat.reduceBEq, Nat.reduceMul, Nat.reduceLeDiff, Nat.reduceMod, UInt8.reduceOfNat, Nat.reduceLT, Int.reduceEq, Int.reduceAdd, Int.reduceSub, Int.reduceMul]
  repeat' (first | with_reducible assumption | refine And.intro ?_ ?_ | intro _)
  all_goals try omega
  refine xLoop_intro (fun n st => ∃ (i : Nat) (out : List (List UInt8)) (done put : Int), i ≤ L.length ∧ n = L.length - i ∧ 0 ≤ done ∧ done ≤ a.length ∧ (out.length : Int) ≤ done + i ∧ (∀ x ∈ out, x.length ≤ 1099511627776) ∧ rcsGo L a (L.length - i) i out done.toNat put = Y ∧
      ((i = 0 ∧ out = [] ∧ done = 0 ∧ st = ⟨[(1, .d (.sl (strRows a))), (6, .d (.sl (strRows L))), (7, .ptr 0 0), (8, .d (.v (.int .i64 i)))], 1, [(0, .cells 63 [.d (.sl (strRows a)), .d (.v (.slice none 0 0)), .d (.v (.int .i64 done)), .d (.v (.int .i64 put))])]⟩) ∨ st = ⟨[(1, .d (.sl (strRows a))), (6, .d (.sl (strRows L))), (7, .ptr 0 0), (8, .d (.v (.int .i64 i)))], 2, [(0, .cells 63 [.d (.sl (strRows a)), .own 1, .d (.v (.int .i64 done)), .d (.v (.int .i64 put))]), (1, .row 9 1 (strRows out))]⟩)) L.length [0] ?_ ?_ ?_
  · simp -dsimp -implicitDefEqProofs only [↓Ev.xStp_eq, ↓Ev.P, Ev.Q, Bool.cond_true, Bool.cond_false, eq_self, forall_eq_or_imp, implies_true, forall_const, forall_eq, ↓reduceIte, reduceIte, Nat.reduceEqDiff, Nat.reduceAdd, reduceCtorEq, Nat.reduceSub, Int.reduceToNat, Int.reduceLE, Int.reduceLT, Int.reduceNeg, Nat.reduceBEq, Nat.reduceMul, Nat.reduceLeDiff, Nat.reduceMod, UInt8.reduceOfNat, Nat.reduceLT, Int.reduceEq, Int.reduceAdd, Int.reduceSub, Int.reduceMul]
  · simp -dsimp -implicitDefEqProofs only [↓Ev.xStp_eq, ↓Ev.P, Ev.Q, Bool.cond_true, Bool.cond_false, eq_self, forall_eq_or_imp, implies_true, forall_const, forall_eq, ↓reduceIte, reduceIte, Nat.reduceEqDiff, Nat.reduceAdd, reduceCtorEq, Nat.reduceSub, Int.reduceToNat, Int.reduceLE, Int.reduceLT, Int.reduceNeg, Nat.reduceBEq, Nat.reduceMul, Nat.reduceLeDiff, Nat.reduceMod, UInt8.reduceOfNat, Nat.reduceLT, Int.reduceEq, Int.reduceAdd, Int.reduceSub, Int.reduceMul]
    exact ⟨0, [], 0, -1, by omega, by omega, by omega, by omega, by simp, by simp, hY, .inl ⟨rfl, rfl, rfl, rfl⟩⟩
  · rintro n st ⟨i, out, done, put, hi, hn, hd0, hd3, hol, ho, hgo, ⟨hA0, hA1, hA2, rfl⟩ | rfl⟩
    · by_cases hil : i < L.length
      · have _t := trivial
        subst hA1
        have hi3 : (i : Int) < L.length := by omega
        have hg := strRows_get hil
        have hsz := hL _ (getD_in hil)
        obtain ⟨m, hm⟩ : ∃ m, L.length - i = m + 1 := ⟨L.length - i - 1, by omega⟩
        rw [hm, rcsGo] at hgo
        obtain ⟨hr1, hr2⟩ := rdC_cmd (L.getD i [])
        have hbd : ∀ v p k, cmdOf (L.getD i []) = some (v, p, k) → _ := fun v p k h => cmd_bd h
        generalize L.getD i [] = s at hg hsz hgo hr1 hr2 hbd
        obtain ⟨done, rfl⟩ := Int.eq_ofNat_of_zero_le hd0
        rw [Int.toNat_natCast] at hgo
        simp only [List.nil_append] at hgo
        cases hc : cmdOf s with
        | none =>
          rw [hc] at hgo; dsimp only at hgo; subst hgo; simp at hz
        | some c =>
          obtain ⟨v, p, k⟩ := c
          have hrd := hr1 _ hc
          rw [hc] at hgo
          obtain ⟨hv, p0, p1, k0, k1, vp⟩ := hbd _ _ _ hc
          clear hr1 hr2 hbd hc
          dsimp only at hgo
          obtain ⟨p, rfl⟩ := Int.eq_ofNat_of_zero_le p0
          obtain ⟨k, rfl⟩ := Int.eq_ofNat_of_zero_le (Int.le_of_lt k0)
          have hip : inI p := ⟨by omega, by omega⟩
          have hik : inI k := ⟨by omega, by omega⟩
          have h255 : 0 ≤ (v.toNat : Int) ∧ (v.toNat : Int) < 256 := ⟨by omega, by have := v.toNat_lt; omega⟩
          by_cases hal : alw v p k a.length done put = 0
          · rw [if_neg (fun h => h hal)] at hgo
            obtain ⟨ha1, ha2⟩ := alw_ok hv hal
            by_cases hv1 : v = 100
            · have hvd : ((v.toNat : Int) = 100) = True := (show ((v.toNat : Int) = 100) = (v = 100) from u8_k v 100 (by decide)).trans (eq_true hv1)
              have e5 : ((p : Int) - 1).toNat = p - 1 := by omega
              rw [if_pos hv1, e5] at hgo
              obtain ⟨hd1, hd2⟩ := ha1 hv1
              have hp0 := vp hv1
              have hsl : (seg a done (p - 1)).length ≤ p := by rw [seg_len (by omega) (by omega)]; omega
              simp -dsimp -implicitDefEqProofs only [hg, hi3, hrd, hal, hvd, e5, fltV, CRead, CAlw, CKeep, CFlt, strRows_len, strRows_sub, strRows_all, strRows_app, unStr_rows, UInt8.ofNat_toNat, Ev.St.giveC, ↓Ev.P, Ev.Q, Bool.cond_true, Bool.cond_false, eq_self, forall_eq_or_imp, implies_true, forall_const, forall_eq, ↓reduceIte, reduceIte, Nat.reduceEqDiff, Nat.reduceAdd, reduceCtorEq, Nat.reduceSub, Int.reduceToNat, Int.reduceLE, Int.reduceLT, Int.reduceNeg, Nat.reduceBEq, Nat.reduceMul, Nat.reduceLeDiff, Nat.reduceMod, UInt8.reduceOfNat, Nat.reduceLT, Int.reduceEq, Int.reduceAdd, Int.reduceSub, Int.reduceMul]
              repeat' (first | with_reducible assumption | refine And.intro ?_ ?_ | intro _ | (rw [Ev.xStp_eq]; simp -dsimp -implicitDefEqProofs only [hg, hi3, hrd, hal, hvd, e5, fltV, CRead, CAlw, CKeep, CFlt, strRows_len, strRows_sub, strRows_all, strRows_app, unStr_rows, UInt8.ofNat_toNat, Ev.St.giveC, ↓Ev.P, Ev.Q, Bool.cond_true, Bool.cond_false, eq_self, forall_eq_or_imp, implies_true, forall_const, forall_eq, ↓reduceIte, reduceIte, Nat.reduceEqDiff, Nat.reduceAdd, reduceCtorEq, Nat.reduceSub, Int.reduceToNat, Int.reduceLE, Int.reduceLT, Int.reduceNeg, Nat.reduceBEq, Nat.reduceMul, Nat.reduceLeDiff, Nat.reduceMod, UInt8.reduceOfNat, Nat.reduceLT, Int.reduceEq, Int.reduceAdd, Int.reduceSub, Int.reduceMul]))
              all_goals try omega
              refine xAgain_intro (L.length - (i + 1)) [0, 2] (by omega) (by simp -dsimp -implicitDefEqProofs only [↓Ev.xStp_eq, ↓Ev.P, Ev.Q, Bool.cond_true, Bool.cond_false, eq_self, forall_eq_or_imp, implies_true, forall_const, forall_eq, ↓reduceIte, reduceIte, Nat.reduceEqDiff, Nat.reduceAdd, reduceCtorEq, Nat.reduceSub, Int.reduceToNat, Int.reduceLE, Int.reduceLT, Int.reduceNeg, Nat.reduceBEq, Nat.reduceMul, Nat.reduceLeDiff, Nat.reduceMod, UInt8.reduceOfNat, Nat.reduceLT, Int.reduceEq, Int.reduceAdd, Int.reduceSub, Int.reduceMul]) ⟨i + 1, seg a done (p - 1), (p : Int) - 1 + k, put, by omega, rfl, by omega, by omega, by rw [seg_len (by omega) (by omega)]; omega, ?_, ?_, ?_⟩
              · exact fun x hx => hA x (seg_mem hx)
              · rw [show L.length - (i + 1) = m by omega]; exact hgo
              · refine .inr ?_
                simp -dsimp -implicitDefEqProofs only [↓Ev.xStp_eq, ↓Ev.P, Ev.Q, Bool.cond_true, Bool.cond_false, eq_self, forall_eq_or_imp, implies_true, forall_const, forall_eq, ↓reduceIte, reduceIte, Nat.reduceEqDiff, Nat.reduceAdd, reduceCtorEq, Nat.reduceSub, Int.reduceToNat, Int.reduceLE, Int.reduceLT, Int.reduceNeg, Nat.reduceBEq, Nat.reduceMul, Nat.reduceLeDiff, Nat.reduceMod, UInt8.reduceOfNat, Nat.reduceLT, Int.reduceEq, Int.reduceAdd, Int.reduceSub, Int.reduceMul]
                rfl
            · have hv2 : v = 97 := hv.resolve_right hv1
              have hvd : ((v.toNat : Int) = 100) = False := (show ((v.toNat : Int) = 100) = (v = 100) from u8_k v 100 (by decide)).trans (eq_false hv1)
              rw [if_neg hv1] at hgo
              obtain ⟨hd1, hd2⟩ := ha2 hv2
              by_cases hsh : (L.length : Int) - 1 - i < k
              · rw [if_pos hsh] at hgo
                subst hgo; simp at hz
              · rw [if_neg hsh, Int.toNat_natCast, Int.toNat_natCast] at hgo
                have e1 : ((i : Int) + 1 + (k : Int)).toNat = i + 1 + k := by omega
                have e2 : ((i : Int) + 1).toNat = i + 1 := by omega
                have e3 : (i : Int) + (k : Int) + 1 = ((i + 1 + k : Nat) : Int) := by omega
                have hs1 : (seg a done p).length = p - done := seg_len (by omega) (by omega)
                have hs2 : (seg L (i + 1) (i + 1 + k)).length = k := by rw [seg_len (by omega) (by omega)]; omega
                unfold seg at hs1 hs2
                simp -dsimp -implicitDefEqProofs only [hg, hi3, hrd, hal, hvd, hsh, e1, e2, e3, hs1, hs2, List.length_append, fltV, CRead, CAlw, CKeep, CFlt, strRows_len, strRows_sub, strRows_all, strRows_app, unStr_rows, UInt8.ofNat_toNat, Ev.St.giveC, ↓Ev.P, Ev.Q, Bool.cond_true, Bool.cond_false, eq_self, forall_eq_or_imp, implies_true, forall_const, forall_eq, ↓reduceIte, reduceIte, Nat.reduceEqDiff, Nat.reduceAdd, reduceCtorEq, Nat.reduceSub, Int.reduceToNat, Int.reduceLE, Int.reduceLT, Int.reduceNeg, Nat.reduceBEq, Nat.reduceMul, Nat.reduceLeDiff, Nat.reduceMod, UInt8.reduceOfNat, Nat.reduceLT, Int.reduceEq, Int.reduceAdd, Int.reduceSub, Int.reduceMul]
                repeat' (first | with_reducible assumption | refine And.intro ?_ ?_ | intro _ | (rw [Ev.xStp_eq]; simp -dsimp -implicitDefEqProofs only [hg, hi3, hrd, hal, hvd, hsh, e1, e2, e3, hs1, hs2, List.length_append, fltV, CRead, CAlw, CKeep, CFlt, strRows_len, strRows_sub, strRows_all, strRows_app, unStr_rows, UInt8.ofNat_toNat, Ev.St.giveC, ↓Ev.P, Ev.Q, Bool.cond_true, Bool.cond_false, eq_self, forall_eq_or_imp, implies_true, forall_const, forall_eq, ↓reduceIte, reduceIte, Nat.reduceEqDiff, Nat.reduceAdd, reduceCtorEq, Nat.reduceSub, Int.reduceToNat, Int.reduceLE, Int.reduceLT, Int.reduceNeg, Nat.reduceBEq, Nat.reduceMul, Nat.reduceLeDiff, Nat.reduceMod, UInt8.reduceOfNat, Nat.reduceLT, Int.reduceEq, Int.reduceAdd, Int.reduceSub, Int.reduceMul]))
                all_goals try omega
                refine xAgain_intro (L.length - (i + 1 + k)) [0, 3] (by omega) (by simp -dsimp -implicitDefEqProofs only [↓Ev.xStp_eq, ↓Ev.P, Ev.Q, Bool.cond_true, Bool.cond_false, eq_self, forall_eq_or_imp, implies_true, forall_const, forall_eq, ↓reduceIte, reduceIte, Nat.reduceEqDiff, Nat.reduceAdd, reduceCtorEq, Nat.reduceSub, Int.reduceToNat, Int.reduceLE, Int.reduceLT, Int.reduceNeg, Nat.reduceBEq, Nat.reduceMul, Nat.reduceLeDiff, Nat.reduceMod, UInt8.reduceOfNat, Nat.reduceLT, Int.reduceEq, Int.reduceAdd, Int.reduceSub, Int.reduceMul]) ⟨i + 1 + k, seg a done p ++ seg L (i + 1) (i + 1 + k), p, p, by omega, rfl, by omega, by omega, ?_, ?_, ?_, ?_⟩
                · unfold seg; rw [List.length_append, hs1, hs2]; omega
                · intro x hx; rcases List.mem_append.1 hx with hx | hx
                  · exact hA x (seg_mem hx)
                  · exact hL x (seg_mem hx)
                · rw [show L.length - (i + 1 + k) = m - k by omega, Int.toNat_natCast]; exact hgo
                · refine .inr ?_
                  simp -dsimp -implicitDefEqProofs only [↓Ev.xStp_eq, ↓Ev.P, Ev.Q, Bool.cond_true, Bool.cond_false, eq_self, forall_eq_or_imp, implies_true, forall_const, forall_eq, ↓reduceIte, reduceIte, Nat.reduceEqDiff, Nat.reduceAdd, reduceCtorEq, Nat.reduceSub, Int.reduceToNat, Int.reduceLE, Int.reduceLT, Int.reduceNeg, Nat.reduceBEq, Nat.reduceMul, Nat.reduceLeDiff, Nat.reduceMod, UInt8.reduceOfNat, Nat.reduceLT, Int.reduceEq, Int.reduceAdd, Int.reduceSub, Int.reduceMul]
                  rfl
          · rw [if_pos hal] at hgo
            subst hgo; exact absurd hz hal
      · have _t := trivial
        exact absurd (by omega) hil
    · by_cases hil : i < L.length
      · have _t := trivial
        have hi3 : (i : Int) < L.length := by omega
        have hg := strRows_get hil
        have hsz := hL _ (getD_in hil)
        obtain ⟨m, hm⟩ : ∃ m, L.length - i = m + 1 := ⟨L.length - i - 1, by omega⟩
        rw [hm, rcsGo] at hgo
        obtain ⟨hr1, hr2⟩ := rdC_cmd (L.getD i [])
        have hbd : ∀ v p k, cmdOf (L.getD i []) = some (v, p, k) → _ := fun v p k h => cmd_bd h
        generalize L.getD i [] = s at hg hsz hgo hr1 hr2 hbd
        obtain ⟨done, rfl⟩ := Int.eq_ofNat_of_zero_le hd0
        rw [Int.toNat_natCast] at hgo
        cases hc : cmdOf s with
        | none =>
          rw [hc] at hgo; dsimp only at hgo; subst hgo; simp at hz
        | some c =>
          obtain ⟨v, p, k⟩ := c
          have hrd := hr1 _ hc
          rw [hc] at hgo
          obtain ⟨hv, p0, p1, k0, k1, vp⟩ := hbd _ _ _ hc
          clear hr1 hr2 hbd hc
          dsimp only at hgo
          obtain ⟨p, rfl⟩ := Int.eq_ofNat_of_zero_le p0
          obtain ⟨k, rfl⟩ := Int.eq_ofNat_of_zero_le (Int.le_of_lt k0)
          have hip : inI p := ⟨by omega, by omega⟩
          have hik : inI k := ⟨by omega, by omega⟩
          have h255 : 0 ≤ (v.toNat : Int) ∧ (v.toNat : Int) < 256 := ⟨by omega, by have := v.toNat_lt; omega⟩
          by_cases hal : alw v p k a.length done put = 0
          · rw [if_neg (fun h => h hal)] at hgo
            obtain ⟨ha1, ha2⟩ := alw_ok hv hal
            by_cases hv1 : v = 100
            · have hvd : ((v.toNat : Int) = 100) = True := (show ((v.toNat : Int) = 100) = (v = 100) from u8_k v 100 (by decide)).trans (eq_true hv1)
              have e5 : ((p : Int) - 1).toNat = p - 1 := by omega
              rw [if_pos hv1, e5] at hgo
              obtain ⟨hd1, hd2⟩ := ha1 hv1
              have hp0 := vp hv1
              have hsl : (seg a done (p - 1)).length ≤ p := by rw [seg_len (by omega) (by omega)]; omega
              simp -dsimp -implicitDefEqProofs only [hg, hi3, hrd, hal, hvd, e5, fltV, CRead, CAlw, CKeep, CFlt, strRows_len, strRows_sub, strRows_all, strRows_app, unStr_rows, UInt8.ofNat_toNat, Ev.St.giveC, ↓Ev.P, Ev.Q, Bool.cond_true, Bool.cond_false, eq_self, forall_eq_or_imp, implies_true, forall_const, forall_eq, ↓reduceIte, reduceIte, Nat.reduceEqDiff, Nat.reduceAdd, reduceCtorEq, Nat.reduceSub, Int.reduceToNat, Int.reduceLE, Int.reduceLT, Int.reduceNeg, Nat.reduceBEq, Nat.reduceMul, Nat.reduceLeDiff, Nat.reduceMod, UInt8.reduceOfNat, Nat.reduceLT, Int.reduceEq, Int.reduceAdd, Int.reduceSub, Int.reduceMul]
              repeat' (first | with_reducible assumption | refine And.intro ?_ ?_ | intro _ | (rw [Ev.xStp_eq]; simp -dsimp -implicitDefEqProofs only [hg, hi3, hrd, hal, hvd, e5, fltV, CRead, CAlw, CKeep, CFlt, strRows_len, strRows_sub, strRows_all, strRows_app, unStr_rows, UInt8.ofNat_toNat, Ev.St.giveC, ↓Ev.P, Ev.Q, Bool.cond_true, Bool.cond_false, eq_self, forall_eq_or_imp, implies_true, forall_const, forall_eq, ↓reduceIte, reduceIte, Nat.reduceEqDiff, Nat.reduceAdd, reduceCtorEq, Nat.reduceSub, Int.reduceToNat, Int.reduceLE, Int.reduceLT, Int.reduceNeg, Nat.reduceBEq, Nat.reduceMul, Nat.reduceLeDiff, Nat.reduceMod, UInt8.reduceOfNat, Nat.reduceLT, Int.reduceEq, Int.reduceAdd, Int.reduceSub, Int.reduceMul]))
              all_goals try omega
              refine xAgain_intro (L.length - (i + 1)) [0, 3] (by omega) (by simp -dsimp -implicitDefEqProofs only [↓Ev.xStp_eq, ↓Ev.P, Ev.Q, Bool.cond_true, Bool.cond_false, eq_self, forall_eq_or_imp, implies_true, forall_const, forall_eq, ↓reduceIte, reduceIte, Nat.reduceEqDiff, Nat.reduceAdd, reduceCtorEq, Nat.reduceSub, Int.reduceToNat, Int.reduceLE, Int.reduceLT, Int.reduceNeg, Nat.reduceBEq, Nat.reduceMul, Nat.reduceLeDiff, Nat.reduceMod, UInt8.reduceOfNat, Nat.reduceLT, Int.reduceEq, Int.reduceAdd, Int.reduceSub, Int.reduceMul]) ⟨i + 1, out ++ seg a done (p - 1), (p : Int) - 1 + k, put, by omega, rfl, by omega, by omega, by rw [List.length_append]; rw [seg_len (by omega) (by omega)]; omega, ?_, ?_, ?_⟩
              · intro x hx; rcases List.mem_append.1 hx with hx | hx
                · exact ho x hx
                · exact hA x (seg_mem hx)
              · rw [show L.length - (i + 1) = m by omega]; exact hgo
              · refine .inr ?_
                simp -dsimp -implicitDefEqProofs only [↓Ev.xStp_eq, ↓Ev.P, Ev.Q, Bool.cond_true, Bool.cond_false, eq_self, forall_eq_or_imp, implies_true, forall_const, forall_eq, ↓reduceIte, reduceIte, Nat.reduceEqDiff, Nat.reduceAdd, reduceCtorEq, Nat.reduceSub, Int.reduceToNat, Int.reduceLE, Int.reduceLT, Int.reduceNeg, Nat.reduceBEq, Nat.reduceMul, Nat.reduceLeDiff, Nat.reduceMod, UInt8.reduceOfNat, Nat.reduceLT, Int.reduceEq, Int.reduceAdd, Int.reduceSub, Int.reduceMul]
                rfl
            · have hv2 : v = 97 := hv.resolve_right hv1
              have hvd : ((v.toNat : Int) = 100) = False := (show ((v.toNat : Int) = 100) = (v = 100) from u8_k v 100 (by decide)).trans (eq_false hv1)
              rw [if_neg hv1] at hgo
              obtain ⟨hd1, hd2⟩ := ha2 hv2
              by_cases hsh : (L.length : Int) - 1 - i < k
              · rw [if_pos hsh] at hgo
                subst hgo; simp at hz
              · rw [if_neg hsh, Int.toNat_natCast, Int.toNat_natCast] at hgo
                have e1 : ((i : Int) + 1 + (k : Int)).toNat = i + 1 + k := by omega
                have e2 : ((i : Int) + 1).toNat = i + 1 := by omega
                have e3 : (i : Int) + (k : Int) + 1 = ((i + 1 + k : Nat) : Int) := by omega
                have hs1 : (seg a done p).length = p - done := seg_len (by omega) (by omega)
                have hs2 : (seg L (i + 1) (i + 1 + k)).length = k := by rw [seg_len (by omega) (by omega)]; omega
                unfold seg at hs1 hs2
                simp -dsimp -implicitDefEqProofs only [hg, hi3, hrd, hal, hvd, hsh, e1, e2, e3, hs1, hs2, List.length_append, fltV, CRead, CAlw, CKeep, CFlt, strRows_len, strRows_sub, strRows_all, strRows_app, unStr_rows, UInt8.ofNat_toNat, Ev.St.giveC, ↓Ev.P, Ev.Q, Bool.cond_true, Bool.cond_false, eq_self, forall_eq_or_imp, implies_true, forall_const, forall_eq, ↓reduceIte, reduceIte, Nat.reduceEqDiff, Nat.reduceAdd, reduceCtorEq, Nat.reduceSub, Int.reduceToNat, Int.reduceLE, Int.reduceLT, Int.reduceNeg, Nat.reduceBEq, Nat.reduceMul, Nat.reduceLeDiff, Nat.reduceMod, UInt8.reduceOfNat, Nat.reduceLT, Int.reduceEq, Int.reduceAdd, Int.reduceSub, Int.reduceMul]
                repeat' (first | with_reducible assumption | refine And.intro ?_ ?_ | intro _ | (rw [Ev.xStp_eq]; simp -dsimp -implicitDefEqProofs only [hg, hi3, hrd, hal, hvd, hsh, e1, e2, e3, hs1, hs2, List.length_append, fltV, CRead, CAlw, CKeep, CFlt, strRows_len, strRows_sub, strRows_all, strRows_app, unStr_rows, UInt8.ofNat_toNat, Ev.St.giveC, ↓Ev.P, Ev.Q, Bool.cond_true, Bool.cond_false, eq_self, forall_eq_or_imp, implies_true, forall_const, forall_eq, ↓reduceIte, reduceIte, Nat.reduceEqDiff, Nat.reduceAdd, reduceCtorEq, Nat.reduceSub, Int.reduceToNat, Int.reduceLE, Int.reduceLT, Int.reduceNeg, Nat.reduceBEq, Nat.reduceMul, Nat.reduceLeDiff, Nat.reduceMod, UInt8.reduceOfNat, Nat.reduceLT, Int.reduceEq, Int.reduceAdd, Int.reduceSub, Int.reduceMul]))
                all_goals try omega
                refine xAgain_intro (L.length - (i + 1 + k)) [0, 4] (by omega) (by simp -dsimp -implicitDefEqProofs only [↓Ev.xStp_eq, ↓Ev.P, Ev.Q, Bool.cond_true, Bool.cond_false, eq_self, forall_eq_or_imp, implies_true, forall_const, forall_eq, ↓reduceIte, reduceIte, Nat.reduceEqDiff, Nat.reduceAdd, reduceCtorEq, Nat.reduceSub, Int.reduceToNat, Int.reduceLE, Int.reduceLT, Int.reduceNeg, Nat.reduceBEq, Nat.reduceMul, Nat.reduceLeDiff, Nat.reduceMod, UInt8.reduceOfNat, Nat.reduceLT, Int.reduceEq, Int.reduceAdd, Int.reduceSub, Int.reduceMul]) ⟨i + 1 + k, out ++ seg a done p ++ seg L (i + 1) (i + 1 + k), p, p, by omega, rfl, by omega, by omega, ?_, ?_, ?_, ?_⟩
                · unfold seg; rw [List.length_append, List.length_append, hs1, hs2]; omega
                · intro x hx; rcases List.mem_append.1 hx with hx | hx
                  · rcases List.mem_append.1 hx with hx | hx
                    · exact ho x hx
                    · exact hA x (seg_mem hx)
                  · exact hL x (seg_mem hx)
                · rw [show L.length - (i + 1 + k) = m - k by omega, Int.toNat_natCast]; exact hgo
                · refine .inr ?_
                  simp -dsimp -implicitDefEqProofs only [↓Ev.xStp_eq, ↓Ev.P, Ev.Q, Bool.cond_true, Bool.cond_false, eq_self, forall_eq_or_imp, implies_true, forall_const, forall_eq, ↓reduceIte, reduceIte, Nat.reduceEqDiff, Nat.reduceAdd, reduceCtorEq, Nat.reduceSub, Int.reduceToNat, Int.reduceLE, Int.reduceLT, Int.reduceNeg, Nat.reduceBEq, Nat.reduceMul, Nat.reduceLeDiff, Nat.reduceMod, UInt8.reduceOfNat, Nat.reduceLT, Int.reduceEq, Int.reduceAdd, Int.reduceSub, Int.reduceMul]
                  rfl
          · rw [if_pos hal] at hgo
            subst hgo; exact absurd hz hal
      · have _t := trivial
        have hi3 : ¬ (i : Int) < L.length := by omega
        rw [show L.length - i = 0 by omega, rcsGo, rcsEnd] at hgo
        obtain ⟨done, rfl⟩ := Int.eq_ofNat_of_zero_le hd0
        rw [Int.toNat_natCast] at hgo
        have hdl : done ≤ a.length := by omega
        have e4 : (a.take a.length).drop done = a.drop done := by rw [List.take_length]
        have hsl : (a.drop done).length = a.length - done := List.length_drop
        have hmem : ∀ x ∈ out ++ a.drop done, x.length ≤ 1099511627776 := by
          intro x hx; rcases List.mem_append.1 hx with hx | hx
          · exact ho x hx
          · exact hA x (List.mem_of_mem_drop hx)
        have hlen : (out ++ a.drop done).length ≤ 1099511627776 := by rw [List.length_append]; omega
        by_cases hok : okUp (out ++ a.drop done).length (out ++ a.drop done) = true
        · rw [if_pos hok] at hgo
          subst hgo
          simp -dsimp -implicitDefEqProofs only [hi3, e4, hok, CLns, fltV, CRead, CAlw, CKeep, CFlt, strRows_len, strRows_sub, strRows_all, strRows_app, unStr_rows, UInt8.ofNat_toNat, Ev.St.giveC, ↓Ev.P, Ev.Q, Bool.cond_true, Bool.cond_false, eq_self, forall_eq_or_imp, implies_true, forall_const, forall_eq, ↓reduceIte, reduceIte, Nat.reduceEqDiff, Nat.reduceAdd, reduceCtorEq, Nat.reduceSub, Int.reduceToNat, Int.reduceLE, Int.reduceLT, Int.reduceNeg, Nat.reduceBEq, Nat.reduceMul, Nat.reduceLeDiff, Nat.reduceMod, UInt8.reduceOfNat, Nat.reduceLT, Int.reduceEq, Int.reduceAdd, Int.reduceSub, Int.reduceMul]
          repeat' (first | with_reducible assumption | refine And.intro ?_ ?_ | intro _ | (rw [Ev.xStp_eq]; simp -dsimp -implicitDefEqProofs only [hi3, e4, hok, CLns, fltV, CRead, CAlw, CKeep, CFlt, strRows_len, strRows_sub, strRows_all, strRows_app, unStr_rows, UInt8.ofNat_toNat, Ev.St.giveC, ↓Ev.P, Ev.Q, Bool.cond_true, Bool.cond_false, eq_self, forall_eq_or_imp, implies_true, forall_const, forall_eq, ↓reduceIte, reduceIte, Nat.reduceEqDiff, Nat.reduceAdd, reduceCtorEq, Nat.reduceSub, Int.reduceToNat, Int.reduceLE, Int.reduceLT, Int.reduceNeg, Nat.reduceBEq, Nat.reduceMul, Nat.reduceLeDiff, Nat.reduceMod, UInt8.reduceOfNat, Nat.reduceLT, Int.reduceEq, Int.reduceAdd, Int.reduceSub, Int.reduceMul]))
          all_goals try omega
          all_goals first | exact hk | exact hmem | exact hlen | trace_state
        · rw [if_neg hok] at hgo
          subst hgo; simp at hz
set_option maxHeartbeats 16000000 in
theorem runE {s : List UInt8} {a L : List (List UInt8)} {Y : Ans} {K : Out → Store → Prop} (h4 : s.length ≤ 1048576) (ha : a.length ≤ 1073741824) (hA : ∀ x ∈ a, x.length ≤ 1099511627776) (hLs : lns s = L) (hLl : L.length ≤ 1048576) (hL : ∀ x ∈ L, x.length ≤ 1099511627776) (hY : rcsGo L a L.length 0 [] 0 (-1) = Y) (hz : ¬ Y.2.2 = 0) (hk : K (.ret (.tup [.d (.sl []), .d (fltV Y.2.1 Y.2.2)])) ⟨0, []⟩) :
  xv (tabT rcsTab) 0 S11 (st0 [.d (.v (.string ⟨s.toArray⟩)), .d (.sl (strRows a))] ⟨0, []⟩) (retK R11 0 [] K) (panK 0 [] K) := by
  have h5 : ¬ (1048576 : Int) < (s.length : Int) := by omega
  simp -dsimp -implicitDefEqProofs only [S11, S11_0, S11r1, S11_1, S11r2, S11_2, S11r3, S11_3, S11r4, S11_4, S11r5, S11_5, S11r6, S11_6, S11r7, S11_7, S11r8, R11, CSplit, CFlt, h5, hLs, ↓Ev.xStp_eq, ↓Ev.P, Ev.Q, Bool.cond_true, Bool.cond_false, eq_self, forall_eq_or_imp, implies_true, forall_const, forall_eq, ↓reduceIte, reduceIte, Nat.reduceEqDiff, Nat.reduceAdd, reduceCtorEq, Nat.reduceSub, Int.reduceToNat, Int.reduceLE, Int.reduceLT, Int.reduceNeg, Nat.reduceBEq, Nat.reduceMul, Nat.reduceLeDiff, Nat.reduceMod, UInt8.reduceOfNat, Nat.reduceLT, Int.reduceEq, Int.reduceAdd, Int.reduceSub, Int.reduceMul]
  repeat' (first | with_reducible assumption | refine And.intro ?_ ?_ | intro _)
  all_goals try omega
  refine xLoop_intro (fun n st => ∃ (i : Nat) (out : List (List UInt8)) (done put : Int), i ≤ L.length ∧ n = L.length - i ∧ 0 ≤ done ∧ done ≤ a.length ∧ (out.length : Int) ≤ done + i ∧ (∀ x ∈ out, x.length ≤ 1099511627776) ∧ rcsGo L a (L.length - i) i out done.toNat put = Y ∧
      ((out = [] ∧ done = 0 ∧ st = ⟨[(1, .d (.sl (strRows a))), (6, .d (.sl (strRows L))), (7, .ptr 0 0), (8, .d (.v (.int .i64 i)))], 1, [(0, .cells 63 [.d (.sl (strRows a)), .d (.v (.slice none 0 0)), .d (.v (.int .i64 done)), .d (.v (.int .i64 put))])]⟩) ∨ st = ⟨[(1, .d (.sl (strRows a))), (6, .d (.sl (strRows L))), (7, .ptr 0 0), (8, .d (.v (.int .i64 i)))], 2, [(0, .cells 63 [.d (.sl (strRows a)), .own 1, .d (.v (.int .i64 done)), .d (.v (.int .i64 put))]), (1, .row 9 1 (strRows out))]⟩)) L.length [0] ?_ ?_ ?_
  · simp -dsimp -implicitDefEqProofs only [↓Ev.xStp_eq, ↓Ev.P, Ev.Q, Bool.cond_true, Bool.cond_false, eq_self, forall_eq_or_imp, implies_true, forall_const, forall_eq, ↓reduceIte, reduceIte, Nat.reduceEqDiff, Nat.reduceAdd, reduceCtorEq, Nat.reduceSub, Int.reduceToNat, Int.reduceLE, Int.reduceLT, Int.reduceNeg, Nat.reduceBEq, Nat.reduceMul, Nat.reduceLeDiff, Nat.reduceMod, UInt8.reduceOfNat, Nat.reduceLT, Int.reduceEq, Int.reduceAdd, Int.reduceSub, Int.reduceMul]
  · simp -dsimp -implicitDefEqProofs only [↓Ev.xStp_eq, ↓Ev.P, Ev.Q, Bool.cond_true, Bool.cond_false, eq_self, forall_eq_or_imp, implies_true, forall_const, forall_eq, ↓reduceIte, reduceIte, Nat.reduceEqDiff, Nat.reduceAdd, reduceCtorEq, Nat.reduceSub, Int.reduceToNat, Int.reduceLE, Int.reduceLT, Int.reduceNeg, Nat.reduceBEq, Nat.reduceMul, Nat.reduceLeDiff, Nat.reduceMod, UInt8.reduceOfNat, Nat.reduceLT, Int.reduceEq, Int.reduceAdd, Int.reduceSub, Int.reduceMul]
    exact ⟨0, [], 0, -1, by omega, by omega, by omega, by omega, by simp, by simp, hY, .inl ⟨rfl, rfl, rfl⟩⟩
  · rintro n st ⟨i, out, done, put, hi, hn, hd0, hd3, hol, ho, hgo, ⟨hA1, hA2, rfl⟩ | rfl⟩
    · by_cases hil : i < L.length
      · have _t := trivial
        subst hA1
        have hi3 : (i : Int) < L.length := by omega
        have hg := strRows_get hil
        have hsz := hL _ (getD_in hil)
        obtain ⟨m, hm⟩ : ∃ m, L.length - i = m + 1 := ⟨L.length - i - 1, by omega⟩
        rw [hm, rcsGo] at hgo
        obtain ⟨hr1, hr2⟩ := rdC_cmd (L.getD i [])
        have hbd : ∀ v p k, cmdOf (L.getD i []) = some (v, p, k) → _ := fun v p k h => cmd_bd h
        generalize L.getD i [] = s at hg hsz hgo hr1 hr2 hbd
        obtain ⟨done, rfl⟩ := Int.eq_ofNat_of_zero_le hd0
        rw [Int.toNat_natCast] at hgo
        simp only [List.nil_append] at hgo
        cases hc : cmdOf s with
        | none =>
          rw [hc] at hgo; dsimp only at hgo; subst hgo
          have hrd := hr2 hc
          simp -dsimp -implicitDefEqProofs only [hg, hi3, hrd, fltV, CRead, CAlw, CKeep, CFlt, strRows_len, strRows_sub, strRows_all, strRows_app, unStr_rows, UInt8.ofNat_toNat, Ev.St.giveC, ↓Ev.P, Ev.Q, Bool.cond_true, Bool.cond_false, eq_self, forall_eq_or_imp, implies_true, forall_const, forall_eq, ↓reduceIte, reduceIte, Nat.reduceEqDiff, Nat.reduceAdd, reduceCtorEq, Nat.reduceSub, Int.reduceToNat, Int.reduceLE, Int.reduceLT, Int.reduceNeg, Nat.reduceBEq, Nat.reduceMul, Nat.reduceLeDiff, Nat.reduceMod, UInt8.reduceOfNat, Nat.reduceLT, Int.reduceEq, Int.reduceAdd, Int.reduceSub, Int.reduceMul]
          repeat' (first | with_reducible assumption | refine And.intro ?_ ?_ | intro _ | (rw [Ev.xStp_eq]; simp -dsimp -implicitDefEqProofs only [hg, hi3, hrd, fltV, CRead, CAlw, CKeep, CFlt, strRows_len, strRows_sub, strRows_all, strRows_app, unStr_rows, UInt8.ofNat_toNat, Ev.St.giveC, ↓Ev.P, Ev.Q, Bool.cond_true, Bool.cond_false, eq_self, forall_eq_or_imp, implies_true, forall_const, forall_eq, ↓reduceIte, reduceIte, Nat.reduceEqDiff, Nat.reduceAdd, reduceCtorEq, Nat.reduceSub, Int.reduceToNat, Int.reduceLE, Int.reduceLT, Int.reduceNeg, Nat.reduceBEq, Nat.reduceMul, Nat.reduceLeDiff, Nat.reduceMod, UInt8.reduceOfNat, Nat.reduceLT, Int.reduceEq, Int.reduceAdd, Int.reduceSub, Int.reduceMul]))
          all_goals try omega
          all_goals exact hk
        | some c =>
          obtain ⟨v, p, k⟩ := c
          have hrd := hr1 _ hc
          rw [hc] at hgo
          obtain ⟨hv, p0, p1, k0, k1, vp⟩ := hbd _ _ _ hc
          clear hr1 hr2 hbd hc
          dsimp only at hgo
          obtain ⟨p, rfl⟩ := Int.eq_ofNat_of_zero_le p0
          obtain ⟨k, rfl⟩ := Int.eq_ofNat_of_zero_le (Int.le_of_lt k0)
          have hip : inI p := ⟨by omega, by omega⟩
          have hik : inI k := ⟨by omega, by omega⟩
          have h255 : 0 ≤ (v.toNat : Int) ∧ (v.toNat : Int) < 256 := ⟨by omega, by have := v.toNat_lt; omega⟩
          by_cases hal : alw v p k a.length done put = 0
          · rw [if_neg (fun h => h hal)] at hgo
            obtain ⟨ha1, ha2⟩ := alw_ok hv hal
            by_cases hv1 : v = 100
            · have hvd : ((v.toNat : Int) = 100) = True := (show ((v.toNat : Int) = 100) = (v = 100) from u8_k v 100 (by decide)).trans (eq_true hv1)
              have e5 : ((p : Int) - 1).toNat = p - 1 := by omega
              rw [if_pos hv1, e5] at hgo
              obtain ⟨hd1, hd2⟩ := ha1 hv1
              have hp0 := vp hv1
              have hsl : (seg a done (p - 1)).length ≤ p := by rw [seg_len (by omega) (by omega)]; omega
              simp -dsimp -implicitDefEqProofs only [hg, hi3, hrd, hal, hvd, e5, fltV, CRead, CAlw, CKeep, CFlt, strRows_len, strRows_sub, strRows_all, strRows_app, unStr_rows, UInt8.ofNat_toNat, Ev.St.giveC, ↓Ev.P, Ev.Q, Bool.cond_true, Bool.cond_false, eq_self, forall_eq_or_imp, implies_true, forall_const, forall_eq, ↓reduceIte, reduceIte, Nat.reduceEqDiff, Nat.reduceAdd, reduceCtorEq, Nat.reduceSub, Int.reduceToNat, Int.reduceLE, Int.reduceLT, Int.reduceNeg, Nat.reduceBEq, Nat.reduceMul, Nat.reduceLeDiff, Nat.reduceMod, UInt8.reduceOfNat, Nat.reduceLT, Int.reduceEq, Int.reduceAdd, Int.reduceSub, Int.reduceMul]
              repeat' (first | with_reducible assumption | refine And.intro ?_ ?_ | intro _ | (rw [Ev.xStp_eq]; simp -dsimp -implicitDefEqProofs only [hg, hi3, hrd, hal, hvd, e5, fltV, CRead, CAlw, CKeep, CFlt, strRows_len, strRows_sub, strRows_all, strRows_app, unStr_rows, UInt8.ofNat_toNat, Ev.St.giveC, ↓Ev.P, Ev.Q, Bool.cond_true, Bool.cond_false, eq_self, forall_eq_or_imp, implies_true, forall_const, forall_eq, ↓reduceIte, reduceIte, Nat.reduceEqDiff, Nat.reduceAdd, reduceCtorEq, Nat.reduceSub, Int.reduceToNat, Int.reduceLE, Int.reduceLT, Int.reduceNeg, Nat.reduceBEq, Nat.reduceMul, Nat.reduceLeDiff, Nat.reduceMod, UInt8.reduceOfNat, Nat.reduceLT, Int.reduceEq, Int.reduceAdd, Int.reduceSub, Int.reduceMul]))
              all_goals try omega
              refine xAgain_intro (L.length - (i + 1)) [0, 2] (by omega) (by simp -dsimp -implicitDefEqProofs only [↓Ev.xStp_eq, ↓Ev.P, Ev.Q, Bool.cond_true, Bool.cond_false, eq_self, forall_eq_or_imp, implies_true, forall_const, forall_eq, ↓reduceIte, reduceIte, Nat.reduceEqDiff, Nat.reduceAdd, reduceCtorEq, Nat.reduceSub, Int.reduceToNat, Int.reduceLE, Int.reduceLT, Int.reduceNeg, Nat.reduceBEq, Nat.reduceMul, Nat.reduceLeDiff, Nat.reduceMod, UInt8.reduceOfNat, Nat.reduceLT, Int.reduceEq, Int.reduceAdd, Int.reduceSub, Int.reduceMul]) ⟨i + 1, seg a done (p - 1), (p : Int) - 1 + k, put, by omega, rfl, by omega, by omega, by rw [seg_len (by omega) (by omega)]; omega, ?_, ?_, ?_⟩
              · exact fun x hx => hA x (seg_mem hx)
              · rw [show L.length - (i + 1) = m by omega]; exact hgo
              · refine .inr ?_
                simp -dsimp -implicitDefEqProofs only [↓Ev.xStp_eq, ↓Ev.P, Ev.Q, Bool.cond_true, Bool.cond_false, eq_self, forall_eq_or_imp, implies_true, forall_const, forall_eq, ↓reduceIte, reduceIte, Nat.reduceEqDiff, Nat.reduceAdd, reduceCtorEq, Nat.reduceSub, Int.reduceToNat, Int.reduceLE, Int.reduceLT, Int.reduceNeg, Nat.reduceBEq, Nat.reduceMul, Nat.reduceLeDiff, Nat.reduceMod, UInt8.reduceOfNat, Nat.reduceLT, Int.reduceEq, Int.reduceAdd, Int.reduceSub, Int.reduceMul]
                rfl
            · have hv2 : v = 97 := hv.resolve_right hv1
              have hvd : ((v.toNat : Int) = 100) = False := (show ((v.toNat : Int) = 100) = (v = 100) from u8_k v 100 (by decide)).trans (eq_false hv1)
              rw [if_neg hv1] at hgo
              obtain ⟨hd1, hd2⟩ := ha2 hv2
              by_cases hsh : (L.length : Int) - 1 - i < k
              · rw [if_pos hsh] at hgo
                subst hgo
                simp -dsimp -implicitDefEqProofs only [hg, hi3, hrd, hal, hvd, hsh, fltV, CRead, CAlw, CKeep, CFlt, strRows_len, strRows_sub, strRows_all, strRows_app, unStr_rows, UInt8.ofNat_toNat, Ev.St.giveC, ↓Ev.P, Ev.Q, Bool.cond_true, Bool.cond_false, eq_self, forall_eq_or_imp, implies_true, forall_const, forall_eq, ↓reduceIte, reduceIte, Nat.reduceEqDiff, Nat.reduceAdd, reduceCtorEq, Nat.reduceSub, Int.reduceToNat, Int.reduceLE, Int.reduceLT, Int.reduceNeg, Nat.reduceBEq, Nat.reduceMul, Nat.reduceLeDiff, Nat.reduceMod, UInt8.reduceOfNat, Nat.reduceLT, Int.reduceEq, Int.reduceAdd, Int.reduceSub, Int.reduceMul]
                repeat' (first | with_reducible assumption | refine And.intro ?_ ?_ | intro _ | (rw [Ev.xStp_eq]; simp -dsimp -implicitDefEqProofs only [hg, hi3, hrd, hal, hvd, hsh, fltV, CRead, CAlw, CKeep, CFlt, strRows_len, strRows_sub, strRows_all, strRows_app, unStr_rows, UInt8.ofNat_toNat, Ev.St.giveC, ↓Ev.P, Ev.Q, Bool.cond_true, Bool.cond_false, eq_self, forall_eq_or_imp, implies_true, forall_const, forall_eq, ↓reduceIte, reduceIte, Nat.reduceEqDiff, Nat.reduceAdd, reduceCtorEq, Nat.reduceSub, Int.reduceToNat, Int.reduceLE, Int.reduceLT, Int.reduceNeg, Nat.reduceBEq, Nat.reduceMul, Nat.reduceLeDiff, Nat.reduceMod, UInt8.reduceOfNat, Nat.reduceLT, Int.reduceEq, Int.reduceAdd, Int.reduceSub, Int.reduceMul]))
                all_goals try omega
                all_goals exact hk
              · rw [if_neg hsh, Int.toNat_natCast, Int.toNat_natCast] at hgo
                have e1 : ((i : Int) + 1 + (k : Int)).toNat = i + 1 + k := by omega
                have e2 : ((i : Int) + 1).toNat = i + 1 := by omega
                have e3 : (i : Int) + (k : Int) + 1 = ((i + 1 + k : Nat) : Int) := by omega
                have hs1 : (seg a done p).length = p - done := seg_len (by omega) (by omega)
                have hs2 : (seg L (i + 1) (i + 1 + k)).length = k := by rw [seg_len (by omega) (by omega)]; omega
                unfold seg at hs1 hs2
                simp -dsimp -implicitDefEqProofs only [hg, hi3, hrd, hal, hvd, hsh, e1, e2, e3, hs1, hs2, List.length_append, fltV, CRead, CAlw, CKeep, CFlt, strRows_len, strRows_sub, strRows_all, strRows_app, unStr_rows, UInt8.ofNat_toNat, Ev.St.giveC, ↓Ev.P, Ev.Q, Bool.cond_true, Bool.cond_false, eq_self, forall_eq_or_imp, implies_true, forall_const, forall_eq, ↓reduceIte, reduceIte, Nat.reduceEqDiff, Nat.reduceAdd, reduceCtorEq, Nat.reduceSub, Int.reduceToNat, Int.reduceLE, Int.reduceLT, Int.reduceNeg, Nat.reduceBEq, Nat.reduceMul, Nat.reduceLeDiff, Nat.reduceMod, UInt8.reduceOfNat, Nat.reduceLT, Int.reduceEq, Int.reduceAdd, Int.reduceSub, Int.reduceMul]
                repeat' (first | with_reducible assumption | refine And.intro ?_ ?_ | intro _ | (rw [Ev.xStp_eq]; simp -dsimp -implicitDefEqProofs only [hg, hi3, hrd, hal, hvd, hsh, e1, e2, e3, hs1, hs2, List.length_append, fltV, CRead, CAlw, CKeep, CFlt, strRows_len, strRows_sub, strRows_all, strRows_app, unStr_rows, UInt8.ofNat_toNat, Ev.St.giveC, ↓Ev.P, Ev.Q, Bool.cond_true, Bool.cond_false, eq_self, forall_eq_or_imp, implies_true, forall_const, forall_eq, ↓reduceIte, reduceIte, Nat.reduceEqDiff, Nat.reduceAdd, reduceCtorEq, Nat.reduceSub, Int.reduceToNat, Int.reduceLE, Int.reduceLT, Int.reduceNeg, Nat.reduceBEq, Nat.reduceMul, Nat.reduceLeDiff, Nat.reduceMod, UInt8.reduceOfNat, Nat.reduceLT, Int.reduceEq, Int.reduceAdd, Int.reduceSub, Int.reduceMul]))
                all_goals try omega
                refine xAgain_intro (L.length - (i + 1 + k)) [0, 3] (by omega) (by simp -dsimp -implicitDefEqProofs only [↓Ev.xStp_eq, ↓Ev.P, Ev.Q, Bool.cond_true, Bool.cond_false, eq_self, forall_eq_or_imp, implies_true, forall_const, forall_eq, ↓reduceIte, reduceIte, Nat.reduceEqDiff, Nat.reduceAdd, reduceCtorEq, Nat.reduceSub, Int.reduceToNat, Int.reduceLE, Int.reduceLT, Int.reduceNeg, Nat.reduceBEq, Nat.reduceMul, Nat.reduceLeDiff, Nat.reduceMod, UInt8.reduceOfNat, Nat.reduceLT, Int.reduceEq, Int.reduceAdd, Int.reduceSub, Int.reduceMul]) ⟨i + 1 + k, seg a done p ++ seg L (i + 1) (i + 1 + k), p, p, by omega, rfl, by omega, by omega, ?_, ?_, ?_, ?_⟩
                · unfold seg; rw [List.length_append, hs1, hs2]; omega
                · intro x hx; rcases List.mem_append.1 hx with hx | hx
                  · exact hA x (seg_mem hx)
                  · exact hL x (seg_mem hx)
                · rw [show L.length - (i + 1 + k) = m - k by omega, Int.toNat_natCast]; exact hgo
                · refine .inr ?_
                  simp -dsimp -implicitDefEqProofs only [↓Ev.xStp_eq, ↓Ev.P, Ev.Q, Bool.cond_true, Bool.cond_false, eq_self, forall_eq_or_imp, implies_true, forall_const, forall_eq, ↓reduceIte, reduceIte, Nat.reduceEqDiff, Nat.reduceAdd, reduceCtorEq, Nat.reduceSub, Int.reduceToNat, Int.reduceLE, Int.reduceLT, Int.reduceNeg, Nat.reduceBEq, Nat.reduceMul, Nat.reduceLeDiff, Nat.reduceMod, UInt8.reduceOfNat, Nat.reduceLT, Int.reduceEq, Int.reduceAdd, Int.reduceSub, Int.reduceMul]
                  rfl
          · rw [if_pos hal] at hgo
            subst hgo
            simp -dsimp -implicitDefEqProofs only [hg, hi3, hrd, hal, fltV, CRead, CAlw, CKeep, CFlt, strRows_len, strRows_sub, strRows_all, strRows_app, unStr_rows, UInt8.ofNat_toNat, Ev.St.giveC, ↓Ev.P, Ev.Q, Bool.cond_true, Bool.cond_false, eq_self, forall_eq_or_imp, implies_true, forall_const, forall_eq, ↓reduceIte, reduceIte, Nat.reduceEqDiff, Nat.reduceAdd, reduceCtorEq, Nat.reduceSub, Int.reduceToNat, Int.reduceLE, Int.reduceLT, Int.reduceNeg, Nat.reduceBEq, Nat.reduceMul, Nat.reduceLeDiff, Nat.reduceMod, UInt8.reduceOfNat, Nat.reduceLT, Int.reduceEq, Int.reduceAdd, Int.reduceSub, Int.reduceMul]
            repeat' (first | with_reducible assumption | refine And.intro ?_ ?_ | intro _ | (rw [Ev.xStp_eq]; simp -dsimp -implicitDefEqProofs only [hg, hi3, hrd, hal, fltV, CRead, CAlw, CKeep, CFlt, strRows_len, strRows_sub, strRows_all, strRows_app, unStr_rows, UInt8.ofNat_toNat, Ev.St.giveC, ↓Ev.P, Ev.Q, Bool.cond_true, Bool.cond_false, eq_self, forall_eq_or_imp, implies_true, forall_const, forall_eq, ↓reduceIte, reduceIte, Nat.reduceEqDiff, Nat.reduceAdd, reduceCtorEq, Nat.reduceSub, Int.reduceToNat, Int.reduceLE, Int.reduceLT, Int.reduceNeg, Nat.reduceBEq, Nat.reduceMul, Nat.reduceLeDiff, Nat.reduceMod, UInt8.reduceOfNat, Nat.reduceLT, Int.reduceEq, Int.reduceAdd, Int.reduceSub, Int.reduceMul]))
            all_goals try omega
            all_goals exact hk
      · have _t := trivial
        have hi3 : ¬ (i : Int) < L.length := by omega
        rw [show L.length - i = 0 by omega, rcsGo, rcsEnd] at hgo
        obtain ⟨done, rfl⟩ := Int.eq_ofNat_of_zero_le hd0
        rw [Int.toNat_natCast] at hgo
        have hdl : done ≤ a.length := by omega
        have e4 : (a.take a.length).drop done = a.drop done := by rw [List.take_length]
        have hsl : (a.drop done).length = a.length - done := List.length_drop
        have hmem : ∀ x ∈ out ++ a.drop done, x.length ≤ 1099511627776 := by
          intro x hx; rcases List.mem_append.1 hx with hx | hx
          · rw [hA1] at hx; cases hx
          · exact hA x (List.mem_of_mem_drop hx)
        rw [hA1, List.nil_append] at hgo hmem
        have hlen : (a.drop done).length ≤ 1099511627776 := by omega
        by_cases hok : okUp (a.drop done).length (a.drop done) = true
        · rw [if_pos hok] at hgo
          subst hgo; exact absurd rfl hz
        · rw [if_neg hok] at hgo
          subst hgo
          simp -dsimp -implicitDefEqProofs only [hi3, e4, hok, CLns, fltV, CRead, CAlw, CKeep, CFlt, strRows_len, strRows_sub, strRows_all, strRows_app, unStr_rows, UInt8.ofNat_toNat, Ev.St.giveC, ↓Ev.P, Ev.Q, Bool.cond_true, Bool.cond_false, eq_self, forall_eq_or_imp, implies_true, forall_const, forall_eq, ↓reduceIte, reduceIte, Nat.reduceEqDiff, Nat.reduceAdd, reduceCtorEq, Nat.reduceSub, Int.reduceToNat, Int.reduceLE, Int.reduceLT, Int.reduceNeg, Nat.reduceBEq, Nat.reduceMul, Nat.reduceLeDiff, Nat.reduceMod, UInt8.reduceOfNat, Nat.reduceLT, Int.reduceEq, Int.reduceAdd, Int.reduceSub, Int.reduceMul]
          repeat' (first | with_reducible assumption | refine And.intro ?_ ?_ | intro _ | (rw [Ev.xStp_eq]; simp -dsimp -implicitDefEqProofs only [hi3, e4, hok, CLns, fltV, CRead, CAlw, CKeep, CFlt, strRows_len, strRows_sub, strRows_all, strRows_app, unStr_rows, UInt8.ofNat_toNat, Ev.St.giveC, ↓Ev.P, Ev.Q, Bool.cond_true, Bool.cond_false, eq_self, forall_eq_or_imp, implies_true, forall_const, forall_eq, ↓reduceIte, reduceIte, Nat.reduceEqDiff, Nat.reduceAdd, reduceCtorEq, Nat.reduceSub, Int.reduceToNat, Int.reduceLE, Int.reduceLT, Int.reduceNeg, Nat.reduceBEq, Nat.reduceMul, Nat.reduceLeDiff, Nat.reduceMod, UInt8.reduceOfNat, Nat.reduceLT, Int.reduceEq, Int.reduceAdd, Int.reduceSub, Int.reduceMul]))
          all_goals try omega
          all_goals first | exact hk | exact hmem | exact hlen | trace_state
    · by_cases hil : i < L.length
      · have _t := trivial
        have hi3 : (i : Int) < L.length := by omega
        have hg := strRows_get hil
        have hsz := hL _ (getD_in hil)
        obtain ⟨m, hm⟩ : ∃ m, L.length - i = m + 1 := ⟨L.length - i - 1, by omega⟩
        rw [hm, rcsGo] at hgo
        obtain ⟨hr1, hr2⟩ := rdC_cmd (L.getD i [])
        have hbd : ∀ v p k, cmdOf (L.getD i []) = some (v, p, k) → _ := fun v p k h => cmd_bd h
        generalize L.getD i [] = s at hg hsz hgo hr1 hr2 hbd
        obtain ⟨done, rfl⟩ := Int.eq_ofNat_of_zero_le hd0
        rw [Int.toNat_natCast] at hgo
        cases hc : cmdOf s with
        | none =>
          rw [hc] at hgo; dsimp only at hgo; subst hgo
          have hrd := hr2 hc
          simp -dsimp -implicitDefEqProofs only [hg, hi3, hrd, fltV, CRead, CAlw, CKeep, CFlt, strRows_len, strRows_sub, strRows_all, strRows_app, unStr_rows, UInt8.ofNat_toNat, Ev.St.giveC, ↓Ev.P, Ev.Q, Bool.cond_true, Bool.cond_false, eq_self, forall_eq_or_imp, implies_true, forall_const, forall_eq, ↓reduceIte, reduceIte, Nat.reduceEqDiff, Nat.reduceAdd, reduceCtorEq, Nat.reduceSub, Int.reduceToNat, Int.reduceLE, Int.reduceLT, Int.reduceNeg, Nat.reduceBEq, Nat.reduceMul, Nat.reduceLeDiff, Nat.reduceMod, UInt8.reduceOfNat, Nat.reduceLT, Int.reduceEq, Int.reduceAdd, Int.reduceSub, Int.reduceMul]
          repeat' (first | with_reducible assumption | refine And.intro ?_ ?_ | intro _ | (rw [Ev.xStp_eq]; simp -dsimp -implicitDefEqProofs only [hg, hi3, hrd, fltV, CRead, CAlw, CKeep, CFlt, strRows_len, strRows_sub, strRows_all, strRows_app, unStr_rows, UInt8.ofNat_toNat, Ev.St.giveC, ↓Ev.P, Ev.Q, Bool.cond_true, Bool.cond_false, eq_self, forall_eq_or_imp, implies_true, forall_const, forall_eq, ↓reduceIte, reduceIte, Nat.reduceEqDiff, Nat.reduceAdd, reduceCtorEq, Nat.reduceSub, Int.reduceToNat, Int.reduceLE, Int.reduceLT, Int.reduceNeg, Nat.reduceBEq, Nat.reduceMul, Nat.reduceLeDiff, Nat.reduceMod, UInt8.reduceOfNat, Nat.reduceLT, Int.reduceEq, Int.reduceAdd, Int.reduceSub, Int.reduceMul]))
          all_goals try omega
          all_goals exact hk
        | some c =>
          obtain ⟨v, p, k⟩ := c
          have hrd := hr1 _ hc
          rw [hc] at hgo
          obtain ⟨hv, p0, p1, k0, k1, vp⟩ := hbd _ _ _ hc
          clear hr1 hr2 hbd hc
          dsimp only at hgo
          obtain ⟨p, rfl⟩ := Int.eq_ofNat_of_zero_le p0
          obtain ⟨k, rfl⟩ := Int.eq_ofNat_of_zero_le (Int.le_of_lt k0)
          have hip : inI p := ⟨by omega, by omega⟩
          have hik : inI k := ⟨by omega, by omega⟩
          have h255 : 0 ≤ (v.toNat : Int) ∧ (v.toNat : Int) < 256 := ⟨by omega, by have := v.toNat_lt; omega⟩
          by_cases hal : alw v p k a.length done put = 0
          · rw [if_neg (fun h => h hal)] at hgo
            obtain ⟨ha1, ha2⟩ := alw_ok hv hal
            by_cases hv1 : v = 100
            · have hvd : ((v.toNat : Int) = 100) = True := (show ((v.toNat : Int) = 100) = (v = 100) from u8_k v 100 (by decide)).trans (eq_true hv1)
              have e5 : ((p : Int) - 1).toNat = p - 1 := by omega
              rw [if_pos hv1, e5] at hgo
              obtain ⟨hd1, hd2⟩ := ha1 hv1
              have hp0 := vp hv1
              have hsl : (seg a done (p - 1)).length ≤ p := by rw [seg_len (by omega) (by omega)]; omega
              simp -dsimp -implicitDefEqProofs only [hg, hi3, hrd, hal, hvd, e5, fltV, CRead, CAlw, CKeep, CFlt, strRows_len, strRows_sub, strRows_all, strRows_app, unStr_rows, UInt8.ofNat_toNat, Ev.St.giveC, ↓Ev.P, Ev.Q, Bool.cond_true, Bool.cond_false, eq_self, forall_eq_or_imp, implies_true, forall_const, forall_eq, ↓reduceIte, reduceIte, Nat.reduceEqDiff, Nat.reduceAdd, reduceCtorEq, Nat.reduceSub, Int.reduceToNat, Int.reduceLE, Int.reduceLT, Int.reduceNeg, Nat.reduceBEq, Nat.reduceMul, Nat.reduceLeDiff, Nat.reduceMod, UInt8.reduceOfNat, Nat.reduceLT, Int.reduceEq, Int.reduceAdd, Int.reduceSub, Int.reduceMul]
              repeat' (first | with_reducible assumption | refine And.intro ?_ ?_ | intro _ | (rw [Ev.xStp_eq]; simp -dsimp -implicitDefEqProofs only [hg, hi3, hrd, hal, hvd, e5, fltV, CRead, CAlw, CKeep, CFlt, strRows_len, strRows_sub, strRows_all, strRows_app, unStr_rows, UInt8.ofNat_toNat, Ev.St.giveC, ↓Ev.P, Ev.Q, Bool.cond_true, Bool.cond_false, eq_self, forall_eq_or_imp, implies_true, forall_const, forall_eq, ↓reduceIte, reduceIte, Nat.reduceEqDiff, Nat.reduceAdd, reduceCtorEq, Nat.reduceSub, Int.reduceToNat, Int.reduceLE, Int.reduceLT, Int.reduceNeg, Nat.reduceBEq, Nat.reduceMul, Nat.reduceLeDiff, Nat.reduceMod, UInt8.reduceOfNat, Nat.reduceLT, Int.reduceEq, Int.reduceAdd, Int.reduceSub, Int.reduceMul]))
              all_goals try omega
              refine xAgain_intro (L.length - (i + 1)) [0, 3] (by omega) (by simp -dsimp -implicitDefEqProofs only [↓Ev.xStp_eq, ↓Ev.P, Ev.Q, Bool.cond_true, Bool.cond_false, eq_self, forall_eq_or_imp, implies_true, forall_const, forall_eq, ↓reduceIte, reduceIte, Nat.reduceEqDiff, Nat.reduceAdd, reduceCtorEq, Nat.reduceSub, Int.reduceToNat, Int.reduceLE, Int.reduceLT, Int.reduceNeg, Nat.reduceBEq, Nat.reduceMul, Nat.reduceLeDiff, Nat.reduceMod, UInt8.reduceOfNat, Nat.reduceLT, Int.reduceEq, Int.reduceAdd, Int.reduceSub, Int.reduceMul]) ⟨i + 1, out ++ seg a done (p - 1), (p : Int) - 1 + k, put, by omega, rfl, by omega, by omega, by rw [List.length_append]; rw [seg_len (by omega) (by omega)]; omega, ?_, ?_, ?_⟩
              · intro x hx; rcases List.mem_append.1 hx with hx | hx
                · exact ho x hx
                · exact hA x (seg_mem hx)
              · rw [show L.length - (i + 1) = m by omega]; exact hgo
              · refine .inr ?_
                simp -dsimp -implicitDefEqProofs only [↓Ev.xStp_eq, ↓Ev.P, Ev.Q, Bool.cond_true, Bool.cond_false, eq_self, forall_eq_or_imp, implies_true, forall_const, forall_eq, ↓reduceIte, reduceIte, Nat.reduceEqDiff, Nat.reduceAdd, reduceCtorEq, Nat.reduceSub, Int.reduceToNat, Int.reduceLE, Int.reduceLT, Int.reduceNeg, Nat.reduceBEq, Nat.reduceMul, Nat.reduceLeDiff, Nat.reduceMod, UInt8.reduceOfNat, Nat.reduceLT, Int.reduceEq, Int.reduceAdd, Int.reduceSub, Int.reduceMul]
                rfl
            · have hv2 : v = 97 := hv.resolve_right hv1
              have hvd : ((v.toNat : Int) = 100) = False := (show ((v.toNat : Int) = 100) = (v = 100) from u8_k v 100 (by decide)).trans (eq_false hv1)
              rw [if_neg hv1] at hgo
              obtain ⟨hd1, hd2⟩ := ha2 hv2
              by_cases hsh : (L.length : Int) - 1 - i < k
              · rw [if_pos hsh] at hgo
                subst hgo
                simp -dsimp -implicitDefEqProofs only [hg, hi3, hrd, hal, hvd, hsh, fltV, CRead, CAlw, CKeep, CFlt, strRows_len, strRows_sub, strRows_all, strRows_app, unStr_rows, UInt8.ofNat_toNat, Ev.St.giveC, ↓Ev.P, Ev.Q, Bool.cond_true, Bool.cond_false, eq_self, forall_eq_or_imp, implies_true, forall_const, forall_eq, ↓reduceIte, reduceIte, Nat.reduceEqDiff, Nat.reduceAdd, reduceCtorEq, Nat.reduceSub, Int.reduceToNat, Int.reduceLE, Int.reduceLT, Int.reduceNeg, Nat.reduceBEq, Nat.reduceMul, Nat.reduceLeDiff, Nat.reduceMod, UInt8.reduceOfNat, Nat.reduceLT, Int.reduceEq, Int.reduceAdd, Int.reduceSub, Int.reduceMul]
                repeat' (first | with_reducible assumption | refine And.intro ?_ ?_ | intro _ | (rw [Ev.xStp_eq]; simp -dsimp -implicitDefEqProofs only [hg, hi3, hrd, hal, hvd, hsh, fltV, CRead, CAlw, CKeep, CFlt, strRows_len, strRows_sub, strRows_all, strRows_app, unStr_rows, UInt8.ofNat_toNat, Ev.St.giveC, ↓Ev.P, Ev.Q, Bool.cond_true, Bool.cond_false, eq_self, forall_eq_or_imp, implies_true, forall_const, forall_eq, ↓reduceIte, reduceIte, Nat.reduceEqDiff, Nat.reduceAdd, reduceCtorEq, Nat.reduceSub, Int.reduceToNat, Int.reduceLE, Int.reduceLT, Int.reduceNeg, Nat.reduceBEq, Nat.reduceMul, Nat.reduceLeDiff, Nat.reduceMod, UInt8.reduceOfNat, Nat.reduceLT, Int.reduceEq, Int.reduceAdd, Int.reduceSub, Int.reduceMul]))
                all_goals try omega
                all_goals exact hk
              · rw [if_neg hsh, Int.toNat_natCast, Int.toNat_natCast] at hgo
                have e1 : ((i : Int) + 1 + (k : Int)).toNat = i + 1 + k := by omega
                have e2 : ((i : Int) + 1).toNat = i + 1 := by omega
                have e3 : (i : Int) + (k : Int) + 1 = ((i + 1 + k : Nat) : Int) := by omega
                have hs1 : (seg a done p).length = p - done := seg_len (by omega) (by omega)
                have hs2 : (seg L (i + 1) (i + 1 + k)).length = k := by rw [seg_len (by omega) (by omega)]; omega
                unfold seg at hs1 hs2
                simp -dsimp -implicitDefEqProofs only [hg, hi3, hrd, hal, hvd, hsh, e1, e2, e3, hs1, hs2, List.length_append, fltV, CRead, CAlw, CKeep, CFlt, strRows_len, strRows_sub, strRows_all, strRows_app, unStr_rows, UInt8.ofNat_toNat, Ev.St.giveC, ↓Ev.P, Ev.Q, Bool.cond_true, Bool.cond_false, eq_self, forall_eq_or_imp, implies_true, forall_const, forall_eq, ↓reduceIte, reduceIte, Nat.reduceEqDiff, Nat.reduceAdd, reduceCtorEq, Nat.reduceSub, Int.reduceToNat, Int.reduceLE, Int.reduceLT, Int.reduceNeg, Nat.reduceBEq, Nat.reduceMul, Nat.reduceLeDiff, Nat.reduceMod, UInt8.reduceOfNat, Nat.reduceLT, Int.reduceEq, Int.reduceAdd, Int.reduceSub, Int.reduceMul]
                repeat' (first | with_reducible assumption | refine And.intro ?_ ?_ | intro _ | (rw [Ev.xStp_eq]; simp -dsimp -implicitDefEqProofs only [hg, hi3, hrd, hal, hvd, hsh, e1, e2, e3, hs1, hs2, List.length_append, fltV, CRead, CAlw, CKeep, CFlt, strRows_len, strRows_sub, strRows_all, strRows_app, unStr_rows, UInt8.ofNat_toNat, Ev.St.giveC, ↓Ev.P, Ev.Q, Bool.cond_true, Bool.cond_false, eq_self, forall_eq_or_imp, implies_true, forall_const, forall_eq, ↓reduceIte, reduceIte, Nat.reduceEqDiff, Nat.reduceAdd, reduceCtorEq, Nat.reduceSub, Int.reduceToNat, Int.reduceLE, Int.reduceLT, Int.reduceNeg, Nat.reduceBEq, Nat.reduceMul, Nat.reduceLeDiff, Nat.reduceMod, UInt8.reduceOfNat, Nat.reduceLT, Int.reduceEq, Int.reduceAdd, Int.reduceSub, Int.reduceMul]))
                all_goals try omega
                refine xAgain_intro (L.length - (i + 1 + k)) [0, 4] (by omega) (by simp -dsimp -implicitDefEqProofs only [↓Ev.xStp_eq, ↓Ev.P, Ev.Q, Bool.cond_true, Bool.cond_false, eq_self, forall_eq_or_imp, implies_true, forall_const, forall_eq, ↓reduceIte, reduceIte, Nat.reduceEqDiff, Nat.reduceAdd, reduceCtorEq, Nat.reduceSub, Int.reduceToNat, Int.reduceLE, Int.reduceLT, Int.reduceNeg, Nat.reduceBEq, Nat.reduceMul, Nat.reduceLeDiff, Nat.reduceMod, UInt8.reduceOfNat, Nat.reduceLT, Int.reduceEq, Int.reduceAdd, Int.reduceSub, Int.reduceMul]) ⟨i + 1 + k, out ++ seg a done p ++ seg L (i + 1) (i + 1 + k), p, p, by omega, rfl, by omega, by omega, ?_, ?_, ?_, ?_⟩
                · unfold seg; rw [List.length_append, List.length_append, hs1, hs2]; omega
                · intro x hx; rcases List.mem_append.1 hx with hx | hx
                  · rcases List.mem_append.1 hx with hx | hx
                    · exact ho x hx
                    · exact hA x (seg_mem hx)
                  · exact hL x (seg_mem hx)
                · rw [show L.length - (i + 1 + k) = m - k by omega, Int.toNat_natCast]; exact hgo
                · refine .inr ?_
                  simp -dsimp -implicitDefEqProofs only [↓Ev.xStp_eq, ↓Ev.P, Ev.Q, Bool.cond_true, Bool.cond_false, eq_self, forall_eq_or_imp, implies_true, forall_const, forall_eq, ↓reduceIte, reduceIte, Nat.reduceEqDiff, Nat.reduceAdd, reduceCtorEq, Nat.reduceSub, Int.reduceToNat, Int.reduceLE, Int.reduceLT, Int.reduceNeg, Nat.reduceBEq, Nat.reduceMul, Nat.reduceLeDiff, Nat.reduceMod, UInt8.reduceOfNat, Nat.reduceLT, Int.reduceEq, Int.reduceAdd, Int.reduceSub, Int.reduceMul]
                  rfl
          · rw [if_pos hal] at hgo
            subst hgo
            simp -dsimp -implicitDefEqProofs only [hg, hi3, hrd, hal, fltV, CRead, CAlw, CKeep, CFlt, strRows_len, strRows_sub, strRows_all, strRows_app, unStr_rows, UInt8.ofNat_toNat, Ev.St.giveC, ↓Ev.P, Ev.Q, Bool.cond_true, Bool.cond_false, eq_self, forall_eq_or_imp, implies_true, forall_const, forall_eq, ↓reduceIte, reduceIte, Nat.reduceEqDiff, Nat.reduceAdd, reduceCtorEq, Nat.reduceSub, Int.reduceToNat, Int.reduceLE, Int.reduceLT, Int.reduceNeg, Nat.reduceBEq, Nat.reduceMul, Nat.reduceLeDiff, Nat.reduceMod, UInt8.reduceOfNat, Nat.reduceLT, Int.reduceEq, Int.reduceAdd, Int.reduceSub, Int.reduceMul]
            repeat' (first | with_reducible assumption | refine And.intro ?_ ?_ | intro _ | (rw [Ev.xStp_eq]; simp -dsimp -implicitDefEqProofs only [hg, hi3, hrd, hal, fltV, CRead, CAlw, CKeep, CFlt, strRows_len, strRows_sub, strRows_all, strRows_app, unStr_rows, UInt8.ofNat_toNat, Ev.St.giveC, ↓Ev.P, Ev.Q, Bool.cond_true, Bool.cond_false, eq_self, forall_eq_or_imp, implies_true, forall_const, forall_eq, ↓reduceIte, reduceIte, Nat.reduceEqDiff, Nat.reduceAdd, reduceCtorEq, Nat.reduceSub, Int.reduceToNat, Int.reduceLE, Int.reduceLT, Int.reduceNeg, Nat.reduceBEq, Nat.reduceMul, Nat.reduceLeDiff, Nat.reduceMod, UInt8.reduceOfNat, Nat.reduceLT, Int.reduceEq, Int.reduceAdd, Int.reduceSub, Int.reduceMul]))
            all_goals try omega
            all_goals exact hk
      · have _t := trivial
        have hi3 : ¬ (i : Int) < L.length := by omega
        rw [show L.length - i = 0 by omega, rcsGo, rcsEnd] at hgo
        obtain ⟨done, rfl⟩ := Int.eq_ofNat_of_zero_le hd0
        rw [Int.toNat_natCast] at hgo
        have hdl : done ≤ a.length := by omega
        have e4 : (a.take a.length).drop done = a.drop done := by rw [List.take_length]
        have hsl : (a.drop done).length = a.length - done := List.length_drop
        have hmem : ∀ x ∈ out ++ a.drop done, x.length ≤ 1099511627776 := by
          intro x hx; rcases List.mem_append.1 hx with hx | hx
          · exact ho x hx
          · exact hA x (List.mem_of_mem_drop hx)
        have hlen : (out ++ a.drop done).length ≤ 1099511627776 := by rw [List.length_append]; omega
        by_cases hok : okUp (out ++ a.drop done).length (out ++ a.drop done) = true
        · rw [if_pos hok] at hgo
          subst hgo; exact absurd rfl hz
        · rw [if_neg hok] at hgo
          subst hgo
          simp -dsimp -implicitDefEqProofs only [hi3, e4, hok, CLns, fltV, CRead, CAlw, CKeep, CFlt, strRows_len, strRows_sub, strRows_all, strRows_app, unStr_rows, UInt8.ofNat_toNat, Ev.St.giveC, ↓Ev.P, Ev.Q, Bool.cond_true, Bool.cond_false, eq_self, forall_eq_or_imp, implies_true, forall_const, forall_eq, ↓reduceIte, reduceIte, Nat.reduceEqDiff, Nat.reduceAdd, reduceCtorEq, Nat.reduceSub, Int.reduceToNat, Int.reduceLE, Int.reduceLT, Int.reduceNeg, Nat.reduceBEq, Nat.reduceMul, Nat.reduceLeDiff, Nat.reduceMod, UInt8.reduceOfNat, Nat.reduceLT, Int.reduceEq, Int.reduceAdd, Int.reduceSub, Int.reduceMul]
          repeat' (first | with_reducible assumption | refine And.intro ?_ ?_ | intro _ | (rw [Ev.xStp_eq]; simp -dsimp -implicitDefEqProofs only [hi3, e4, hok, CLns, fltV, CRead, CAlw, CKeep, CFlt, strRows_len, strRows_sub, strRows_all, strRows_app, unStr_rows, UInt8.ofNat_toNat, Ev.St.giveC, ↓Ev.P, Ev.Q, Bool.cond_true, Bool.cond_false, eq_self, forall_eq_or_imp, implies_true, forall_const, forall_eq, ↓reduceIte, reduceIte, Nat.reduceEqDiff, Nat.reduceAdd, reduceCtorEq, Nat.reduceSub, Int.reduceToNat, Int.reduceLE, Int.reduceLT, Int.reduceNeg, Nat.reduceBEq, Nat.reduceMul, Nat.reduceLeDiff, Nat.reduceMod, UInt8.reduceOfNat, Nat.reduceLT, Int.reduceEq, Int.reduceAdd, Int.reduceSub, Int.reduceMul]))
          all_goals try omega
          all_goals first | exact hk | exact hmem | exact hlen | trace_state
end Go.Proofs.YtlghobefhmpfkaaGreatDoor
set_option linter.unusedVariables false
set_option linter.unusedSimpArgs false
namespace Go.Proofs.YtlghobefhmpfkaaGreatDoor
open Go Go.Ev Go.Rcs
set_option maxRecDepth 100000
variable {G : World → Prop}
set_option maxHeartbeats 4000000 in
theorem s11 (hG : ∀ w, G w → ErrR w) : Sound G Tryz.prog 11 CRun := by
  refine sd11 (T := tabT rcsTab) (tab_cons s33 (tab_cons s34 (tab_cons (s35 hG) (tab_cons s36 (tab_cons s37 (tab_cons s38 tab_nil)))))) (stC_lawful _) (st_hX fun args st p x st' K h hp hk => ?_)
  split at h <;> simp only [Option.map_eq_some_iff, Prod.mk.injEq, reduceCtorEq] at h
  obtain ⟨a, hl, rfl, h2⟩ := h
  rename_i s rows
  rw [unStr_eq hl] at *
  obtain ⟨s, rfl⟩ := ex_str s
  simp only [sem_str] at hp h2
  obtain ⟨h1, ha, hA⟩ := hp
  refine ⟨Nat.le_of_ble_eq_true rfl, ?_⟩
  by_cases h4 : 1048576 < s.length
  · rw [rcsRun, if_pos h4, runRe _ _ _ (by decide), Prod.mk.injEq] at h2
    obtain ⟨rfl, rfl⟩ := h2
    have h5 : (1048576 : Int) < (s.length : Int) := by omega
    refine ⟨[], ?_⟩
    simp -dsimp -implicitDefEqProofs only [S11, S11_0, S11r1, S11_1, R11, CFlt, fltV, h5, ↓Ev.xStp_eq, ↓Ev.P, Ev.Q, Bool.cond_true, Bool.cond_false, eq_self, forall_eq_or_imp, implies_true, forall_const, forall_eq, ↓reduceIte, reduceIte, Nat.reduceEqDiff, Nat.reduceAdd, reduceCtorEq, Nat.reduceSub, Int.reduceToNat, Int.reduceLE, Int.reduceLT, Int.reduceNeg, Nat.reduceBEq, Nat.reduceMul, Nat.reduceLeDiff, Nat.reduceMod, UInt8.reduceOfNat, Nat.reduceLT, Int.reduceEq, Int.reduceAdd, Int.reduceSub, Int.reduceMul]
    exact hk
  · rw [rcsRun, if_neg h4] at h2
    obtain ⟨b1, b2⟩ := lns_sz s (by omega)
    generalize hY : rcsGo (lns s) a (lns s).length 0 [] 0 (-1) = Y at h2
    by_cases hz : Y.2.2 = 0
    · rw [runR, if_pos hz, Prod.mk.injEq] at h2
      obtain ⟨rfl, rfl⟩ := h2
      by_cases hL0 : (lns s).length = 0
      · exact ⟨[1], runS0 (by omega) ha hA rfl b1 b2 hY hz hL0 hk⟩
      · exact ⟨[2], runS1 (by omega) ha hA rfl b1 b2 hY hz (by omega) hk⟩
    · rw [runR, if_neg hz, Prod.mk.injEq] at h2
      obtain ⟨rfl, rfl⟩ := h2
      exact ⟨[], runE (by omega) ha hA rfl b1 b2 hY hz hk⟩
end Go.Proofs.YtlghobefhmpfkaaGreatDoor
