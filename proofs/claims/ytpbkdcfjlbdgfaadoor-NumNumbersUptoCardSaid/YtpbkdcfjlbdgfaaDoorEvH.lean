/- The evaluator's operations on memory are sound: aggregates, literal rows, append, slices of rows, bytes to text, panics. -/
import Derived.Test.YtpbkdcfjlbdgfaaDoorEvG
import Derived.Maps.AppendAt
import Derived.Laws.BytesArg
set_option linter.unusedVariables false
set_option linter.unusedSimpArgs false
namespace Go.Ev
open Go

section
variable {G : World → Prop} {H : Hd G} {XB : Nat → Prop} {N : Nat} {w : World} {m : Nat → Value} {B : Nat → Nat → Prop} {a : Act} {st : St}
variable {P : Program} {o : Oper} {T : FuncId → Contract} {K : St → Prop} {Kp : SV → Store → Prop}

theorem foldl_set (off : Nat) : ∀ (l : List Value) (k : Nat) (cs : Array Value), off + k + l.length ≤ cs.size →
    ((l.zipIdx k).foldl (fun cs (x : Value × Nat) => cs.setIfInBounds (off + x.2) x.1) cs).toList = cs.toList.take (off + k) ++ l ++ cs.toList.drop (off + k + l.length)
  | [], k, cs, _ => by simp
  | v :: r, k, cs, h => by
    simp only [List.length_cons] at h
    rw [List.zipIdx_cons, List.foldl_cons, foldl_set off r (k + 1) _ (by simp; omega)]
    have hlt : off + k < cs.toList.length := by simp; omega
    simp only [Array.toList_setIfInBounds]
    rw [show off + (k + 1) = off + k + 1 by omega]
    rw [List.take_succ_eq_append_getElem (by simpa using hlt)]
    simp only [List.getElem_set_self, List.take_set_of_le (Nat.le_refl _), List.length_cons, List.append_assoc, List.cons_append, List.nil_append]
    rw [List.drop_set_of_lt (by omega), show off + k + 1 + r.length = off + k + (r.length + 1) by omega]

theorem splice_vals (v : Value) (off : Nat) (cs : Array Value) (h : off + v.cells.size ≤ cs.size) :
    (v.cells.zipIdx.foldl (fun cs (c, j) => cs.setIfInBounds (off + j) c) cs).toList = cs.toList.take off ++ v.cells.toList ++ cs.toList.drop (off + v.cells.toList.length) := by
  have := foldl_set off v.cells.toList 0 cs (by simpa using h)
  rw [Nat.add_zero] at this
  rw [← this, ← Array.foldl_toList, Array.toList_zipIdx]

/-- Parts laid over a zero value. -/
theorem fill_ok (h : Sat H N w m B a st) (place : Nat → Option (Nat × Nat)) : ∀ (ps : List (Nat × Operand)) (qs : List (Nat × Nat × Rv)) (l l' : List SV) (cs : Array Value),
    ps.map (fun p => (place p.1, opn p.2)) = qs.map (fun q => (some (q.1, q.2.1), some q.2.2)) → CnL m st.n (vw H w B st.ob) l cs.toList → (∀ u ∈ cs.toList, u.oneCell' = true) → parts st l qs = some l' →
    ∃ cs', Instr.fill place cs (ps.map fun p => (p.1, a.eval p.2)) = some cs' ∧ CnL m st.n (vw H w B st.ob) l' cs'.toList ∧ ∀ u ∈ cs'.toList, u.oneCell' = true
  | [], [], l, l', cs, _, hl, h1, e => by
    simp only [parts, Option.some.injEq] at e; subst e
    exact ⟨cs, rfl, hl, h1⟩
  | (i, x) :: ps, (off, n, r) :: qs, l, l', cs, hf, hl, h1, e => by
    simp only [List.map_cons, List.cons.injEq, Prod.mk.injEq] at hf
    obtain ⟨⟨hp1, hp2⟩, hf⟩ := hf
    have hx := get_ok h hp2
    simp only [parts] at e
    cases ec : (r.get st).cells with
    | none => rw [ec] at e; cases e
    | some xs =>
      rw [ec] at e
      simp only at e
      obtain ⟨⟨e1, e2⟩, e3⟩ := Option.ite_none_right_eq_some.1 e
      obtain ⟨c1, c2⟩ := cells_ok hx ec
      have l1 := CnL_length c1
      have l2 := CnL_length hl
      have hsz : (a.eval x).cells.size = n := by rw [← Array.length_toList]; omega
      have hcs : cs.size = l.length := by rw [← Array.length_toList]; omega
      have hsp := splice_vals (a.eval x) off cs (by omega)
      have hrec := fill_ok h place ps qs (splice l off xs) l' ((a.eval x).cells.zipIdx.foldl (fun cs (c, j) => cs.setIfInBounds (off + j) c) cs) hf (by
          rw [hsp, splice, show xs.length = (a.eval x).cells.toList.length by omega]
          exact CnL_append (CnL_append (CnL_take off hl) c1) (CnL_drop _ hl)) (by
          rw [hsp]
          intro u hu
          simp only [List.mem_append] at hu
          rcases hu with (hu | hu) | hu
          · exact h1 u (List.mem_of_mem_take hu)
          · exact c2 u hu
          · exact h1 u (List.mem_of_mem_drop hu)) e3
      obtain ⟨cs', g1, g2, g3⟩ := hrec
      refine ⟨cs', ?_, g2, g3⟩
      have hno : ¬ ((decide ((a.eval x).cells.size ≠ n) || decide (off + (a.eval x).cells.size > cs.size)) = true) := by simp [hsz]; omega
      simp only [List.map_cons, Instr.fill, hp1]
      rw [if_neg hno]
      exact g1
  | [], _ :: _, _, _, _, hf, _, _, _ => by simp at hf
  | _ :: _, [], _, _, _, hf, _, _, _ => by simp at hf


theorem ok_bd (h : Sat H N w m B a st) {d : Nat} (hd : d < N) {t : TypeId} {fs : Array Field} {z : Value} {ps : Array (Nat × Operand)} {qs : List (Nat × Nat × Rv)} (ho : o.op = .build t ps) (ht : P.underlying t = some (.struct fs)) (hz : (P.info? t).bind (·.zero) = some z)
    (h1 : ∀ v ∈ z.cells.toList, v.oneCell' = true) {places : Array (Nat × Nat)} (hpl : ∀ w : World, (fs.mapM fun f => do pure (f.offset, ← sizeOf f.type) : Sem (Array (Nat × Nat))).run P w = .ok places w)
    (hq : ps.toList.map (fun p => (places[p.1]?, opn p.2)) = qs.map (fun q => (some (q.1, q.2.1), some q.2.2)))
    (hs : step T (.bd d z.cells.toList qs) st K Kp) : PV m st.n (vw H w B st.ob) P o a d K st := by
  simp only [step] at hs
  cases e : parts st (z.cells.toList.map fun v => .d (.v v)) qs with
  | none => rw [e] at hs; exact hs.elim
  | some l =>
    rw [e] at hs
    obtain ⟨cs, g1, g2, g3⟩ := fill_ok h (places[·]?) ps.toList qs _ l z.cells hq (CnL_dv _ h1) h1 e
    refine PV.pure (v := .agg cs) h hd ?_ hs ?_
    · simp only [Cn]; exact ⟨_, rfl, g2, g3⟩
    · intro w
      simp only [execOp, ho, Instr.build, Sem.run_bind, zero_run hz, Result.andThen_ok, run_underlying ht, hpl, Array.toList_map]
      rw [g1]; rfl

/-- Parts of a literal row, one behind the other, each of sz cells. -/
theorem fillRow_ok (sz : Nat) : ∀ (ps : List (Nat × Operand)) (qs : List Rv) (i : Nat) (st st1 : St) (B : Nat → Nat → Prop) (rows : List (List D)) (cs : Array Value), Sat H N w m B a st →
    ps.map (fun p => (p.1, opn p.2)) = (qs.zipIdx i).map (fun q => (q.2, some q.1)) → cs.size = (i + ps.length) * sz → rowParts st sz qs = some (rows, st1) →
    ∃ cs' vs B1, Instr.fill (fun i => some (i * sz, sz)) cs (ps.map fun p => (p.1, a.eval p.2)) = some cs' ∧ cs'.toList = cs.toList.take (i * sz) ++ vs ∧
      Sat H N w m B1 a st1 ∧ Since w m B st.store w m B1 st1.store ∧ RdL (vw H w B1 st1.ob) rows.flatten vs ∧ (∀ r ∈ rows, r.length = sz) ∧ rows.length = ps.length ∧ st1.n = st.n ∧ st1.sl = st.sl
  | [], [], i, st, st1, B, rows, cs, h, _, hc, e => by
    simp only [rowParts, Option.some.injEq, Prod.mk.injEq] at e
    obtain ⟨rfl, rfl⟩ := e
    refine ⟨cs, [], B, rfl, ?_, h, Since.refl _ _ _ _, trivial, by simp, rfl, rfl, rfl⟩
    rw [List.append_nil, List.take_of_length_le (by simp at hc ⊢; omega)]
  | (j, x) :: ps, r :: qs, i, st, st1, B, rows, cs, h, hf, hc, e => by
    simp only [List.map_cons, List.zipIdx_cons, List.cons.injEq, Prod.mk.injEq] at hf
    obtain ⟨⟨rfl, hp⟩, hf⟩ := hf
    have hx := get_ok h hp
    simp only [rowParts] at e
    cases ec : (r.get st).cells with
    | none => rw [ec] at e; cases e
    | some xs =>
      rw [ec] at e
      simp only at e
      obtain ⟨e1, e3⟩ := Option.ite_none_right_eq_some.1 e
      simp only [Option.bind_eq_some_iff, Option.map_eq_some_iff, Prod.exists, Prod.mk.injEq] at e3
      obtain ⟨ds, st2, e4, rs, st3, e5, rfl, rfl⟩ := e3
      obtain ⟨c1, c2⟩ := cells_ok hx ec
      obtain ⟨B1, h2, s2, r2, n2, l2⟩ := frzL_ok h c1 e4
      have lx := CnL_length c1
      have lr := RdL_length r2
      have hsz : (a.eval x).cells.size = sz := by rw [← Array.length_toList]; omega
      have hsz' : (a.eval x).cells.toList.length = sz := by omega
      simp only [List.length_cons] at hc
      have hc' : j * sz + sz ≤ cs.size := by
        rw [hc, show (j + (ps.length + 1)) * sz = j * sz + sz + ps.length * sz by simp only [Nat.add_mul, Nat.one_mul]; omega]
        omega
      have hsp := splice_vals (a.eval x) (j * sz) cs (by omega)
      obtain ⟨cs', vs, B2, g1, g2, g3, g4, g5, g6, g7, g8, g9⟩ := fillRow_ok sz ps qs (j + 1) st2 st3 B1 rs ((a.eval x).cells.zipIdx.foldl (fun cs (c, k) => cs.setIfInBounds (j * sz + k) c) cs) h2 hf (by
        rw [← Array.length_toList, hsp]
        simp only [List.length_append, List.length_take, List.length_drop, Array.length_toList]
        rw [hsz, show (j + 1 + ps.length) * sz = cs.size by rw [hc]; congr 1; omega]
        omega) e5
      refine ⟨cs', (a.eval x).cells.toList ++ vs, B2, ?_, ?_, g3, s2.trans g4, ?_, ?_, by simp [g7], g8.trans n2, g9.trans l2⟩
      · have hno : ¬ ((decide ((a.eval x).cells.size ≠ sz) || decide (j * sz + (a.eval x).cells.size > cs.size)) = true) := by simp [hsz]; omega
        simp only [List.map_cons, Instr.fill]
        rw [if_neg hno]
        exact g1
      · rw [g2, hsp, ← List.append_assoc]
        congr 1
        have e9 : (j + 1) * sz = (cs.toList.take (j * sz) ++ (a.eval x).cells.toList).length := by
          simp only [List.length_append, List.length_take, Array.length_toList, hsz, Nat.add_mul, Nat.one_mul]
          omega
        rw [e9, List.take_left']
        rfl
      · simp only [List.flatten_cons]
        exact RdL_append (RdL_mono g4.vw _ _ r2) g5
      · intro q hq
        rcases List.mem_cons.1 hq with rfl | hq
        · omega
        · exact g6 q hq
  | [], _ :: _, _, _, _, _, _, _, _, hf, _, _ => by simp at hf
  | _ :: _, [], _, _, _, _, _, _, _, hf, _, _ => by simp at hf

theorem ok_bs (h : Sat H N w m B a st) {d : Nat} (hd : d < N) {t e : TypeId} {n sz : Nat} {z : Value} {ps : Array (Nat × Operand)} {qs : List Rv} (ho : o.op = .buildSlice t n ps) (ht : P.underlying t = some (.slice e)) (hz : (P.info? e).bind (·.zero) = some z)
    (hsz : (P.info? e).map (·.size) = some sz) (hn : n * sz ≤ 2 ^ 24) (hn2 : n ≤ 2 ^ 24) (hpl : ps.size = n) (hq : ps.toList.map (fun p => (p.1, opn p.2)) = qs.zipIdx.map (fun q => (q.2, some q.1)))
    (hs : step T (.bs d e sz qs) st K Kp) : VOk H N XB w m B st.store a d K ((execOp a.eval o).run P w) := by
  simp only [step] at hs
  cases er : rowParts st sz qs with
  | none => rw [er] at hs; exact hs.elim
  | some y =>
    obtain ⟨rows, st1⟩ := y
    rw [er] at hs
    simp only [need_some] at hs
    cases hi : P.info? e with
    | none => rw [hi] at hsz; cases hsz
    | some inf =>
    have hsz0 := hsz
    rw [hi] at hsz
    simp only [Option.map_some, Option.some.injEq] at hsz
    have hszr : (sizeOf e).run P w = .ok sz w := by simp [sizeOf, typeInfo, hi, hsz]
    have key : ∀ cs : Array Value, cs.size = n * sz → ∃ cs' B1, Instr.fill (fun i => some (i * sz, sz)) cs (ps.toList.map fun p => (p.1, a.eval p.2)) = some cs' ∧
        Sat H N w m B1 a st1 ∧ Since w m B st.store w m B1 st1.store ∧ RdL (vw H w B1 st1.ob) rows.flatten cs'.toList ∧ (∀ r ∈ rows, r.length = sz) ∧ rows.length = n := by
      intro cs hcs
      obtain ⟨cs', vs, B1, g1, g2, g3, g4, g5, g6, g7, _⟩ := fillRow_ok sz ps.toList qs 0 st st1 B rows cs h hq (by simp [hpl, hcs]) er
      simp only [Nat.zero_mul, List.take_zero, List.nil_append] at g2
      exact ⟨cs', B1, g1, g3, g4, by rw [g2]; exact g5, g6, by rw [g7]; simpa using hpl⟩
    have h24 : ¬ (n * sz > 16777216) := by have : (2 : Nat) ^ 24 = 16777216 := by decide
                                           omega
    by_cases h0 : n * sz = 0
    · obtain ⟨cs', B1, g1, g3, g4, g5, g6, g7⟩ := key #[] (by simp [h0])
      have hv := new_row (XB := XB) (K := K) (d := d) (cap := n) g3 hd (t := e) (vs := cs') g5 g6 g7 (by omega) hs (r := (execOp a.eval o).run P w) (by
        simp only [execOp, ho, Instr.buildSlice, Sem.run_bind, run_underlying ht, Result.andThen_ok, hszr, h0, h24]
        simp [h0, g1, newRow, g7, Array.range_zero'])
      obtain ⟨v, w', m', B', st', r1, r2, r3, r4, r5⟩ := hv
      exact ⟨v, w', m', B', st', r1, r2, r3, g4.trans r4, r5⟩
    · obtain ⟨cs', B1, g1, g3, g4, g5, g6, g7⟩ := key ((Array.range (n * sz)).map (z.cells[· % z.cells.size]!)) (by simp)
      have hv := new_row (XB := XB) (K := K) (d := d) (cap := n) g3 hd (t := e) (vs := cs') g5 g6 g7 (by omega) hs (r := (execOp a.eval o).run P w) (by
        simp only [execOp, ho, Instr.buildSlice, Sem.run_bind, run_underlying ht, Result.andThen_ok, hszr]
        simp [h0, h24, zero_run hz, g1, newRow, g7])
      obtain ⟨v, w', m', B', st', r1, r2, r3, r4, r5⟩ := hv
      exact ⟨v, w', m', B', st', r1, r2, r3, g4.trans r4, r5⟩

end
end Go.Ev
