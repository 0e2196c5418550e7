/- The evaluator's operations on memory are sound: loads, stores, new variables and rows, append. -/
import Derived.Test.YtpbkdcfjlbdgfaaDoorEvE
set_option linter.unusedVariables false
set_option linter.unusedSimpArgs false
namespace Go.Ev
open Go

section
variable {G : World → Prop} {H : Hd G} {XB : Nat → Prop} {N : Nat} {w : World} {m : Nat → Value} {B : Nat → Nat → Prop} {a : Act} {st : St}
variable {P : Program} {o : Oper} {T : FuncId → Contract} {K : St → Prop} {Kp : SV → Store → Prop}

/-- What a load at a type gives: an aggregate of so many cells, or one cell. -/
def ldT (P : Program) (t : TypeId) : Option (Bool × Nat) :=
  match P.underlying t, (P.info? t).map (·.size) with
  | some (.struct _), some n | some (.array _ _), some n => some (true, n)
  | some _, some n => some (false, n)
  | _, _ => none

theorem ldT_run {t : TypeId} {agg : Bool} {n : Nat} (h : ldT P t = some (agg, n)) (w : World) : (isAgg t).run P w = .ok agg w ∧ (sizeOf t).run P w = .ok n w := by
  unfold ldT at h
  cases hu : P.underlying t with
  | none => simp [hu] at h
  | some u =>
    cases hi : P.info? t with
    | none => cases u <;> simp [hu, hi] at h
    | some inf =>
      rw [hu, hi] at h
      have h2 : (sizeOf t).run P w = .ok inf.size w := by simp [sizeOf, typeInfo, hi]
      cases u <;> simp only [Option.map_some, Option.some.injEq, Prod.mk.injEq] at h <;> obtain ⟨rfl, rfl⟩ := h <;> exact ⟨by simp [isAgg, run_underlying hu], h2⟩

theorem run_ld_agg {t : TypeId} {n : Nat} (h : ldT P t = some (true, n)) {ad : Addr} {vs : List Value} (hl : vs.length = n) (hc : ∀ j v, vs[j]? = some v → w.cell? (ad.add j) = some v) : (loadVar t ad).run P w = .ok (.agg vs.toArray) w := by
  obtain ⟨h1, h2⟩ := ldT_run h w
  have h3 := run_loadCells_list (P := P) w ad vs hc
  rw [hl] at h3
  simp [loadVar, h1, h2, h3]
theorem run_ld_one {t : TypeId} {n : Nat} (h : ldT P t = some (false, n)) {ad : Addr} {v : Value} (hc : w.cell? ad = some v) : (loadVar t ad).run P w = .ok v w := by
  obtain ⟨h1, h2⟩ := ldT_run h w
  simp [loadVar, h1, hc]

theorem obj_cells (h : SOk H w m B st.store) {o : Nat} {t : TypeId} {l : List SV} (hl : lk st.ob o = some (.cells t l)) {b : Nat} (hb : m o = .pointer (some ⟨b, 0, none⟩)) :
    ∃ cs : Array Value, w.heap[b]? = some (.cells cs t (0, 0)) ∧ CnL m st.n (vw H w B st.ob) l cs.toList ∧ (∀ x ∈ cs.toList, x.oneCell' = true) ∧ ∀ x, B o x ↔ x = b := by
  obtain ⟨b', cs, h1, h2, h3, h4, h5⟩ := h.obs o _ hl
  rw [hb] at h1
  simp only [Value.pointer.injEq, Option.some.injEq, Addr.mk.injEq, and_true] at h1
  subst h1
  exact ⟨cs, h2, h3, h4, h5⟩

theorem cell_at {w : World} {b k : Nat} {cs : Array Value} {t : TypeId} {f : Nat × Nat} (h : w.heap[b]? = some (.cells cs t f)) : w.cell? ⟨b, k, none⟩ = cs[k]? := by simp [World.cell?, h]

theorem CnL_sub {n : Nat} {c : Rdr} {l : List SV} {vs : List Value} (h : CnL m n c l vs) (k j : Nat) : CnL m n c ((l.drop k).take j) ((vs.drop k).take j) := CnL_take j (CnL_drop k h)

theorem rdcells_vals {c : Rdr} {ad : Addr} : ∀ {l : List D} {k : Nat}, RdCells c ad k l → ∃ vs, RdL c l vs ∧ ∀ j v, vs[j]? = some v → c (ad.add (k + j)) v
  | [], _, _ => ⟨[], trivial, by simp⟩
  | d :: ds, k, h => by
    simp only [RdCells] at h
    obtain ⟨⟨u, h1, h2⟩, h3⟩ := h
    obtain ⟨vs, h4, h5⟩ := rdcells_vals h3
    refine ⟨u :: vs, ⟨h2, h4⟩, fun j v hj => ?_⟩
    cases j with
    | zero => simp at hj; subst hj; simpa using h1
    | succ j => simp at hj; have := h5 j v hj; rwa [show k + 1 + j = k + (j + 1) by omega] at this

/-- What a load yields, in whatever world whose blocks, but for some, stand as they stood. -/
def LV (XB : Nat → Prop) (w : World) (m : Nat → Value) (n : Nat) (c : Rdr) (P : Program) (o : Oper) (a : Act) (d : Nat) (K : St → Prop) (st : St) : Prop :=
  ∃ x v, K (st.put d x) ∧ Cn m n c x v ∧ ∀ w', (∀ b, b < w.heap.size → ¬ XB b → w'.heap[b]? = w.heap[b]?) → (execOp a.eval o).run P w' = .ok (.value v) w'
theorem LV.vok {XL : Nat → Prop} (h : Sat H N w m B a st) {d : Nat} (hd : d < N) (hp : LV XL w m st.n (vw H w B st.ob) P o a d K st) : VOk H N XB w m B st.store a d K ((execOp a.eval o).run P w) := by
  obtain ⟨x, v, h1, h2, h3⟩ := hp
  exact VOk.pure h hd h2 h1 (h3 w fun _ _ _ => rfl)

/-- A load out of data. -/
theorem ok_ld_data {XB : Nat → Prop} (hXd : ∀ b, ¬ owns B st.ob b → ¬ XB b) (h : Sat H N w m B a st) {d : Nat} {t : TypeId} {x : Operand} {agg : Bool} {n : Nat} (ho : o.op = .load t x) (ht : ldT P t = some (agg, n)) {ad : Addr} {cells : List D} (ha : a.eval x = .pointer (some ad))
    (hc : RdCells (vw H w B st.ob) ad 0 cells) (hs : if agg then n ≤ cells.length ∧ K (st.put d (.agg ((cells.take n).map .d))) else need cells[0]? fun y => K (st.put d (.d y))) :
    LV XB w m st.n (vw H w B st.ob) P o a d K st := by
  obtain ⟨vs, h1, h2⟩ := rdcells_vals hc
  simp only [Nat.zero_add] at h2
  have hlen := RdL_length h1
  have hcell : ∀ w' : World, (∀ b, b < w.heap.size → ¬ XB b → w'.heap[b]? = w.heap[b]?) → ∀ j v, vs[j]? = some v → w'.cell? (ad.add j) = some v := by
    intro w' hw j v hj
    obtain ⟨q1, q2, _⟩ := h2 j v hj
    rw [World.cell?_of_block (hw _ (cell_lt q1) (hXd _ q2))]; exact q1
  cases agg with
  | true =>
    simp only [if_true] at hs
    obtain ⟨hn, hs⟩ := hs
    refine ⟨_, .agg (vs.take n).toArray, hs, ?_, fun w' hw => ?_⟩
    · simp only [Cn]
      refine ⟨_, rfl, ?_, fun y hy => RdL_one h1 y (List.mem_of_mem_take (by simpa using hy))⟩
      have h3 : CnL m st.n (vw H w B st.ob) (cells.map .d) vs := CnL_of_RdL h1
      have := CnL_take n h3
      rwa [← List.map_take] at this
    · have hv := run_ld_agg (w := w') ht (ad := ad) (vs := vs.take n) (by rw [List.length_take]; omega) (fun j v hj => by
        rw [List.getElem?_take] at hj
        split at hj
        · exact hcell w' hw j v hj
        · cases hj)
      simp [execOp, ho, Instr.loadAt, Instr.sureAddr, ha, hv]
  | false =>
    simp only [Bool.false_eq_true, if_false] at hs
    cases hc0 : cells[0]? with
    | none => rw [hc0] at hs; exact hs.elim
    | some y =>
      rw [hc0] at hs
      obtain ⟨v, hv, hy⟩ := RdL_get h1 hc0
      refine ⟨.d y, v, hs, hy, fun w' hw => ?_⟩
      have := hcell w' hw 0 v hv
      rw [Addr.add_zero'] at this
      simp [execOp, ho, Instr.loadAt, Instr.sureAddr, ha, run_ld_one ht this]

theorem ok_ld {XB : Nat → Prop} (hXd : ∀ b, ¬ owns B st.ob b → ¬ XB b) (h : Sat H N w m B a st) {d : Nat} {t : TypeId} {x : Operand} {r : Rv} {agg : Bool} {n : Nat} (ho : o.op = .load t x) (hx : opn x = some r) (ht : ldT P t = some (agg, n))
    (hXo : ∀ o' y, (∃ k, r.get st = .ptr o' k) ∨ (∃ s i k, r.get st = .ep o' s i k) → lk st.ob o' = some y → y.has = true → ∀ b, B o' b → ¬ XB b)
    (hs : step T (.ld d agg n r) st K Kp) : LV XB w m st.n (vw H w B st.ob) P o a d K st := by
  have h1 := get_ok h hx
  simp only [step] at hs
  split at hs
  · -- a variable
    rename_i o' k e1
    have hXo := hXo o'
    rw [e1] at h1
    simp only [Cn] at h1
    obtain ⟨h2, b, h3, e⟩ := h1
    split at hs
    · rename_i t' l hl
      obtain ⟨cs, g1, g2, g3, g4⟩ := obj_cells h.store hl h3
      have hcl := CnL_length g2
      have hst : ∀ w' : World, (∀ b, b < w.heap.size → ¬ XB b → w'.heap[b]? = w.heap[b]?) → w'.heap[b]? = some (.cells cs t' (0, 0)) := fun w' hw => by
        rw [hw b (Array.getElem?_eq_some_iff.1 g1).1 (hXo _ (.inl ⟨k, e1⟩) hl rfl b ((g4 b).2 rfl))]; exact g1
      cases agg with
      | true =>
        simp only [if_true] at hs
        obtain ⟨hn, hs⟩ := hs
        refine ⟨_, .agg ((cs.toList.drop k).take n).toArray, hs, ?_, fun w' hw => ?_⟩
        · simp only [Cn]
          exact ⟨_, rfl, CnL_sub g2 k n, fun y hy => g3 y (List.mem_of_mem_drop (List.mem_of_mem_take (by simpa using hy)))⟩
        · have hv := run_ld_agg (w := w') ht (ad := ⟨b, k, none⟩) (vs := (cs.toList.drop k).take n) (by rw [List.length_take, List.length_drop]; omega) (fun j v hj => by
            rw [List.getElem?_take] at hj
            split at hj
            · rw [List.getElem?_drop] at hj
              rw [add0, cell_at (hst w' hw)]; simpa using hj
            · cases hj)
          simp [execOp, ho, Instr.loadAt, Instr.sureAddr, e, hv]
      | false =>
        simp only [Bool.false_eq_true, if_false] at hs
        cases hk : l[k]? with
        | none => rw [hk] at hs; exact hs.elim
        | some y =>
          rw [hk] at hs
          obtain ⟨v, hv, hy⟩ := CnL_get g2 hk
          refine ⟨y, v, hs, hy, fun w' hw => ?_⟩
          have : w'.cell? ⟨b, k, none⟩ = some v := by rw [cell_at (hst w' hw)]; simpa using hv
          simp [execOp, ho, Instr.loadAt, Instr.sureAddr, e, run_ld_one ht this]
    · exact hs.elim
  · rename_i cells e1
    rw [e1] at h1
    simp only [Cn] at h1
    obtain ⟨ad, e, hc⟩ := h1
    exact ok_ld_data hXd h ho ht e hc hs
  · rename_i cells e1
    rw [e1] at h1
    simp only [Cn, Rd] at h1
    obtain ⟨ad, e, hc⟩ := h1
    exact ok_ld_data hXd h ho ht e hc hs
  · -- an element of an own row
    rename_i o' sz i k e1
    have hXo := hXo o'
    rw [e1] at h1
    simp only [Cn] at h1
    obtain ⟨h2, g, len, cap, h3, e⟩ := h1
    split at hs
    · rename_i t' sz' rows hl
      obtain ⟨rfl, hs⟩ := hs
      cases hr : rows[i]? with
      | none => rw [hr] at hs; exact hs.elim
      | some r' =>
        rw [hr] at hs
        simp only [need_some] at hs
        obtain ⟨xs, q1, q2, q3, q4⟩ := h.store.obs o' _ hl
        have hrl := q3 r' (List.mem_of_getElem? hr)
        have hcell : ∀ w' : World, (∀ b, b < w.heap.size → ¬ XB b → w'.heap[b]? = w.heap[b]?) → ∀ j v, xs[j]? = some v → w'.cell? ⟨g, j, none⟩ = some v := by
          intro w' hw j v hj
          obtain ⟨_, p2⟩ := q1
          rcases p2 with ⟨f1, f2⟩ | ⟨g', cap', cur, f1, _, f3, f4, f5, f6, f7⟩
          · rw [h3] at f1; simp at f1
          · have hB := (q4 g').2 (by rw [f1]; rfl)
            rw [h3] at f1
            simp only [Value.slice.injEq, Option.some.injEq, Addr.mk.injEq, and_true] at f1
            have f3' : w'.heap[g']? = some (.cells cur t' (0, 0)) := by
              rw [hw g' (Array.getElem?_eq_some_iff.1 f3).1 (hXo _ (.inr ⟨_, _, _, e1⟩) hl rfl g' hB)]; exact f3
            rw [cell_at (by rw [f1.1]; exact f3')]
            rw [← f7, List.getElem?_take] at hj
            split at hj
            · simpa using hj
            · cases hj
        -- the element's cells, from k on
        have hget : ∀ j d', j < sz' → r'[j]? = some d' → ∃ v, xs[i * sz' + j]? = some v ∧ Rd (vw H w B st.ob) d' v := by
          intro j d' hj hd'
          rw [← flat_get q3 hr hj] at hd'
          exact RdL_get q2 hd'
        have hrest : ∀ (j : Nat) (l : List D), r'.drop j = l → j ≤ r'.length → ∃ vs, RdL (vw H w B st.ob) l vs ∧ ∀ q v, vs[q]? = some v → xs[i * sz' + j + q]? = some v := by
          intro j l
          induction l generalizing j with
          | nil => intro _ _; exact ⟨[], trivial, by simp⟩
          | cons y ys ih =>
            intro hj hjl
            have hlt : j < r'.length := by
              rcases Nat.lt_or_ge j r'.length with h | h
              · exact h
              · rw [List.drop_of_length_le h] at hj; cases hj
            have hy : r'[j]? = some y := by
              have h9 : (r'.drop j)[0]? = some y := by rw [hj]; rfl
              simpa using h9
            have hys : r'.drop (j + 1) = ys := by
              have h9 : (r'.drop j).drop 1 = ys := by rw [hj]; rfl
              simpa [List.drop_drop] using h9
            obtain ⟨vs, p1, p2⟩ := ih (j + 1) hys (by omega)
            obtain ⟨v, p3, p4⟩ := hget j y (by omega) hy
            refine ⟨v :: vs, ⟨p4, p1⟩, fun q u hq => ?_⟩
            cases q with
            | zero => simp at hq; subst hq; simpa using p3
            | succ q => simp at hq; have := p2 q u hq; rwa [show i * sz' + (j + 1) + q = i * sz' + j + (q + 1) by omega] at this
        cases agg with
        | true =>
          simp only [if_true] at hs
          obtain ⟨hn, hs⟩ := hs
          obtain ⟨vs, p1, p2⟩ := hrest k _ rfl (by omega)
          have hvl := RdL_length p1
          rw [List.length_drop] at hvl
          refine ⟨_, .agg (vs.take n).toArray, hs, ?_, fun w' hw => ?_⟩
          · simp only [Cn]
            refine ⟨_, rfl, ?_, fun y hy => RdL_one p1 y (List.mem_of_mem_take (by simpa using hy))⟩
            have h3 : CnL m st.n (vw H w B st.ob) ((r'.drop k).map .d) vs := CnL_of_RdL p1
            have := CnL_take n h3
            rwa [← List.map_take] at this
          · have hv := run_ld_agg (w := w') ht (ad := ⟨g, i * sz' + k, none⟩) (vs := vs.take n) (by rw [List.length_take]; omega) (fun j v hj => by
              rw [List.getElem?_take] at hj
              split at hj
              · rw [add0]; exact hcell w' hw _ v (p2 j v hj)
              · cases hj)
            simp [execOp, ho, Instr.loadAt, Instr.sureAddr, e, hv]
        | false =>
          simp only [Bool.false_eq_true, if_false] at hs
          cases hk : r'[k]? with
          | none => rw [hk] at hs; exact hs.elim
          | some y =>
            rw [hk] at hs
            have hkl : k < sz' := by rw [← hrl]; exact (List.getElem?_eq_some_iff.1 hk).1
            obtain ⟨v, hv, hy⟩ := hget k y hkl hk
            exact ⟨.d y, v, hs, hy, fun w' hw => by simp [execOp, ho, Instr.loadAt, Instr.sureAddr, e, run_ld_one ht (hcell w' hw _ v hv)]⟩
    · exact hs.elim
  · exact hs.elim

theorem run_indexAt (w : World) {t e : TypeId} {sz : Nat} (ht : P.underlying t = some (.slice e)) (hz : (P.info? e).map (·.size) = some sz) (A : Option Addr) (len cap : Nat) (k : IntKind) (i : Int) (ad : Addr) (hA : A = some ad) (h0 : 0 ≤ i) (h1 : i < len) :
    (Instr.indexAt t (.slice A len cap) (.int k i)).run P w = .ok (.pointer (some (ad.add (i.toNat * sz)))) w := by
  cases hi : P.info? e with
  | none => rw [hi] at hz; cases hz
  | some inf =>
    rw [hi] at hz
    simp only [Option.map_some, Option.some.injEq] at hz
    have hsz : (sizeOf e).run P w = .ok sz w := by simp [sizeOf, typeInfo, hi, hz]
    simp [Instr.indexAt, asIntOf, run_underlying ht, hA, h0, h1, hsz]

theorem ok_ia_data (h : Sat H N w m B a st) {d : Nat} (hd : d < N) {t e : TypeId} {x i : Operand} {sz : Nat} (ho : o.op = .indexAddr t x i) (ht : P.underlying t = some (.slice e)) (hz : (P.info? e).map (·.size) = some sz)
    {rows : List (List D)} {k : IntKind} {j : Int} (hv : Rd (vw H w B st.ob) (.sl rows) (a.eval x)) (hj : a.eval i = .int k j)
    (hs : 0 ≤ j ∧ need rows[j.toNat]? fun r => r.length = sz ∧ K (st.put d (.cp r))) : PV m st.n (vw H w B st.ob) P o a d K st := by
  obtain ⟨j0, hs⟩ := hs
  cases hr : rows[j.toNat]? with
  | none => rw [hr] at hs; exact hs.elim
  | some r =>
    rw [hr] at hs
    obtain ⟨hl, hs⟩ := hs
    simp only [Rd] at hv
    obtain ⟨A, cap, e1, g1, g2, g3⟩ := hv
    rcases g3 with rfl | ⟨ad, sz', eA, _, g3⟩
    · simp at hr
    · obtain ⟨q1, q2⟩ := RdRows_get g3 hr
      have hlt : j.toNat < rows.length := (List.getElem?_eq_some_iff.1 hr).1
      have hsz : sz' = sz := by omega
      subst hsz
      refine PV.pure (x := .cp r) (v := .pointer (some (ad.add (j.toNat * sz')))) h hd ?_ hs ?_
      · simp only [Cn]
        exact ⟨_, rfl, RdCells_at (by simpa using q2)⟩
      · intro w
        simp [execOp, ho, e1, hj, run_indexAt w ht hz A rows.length cap k j ad eA j0 (by omega)]

theorem ok_ia (h : Sat H N w m B a st) {d : Nat} (hd : d < N) {t e : TypeId} {x i : Operand} {r q : Rv} {sz : Nat} (ho : o.op = .indexAddr t x i) (hx : opn x = some r) (hi : opn i = some q) (ht : P.underlying t = some (.slice e)) (hz : (P.info? e).map (·.size) = some sz)
    (hs : step T (.ia d sz r q) st K Kp) : PV m st.n (vw H w B st.ob) P o a d K st := by
  have h1 := get_ok h hx
  have h2 := get_ok h hi
  simp only [step] at hs
  split at hs
  · rename_i k j e2
    rw [e2] at h2
    have hj := of_v h2
    split at hs
    · rename_i o' e1
      rw [e1] at h1
      simp only [Cn] at h1
      obtain ⟨h3, h4, _⟩ := h1
      split at hs
      · rename_i t' sz' rows hl
        obtain ⟨⟨rfl, j0, j1⟩, hs⟩ := hs
        obtain ⟨xs, q1, q2, q3, _⟩ := h.store.obs o' _ hl
        obtain ⟨_, p2⟩ := q1
        rcases p2 with ⟨f1, f2⟩ | ⟨g, cap, cur, f1, _, f3, f4, f5, f6, f7⟩
        · omega
        · refine PV.pure (x := .ep o' sz' j.toNat 0) (v := .pointer (some ⟨g, j.toNat * sz', none⟩)) h hd ?_ hs ?_
          · simp only [Cn]; exact ⟨h3, g, _, cap, f1, by simp⟩
          · intro w
            have := run_indexAt w ht hz (some ⟨g, 0, none⟩) rows.length cap k j ⟨g, 0, none⟩ rfl j0 j1
            rw [add0, Nat.zero_add] at this
            simp [execOp, ho, h4, f1, hj, this]
      · rename_i rows hl
        have := h.store.obs o' _ hl
        simp only [ObS] at this
        exact ok_ia_data h hd ho ht hz (by rw [h4]; exact this) hj hs
      · exact hs.elim
    · rename_i rows e1
      rw [e1] at h1
      exact ok_ia_data h hd ho ht hz h1 hj hs
    · exact hs.elim
  · exact hs.elim

end
end Go.Ev
