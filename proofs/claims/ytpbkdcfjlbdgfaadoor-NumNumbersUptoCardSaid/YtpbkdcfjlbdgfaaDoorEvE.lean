/- The evaluator's operations on memory are sound. -/
import Derived.Test.YtpbkdcfjlbdgfaaDoorEvD
set_option linter.unusedVariables false
set_option linter.unusedSimpArgs false
namespace Go.Ev
open Go

theorem RdRows_flat {c : Rdr} {ad : Addr} {sz : Nat} : ∀ {l : List (List D)} {k j : Nat} {d : D}, RdRows c ad sz k l → l.flatten[j]? = some d → ∃ u, c (ad.add (k + j)) u ∧ Rd c d u
  | [], _, _, _, _, h => by simp at h
  | r :: rs, k, j, d, h, e => by
    simp only [RdRows] at h
    obtain ⟨h1, h2, h3⟩ := h
    simp only [List.flatten_cons] at e
    by_cases hj : j < r.length
    · rw [List.getElem?_append_left hj] at e
      exact RdCells_get h2 e
    · rw [List.getElem?_append_right (by omega)] at e
      have := RdRows_flat h3 e
      rwa [show k + sz + (j - r.length) = k + j by omega] at this

theorem flat_length {l : List (List D)} {sz : Nat} (h : ∀ r ∈ l, r.length = sz) : l.flatten.length = l.length * sz := by
  induction l with
  | nil => simp
  | cons r rs ih =>
    simp only [List.flatten_cons, List.length_append, List.length_cons, Nat.add_mul, Nat.one_mul]
    rw [ih fun x hx => h x (by simp [hx]), h r (by simp)]
    omega

theorem flat_get {l : List (List D)} {sz : Nat} (h : ∀ r ∈ l, r.length = sz) {i k : Nat} {r : List D} (hr : l[i]? = some r) (hk : k < sz) : l.flatten[i * sz + k]? = r[k]? := by
  induction l generalizing i with
  | nil => simp at hr
  | cons x rs ih =>
    have hx := h x (by simp)
    simp only [List.flatten_cons]
    cases i with
    | zero =>
      simp only [List.getElem?_cons_zero, Option.some.injEq] at hr
      subst hr
      rw [Nat.zero_mul, Nat.zero_add, List.getElem?_append_left (by omega)]
    | succ i =>
      simp only [List.getElem?_cons_succ] at hr
      rw [List.getElem?_append_right (by rw [Nat.add_mul]; omega), show (i + 1) * sz + k - x.length = i * sz + k by rw [Nat.add_mul]; omega]
      exact ih (fun y hy => h y (by simp [hy])) hr

section
variable {G : World → Prop} {H : Hd G} {XB : Nat → Prop} {N : Nat} {w : World} {m : Nat → Value} {B : Nat → Nat → Prop} {a : Act} {st : St}

/-- A row that can be read, as a value and its cells. -/
theorem rows_ok (h : SOk H w m B st.store) {x : SV} {v : Value} (hx : Cn m st.n (vw H w B st.ob) x v) {rows : List (List D)} (e : st.rows x = some rows) :
    ∃ A cap, v = .slice A rows.length cap ∧ rows.length ≤ cap ∧ rows.length ≤ 9223372036854775807 ∧
      ∀ j d, rows.flatten[j]? = some d → ∃ ad u, A = some ad ∧ w.cell? (ad.add j) = some u ∧ Rd (vw H w B st.ob) d u := by
  have data : ∀ {v : Value} {rows : List (List D)}, Rd (vw H w B st.ob) (.sl rows) v → ∃ A cap, v = .slice A rows.length cap ∧ rows.length ≤ cap ∧ rows.length ≤ 9223372036854775807 ∧
      ∀ j d, rows.flatten[j]? = some d → ∃ ad u, A = some ad ∧ w.cell? (ad.add j) = some u ∧ Rd (vw H w B st.ob) d u := by
    intro v rows hv
    simp only [Rd] at hv
    obtain ⟨A, cap, rfl, h1, h2, h3⟩ := hv
    refine ⟨A, cap, rfl, h1, h2, fun j d hj => ?_⟩
    rcases h3 with rfl | ⟨ad, sz, rfl, _, h3⟩
    · simp at hj
    · obtain ⟨u, h4, h5⟩ := RdRows_flat h3 hj
      rw [Nat.zero_add] at h4
      exact ⟨ad, u, rfl, h4.1, h5⟩
  unfold St.rows at e
  split at e
  · rename_i o
    simp only [Cn] at hx
    obtain ⟨ho, rfl, _⟩ := hx
    split at e
    · rename_i t sz rows' hl
      simp only [Option.some.injEq] at e; subst e
      obtain ⟨xs, h1, h2, h3, h4⟩ := h.obs o _ hl
      obtain ⟨g1, g2⟩ := h1
      rcases g2 with ⟨e1, e2⟩ | ⟨g, cap, cur, e1, _, e3, e4, e5, e6, e7⟩
      · refine ⟨none, 0, by rw [e1, e2], by omega, by omega, fun j d hj => ?_⟩
        have : rows' = [] := List.length_eq_zero_iff.1 e2
        subst this; simp at hj
      · refine ⟨_, cap, e1, e4, ?_, fun j d hj => ?_⟩
        · have : maxLen = 9223372036854775807 := by decide
          omega
        · obtain ⟨u, hu, hd⟩ := RdL_get h2 hj
          refine ⟨_, u, rfl, ?_, hd⟩
          have hadd : (⟨g, 0, none⟩ : Addr).add j = ⟨g, j, none⟩ := by unfold Addr.add; split <;> simp_all
          rw [hadd]
          simp only [World.cell?, e3]
          rw [← e7] at hu
          rw [List.getElem?_take] at hu
          split at hu
          · simpa using hu
          · cases hu
    · rename_i rows' hl
      simp only [Option.some.injEq] at e; subst e
      exact data (h.obs o _ hl)
    · cases e
  · rename_i rows'
    simp only [Option.some.injEq] at e; subst e
    exact data hx
  · simp only [Option.some.injEq] at e; subst e
    rw [of_v hx]
    exact ⟨none, 0, rfl, by simp, by simp, fun j d hj => by simp at hj⟩
  · cases e

variable {P : Program} {o : Oper} {T : FuncId → Contract} {K : St → Prop} {Kp : SV → Store → Prop}

theorem ok_len (h : Sat H N w m B a st) {d : Nat} (hd : d < N) {x : Operand} {r : Rv} {t e : TypeId} (ho : o.op = .call { callee := .builtin .len, args := #[x], argTypes := #[t] }) (hx : opn x = some r)
    (ht : P.underlying t = some (.slice e)) (hs : step T (.len d r) st K Kp) : PV m st.n (vw H w B st.ob) P o a d K st := by
  have h1 := get_ok h hx
  simp only [step] at hs
  cases e2 : st.rows (r.get st) with
  | none => rw [e2] at hs; exact hs.elim
  | some rows =>
    rw [e2] at hs
    obtain ⟨A, cap, e3, _⟩ := rows_ok h.store h1 e2
    refine PV.pure h hd (Cn_v rfl) hs ?_
    simp [execOp, ho, resolve, invoke, builtin, Builtin.len_, e3, run_underlying ht, goInt]

theorem ok_lens (h : Sat H N w m B a st) {d : Nat} (hd : d < N) {x : Operand} {r : Rv} {t : TypeId} (ho : o.op = .call { callee := .builtin .len, args := #[x], argTypes := #[t] }) (hx : opn x = some r)
    (ht : P.underlying t = some .string) (hs : step T (.lens d r) st K Kp) : PV m st.n (vw H w B st.ob) P o a d K st := by
  have h1 := get_ok h hx
  simp only [step] at hs
  split at hs
  · rename_i s e1
    rw [e1] at h1
    refine PV.pure h hd (Cn_v rfl) hs ?_
    simp [execOp, ho, resolve, invoke, builtin, Builtin.len_, of_v h1, run_underlying ht, goInt]
  · exact hs.elim

theorem ok_mf (h : Sat H N w m B a st) {d : Nat} (hd : d < N) {f : FuncId} {cs : Array Operand} {rs : List Rv} (ho : o.op = .makeFunc (.func f) #[] cs) (hc : cs.toList.map opn = rs.map some)
    (hs : step T (.mf d f rs) st K Kp) : PV m st.n (vw H w B st.ob) P o a d K st := by
  refine PV.pure (v := .func (.func f) #[] (cs.map a.eval)) h hd ?_ hs (fun w => by simp [execOp, ho, Instr.makeFunc])
  simp only [Cn]
  exact ⟨_, rfl, by simpa using getL_ok h hc⟩

theorem ok_nc (h : Sat H N w m B a st) {d : Nat} (hd : d < N) {x : Operand} {r : Rv} (ho : o.op = .nilCheck x) (hx : opn x = some r)
    (hs : step T (.nc d r) st K Kp) : PV m st.n (vw H w B st.ob) P o a d K st := by
  have h1 := get_ok h hx
  simp only [step] at hs
  split at hs
  · rename_i o' k e1
    rw [e1] at h1
    refine PV.pure h hd h1 hs ?_
    simp only [Cn] at h1
    obtain ⟨_, b, _, e⟩ := h1
    simp [execOp, ho, e]
  · rename_i cells e1
    rw [e1] at h1
    refine PV.pure h hd h1 hs ?_
    simp only [Cn] at h1
    obtain ⟨ad, e, _⟩ := h1
    simp [execOp, ho, e]
  · rename_i cells e1
    rw [e1] at h1
    refine PV.pure h hd h1 hs ?_
    simp only [Cn, Rd] at h1
    obtain ⟨ad, e, _⟩ := h1
    simp [execOp, ho, e]
  · exact hs.elim

theorem run_fieldAt (w : World) (t : TypeId) (fs : Array Field) (i : Nat) (f : Field) (ad : Addr) (sz : Nat) (ht : P.underlying t = some (.struct fs)) (hf : fs[i]? = some f) (hz : (P.info? f.type).map (·.size) = some sz) (h0 : sz ≠ 0) :
    (Instr.fieldAt t (.pointer (some ad)) i).run P w = .ok (.pointer (some (ad.add f.offset))) w := by
  cases hi : P.info? f.type with
  | none => rw [hi] at hz; cases hz
  | some inf =>
    rw [hi] at hz
    simp only [Option.map_some, Option.some.injEq] at hz
    have hsz : (sizeOf f.type).run P w = .ok sz w := by simp [sizeOf, typeInfo, hi, hz]
    simp [Instr.fieldAt, run_underlying ht, hf, Instr.sureAddr, fieldPlace, hsz, h0]

theorem add0 (b k j : Nat) : (⟨b, k, none⟩ : Addr).add j = ⟨b, k + j, none⟩ := by
  unfold Addr.add; split <;> simp_all

theorem ok_fa (h : Sat H N w m B a st) {d : Nat} (hd : d < N) {x : Operand} {r : Rv} {t : TypeId} {i : Nat} {fs : Array Field} {f : Field} {sz : Nat} (ho : o.op = .fieldAddr t x i) (hx : opn x = some r)
    (ht : P.underlying t = some (.struct fs)) (hf : fs[i]? = some f) (hz : (P.info? f.type).map (·.size) = some sz) (h0 : sz ≠ 0)
    (hs : step T (.fa d f.offset r) st K Kp) : PV m st.n (vw H w B st.ob) P o a d K st := by
  have h1 := get_ok h hx
  have hr := fun ad w => run_fieldAt w t fs i f ad sz ht hf hz h0
  simp only [step] at hs
  split at hs
  · rename_i o' k e1
    rw [e1] at h1
    simp only [Cn] at h1
    obtain ⟨h2, b, h3, e⟩ := h1
    refine PV.pure (v := .pointer (some ⟨b, k + f.offset, none⟩)) h hd ?_ hs ?_
    · simp only [Cn]; exact ⟨h2, b, h3, rfl⟩
    · simp [execOp, ho, e, hr, add0]
  · rename_i cells e1
    rw [e1] at h1
    simp only [Cn] at h1
    obtain ⟨ad, e, hc⟩ := h1
    refine PV.pure (v := .pointer (some (ad.add f.offset))) h hd ?_ hs ?_
    · simp only [Cn]; exact ⟨_, rfl, RdCells_at (by simpa using RdCells_drop f.offset hc)⟩
    · simp [execOp, ho, e, hr]
  · rename_i cells e1
    rw [e1] at h1
    simp only [Cn, Rd] at h1
    obtain ⟨ad, e, hc⟩ := h1
    refine PV.pure (v := .pointer (some (ad.add f.offset))) h hd ?_ hs ?_
    · simp only [Cn]; exact ⟨_, rfl, RdCells_at (by simpa using RdCells_drop f.offset hc)⟩
    · simp [execOp, ho, e, hr]
  · rename_i o' sz' i' k e1
    rw [e1] at h1
    simp only [Cn] at h1
    obtain ⟨h2, g, len, cap, h3, e⟩ := h1
    refine PV.pure (v := .pointer (some ⟨g, i' * sz' + (k + f.offset), none⟩)) h hd ?_ hs ?_
    · simp only [Cn]; exact ⟨h2, g, len, cap, h3, rfl⟩
    · simp [execOp, ho, e, hr, add0, Nat.add_assoc]
  · exact hs.elim

theorem ok_fd (h : Sat H N w m B a st) {d : Nat} (hd : d < N) {x : Operand} {r : Rv} {t : TypeId} {i : Nat} {fs : Array Field} {f : Field} {sz : Nat} {agg : Bool} (ho : o.op = .field t x i) (hx : opn x = some r)
    (ht : P.underlying t = some (.struct fs)) (hf : fs[i]? = some f) (hz : (P.info? f.type).map (·.size) = some sz) (hag : (match P.underlying f.type with | some (.struct _) | some (.array _ _) => some true | some _ => some false | none => none) = some agg)
    (hs : step T (.fd d agg f.offset sz r) st K Kp) : PV m st.n (vw H w B st.ob) P o a d K st := by
  have h1 := get_ok h hx
  cases hi : P.info? f.type with
  | none => rw [hi] at hz; cases hz
  | some inf =>
  rw [hi] at hz
  simp only [Option.map_some, Option.some.injEq] at hz
  have hsz : ∀ w, (sizeOf f.type).run P w = .ok sz w := fun w => by simp [sizeOf, typeInfo, hi, hz]
  have hagg : ∀ w, (isAgg f.type).run P w = .ok agg w := fun w => by
    cases hu : P.underlying f.type with
    | none => rw [hu] at hag; cases hag
    | some u => rw [hu] at hag; cases u <;> simp_all [isAgg, run_underlying hu]
  simp only [step] at hs
  split at hs
  · rename_i l e1
    rw [e1] at h1
    simp only [Cn] at h1
    obtain ⟨cs, e, h2, h3⟩ := h1
    cases agg with
    | true =>
      simp only [if_true] at hs
      obtain ⟨hlen, hs⟩ := hs
      refine PV.pure (v := .agg (cs.extract f.offset (f.offset + sz))) h hd ?_ hs ?_
      · simp only [Cn]
        refine ⟨_, rfl, ?_, fun y hy => h3 y ?_⟩
        · have := CnL_take sz (CnL_drop f.offset h2)
          simpa [List.extract_eq_take_drop] using this
        · simp [List.extract_eq_take_drop] at hy
          exact List.mem_of_mem_drop (List.mem_of_mem_take hy)
      · simp [execOp, ho, e, Instr.field, run_underlying ht, hf, asAgg, part, hagg, hsz]
    | false =>
      simp only [Bool.false_eq_true, if_false] at hs
      cases hl : l[f.offset]? with
      | none => rw [hl] at hs; exact hs.elim
      | some y =>
        rw [hl] at hs
        obtain ⟨v, hv, hy⟩ := CnL_get h2 hl
        refine PV.pure h hd hy hs ?_
        have hv' : cs[f.offset]? = some v := by simpa using hv
        simp [execOp, ho, e, Instr.field, run_underlying ht, hf, asAgg, part, hagg, hv']
  · exact hs.elim

end
end Go.Ev
