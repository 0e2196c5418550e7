/- The evaluator's operations on memory are sound: what is made, frozen, stored, appended. -/
import Derived.Test.YtpbkdcfjlbdgfaaDoorEvF
set_option linter.unusedVariables false
set_option linter.unusedSimpArgs false
namespace Go.Ev
open Go

theorem al_size (w : World) (o : Obj) : (w.alloc o).heap.size = w.heap.size + 1 := by show (w.heap.push o).size = _; simp
theorem al_old (w : World) (o : Obj) (b : Nat) (h : b < w.heap.size) : (w.alloc o).heap[b]? = w.heap[b]? := by
  show (w.heap.push o)[b]? = _
  rw [Array.getElem?_push, if_neg (by omega)]
theorem al_new (w : World) (o : Obj) : (w.alloc o).heap[w.heap.size]? = some o := by
  show (w.heap.push o)[w.heap.size]? = _
  rw [Array.getElem?_push, if_pos rfl]

theorem RdL_split {c : Rdr} : ∀ {l l' : List D} {vs : List Value}, RdL c (l ++ l') vs → ∃ us us', vs = us ++ us' ∧ RdL c l us ∧ RdL c l' us'
  | [], _, vs, h => ⟨[], vs, rfl, trivial, h⟩
  | d :: ds, _, [], h => h.elim
  | d :: ds, _, v :: vs, h => by
    obtain ⟨us, us', e, h1, h2⟩ := RdL_split h.2
    exact ⟨v :: us, us', by rw [e]; rfl, ⟨h.1, h1⟩, h2⟩

theorem RdCells_of {c : Rdr} {ad : Addr} : ∀ {l : List D} {vs : List Value} {k : Nat}, RdL c l vs → (∀ j v, vs[j]? = some v → c (ad.add (k + j)) v) → RdCells c ad k l
  | [], [], _, _, _ => by simp [RdCells]
  | d :: ds, v :: vs, k, h, hc => by
    simp only [RdCells]
    refine ⟨⟨v, by simpa using hc 0 v rfl, h.1⟩, RdCells_of h.2 fun j u hj => ?_⟩
    have := hc (j + 1) u (by simpa using hj)
    rwa [show k + (j + 1) = k + 1 + j by omega] at this
theorem RdRows_of {c : Rdr} {ad : Addr} {sz : Nat} : ∀ {rows : List (List D)} {vs : List Value} {k : Nat}, (∀ r ∈ rows, r.length = sz) → RdL c rows.flatten vs → (∀ j v, vs[j]? = some v → c (ad.add (k + j)) v) → RdRows c ad sz k rows
  | [], _, _, _, _, _ => by simp [RdRows]
  | r :: rs, vs, k, hr, h, hc => by
    simp only [List.flatten_cons] at h
    obtain ⟨us, us', rfl, h1, h2⟩ := RdL_split h
    have hl := RdL_length h1
    have hr1 := hr r (by simp)
    simp only [RdRows]
    refine ⟨hr1, RdCells_of h1 fun j v hj => hc j v (by rw [List.getElem?_append_left (List.getElem?_eq_some_iff.1 hj).1]; exact hj), RdRows_of (fun x hx => hr x (by simp [hx])) h2 fun j v hj => ?_⟩
    have := hc (sz + j) v (by rw [List.getElem?_append_right (by omega), show sz + j - us.length = j by omega]; exact hj)
    rwa [show k + (sz + j) = k + sz + j by omega] at this

section
variable {G : World → Prop} {H : Hd G} {XB : Nat → Prop} {N : Nat} {w : World} {m : Nat → Value} {B : Nat → Nat → Prop} {a : Act} {st : St}
variable {P : Program} {o : Oper} {T : FuncId → Contract} {K : St → Prop} {Kp : SV → Store → Prop}

theorem allD_ok {n : Nat} {c : Rdr} : ∀ {l : List SV} {ds : List D} {vs : List Value}, allD l = some ds → CnL m n c l vs → RdL c ds vs
  | [], ds, [], e, _ => by simp only [allD, Option.some.injEq] at e; subst e; trivial
  | [], _, _ :: _, _, h => by simp [CnL] at h
  | .d x :: r, ds, v :: vs, e, h => by
    simp only [allD, Option.map_eq_some_iff] at e
    obtain ⟨ys, e1, rfl⟩ := e
    simp only [CnL] at h
    exact ⟨h.1, allD_ok e1 h.2⟩
  | .d x :: r, ds, [], e, h => by simp [CnL] at h
  | .any :: _, _, _, e, _ | .own _ :: _, _, _, e, _ | .ptr _ _ :: _, _, _, e, _ | .cp _ :: _, _, _, e, _ | .ep _ _ _ _ :: _, _, _, e, _ | .agg _ :: _, _, _, e, _ | .tup _ :: _, _, _, e, _ | .fn _ _ :: _, _, _, e, _ | .opt _ _ :: _, _, _, e, _ => by simp [allD] at e

/-- A row whose cells can be read is data. -/
theorem row_data {c : Rdr} {t : TypeId} {sz : Nat} {rows : List (List D)} {v : Value} {xs : List Value} (h1 : w.ownsRow 0 t sz v rows.length xs) (h2 : RdL c rows.flatten xs) (h3 : ∀ r ∈ rows, r.length = sz)
    (hc : ∀ a u, w.cell? a = some u → v.ownBlock = some a.block → c a u) : Rd c (.sl rows) v := by
  simp only [Rd]
  obtain ⟨_, p2⟩ := h1
  rcases p2 with ⟨f1, f2⟩ | ⟨g, cap, cur, f1, _, f3, f4, f5, f6, f7⟩
  · exact ⟨none, 0, by rw [f1, f2], by omega, by omega, .inl (List.length_eq_zero_iff.1 f2)⟩
  · have hm : maxLen = 9223372036854775807 := by decide
    refine ⟨_, cap, f1, f4, by omega, .inr ⟨_, sz, rfl, rfl, RdRows_of h3 h2 fun j v' hj => hc _ _ ?_ (by rw [f1, Nat.zero_add, add0]; rfl)⟩⟩
    rw [Nat.zero_add, add0, cell_at f3]
    rw [← f7, List.getElem?_take] at hj
    split at hj
    · simpa using hj
    · cases hj

theorem frz_ok (h : Sat H N w m B a st) {x : SV} {v : Value} (hx : Cn m st.n (vw H w B st.ob) x v) {y : D} {st1 : St} (e : st.frz x = some (y, st1)) :
    ∃ B1, Sat H N w m B1 a st1 ∧ Since w m B st.store w m B1 st1.store ∧ Rd (vw H w B1 st1.ob) y v ∧ st1.n = st.n ∧ st1.sl = st.sl ∧ ∀ o b, B1 o b → B o b := by
  unfold St.frz at e
  split at e
  · simp only [Option.some.injEq, Prod.mk.injEq] at e
    obtain ⟨rfl, rfl⟩ := e
    exact ⟨B, h, Since.refl _ _ _ _, hx, rfl, rfl, fun _ _ => id⟩
  · rename_i o'
    simp only [Cn] at hx
    obtain ⟨h1, rfl, _⟩ := hx
    split at e
    · rename_i t sz rows hl
      simp only [Option.some.injEq, Prod.mk.injEq] at e
      obtain ⟨rfl, rfl⟩ := e
      obtain ⟨xs, q1, q2, q3, q4⟩ := h.store.obs o' _ hl
      have hu := SOk.upd (w1 := w) h.store o' _ (.fro rows) hl rfl (fun _ => False) rfl rfl rfl (Nat.le_refl _) (fun _ _ _ => rfl) (fun b hb _ => by cases hb) (fun c hc1 hc2 => by
        simp only [ObS]
        exact row_data q1 (RdL_mono hc1 _ _ q2) q3 fun a u ha hb => hc2 a u ha (by simp [Ob.has]) ((q4 _).2 hb))
      obtain ⟨hS, hO⟩ := hu
      refine ⟨_, ⟨h.size, h.defers, h.slots.since hS, hO⟩, hS, ?_, rfl, rfl, fun k b hb => by by_cases e : k = o' <;> simp_all⟩
      have := hO.obs o' (.fro rows) (by simp [lk_cons])
      exact this
    · rename_i rows hl
      simp only [Option.some.injEq, Prod.mk.injEq] at e
      obtain ⟨rfl, rfl⟩ := e
      exact ⟨B, h, Since.refl _ _ _ _, h.store.obs o' _ hl, rfl, rfl, fun _ _ => id⟩
    · cases e
  · rename_i o'
    simp only [Cn] at hx
    obtain ⟨h1, b, h2, rfl⟩ := hx
    split at e
    · rename_i t l hl
      simp only [Option.map_eq_some_iff, Prod.mk.injEq] at e
      obtain ⟨ds, e1, rfl, rfl⟩ := e
      obtain ⟨cs, g1, g2, g3, g4⟩ := obj_cells h.store hl h2
      have hu := SOk.upd (w1 := w) h.store o' _ .dead hl rfl (fun _ => False) rfl rfl rfl (Nat.le_refl _) (fun _ _ _ => rfl) (fun b hb _ => by cases hb) (fun c hc1 hc2 => trivial)
      obtain ⟨hS, hO⟩ := hu
      refine ⟨_, ⟨h.size, h.defers, h.slots.since hS, hO⟩, hS, ?_, rfl, rfl, fun k b hb => by by_cases e : k = o' <;> simp_all⟩
      simp only [Rd]
      refine ⟨_, rfl, RdCells_of (RdL_mono hS.vw _ _ (allD_ok e1 g2)) fun j v hj => ⟨?_, ?_, ?_⟩⟩
      · rw [Nat.zero_add, add0, cell_at g1]; simpa using hj
      · rintro ⟨k, z, k1, k2, k3⟩
        rw [Nat.zero_add, add0] at k3
        simp only [St.store, St.setO, lk_cons] at k1
        by_cases e : o' = k
        · subst e; simp only [if_true, Option.some.injEq] at k1; subst k1; cases k2
        · simp only [e, if_false] at k1
          have e' : k ≠ o' := fun h => e h.symm
          simp only [e', if_false] at k3
          exact h.store.sep k o' z _ k1 hl k2 rfl e' _ k3 ((g4 b).2 rfl)
      · rw [Nat.zero_add, add0]
        exact h.store.seph o' _ b hl rfl ((g4 b).2 rfl)
    · cases e
  · cases e

theorem frzL_ok : ∀ {l : List SV} {vs : List Value} {st st1 : St} {B : Nat → Nat → Prop} {ys : List D}, Sat H N w m B a st → CnL m st.n (vw H w B st.ob) l vs → st.frzL l = some (ys, st1) →
    ∃ B1, Sat H N w m B1 a st1 ∧ Since w m B st.store w m B1 st1.store ∧ RdL (vw H w B1 st1.ob) ys vs ∧ st1.n = st.n ∧ st1.sl = st.sl
  | [], [], st, st1, B, ys, h, _, e => by
    simp only [St.frzL, Option.some.injEq, Prod.mk.injEq] at e
    obtain ⟨rfl, rfl⟩ := e
    exact ⟨B, h, Since.refl _ _ _ _, trivial, rfl, rfl⟩
  | [], _ :: _, _, _, _, _, _, h, _ => by simp [CnL] at h
  | _ :: _, [], _, _, _, _, _, h, _ => by simp [CnL] at h
  | x :: r, v :: vs, st, st1, B, ys, h, hl, e => by
    simp only [CnL] at hl
    simp only [St.frzL, Option.bind_eq_some_iff, Option.map_eq_some_iff, Prod.exists, Prod.mk.injEq] at e
    obtain ⟨y, st2, e1, zs, st3, e2, rfl, rfl⟩ := e
    obtain ⟨B1, h1, s1, r1, n1, l1, _⟩ := frz_ok h hl.1 e1
    obtain ⟨B2, h2, s2, r2, n2, l2⟩ := frzL_ok h1 (s1.cnL _ _ hl.2) e2
    exact ⟨B2, h2, s1.trans s2, ⟨Rd_mono s2.vw _ _ r1, r2⟩, n2.trans n1, l2.trans l1⟩

/-- A new variable. -/
theorem new_cells (h : Sat H N w m B a st) {d : Nat} (hd : d < N) {t : TypeId} {l : List SV} {vs : Array Value} (hl : CnL m st.n (vw H w B st.ob) l vs.toList) (h1 : ∀ v ∈ vs.toList, v.oneCell' = true) (hK : K ((st.newO (.cells t l)).put d (.ptr st.n 0)))
    {r : Result Next} (hr : r = .ok (.value (.pointer (some ⟨w.heap.size, 0, none⟩))) (w.alloc (.cells vs t))) : VOk H N XB w m B st.store a d K r := by
  have hadd := SOk.add (w1 := w.alloc (.cells vs t)) h.store (.cells t l) (.pointer (some ⟨w.heap.size, 0, none⟩)) (fun b => b = w.heap.size) rfl rfl rfl (by rw [al_size]; omega) (fun b hb => al_old _ _ _ hb)
    (fun b _ hb => by subst hb; rw [al_size]; omega) (fun c hc => by
      refine ⟨w.heap.size, vs, by simp, al_new _ _, CnL_mono (Nat.le_succ _) (fun o ho => ?_) hc _ _ hl, h1, fun x => Iff.rfl⟩
      have : o ≠ st.store.n := Nat.ne_of_lt ho
      simp only [this, if_false])
  obtain ⟨hS, hO⟩ := hadd
  refine ⟨_, _, _, _, _, hr, hK, Sat.put ⟨h.size, h.defers, h.slots.since hS, hO⟩ hd ?_, hS, fun b hb _ => al_old _ _ _ hb⟩
  simp only [Cn, St.newO]
  exact ⟨by omega, w.heap.size, by simp [St.store], rfl⟩

/-- A new row. -/
theorem new_row (h : Sat H N w m B a st) {d : Nat} (hd : d < N) {t : TypeId} {sz cap : Nat} {rows : List (List D)} {vs : Array Value} (hl : RdL (vw H w B st.ob) rows.flatten vs.toList) (hr : ∀ r ∈ rows, r.length = sz) (hc : rows.length = cap) (hcm : cap ≤ 9223372036854775807)
    (hK : K ((st.newO (.row t sz rows)).put d (.own st.n))) {r : Result Next} (he : r = .ok (.value (.slice (some ⟨w.heap.size, 0, none⟩) rows.length cap)) (w.alloc (.cells vs t))) : VOk H N XB w m B st.store a d K r := by
  have hlen := RdL_length hl
  rw [flat_length hr] at hlen
  have hm : maxLen = 9223372036854775807 := by decide
  have hadd := SOk.add (w1 := w.alloc (.cells vs t)) h.store (.row t sz rows) (.slice (some ⟨w.heap.size, 0, none⟩) rows.length cap) (fun b => b = w.heap.size) rfl rfl rfl (by rw [al_size]; omega) (fun b hb => al_old _ _ _ hb)
    (fun b _ hb => by subst hb; rw [al_size]; omega) (fun c hc' => by
      refine ⟨vs.toList, ⟨by rw [hlen], .inr ⟨w.heap.size, cap, vs, by simp, Nat.zero_le _, al_new _ _, by omega, by omega, by rw [← hc]; simpa using hlen, ?_⟩⟩, RdL_mono hc' _ _ hl, hr, fun x => ?_⟩
      · exact List.take_of_length_le (by omega)
      · simp only [if_true, Value.ownBlock, Option.some.injEq]; exact eq_comm)
  obtain ⟨hS, hO⟩ := hadd
  refine ⟨_, _, _, _, _, he, hK, Sat.put ⟨h.size, h.defers, h.slots.since hS, hO⟩ hd ?_, hS, fun b hb _ => al_old _ _ _ hb⟩
  simp only [Cn, St.newO]
  exact ⟨by omega, by simp [St.store], rfl⟩

/-- A row that nothing stands in yet: nil. -/
theorem new_nil (h : Sat H N w m B a st) {d : Nat} (hd : d < N) {t : TypeId} {sz : Nat} (hK : K ((st.newO (.row t sz [])).put d (.own st.n))) {r : Result Next} (he : r = .ok (.value (.slice none 0 0)) w) : VOk H N XB w m B st.store a d K r := by
  have hadd := SOk.add (w1 := w) h.store (.row t sz []) (.slice none 0 0) (fun _ => False) rfl rfl rfl (Nat.le_refl _) (fun b hb => rfl)
    (fun b _ hb => hb.elim) (fun c hc' => by
      refine ⟨[], ⟨by simp, .inl ⟨by simp, rfl⟩⟩, trivial, (by intro r hr; cases hr), fun x => ?_⟩
      simp [Value.ownBlock])
  obtain ⟨hS, hO⟩ := hadd
  refine ⟨_, _, _, _, _, he, hK, Sat.put ⟨h.size, h.defers, h.slots.since hS, hO⟩ hd ?_, hS, fun b hb _ => rfl⟩
  simp only [Cn, St.newO]
  exact ⟨by omega, by simp [St.store], rfl⟩
theorem ok_nr (h : Sat H N w m B a st) {d : Nat} (hd : d < N) {t : TypeId} {sz : Nat} (ho : o.op = .move (.const (.slice none 0 0)) ∨ o.op = .assign (.const (.slice none 0 0)))
    (hs : step T (.nr d t sz) st K Kp) : VOk H N XB w m B st.store a d K ((execOp a.eval o).run P w) :=
  new_nil h hd hs (by rcases ho with ho | ho <;> simp [execOp, ho, Act.eval])

theorem zero_run {t : TypeId} {z : Value} (hz : (P.info? t).bind (·.zero) = some z) (w : World) : (zeroValue t).run P w = .ok z w := by
  cases hi : P.info? t with
  | none => rw [hi] at hz; cases hz
  | some inf => rw [hi] at hz; simp only [Option.bind_some] at hz; simp [zeroValue, typeInfo, hi, hz]

theorem ok_al (h : Sat H N w m B a st) {d : Nat} (hd : d < N) {t : TypeId} {z : Value} (ho : o.op = .alloc t) (hz : (P.info? t).bind (·.zero) = some z) (h1 : ∀ v ∈ z.cells.toList, v.oneCell' = true)
    (hs : step T (.al d t z.cells.toList) st K Kp) : VOk H N XB w m B st.store a d K ((execOp a.eval o).run P w) := by
  simp only [step] at hs
  refine new_cells h hd (CnL_dv _ h1) h1 hs ?_
  simp [execOp, ho, Instr.alloc, zero_run hz, newVar, newRow]

/-- A new Builder. -/
theorem ok_alb (h : Sat H N w m B a st) {d : Nat} (hd : d < N) {t u : TypeId} {z : Value} (ho : o.op = .alloc t) (hz : (P.info? t).bind (·.zero) = some z) (h1 : z.cells = #[.pointer none, .slice none 0 0])
    (hs : step T (.alb d t u) st K Kp) : VOk H N XB w m B st.store a d K ((execOp a.eval o).run P w) := by
  simp only [step] at hs
  have hadd := SOk.add (w1 := w.alloc (.cells z.cells t)) h.store (.bld t u []) (.pointer (some ⟨w.heap.size, 0, none⟩)) (fun b => b = w.heap.size) rfl rfl rfl (by rw [al_size]; omega) (fun b hb => al_old _ _ _ hb)
    (fun b _ hb => by subst hb; rw [al_size]; omega) (fun c hc => by
      refine ⟨w.heap.size, .pointer none, .slice none 0 0, by simp, by rw [al_new, h1], .inl rfl, ⟨by simp [byteVals], .inl ⟨by simp, rfl⟩⟩, by simp [Value.ownBlock], fun x => by simp [Value.ownBlock]⟩)
  obtain ⟨hS, hO⟩ := hadd
  have hr : (execOp a.eval o).run P w = .ok (.value (.pointer (some ⟨w.heap.size, 0, none⟩))) (w.alloc (.cells z.cells t)) := by simp [execOp, ho, Instr.alloc, zero_run hz, newVar, newRow]
  refine ⟨_, _, _, _, _, hr, hs, Sat.put ⟨h.size, h.defers, h.slots.since hS, hO⟩ hd ?_, hS, fun b hb _ => al_old _ _ _ hb⟩
  · simp only [Cn, St.newO]
    exact ⟨by omega, w.heap.size, by simp [St.store], rfl⟩

theorem cells_ok {n : Nat} {c : Rdr} {x : SV} {v : Value} {l : List SV} (hx : Cn m n c x v) (e : x.cells = some l) : CnL m n c l v.cells.toList ∧ ∀ u ∈ v.cells.toList, u.oneCell' = true := by
  have one : ∀ {y : SV} {u : Value}, Cn m n c y u → u.oneCell' = true → CnL m n c [y] u.cells.toList ∧ ∀ z ∈ u.cells.toList, z.oneCell' = true := by
    intro y u hy hu
    have : u.cells = #[u] := by cases u <;> first | rfl | cases hu
    rw [this]
    exact ⟨by simp only [CnL, and_true]; exact hy, fun z hz => by simp at hz; subst hz; exact hu⟩
  cases x with
  | any => cases e
  | tup l => cases e
  | opt b x => cases e
  | agg l' =>
    simp only [SV.cells, Option.some.injEq] at e; subst e
    simp only [Cn] at hx
    obtain ⟨cs, rfl, h1, h2⟩ := hx
    exact ⟨h1, h2⟩
  | d x => simp only [SV.cells, Option.some.injEq] at e; subst e; exact one hx (Rd_one _ _ hx)
  | own o => simp only [SV.cells, Option.some.injEq] at e; subst e; exact one hx hx.2.2
  | ptr o k => simp only [SV.cells, Option.some.injEq] at e; subst e; exact one hx (by simp only [Cn] at hx; obtain ⟨_, b, _, rfl⟩ := hx; rfl)
  | cp l => simp only [SV.cells, Option.some.injEq] at e; subst e; exact one hx (by simp only [Cn] at hx; obtain ⟨b, rfl, _⟩ := hx; rfl)
  | ep o sz i k => simp only [SV.cells, Option.some.injEq] at e; subst e; exact one hx (by simp only [Cn] at hx; obtain ⟨_, g, _, _, _, rfl⟩ := hx; rfl)
  | fn f caps => simp only [SV.cells, Option.some.injEq] at e; subst e; exact one hx (by simp only [Cn] at hx; obtain ⟨b, rfl, _⟩ := hx; rfl)

theorem ok_bx (h : Sat H N w m B a st) {d : Nat} (hd : d < N) {t : TypeId} {n : Nat} {x : Operand} {r : Rv} (ho : o.op = .box t x) (hx : opn x = some r)
    (hs : step T (.bx d t n r) st K Kp) : VOk H N XB w m B st.store a d K ((execOp a.eval o).run P w) := by
  have h1 := get_ok h hx
  simp only [step] at hs
  cases e : (r.get st).cells with
  | none => rw [e] at hs; exact hs.elim
  | some l =>
    rw [e] at hs
    obtain ⟨hn, hs⟩ := hs
    obtain ⟨h2, h3⟩ := cells_ok h1 e
    refine new_cells h hd (vs := (a.eval x).cells) h2 h3 hs ?_
    simp [execOp, ho, Instr.box, newVar, newRow]

theorem ok_mi (h : Sat H N w m B a st) {d : Nat} (hd : d < N) {t : TypeId} {x : Operand} {r : Rv} (ho : o.op = .makeInterface t x) (hx : opn x = some r) {u : TypeDesc} (ht : P.underlying t = some u) (hu : (match u with | .interface _ => false | _ => true) = true)
    (hs : step T (.mi d t r) st K Kp) : VOk H N XB w m B st.store a d K ((execOp a.eval o).run P w) := by
  have h1 := get_ok h hx
  simp only [step] at hs
  cases e : st.frz (r.get st) with
  | none => rw [e] at hs; exact hs.elim
  | some y =>
    rw [e] at hs
    simp only [need_some] at hs
    obtain ⟨B1, g1, g2, g3, _⟩ := frz_ok h h1 (y := y.1) (st1 := y.2) e
    refine ⟨.iface t (a.eval x), w, m, B1, _, ?_, hs, g1.put hd ?_, g2, fun _ _ _ => rfl⟩
    · cases u <;> simp_all [execOp, Instr.makeInterface, run_underlying ht]
    · simp only [Cn, Rd]; exact ⟨_, rfl, g3⟩

/-- A store: cells of a variable's block are written. -/
theorem run_st {t : TypeId} {agg : Bool} {n b k : Nat} {cs : Array Value} {te : TypeId} {v : Value} (hg : w.heap[b]? = some (.cells cs te (0, 0))) (ht : ldT P t = some (agg, n)) (hv : v.cells.size = n) (hk : k + n ≤ cs.size) (h1 : ∀ u ∈ v.cells.toList, u.oneCell' = true) :
    ∃ w1, (storeVar t ⟨b, k, none⟩ v).run P w = .ok () w1 ∧ w1.os = w.os ∧ w1.tape = w.tape ∧ w1.output = w.output ∧ w1.heap.size = w.heap.size ∧ (∀ j, j ≠ b → w1.heap[j]? = w.heap[j]?) ∧
      w1.heap[b]? = some (.cells (cs.toList.take k ++ v.cells.toList ++ cs.toList.drop (k + v.cells.toList.length)).toArray te (0, 0)) := by
  have hlt : b < w.heap.size := (Array.getElem?_eq_some_iff.1 hg).1
  have h2 := run_storeCells_at (P := P) b k te v.cells.toList 0 cs w hg (by simp; omega) h1
  rw [Nat.add_zero] at h2
  obtain ⟨_, h3⟩ := ldT_run ht w
  refine ⟨w.setRow b (cs.toList.take k ++ v.cells.toList ++ cs.toList.drop (k + v.cells.toList.length)).toArray, ?_, rfl, rfl, rfl, ?_, fun j hj => ?_, ?_⟩
  · simp [storeVar, h3, hv, h2]
  · simp [World.setRow]
  · simp only [World.setRow, Array.getElem?_modify]
    rw [if_neg (fun h => hj h.symm)]
  · simp only [World.setRow, Array.getElem?_modify, if_true, hg, Option.map_some]

theorem take_splice {α : Type} (C V : List α) (p n : Nat) (h : p + V.length ≤ n) (hn : n ≤ C.length) : (C.take p ++ V ++ C.drop (p + V.length)).take n = (C.take n).take p ++ V ++ (C.take n).drop (p + V.length) := by
  rw [List.take_append, List.take_of_length_le (by simp; omega), List.take_take, Nat.min_eq_left (by omega), List.drop_take]
  congr 2
  simp; omega
theorem flat_set {sz : Nat} : ∀ (rows : List (List D)) (i k : Nat) (ds : List D), (∀ r ∈ rows, r.length = sz) → i < rows.length → k + ds.length ≤ sz →
    (rows.set i (spliceD (rows.getD i []) k ds)).flatten = rows.flatten.take (i * sz + k) ++ ds ++ rows.flatten.drop (i * sz + k + ds.length)
  | [], i, _, _, _, hi, _ => by simp at hi
  | r :: rs, 0, k, ds, h, _, hk => by
    have hr := h r (by simp)
    simp only [List.set_cons_zero, List.getD_cons_zero, List.flatten_cons, spliceD, Nat.zero_mul, Nat.zero_add]
    rw [List.take_append_of_le_length (by omega), List.drop_append_of_le_length (by omega)]
    simp
  | r :: rs, i + 1, k, ds, h, hi, hk => by
    have hr := h r (by simp)
    have ih := flat_set rs i k ds (fun x hx => h x (by simp [hx])) (by simpa using hi) hk
    simp only [List.set_cons_succ, List.getD_cons_succ, List.flatten_cons, ih]
    rw [show (i + 1) * sz + k = r.length + (i * sz + k) by rw [Nat.succ_mul]; omega, show r.length + (i * sz + k) + ds.length = r.length + (i * sz + k + ds.length) by omega, List.take_length_add_append, List.drop_length_add_append]
    simp
theorem RdL_take {c : Rdr} : ∀ {l : List D} {vs : List Value} (k : Nat), RdL c l vs → RdL c (l.take k) (vs.take k)
  | [], [], k, h => by simpa using h
  | d :: ds, v :: vs, 0, hh => by simp [RdL]
  | d :: ds, v :: vs, k + 1, hh => by simp only [List.take_succ_cons]; exact ⟨hh.1, RdL_take k hh.2⟩
theorem RdL_drop {c : Rdr} : ∀ {l : List D} {vs : List Value} (k : Nat), RdL c l vs → RdL c (l.drop k) (vs.drop k)
  | [], [], k, h => by simpa using h
  | d :: ds, v :: vs, 0, hh => by simpa using hh
  | d :: ds, v :: vs, k + 1, hh => by simpa using RdL_drop k hh.2
theorem ok_st (h : Sat H N w m B a st) {t : TypeId} {x y : Operand} {r q : Rv} {agg : Bool} {n : Nat} (ho : o.op = .store t x y) (hx : opn x = some r) (hy : opn y = some q) (ht : ldT P t = some (agg, n))
    (hXB : ∀ o' k, r.get st = .ptr o' k → ∀ y b, lk st.ob o' = some y → y.has = true → B o' b → XB b)
    (hXB2 : ∀ o' sz i k, r.get st = .ep o' sz i k → ∀ y b, lk st.ob o' = some y → y.has = true → B o' b → XB b)
    (hs : step T (.st agg n r q) st K Kp) : ∃ w' m' B' st', (execOp a.eval o).run P w = .ok .skip w' ∧ K st' ∧ Sat H N w' m' B' a st' ∧ Since w m B st.store w' m' B' st'.store ∧ ∀ b, b < w.heap.size → ¬ XB b → w'.heap[b]? = w.heap[b]? := by
  have h1 := get_ok h hx
  have h2 := get_ok h hy
  simp only [step] at hs
  split at hs
  · rename_i o' k e1
    rw [e1] at h1
    simp only [Cn] at h1
    obtain ⟨h3, b, h4, e⟩ := h1
    split at hs
    · rename_i te l hl
      cases e2 : (q.get st).cells with
      | none => rw [e2] at hs; exact hs.elim
      | some xs =>
        rw [e2] at hs
        obtain ⟨⟨hn, hk⟩, hs⟩ := hs
        obtain ⟨p1, p2⟩ := cells_ok h2 e2
        obtain ⟨cs, g1, g2, g3, g4⟩ := obj_cells h.store hl h4
        have l1 := CnL_length p1
        have l2 := CnL_length g2
        obtain ⟨w1, r1, r2, r3, r4, r5, r6, r7⟩ := run_st (P := P) (w := w) (t := t) (k := k) (v := a.eval y) g1 ht (by rw [← Array.length_toList]; omega) (by rw [← Array.length_toList]; omega) p2
        have hu := SOk.upd (w1 := w1) h.store o' _ (.cells te (splice l k xs)) hl rfl (fun x => x = b) r2 r3 r4 (by omega) (fun j _ hj => r6 j (fun e => hj ((g4 j).2 e)))
          (fun j _ hj => by subst hj; exact ⟨by rw [r5]; exact (Array.getElem?_eq_some_iff.1 g1).1, .inl ((g4 j).2 rfl)⟩) (fun c hc1 _ => by
            refine ⟨b, _, h4, r7, ?_, ?_, fun x => Iff.rfl⟩
            · simp only [splice]
              rw [show xs.length = (a.eval y).cells.toList.length by omega]
              exact CnL_append (CnL_append (CnL_take k (CnL_mono (Nat.le_refl _) (fun _ _ => rfl) hc1 _ _ g2)) (CnL_mono (Nat.le_refl _) (fun _ _ => rfl) hc1 _ _ p1)) (CnL_drop _ (CnL_mono (Nat.le_refl _) (fun _ _ => rfl) hc1 _ _ g2))
            · intro u hu
              simp only [List.mem_append] at hu
              rcases hu with (hu | hu) | hu
              · exact g3 u (List.mem_of_mem_take hu)
              · exact p2 u hu
              · exact g3 u (List.mem_of_mem_drop hu))
        obtain ⟨hS, hO⟩ := hu
        refine ⟨w1, m, _, _, ?_, hs, ⟨h.size, h.defers, h.slots.since hS, hO⟩, hS, fun j _ hj => r6 j fun e' => hj (hXB o' k e1 _ j hl rfl ((g4 j).2 e'))⟩
        simp [execOp, ho, Instr.storeAt, Instr.sureAddr, e, r1]
    · exact hs.elim
  · rename_i o' sz i k e1
    rw [e1] at h1
    simp only [Cn] at h1
    obtain ⟨h3, g, len, cap, h4, e⟩ := h1
    split at hs
    · rename_i te sz' rows hl
      cases e2 : (q.get st).cells with
      | none => rw [e2] at hs; exact hs.elim
      | some xs =>
        rw [e2] at hs
        simp only [need_some] at hs
        cases e3 : allD xs with
        | none => rw [e3] at hs; exact hs.elim
        | some ds =>
          rw [e3] at hs
          simp only [need_some] at hs
          obtain ⟨⟨rfl, hi, hn, hk⟩, hs⟩ := hs
          obtain ⟨p1, p2⟩ := cells_ok h2 e2
          have p3 := allD_ok e3 p1
          have l1 := RdL_length p3
          obtain ⟨ys, g1, g2, g3, g4⟩ := h.store.obs o' _ hl
          obtain ⟨f1, f2⟩ := g1
          rcases f2 with ⟨f2, f3⟩ | ⟨g', cap', cur, f2, f3, f4, f5, f6, f7, f8⟩
          · rw [h4] at f2; cases f2
          · rw [h4] at f2
            simp only [Value.slice.injEq, Option.some.injEq, Addr.mk.injEq, and_true] at f2
            obtain ⟨rfl, rfl, rfl⟩ := f2
            have hin : i * sz' + k + n ≤ rows.length * sz' := by
              have := Nat.mul_le_mul_right sz' hi
              rw [Nat.succ_mul] at this
              omega
            have hcc : rows.length * sz' ≤ cap * sz' := Nat.mul_le_mul_right _ f5
            obtain ⟨w1, r1, r2, r3, r4, r5, r6, r7⟩ := run_st (P := P) (w := w) (t := t) (k := i * sz' + k) (v := a.eval y) f4 ht (by rw [← Array.length_toList]; omega) (by omega) p2
            have hcl : cur.toList.length = cap * sz' := by rw [Array.length_toList, f7]
            have hpl : i * sz' + k ≤ rows.length * sz' := by omega
            have hg4 : ∀ x, B o' x ↔ x = g := fun x => by rw [g4 x, h4]; simp [Value.ownBlock, eq_comm]
            have hfl := flat_set rows i k ds g3 hi (by omega)
            have hu := SOk.upd (w1 := w1) h.store o' _ (.row te sz' (rows.set i (spliceD (rows.getD i []) k ds))) hl rfl (fun x => x = g) r2 r3 r4 (by omega) (fun j _ hj => r6 j (fun e => hj ((hg4 j).2 e)))
              (fun j _ hj => by subst hj; exact ⟨by rw [r5]; exact (Array.getElem?_eq_some_iff.1 f4).1, .inl ((hg4 j).2 rfl)⟩) (fun c hc1 _ => by
                refine ⟨ys.take (i * sz' + k) ++ (a.eval y).cells.toList ++ ys.drop (i * sz' + k + (a.eval y).cells.toList.length), ⟨?_, .inr ⟨g, cap, _, by rw [h4, List.length_set], f3, r7, by rw [List.length_set]; exact f5, f6, ?_, ?_⟩⟩, ?_, ?_, fun x => ?_⟩
                · simp only [List.length_append, List.length_take, List.length_drop, List.length_set, f1, Nat.min_eq_left hpl]; omega
                · simp only [List.size_toArray, List.length_append, List.length_take, List.length_drop, hcl, Nat.min_eq_left (Nat.le_trans hpl hcc)]; omega
                · rw [List.length_set, ← f8, ← take_splice _ _ _ _ (by omega) (by omega)]
                · rw [hfl, ← l1]
                  refine RdL_append (RdL_append (RdL_take _ ?_) (RdL_mono hc1 _ _ p3)) (RdL_drop _ ?_) <;> exact RdL_mono hc1 _ _ g2
                · intro r hr
                  rcases List.mem_or_eq_of_mem_set hr with hr | rfl
                  · exact g3 r hr
                  · have hr0 : (rows.getD i []).length = sz' := by
                      rw [List.getD_eq_getElem?_getD, List.getElem?_eq_getElem hi]
                      exact g3 _ (List.getElem_mem hi)
                    simp only [spliceD, List.length_append, List.length_take, List.length_drop, hr0]; omega
                · rw [h4]; simp [Value.ownBlock, eq_comm])
            obtain ⟨hS, hO⟩ := hu
            refine ⟨w1, m, _, _, ?_, hs, ⟨h.size, h.defers, h.slots.since hS, hO⟩, hS, fun j _ hj => r6 j fun e' => hj (hXB2 o' sz' i k e1 _ j hl rfl ((hg4 j).2 e'))⟩
            simp [execOp, ho, Instr.storeAt, Instr.sureAddr, e, r1]
    · exact hs.elim
  · exact hs.elim

end
end Go.Ev
