/- The evaluator's operations on memory are sound: append, slices of rows, bytes to text, panics, tests for nil. -/
import Derived.Test.YtpbkdcfjlbdgfaaDoorEvH
import Derived.Laws.RangeString
import Derived.Lib.AppendStr
import Derived.WalkKit
import Derived.Laws.StructEq
import Derived.Laws.Pointers
import Derived.WideLaws
set_option linter.unusedVariables false
set_option linter.unusedSimpArgs false
namespace Go.Ev
open Go

section
variable {G : World → Prop} {H : Hd G} {XB : Nat → Prop} {N : Nat} {w : World} {m : Nat → Value} {B : Nat → Nat → Prop} {a : Act} {st : St}
variable {P : Program} {o : Oper} {T : FuncId → Contract} {K : St → Prop} {Kp : SV → Store → Prop}

/-- A source of an append: where its cells can be read, if it has any. -/
theorem source_ok (h : SOk H w m B st.store) {x : SV} {v : Value} (hx : Cn m st.n (vw H w B st.ob) x v) {rows : List (List D)} (e : st.rows x = some rows) {sz : Nat} (hr : ∀ r ∈ rows, r.length = sz) :
    ∃ A cap xs, v = .slice A rows.length cap ∧ RdL (vw H w B st.ob) rows.flatten xs ∧ xs.length = rows.length * sz ∧ (∀ j u, xs[j]? = some u → ∃ ad, A = some ad ∧ w.cell? (ad.add j) = some u) := by
  obtain ⟨A, cap, e1, _, _, h4⟩ := rows_ok h hx e
  refine ⟨A, cap, ?_⟩
  have key : ∀ (l : List D) (k : Nat), (∀ j d, l[j]? = some d → ∃ ad u, A = some ad ∧ w.cell? (ad.add (k + j)) = some u ∧ Rd (vw H w B st.ob) d u) → ∃ xs, RdL (vw H w B st.ob) l xs ∧ ∀ j u, xs[j]? = some u → ∃ ad, A = some ad ∧ w.cell? (ad.add (k + j)) = some u := by
    intro l
    induction l with
    | nil => intro k _; exact ⟨[], trivial, by simp⟩
    | cons d ds ih =>
      intro k hl
      obtain ⟨ad, u, e1, e2, e3⟩ := hl 0 d rfl
      obtain ⟨xs, q1, q2⟩ := ih (k + 1) (fun j d' hj => by
        have := hl (j + 1) d' (by simpa using hj)
        rwa [show k + (j + 1) = k + 1 + j by omega] at this)
      refine ⟨u :: xs, ⟨e3, q1⟩, fun j u' hj => ?_⟩
      cases j with
      | zero => simp at hj; subst hj; exact ⟨ad, e1, e2⟩
      | succ j =>
        have := q2 j u' (by simpa using hj)
        rwa [show k + 1 + j = k + (j + 1) by omega] at this
  obtain ⟨xs, q1, q2⟩ := key rows.flatten 0 (fun j d hj => by simpa using h4 j d hj)
  exact ⟨xs, e1, q1, by rw [RdL_length q1, flat_length hr], by simpa using q2⟩

theorem run_append_none {t ty e : TypeId} {i : TypeInfo} (ht : P.underlying t = some (.slice e)) (hi : P.info? e = some i) {v : Value} {n : Nat} {xs : List Value} {sz : Nat} (hown : w.ownsRow 0 e sz v n xs) (cap : Nat) :
    (Builtin.append_ #[t, t] ty #[v, .slice none 0 cap]).run P w = .ok v w := by
  obtain ⟨_, p2⟩ := hown
  rcases p2 with ⟨rfl, rfl⟩ | ⟨g, c, cur, rfl, _, f3, f4, f5, f6, f7⟩
  · simp [Builtin.append_, run_underlying ht, sizeOf, typeInfo, hi, Builtin.lenOf, Builtin.firstCells]
  · simp [Builtin.append_, run_underlying ht, sizeOf, typeInfo, hi, Builtin.lenOf, Builtin.firstCells, f4, storeCells]

/-- The law of append, at a row that is owned or nil. -/
theorem app_run {t ty e : TypeId} {i : TypeInfo} {z : Value} {sz bytes : Nat} (ht : P.underlying t = some (.slice e)) (hi : P.info? e = some i) (hz : i.zero = some z) (hsize : i.size = sz) (hby : i.bytes = bytes) (hzs : z.cells.size = sz) (hsz : 0 < sz) (hb0 : 0 < bytes)
    {v : Value} {n : Nat} {xs : List Value} (hown : w.ownsRow 0 e sz v n xs) {A : Option Addr} {k cap : Nat} {news : List Value} (hl : news.length = k * sz) (hA : ∀ j u, news[j]? = some u → ∃ ad, A = some ad ∧ w.cell? (ad.add j) = some u)
    (h1 : ∀ u ∈ news, u.oneCell' = true) (hbytes : (n + k) * bytes ≤ 140737488355328) :
    ∃ v' w', (Builtin.append_ #[t, t] ty #[v, .slice A k cap]).run P w = .ok v' w' ∧ w'.ownsRow 0 e sz v' (n + k) (xs ++ news) ∧ w.grownBy w' v.ownBlock ∧ (v'.ownBlock = v.ownBlock ∨ v'.ownBlock = some w.heap.size) := by
  have hm : maxLen = 9223372036854775807 := by decide
  have hnk : n + k ≤ 140737488355328 := Nat.le_trans (Nat.le_mul_of_pos_right _ hb0) hbytes
  cases A with
  | some ad =>
    obtain ⟨v', w', r1, r2, r3, _, r5⟩ := run_append_own_at (P := P) (w := w) 0 t ty e i z sz bytes ht hi hz hsize hby hzs hsz v n xs hown ad k cap news hl (fun j u hj => by
      obtain ⟨ad', e1, e2⟩ := hA j u hj
      cases e1; exact e2) h1 (by omega) hbytes (Nat.zero_le _)
    exact ⟨v', w', r1, r2, r3, r5⟩
  | none =>
    have hn : news = [] := by
      cases news with
      | nil => rfl
      | cons u r => obtain ⟨ad, e1, _⟩ := hA 0 u rfl; cases e1
    subst hn
    have hk : k = 0 := by
      rcases Nat.mul_eq_zero.1 (show k * sz = 0 by simpa using hl.symm) with h | h
      · exact h
      · omega
    subst hk
    exact ⟨v, w, run_append_none ht hi hown cap, by simpa using hown, ⟨rfl, rfl, rfl, Nat.le_refl _, fun _ _ _ => rfl⟩, .inl rfl⟩

theorem ok_ap (h : Sat H N w m B a st) {d : Nat} (hd : d < N) {t e : TypeId} {i : TypeInfo} {z : Value} {sz bytes : Nat} {x y : Operand} {r q : Rv} (ho : o.op = .call { callee := .builtin .append, args := #[x, y], argTypes := #[t, t] }) (hx : opn x = some r) (hy : opn y = some q)
    (ht : P.underlying t = some (.slice e)) (hi : P.info? e = some i) (hz : i.zero = some z) (hsize : i.size = sz) (hby : i.bytes = bytes) (hzs : z.cells.size = sz) (hsz : 0 < sz) (hb0 : 0 < bytes)
    (hXB : ∀ o', r.get st = .own o' → ∀ y b, lk st.ob o' = some y → y.has = true → B o' b → XB b)
    (hs : step T (.ap d e sz bytes r q) st K Kp) : VOk H N XB w m B st.store a d K ((execOp a.eval o).run P w) := by
  have h1 := get_ok h hx
  have h2 := get_ok h hy
  simp only [step] at hs
  cases ey : st.rows (q.get st) with
  | none => rw [ey] at hs; exact hs.elim
  | some ys =>
    rw [ey] at hs
    simp only [need_some] at hs
    obtain ⟨hr, hs⟩ := hs
    obtain ⟨A, cap, news, e1, q1, q2, q3⟩ := source_ok h.store h2 ey hr
    have hex : ∀ v w', (Builtin.append_ #[t, t] o.type #[a.eval x, a.eval y]).run P w = .ok v w' → (execOp a.eval o).run P w = .ok (.value v) w' := by
      intro v w' hv
      simp only [execOp, ho, resolve, invoke, builtin, Sem.run_bind, Sem.run_pure, Result.andThen_ok]
      have : (Array.map a.eval #[x, y]) = #[a.eval x, a.eval y] := by simp
      rw [this, hv]; rfl
    split at hs
    · -- onto an own row
      rename_i o' ex
      rw [ex] at h1
      simp only [Cn] at h1
      obtain ⟨h3, h4, _⟩ := h1
      split at hs
      · rename_i t' sz' rows hl
        obtain ⟨⟨rfl, rfl, hb⟩, hs⟩ := hs
        obtain ⟨xs, p1, p2, p3, p4⟩ := h.store.obs o' _ hl
        obtain ⟨v', w1, r1, r2, r3, r4⟩ := app_run (P := P) (w := w) (t := t) (ty := o.type) ht hi hz hsize hby hzs hsz hb0 p1 (A := A) (k := ys.length) (cap := cap) q2 q3 (RdL_one q1) hb
        have hmv := SOk.mv (w1 := w1) h.store o' _ (.row t' sz' (rows ++ ys)) hl rfl v' (fun b => v'.ownBlock = some b) r3.os r3.tape r3.output r3.size (fun b hb hno => r3.block b hb (fun e => hno ((p4 b).2 e.symm)))
          (fun b _ hb => by
            have hlt := (r2.lt b hb).2
            refine ⟨hlt, ?_⟩
            rcases r4 with r4 | r4
            · rw [r4] at hb; exact .inl ((p4 b).2 hb)
            · rw [r4] at hb; cases hb; exact .inr (Nat.le_refl _)) (fun c hc1 _ => by
            refine ⟨xs ++ news, ?_, ?_, ?_, ?_⟩
            · simpa using r2
            · rw [List.flatten_append]; exact RdL_append (RdL_mono hc1 _ _ p2) (RdL_mono hc1 _ _ q1)
            · intro z hz
              rcases List.mem_append.1 hz with hz | hz
              · exact p3 z hz
              · exact hr z hz
            · intro b; simp)
        obtain ⟨hS, hO⟩ := hmv
        refine ⟨v', w1, _, _, _, hex _ _ (by rw [h4, e1]; exact r1), hs, Sat.put ⟨h.size, h.defers, h.slots.since hS, hO⟩ hd ?_, hS, fun b hb hno => r3.block b hb fun e => hno (hXB o' ex _ b hl rfl ((p4 b).2 e.symm))⟩
        simp only [Cn, St.newO, St.setO]
        refine ⟨by omega, by simp [St.store], ?_⟩
        obtain ⟨_, f⟩ := r2
        rcases f with ⟨rfl, _⟩ | ⟨_, _, _, rfl, _⟩ <;> rfl
      · exact hs.elim
    · -- onto nil
      rename_i ex
      rw [ex] at h1
      obtain ⟨hb, hs⟩ := hs
      obtain ⟨v', w1, r1, r2, r3, r4⟩ := app_run (P := P) (w := w) (t := t) (ty := o.type) ht hi hz hsize hby hzs hsz hb0 (World.ownsRow_nil w 0 e sz) (A := A) (k := ys.length) (cap := cap) q2 q3 (RdL_one q1) (by simpa using hb)
      have hadd := SOk.add (w1 := w1) h.store (.row e sz ys) v' (fun b => v'.ownBlock = some b) r3.os r3.tape r3.output r3.size (fun b hb => r3.block b hb (by simp [Value.ownBlock]))
        (fun b _ hb => by
          have hlt := (r2.lt b hb).2
          rcases r4 with r4 | r4
          · rw [r4] at hb; cases hb
          · rw [r4] at hb; cases hb; exact ⟨Nat.le_refl _, hlt⟩) (fun c hc => by
          refine ⟨news, ?_, RdL_mono hc _ _ q1, hr, ?_⟩
          · simpa using r2
          · intro b; simp)
      obtain ⟨hS, hO⟩ := hadd
      refine ⟨v', w1, _, _, _, hex _ _ (by rw [of_v h1, e1]; exact r1), hs, Sat.put ⟨h.size, h.defers, h.slots.since hS, hO⟩ hd ?_, hS, fun b hb _ => r3.block b hb (by simp [Value.ownBlock])⟩
      simp only [Cn, St.newO]
      refine ⟨by omega, by simp [St.store], ?_⟩
      obtain ⟨_, f⟩ := r2
      rcases f with ⟨rfl, _⟩ | ⟨_, _, _, rfl, _⟩ <;> rfl
    · exact hs.elim

theorem ok_slr (h : Sat H N w m B a st) {d : Nat} (hd : d < N) {t e : TypeId} {sz : Nat} {x : Operand} {lo hi : Option Operand} {r : Rv} {rl rh : Option Rv} (ho : o.op = .slice t x lo hi none) (hx : opn x = some r)
    (hl : lo.bind opn = rl) (hln : lo.isSome = rl.isSome) (hh : hi.bind opn = rh) (hhn : hi.isSome = rh.isSome) (ht : P.underlying t = some (.slice e)) (hz : (P.info? e).map (·.size) = some sz)
    (hs : step T (.slr d sz r rl rh) st K Kp) : VOk H N XB w m B st.store a d K ((execOp a.eval o).run P w) := by
  have h1 := get_ok h hx
  cases hi' : P.info? e with
  | none => rw [hi'] at hz; cases hz
  | some inf =>
  rw [hi'] at hz
  simp only [Option.map_some, Option.some.injEq] at hz
  have hszr : (sizeOf e).run P w = .ok sz w := by simp [sizeOf, typeInfo, hi', hz]
  simp only [step] at hs
  cases ef : st.frz (r.get st) with
  | none => rw [ef] at hs; exact hs.elim
  | some y =>
    obtain ⟨yd, st1⟩ := y
    rw [ef] at hs
    simp only [need_some] at hs
    obtain ⟨B1, g1, g2, g3, g4, g5⟩ := frz_ok h h1 ef
    split at hs
    · rename_i rows
      cases e2 : optInt st 0 rl with
      | none => rw [e2] at hs; exact hs.elim
      | some l =>
        cases e3 : optInt st rows.length rh with
        | none => rw [e2, e3] at hs; exact hs.elim
        | some u =>
          rw [e2, e3] at hs
          obtain ⟨⟨b0, b1, b2⟩, hr, hs⟩ := hs
          simp only [Rd] at g3
          obtain ⟨A, cap, ev, c1, c2, c3⟩ := g3
          have hb := run_bounds_ok (P := P) (a := a) w true rows.length cap lo hi l u (optInt_ok h hl hln e2) (optInt_ok h hh hhn e3) b0 b1 b2 c1
          have hlen : ((rows.take u.toNat).drop l.toNat).length = u.toNat - l.toNat := by rw [List.length_drop, List.length_take]; omega
          refine ⟨.slice (if cap = l.toNat then A else A.map (·.add (l.toNat * sz))) (u.toNat - l.toNat) (cap - l.toNat), w, m, B1, _, ?_, hs, g1.put hd ?_, g2, fun _ _ _ => rfl⟩
          · simp [execOp, ho, ev, Instr.sliceAt, Instr.slice, run_underlying ht, hb, hszr]
          · simp only [Cn, Rd]
            rw [hlen]
            refine ⟨_, _, rfl, by omega, by omega, ?_⟩
            by_cases hc : cap = l.toNat
            · left
              apply List.length_eq_zero_iff.1
              rw [hlen]; omega
            · rcases c3 with rfl | ⟨ad, sz', rfl, csp, c3⟩
              · left; simp
              · cases rows with
                | nil => left; simp
                | cons r0 rs =>
                  have hsz' : sz' = sz := by
                    have h8 := (RdRows_get (i := 0) c3 rfl).1
                    have h9 := hr r0 (by simp)
                    omega
                  subst hsz'
                  right
                  refine ⟨ad.add (l.toNat * sz'), sz', by rw [if_neg hc]; rfl, add_spot csp _, ?_⟩
                  have := RdRows_drop l.toNat (RdRows_take u.toNat c3)
                  rw [Nat.zero_add] at this
                  exact RdRows_at (by rw [Nat.add_zero]; exact this)
    · exact hs.elim

/-- The law of append, of a string's bytes, with the row's place. -/
theorem app_str {t u ty e : TypeId} {i : TypeInfo} (ht : P.underlying t = some (.slice e)) (hu : P.underlying u = some .string) (hi : P.info? e = some i) (hz : i.zero = some (.int .u8 0)) (hsize : i.size = 1) (hby : i.bytes = 1)
    {v : Value} {n : Nat} {xs : List Value} (hown : w.ownsRow 0 e 1 v n xs) (s : ByteArray) (hb : n + s.size ≤ 140737488355328) :
    ∃ v' w', (Builtin.append_ #[t, u] ty #[v, .string s]).run P w = .ok v' w' ∧ w'.ownsRow 0 e 1 v' (n + s.size) (xs ++ Lib.strCells s) ∧ w.grownBy w' v.ownBlock ∧ (v'.ownBlock = v.ownBlock ∨ ∃ x, v'.ownBlock = some x ∧ w.heap.size ≤ x) := by
  have hm : maxLen = 9223372036854775807 := by decide
  obtain ⟨v', w', h1, h2, h3, h4⟩ := Lib.run_append_own_string (P := P) (w := w) 0 t u ty e i ht hu hi hz hsize hby v n xs hown s (by omega) hb (Nat.zero_le _)
  refine ⟨v', w', h1, h2, h3, ?_⟩
  obtain ⟨p1, p2⟩ := hown
  rcases p2 with ⟨rfl, rfl⟩ | ⟨g, cap, cur, rfl, _, f3, f4, f5, f6, f7⟩
  · have hx : xs = [] := List.eq_nil_of_length_eq_zero (by simpa using p1)
    subst hx
    obtain ⟨v2, w2, k1, k2, k3, k4⟩ := Lib.run_append_own_string (P := P) (w := w) w.heap.size t u ty e i ht hu hi hz hsize hby _ 0 [] (World.ownsRow_nil w _ e 1) s (by omega) hb (Nat.le_refl _)
    rw [h1] at k1
    simp only [Result.ok.injEq] at k1
    obtain ⟨rfl, rfl⟩ := k1
    rcases k2.2 with ⟨rfl, _⟩ | ⟨g, cap, cur, rfl, hg, _⟩
    · exact .inl rfl
    · exact .inr ⟨g, rfl, hg⟩
  · by_cases hr : n + s.size ≤ cap
    · have := Lib.run_append_room_string (P := P) (w := w) t u ty e i ht hu hi hsize g n cap cur f3 s hr (by omega)
      rw [h1] at this
      simp only [Result.ok.injEq] at this
      obtain ⟨rfl, _⟩ := this
      exact .inl rfl
    · have := Lib.run_append_grow_string (P := P) (w := w) t u ty e i _ ht hu hi hz ⟨g, 0, none⟩ n cap xs (by rw [hsize]; exact p1) (World.ownsRow.cells (g := g) ⟨p1, .inr ⟨g, cap, cur, rfl, Nat.zero_le _, f3, f4, f5, f6, f7⟩⟩ rfl) s (by omega) (by omega) (by rw [hby]; exact growslice_fits (by omega) (by omega))
      rw [h1] at this
      simp only [Result.ok.injEq] at this
      obtain ⟨rfl, _⟩ := this
      exact .inr ⟨_, rfl, Nat.le_refl _⟩
theorem byteRows_all (l : List UInt8) : ∀ r ∈ byteRows l, r.length = 1 := by
  intro r hr
  simp only [byteRows, List.mem_map] at hr
  obtain ⟨b, _, rfl⟩ := hr; rfl
theorem byteRows_flat {c : Rdr} : ∀ l : List UInt8, RdL c (byteRows l).flatten (l.map fun b => Value.int .u8 b.toNat)
  | [] => trivial
  | b :: l => ⟨⟨rfl, rfl⟩, byteRows_flat l⟩
theorem ok_aps (h : Sat H N w m B a st) {d : Nat} (hd : d < N) {t u e : TypeId} {i : TypeInfo} {x y : Operand} {r q : Rv} (ho : o.op = .call { callee := .builtin .append, args := #[x, y], argTypes := #[t, u] }) (hx : opn x = some r) (hy : opn y = some q)
    (ht : P.underlying t = some (.slice e)) (hu : P.underlying u = some .string) (hi : P.info? e = some i) (hz : i.zero = some (.int .u8 0)) (hsize : i.size = 1) (hby : i.bytes = 1)
    (hXB : ∀ o', r.get st = .own o' → ∀ y b, lk st.ob o' = some y → y.has = true → B o' b → XB b)
    (hs : step T (.aps d e r q) st K Kp) : VOk H N XB w m B st.store a d K ((execOp a.eval o).run P w) := by
  have h1 := get_ok h hx
  have h2 := get_ok h hy
  simp only [step] at hs
  split at hs
  · rename_i s ey
    rw [ey] at h2
    have e1 := of_v h2
    split at hs
    · rename_i o' ex
      rw [ex] at h1
      simp only [Cn] at h1
      obtain ⟨h3, h4, _⟩ := h1
      split at hs
      · rename_i t' sz' rows hl
        obtain ⟨⟨rfl, rfl, hb⟩, hs⟩ := hs
        obtain ⟨xs, p1, p2, p3, p4⟩ := h.store.obs o' _ hl
        obtain ⟨v', w1, r1, r2, r3, r4⟩ := app_str (P := P) (w := w) (t := t) (u := u) (ty := o.type) ht hu hi hz hsize hby p1 s hb
        have hsz : (byteRows s.data.toList).length = s.size := by simp only [byteRows, List.length_map, Array.length_toList]; rfl
        have hmv := SOk.mv (w1 := w1) h.store o' _ (.row t' 1 (rows ++ byteRows s.data.toList)) hl rfl v' (fun b => v'.ownBlock = some b) r3.os r3.tape r3.output r3.size (fun b hb hno => r3.block b hb (fun e => hno ((p4 b).2 e.symm)))
          (fun b _ hb => by
            have hlt := (r2.lt b hb).2
            refine ⟨hlt, ?_⟩
            rcases r4 with r4 | ⟨y, r4, r5⟩
            · rw [r4] at hb; exact .inl ((p4 b).2 hb)
            · rw [r4] at hb; cases hb; exact .inr r5) (fun c hc1 _ => by
            refine ⟨xs ++ Lib.strCells s, ?_, ?_, ?_, ?_⟩
            · simp only [if_true, List.length_append, hsz]; exact r2
            · rw [List.flatten_append]; exact RdL_append (RdL_mono hc1 _ _ p2) (byteRows_flat _)
            · intro z hz
              rcases List.mem_append.1 hz with hz | hz
              · exact p3 z hz
              · exact byteRows_all _ z hz
            · intro b; simp)
        obtain ⟨hS, hO⟩ := hmv
        refine ⟨v', w1, _, _, _, ?_, hs, Sat.put ⟨h.size, h.defers, h.slots.since hS, hO⟩ hd ?_, hS, fun b hb hno => r3.block b hb fun e => hno (hXB o' ex _ b hl rfl ((p4 b).2 e.symm))⟩
        · simp only [execOp, ho, resolve, invoke, builtin, Sem.run_bind, Sem.run_pure, Result.andThen_ok]
          have : (Array.map a.eval #[x, y]) = #[m o', .string s] := by simp [h4, e1]
          rw [this, r1]; rfl
        · simp only [Cn, St.newO, St.setO]
          refine ⟨by omega, by simp [St.store], ?_⟩
          obtain ⟨_, f⟩ := r2
          rcases f with ⟨rfl, _⟩ | ⟨_, _, _, rfl, _⟩ <;> rfl
      · exact hs.elim
    · exact hs.elim
  · exact hs.elim

/-- Tests against nil. -/
def nilT (P : Program) (op : BinOp) (t : TypeId) (y : Operand) : Option (Bool × Bool) := match op, P.underlying t, y with
  | .eql, some (.interface _), .const .nilIface => some (false, true)
  | .neq, some (.interface _), .const .nilIface => some (true, true)
  | .eql, some (.pointer _), .const (.pointer none) => some (false, false)
  | .neq, some (.pointer _), .const (.pointer none) => some (true, false)
  | _, _, _ => none
theorem eqnil_ptr {P : Program} {t e : TypeId} (hu : P.underlying t = some (.pointer e)) (p : Option Addr) (w : World) : (Op.equal t (.pointer p) (.pointer none)).run P w = .ok p.isNone w := run_equal_pointer_nil w t p (by rw [hu]; simp [Program.pointee, hu])
theorem eqnil_held {P : Program} {t : TypeId} {ms : Array (String × TypeId)} (hu : P.underlying t = some (.interface ms)) (u : TypeId) (x : Value) (w : World) : (Op.equal t (.iface u x) .nilIface).run P w = .ok false w := run_equal_held_nil w t u x (by rw [hu]; simp [Program.methodsAt, hu])
theorem eqnil_nil {P : Program} {t : TypeId} {ms : Array (String × TypeId)} (hu : P.underlying t = some (.interface ms)) (w : World) : (Op.equal t .nilIface .nilIface).run P w = .ok true w := run_equal_nil_nil w t (by rw [hu]; simp [Program.methodsAt, hu])
theorem evalC (a : Act) (c : Value) : a.eval (.const c) = c := rfl
theorem ok_isnil (h : Sat H N w m B a st) {d : Nat} (hd : d < N) {op : BinOp} {t t' : TypeId} {x y : Operand} {r : Rv} {nn : Bool × Bool} (ho : o.op = .binOp op t x y t') (hx : opn x = some r) (hn : nilT P op t y = some nn)
    (hs : step T (.isnil d nn.1 nn.2 r) st K Kp) : PV m st.n (vw H w B st.ob) P o a d K st := by
  have h1 := get_ok h hx
  simp only [step] at hs
  cases e : nilV nn.2 (r.get st) with
  | none => rw [e] at hs; exact hs.elim
  | some b =>
    rw [e] at hs
    simp only [need_some] at hs
    refine PV.pure (v := .bool (cond nn.1 (!b) b)) h hd (Cn_v rfl) hs fun w => ?_
    unfold nilT at hn
    unfold nilV at e
    split at hn <;> simp only [Option.some.injEq, reduceCtorEq] at hn <;> subst hn <;> rename_i hu
    all_goals
      split at e <;> simp only [Option.some.injEq, reduceCtorEq, Bool.true_eq_false, Bool.false_eq_true] at e <;> subst e <;> rename_i hr <;> rw [hr] at h1 <;> simp only [Cn, Rd] at h1
    all_goals first | contradiction | skip
    all_goals first
      | (obtain ⟨_, b', _, e⟩ := h1; simp [execOp, ho, evalC, e, eqGuard, binOp, eqnil_ptr hu]; done)
      | (obtain ⟨b', e, _⟩ := h1; simp [execOp, ho, evalC, e, eqGuard, binOp, eqnil_ptr hu]; done)
      | (obtain ⟨b', e, _⟩ := h1; simp [execOp, ho, evalC, e, eqGuard, binOp, eqnil_held hu]; done)
      | (obtain ⟨e, _⟩ := h1; simp [execOp, ho, e, evalC, eqGuard, binOp, eqnil_ptr hu]; done)
      | (obtain ⟨e, _⟩ := h1; simp [execOp, ho, e, evalC, eqGuard, binOp, eqnil_nil hu]; done)

/-- Structs of plain fields. -/
def kindT (P : Program) (t : TypeId) : Option Nat := match P.underlying t with
  | some (.int _) => some 0
  | some .string => some 1
  | some .bool => some 2
  | _ => none
def kindsT (P : Program) : List Field → Nat → Option (List Nat)
  | [], _ => some []
  | f :: fs, i => if (f.name != "_" && f.offset == i && (P.info? f.type).map (·.size) == some 1) = true then (kindT P f.type).bind fun k => (kindsT P fs (i + 1)).map (k :: ·) else none
def eqT (P : Program) (op : BinOp) (t : TypeId) : Option (Bool × List Nat) := match P.underlying t with
  | some (.struct fs) => if (P.stoodInHeld t == false && P.eqGuardType P.depth t == false) = true then match op with
      | .eql => (kindsT P fs.toList 0).map fun ks => (false, ks)
      | .neq => (kindsT P fs.toList 0).map fun ks => (true, ks)
      | _ => none
    else none
  | _ => none
theorem eqv_run {k : Nat} {t : TypeId} {c : Rdr} {n : Nat} {x y : SV} {u v : Value} {b : Bool} (hk : kindT P t = some k) (hx : Cn m n c x u) (hy : Cn m n c y v) (e : eqv k x y = some b) (d : Nat) (w : World) : (Op.equalIn (d + 1) t u v).run P w = .ok b w := by
  unfold eqv at e
  unfold kindT at hk
  split at e
  · obtain ⟨e3, e4⟩ := Option.ite_none_right_eq_some.1 e
    clear e
    subst e3
    obtain rfl := Option.some.inj e4
    split at hk <;> simp at hk
    rename_i hu
    rw [of_v hx, of_v hy, run_equalIn_int w d t _ _ _ _ hu]
    congr 1
  · obtain rfl := Option.some.inj e
    split at hk <;> simp at hk
    rename_i hu
    rw [of_v hx, of_v hy, run_equalIn_string w d t _ _ hu, bytes_eq]
  · obtain rfl := Option.some.inj e
    split at hk <;> simp at hk
    rename_i hu
    rw [of_v hx, of_v hy, run_equalIn_bool' w d t _ _ hu]
  · cases e
theorem eqL_run {c : Rdr} {n : Nat} {xs ys : Array Value} (d : Nat) (w : World) : ∀ {fs : List Field} {i : Nat} {ks : List Nat} {l l' : List SV} {b : Bool}, kindsT P fs i = some ks → CnL m n c l (xs.toList.drop i) → CnL m n c l' (ys.toList.drop i) → eqL ks l l' = some b →
    (Op.eqFields (d + 1) xs ys fs).run P w = .ok b w
  | [], i, ks, l, l', b, hk, _, _, e => by
    simp only [kindsT, Option.some.injEq] at hk; subst hk
    simp only [eqL, Option.some.injEq] at e; subst e
    simp [Op.eqFields]
  | f :: fs, i, ks, l, l', b, hk, hx, hy, e => by
    simp only [kindsT] at hk
    obtain ⟨hc, hk⟩ := Option.ite_none_right_eq_some.1 hk
    obtain ⟨k, hk1, hk⟩ := Option.bind_eq_some_iff.1 hk
    obtain ⟨ks', hk2, rfl⟩ := Option.map_eq_some_iff.1 hk
    simp only [Bool.and_eq_true, bne_iff_ne, ne_eq, beq_iff_eq] at hc
    obtain ⟨⟨c1, c2⟩, c3⟩ := hc
    cases l with
    | nil => simp [eqL] at e
    | cons x l =>
      cases l' with
      | nil => simp [eqL] at e
      | cons y l' =>
        simp only [eqL, Option.bind_eq_some_iff, Option.map_eq_some_iff] at e
        obtain ⟨p, e1, q, e2, rfl⟩ := e
        have gx : ∃ u, xs[i]? = some u ∧ Cn m n c x u ∧ CnL m n c l (xs.toList.drop (i + 1)) := by
          cases hd : xs.toList.drop i with
          | nil => rw [hd] at hx; simp [CnL] at hx
          | cons u us =>
            rw [hd] at hx
            simp only [CnL] at hx
            refine ⟨u, ?_, hx.1, ?_⟩
            · have := congrArg (·[0]?) hd
              simpa [List.getElem?_drop] using this
            · have : xs.toList.drop (i + 1) = us := by rw [← List.drop_drop, hd]; rfl
              rw [this]; exact hx.2
        have gy : ∃ u, ys[i]? = some u ∧ Cn m n c y u ∧ CnL m n c l' (ys.toList.drop (i + 1)) := by
          cases hd : ys.toList.drop i with
          | nil => rw [hd] at hy; simp [CnL] at hy
          | cons u us =>
            rw [hd] at hy
            simp only [CnL] at hy
            refine ⟨u, ?_, hy.1, ?_⟩
            · have := congrArg (·[0]?) hd
              simpa [List.getElem?_drop] using this
            · have : ys.toList.drop (i + 1) = us := by rw [← List.drop_drop, hd]; rfl
              rw [this]; exact hy.2
        obtain ⟨u, u1, u2, u3⟩ := gx
        obtain ⟨v, v1, v2, v3⟩ := gy
        have hagg : (isAgg f.type).run P w = .ok false w := by
          unfold kindT at hk1
          split at hk1 <;> first | (rename_i hu; simp [isAgg, run_underlying hu]) | cases hk1
        have pa : ∀ {zs : Array Value} {z : Value}, zs[i]? = some z → (part f.type zs f.offset).run P w = .ok z w := fun {zs z} hz => by simp [part, hagg, c2, hz]
        have ih := eqL_run d w hk2 u3 v3 e2
        simp only [Op.eqFields, c1, not_false_eq_true, ne_eq, if_true, Sem.run_bind, pa u1, pa v1, Result.andThen_ok, eqv_run hk1 u2 v2 e1 d w]
        cases p
        · simp
        · simp [ih]
theorem ok_eqa (h : Sat H N w m B a st) {d : Nat} (hd : d < N) {op : BinOp} {t t' : TypeId} {x y : Operand} {r q : Rv} {ks : Bool × List Nat} (ho : o.op = .binOp op t x y t') (hx : opn x = some r) (hy : opn y = some q) (hk : eqT P op t = some ks)
    (hs : step T (.eqa d ks.1 ks.2 r q) st K Kp) : PV m st.n (vw H w B st.ob) P o a d K st := by
  have h1 := get_ok h hx
  have h2 := get_ok h hy
  simp only [step] at hs
  cases e : eqA ks.2 (r.get st) (q.get st) with
  | none => rw [e] at hs; exact hs.elim
  | some b =>
    rw [e] at hs
    simp only [need_some] at hs
    refine PV.pure (v := .bool (cond ks.1 (!b) b)) h hd (Cn_v rfl) hs fun w => ?_
    unfold eqA at e
    split at e
    · rename_i l l' e1 e2
      rw [e1] at h1; rw [e2] at h2
      simp only [Cn] at h1 h2
      obtain ⟨xs, f1, f2, _⟩ := h1
      obtain ⟨ys, g1, g2, _⟩ := h2
      unfold eqT at hk
      split at hk
      · rename_i fs hu
        obtain ⟨hc, hk⟩ := Option.ite_none_right_eq_some.1 hk
        simp only [Bool.and_eq_true, beq_iff_eq] at hc
        have hfs : P.fieldsOf t = fs := by simp [Program.fieldsOf, hu]
        have run : ∀ ks', kindsT P fs.toList 0 = some ks' → ks' = ks.2 → (Op.equalIn 10000 t (.agg xs) (.agg ys)).run P w = .ok b w := fun ks' hks e' => by
          subst e'
          rw [run_equalIn_agg w 9999 t xs ys (by rw [hfs, hu]) hc.1, hfs]
          exact eqL_run 9998 w hks (by simpa using f2) (by simpa using g2) e
        split at hk
        · obtain ⟨ks', k1, k2⟩ := Option.map_eq_some_iff.1 hk
          have := run ks' k1 (by rw [← k2])
          simp only [execOp, ho, f1, g1, Sem.run_bind, run_eqGuard_agg w _ t x y xs ys hc.2, Result.andThen_ok, run_eql_struct, this, ← k2, cond_false, Sem.run_pure]
        · obtain ⟨ks', k1, k2⟩ := Option.map_eq_some_iff.1 hk
          have := run ks' k1 (by rw [← k2])
          simp only [execOp, ho, f1, g1, Sem.run_bind, run_eqGuard_agg w _ t x y xs ys hc.2, Result.andThen_ok, run_neq_struct, this, ← k2, cond_true, Sem.run_pure]
        · cases hk
      · cases hk
    · cases e

theorem rowsF_ok (h : SOk H w m B st.store) {x : SV} {v : Value} (hx : Cn m st.n (vw H w B st.ob) x v) {rows : List (List D)} (e : st.rowsF x = some rows) : Rd (vw H w B st.ob) (.sl rows) v := by
  unfold St.rowsF at e
  split at e
  · rename_i o
    simp only [Cn] at hx
    obtain ⟨ho, rfl, _⟩ := hx
    split at e
    · rename_i rows' hl
      simp only [Option.some.injEq] at e; subst e
      exact h.obs o _ hl
    · cases e
  · simp only [Option.some.injEq] at e; subst e; exact hx
  · simp only [Option.some.injEq] at e; subst e
    simp only [Cn, Rd] at hx
    obtain ⟨rfl, _⟩ := hx
    simp [Rd]
  · cases e
theorem ok_slp (h : Sat H N w m B a st) {d : Nat} (hd : d < N) {t e : TypeId} {sz : Nat} {x : Operand} {lo hi : Option Operand} {r : Rv} {rl rh : Option Rv} (ho : o.op = .slice t x lo hi none) (hx : opn x = some r)
    (hl : lo.bind opn = rl) (hln : lo.isSome = rl.isSome) (hh : hi.bind opn = rh) (hhn : hi.isSome = rh.isSome) (ht : P.underlying t = some (.slice e)) (hz : (P.info? e).map (·.size) = some sz)
    (hs : step T (.slp d sz r rl rh) st K Kp) : PV m st.n (vw H w B st.ob) P o a d K st := by
  have h1 := get_ok h hx
  cases hi' : P.info? e with
  | none => rw [hi'] at hz; cases hz
  | some inf =>
  rw [hi'] at hz
  simp only [Option.map_some, Option.some.injEq] at hz
  have hszr : ∀ w, (sizeOf e).run P w = .ok sz w := fun w => by simp [sizeOf, typeInfo, hi', hz]
  simp only [step] at hs
  cases ef : st.rowsF (r.get st) with
  | none => rw [ef] at hs; exact hs.elim
  | some rows =>
    rw [ef] at hs
    simp only [need_some] at hs
    have g3 := rowsF_ok h.store h1 ef
    cases e2 : optInt st 0 rl with
    | none => rw [e2] at hs; exact hs.elim
    | some l =>
      cases e3 : optInt st rows.length rh with
      | none => rw [e2, e3] at hs; exact hs.elim
      | some u =>
        rw [e2, e3] at hs
        obtain ⟨⟨b0, b1, b2⟩, hr, hs⟩ := hs
        simp only [Rd] at g3
        obtain ⟨A, cap, ev, c1, c2, c3⟩ := g3
        have hb := fun w => run_bounds_ok (P := P) (a := a) w true rows.length cap lo hi l u (optInt_ok h hl hln e2) (optInt_ok h hh hhn e3) b0 b1 b2 c1
        have hlen : ((rows.take u.toNat).drop l.toNat).length = u.toNat - l.toNat := by rw [List.length_drop, List.length_take]; omega
        refine PV.pure (v := .slice (if cap = l.toNat then A else A.map (·.add (l.toNat * sz))) (u.toNat - l.toNat) (cap - l.toNat)) h hd ?_ hs fun w => ?_
        · simp only [Cn, Rd]
          rw [hlen]
          refine ⟨_, _, rfl, by omega, by omega, ?_⟩
          by_cases hc : cap = l.toNat
          · left
            apply List.length_eq_zero_iff.1
            rw [hlen]; omega
          · rcases c3 with rfl | ⟨ad, sz', rfl, csp, c3⟩
            · left; simp
            · cases rows with
              | nil => left; simp
              | cons r0 rs =>
                have hsz' : sz' = sz := by
                  have h8 := (RdRows_get (i := 0) c3 rfl).1
                  have h9 := hr r0 (by simp)
                  omega
                subst hsz'
                right
                refine ⟨ad.add (l.toNat * sz'), sz', by rw [if_neg hc]; rfl, add_spot csp _, ?_⟩
                have := RdRows_drop l.toNat (RdRows_take u.toNat c3)
                rw [Nat.zero_add] at this
                exact RdRows_at (by rw [Nat.add_zero]; exact this)
        · simp [execOp, ho, ev, Instr.sliceAt, Instr.slice, run_underlying ht, hb, hszr]

theorem intsOf_ok (h : Sat H N w m B a st) {k : IntKind} : ∀ {ys : List Operand} {rs : List Rv} {l : List Int}, ys.map opn = rs.map some → intsOf st k rs = some l → ys.map a.eval = l.map (Value.int k)
  | [], [], l, _, e => by simp only [intsOf, Option.some.injEq] at e; subst e; rfl
  | [], _ :: _, _, e, _ => by simp at e
  | _ :: _, [], _, e, _ => by simp at e
  | y :: ys, r :: rs, l, he, e => by
    simp only [List.map_cons, List.cons.injEq] at he
    simp only [intsOf] at e
    split at e
    · rename_i k' i e1
      obtain ⟨rfl, e⟩ := Option.ite_none_right_eq_some.1 e
      obtain ⟨l', e2, rfl⟩ := Option.map_eq_some_iff.1 e
      have h1 := get_ok h he.1
      rw [e1] at h1
      simp only [List.map_cons, intsOf_ok h he.2 e2, of_v h1]
    · cases e
theorem fold_mm (P : Program) (mn : Bool) (k : IntKind) (w : World) : ∀ (l : List Int) (i : Int), ((l.map (Value.int k)).foldlM (cond mn Builtin.min2 Builtin.max2) (Value.int k i) : Sem Value).run P w = .ok (.int k (l.foldl (mmOf mn) i)) w
  | [], i => by simp
  | x :: l, i => by
    have h := fold_mm P mn k w l (mmOf mn i x)
    cases mn <;> (simp only [List.map_cons, List.foldlM_cons, cond_true, cond_false, Builtin.min2, Builtin.max2, mmOf, Sem.run_bind, Sem.run_pure, Result.andThen_ok, List.foldl_cons] at h ⊢; exact h)
theorem ok_mm (h : Sat H N w m B a st) {d : Nat} (hd : d < N) {mn : Bool} {x : Operand} {ys : List Operand} {r : Rv} {rs : List Rv} {args : Array Operand} {ts : Array TypeId} (hargs : args.toList = x :: ys) (ho : o.op = .call { callee := .builtin (cond mn .min .max), args := args, argTypes := ts }) (hx : opn x = some r)
    (hy : ys.map opn = rs.map some) (hs : step T (.mm d mn r rs) st K Kp) : PV m st.n (vw H w B st.ob) P o a d K st := by
  have h1 := get_ok h hx
  simp only [step] at hs
  split at hs
  · rename_i k i e1
    rw [e1] at h1
    cases e2 : intsOf st k rs with
    | none => rw [e2] at hs; exact hs.elim
    | some l =>
      rw [e2] at hs
      refine PV.pure h hd (Cn_v rfl) hs fun w => ?_
      have he := intsOf_ok h hy e2
      have ha : (args.map a.eval).toList = Value.int k i :: l.map (Value.int k) := by simp [hargs, he, of_v h1]
      have hf := fold_mm P mn k w l i
      cases mn
      · simp only [cond_false] at ho hf
        simp only [execOp, ho, resolve, invoke, builtin, Builtin.max_, Sem.run_bind, Sem.run_pure, Result.andThen_ok, ha, hf]
      · simp only [cond_true] at ho hf
        simp only [execOp, ho, resolve, invoke, builtin, Builtin.min_, Sem.run_bind, Sem.run_pure, Result.andThen_ok, ha, hf]
  · exact hs.elim

/-- A text that is gone over. -/
theorem ok_rg (h : Sat H N w m B a st) {d : Nat} (hd : d < N) {t : TypeId} {x : Operand} {r : Rv} (ho : o.op = .range t x) (hx : opn x = some r) (ht : P.underlying t = some .string)
    (hs : step T (.rg d r) st K Kp) : VOk H N XB w m B st.store a d K ((execOp a.eval o).run P w) := by
  have h1 := get_ok h hx
  simp only [step] at hs
  split at hs
  · rename_i s e1
    rw [e1] at h1
    have hadd := SOk.add (w1 := w.alloc (.stringIter s 0)) h.store (.iter s 0) (.pointer (some ⟨w.heap.size, 0, none⟩)) (fun b => b = w.heap.size) rfl rfl rfl (by rw [al_size]; omega) (fun b hb => al_old _ _ _ hb)
      (fun b _ hb => by subst hb; rw [al_size]; omega) (fun c hc => ⟨w.heap.size, by simp, al_new _ _, fun x => Iff.rfl⟩)
    obtain ⟨hS, hO⟩ := hadd
    have hr : (execOp a.eval o).run P w = .ok (.value (.pointer (some ⟨w.heap.size, 0, none⟩))) (w.alloc (.stringIter s 0)) := by
      have := run_range_string (P := P) w t s ht
      simp only [execOp, ho, of_v h1, Sem.run_bind, this, Result.andThen_ok, Sem.run_pure]
      rfl
    refine ⟨_, _, _, _, _, hr, hs, Sat.put ⟨h.size, h.defers, h.slots.since hS, hO⟩ hd ?_, hS, fun b hb _ => al_old _ _ _ hb⟩
    simp only [Cn, St.newO]
    exact ⟨by omega, by simp [St.store], rfl⟩
  · exact hs.elim
theorem ok_nx (h : Sat H N w m B a st) {d : Nat} (hd : d < N) {x : Operand} {r : Rv} (ho : o.op = .next x true) (hx : opn x = some r)
    (hXB : ∀ o', r.get st = .own o' → ∀ y b, lk st.ob o' = some y → y.has = true → B o' b → XB b)
    (hs : step T (.nx d r) st K Kp) : VOk H N XB w m B st.store a d K ((execOp a.eval o).run P w) := by
  have h1 := get_ok h hx
  simp only [step] at hs
  split at hs
  · rename_i o' e1
    rw [e1] at h1
    simp only [Cn] at h1
    obtain ⟨h3, h4, _⟩ := h1
    split at hs
    · rename_i s p hl
      obtain ⟨b, g1, g2, g3⟩ := h.store.obs o' _ hl
      have hlt : b < w.heap.size := (Array.getElem?_eq_some_iff.1 g2).1
      have g2' : w.heap[b] = .stringIter s p := by have := (Array.getElem?_eq_some_iff.1 g2).2; exact this
      rw [g1] at h4
      by_cases hp : p < s.size
      · have hs := hs.1 hp
        have hu := SOk.upd (w1 := { w with heap := w.heap.setIfInBounds b (.stringIter s (p + (Utf8.decode s p).2)) }) h.store o' _ (.iter s (p + (Utf8.decode s p).2)) hl rfl (fun x => x = b) rfl rfl rfl (by simp)
          (fun j _ hj => by
            have hne : b ≠ j := fun e => hj ((g3 j).2 e.symm)
            simp [Array.getElem?_setIfInBounds, hne])
          (fun j _ hj => by subst hj; exact ⟨by simpa using hlt, .inl ((g3 j).2 rfl)⟩) (fun c hc1 _ => ⟨b, g1, by simp [Array.getElem?_setIfInBounds, hlt], fun x => Iff.rfl⟩)
        obtain ⟨hS, hO⟩ := hu
        refine ⟨.tuple #[.bool true, .int .i64 p, .int .i32 (Utf8.decode s p).1], _, m, _, _, ?_, hs, Sat.put ⟨h.size, h.defers, h.slots.since hS, hO⟩ hd ?_, hS, fun j hj hx => ?_⟩
        · simp [execOp, ho, h4, Instr.next, getObj, setObj, Sem.run, hlt, g2', hp, goInt, Result.andThen]
        · simp [Cn, CnL, Rd, Value.oneCell']
        · have hne : b ≠ j := fun e => hx (hXB o' e1 _ j hl rfl ((g3 j).2 e.symm))
          simp [Array.getElem?_setIfInBounds, hne]
      · have hs := hs.2 hp
        refine VOk.pure h hd (v := .tuple #[.bool false]) (by simp [Cn, CnL, Rd, Value.oneCell']) hs ?_
        simp [execOp, ho, h4, Instr.next, getObj, Sem.run, hlt, g2', hp, Result.andThen]
    · exact hs.elim
  · exact hs.elim

theorem bytes_vals {c : Rdr} : ∀ {rows : List (List D)} {l : List UInt8} {xs : List Value}, bytesOf rows = some l → RdL c rows.flatten xs → ∃ ns : List Int, xs = ns.map (Value.int .u8) ∧ l = ns.map fun n => UInt8.ofNat n.toNat
  | [], l, [], e, _ => by simp only [bytesOf, Option.some.injEq] at e; subst e; exact ⟨[], rfl, rfl⟩
  | [], _, _ :: _, _, h => h.elim
  | r :: rs, l, xs, e, h => by
    simp only [bytesOf] at e
    split at e
    · rename_i b bs e1 e2
      simp only [Option.some.injEq] at e; subst e
      unfold byteOf at e1
      split at e1
      · rename_i n
        simp only [Option.some.injEq] at e1; subst e1
        simp only [List.flatten_cons, List.cons_append, List.nil_append] at h
        cases xs with
        | nil => exact h.elim
        | cons x xs =>
          obtain ⟨hx, h⟩ := h
          simp only [Rd] at hx
          obtain ⟨rfl, _⟩ := hx
          obtain ⟨ns, e3, e4⟩ := bytes_vals e2 h
          exact ⟨n :: ns, by simp [e3], by simp [e4]⟩
      · cases e1
    · cases e

theorem ok_b2s (h : Sat H N w m B a st) {d : Nat} (hd : d < N) {s t e : TypeId} {x : Operand} {r : Rv} (ho : o.op = .convert s t x) (hx : opn x = some r) (hs1 : P.underlying s = some (.slice e)) (he : P.underlying e = some (.int .u8)) (ht : P.underlying t = some .string)
    (hs : step T (.b2s d r) st K Kp) : VOk H N XB w m B st.store a d K ((execOp a.eval o).run P w) := by
  have h1 := get_ok h hx
  simp only [step] at hs
  cases er : st.rows (r.get st) with
  | none => rw [er] at hs; exact hs.elim
  | some rows =>
    rw [er] at hs
    simp only [need_some] at hs
    cases eb : bytesOf rows with
    | none => rw [eb] at hs; exact hs.elim
    | some l =>
      rw [eb] at hs
      have hsz : ∀ r ∈ rows, r.length = 1 := by
        intro r hr
        have : ∀ {rows : List (List D)} {l : List UInt8}, bytesOf rows = some l → ∀ r ∈ rows, r.length = 1 := by
          intro rows
          induction rows with
          | nil => intro l _ r hr; cases hr
          | cons r0 rs ih =>
            intro l e r hr
            simp only [bytesOf] at e
            split at e
            · rename_i b bs e1 e2
              rcases List.mem_cons.1 hr with rfl | hr
              · unfold byteOf at e1
                split at e1
                · rfl
                · cases e1
              · exact ih e2 r hr
            · cases e
        exact this eb r hr
      obtain ⟨A, cap, xs, e1, q1, q2, q3⟩ := source_ok h.store h1 er hsz
      obtain ⟨ns, rfl, rfl⟩ := bytes_vals eb q1
      simp only [List.length_map, Nat.mul_one] at q2
      refine VOk.pure h hd (Cn_v rfl) hs ?_
      have hconv : (convert s t (a.eval x)).run P w = .ok (str (ns.map fun n => UInt8.ofNat n.toNat)) w := by
        rw [e1]
        cases A with
        | none =>
          have : ns = [] := by
            cases ns with
            | nil => rfl
            | cons n r => obtain ⟨ad, e, _⟩ := q3 0 _ rfl; cases e
          subst this
          rw [run_convert_bytes_nil w s e hs1 he _ _ t ht]; rfl
        | some ad =>
          have hl := run_loadCells_list (P := P) w ad (ns.map (Value.int .u8)) (fun j v hj => by
            obtain ⟨ad', e, h9⟩ := q3 j v hj
            cases e; exact h9)
          rw [List.length_map, q2] at hl
          rw [run_convert_bytes_string w s t e _ _ cap hs1 he ht, run_bytesToString w ad rows.length cap ns hl, foldl_push_bytes]
          simp [str, ByteArray.empty, ByteArray.emptyWithCapacity]
          rfl
      simp only [execOp, ho, Sem.run_bind, hconv, Result.andThen_ok]
      rfl
end
end Go.Ev
