/- Calls: what a contract says of a callee, and what a caller has of it. -/
import Derived.Test.YtpbkdcfjlbdgfaaDoorEvI
set_option linter.unusedVariables false
set_option linter.unusedSimpArgs false
namespace Go.Ev
open Go

def OutOk (m : Nat → Value) (n : Nat) (c : Rdr) : Out → Ending → Prop
  | .ret x, .returned v => Cn m n c x v
  | .pan x, .panicked ch => ∃ v, ch = [{ v := v, recovered := false }] ∧ Cn m n c x v
  | _, _ => False

/-- A function with a body, entered as any other. -/
def HasBody (P : Program) (f : FuncId) : Prop := ∃ fn : Func, P.funcs[f]? = some fn ∧ fn.body.isNone = false ∧ (fn.name == "runtime.NumGoroutine") = false
/-- Function f does what contract C says. -/
def Sound (G : World → Prop) (P : Program) (f : FuncId) (C : Contract) : Prop :=
  C.lawful ∧ ∀ (H : Hd G) (w : World) (m : Nat → Value) (B : Nat → Nat → Prop) (s : Store) (args : List SV) (vs : List Value) (K : Out → Store → Prop), C.wp args s K → SOk H w m B s → CnL m s.n (vw H w B s.ob) args vs →
    HasBody P f ∧ Calls P f vs.toArray w fun e w' => ∃ m' B' s' out, K out s' ∧ SOk H w' m' B' s' ∧ Since w m B s w' m' B' s' ∧ OutOk m' s'.n (vw H w' B' s'.ob) out e

mutual
theorem Cn_ren {m m' : Nat → Value} {n n' : Nat} {c c' : Rdr} {f : Nat → Option Nat} (hf : ∀ o i, f o = some i → o < n → i < n' ∧ m' i = m o) (hc : ∀ a u, c a u → c' a u) : ∀ (x : SV) (y : Value), Cn m n c x y → Cn m' n' c' (x.ren f) y
  | .any, y, h => by simp [SV.ren, Cn]
  | .d x, y, h => by simp only [SV.ren, Cn] at h ⊢; exact Rd_mono hc _ _ h
  | .cp l, y, h => by
    simp only [SV.ren, Cn] at h ⊢
    obtain ⟨ad, h1, h2⟩ := h
    exact ⟨ad, h1, RdCells_mono hc ad 0 l h2⟩
  | .own o, y, h => by
    simp only [SV.ren]
    simp only [Cn] at h
    cases e : f o with
    | none => simp [Cn]
    | some i =>
      obtain ⟨h1, h2⟩ := hf o i e h.1
      simp only [Cn]
      exact ⟨h1, by rw [h2]; exact h.2.1, h.2.2⟩
  | .ptr o k, y, h => by
    simp only [SV.ren]
    simp only [Cn] at h
    cases e : f o with
    | none => simp [Cn]
    | some i =>
      obtain ⟨h1, h2⟩ := hf o i e h.1
      simp only [Cn]
      exact ⟨h1, by rw [h2]; exact h.2⟩
  | .ep o sz j k, y, h => by
    simp only [SV.ren]
    simp only [Cn] at h
    cases e : f o with
    | none => simp [Cn]
    | some i =>
      obtain ⟨h1, h2⟩ := hf o i e h.1
      simp only [Cn]
      exact ⟨h1, by rw [h2]; exact h.2⟩
  | .opt b x, y, h => by
    cases b with
    | false => simpa [SV.ren, Cn] using h
    | true => simp only [SV.ren, Cn, if_true] at h ⊢; exact Cn_ren hf hc x y h
  | .agg l, y, h => by
    simp only [SV.ren, Cn] at h ⊢
    obtain ⟨a, h1, h2, h3⟩ := h
    exact ⟨a, h1, CnL_ren hf hc l _ h2, h3⟩
  | .tup l, y, h => by
    simp only [SV.ren, Cn] at h ⊢
    obtain ⟨a, h1, h2⟩ := h
    exact ⟨a, h1, CnL_ren hf hc l _ h2⟩
  | .fn g l, y, h => by
    simp only [SV.ren, Cn] at h ⊢
    obtain ⟨a, h1, h2⟩ := h
    exact ⟨a, h1, CnL_ren hf hc l _ h2⟩
theorem CnL_ren {m m' : Nat → Value} {n n' : Nat} {c c' : Rdr} {f : Nat → Option Nat} (hf : ∀ o i, f o = some i → o < n → i < n' ∧ m' i = m o) (hc : ∀ a u, c a u → c' a u) : ∀ (x : List SV) (y : List Value), CnL m n c x y → CnL m' n' c' (x.map fun z => z.ren f) y
  | [], [], h => by simp [CnL]
  | [], _ :: _, h => by simp [CnL] at h
  | _ :: _, [], h => by simp [CnL] at h
  | x :: r, y :: s, h => by
    simp only [CnL, List.map_cons] at h ⊢
    exact ⟨Cn_ren hf hc x y h.1, CnL_ren hf hc r s h.2⟩
end

theorem Ob.has_ren (f : Nat → Option Nat) (x : Ob) : (x.ren f).has = x.has := by cases x <;> rfl

/-- An object, in other numbers. -/
theorem ObS_ren {w : World} {m m' : Nat → Value} {n n' : Nat} {c c' : Rdr} {f : Nat → Option Nat} {o i : Nat} {Bo : Nat → Prop} (hf : ∀ o i, f o = some i → o < n → i < n' ∧ m' i = m o) (hc : ∀ a u, c a u → c' a u) (hm : m' i = m o) :
    ∀ {x : Ob}, ObS w m n c o Bo x → ObS w m' n' c' i Bo (x.ren f)
  | .dead, _ => trivial
  | .cells t l, h => by
    obtain ⟨b, cs, h1, h2, h3, h4, h5⟩ := h
    exact ⟨b, cs, by rw [hm]; exact h1, h2, CnL_ren hf hc _ _ h3, h4, h5⟩
  | .row t sz rows, h => by
    obtain ⟨xs, h1, h2, h3, h4⟩ := h
    exact ⟨xs, by rw [hm]; exact h1, RdL_mono hc _ _ h2, h3, by rw [hm]; exact h4⟩
  | .fro rows, h => by simp only [ObS, Ob.ren] at h ⊢; rw [hm]; exact Rd_mono hc _ _ h
  | .bld t u bs, h => by
    obtain ⟨b, p, v, h1, h2, h3, h4, h5, h6⟩ := h
    exact ⟨b, p, v, by rw [hm]; exact h1, h2, by rw [hm]; exact h3, h4, h5, h6⟩
  | .iter t p, h => by
    obtain ⟨b, h1, h2, h3⟩ := h
    exact ⟨b, by rw [hm]; exact h1, h2, h3⟩

theorem lk_map {β γ : Type} {g : Nat → Nat} {h : β → γ} : ∀ {l : List (Nat × β)} {o : Nat} {y : γ}, lk (l.map fun x => (g x.1, h x.2)) o = some y → ∃ i x, g i = o ∧ lk l i = some x ∧ y = h x
  | [], _, _, e => by simp [lk] at e
  | (i0, x0) :: r, o, y, e => by
    simp only [List.map_cons, lk_cons] at e
    by_cases e1 : g i0 = o
    · simp only [e1, if_true, Option.some.injEq] at e
      exact ⟨i0, x0, e1, by simp [lk_cons], e.symm⟩
    · simp only [e1, if_false] at e
      obtain ⟨i, x, h1, h2, h3⟩ := lk_map e
      refine ⟨i, x, h1, ?_, h3⟩
      rw [lk_cons, if_neg (fun h => e1 (by rw [h]; exact h1))]
      exact h2
theorem lk_append {β : Type} : ∀ {l r : List (Nat × β)} {o : Nat} {y : β}, lk (l ++ r) o = some y → lk l o = some y ∨ (lk l o = none ∧ lk r o = some y)
  | [], _, _, _, e => .inr ⟨rfl, e⟩
  | (i, x) :: l, r, o, y, e => by
    simp only [List.cons_append, lk_cons] at e ⊢
    by_cases e1 : i = o
    · simp only [e1, if_true] at e ⊢; exact .inl e
    · simp only [e1, if_false] at e ⊢; exact lk_append e
theorem lk_dead {os : List Nat} {o : Nat} : ∀ {y : Ob}, lk (os.map fun o => (o, Ob.dead)) o = some y → y = .dead := by
  induction os with
  | nil => intro y h; simp [lk] at h
  | cons i r ih =>
    intro y h
    simp only [List.map_cons, lk_cons] at h
    by_cases e : i = o
    · simp only [e, if_true, Option.some.injEq] at h; exact h.symm
    · simp only [e, if_false] at h; exact ih h
theorem lk_dead_none {os : List Nat} {o : Nat} (h : lk (os.map fun o => (o, Ob.dead)) o = none) : o ∉ os := by
  induction os with
  | nil => simp
  | cons i r ih =>
    simp only [List.map_cons, lk_cons] at h
    by_cases e : i = o
    · simp [e] at h
    · simp only [e, if_false] at h
      simp only [List.mem_cons, not_or]
      exact ⟨fun h => e h.symm, ih h⟩
theorem lk_dead_notin {os : List Nat} {o : Nat} (h9 : o ∉ os) : lk (os.map fun o => (o, Ob.dead)) o = none := by
  induction os with
  | nil => rfl
  | cons i r ih =>
    simp only [List.mem_cons, not_or] at h9
    simp only [List.map_cons, lk_cons]
    rw [if_neg (fun e => h9.1 e.symm)]
    exact ih h9.2
theorem lk_subO {ob : List (Nat × Ob)} {f : Nat → Option Nat} : ∀ {os : List Nat} {i j : Nat} {y : Ob}, lk (subO ob f os i) j = some y → ∃ k o x, j = i + k ∧ os[k]? = some o ∧ lk ob o = some x ∧ y = x.ren f
  | [], _, _, _, e => by simp [subO, lk] at e
  | o :: r, i, j, y, e => by
    simp only [subO] at e
    cases ho : lk ob o with
    | none =>
      rw [ho] at e
      obtain ⟨k, o', x, h1, h2, h3, h4⟩ := lk_subO e
      exact ⟨k + 1, o', x, by omega, by simpa using h2, h3, h4⟩
    | some x =>
      rw [ho] at e
      simp only [lk_cons] at e
      by_cases e1 : i = j
      · simp only [e1, if_true, Option.some.injEq] at e
        exact ⟨0, o, x, by omega, rfl, ho, e.symm⟩
      · simp only [e1, if_false] at e
        obtain ⟨k, o', x, h1, h2, h3, h4⟩ := lk_subO e
        exact ⟨k + 1, o', x, by omega, by simpa using h2, h3, h4⟩

theorem idxOf_get {os : List Nat} {o i : Nat} (h : os.idxOf? o = some i) : os[i]? = some o := by
  induction os generalizing i with
  | nil => simp at h
  | cons x r ih =>
    simp only [List.idxOf?_cons] at h
    split at h
    · rename_i e
      simp only [Option.some.injEq] at h; subst h
      simpa using e
    · simp only [Option.map_eq_some_iff] at h
      obtain ⟨j, h1, rfl⟩ := h
      simpa using ih h1
theorem nodup_get {os : List Nat} (hn : os.Nodup) {i j o : Nat} (hi : os[i]? = some o) (hj : os[j]? = some o) : i = j := by
  induction os generalizing i j with
  | nil => simp at hi
  | cons x r ih =>
    simp only [List.nodup_cons] at hn
    cases i with
    | zero =>
      cases j with
      | zero => rfl
      | succ j => simp at hi hj; subst hi; exact absurd (List.mem_of_getElem? hj) hn.1
    | succ i =>
      cases j with
      | zero => simp at hi hj; subst hj; exact absurd (List.mem_of_getElem? hi) hn.1
      | succ j => simp at hi hj; rw [ih hn.2 hi hj]
theorem idxOf_of {os : List Nat} (hn : os.Nodup) {i o : Nat} (h : os[i]? = some o) : os.idxOf? o = some i := by
  cases e : os.idxOf? o with
  | none => exact absurd (List.mem_of_getElem? h) (by simpa using e)
  | some j => rw [nodup_get hn (idxOf_get e) h]

section
variable {G : World → Prop} {H : Hd G} {XB : Nat → Prop} {N : Nat} {w : World} {m : Nat → Value} {B : Nat → Nat → Prop} {a : Act} {st : St}
variable {P : Program} {K : St → Prop} {Kp : SV → Store → Prop}

theorem give1_ok (h : Sat H N w m B a st) (os : List Nat) {x : SV} {v : Value} (hx : Cn m st.n (vw H w B st.ob) x v) :
    ∃ B1, Sat H N w m B1 a (st.give1 os x).2 ∧ Since w m B st.store w m B1 (st.give1 os x).2.store ∧ Cn m (st.give1 os x).2.n (vw H w B1 (st.give1 os x).2.ob) (st.give1 os x).1 v ∧ (st.give1 os x).2.n = st.n := by
  unfold St.give1
  split
  · rename_i o
    split
    · exact ⟨B, h, Since.refl _ _ _ _, hx, rfl⟩
    · cases e : st.frz (.own o) with
      | none => exact ⟨B, h, Since.refl _ _ _ _, by simp [Cn], rfl⟩
      | some y =>
        obtain ⟨y, st1⟩ := y
        obtain ⟨B1, g1, g2, g3, g4, _⟩ := frz_ok h hx e
        exact ⟨B1, g1, g2, g3, g4⟩
  · refine ⟨B, h, Since.refl _ _ _ _, ?_, rfl⟩
    rw [of_v hx]
    simp only [Cn, Rd]
    exact ⟨none, 0, rfl, by simp, by simp, .inl trivial⟩
  · exact ⟨B, h, Since.refl _ _ _ _, hx, rfl⟩

theorem giveC_ok (os : List Nat) : ∀ {l : List SV} {vs : List Value} {st : St} {B : Nat → Nat → Prop}, Sat H N w m B a st → CnL m st.n (vw H w B st.ob) l vs →
    ∃ B1, Sat H N w m B1 a (st.giveC os l).2 ∧ Since w m B st.store w m B1 (st.giveC os l).2.store ∧ CnL m (st.giveC os l).2.n (vw H w B1 (st.giveC os l).2.ob) (st.giveC os l).1 vs ∧ (st.giveC os l).2.n = st.n
  | [], [], st, B, h, hl => ⟨B, h, Since.refl _ _ _ _, by simp [St.giveC, CnL], rfl⟩
  | [], _ :: _, _, _, _, h => by simp [CnL] at h
  | _ :: _, [], _, _, _, h => by simp [CnL] at h
  | x :: r, v :: vs, st, B, h, hl => by
    simp only [CnL] at hl
    obtain ⟨B1, g1, g2, g3, g4⟩ := give1_ok h os hl.1
    obtain ⟨B2, k1, k2, k3, k4⟩ := giveC_ok os g1 (g2.cnL _ _ hl.2)
    refine ⟨B2, k1, g2.trans k2, ?_, k4.trans g4⟩
    simp only [St.giveC, CnL]
    exact ⟨k2.cn _ _ g3, k3⟩

theorem give_ok (h : Sat H N w m B a st) (os : List Nat) {x : SV} {v : Value} (hx : Cn m st.n (vw H w B st.ob) x v) :
    ∃ B1, Sat H N w m B1 a (st.give os x).2 ∧ Since w m B st.store w m B1 (st.give os x).2.store ∧ Cn m (st.give os x).2.n (vw H w B1 (st.give os x).2.ob) (st.give os x).1 v ∧ (st.give os x).2.n = st.n := by
  unfold St.give
  split
  · rename_i l
    simp only [Cn] at hx
    obtain ⟨cs, e, h1, h2⟩ := hx
    obtain ⟨B1, g1, g2, g3, g4⟩ := giveC_ok os h h1
    exact ⟨B1, g1, g2, by simp only [Cn]; exact ⟨cs, e, g3, h2⟩, g4⟩
  · exact give1_ok h os hx

theorem giveL_ok (os : List Nat) : ∀ {l : List SV} {vs : List Value} {st : St} {B : Nat → Nat → Prop}, Sat H N w m B a st → CnL m st.n (vw H w B st.ob) l vs →
    ∃ B1, Sat H N w m B1 a (st.giveL os l).2 ∧ Since w m B st.store w m B1 (st.giveL os l).2.store ∧ CnL m (st.giveL os l).2.n (vw H w B1 (st.giveL os l).2.ob) (st.giveL os l).1 vs ∧ (st.giveL os l).2.n = st.n
  | [], [], st, B, h, hl => ⟨B, h, Since.refl _ _ _ _, by simp [St.giveL, CnL], rfl⟩
  | [], _ :: _, _, _, _, h => by simp [CnL] at h
  | _ :: _, [], _, _, _, h => by simp [CnL] at h
  | x :: r, v :: vs, st, B, h, hl => by
    simp only [CnL] at hl
    obtain ⟨B1, g1, g2, g3, g4⟩ := give_ok h os hl.1
    obtain ⟨B2, k1, k2, k3, k4⟩ := giveL_ok os g1 (g2.cnL _ _ hl.2)
    refine ⟨B2, k1, g2.trans k2, ?_, k4.trans g4⟩
    simp only [St.giveL, CnL]
    exact ⟨k2.cn _ _ g3, k3⟩

/-- What a caller has behind a call. -/
def CallOk {G : World → Prop} (H : Hd G) (XB : Nat → Prop) (N : Nat) (w : World) (m : Nat → Value) (B : Nat → Nat → Prop) (s0 : Store) (a : Act) (d : Option Nat) (K : St → Prop) (Kp : SV → Store → Prop) (e : Ending) (w' : World) : Prop :=
  (∃ v m' B' st', e = .returned v ∧ K st' ∧ Sat H N w' m' B' (a.put d v) st' ∧ Since w m B s0 w' m' B' st'.store ∧ ∀ b, b < w.heap.size → ¬ XB b → w'.heap[b]? = w.heap[b]?) ∨
  (∃ v x m' B' s', e = .panicked [{ v := v, recovered := false }] ∧ Kp x s' ∧ SOk H w' m' B' s' ∧ Since w m B s0 w' m' B' s' ∧ Cn m' s'.n (vw H w' B' s'.ob) x v)

theorem Sat.putO (h : Sat H N w m B a st) {d : Option Nat} (hd : ∀ k, d = some k → k < N) {x : SV} {v : Value} (hx : Cn m st.n (vw H w B st.ob) x v) : Sat H N w m B (a.put d v) (st.putO d x) := by
  cases d with
  | none => exact h
  | some k => exact h.put (hd k rfl) hx

theorem scal1_ok {m' : Nat → Value} {n n' : Nat} {c c' : Rdr} {x : SV} {v : Value} (hs : scal1 x = true) (h : Cn m n c x v) : Cn m' n' c' x v := by
  unfold scal1 at hs
  split at hs
  · exact h
  · cases hs
theorem scal_ok {m' : Nat → Value} {n n' : Nat} {c c' : Rdr} {x : SV} {v : Value} (hs : scal x = true) (h : Cn m n c x v) : Cn m' n' c' x v := by
  unfold scal at hs
  split at hs
  · rename_i l
    simp only [Cn] at h ⊢
    obtain ⟨cs, e, h1⟩ := h
    refine ⟨cs, e, ?_⟩
    have key : ∀ (l : List SV) (vs : List Value), l.all scal1 = true → CnL m n c l vs → CnL m' n' c' l vs := by
      intro l
      induction l with
      | nil => intro vs _ h; cases vs <;> simp_all [CnL]
      | cons x r ih =>
        intro vs hl h
        cases vs with
        | nil => simp [CnL] at h
        | cons v vs =>
          simp only [List.all_cons, Bool.and_eq_true] at hl
          simp only [CnL] at h ⊢
          exact ⟨scal1_ok hl.1 h.1, ih vs hl.2 h.2⟩
    exact key l _ hs h1
  · exact scal1_ok hs h

theorem lend1_ok (h : SOk H w m B st.store) {B0 : Nat → Nat → Prop} {x : SV} {v : Value} (hx : Cn m st.n (vw H w B st.ob) x v) (m0 : Nat → Value) : Cn m0 0 (vw H w B0 []) (st.lend1 x) v := by
  have hc : ∀ a u, vw H w B st.ob a u → vw H w B0 [] a u := fun a u hh => ⟨hh.1, by rintro ⟨o, x, h1, _⟩; simp [lk] at h1, hh.2.2⟩
  unfold St.lend1
  split
  · rename_i o
    simp only [Cn] at hx
    obtain ⟨_, rfl, _⟩ := hx
    split
    · rename_i t sz rows hl
      obtain ⟨xs, q1, q2, q3, q4⟩ := h.obs o _ hl
      simp only [Cn]
      exact row_data q1 (RdL_mono hc _ _ q2) q3 fun a u ha hb => ⟨ha, by rintro ⟨o, x, h1, _⟩; simp [lk] at h1, h.seph o _ _ hl rfl ((q4 _).2 hb)⟩
    · rename_i rows hl
      have := h.obs o _ hl
      simp only [Cn]
      exact Rd_mono hc _ _ this
    · simp [Cn]
  · rw [of_v hx]
    simp only [Cn, Rd]
    exact ⟨none, 0, rfl, by simp, by simp, .inl trivial⟩
  · simp only [Cn] at hx ⊢; exact Rd_mono hc _ _ hx
  · simp only [Cn] at hx ⊢
    obtain ⟨ad, e, h1⟩ := hx
    exact ⟨ad, e, RdCells_mono hc ad 0 _ h1⟩
  · simp [Cn]

theorem lendL1_ok (h : SOk H w m B st.store) {B0 : Nat → Nat → Prop} (m0 : Nat → Value) : ∀ {l : List SV} {vs : List Value}, CnL m st.n (vw H w B st.ob) l vs → CnL m0 0 (vw H w B0 []) (l.map st.lend1) vs
  | [], [], _ => by simp [CnL]
  | [], _ :: _, h => by simp [CnL] at h
  | _ :: _, [], h => by simp [CnL] at h
  | x :: r, v :: vs, hl => by
    simp only [CnL, List.map_cons] at hl ⊢
    exact ⟨lend1_ok h hl.1 m0, lendL1_ok h m0 hl.2⟩
theorem lend_ok (h : SOk H w m B st.store) {B0 : Nat → Nat → Prop} {x : SV} {v : Value} (hx : Cn m st.n (vw H w B st.ob) x v) (m0 : Nat → Value) : Cn m0 0 (vw H w B0 []) (st.lend x) v := by
  unfold St.lend
  split
  · rename_i l
    simp only [Cn] at hx ⊢
    obtain ⟨cs, e, h1, h2⟩ := hx
    exact ⟨cs, e, lendL1_ok h m0 h1, h2⟩
  · exact lend1_ok h hx m0
theorem lendL_ok (h : SOk H w m B st.store) {B0 : Nat → Nat → Prop} (m0 : Nat → Value) : ∀ {l : List SV} {vs : List Value}, CnL m st.n (vw H w B st.ob) l vs → CnL m0 0 (vw H w B0 []) (l.map st.lend) vs
  | [], [], _ => by simp [CnL]
  | [], _ :: _, h => by simp [CnL] at h
  | _ :: _, [], h => by simp [CnL] at h
  | x :: r, v :: vs, hl => by
    simp only [CnL, List.map_cons] at hl ⊢
    exact ⟨lend_ok h hl.1 m0, lendL_ok h m0 hl.2⟩

theorem SOk.empty {G : World → Prop} {H : Hd G} {w : World} (hh : ∀ b, H b → b < w.heap.size) (hg : G w) (m : Nat → Value) (B : Nat → Nat → Prop) : SOk H w m B ⟨0, []⟩ :=
  ⟨fun o x h => by simp [lk] at h, fun o x h => by simp [lk] at h, fun o o' x x' h => by simp [lk] at h, fun o x b h => by simp [lk] at h, hh, hg, fun o x b h => by simp [lk] at h⟩

theorem callS_lend {f : FuncId} {C : Contract} (hC : Sound G P f C) (h : Sat H N w m B a st) {d : Option Nat} (hd : ∀ k, d = some k → k < N) {os : List Nat} {args : List SV} {vs : List Value} (ha : CnL m st.n (vw H w B st.ob) args vs)
    (hs : callS C d os true args st K Kp) : HasBody P f ∧ Calls P f vs.toArray w (CallOk H XB N w m B st.store a d K Kp) := by
  simp only [callS, if_true] at hs
  refine (hC.2 H w (fun _ => .nilFunc) (fun _ _ => False) ⟨0, []⟩ _ vs _ hs (SOk.empty h.store.hid h.store.gw _ _) (lendL_ok h.store _ ha)).imp id fun hcc => hcc.mono ?_
  rintro e w' ⟨m', B', s', out, hK, hO, hS, hR⟩
  cases out with
  | pan x => exact hK.elim
  | ret x =>
    obtain ⟨k1, k2, k3⟩ := hK
    cases e with
    | panicked ch => exact hR.elim
    | outgrown => exact hR.elim
    | returned v =>
      have hno : ∀ b, ¬ owns (fun _ _ => False) ([] : List (Nat × Ob)) b := by rintro b ⟨o, x, h1, _⟩; simp [lk] at h1
      have hS2 : Since w m B st.store w' m B st.store := ⟨hS.os, hS.tape, hS.output, hS.size, fun b hb _ => hS.block b hb (hno b), fun b hb => .inl hb, Nat.le_refl _, fun _ _ => rfl, fun o x b _ h1 h2 h3 => .inl ⟨x, h1, h2, h3⟩⟩
      refine .inl ⟨v, m, B, _, rfl, k3, Sat.putO ⟨h.size, h.defers, h.slots.since hS2, ?_⟩ hd (scal_ok k1 hR), by rw [St.store_putO]; exact hS2, fun b hb _ => hS.block b hb (hno b)⟩
      refine ⟨fun o x ho => (h.store.obs o x ho).keep (Nat.le_refl _) (h.store.lt o x ho) (fun _ _ => rfl) hS2.vw (fun b hx hb => hS.block b (h.store.blk o x b ho hx hb) (hno b)), h.store.lt, h.store.sep, fun o x b ho hx hb => Nat.lt_of_lt_of_le (h.store.blk o x b ho hx hb) hS.size, fun b hb => Nat.lt_of_lt_of_le (h.store.hid b hb) hS.size, h.store.gs hS2, h.store.seph⟩


theorem callS_give {f : FuncId} {C : Contract} (hC : Sound G P f C) (h0 : Sat H N w m B a st) {d : Option Nat} (hd : ∀ k, d = some k → k < N) {os : List Nat} {args : List SV} {vs : List Value} (ha0 : CnL m st.n (vw H w B st.ob) args vs) (hXB : ∀ o, o ∈ os → ∀ y b, lk st.ob o = some y → y.has = true → B o b → XB b)
    (hs : callS C d os false args st K Kp) : HasBody P f ∧ Calls P f vs.toArray w (CallOk H XB N w m B st.store a d K Kp) := by
  simp only [callS, Bool.false_eq_true, if_false] at hs
  obtain ⟨hnd, hex, hs⟩ := hs
  obtain ⟨B1, h, s1, ha, hn1⟩ := giveL_ok os h0 ha0
  generalize (st.giveL os args).2 = st1 at *
  generalize (st.giveL os args).1 = args1 at *
  -- the callee's view
  have hlt : ∀ (i o : Nat), os[i]? = some o → i < os.length ∧ o < st1.n := by
    intro i o hi
    refine ⟨(List.getElem?_eq_some_iff.1 hi).1, ?_⟩
    obtain ⟨x, hx⟩ := Option.isSome_iff_exists.1 (hex o (List.mem_of_getElem? hi))
    exact h.store.lt o x hx
  have hgetD : ∀ (i o : Nat), os[i]? = some o → os.getD i 0 = o := fun i o hi => by simp [List.getD, hi]
  let mL : Nat → Value := fun i => m (os.getD i 0)
  let BL : Nat → Nat → Prop := fun i => B1 (os.getD i 0)
  let HL : Hd G := ⟨fun b => H b ∨ ∃ o x, lk st1.ob o = some x ∧ x.has = true ∧ B1 o b ∧ o ∉ os, H.gb, fun b hb => .inl (H.sub b hb), H.st⟩
  let sL : Store := st1.sub os
  have hsub : ∀ (i : Nat) (y : Ob), lk sL.ob i = some y → ∃ (o : Nat) (x : Ob), os[i]? = some o ∧ lk st1.ob o = some x ∧ y = x.ren (fun o => os.idxOf? o) := by
    intro i y hy
    obtain ⟨k, o, x, e1, e2, e3, e4⟩ := lk_subO hy
    rw [Nat.zero_add] at e1
    subst e1
    exact ⟨o, x, e2, e3, e4⟩
  have hownL : ∀ b, owns BL sL.ob b → ∃ (i o : Nat) (x : Ob), os[i]? = some o ∧ lk st1.ob o = some x ∧ x.has = true ∧ B1 o b := by
    rintro b ⟨i, y, h1, h2, h3⟩
    obtain ⟨o, x, e1, e2, rfl⟩ := hsub i y h1
    refine ⟨i, o, x, e1, e2, by rw [Ob.has_ren] at h2; exact h2, ?_⟩
    simp only [BL, hgetD i o e1] at h3
    exact h3
  have hvL : ∀ a u, vw H w B1 st1.ob a u → vw HL w BL sL.ob a u := by
    rintro a u ⟨v1, v2, v3⟩
    refine ⟨v1, fun h9 => ?_, ?_⟩
    · obtain ⟨i, o, x, e1, e2, e3, e4⟩ := hownL _ h9
      exact v2 ⟨o, x, e2, e3, e4⟩
    · rintro (h9 | ⟨o, x, e1, e2, e3, _⟩)
      · exact v3 h9
      · exact v2 ⟨o, x, e1, e2, e3⟩
  have hfL : ∀ o i, os.idxOf? o = some i → o < st1.n → i < os.length ∧ mL i = m o := by
    intro o i hi _
    have := idxOf_get hi
    exact ⟨(hlt i o this).1, by simp only [mL, hgetD i o this]⟩
  have hOL : SOk HL w mL BL sL := by
    refine ⟨?_, ?_, ?_, ?_, ?_, h.store.gw, ?_⟩
    · intro i y hy
      obtain ⟨o, x, e1, e2, rfl⟩ := hsub i y hy
      have := ObS_ren (n' := sL.n) (m' := mL) (i := i) hfL hvL (by simp only [mL, hgetD i o e1]) (h.store.obs o x e2)
      simp only [BL, hgetD i o e1]
      exact this
    · intro i y hy
      obtain ⟨o, x, e1, e2, rfl⟩ := hsub i y hy
      exact (hlt i o e1).1
    · intro i j y z hy hz hy' hz' hij b hb hb'
      obtain ⟨o, x, e1, e2, rfl⟩ := hsub i y hy
      obtain ⟨o', x', f1, f2, rfl⟩ := hsub j z hz
      rw [Ob.has_ren] at hy' hz'
      simp only [BL, hgetD i o e1] at hb
      simp only [BL, hgetD j o' f1] at hb'
      refine h.store.sep o o' x x' e2 f2 hy' hz' (fun e => ?_) b hb hb'
      subst e
      exact hij (nodup_get hnd e1 f1)
    · intro i y b hy hy' hb
      obtain ⟨o, x, e1, e2, rfl⟩ := hsub i y hy
      rw [Ob.has_ren] at hy'
      simp only [BL, hgetD i o e1] at hb
      exact h.store.blk o x b e2 hy' hb
    · rintro b (hb | ⟨o, x, e1, e2, e3, _⟩)
      · exact h.store.hid b hb
      · exact h.store.blk o x b e1 e2 e3
    · intro i y b hy hy' hb
      obtain ⟨o, x, e1, e2, rfl⟩ := hsub i y hy
      rw [Ob.has_ren] at hy'
      simp only [BL, hgetD i o e1] at hb
      rintro (h9 | ⟨o', x', f1, f2, f3, f4⟩)
      · exact h.store.seph o x b e2 hy' hb h9
      · exact h.store.sep o o' x x' e2 f1 hy' f2 (fun e => f4 (e ▸ List.mem_of_getElem? e1)) b hb f3
  have haL : CnL mL sL.n (vw HL w BL sL.ob) (args1.map (SV.ren fun o => os.idxOf? o)) vs := CnL_ren hfL hvL _ _ ha
  refine (hC.2 HL w mL BL sL _ vs _ hs hOL haL).imp id fun hcc => hcc.mono ?_
  rintro e w' ⟨m', B', s', out, hK, hO, hS, hR⟩
  -- back in the caller
  let L := os.length
  let g : Nat → Nat := back st1.n os
  let m2 : Nat → Value := fun o => if o < st1.n then m o else m' (L + (o - st1.n))
  let B2 : Nat → Nat → Prop := fun o => match os.idxOf? o with
    | some i => B' i
    | none => if o < st1.n then B1 o else B' (L + (o - st1.n))
  have hLn : L ≤ s'.n := hS.n
  have hgs : ∀ (i o : Nat), os[i]? = some o → g i = o := by
    intro i o hi
    simp only [g, back, (hlt i o hi).1, if_true]
    exact hgetD i o hi
  have hgn : ∀ i, ¬ i < L → g i = st1.n + (i - L) := by
    intro i hi
    simp only [g, back]
    rw [if_neg hi]
  have hmg : ∀ i, i < s'.n → g i < st1.n + (s'.n - L) ∧ m2 (g i) = m' i := by
    intro i hi
    by_cases hiL : i < L
    · have ho : os[i]? = some os[i] := List.getElem?_eq_getElem hiL
      rw [hgs i _ ho]
      have := (hlt i _ ho).2
      refine ⟨by omega, ?_⟩
      simp only [m2, this, if_true]
      have h9 := hS.m i hiL
      simp only [mL, hgetD i _ ho] at h9
      exact h9.symm
    · rw [hgn i hiL]
      refine ⟨by omega, ?_⟩
      have : ¬ (st1.n + (i - L) < st1.n) := by omega
      simp only [m2, this, if_false]
      congr 1; omega
  have hBg : ∀ i, B2 (g i) = B' i := by
    intro i
    by_cases hiL : i < L
    · have ho : os[i]? = some os[i] := List.getElem?_eq_getElem hiL
      rw [hgs i _ ho]
      simp only [B2, idxOf_of hnd ho]
    · rw [hgn i hiL]
      have : os.idxOf? (st1.n + (i - L)) = none := by
        cases e : os.idxOf? (st1.n + (i - L)) with
        | none => rfl
        | some j => have := (hlt j _ (idxOf_get e)).2; omega
      have h2 : ¬ (st1.n + (i - L) < st1.n) := by omega
      simp only [B2, this, h2, if_false]
      congr 1; omega
  have hginj : ∀ i j, i < s'.n → j < s'.n → g i = g j → i = j := by
    intro i j hi hj e
    by_cases hiL : i < L
    · have ho : os[i]? = some os[i] := List.getElem?_eq_getElem hiL
      have h1 := (hlt i _ ho).2
      by_cases hjL : j < L
      · have ho' : os[j]? = some os[j] := List.getElem?_eq_getElem hjL
        rw [hgs i _ ho, hgs j _ ho'] at e
        exact nodup_get hnd ho (by rw [e]; exact ho')
      · rw [hgs i _ ho, hgn j hjL] at e; omega
    · by_cases hjL : j < L
      · have ho' : os[j]? = some os[j] := List.getElem?_eq_getElem hjL
        have h1 := (hlt j _ ho').2
        rw [hgn i hiL, hgs j _ ho'] at e; omega
      · rw [hgn i hiL, hgn j hjL] at e; omega
  let st2 : St := st1.merge os s'
  -- an entry of the store behind the call
  have hent : ∀ o y, lk st2.ob o = some y → (∃ i x, g i = o ∧ lk s'.ob i = some x ∧ y = x.ren fun j => some (g j)) ∨ y = .dead ∧ o ∈ os ∨ (o ∉ os ∧ lk st1.ob o = some y) := by
    intro o y hy
    simp only [st2, St.merge] at hy
    rcases lk_append hy with h1 | ⟨_, h1⟩
    · obtain ⟨i, x, e1, e2, e3⟩ := lk_map h1
      exact .inl ⟨i, x, e1, e2, e3⟩
    · rcases lk_append h1 with h2 | ⟨h2, h3⟩
      · have : o ∈ os := by
          rcases Classical.em (o ∈ os) with h9 | h9
          · exact h9
          · have : lk (os.map fun o => (o, Ob.dead)) o = none := lk_dead_notin h9
            rw [this] at h2; cases h2
        exact .inr (.inl ⟨lk_dead h2, this⟩)
      · exact .inr (.inr ⟨lk_dead_none h2, h3⟩)
  have hBo : ∀ o, o ∉ os → o < st1.n → B2 o = B1 o := by
    intro o ho hl
    have : os.idxOf? o = none := by simpa using ho
    simp only [B2, this, hl, if_true]
  have hown2 : ∀ b, owns B2 st2.ob b → owns B' s'.ob b ∨ ∃ o x, o ∉ os ∧ lk st1.ob o = some x ∧ x.has = true ∧ B1 o b := by
    rintro b ⟨o, y, h1, h2, h3⟩
    rcases hent o y h1 with ⟨i, x, rfl, e2, rfl⟩ | ⟨rfl, _⟩ | ⟨e1, e2⟩
    · rw [hBg] at h3
      rw [Ob.has_ren] at h2
      exact .inl ⟨i, x, e2, h2, h3⟩
    · cases h2
    · rw [hBo o e1 (h.store.lt o y e2)] at h3
      exact .inr ⟨o, y, e1, e2, h2, h3⟩
  have hS2 : Since w m B1 st1.store w' m2 B2 st2.store := by
    refine ⟨hS.os, hS.tape, hS.output, hS.size, fun b hb hn => hS.block b hb (fun h9 => ?_), fun b hb => ?_, ?_, fun o ho => ?_, ?_⟩
    · obtain ⟨i, o, x, e1, e2, e3, e4⟩ := hownL b h9
      exact hn ⟨o, x, e2, e3, e4⟩
    · rcases hown2 b hb with h9 | ⟨o, x, e1, e2, e3, e4⟩
      · rcases hS.own b h9 with h8 | h8
        · obtain ⟨i, o, x, e1, e2, e3, e4⟩ := hownL b h8
          exact .inl ⟨o, x, e2, e3, e4⟩
        · exact .inr h8
      · exact .inl ⟨o, x, e2, e3, e4⟩
    · simp only [st2, St.merge, St.store]; omega
    · exact if_pos ho
    · intro o y b ho h1 h2 h3
      rcases hent o y h1 with ⟨i, x, rfl, e2, rfl⟩ | ⟨rfl, _⟩ | ⟨e1, e2⟩
      · rw [hBg] at h3
        rw [Ob.has_ren] at h2
        have hiL : i < os.length := by
          rcases Nat.lt_or_ge i os.length with h | h
          · exact h
          · rw [hgn i (by omega)] at ho
            have : st1.store.n = st1.n := rfl
            omega
        rcases hS.keep i x b hiL e2 h2 h3 with ⟨y, k1, k2, k3⟩ | k1
        · obtain ⟨o', x', f1, f2, rfl⟩ := hsub i y k1
          rw [Ob.has_ren] at k2
          rw [hgs i o' f1]
          refine .inl ⟨x', f2, k2, ?_⟩
          have : BL i b := k3
          simp only [BL, hgetD i o' f1] at this
          exact this
        · exact .inr k1
      · cases h2
      · rw [hBo o e1 (h.store.lt o y e2)] at h3
        exact .inl ⟨y, e2, h2, h3⟩
  -- blocks of objects that were not handed over
  have hfar : ∀ o x b, o ∉ os → lk st1.ob o = some x → x.has = true → B1 o b → ¬ owns BL sL.ob b := by
    intro o x b ho hx hh hb h9
    obtain ⟨i, o', x', e1, e2, e3, e4⟩ := hownL b h9
    exact h.store.sep o o' x x' hx e2 hh e3 (fun e => ho (e ▸ List.mem_of_getElem? e1)) b hb e4
  have hv2 : ∀ a u, vw HL w' B' s'.ob a u → vw H w' B2 st2.ob a u := by
    rintro a u ⟨v1, v2, v3⟩
    refine ⟨v1, fun h9 => ?_, fun h9 => v3 (.inl h9)⟩
    rcases hown2 _ h9 with h8 | ⟨o, x, e1, e2, e3, e4⟩
    · exact v2 h8
    · exact v3 (.inr ⟨o, x, e2, e3, e4, e1⟩)
  have hfg : ∀ i j, (fun j => some (g j)) i = some j → i < s'.n → j < st2.n ∧ m2 j = m' i := by
    intro i j e hi
    simp only [Option.some.injEq] at e; subst e
    exact hmg i hi
  have hO2 : SOk H w' m2 B2 st2.store := by
    refine ⟨?_, ?_, ?_, ?_, fun b hb => Nat.lt_of_lt_of_le (h.store.hid b hb) hS.size, h.store.gs hS2, ?_⟩
    · intro o y hy
      rcases hent o y hy with ⟨i, x, rfl, e2, rfl⟩ | ⟨rfl, _⟩ | ⟨e1, e2⟩
      · have hi := hO.lt i x e2
        have := ObS_ren (n' := st2.n) (m' := m2) (i := g i) hfg hv2 (hmg i hi).2 (hO.obs i x e2)
        rw [hBg]; exact this
      · trivial
      · rw [hBo o e1 (h.store.lt o y e2)]
        exact (h.store.obs o y e2).keep hS2.n (h.store.lt o y e2) hS2.m hS2.vw (fun b hy' hb => hS.block b (h.store.blk o y b e2 hy' hb) (hfar o y b e1 e2 hy' hb))
    · intro o y hy
      rcases hent o y hy with ⟨i, x, rfl, e2, rfl⟩ | ⟨rfl, e1⟩ | ⟨e1, e2⟩
      · exact (hmg i (hO.lt i x e2)).1
      · obtain ⟨i, hi⟩ := List.mem_iff_getElem?.1 e1
        have := (hlt i o hi).2
        simp only [st2, St.merge, St.store]; omega
      · have := h.store.lt o y e2
        simp only [st2, St.merge, St.store] at this ⊢; omega
    · intro o o' y y' hy hy' hh hh' hoo b hb hb'
      rcases hent o y hy with ⟨i, x, rfl, e2, rfl⟩ | ⟨rfl, _⟩ | ⟨e1, e2⟩
      · rw [hBg] at hb
        rw [Ob.has_ren] at hh
        rcases hent o' y' hy' with ⟨j, z, rfl, f2, rfl⟩ | ⟨rfl, _⟩ | ⟨f1, f2⟩
        · rw [hBg] at hb'
          rw [Ob.has_ren] at hh'
          exact hO.sep i j x z e2 f2 hh hh' (fun e => hoo (by rw [e])) b hb hb'
        · cases hh'
        · rw [hBo o' f1 (h.store.lt o' y' f2)] at hb'
          exact hO.seph i x b e2 hh hb (.inr ⟨o', y', f2, hh', hb', f1⟩)
      · cases hh
      · rw [hBo o e1 (h.store.lt o y e2)] at hb
        rcases hent o' y' hy' with ⟨j, z, rfl, f2, rfl⟩ | ⟨rfl, _⟩ | ⟨f1, f2⟩
        · rw [hBg] at hb'
          rw [Ob.has_ren] at hh'
          exact hO.seph j z b f2 hh' hb' (.inr ⟨o, y, e2, hh, hb, e1⟩)
        · cases hh'
        · rw [hBo o' f1 (h.store.lt o' y' f2)] at hb'
          exact h.store.sep o o' y y' e2 f2 hh hh' hoo b hb hb'
    · intro o y b hy hh hb
      rcases hent o y hy with ⟨i, x, rfl, e2, rfl⟩ | ⟨rfl, _⟩ | ⟨e1, e2⟩
      · rw [hBg] at hb
        rw [Ob.has_ren] at hh
        exact hO.blk i x b e2 hh hb
      · cases hh
      · rw [hBo o e1 (h.store.lt o y e2)] at hb
        exact Nat.lt_of_lt_of_le (h.store.blk o y b e2 hh hb) hS.size
    · intro o y b hy hh hb h9
      rcases hent o y hy with ⟨i, x, rfl, e2, rfl⟩ | ⟨rfl, _⟩ | ⟨e1, e2⟩
      · rw [hBg] at hb
        rw [Ob.has_ren] at hh
        exact hO.seph i x b e2 hh hb (.inl h9)
      · cases hh
      · rw [hBo o e1 (h.store.lt o y e2)] at hb
        exact h.store.seph o y b e2 hh hb h9
  have hfin : ∀ b, b < w.heap.size → ¬ XB b → w'.heap[b]? = w.heap[b]? := fun b hb hno => hS.block b hb fun h9 => by
    obtain ⟨i, o, x, e1, e2, e3, e4⟩ := hownL b h9
    rcases s1.keep o x b (by
      have h8 := h.store.lt o x e2
      have h7 : st1.n = st.n := hn1
      have h6 : st.store.n = st.n := rfl
      have h5 : st1.store.n = st1.n := rfl
      omega) e2 e3 e4 with ⟨y, k1, k2, k3⟩ | k1
    · exact hno (hXB o (List.mem_of_getElem? e1) y b k1 k2 k3)
    · omega
  have hSat : Sat H N w' m2 B2 a st2 := ⟨h.size, h.defers, h.slots.since hS2, hO2⟩
  cases out with
  | ret x =>
    cases e with
    | panicked ch => exact hR.elim
    | outgrown => exact hR.elim
    | returned v => exact .inl ⟨v, m2, B2, _, rfl, hK, Sat.putO hSat hd (Cn_ren hfg hv2 _ _ hR), by rw [St.store_putO]; exact s1.trans hS2, hfin⟩
  | pan x =>
    cases e with
    | returned v => exact hR.elim
    | outgrown => exact hR.elim
    | panicked ch =>
      obtain ⟨v, rfl, hR⟩ := hR
      exact .inr ⟨v, _, m2, B2, _, rfl, hK, hO2, s1.trans hS2, Cn_ren hfg hv2 _ _ hR⟩

theorem callS_ok {f : FuncId} {C : Contract} (hC : Sound G P f C) (h : Sat H N w m B a st) {d : Option Nat} (hd : ∀ k, d = some k → k < N) {os : List Nat} {lend : Bool} {args : List SV} {vs : List Value} (ha : CnL m st.n (vw H w B st.ob) args vs) (hXB : ∀ o, o ∈ os → ∀ y b, lk st.ob o = some y → y.has = true → B o b → XB b)
    (hs : callS C d os lend args st K Kp) : HasBody P f ∧ Calls P f vs.toArray w (CallOk H XB N w m B st.store a d K Kp) := by
  cases lend with
  | true => exact callS_lend hC h hd ha hs
  | false => exact callS_give hC h hd ha hXB hs

end
end Go.Ev
