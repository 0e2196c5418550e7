/- The evaluator's operations are sound: values, memory that is read, memory that is made and written. -/
import Derived.Test.YtpbkdcfjlbdgfaaDoorEvC
set_option linter.unusedVariables false
set_option linter.unusedSimpArgs false
namespace Go.Ev
open Go

def plainV : Value → Bool
  | .agg a => a.all (·.oneCell')
  | v => v.oneCell'
def opn : Operand → Option Rv
  | .tmp t => some (.s t)
  | .const v => if plainV v then some (.k v) else none
  | .func f => some (.f f)
  | .global _ => none

section
variable {G : World → Prop} {H : Hd G} {XB : Nat → Prop} {N : Nat} {w : World} {m : Nat → Value} {B : Nat → Nat → Prop} {a : Act} {st : St}

theorem Cn_dv {n : Nat} {c : Rdr} {x : Value} (h : x.oneCell' = true) : Cn m n c (.d (.v x)) x := ⟨rfl, h⟩
theorem CnL_dv {n : Nat} {c : Rdr} : ∀ (l : List Value), (∀ x ∈ l, x.oneCell' = true) → CnL m n c (l.map fun x => .d (.v x)) l
  | [], _ => by simp [CnL]
  | x :: r, hl => by
    simp only [List.map_cons, CnL]
    exact ⟨Cn_dv (hl x (by simp)), CnL_dv r fun y hy => hl y (by simp [hy])⟩
theorem Cn_kSV {n : Nat} {c : Rdr} : ∀ (v : Value), plainV v = true → Cn m n c (kSV v) v
  | .agg cs, h => by
    simp only [plainV, Array.all_eq_true_iff_forall_mem] at h
    simp only [kSV, Cn]
    exact ⟨cs, rfl, CnL_dv _ fun x hx => h x (by simpa using hx), fun x hx => h x (by simpa using hx)⟩
  | .bool _, h | .int _ _, h | .float _ _, h | .complex _ _ _, h | .string _, h | .pointer _, h | .slice _ _ _, h | .map _, h | .chan _, h | .func _ _ _, h | .nilFunc, h | .iface _ _, h | .nilIface, h => Cn_dv h
  | .tuple _, h => Cn_dv h

theorem get_ok (h : Sat H N w m B a st) {x : Operand} {r : Rv} (e : opn x = some r) : Cn m st.n (vw H w B st.ob) (r.get st) (a.eval x) := by
  cases x with
  | tmp t => simp only [opn, Option.some.injEq] at e; subst e; exact h.slots t
  | const v =>
    simp only [opn] at e
    obtain ⟨h1, h2⟩ := Option.ite_none_right_eq_some.1 e
    simp only [Option.some.injEq] at h2; subst h2
    exact Cn_kSV v h1
  | func f => simp only [opn, Option.some.injEq] at e; subst e; exact ⟨#[], rfl, by simp [CnL]⟩
  | global g => cases e

theorem getL_ok (h : Sat H N w m B a st) : ∀ {xs : List Operand} {rs : List Rv}, xs.map opn = rs.map some → CnL m st.n (vw H w B st.ob) (rs.map fun r => r.get st) (xs.map a.eval)
  | [], [], _ => by simp [CnL]
  | x :: xs, r :: rs, e => by
    simp only [List.map_cons, List.cons.injEq] at e
    simp only [List.map_cons, CnL]
    exact ⟨get_ok h e.1, getL_ok h e.2⟩
  | [], _ :: _, e => by simp at e
  | _ :: _, [], e => by simp at e

/-- What an operation that yields a value owes. -/
def VOk {G : World → Prop} (H : Hd G) (N : Nat) (XB : Nat → Prop) (w : World) (m : Nat → Value) (B : Nat → Nat → Prop) (s0 : Store) (a : Act) (d : Nat) (K : St → Prop) (r : Result Next) : Prop :=
  ∃ v w' m' B' st', r = .ok (.value v) w' ∧ K st' ∧ Sat H N w' m' B' (a.put (some d) v) st' ∧ Since w m B s0 w' m' B' st'.store ∧ ∀ b, b < w.heap.size → ¬ XB b → w'.heap[b]? = w.heap[b]?

theorem VOk.pure (h : Sat H N w m B a st) {d : Nat} (hd : d < N) {K : St → Prop} {x : SV} {v : Value} (hx : Cn m st.n (vw H w B st.ob) x v) (hK : K (st.put d x)) {r : Result Next} (hr : r = .ok (.value v) w) : VOk H N XB w m B st.store a d K r :=
  ⟨v, w, m, B, st.put d x, hr, hK, h.put hd hx, Since.refl _ _ _ _, fun _ _ _ => rfl⟩

/-- An operation that only looks at slots: what it yields, in whatever world. -/
def PV (m : Nat → Value) (n : Nat) (c : Rdr) (P : Program) (o : Oper) (a : Act) (d : Nat) (K : St → Prop) (st : St) : Prop :=
  ∃ x v, K (st.put d x) ∧ Cn m n c x v ∧ ∀ w', (execOp a.eval o).run P w' = .ok (.value v) w'
theorem PV.vok {P : Program} {o : Oper} (h : Sat H N w m B a st) {d : Nat} (hd : d < N) {K : St → Prop} (hp : PV m st.n (vw H w B st.ob) P o a d K st) : VOk H N XB w m B st.store a d K ((execOp a.eval o).run P w) := by
  obtain ⟨x, v, h1, h2, h3⟩ := hp
  exact VOk.pure h hd h2 h1 (h3 w)
theorem PV.pure {P : Program} {o : Oper} (h : Sat H N w m B a st) {d : Nat} (hd : d < N) {K : St → Prop} {x : SV} {v : Value} (hx : Cn m st.n (vw H w B st.ob) x v) (hK : K (st.put d x)) (hr : ∀ w, (execOp a.eval o).run P w = .ok (.value v) w) : PV m st.n (vw H w B st.ob) P o a d K st :=
  ⟨x, v, hK, hx, hr⟩

theorem Cn_v {n : Nat} {c : Rdr} {x : Value} (h : x.oneCell' = true) : Cn m n c (.d (.v x)) x := ⟨rfl, h⟩
theorem of_v {n : Nat} {c : Rdr} {x y : Value} (h : Cn m n c (.d (.v x)) y) : y = x := h.1

variable {P : Program} {o : Oper} {T : FuncId → Contract} {K : St → Prop} {Kp : SV → Store → Prop}

theorem ok_mv (h : Sat H N w m B a st) {d : Nat} (hd : d < N) {x : Operand} {r : Rv} (ho : o.op = .move x ∨ o.op = .assign x) (hx : opn x = some r)
    (hs : step T (.mv d r) st K Kp) : PV m st.n (vw H w B st.ob) P o a d K st :=
  PV.pure h hd (get_ok h hx) hs (fun w => by rcases ho with ho | ho <;> simp [execOp, ho])

theorem ok_bin (h : Sat H N w m B a st) {d : Nat} (hd : d < N) {op : BinOp} {t t' : TypeId} {x y : Operand} {r q : Rv} (ho : o.op = .binOp op t x y t') (hx : opn x = some r) (hy : opn y = some q)
    (hs : step T (.bin d op r q) st K Kp) : PV m st.n (vw H w B st.ob) P o a d K st := by
  have h1 := get_ok h hx
  have h2 := get_ok h hy
  simp only [step] at hs
  split at hs
  · rename_i u v e1 e2
    rw [e1] at h1; rw [e2] at h2
    cases hv : binV op u v with
    | none => rw [hv] at hs; exact hs.elim
    | some z =>
      rw [hv] at hs
      have hz : z.oneCell' = true := by
        unfold binV at hv
        split at hv <;> first | (obtain ⟨_, hv⟩ := Option.ite_none_right_eq_some.1 hv; simp only [Option.some.injEq] at hv; subst hv; rfl) | (simp only [Option.some.injEq] at hv; subst hv; rfl) | cases hv
      refine PV.pure h hd (Cn_v hz) hs fun w => ?_
      have := binV_ok hv P w t x y
      rw [← of_v h1, ← of_v h2] at this
      simp only [execOp, ho, Sem.run_bind] at this ⊢
      rw [this]; rfl
  · exact hs.elim

theorem ok_binc (h : Sat H N w m B a st) {d : Nat} (hd : d < N) {op : BinOp} {t t' : TypeId} {x y : Operand} {r q : Rv} (ho : o.op = .binOp op t x y t') (hx : opn x = some r) (hy : opn y = some q)
    (hs : step T (.binc d op r q) st K Kp) : PV m st.n (vw H w B st.ob) P o a d K st := by
  refine ok_bin (T := T) (Kp := Kp) h hd ho hx hy ?_
  simp only [step] at hs ⊢
  split at hs
  · rename_i u v e1 e2
    rw [e1, e2]
    cases hz : ariV op u v with
    | none => rw [hz] at hs; exact hs.elim
    | some z =>
      rw [hz] at hs
      obtain ⟨h1, h2⟩ := hs
      simp only [ariV_ok hz h1, need_some]; exact h2
  · exact hs.elim

theorem ok_not (h : Sat H N w m B a st) {d : Nat} (hd : d < N) {t : TypeId} {x : Operand} {r : Rv} (ho : o.op = .unOp .not t x) (hx : opn x = some r)
    (hs : step T (.not d r) st K Kp) : PV m st.n (vw H w B st.ob) P o a d K st := by
  have h1 := get_ok h hx
  simp only [step] at hs
  split at hs
  · rename_i b e
    rw [e] at h1
    exact PV.pure h hd (Cn_v rfl) hs (fun w => by simp [execOp, ho, of_v h1, Op.unary])
  · exact hs.elim

theorem ok_neg (h : Sat H N w m B a st) {d : Nat} (hd : d < N) {t : TypeId} {x : Operand} {r : Rv} (ho : o.op = .unOp .neg t x) (hx : opn x = some r)
    (hs : step T (.neg d r) st K Kp) : PV m st.n (vw H w B st.ob) P o a d K st := by
  have h1 := get_ok h hx
  simp only [step] at hs
  split at hs
  · rename_i b e
    rw [e] at h1
    exact PV.pure h hd (Cn_v rfl) hs (fun w => by simp [execOp, ho, of_v h1, Op.unary, Op.intArith])
  · exact hs.elim

theorem ok_cvi (h : Sat H N w m B a st) {d : Nat} (hd : d < N) {s t : TypeId} {k : IntKind} {x : Operand} {r : Rv} (ho : o.op = .convert s t x) (hx : opn x = some r) (h1t : ∃ u, P.underlying s = some u) (ht : P.underlying t = some (.int k))
    (hs : step T (.cvi d k r) st K Kp) : PV m st.n (vw H w B st.ob) P o a d K st := by
  have h1 := get_ok h hx
  obtain ⟨u, hu⟩ := h1t
  simp only [step] at hs
  split at hs
  · rename_i b n e
    rw [e] at h1
    refine PV.pure h hd (Cn_v rfl) hs ?_
    simp [execOp, ho, of_v h1, convert, run_underlying hu, run_underlying ht, Conv.intToInt]
  · exact hs.elim

theorem ok_i2s (h : Sat H N w m B a st) {d : Nat} (hd : d < N) {s t : TypeId} {x : Operand} {r : Rv} (ho : o.op = .convert s t x) (hx : opn x = some r) (h1t : ∃ u, P.underlying s = some u) (ht : P.underlying t = some .string)
    (hs : step T (.i2s d r) st K Kp) : PV m st.n (vw H w B st.ob) P o a d K st := by
  have h1 := get_ok h hx
  obtain ⟨u, hu⟩ := h1t
  simp only [step] at hs
  split at hs
  · rename_i b n e
    rw [e] at h1
    refine PV.pure h hd (Cn_v rfl) hs ?_
    simp [execOp, ho, of_v h1, convert, run_underlying hu, run_underlying ht, Conv.intToString]
  · exact hs.elim

theorem Cn_un {n : Nat} {c : Rdr} {x : SV} {v : Value} (h : okU x) (hx : Cn m n c x v) : Cn m n c x.un v := by
  cases x with
  | opt b y => simp only [okU] at h; subst h; simpa [Cn, SV.un] using hx
  | _ => exact hx
theorem ok_pk (h : Sat H N w m B a st) {d : Nat} (hd : d < N) {c x y : Operand} {rc r q : Rv} (ho : o.op = .pick c x y) (hc : opn c = some rc) (hx : opn x = some r) (hy : opn y = some q)
    (hs : step T (.pk d rc r q) st K Kp) : PV m st.n (vw H w B st.ob) P o a d K st := by
  have h0 := get_ok h hc
  have h1 := get_ok h hx
  have h2 := get_ok h hy
  simp only [step] at hs
  split at hs
  · rename_i b e
    rw [e] at h0
    refine PV.pure (x := selS b (r.get st).un (q.get st).un) (v := if b then a.eval x else a.eval y) h hd ?_ hs.2 (fun w => by simp [execOp, ho, of_v h0, asBool])
    cases b with
    | false => simpa [selS] using Cn_un (hs.1.2 rfl) h2
    | true => simpa [selS] using Cn_un (hs.1.1 rfl) h1
  · exact hs.elim

theorem ok_ex (h : Sat H N w m B a st) {d : Nat} (hd : d < N) {x : Operand} {r : Rv} {i : Nat} (ho : o.op = .extract x i) (hx : opn x = some r)
    (hs : step T (.ex d r i) st K Kp) : PV m st.n (vw H w B st.ob) P o a d K st := by
  have h1 := get_ok h hx
  simp only [step] at hs
  split at hs
  · rename_i l e
    rw [e] at h1
    simp only [Cn] at h1
    obtain ⟨cs, e1, h1⟩ := h1
    cases hl : l[i]? with
    | none => rw [hl] at hs; exact hs.elim
    | some y =>
      rw [hl] at hs
      obtain ⟨v, hv, hy⟩ := CnL_get h1 hl
      refine PV.pure h hd hy hs ?_
      have : cs[i]? = some v := by simpa using hv
      simp [execOp, ho, e1, Instr.extract, this]
  · exact hs.elim

theorem bt_ok (s : ByteArray) (j : Int) (h0 : 0 ≤ j) (h1 : j < s.size) : s[j.toNat]? = some (s.data.toList.getD j.toNat 0) ∧ (bt s j = ((s.data.toList.getD j.toNat 0).toNat : Int)) := by
  have hlt : j.toNat < s.size := by omega
  refine ⟨?_, rfl⟩
  rw [ByteArray.getElem?_lt' s _ hlt]
  congr 1
  have : j.toNat < s.data.toList.length := by simpa using hlt
  rw [List.getD_eq_getElem?_getD, List.getElem?_eq_getElem this]
  rfl

theorem ok_ixs (h : Sat H N w m B a st) {d : Nat} (hd : d < N) {t : TypeId} {x i : Operand} {r q : Rv} (ho : o.op = .index t x i) (hx : opn x = some r) (hi : opn i = some q) (ht : P.underlying t = some .string)
    (hs : step T (.ixs d r q) st K Kp) : PV m st.n (vw H w B st.ob) P o a d K st := by
  have h1 := get_ok h hx
  have h2 := get_ok h hi
  simp only [step] at hs
  split at hs
  · rename_i s k j e1 e2
    rw [e1] at h1; rw [e2] at h2
    obtain ⟨⟨j0, j1⟩, hs⟩ := hs
    refine PV.pure h hd (Cn_v rfl) hs ?_
    have hb := bt_ok s j j0 j1
    simp [execOp, ho, of_v h1, of_v h2, Instr.index, asIntOf, run_underlying ht, j0, hb.1, hb.2]
  · exact hs.elim

theorem optInt_ok (h : Sat H N w m B a st) {x : Option Operand} {r : Option Rv} (hx : x.bind opn = r) (hn : x.isSome = r.isSome) {dflt v : Int} (e : optInt st dflt r = some v) :
    (x = none ∧ v = dflt) ∨ ∃ y k, x = some y ∧ a.eval y = .int k v := by
  cases x with
  | none =>
    simp at hx; subst hx
    simp only [optInt, Option.some.injEq] at e
    exact .inl ⟨rfl, e.symm⟩
  | some y =>
    cases r with
    | none => simp at hn
    | some q =>
      simp only [Option.bind_some] at hx
      have h1 := get_ok h hx
      simp only [optInt] at e
      split at e
      · rename_i k i e1
        simp only [Option.some.injEq] at e; subst e
        rw [e1] at h1
        exact .inr ⟨y, k, rfl, of_v h1⟩
      · cases e

theorem run_bounds_ok (w : World) (isS : Bool) (len cap : Nat) (lo hi : Option Operand) (l u : Int) (hl : (lo = none ∧ l = 0) ∨ ∃ y k, lo = some y ∧ a.eval y = .int k l) (hu : (hi = none ∧ u = len) ∨ ∃ y k, hi = some y ∧ a.eval y = .int k u)
    (h0 : 0 ≤ l) (h1 : l ≤ u) (h2 : u ≤ len) (hc : len ≤ cap) : (Instr.sliceBounds isS len cap (lo.map a.eval) (hi.map a.eval) none).run P w = .ok (l.toNat, u.toNat, cap) w := by
  have hb : ∀ (k : IntKind) (i : Int) (y : Nat) (c : BoundsCode), 0 ≤ i → i ≤ y → (Instr.sliceBound (.int k i) y c).run P w = .ok i.toNat w := fun k i y c h0 h1 => by
    simp [Instr.sliceBound, asIntOf, h0, h1]
  have e1 : (cap : Int) ≥ u := by omega
  rcases hl with ⟨rfl, rfl⟩ | ⟨y, k, rfl, ey⟩ <;> rcases hu with ⟨rfl, rfl⟩ | ⟨z, k', rfl, ez⟩
  · simp [Instr.sliceBounds]
  · simp [Instr.sliceBounds, ez, hb _ u cap _ (by omega) (by omega)]
  · simp [Instr.sliceBounds, ey, hb _ l len _ (by omega) (by omega)]
  · have : ((u.toNat : Nat) : Int) = u := by omega
    simp [Instr.sliceBounds, ey, ez, hb _ u cap _ (by omega) (by omega), hb _ l u.toNat _ (by omega) (by omega)]

theorem ok_sls (h : Sat H N w m B a st) {d : Nat} (hd : d < N) {t : TypeId} {x : Operand} {lo hi : Option Operand} {r : Rv} {rl rh : Option Rv} (ho : o.op = .slice t x lo hi none) (hx : opn x = some r)
    (hl : lo.bind opn = rl) (hln : lo.isSome = rl.isSome) (hh : hi.bind opn = rh) (hhn : hi.isSome = rh.isSome) (ht : P.underlying t = some .string)
    (hs : step T (.sls d r rl rh) st K Kp) : PV m st.n (vw H w B st.ob) P o a d K st := by
  have h1 := get_ok h hx
  simp only [step] at hs
  split at hs
  · rename_i s e1
    rw [e1] at h1
    cases e2 : optInt st 0 rl with
    | none => rw [e2] at hs; exact hs.elim
    | some l =>
      cases e3 : optInt st s.size rh with
      | none => rw [e2, e3] at hs; exact hs.elim
      | some u =>
        rw [e2, e3] at hs
        obtain ⟨⟨b0, b1, b2⟩, hs⟩ := hs
        refine PV.pure h hd (Cn_v rfl) hs fun w => ?_
        have hb := run_bounds_ok (P := P) (a := a) w false s.size s.size lo hi l u (optInt_ok h hl hln e2) (optInt_ok h hh hhn e3) b0 b1 b2 (Nat.le_refl _)
        simp [execOp, ho, of_v h1, Instr.sliceAt, Instr.slice, run_underlying ht, hb]
  · exact hs.elim

theorem ok_undef (h : Sat H N w m B a st) {d : Nat} (hd : d < N) (v : Value) (hs : step T (.undef d) st K Kp) : ∃ st', K st' ∧ Sat H N w m B (a.put (some d) v) st' ∧ Since w m B st.store w m B st'.store :=
  ⟨_, hs, h.put hd (by simp [Cn]), Since.refl _ _ _ _⟩

end
end Go.Ev
