/- Operations of the loaded program, compiled to the evaluator's; each is sound. -/
import Derived.Test.YtpbkdcfjlbdgfaaDoorEvJ
set_option linter.unusedVariables false
set_option linter.unusedSimpArgs false
namespace Go.Ev
open Go

def szOf (P : Program) (t : TypeId) : Option Nat := (P.info? t).map (·.size)
def oneCells (l : List Value) : Bool := l.all (·.oneCell')
def opns (l : List Operand) : Option (List Rv) := l.mapM opn
def optOpn : Option Operand → Option (Option Rv)
  | none => some none
  | some x => (opn x).map some
def aggOf (P : Program) (t : TypeId) : Option Bool := match P.underlying t with
  | some (.struct _) | some (.array _ _) => some true
  | some _ => some false
  | none => none
def bparts (places : Array (Nat × Nat)) (ps : List (Nat × Operand)) : Option (List (Nat × Nat × Rv)) :=
  ps.mapM fun p => (places[p.1]?).bind fun q => (opn p.2).map fun r => (q.1, q.2, r)
def rparts (ps : List (Nat × Operand)) (i : Nat) : Option (List Rv) := match ps with
  | [] => some []
  | (j, x) :: r => if j = i then (opn x).bind fun q => (rparts r (i + 1)).map (q :: ·) else none

def isU8 : Option Value → Bool
  | some (.int .u8 0) => true
  | _ => false
theorem isU8_ok {z : Option Value} (h : isU8 z = true) : z = some (.int .u8 0) := by
  unfold isU8 at h
  split at h
  · rfl
  · cases h
def copCall (P : Program) (N : Nat) (an : Nat) (c : Call) (d : Option Tmp) : Option SOp :=
  match c.callee with
  | .builtin .len => match d, c.args.toList, c.argTypes.toList with
    | some d, [x], [t] => if d < N then match P.underlying t with
      | some .string => (opn x).map (.lens d)
      | some (.slice _) => (opn x).map (.len d)
      | _ => none
      else none
    | _, _, _ => none
  | .builtin .append => match d, c.args.toList, c.argTypes.toList with
    | some d, [x, y], [t, t'] => if d < N ∧ t = t' then match P.underlying t with
      | some (.slice e) => (P.info? e).bind fun i => i.zero.bind fun z => if z.cells.size = i.size ∧ 0 < i.size ∧ 0 < i.bytes then (opn x).bind fun r => (opn y).map (.ap d e i.size i.bytes r) else none
      | _ => none
      else if d < N then match P.underlying t, P.underlying t' with
      | some (.slice e), some .string => (P.info? e).bind fun i => if isU8 i.zero ∧ i.size = 1 ∧ i.bytes = 1 then (opn x).bind fun r => (opn y).map (.aps d e r) else none
      | _, _ => none
      else none
    | _, _, _ => none
  | .builtin .min => match d, c.args.toList with
    | some d, x :: ys => if d < N then (opn x).bind fun r => (opns ys).map (.mm d true r) else none
    | _, _ => none
  | .builtin .max => match d, c.args.toList with
    | some d, x :: ys => if d < N then (opn x).bind fun r => (opns ys).map (.mm d false r) else none
    | _, _ => none
  | .value (.func f) => if (match d with | some k => decide (k < N) | none => true) = true then match P.funcs[f]? with
      | some fn => if (fn.name == "runtime.NumGoroutine") = false ∧ fn.body.isNone = false then (opns c.args.toList).map (.call d f (an == 1)) else none
      | none => none
    else none
  | .value (.tmp t) => if (match d with | some k => decide (k < N) | none => true) = true then (opns c.args.toList).map (.callv d (an == 1) (.s t)) else none
  | _ => none

def isBld : List Value → Bool
  | [.pointer none, .slice none 0 0] => true
  | _ => false
theorem isBld_ok {z : Array Value} (h : isBld z.toList = true) : z = #[.pointer none, .slice none 0 0] := by
  unfold isBld at h
  split at h
  · rename_i e; cases z; simp_all
  · cases h
def nilC : Operand → Bool
  | .const (.slice none 0 0) => true
  | _ => false
theorem nilC_ok {x : Operand} (h : nilC x = true) : x = .const (.slice none 0 0) := by
  unfold nilC at h; split at h
  · rfl
  · cases h
/-- Is a sum, a difference, a product of ints to stay within bounds? -/
def ckd (P : Program) (an : Nat) (op : BinOp) (t : TypeId) : Bool := match op, P.underlying t with
  | .add, some (.int .i64) | .sub, some (.int .i64) | .mul, some (.int .i64) => an == 0
  | _, _ => false

/-- An operation, compiled. an: at a call, whether rows are lent. -/
def cop (P : Program) (N : Nat) (an : Nat) (o : Oper) : Option SOp :=
  match o.op, o.dst with
  | .move x, some d => if d < N then (if 2 ≤ an then (if nilC x then (szOf P (an - 2)).map (.nr d (an - 2)) else none) else (opn x).map (.mv d)) else none
  | .assign x, some d => if d < N then (if 2 ≤ an then (if nilC x then (szOf P (an - 2)).map (.nr d (an - 2)) else none) else (opn x).map (.mv d)) else none
  | .binOp op t x y _, some d => if d < N then match nilT P op t y with
      | some nn => (opn x).map (.isnil d nn.1 nn.2)
      | none => match eqT P op t with
        | some ks => (opn x).bind fun r => (opn y).map (.eqa d ks.1 ks.2 r)
        | none => (opn x).bind fun r => (opn y).map fun q => if ckd P an op t then .binc d op r q else .bin d op r q
    else none
  | .unOp .not _ x, some d => if d < N then (opn x).map (.not d) else none
  | .unOp .neg _ x, some d => if d < N then (opn x).map (.neg d) else none
  | .convert s t x, some d => if d < N then (opn x).bind fun r => match P.underlying s, P.underlying t with
      | some (.slice e), some .string => match P.underlying e with
        | some (.int .u8) => some (.b2s d r)
        | _ => none
      | some (.int _), some .string => some (.i2s d r)
      | some _, some (.int k) => some (.cvi d k r)
      | _, _ => none
    else none
  | .pick c x y, some d => if d < N then (opn c).bind fun rc => (opn x).bind fun r => (opn y).map (.pk d rc r) else none
  | .extract x i, some d => if d < N then (opn x).map fun r => .ex d r i else none
  | .index t x i, some d => if d < N then match P.underlying t with
      | some .string => (opn x).bind fun r => (opn i).map (.ixs d r)
      | _ => none
    else none
  | .slice t x lo hi none, some d => if d < N then (opn x).bind fun r => (optOpn lo).bind fun rl => (optOpn hi).bind fun rh => match P.underlying t with
      | some .string => some (.sls d r rl rh)
      | some (.slice e) => (szOf P e).map fun sz => if an == 1 then .slp d sz r rl rh else .slr d sz r rl rh
      | _ => none
    else none
  | .alloc t, some d => if d < N then ((P.info? t).bind (·.zero)).bind fun z => if 2 ≤ an then (if isBld z.cells.toList then some (.alb d t (an - 2)) else none) else if oneCells z.cells.toList then some (.al d t z.cells.toList) else none else none
  | .box t x, some d => if d < N then (opn x).bind fun r => (szOf P t).map fun n => .bx d t n r else none
  | .load t x, some d => if d < N then (opn x).bind fun r => (ldT P t).map fun p => .ld d p.1 p.2 r else none
  | .store t x y, none => (opn x).bind fun r => (opn y).bind fun q => (ldT P t).map fun p => .st p.1 p.2 r q
  | .nilCheck x, some d => if d < N then (opn x).map (.nc d) else none
  | .fieldAddr t x i, some d => if d < N then match P.underlying t with
      | some (.struct fs) => (fs[i]?).bind fun f => (szOf P f.type).bind fun sz => if sz = 0 then none else (opn x).map (.fa d f.offset)
      | _ => none
    else none
  | .field t x i, some d => if d < N then match P.underlying t with
      | some (.struct fs) => (fs[i]?).bind fun f => (szOf P f.type).bind fun sz => (aggOf P f.type).bind fun ag => (opn x).map (.fd d ag f.offset sz)
      | _ => none
    else none
  | .indexAddr t x i, some d => if d < N then match P.underlying t with
      | some (.slice e) => (szOf P e).bind fun sz => (opn x).bind fun r => (opn i).map (.ia d sz r)
      | _ => none
    else none
  | .build t ps, some d => if d < N then match P.underlying t with
      | some (.struct fs) => ((P.info? t).bind (·.zero)).bind fun z => if oneCells z.cells.toList && fs.all (fun f => (szOf P f.type).isSome) then (bparts (fs.map fun f => (f.offset, (szOf P f.type).getD 0)) ps.toList).map (.bd d z.cells.toList) else none
      | _ => none
    else none
  | .buildSlice t n ps, some d => if d < N then match P.underlying t with
      | some (.slice e) => ((P.info? e).bind (·.zero)).bind fun z => (szOf P e).bind fun sz => if n * sz ≤ 16777216 ∧ n ≤ 16777216 ∧ ps.size = n then (rparts ps.toList 0).map (.bs d e sz) else none
      | _ => none
    else none
  | .makeInterface t x, some d => if d < N then match P.underlying t with
      | some (.interface _) => none
      | some _ => (opn x).map (.mi d t)
      | none => none
    else none
  | .makeFunc (.func f) first cs, some d => if d < N ∧ first.size = 0 then (opns cs.toList).map (.mf d f) else none
  | .panic x, _ => (opn x).map .pn
  | .range t x, some d => if d < N then match P.underlying t with
      | some .string => (opn x).map (.rg d)
      | _ => none
    else none
  | .next x true, some d => if d < N then (opn x).map (.nx d) else none
  | .call c, d => copCall P N an c d
  | _, _ => none

theorem mapM_some {α β : Type} {f : α → Option β} : ∀ {l : List α} {r : List β}, l.mapM f = some r → l.map f = r.map some
  | [], r, h => by simp at h; subst h; rfl
  | x :: l, r, h => by
    simp only [List.mapM_cons, Option.bind_eq_bind, Option.bind_eq_some_iff, Option.pure_def, Option.some.injEq] at h
    obtain ⟨y, h1, ys, h2, rfl⟩ := h
    simp [h1, mapM_some h2]

theorem rparts_ok : ∀ {ps : List (Nat × Operand)} {i : Nat} {qs : List Rv}, rparts ps i = some qs → ps.map (fun p => (p.1, opn p.2)) = (qs.zipIdx i).map (fun q => (q.2, some q.1))
  | [], i, qs, h => by simp [rparts] at h; subst h; rfl
  | (j, x) :: r, i, qs, h => by
    simp only [rparts] at h
    obtain ⟨rfl, h⟩ := Option.ite_none_right_eq_some.1 h
    simp only [Option.bind_eq_some_iff, Option.map_eq_some_iff] at h
    obtain ⟨q, h1, qs', h2, rfl⟩ := h
    simp [h1, rparts_ok h2]

theorem places_run (P : Program) (fs : Array Field) (h : fs.all (fun f => (szOf P f.type).isSome) = true) (w : World) :
    (fs.mapM fun f => do pure (f.offset, ← sizeOf f.type) : Sem (Array (Nat × Nat))).run P w = .ok (fs.map fun f => (f.offset, (szOf P f.type).getD 0)) w := by
  rw [Array.mapM_eq_mapM_toList]
  have key : ∀ (l : List Field), (∀ f ∈ l, (szOf P f.type).isSome = true) → (l.mapM fun f => do pure (f.offset, ← sizeOf f.type) : Sem (List (Nat × Nat))).run P w = .ok (l.map fun f => (f.offset, (szOf P f.type).getD 0)) w := by
    intro l
    induction l with
    | nil => intro _; rfl
    | cons f r ih =>
      intro hl
      have h1 := hl f (by simp)
      obtain ⟨n, hn⟩ := Option.isSome_iff_exists.1 h1
      have hs : (sizeOf f.type).run P w = .ok n w := by
        unfold szOf at hn
        cases hi : P.info? f.type with
        | none => rw [hi] at hn; cases hn
        | some i => rw [hi] at hn; simp only [Option.map_some, Option.some.injEq] at hn; simp [sizeOf, typeInfo, hi, hn]
      have := ih fun g hg => hl g (by simp [hg])
      simp only [List.mapM_cons, Sem.run_bind, hs, Result.andThen_ok, Sem.run_pure, this, hn, Option.getD_some, List.map_cons]
  rw [Sem.run_map, key fs.toList (fun f hf => by simp only [Array.all_eq_true_iff_forall_mem] at h; exact h f (by simpa using hf)), Result.andThen_ok]
  congr 1
  apply Array.ext'
  simp

theorem optOpn_ok {x : Option Operand} {r : Option Rv} (h : optOpn x = some r) : x.bind opn = r ∧ x.isSome = r.isSome := by
  cases x with
  | none => simp [optOpn] at h; subst h; exact ⟨rfl, rfl⟩
  | some y =>
    simp only [optOpn, Option.map_eq_some_iff] at h
    obtain ⟨q, h1, rfl⟩ := h
    exact ⟨h1, rfl⟩

/-- Which objects an operation may write. -/
def mods (s : SOp) (st : St) : List Nat := match s with
  | .st _ _ x _ => match x.get st with
    | .ptr o _ => [o]
    | .ep o _ _ _ => [o]
    | _ => []
  | .ap _ _ _ _ x _ | .aps _ _ x _ => match x.get st with
    | .own o => [o]
    | _ => []
  | .nx _ x => match x.get st with
    | .own o => [o]
    | _ => []
  | .call _ _ _ args => osOf st.ob (args.map fun x => x.get st)
  | .callv _ _ x args => match x.get st with
    | .fn _ caps => osOf st.ob ((args.map fun x => x.get st) ++ caps)
    | _ => []
  | _ => []

section
variable {G : World → Prop} {H : Hd G} {XB : Nat → Prop} {N : Nat} {w : World} {m : Nat → Value} {B : Nat → Nat → Prop} {a : Act} {st : St}
variable {P : Program} {o : Oper} {T : FuncId → Contract} {K : St → Prop} {Kp : SV → Store → Prop}

def Lift {G : World → Prop} (H : Hd G) (N : Nat) (w0 : World) (m0 : Nat → Value) (B0 : Nat → Nat → Prop) (s0 : Store) (K : St → Prop) (a : Act) (w : World) : Prop :=
  ∃ m B st, K st ∧ Sat H N w m B a st ∧ Since w0 m0 B0 s0 w m B st.store
def LiftP {G : World → Prop} (H : Hd G) (w0 : World) (m0 : Nat → Value) (B0 : Nat → Nat → Prop) (s0 : Store) (Kp : SV → Store → Prop) (ch : List PanicEntry) (w : World) : Prop :=
  ∃ v x m B s, ch = [{ v := v, recovered := false }] ∧ Kp x s ∧ SOk H w m B s ∧ Since w0 m0 B0 s0 w m B s ∧ Cn m s.n (vw H w B s.ob) x v

/-- What an operation owes. -/
def OpOk {G : World → Prop} (H : Hd G) (XB : Nat → Prop) (N : Nat) (w : World) (m : Nat → Value) (B : Nat → Nat → Prop) (s0 : Store) (P : Program) (o : Oper) (a : Act) (K : St → Prop) (Kp : SV → Store → Prop) : Prop :=
  ∀ (next : Act → World → Prop) (Q : Exit → Act → World → Prop), (∀ a' w', Lift H N w m B s0 K a' w' → (∀ b, b < w.heap.size → ¬ XB b → w'.heap[b]? = w.heap[b]?) → next a' w') → (∀ ch a' w', a'.defers = [] → LiftP H w m B s0 Kp ch w' → Q (.panic ch) a' w') → o.wp P a w next Q

theorem VOk.op {d : Nat} (hd : o.dst = some d) (h : VOk H N XB w m B st.store a d K ((execOp a.eval o).run P w)) : OpOk H XB N w m B st.store P o a K Kp := by
  obtain ⟨v, w', m', B', st', h1, h2, h3, h4, h5⟩ := h
  intro next Q hn hq
  unfold Oper.wp
  rw [h1, Oper.upon_value, hd]
  exact hn _ _ ⟨m', B', st', h2, h3, h4⟩ h5

theorem call_op (h : Sat H N w m B a st) {f : FuncId} {vs : List Value} {d : Option Nat} (hd : o.dst = d) (he : (execOp a.eval o).run P w = .ok (.enter f vs.toArray) w) (hc : Calls P f vs.toArray w (CallOk H XB N w m B st.store a d K Kp)) : OpOk H XB N w m B st.store P o a K Kp := by
  intro next Q hn hq
  unfold Oper.wp
  rw [he, Oper.upon_enter]
  refine hc.mono ?_
  rintro e w' (⟨v, m', B', st', rfl, h2, h3, h4, h5⟩ | ⟨v, x, m', B', s', rfl, h2, h3, h4, h5⟩)
  · rw [hd]; exact hn _ _ ⟨m', B', st', h2, h3, h4⟩ h5
  · exact hq _ _ _ h.defers ⟨v, x, m', B', s', rfl, h2, h3, h4, h5⟩

theorem ok_call (hT : ∀ f, Sound G P f (T f)) (h : Sat H N w m B a st) {d : Option Nat} (hd : ∀ k, d = some k → k < N) (hdo : o.dst = d) {f : FuncId} {fn : Func} {args : Array Operand} {ts : Array TypeId} {rs : List Rv} {lend : Bool}
    (ho : o.op = .call { callee := .value (.func f), args := args, argTypes := ts }) (hf : P.funcs[f]? = some fn) (h1 : (fn.name == "runtime.NumGoroutine") = false) (h2 : fn.body.isNone = false) (ha : args.toList.map opn = rs.map some)
    (hXB : ∀ o, o ∈ osOf st.ob (rs.map fun x => x.get st) → ∀ y b, lk st.ob o = some y → y.has = true → B o b → XB b) (hs : step T (.call d f lend rs) st K Kp) : OpOk H XB N w m B st.store P o a K Kp := by
  simp only [step] at hs
  refine call_op h hdo (f := f) (vs := args.toList.map a.eval) ?_ (callS_ok (hT f) h hd (getL_ok h ha) hXB hs).2
  simp only [execOp, ho, resolve, Deferred.ofValue, Act.eval, invoke, callFunc, Sem.run_bind, Sem.run_pure, run_program, Result.andThen_ok, hf, h1, h2, Bool.false_eq_true, if_false]
  congr 2
  apply Array.ext'
  simp

theorem ok_callv (hT : ∀ f, Sound G P f (T f)) (h : Sat H N w m B a st) {d : Option Nat} (hd : ∀ k, d = some k → k < N) (hdo : o.dst = d) {t : Nat} {args : Array Operand} {ts : Array TypeId} {rs : List Rv} {lend : Bool}
    (ho : o.op = .call { callee := .value (.tmp t), args := args, argTypes := ts }) (ha : args.toList.map opn = rs.map some)
    (hXB : ∀ o, o ∈ mods (.callv d lend (.s t) rs) st → ∀ y b, lk st.ob o = some y → y.has = true → B o b → XB b) (hs : step T (.callv d lend (.s t) rs) st K Kp) : OpOk H XB N w m B st.store P o a K Kp := by
  simp only [step] at hs
  split at hs
  · rename_i f caps e
    have hx := get_ok h (x := .tmp t) (r := .s t) rfl
    rw [e] at hx
    simp only [Cn] at hx
    obtain ⟨cs, ev, hc⟩ := hx
    obtain ⟨⟨fn, hf, h2, h1⟩, hcall⟩ := callS_ok (hT f) h hd (CnL_append (getL_ok h ha) hc) (by simpa only [mods, e] using hXB) hs
    refine call_op h hdo (f := f) (vs := args.toList.map a.eval ++ cs.toList) ?_ hcall
    simp only [execOp, ho, resolve, ev, Deferred.ofValue, invoke, callFunc, Sem.run_bind, Sem.run_pure, run_program, Result.andThen_ok, hf, h1, h2, Bool.false_eq_true, if_false]
    congr 2
    apply Array.ext'
    simp
  · exact hs.elim

theorem ok_pn (h : Sat H N w m B a st) {x : Operand} {r : Rv} (ho : o.op = .panic x) (hx : opn x = some r) (hs : step T (.pn r) st K Kp) : OpOk H XB N w m B st.store P o a K Kp := by
  have h1 := get_ok h hx
  simp only [step] at hs
  split at hs
  · rename_i t y e
    rw [e] at h1
    have h2 := h1
    simp only [Cn, Rd] at h2
    obtain ⟨z, ev, _⟩ := h2
    intro next Q hn hq
    unfold Oper.wp
    have : (execOp a.eval o).run P w = .halt (.panic (a.eval x)) w := by simp [execOp, ho, Instr.panic, ev]
    rw [this, Oper.upon_panic]
    exact hq _ _ _ h.defers ⟨_, _, m, B, _, rfl, hs, h.store, Since.refl _ _ _ _, h1⟩
  · exact hs.elim

end
end Go.Ev
