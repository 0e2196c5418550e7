/- The evaluator, sealed: constants that Lean's kernel cannot unfold by itself, and what they come to, as rules. -/
import Derived.Test.YtpbkdcfjlbdgfaaDoorEvS
set_option linter.unusedVariables false
set_option linter.unusedSimpArgs false
namespace Go.Ev
open Go

noncomputable def xStep : (FuncId → Contract) → SOp → St → (St → Prop) → (SV → Store → Prop) → Prop := Classical.choose (⟨step, rfl⟩ : ∃ f, f = step)
theorem xStep_eq : xStep = step := Classical.choose_spec (⟨step, rfl⟩ : ∃ f, f = step)
noncomputable def xOps : (FuncId → Contract) → List GOp → St → (St → Prop) → (SV → Store → Prop) → Prop := Classical.choose (⟨evOps, rfl⟩ : ∃ f, f = evOps)
theorem xOps_eq : xOps = evOps := Classical.choose_spec (⟨evOps, rfl⟩ : ∃ f, f = evOps)
noncomputable def xDr : (FuncId → Contract) → List Nat → Nat → List (Nat × Bool × GOp) → St → (St → Prop) → (SV → Store → Prop) → Prop := Classical.choose (⟨evDr, rfl⟩ : ∃ f, f = evDr)
theorem xDr_eq : xDr = evDr := Classical.choose_spec (⟨evDr, rfl⟩ : ∃ f, f = evDr)
noncomputable def xv : (FuncId → Contract) → Nat → SCode → St → (Ex → St → Prop) → (SV → Store → Prop) → Prop := Classical.choose (⟨ev, rfl⟩ : ∃ f, f = ev)
theorem xv_eq : xv = ev := Classical.choose_spec (⟨ev, rfl⟩ : ∃ f, f = ev)
noncomputable def xLoop (body : St → (Ex → St → Prop) → (SV → Store → Prop) → Prop) (n0 : Nat) (ks : List Nat) (KE : Ex → St → Prop) (Kp : SV → Store → Prop) (st : PSt (body, n0, ks, KE, Kp)) : Prop :=
  Classical.choose (⟨fun b n ks K Kp st => evLoop b n ks K Kp st, rfl⟩ : ∃ f, f = fun (b : St → (Ex → St → Prop) → (SV → Store → Prop) → Prop) n ks K Kp st => evLoop b n ks K Kp st) body n0 ks KE Kp st
theorem xLoop_eq (body : St → (Ex → St → Prop) → (SV → Store → Prop) → Prop) (n0 : Nat) (ks : List Nat) (KE : Ex → St → Prop) (Kp : SV → Store → Prop) (st : St) : xLoop body n0 ks KE Kp st = evLoop body n0 ks KE Kp st := by
  unfold xLoop
  rw [Classical.choose_spec (⟨fun b n ks K Kp st => evLoop b n ks K Kp st, rfl⟩ : ∃ f, f = fun (b : St → (Ex → St → Prop) → (SV → Store → Prop) → Prop) n ks K Kp st => evLoop b n ks K Kp st)]
noncomputable def xAgain (I : Nat → St → Prop) (n0 : Nat) (ks : List Nat) (n : Nat) (st : PSt (I, n0, ks, n)) : Prop :=
  Classical.choose (⟨fun I n0 ks n st => again I n0 ks n st, rfl⟩ : ∃ f, f = fun I n0 ks n st => again I n0 ks n st) I n0 ks n st
theorem xAgain_eq (I : Nat → St → Prop) (n0 : Nat) (ks : List Nat) (n : Nat) (st : St) : xAgain I n0 ks n st = again I n0 ks n st := by
  unfold xAgain
  rw [Classical.choose_spec (⟨fun I n0 ks n st => again I n0 ks n st, rfl⟩ : ∃ f, f = fun I n0 ks n st => again I n0 ks n st)]
noncomputable def xStp (K : St → Prop) (st : PSt K) : Prop := Classical.choose (⟨fun K st => stp K st, rfl⟩ : ∃ f, f = fun (K : St → Prop) st => stp K st) K st
theorem xStp_is : (fun K st => xStp K st) = fun K st => stp K st := by
  unfold xStp
  rw [Classical.choose_spec (⟨fun K st => stp K st, rfl⟩ : ∃ f, f = fun (K : St → Prop) st => stp K st)]
theorem xStp_eq {K : St → Prop} {st : St} : xStp K st = K st := (congrFun (congrFun xStp_is K) st).trans stp_eq
def xBrk (b : Bool) (K : St → Prop) (st : St) : Prop := cond b (xStp K st) (K st)
theorem xBrk_is : @xBrk = @brk := by funext b K st; unfold xBrk brk; rw [xStp_eq, stp_eq]

variable {T : FuncId → Contract} {K : St → Prop} {Kp : SV → Store → Prop} {KE : Ex → St → Prop}
@[congr] theorem xStep_congr {s : SOp} {st st' : St} (h : st = st') : xStep T s st K Kp = xStep T s st' K Kp := by rw [h]
@[congr] theorem xOps_congr {l : List GOp} {st st' : St} (h : st = st') : xOps T l st K Kp = xOps T l st' K Kp := by rw [h]
@[congr] theorem xDr_congr {xo : List Nat} {n : Nat} {l : List (Nat × Bool × GOp)} {st st' : St} (h : st = st') : xDr T xo n l st K Kp = xDr T xo n l st' K Kp := by rw [h]
@[congr] theorem xv_congr {n : Nat} {s : SCode} {st st' : St} (h : st = st') : xv T n s st KE Kp = xv T n s st' KE Kp := by rw [h]
@[congr] theorem xBrk_congr {b : Bool} {st : St} : xBrk b K st = xBrk b K st := rfl

theorem xLoop_intro {body : St → (Ex → St → Prop) → (SV → Store → Prop) → Prop} {n0 : Nat} {ks : List Nat} {st : St} (I : Nat → St → Prop) (n : Nat) (os : List Nat) (h1 : normOk n0 os st) (h2 : I n (st.norm os ks))
    (h3 : ∀ n st, I n st → body st (thenK (xAgain I n0 ks n) KE) Kp) : xLoop body n0 ks KE Kp st := by
  rw [xLoop_eq]; refine evLoop_intro I n os h1 h2 fun n st h => ?_
  have := h3 n st h
  rw [show xAgain I n0 ks n = fun st => again I n0 ks n st from funext fun st => xAgain_eq I n0 ks n st] at this
  exact this
theorem xAgain_intro {I : Nat → St → Prop} {n0 : Nat} {ks : List Nat} {n : Nat} {st : St} (k : Nat) (os : List Nat) (h0 : k < n) (h1 : normOk n0 os st) (h2 : I k (st.norm os ks)) : xAgain I n0 ks n st := by
  rw [xAgain_eq]; exact again_intro k os h0 h1 h2

/-- What each operation does. -/
theorem xSteps :
  (∀ (T : FuncId → Contract) (K : St → Prop) (Kp : SV → Store → Prop) (d : Nat) (x : Rv) (st : St), xStep T (.mv d x) st K Kp = (K (st.put d (x.get st)))) ∧
  (∀ (T : FuncId → Contract) (K : St → Prop) (Kp : SV → Store → Prop) (d : Nat) (op : BinOp) (x y : Rv) (st : St), xStep T (.bin d op x y) st K Kp = (match x.get st, y.get st with
      | .d (.v a), .d (.v b) => need (binV op a b) fun v => K (st.put d (.d (.v v)))
      | _, _ => False)) ∧
  (∀ (T : FuncId → Contract) (K : St → Prop) (Kp : SV → Store → Prop) (d : Nat) (op : BinOp) (x y : Rv) (st : St), xStep T (.binc d op x y) st K Kp = (match x.get st, y.get st with
      | .d (.v (.int .i64 a)), .d (.v (.int .i64 b)) => need (ariV op a b) fun z => (-9223372036854775808 ≤ z ∧ z ≤ 9223372036854775807) ∧ K (st.put d (.d (.v (.int .i64 z))))
      | _, _ => False)) ∧
  (∀ (T : FuncId → Contract) (K : St → Prop) (Kp : SV → Store → Prop) (d : Nat) (t : TypeId) (sz : Nat) (st : St), xStep T (.nr d t sz) st K Kp = (K ((st.newO (.row t sz [])).put d (.own st.n)))) ∧
  (∀ (T : FuncId → Contract) (K : St → Prop) (Kp : SV → Store → Prop) (d : Nat) (x : Rv) (st : St), xStep T (.not d x) st K Kp = (match x.get st with
      | .d (.v (.bool b)) => K (st.put d (.d (.v (.bool !b))))
      | _ => False)) ∧
  (∀ (T : FuncId → Contract) (K : St → Prop) (Kp : SV → Store → Prop) (d : Nat) (x : Rv) (st : St), xStep T (.neg d x) st K Kp = (match x.get st with
      | .d (.v (.int k n)) => K (st.put d (.d (.v (.int k (k.wrap (0 - n))))))
      | _ => False)) ∧
  (∀ (T : FuncId → Contract) (K : St → Prop) (Kp : SV → Store → Prop) (d : Nat) (neg ifc : Bool) (x : Rv) (st : St), xStep T (.isnil d neg ifc x) st K Kp = (need (nilV ifc (x.get st)) fun b => K (st.put d (.d (.v (.bool (cond neg (!b) b))))))) ∧
  (∀ (T : FuncId → Contract) (K : St → Prop) (Kp : SV → Store → Prop) (d : Nat) (neg : Bool) (ks : List Nat) (x y : Rv) (st : St), xStep T (.eqa d neg ks x y) st K Kp = (need (eqA ks (x.get st) (y.get st)) fun b => K (st.put d (.d (.v (.bool (cond neg (!b) b))))))) ∧
  (∀ (T : FuncId → Contract) (K : St → Prop) (Kp : SV → Store → Prop) (d : Nat) (k : IntKind) (x : Rv) (st : St), xStep T (.cvi d k x) st K Kp = (match x.get st with
      | .d (.v (.int _ n)) => K (st.put d (.d (.v (.int k (k.wrap n)))))
      | _ => False)) ∧
  (∀ (T : FuncId → Contract) (K : St → Prop) (Kp : SV → Store → Prop) (d : Nat) (x : Rv) (st : St), xStep T (.i2s d x) st K Kp = (match x.get st with
      | .d (.v (.int _ n)) => K (st.put d (.d (.v (.string (Utf8.encode n)))))
      | _ => False)) ∧
  (∀ (T : FuncId → Contract) (K : St → Prop) (Kp : SV → Store → Prop) (d : Nat) (x : Rv) (st : St), xStep T (.b2s d x) st K Kp = (need (st.rows (x.get st)) fun rows => need (bytesOf rows) fun l => K (st.put d (.d (.v (str l)))))) ∧
  (∀ (T : FuncId → Contract) (K : St → Prop) (Kp : SV → Store → Prop) (d : Nat) (c a b : Rv) (st : St), xStep T (.pk d c a b) st K Kp = (match c.get st with
      | .d (.v (.bool t)) => ((t = true → okU (a.get st)) ∧ (t = false → okU (b.get st))) ∧ K (st.put d (selS t (a.get st).un (b.get st).un))
      | _ => False)) ∧
  (∀ (T : FuncId → Contract) (K : St → Prop) (Kp : SV → Store → Prop) (d : Nat) (x : Rv) (st : St), xStep T (.len d x) st K Kp = (need (st.rows (x.get st)) fun rows => K (st.put d (.d (.v (.int .i64 rows.length)))))) ∧
  (∀ (T : FuncId → Contract) (K : St → Prop) (Kp : SV → Store → Prop) (d : Nat) (x : Rv) (st : St), xStep T (.lens d x) st K Kp = (match x.get st with
      | .d (.v (.string s)) => K (st.put d (.d (.v (.int .i64 s.size))))
      | _ => False)) ∧
  (∀ (T : FuncId → Contract) (K : St → Prop) (Kp : SV → Store → Prop) (d : Nat) (x : Rv) (i : Nat) (st : St), xStep T (.ex d x i) st K Kp = (match x.get st with
      | .tup l => need l[i]? fun y => K (st.put d y)
      | _ => False)) ∧
  (∀ (T : FuncId → Contract) (K : St → Prop) (Kp : SV → Store → Prop) (d : Nat) (x i : Rv) (st : St), xStep T (.ixs d x i) st K Kp = (match x.get st, i.get st with
      | .d (.v (.string s)), .d (.v (.int _ j)) => (0 ≤ j ∧ j < s.size) ∧ K (st.put d (.d (.v (.int .u8 (bt s j)))))
      | _, _ => False)) ∧
  (∀ (T : FuncId → Contract) (K : St → Prop) (Kp : SV → Store → Prop) (d : Nat) (x : Rv) (lo hi : Option Rv) (st : St), xStep T (.sls d x lo hi) st K Kp = (match x.get st with
      | .d (.v (.string s)) => need (optInt st 0 lo) fun l => need (optInt st s.size hi) fun h =>
        (0 ≤ l ∧ l ≤ h ∧ h ≤ s.size) ∧ K (st.put d (.d (.v (.string (s.extract l.toNat h.toNat)))))
      | _ => False)) ∧
  (∀ (T : FuncId → Contract) (K : St → Prop) (Kp : SV → Store → Prop) (d : Nat) (sz : Nat) (x : Rv) (lo hi : Option Rv) (st : St), xStep T (.slr d sz x lo hi) st K Kp = (need (st.frz (x.get st)) fun y => match y.1 with
      | .sl rows => need (optInt st 0 lo) fun l => need (optInt st rows.length hi) fun h =>
        (0 ≤ l ∧ l ≤ h ∧ h ≤ rows.length) ∧ (∀ r ∈ rows, r.length = sz) ∧ K (y.2.put d (.d (.sl ((rows.take h.toNat).drop l.toNat))))
      | _ => False)) ∧
  (∀ (T : FuncId → Contract) (K : St → Prop) (Kp : SV → Store → Prop) (d : Nat) (sz : Nat) (x : Rv) (lo hi : Option Rv) (st : St), xStep T (.slp d sz x lo hi) st K Kp = (need (st.rowsF (x.get st)) fun rows => need (optInt st 0 lo) fun l => need (optInt st rows.length hi) fun h =>
      (0 ≤ l ∧ l ≤ h ∧ h ≤ rows.length) ∧ (∀ r ∈ rows, r.length = sz) ∧ K (st.put d (.d (.sl ((rows.take h.toNat).drop l.toNat)))))) ∧
  (∀ (T : FuncId → Contract) (K : St → Prop) (Kp : SV → Store → Prop) (d : Nat) (mn : Bool) (x : Rv) (ys : List Rv) (st : St), xStep T (.mm d mn x ys) st K Kp = (match x.get st with
      | .d (.v (.int k i)) => need (intsOf st k ys) fun l => K (st.put d (.d (.v (.int k (l.foldl (mmOf mn) i)))))
      | _ => False)) ∧
  (∀ (T : FuncId → Contract) (K : St → Prop) (Kp : SV → Store → Prop) (d : Nat) (x : Rv) (st : St), xStep T (.rg d x) st K Kp = (match x.get st with
      | .d (.v (.string s)) => K ((st.newO (.iter s 0)).put d (.own st.n))
      | _ => False)) ∧
  (∀ (T : FuncId → Contract) (K : St → Prop) (Kp : SV → Store → Prop) (d : Nat) (x : Rv) (st : St), xStep T (.nx d x) st K Kp = (match x.get st with
      | .own o => match lk st.ob o with
        | some (.iter s p) => (p < s.size → K ((st.setO o (.iter s (p + (Utf8.decode s p).2))).put d (.tup [.d (.v (.bool true)), .d (.v (.int .i64 p)), .d (.v (.int .i32 (Utf8.decode s p).1))]))) ∧ (¬ p < s.size → K (st.put d (.tup [.d (.v (.bool false))])))
        | _ => False
      | _ => False)) ∧
  (∀ (T : FuncId → Contract) (K : St → Prop) (Kp : SV → Store → Prop) (d : Nat) (t : TypeId) (zero : List Value) (st : St), xStep T (.al d t zero) st K Kp = (K ((st.newO (.cells t (zero.map fun v => .d (.v v)))).put d (.ptr st.n 0)))) ∧
  (∀ (T : FuncId → Contract) (K : St → Prop) (Kp : SV → Store → Prop) (d : Nat) (t u : TypeId) (st : St), xStep T (.alb d t u) st K Kp = (K ((st.newO (.bld t u [])).put d (.ptr st.n 0)))) ∧
  (∀ (T : FuncId → Contract) (K : St → Prop) (Kp : SV → Store → Prop) (d : Nat) (t : TypeId) (n : Nat) (x : Rv) (st : St), xStep T (.bx d t n x) st K Kp = (need (x.get st).cells fun l => l.length = n ∧ K ((st.newO (.cells t l)).put d (.ptr st.n 0)))) ∧
  (∀ (T : FuncId → Contract) (K : St → Prop) (Kp : SV → Store → Prop) (d : Nat) (agg : Bool) (n : Nat) (a : Rv) (st : St), xStep T (.ld d agg n a) st K Kp = (match a.get st with
      | .ptr o k => match lk st.ob o with
        | some (.cells _ l) => if agg then k + n ≤ l.length ∧ K (st.put d (.agg ((l.drop k).take n))) else need l[k]? fun y => K (st.put d y)
        | _ => False
      | .cp cells => if agg then n ≤ cells.length ∧ K (st.put d (.agg ((cells.take n).map .d))) else need cells[0]? fun y => K (st.put d (.d y))
      | .d (.pt cells) => if agg then n ≤ cells.length ∧ K (st.put d (.agg ((cells.take n).map .d))) else need cells[0]? fun y => K (st.put d (.d y))
      | .ep o sz i k => match lk st.ob o with
        | some (.row _ sz' rows) => sz' = sz ∧ need rows[i]? fun r => if agg then k + n ≤ r.length ∧ K (st.put d (.agg (((r.drop k).take n).map .d))) else need r[k]? fun y => K (st.put d (.d y))
        | _ => False
      | _ => False)) ∧
  (∀ (T : FuncId → Contract) (K : St → Prop) (Kp : SV → Store → Prop) (agg : Bool) (n : Nat) (a x : Rv) (st : St), xStep T (.st agg n a x) st K Kp = (match a.get st with
      | .ptr o k => match lk st.ob o with
        | some (.cells t l) => need (x.get st).cells fun xs => (xs.length = n ∧ k + n ≤ l.length) ∧ K (st.setO o (.cells t (splice l k xs)))
        | _ => False
      | .ep o sz i k => match lk st.ob o with
        | some (.row t sz' rows) => need (x.get st).cells fun xs => need (allD xs) fun ds => (sz' = sz ∧ i < rows.length ∧ ds.length = n ∧ k + n ≤ sz) ∧ K (st.setO o (.row t sz (rows.set i (spliceD (rows.getD i []) k ds))))
        | _ => False
      | _ => False)) ∧
  (∀ (T : FuncId → Contract) (K : St → Prop) (Kp : SV → Store → Prop) (d : Nat) (x : Rv) (st : St), xStep T (.nc d x) st K Kp = (match x.get st with
      | .ptr o k => K (st.put d (.ptr o k))
      | .cp cells => K (st.put d (.cp cells))
      | .d (.pt cells) => K (st.put d (.d (.pt cells)))
      | _ => False)) ∧
  (∀ (T : FuncId → Contract) (K : St → Prop) (Kp : SV → Store → Prop) (d : Nat) (off : Nat) (x : Rv) (st : St), xStep T (.fa d off x) st K Kp = (match x.get st with
      | .ptr o k => K (st.put d (.ptr o (k + off)))
      | .cp cells => K (st.put d (.cp (cells.drop off)))
      | .d (.pt cells) => K (st.put d (.cp (cells.drop off)))
      | .ep o sz i k => K (st.put d (.ep o sz i (k + off)))
      | _ => False)) ∧
  (∀ (T : FuncId → Contract) (K : St → Prop) (Kp : SV → Store → Prop) (d : Nat) (agg : Bool) (off n : Nat) (x : Rv) (st : St), xStep T (.fd d agg off n x) st K Kp = (match x.get st with
      | .agg l => if agg then off + n ≤ l.length ∧ K (st.put d (.agg ((l.drop off).take n))) else need l[off]? fun y => K (st.put d y)
      | _ => False)) ∧
  (∀ (T : FuncId → Contract) (K : St → Prop) (Kp : SV → Store → Prop) (d : Nat) (sz : Nat) (x i : Rv) (st : St), xStep T (.ia d sz x i) st K Kp = (match i.get st with
      | .d (.v (.int _ j)) => match x.get st with
        | .own o => match lk st.ob o with
          | some (.row _ sz' rows) => (sz' = sz ∧ 0 ≤ j ∧ j < rows.length) ∧ K (st.put d (.ep o sz j.toNat 0))
          | some (.fro rows) => 0 ≤ j ∧ need rows[j.toNat]? fun r => r.length = sz ∧ K (st.put d (.cp r))
          | _ => False
        | .d (.sl rows) => 0 ≤ j ∧ need rows[j.toNat]? fun r => r.length = sz ∧ K (st.put d (.cp r))
        | _ => False
      | _ => False)) ∧
  (∀ (T : FuncId → Contract) (K : St → Prop) (Kp : SV → Store → Prop) (d : Nat) (zero : List Value) (ps : List (Nat × Nat × Rv)) (st : St), xStep T (.bd d zero ps) st K Kp = (need (parts st (zero.map fun v => .d (.v v)) ps) fun l => K (st.put d (.agg l)))) ∧
  (∀ (T : FuncId → Contract) (K : St → Prop) (Kp : SV → Store → Prop) (d : Nat) (t : TypeId) (sz : Nat) (ps : List Rv) (st : St), xStep T (.bs d t sz ps) st K Kp = (need (rowParts st sz ps) fun (rows, st1) => K ((st1.newO (.row t sz rows)).put d (.own st1.n)))) ∧
  (∀ (T : FuncId → Contract) (K : St → Prop) (Kp : SV → Store → Prop) (d : Nat) (t : TypeId) (sz bytes : Nat) (x y : Rv) (st : St), xStep T (.ap d t sz bytes x y) st K Kp = (need (st.rows (y.get st)) fun ys => (∀ r ∈ ys, r.length = sz) ∧ match x.get st with
      | .own o => match lk st.ob o with
        | some (.row t' sz' rows) => (t' = t ∧ sz' = sz ∧ (rows.length + ys.length) * bytes ≤ 140737488355328) ∧ K (((st.setO o .dead).newO (.row t sz (rows ++ ys))).put d (.own st.n))
        | _ => False
      | .d (.v (.slice none 0 0)) => (ys.length * bytes ≤ 140737488355328) ∧ K ((st.newO (.row t sz ys)).put d (.own st.n))
      | _ => False)) ∧
  (∀ (T : FuncId → Contract) (K : St → Prop) (Kp : SV → Store → Prop) (d : Nat) (t : TypeId) (x y : Rv) (st : St), xStep T (.aps d t x y) st K Kp = (match y.get st with
      | .d (.v (.string s)) => match x.get st with
        | .own o => match lk st.ob o with
          | some (.row t' sz' rows) => (t' = t ∧ sz' = 1 ∧ rows.length + s.size ≤ 140737488355328) ∧ K (((st.setO o .dead).newO (.row t 1 (rows ++ byteRows s.data.toList))).put d (.own st.n))
          | _ => False
        | _ => False
      | _ => False)) ∧
  (∀ (T : FuncId → Contract) (K : St → Prop) (Kp : SV → Store → Prop) (d : Nat) (t : TypeId) (x : Rv) (st : St), xStep T (.mi d t x) st K Kp = (need (st.frz (x.get st)) fun y => K (y.2.put d (.d (.ifc t y.1))))) ∧
  (∀ (T : FuncId → Contract) (K : St → Prop) (Kp : SV → Store → Prop) (d : Nat) (f : FuncId) (caps : List Rv) (st : St), xStep T (.mf d f caps) st K Kp = (K (st.put d (.fn f (caps.map fun x => x.get st))))) ∧
  (∀ (T : FuncId → Contract) (K : St → Prop) (Kp : SV → Store → Prop) (x : Rv) (st : St), xStep T (.pn x) st K Kp = (match x.get st with
      | .d (.ifc t y) => Kp (.d (.ifc t y)) st.store
      | _ => False)) ∧
  (∀ (T : FuncId → Contract) (K : St → Prop) (Kp : SV → Store → Prop) (d : Option Nat) (f : FuncId) (lend : Bool) (args : List Rv) (st : St), xStep T (.call d f lend args) st K Kp = (callS (T f) d (osOf st.ob (args.map fun x => x.get st)) lend (args.map fun x => x.get st) st K Kp)) ∧
  (∀ (T : FuncId → Contract) (K : St → Prop) (Kp : SV → Store → Prop) (d : Option Nat) (lend : Bool) (x : Rv) (args : List Rv) (st : St), xStep T (.callv d lend x args) st K Kp = (match x.get st with
      | .fn f caps => callS (T f) d (osOf st.ob ((args.map fun x => x.get st) ++ caps)) lend ((args.map fun x => x.get st) ++ caps) st K Kp
      | _ => False)) ∧
  (∀ (T : FuncId → Contract) (K : St → Prop) (Kp : SV → Store → Prop) (d : Nat) (st : St), xStep T (.undef d) st K Kp = (K (st.put d .any))) := by
  rw [xStep_eq]
  exact ⟨fun _ _ _ d x st => rfl, fun _ _ _ d op x y st => rfl, fun _ _ _ d op x y st => rfl, fun _ _ _ d t sz st => rfl, fun _ _ _ d x st => rfl, fun _ _ _ d x st => rfl, fun _ _ _ d neg ifc x st => rfl, fun _ _ _ d neg ks x y st => rfl, fun _ _ _ d k x st => rfl, fun _ _ _ d x st => rfl, fun _ _ _ d x st => rfl, fun _ _ _ d c a b st => rfl, fun _ _ _ d x st => rfl, fun _ _ _ d x st => rfl, fun _ _ _ d x i st => rfl, fun _ _ _ d x i st => rfl, fun _ _ _ d x lo hi st => rfl, fun _ _ _ d sz x lo hi st => rfl, fun _ _ _ d sz x lo hi st => rfl, fun _ _ _ d mn x ys st => rfl, fun _ _ _ d x st => rfl, fun _ _ _ d x st => rfl, fun _ _ _ d t zero st => rfl, fun _ _ _ d t u st => rfl, fun _ _ _ d t n x st => rfl, fun _ _ _ d agg n a st => rfl, fun _ _ _ agg n a x st => rfl, fun _ _ _ d x st => rfl, fun _ _ _ d off x st => rfl, fun _ _ _ d agg off n x st => rfl, fun _ _ _ d sz x i st => rfl, fun _ _ _ d zero ps st => rfl, fun _ _ _ d t sz ps st => rfl, fun _ _ _ d t sz bytes x y st => rfl, fun _ _ _ d t x y st => rfl, fun _ _ _ d t x st => rfl, fun _ _ _ d f caps st => rfl, fun _ _ _ x st => rfl, fun _ _ _ d f lend args st => rfl, fun _ _ _ d lend x args st => rfl, fun _ _ _ d st => rfl⟩

/-- The rest of the evaluator. -/
theorem xEvs :
  (∀ (T : FuncId → Contract) (K : St → Prop) (Kp : SV → Store → Prop) st, xOps T [] st K Kp = K st) ∧
  (∀ (T : FuncId → Contract) (K : St → Prop) (Kp : SV → Store → Prop) d s b r st, xOps T (⟨none, d, s, b⟩ :: r) st K Kp = xStep T s st (fun st' => xBrk b (fun st2 => xOps T r st2 K Kp) st') Kp) ∧
  (∀ (T : FuncId → Contract) (K : St → Prop) (Kp : SV → Store → Prop) g d s b r st, xOps T (⟨some g, d, s, b⟩ :: r) st K Kp = need (gc st g) fun c => match fnl s with
    | true => impC c (oand (unC (slots s) st) (pvD (pv T s (st.unS (slots s))))) (xBrk b (fun st2 => xOps T r st2 K Kp) (st.putO d (.opt c (pvX (pv T s (st.unS (slots s)))))))
    | false => (c = true → andC (unC (slots s) st) (xStep T s (st.unS (slots s)) (fun st' => xBrk b (fun st2 => xOps T r st2 K Kp) st') Kp)) ∧ (c = false → xOps T r (st.putO d (.opt false .any)) K Kp)) ∧
  (∀ (T : FuncId → Contract) (K : St → Prop) (Kp : SV → Store → Prop) xo n0 st, xDr T xo n0 [] st K Kp = K st) ∧
  (∀ (T : FuncId → Contract) (K : St → Prop) (Kp : SV → Store → Prop) xo n0 i d s b r st, xDr T xo n0 ((i, true, ⟨none, d, s, b⟩) :: r) st K Kp = andC (tkC xo st s) (xStep T s st (fun st' => xBrk b (fun st2 => xDr T xo n0 r st2 K Kp) st') Kp)) ∧
  (∀ (T : FuncId → Contract) (K : St → Prop) (Kp : SV → Store → Prop) xo n0 i g d s b r st, xDr T xo n0 ((i, true, ⟨some g, d, s, b⟩) :: r) st K Kp = need (gc st g) fun c => match fnl s with
    | true => impC c (oand (unC (slots s) st) (oand (tkC xo (st.unS (slots s)) s) (pvD (pv T s (st.unS (slots s)))))) (xBrk b (fun st2 => xDr T xo n0 r st2 K Kp) (st.putO d (.opt c (pvX (pv T s (st.unS (slots s)))))))
    | false => (c = true → andC (oand (unC (slots s) st) (tkC xo (st.unS (slots s)) s)) (xStep T s (st.unS (slots s)) (fun st' => xBrk b (fun st2 => xDr T xo n0 r st2 K Kp) st') Kp)) ∧ (c = false → xDr T xo n0 r (st.putO d (.opt false .any)) K Kp)) ∧
  (∀ (T : FuncId → Contract) (K : St → Prop) (Kp : SV → Store → Prop) xo n0 i d s b r st, xDr T xo n0 ((i, false, ⟨none, d, s, b⟩) :: r) st K Kp = andC (moC xo n0 (mods s st)) (xStep T s st (fun st' => xBrk b (fun st2 => xDr T xo n0 r st2 K Kp) st') Kp)) ∧
  (∀ (T : FuncId → Contract) (K : St → Prop) (Kp : SV → Store → Prop) xo n0 i g d s b r st, xDr T xo n0 ((i, false, ⟨some g, d, s, b⟩) :: r) st K Kp = need (gc st g) fun c => match fnl s with
    | true => impC c (oand (unC (slots s) st) (oand (moC xo n0 (mods s (st.unS (slots s)))) (pvD (pv T s (st.unS (slots s)))))) (xBrk b (fun st2 => xDr T xo n0 r st2 K Kp) (st.putO d (.opt c (pvX (pv T s (st.unS (slots s)))))))
    | false => (c = true → andC (oand (unC (slots s) st) (moC xo n0 (mods s (st.unS (slots s))))) (xStep T s (st.unS (slots s)) (fun st' => xBrk b (fun st2 => xDr T xo n0 r st2 K Kp) st') Kp)) ∧ (c = false → xDr T xo n0 r (st.putO d (.opt false .any)) K Kp)) ∧
  (∀ (T : FuncId → Contract) (KE : Ex → St → Prop) (Kp : SV → Store → Prop) n0 st, xv T n0 .skip st KE Kp = KE .normal st) ∧
  (∀ (T : FuncId → Contract) (KE : Ex → St → Prop) (Kp : SV → Store → Prop) n0 l st, xv T n0 (.ops l) st KE Kp = xOps T l st (KE .normal) Kp) ∧
  (∀ (T : FuncId → Contract) (KE : Ex → St → Prop) (Kp : SV → Store → Prop) n0 xo l st, xv T n0 (.dr xo l) st KE Kp = xDr T xo st.n l st (KE .normal) Kp) ∧
  (∀ (T : FuncId → Contract) (KE : Ex → St → Prop) (Kp : SV → Store → Prop) n0 ks st, xv T n0 (.keep ks) st KE Kp = xStp (KE .normal) (st.keep ks)) ∧
  (∀ (T : FuncId → Contract) (KE : Ex → St → Prop) (Kp : SV → Store → Prop) n0 ks st, xv T n0 (.cut ks) st KE Kp = ∃ os, normOk n0 os st ∧ KE .normal (st.norm os ks)) ∧
  (∀ (T : FuncId → Contract) (KE : Ex → St → Prop) (Kp : SV → Store → Prop) n0 a b st, xv T n0 (.seq a b) st KE Kp = xv T n0 a st (thenK (fun st' => xv T n0 b st' KE Kp) KE) Kp) ∧
  (∀ (T : FuncId → Contract) (KE : Ex → St → Prop) (Kp : SV → Store → Prop) n0 c t e st, xv T n0 (.cond c t e) st KE Kp = match c.get st with
    | .d (.v (.bool b)) => (b = true → xv T n0 t st KE Kp) ∧ (b = false → xv T n0 e st KE Kp)
    | _ => False) ∧
  (∀ (T : FuncId → Contract) (KE : Ex → St → Prop) (Kp : SV → Store → Prop) n0 id b st, xv T n0 (.block id b) st KE Kp = xv T n0 b st (blockK id KE) Kp) ∧
  (∀ (T : FuncId → Contract) (KE : Ex → St → Prop) (Kp : SV → Store → Prop) n0 ks b st, xv T n0 (.loop ks b) st KE Kp = xLoop (xv T n0 b) n0 ks KE Kp st) ∧
  (∀ (T : FuncId → Contract) (KE : Ex → St → Prop) (Kp : SV → Store → Prop) n0 id st, xv T n0 (.exit id) st KE Kp = KE (.exit id) st) ∧
  (∀ (T : FuncId → Contract) (KE : Ex → St → Prop) (Kp : SV → Store → Prop) n0 st, xv T n0 .ret st KE Kp = KE .ret st) := by
  rw [xOps_eq, xDr_eq, xStep_eq, xBrk_is, xv_eq]
  refine ⟨fun _ _ _ _ => rfl, fun _ _ _ _ _ _ _ _ => rfl, fun _ _ _ _ _ _ _ _ _ => rfl, fun _ _ _ _ _ _ => rfl, fun _ _ _ _ _ _ _ _ _ _ _ => rfl, fun _ _ _ _ _ _ _ _ _ _ _ _ => rfl, fun _ _ _ _ _ _ _ _ _ _ _ => rfl, fun _ _ _ _ _ _ _ _ _ _ _ _ => rfl,
    fun _ _ _ _ _ => rfl, fun _ _ _ _ _ _ => ?_, fun _ _ _ _ _ _ _ => ?_, fun _ _ _ _ _ _ => ?_, fun _ _ _ _ _ _ => rfl, fun _ _ _ _ _ _ _ => rfl, fun _ _ _ _ _ _ _ _ => rfl, fun _ _ _ _ _ _ _ => rfl, fun _ _ _ _ _ _ _ => (xLoop_eq _ _ _ _ _ _).symm, fun _ _ _ _ _ _ => rfl, fun _ _ _ _ _ => rfl⟩
  · rfl
  · rfl
  · rw [xStp_eq]; exact stp_eq
theorem xBrks : (∀ (K : St → Prop) (st : St), xBrk false K st = K st) ∧ (∀ (K : St → Prop) (st : St), xBrk true K st = xStp K st) := ⟨fun _ _ => rfl, fun _ _ => rfl⟩
theorem lks : (∀ (β : Type) (k : Nat), lk ([] : List (Nat × β)) k = none) ∧ (∀ (β : Type) (k : Nat) (b : β) (r : List (Nat × β)) (j : Nat), lk ((k, b) :: r) j = if k = j then some b else lk r j) := ⟨fun _ _ => rfl, fun _ k b r j => lk_cons k b r j⟩
theorem pure_hX {T : FuncId → Contract} {n : Nat} {S : SCode} {R : List RR} {g : List SV → Option (Prop × SV)} (h : ∀ args p x K, g args = some (p, x) → p → K (.ret x) ⟨0, []⟩ → args.length ≤ n ∧ xv T 0 S (st0 args ⟨0, []⟩) (retK R 0 [] K) (panK 0 [] K)) :
    ∀ args st K, (pureC g).wp args st K → args.length ≤ n ∧ ∃ os op, xv T st.n S (st0 args st) (retK R st.n os K) (panK st.n op K) := by
  rw [xv_eq] at h ⊢; exact pure_hC h

end Go.Ev
