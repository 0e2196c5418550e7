/- The evaluator's operations, and what each does to a state. -/
import Derived.Test.YtpbkdcfjlbdgfaaDoorEvB
import Derived.Laws.Strings
import Derived.Laws.Entries
set_option linter.unusedVariables false
set_option linter.unusedSimpArgs false
namespace Go.Ev
open Go

/-- Operands. -/
inductive Rv where
  | s (t : Nat)
  | k (v : Value)
  | f (n : FuncId)

inductive Out where
  | ret (s : SV)
  | pan (s : SV)

/-- What a call does: of its arguments and the objects that they lead to. -/
structure Contract where
  wp : List SV → Store → (Out → Store → Prop) → Prop
  /-- Of a function of values alone: when it answers, and what. -/
  pf : List SV → Option (Prop × SV)

inductive SOp where
  | mv (d : Nat) (x : Rv)
  | bin (d : Nat) (op : BinOp) (x y : Rv)
  | binc (d : Nat) (op : BinOp) (x y : Rv)
  | nr (d : Nat) (t : TypeId) (sz : Nat)
  | not (d : Nat) (x : Rv)
  | neg (d : Nat) (x : Rv)
  | isnil (d : Nat) (neg ifc : Bool) (x : Rv)
  | eqa (d : Nat) (neg : Bool) (ks : List Nat) (x y : Rv)
  | cvi (d : Nat) (k : IntKind) (x : Rv)
  | i2s (d : Nat) (x : Rv)
  | b2s (d : Nat) (x : Rv)
  | pk (d : Nat) (c a b : Rv)
  | len (d : Nat) (x : Rv)
  | lens (d : Nat) (x : Rv)
  | ex (d : Nat) (x : Rv) (i : Nat)
  | ixs (d : Nat) (x i : Rv)
  | sls (d : Nat) (x : Rv) (lo hi : Option Rv)
  | slr (d : Nat) (sz : Nat) (x : Rv) (lo hi : Option Rv)
  | slp (d : Nat) (sz : Nat) (x : Rv) (lo hi : Option Rv)
  | mm (d : Nat) (mn : Bool) (x : Rv) (ys : List Rv)
  | rg (d : Nat) (x : Rv)
  | nx (d : Nat) (x : Rv)
  | al (d : Nat) (t : TypeId) (zero : List Value)
  | alb (d : Nat) (t u : TypeId)
  | bx (d : Nat) (t : TypeId) (n : Nat) (x : Rv)
  | ld (d : Nat) (agg : Bool) (n : Nat) (a : Rv)
  | st (agg : Bool) (n : Nat) (a x : Rv)
  | nc (d : Nat) (x : Rv)
  | fa (d : Nat) (off : Nat) (x : Rv)
  | fd (d : Nat) (agg : Bool) (off n : Nat) (x : Rv)
  | ia (d : Nat) (sz : Nat) (x i : Rv)
  | bd (d : Nat) (zero : List Value) (parts : List (Nat × Nat × Rv))
  | bs (d : Nat) (t : TypeId) (sz : Nat) (parts : List Rv)
  | ap (d : Nat) (t : TypeId) (sz bytes : Nat) (x y : Rv)
  | aps (d : Nat) (t : TypeId) (x y : Rv)
  | mi (d : Nat) (t : TypeId) (x : Rv)
  | mf (d : Nat) (f : FuncId) (caps : List Rv)
  | pn (x : Rv)
  | call (d : Option Nat) (f : FuncId) (lend : Bool) (args : List Rv)
  | callv (d : Option Nat) (lend : Bool) (x : Rv) (args : List Rv)
  | undef (d : Nat)

/-- A constant as a value of a slot. -/
def kSV : Value → SV
  | .agg a => .agg (a.toList.map fun x => .d (.v x))
  | v => .d (.v v)
def Rv.get (st : St) : Rv → SV
  | .s t => st.get t
  | .k v => kSV v
  | .f n => .fn n []

def need {α : Type} (o : Option α) (K : α → Prop) : Prop := match o with | some a => K a | none => False
@[simp] theorem need_some {α : Type} (a : α) (K : α → Prop) : need (some a) K = K a := rfl
@[simp] theorem need_none {α : Type} (K : α → Prop) : need none K = False := rfl

/-- Arithmetic, comparisons, concatenation. -/
def binV : BinOp → Value → Value → Option Value
  | .shl, .int k a, .int _ b => if 0 ≤ b then some (.int k (k.wrap (a * 2 ^ (min b.toNat k.bits)))) else none
  | .shr, .int k a, .int _ b => if 0 ≤ b then some (.int k (a.fdiv (2 ^ (min b.toNat k.bits)))) else none
  | .add, .int k a, .int k' b => if k = k' then some (.int k (k.wrap (a + b))) else none
  | .sub, .int k a, .int k' b => if k = k' then some (.int k (k.wrap (a - b))) else none
  | .mul, .int k a, .int k' b => if k = k' then some (.int k (k.wrap (a * b))) else none
  | .quo, .int k a, .int k' b => if k = k' ∧ b ≠ 0 then some (.int k (k.wrap (a.tdiv b))) else none
  | .rem, .int k a, .int k' b => if k = k' ∧ b ≠ 0 then some (.int k (a.tmod b)) else none
  | .and, .int k a, .int k' b => if k = k' then some (.int k (k.wrap ((BitVec.ofInt k.bits a &&& BitVec.ofInt k.bits b).toNat))) else none
  | .or, .int k a, .int k' b => if k = k' then some (.int k (k.wrap ((BitVec.ofInt k.bits a ||| BitVec.ofInt k.bits b).toNat))) else none
  | .xor, .int k a, .int k' b => if k = k' then some (.int k (k.wrap ((BitVec.ofInt k.bits a ^^^ BitVec.ofInt k.bits b).toNat))) else none
  | .eql, .int k a, .int k' b => if k = k' then some (.bool (decide (a = b))) else none
  | .neq, .int k a, .int k' b => if k = k' then some (.bool (!decide (a = b))) else none
  | .lss, .int k a, .int k' b => if k = k' then some (.bool (decide (a < b))) else none
  | .leq, .int k a, .int k' b => if k = k' then some (.bool (decide (a ≤ b))) else none
  | .gtr, .int k a, .int k' b => if k = k' then some (.bool (decide (b < a))) else none
  | .geq, .int k a, .int k' b => if k = k' then some (.bool (decide (b ≤ a))) else none
  | .add, .string a, .string b => if a.size + b.size ≤ 9223372036854775807 then some (.string (a ++ b)) else none
  | .eql, .string a, .string b => some (.bool (decide (a = b)))
  | .neq, .string a, .string b => some (.bool (!decide (a = b)))
  | _, _, _ => none

/-- Sums, differences and products, of whatever size. -/
def ariV : BinOp → Int → Int → Option Int
  | .add, a, b => some (a + b)
  | .sub, a, b => some (a - b)
  | .mul, a, b => some (a * b)
  | _, _, _ => none
theorem wrap_in (z : Int) (h : -9223372036854775808 ≤ z ∧ z ≤ 9223372036854775807) : IntKind.i64.wrap z = z := by
  simp only [IntKind.wrap, IntKind.bits, IntKind.signed]
  simp
  omega
theorem ariV_ok {op : BinOp} {a b z : Int} (h : ariV op a b = some z) (hz : -9223372036854775808 ≤ z ∧ z ≤ 9223372036854775807) : binV op (.int .i64 a) (.int .i64 b) = some (.int .i64 z) := by
  unfold ariV at h
  split at h <;> simp only [Option.some.injEq, reduceCtorEq] at h <;> subst h <;> simp only [binV, if_true, wrap_in _ hz]

theorem bytes_eq (a b : ByteArray) : (a.toList == b.toList) = decide (a = b) := by
  rw [Bool.eq_iff_iff]
  simp only [ByteArray.toList_eq, beq_iff_eq, decide_eq_true_eq]
  constructor
  · intro h
    have h2 : a.data = b.data := Array.toList_inj.1 h
    cases a; cases b; simp_all
  · rintro rfl; rfl

theorem binV_ok {op : BinOp} {a b v : Value} (h : binV op a b = some v) (P : Program) (w : World) (t : TypeId) (x y : Operand) :
    ((do eqGuard op t x y a b; binOp op t a b) : Sem Value).run P w = .ok v w := by
  have hint : ∀ k (p q : Int), eqGuard op t x y (.int k p) (.int k q) = pure () := fun k p q => by cases op <;> rfl
  have hstr : ∀ (p q : ByteArray), eqGuard op t x y (.string p) (.string q) = pure () := fun p q => by cases op <;> rfl
  unfold binV at h
  split at h
  case h_1 k p k' q =>
    split at h
    · rename_i hq
      simp only [Option.some.injEq] at h; subst h
      have : ¬ q < 0 := by omega
      simp [eqGuard, binOp, Op.shift, this]
    · cases h
  case h_2 k p k' q =>
    split at h
    · rename_i hq
      simp only [Option.some.injEq] at h; subst h
      have : ¬ q < 0 := by omega
      simp [eqGuard, binOp, Op.shift, this]
    · cases h
  case h_3 => obtain ⟨e, h3⟩ := Option.ite_none_right_eq_some.1 h; clear h; subst e; simp only [Option.some.injEq] at h3; subst h3; simp [hint, binOp, Op.intArith]
  case h_4 => obtain ⟨e, h3⟩ := Option.ite_none_right_eq_some.1 h; clear h; subst e; simp only [Option.some.injEq] at h3; subst h3; simp [hint, binOp, Op.intArith]
  case h_5 => obtain ⟨e, h3⟩ := Option.ite_none_right_eq_some.1 h; clear h; subst e; simp only [Option.some.injEq] at h3; subst h3; simp [hint, binOp, Op.intArith]
  case h_6 => obtain ⟨⟨e0, e⟩, h3⟩ := Option.ite_none_right_eq_some.1 h; clear h; subst e0; simp only [Option.some.injEq] at h3; subst h3; simp [hint, binOp, Op.intDiv, e]
  case h_7 => obtain ⟨⟨e0, e⟩, h3⟩ := Option.ite_none_right_eq_some.1 h; clear h; subst e0; simp only [Option.some.injEq] at h3; subst h3; simp [hint, binOp, Op.intDiv, e]
  case h_8 => obtain ⟨e, h3⟩ := Option.ite_none_right_eq_some.1 h; clear h; subst e; simp only [Option.some.injEq] at h3; subst h3; simp [hint, binOp, Op.intBits]
  case h_9 => obtain ⟨e, h3⟩ := Option.ite_none_right_eq_some.1 h; clear h; subst e; simp only [Option.some.injEq] at h3; subst h3; simp [hint, binOp, Op.intBits]
  case h_10 => obtain ⟨e, h3⟩ := Option.ite_none_right_eq_some.1 h; clear h; subst e; simp only [Option.some.injEq] at h3; subst h3; simp [hint, binOp, Op.intBits]
  case h_11 => obtain ⟨e, h3⟩ := Option.ite_none_right_eq_some.1 h; clear h; subst e; simp only [Option.some.injEq] at h3; subst h3; simp [hint, binOp, Op.intCmp]; rfl
  case h_12 => obtain ⟨e, h3⟩ := Option.ite_none_right_eq_some.1 h; clear h; subst e; simp only [Option.some.injEq] at h3; subst h3; simp [hint, binOp, Op.intCmp]; rfl
  case h_13 => obtain ⟨e, h3⟩ := Option.ite_none_right_eq_some.1 h; clear h; subst e; simp only [Option.some.injEq] at h3; subst h3; simp [hint, binOp, Op.intCmp]
  case h_14 => obtain ⟨e, h3⟩ := Option.ite_none_right_eq_some.1 h; clear h; subst e; simp only [Option.some.injEq] at h3; subst h3; simp [hint, binOp, Op.intCmp]
  case h_15 => obtain ⟨e, h3⟩ := Option.ite_none_right_eq_some.1 h; clear h; subst e; simp only [Option.some.injEq] at h3; subst h3; simp [hint, binOp, Op.intCmp]
  case h_16 => obtain ⟨e, h3⟩ := Option.ite_none_right_eq_some.1 h; clear h; subst e; simp only [Option.some.injEq] at h3; subst h3; simp [hint, binOp, Op.intCmp]
  case h_17 p q =>
    obtain ⟨e, h⟩ := Option.ite_none_right_eq_some.1 h
    simp only [Option.some.injEq] at h; subst h
    have h2 : binOp .add t (.string p) (.string q) = Op.stringOp .add p q := by simp [binOp]
    have h1 : ¬ ((p.size + q.size : Nat) : Int) > IntKind.i64.max := by have : IntKind.i64.max = 9223372036854775807 := by decide
                                                                        omega
    simp only [Sem.run_bind, hstr, Sem.run_pure, Result.andThen_ok, h2]
    unfold Op.stringOp
    simp only [h1, if_false]
    rfl
  case h_18 p q =>
    simp only [Option.some.injEq] at h; subst h
    simp [hstr, binOp, Op.stringOp, bytes_eq]
  case h_19 p q =>
    simp only [Option.some.injEq] at h; subst h
    simp [hstr, binOp, Op.stringOp, bytes_eq]
  case h_20 => cases h

/-- A row of objects or of data, whose elements can be read. -/
def St.rows (st : St) : SV → Option (List (List D))
  | .own o => match lk st.ob o with
    | some (.row _ _ rows) => some rows
    | some (.fro rows) => some rows
    | _ => none
  | .d (.sl rows) => some rows
  | .d (.v (.slice none 0 0)) => some []
  | _ => none

/-- A row that is written no more. -/
def St.rowsF (st : St) : SV → Option (List (List D))
  | .own o => match lk st.ob o with
    | some (.fro rows) => some rows
    | _ => none
  | .d (.sl rows) => some rows
  | .d (.v (.slice none 0 0)) => some []
  | _ => none

def St.setO (st : St) (o : Nat) (x : Ob) : St := { st with ob := (o, x) :: st.ob }
def St.newO (st : St) (x : Ob) : St := { st with n := st.n + 1, ob := (st.n, x) :: st.ob }

/-- Are all of these data? -/
def allD : List SV → Option (List D)
  | [] => some []
  | .d x :: r => (allD r).map (x :: ·)
  | _ :: _ => none

/-- A slot's value as data for good: an own row, or a variable, is written no more. -/
def St.frz (st : St) : SV → Option (D × St)
  | .d x => some (x, st)
  | .own o => match lk st.ob o with
    | some (.row _ _ rows) => some (.sl rows, st.setO o (.fro rows))
    | some (.fro rows) => some (.sl rows, st)
    | _ => none
  | .ptr o 0 => match lk st.ob o with
    | some (.cells _ l) => (allD l).map fun ds => (.pt ds, st.setO o .dead)
    | _ => none
  | _ => none
def St.frzL (st : St) : List SV → Option (List D × St)
  | [] => some ([], st)
  | x :: r => (st.frz x).bind fun (y, st1) => (st1.frzL r).map fun (ys, st2) => (y :: ys, st2)

/-- A value's cells. -/
def SV.cells : SV → Option (List SV)
  | .agg l => some l
  | .any | .tup _ | .opt _ _ => none
  | x => some [x]

/-- Bytes. -/
def byteOf : List D → Option UInt8
  | [.v (.int .u8 n)] => some (UInt8.ofNat n.toNat)
  | _ => none
def bytesOf : List (List D) → Option (List UInt8)
  | [] => some []
  | r :: rs => match byteOf r, bytesOf rs with
    | some b, some bs => some (b :: bs)
    | _, _ => none
def byteRows (l : List UInt8) : List (List D) := l.map fun b => [.v (.int .u8 b.toNat)]
def str (l : List UInt8) : Value := .string ⟨l.toArray⟩
def bt (s : ByteArray) (i : Int) : Int := ((s.data.toList.getD i.toNat 0).toNat : Int)

/-- A part laid over cells. -/
def splice (l : List SV) (off : Nat) (xs : List SV) : List SV := l.take off ++ xs ++ l.drop (off + xs.length)
def spliceD (l : List D) (off : Nat) (xs : List D) : List D := l.take off ++ xs ++ l.drop (off + xs.length)
def parts (st : St) : List SV → List (Nat × Nat × Rv) → Option (List SV)
  | l, [] => some l
  | l, (off, n, x) :: r => match (x.get st).cells with
    | some xs => if xs.length = n ∧ off + n ≤ l.length then parts st (splice l off xs) r else none
    | none => none
def rowParts (st : St) (sz : Nat) : List Rv → Option (List (List D) × St)
  | [] => some ([], st)
  | x :: r => match (x.get st).cells with
    | some xs => if xs.length = sz then (st.frzL xs).bind fun (ds, st1) => (rowParts st1 sz r).map fun (rs, st2) => (ds :: rs, st2) else none
    | none => none

/-- Numbers of objects, renamed. -/
def SV.ren (f : Nat → Option Nat) : SV → SV
  | .own o => match f o with | some i => .own i | none => .any
  | .ptr o k => match f o with | some i => .ptr i k | none => .any
  | .ep o sz i k => match f o with | some j => .ep j sz i k | none => .any
  | .agg l => .agg (l.map fun x => SV.ren f x)
  | .tup l => .tup (l.map fun x => SV.ren f x)
  | .fn g caps => .fn g (caps.map fun x => SV.ren f x)
  | .opt b x => .opt b (x.ren f)
  | .any => .any
  | .d x => .d x
  | .cp cells => .cp cells
def Ob.ren (f : Nat → Option Nat) : Ob → Ob
  | .cells t l => .cells t (l.map fun x => x.ren f)
  | x => x

def optInt (st : St) (dflt : Int) : Option Rv → Option Int
  | none => some dflt
  | some x => match x.get st with
    | .d (.v (.int _ i)) => some i
    | _ => none

/-- Is a pointer, or a value of an interface, nil? -/
def nilV : Bool → SV → Option Bool
  | false, .ptr _ _ => some false
  | false, .d (.pt _) => some false
  | false, .cp _ => some false
  | false, .d (.v (.pointer none)) => some true
  | true, .d (.ifc _ _) => some false
  | true, .d (.v .nilIface) => some true
  | _, _ => none
/-- Equality of structs of plain fields (0 an int, 1 a text, 2 a bool). -/
def eqv : Nat → SV → SV → Option Bool
  | 0, .d (.v (.int k a)), .d (.v (.int k' b)) => if k = k' then some (decide (a = b)) else none
  | 1, .d (.v (.string a)), .d (.v (.string b)) => some (decide (a = b))
  | 2, .d (.v (.bool a)), .d (.v (.bool b)) => some (a == b)
  | _, _, _ => none
def eqL : List Nat → List SV → List SV → Option Bool
  | [], _, _ => some true
  | k :: ks, x :: xs, y :: ys => (eqv k x y).bind fun p => (eqL ks xs ys).map fun q => p && q
  | _, _, _ => none
def eqA (ks : List Nat) : SV → SV → Option Bool
  | .agg l, .agg l' => eqL ks l l'
  | _, _ => none

/-- Ints of one kind. -/
def intsOf (st : St) (k : IntKind) : List Rv → Option (List Int)
  | [] => some []
  | x :: r => match x.get st with
    | .d (.v (.int k' i)) => if k' = k then (intsOf st k r).map (i :: ·) else none
    | _ => none
def mmOf (mn : Bool) (x y : Int) : Int := cond mn (if y < x then y else x) (if y > x then y else x)

/-- An argument that is lent: a row that is owned is data to the callee, for the time of the call. -/
def St.lend1 (st : St) : SV → SV
  | .own o => match lk st.ob o with
    | some (.row _ _ rows) => .d (.sl rows)
    | some (.fro rows) => .d (.sl rows)
    | _ => .any
  | .d (.v (.slice none 0 0)) => .d (.sl [])
  | .d x => .d x
  | .cp l => .cp l
  | _ => .any
def St.lend (st : St) : SV → SV
  | .agg l => .agg (l.map st.lend1)
  | x => st.lend1 x
/-- An argument that is given away: a row that is owned, and is not handed over, is written no more. -/
def St.give1 (st : St) (os : List Nat) : SV → SV × St
  | .own o => if o ∈ os then (.own o, st) else match st.frz (.own o) with
    | some (y, st1) => (.d y, st1)
    | none => (.any, st)
  | .d (.v (.slice none 0 0)) => (.d (.sl []), st)
  | x => (x, st)
def St.giveC (st : St) (os : List Nat) : List SV → List SV × St
  | [] => ([], st)
  | x :: r => ((st.give1 os x).1 :: ((st.give1 os x).2.giveC os r).1, ((st.give1 os x).2.giveC os r).2)
def St.give (st : St) (os : List Nat) : SV → SV × St
  | .agg l => (.agg (st.giveC os l).1, (st.giveC os l).2)
  | x => st.give1 os x
def St.giveL (st : St) (os : List Nat) : List SV → List SV × St
  | [] => ([], st)
  | x :: r => ((st.give os x).1 :: ((st.give os x).2.giveL os r).1, ((st.give os x).2.giveL os r).2)

/-- The callee's store: the objects that are handed over, by their places in 'os'. -/
def subO (ob : List (Nat × Ob)) (f : Nat → Option Nat) : List Nat → Nat → List (Nat × Ob)
  | [], _ => []
  | o :: r, i => match lk ob o with
    | some x => (i, x.ren f) :: subO ob f r (i + 1)
    | none => subO ob f r (i + 1)
def St.sub (st : St) (os : List Nat) : Store := ⟨os.length, subO st.ob (fun o => os.idxOf? o) os 0⟩
/-- The caller's numbers for the callee's. -/
def back (n : Nat) (os : List Nat) (i : Nat) : Nat := if i < os.length then os.getD i 0 else n + (i - os.length)
def St.merge (st : St) (os : List Nat) (s : Store) : St :=
  { st with n := st.n + (s.n - os.length), ob := (s.ob.map fun x => (back st.n os x.1, x.2.ren fun j => some (back st.n os j))) ++ ((os.map fun o => (o, Ob.dead)) ++ st.ob) }

/-- The objects that an argument hands over. -/
def idsC (ob : List (Nat × Ob)) : Nat → SV → List Nat
  | _, .own o => [o]
  | 0, _ => []
  | f + 1, .ptr o _ => o :: (match lk ob o with
    | some (.cells _ l) => l.flatMap (idsC ob f)
    | _ => [])
  | _, _ => []
def idsA (ob : List (Nat × Ob)) : SV → List Nat
  | .ptr o k => idsC ob 3 (.ptr o k)
  | .ep o _ _ _ => [o]
  | .fn _ caps => caps.flatMap (idsC ob 3)
  | _ => []
def dd : List Nat → List Nat
  | [] => []
  | x :: r => x :: (dd r).filter fun y => decide (y ≠ x)
def osOf (ob : List (Nat × Ob)) (args : List SV) : List Nat := dd (args.flatMap (idsA ob))

/-- A value that leads to no memory. -/
def scal1 : SV → Bool
  | .d (.v _) => true
  | _ => false
def scal : SV → Bool
  | .tup l => l.all scal1
  | x => scal1 x

/-- What stands in a slot only under a condition. -/
def okU : SV → Prop
  | .opt b _ => b = true
  | _ => True
def SV.un : SV → SV
  | .opt _ x => x
  | x => x
def selS (t : Bool) (x y : SV) : SV := if t then x else y

def callS (C : Contract) (d : Option Nat) (os : List Nat) (lend : Bool) (args : List SV) (st : St) (K : St → Prop) (Kp : SV → Store → Prop) : Prop :=
  if lend then C.wp (args.map st.lend) ⟨0, []⟩ fun out s => match out with
      | .ret x => scal x = true ∧ s.ob = [] ∧ K (st.putO d x)
      | .pan _ => False
  else
    os.Nodup ∧ (∀ o ∈ os, (lk (st.giveL os args).2.ob o).isSome = true) ∧
    C.wp ((st.giveL os args).1.map (SV.ren fun o => os.idxOf? o)) ((st.giveL os args).2.sub os) fun out s => match out with
      | .ret x => K (((st.giveL os args).2.merge os s).putO d (x.ren fun j => some (back (st.giveL os args).2.n os j)))
      | .pan x => Kp (x.ren fun j => some (back (st.giveL os args).2.n os j)) ((st.giveL os args).2.merge os s).store

def step (T : FuncId → Contract) (op : SOp) (st : St) (K : St → Prop) (Kp : SV → Store → Prop) : Prop :=
  match op with
  | .mv d x => K (st.put d (x.get st))
  | .bin d op x y => match x.get st, y.get st with
    | .d (.v a), .d (.v b) => need (binV op a b) fun v => K (st.put d (.d (.v v)))
    | _, _ => False
  | .binc d op x y => match x.get st, y.get st with
    | .d (.v (.int .i64 a)), .d (.v (.int .i64 b)) => need (ariV op a b) fun z => (-9223372036854775808 ≤ z ∧ z ≤ 9223372036854775807) ∧ K (st.put d (.d (.v (.int .i64 z))))
    | _, _ => False
  | .nr d t sz => K ((st.newO (.row t sz [])).put d (.own st.n))
  | .not d x => match x.get st with
    | .d (.v (.bool b)) => K (st.put d (.d (.v (.bool !b))))
    | _ => False
  | .neg d x => match x.get st with
    | .d (.v (.int k n)) => K (st.put d (.d (.v (.int k (k.wrap (0 - n))))))
    | _ => False
  | .isnil d neg ifc x => need (nilV ifc (x.get st)) fun b => K (st.put d (.d (.v (.bool (cond neg (!b) b)))))
  | .eqa d neg ks x y => need (eqA ks (x.get st) (y.get st)) fun b => K (st.put d (.d (.v (.bool (cond neg (!b) b)))))
  | .cvi d k x => match x.get st with
    | .d (.v (.int _ n)) => K (st.put d (.d (.v (.int k (k.wrap n)))))
    | _ => False
  | .i2s d x => match x.get st with
    | .d (.v (.int _ n)) => K (st.put d (.d (.v (.string (Utf8.encode n)))))
    | _ => False
  | .b2s d x => need (st.rows (x.get st)) fun rows => need (bytesOf rows) fun l => K (st.put d (.d (.v (str l))))
  | .pk d c a b => match c.get st with
    | .d (.v (.bool t)) => ((t = true → okU (a.get st)) ∧ (t = false → okU (b.get st))) ∧ K (st.put d (selS t (a.get st).un (b.get st).un))
    | _ => False
  | .len d x => need (st.rows (x.get st)) fun rows => K (st.put d (.d (.v (.int .i64 rows.length))))
  | .lens d x => match x.get st with
    | .d (.v (.string s)) => K (st.put d (.d (.v (.int .i64 s.size))))
    | _ => False
  | .ex d x i => match x.get st with
    | .tup l => need l[i]? fun y => K (st.put d y)
    | _ => False
  | .ixs d x i => match x.get st, i.get st with
    | .d (.v (.string s)), .d (.v (.int _ j)) => (0 ≤ j ∧ j < s.size) ∧ K (st.put d (.d (.v (.int .u8 (bt s j)))))
    | _, _ => False
  | .sls d x lo hi => match x.get st with
    | .d (.v (.string s)) => need (optInt st 0 lo) fun l => need (optInt st s.size hi) fun h =>
      (0 ≤ l ∧ l ≤ h ∧ h ≤ s.size) ∧ K (st.put d (.d (.v (.string (s.extract l.toNat h.toNat)))))
    | _ => False
  | .slr d sz x lo hi => need (st.frz (x.get st)) fun y => match y.1 with
    | .sl rows => need (optInt st 0 lo) fun l => need (optInt st rows.length hi) fun h =>
      (0 ≤ l ∧ l ≤ h ∧ h ≤ rows.length) ∧ (∀ r ∈ rows, r.length = sz) ∧ K (y.2.put d (.d (.sl ((rows.take h.toNat).drop l.toNat))))
    | _ => False
  | .slp d sz x lo hi => need (st.rowsF (x.get st)) fun rows => need (optInt st 0 lo) fun l => need (optInt st rows.length hi) fun h =>
      (0 ≤ l ∧ l ≤ h ∧ h ≤ rows.length) ∧ (∀ r ∈ rows, r.length = sz) ∧ K (st.put d (.d (.sl ((rows.take h.toNat).drop l.toNat))))
  | .mm d mn x ys => match x.get st with
    | .d (.v (.int k i)) => need (intsOf st k ys) fun l => K (st.put d (.d (.v (.int k (l.foldl (mmOf mn) i)))))
    | _ => False
  | .rg d x => match x.get st with
    | .d (.v (.string s)) => K ((st.newO (.iter s 0)).put d (.own st.n))
    | _ => False
  | .nx d x => match x.get st with
    | .own o => match lk st.ob o with
      | some (.iter s p) => (p < s.size → K ((st.setO o (.iter s (p + (Utf8.decode s p).2))).put d (.tup [.d (.v (.bool true)), .d (.v (.int .i64 p)), .d (.v (.int .i32 (Utf8.decode s p).1))]))) ∧ (¬ p < s.size → K (st.put d (.tup [.d (.v (.bool false))])))
      | _ => False
    | _ => False
  | .al d t zero => K ((st.newO (.cells t (zero.map fun v => .d (.v v)))).put d (.ptr st.n 0))
  | .alb d t u => K ((st.newO (.bld t u [])).put d (.ptr st.n 0))
  | .bx d t n x => need (x.get st).cells fun l => l.length = n ∧ K ((st.newO (.cells t l)).put d (.ptr st.n 0))
  | .ld d agg n a => match a.get st with
    | .ptr o k => match lk st.ob o with
      | some (.cells _ l) => if agg then k + n ≤ l.length ∧ K (st.put d (.agg ((l.drop k).take n))) else need l[k]? fun y => K (st.put d y)
      | _ => False
    | .cp cells => if agg then n ≤ cells.length ∧ K (st.put d (.agg ((cells.take n).map .d))) else need cells[0]? fun y => K (st.put d (.d y))
    | .d (.pt cells) => if agg then n ≤ cells.length ∧ K (st.put d (.agg ((cells.take n).map .d))) else need cells[0]? fun y => K (st.put d (.d y))
    | .ep o sz i k => match lk st.ob o with
      | some (.row _ sz' rows) => sz' = sz ∧ need rows[i]? fun r => if agg then k + n ≤ r.length ∧ K (st.put d (.agg (((r.drop k).take n).map .d))) else need r[k]? fun y => K (st.put d (.d y))
      | _ => False
    | _ => False
  | .st agg n a x => match a.get st with
    | .ptr o k => match lk st.ob o with
      | some (.cells t l) => need (x.get st).cells fun xs => (xs.length = n ∧ k + n ≤ l.length) ∧ K (st.setO o (.cells t (splice l k xs)))
      | _ => False
    | .ep o sz i k => match lk st.ob o with
      | some (.row t sz' rows) => need (x.get st).cells fun xs => need (allD xs) fun ds => (sz' = sz ∧ i < rows.length ∧ ds.length = n ∧ k + n ≤ sz) ∧ K (st.setO o (.row t sz (rows.set i (spliceD (rows.getD i []) k ds))))
      | _ => False
    | _ => False
  | .nc d x => match x.get st with
    | .ptr o k => K (st.put d (.ptr o k))
    | .cp cells => K (st.put d (.cp cells))
    | .d (.pt cells) => K (st.put d (.d (.pt cells)))
    | _ => False
  | .fa d off x => match x.get st with
    | .ptr o k => K (st.put d (.ptr o (k + off)))
    | .cp cells => K (st.put d (.cp (cells.drop off)))
    | .d (.pt cells) => K (st.put d (.cp (cells.drop off)))
    | .ep o sz i k => K (st.put d (.ep o sz i (k + off)))
    | _ => False
  | .fd d agg off n x => match x.get st with
    | .agg l => if agg then off + n ≤ l.length ∧ K (st.put d (.agg ((l.drop off).take n))) else need l[off]? fun y => K (st.put d y)
    | _ => False
  | .ia d sz x i => match i.get st with
    | .d (.v (.int _ j)) => match x.get st with
      | .own o => match lk st.ob o with
        | some (.row _ sz' rows) => (sz' = sz ∧ 0 ≤ j ∧ j < rows.length) ∧ K (st.put d (.ep o sz j.toNat 0))
        | some (.fro rows) => 0 ≤ j ∧ need rows[j.toNat]? fun r => r.length = sz ∧ K (st.put d (.cp r))
        | _ => False
      | .d (.sl rows) => 0 ≤ j ∧ need rows[j.toNat]? fun r => r.length = sz ∧ K (st.put d (.cp r))
      | _ => False
    | _ => False
  | .bd d zero ps => need (parts st (zero.map fun v => .d (.v v)) ps) fun l => K (st.put d (.agg l))
  | .bs d t sz ps => need (rowParts st sz ps) fun (rows, st1) => K ((st1.newO (.row t sz rows)).put d (.own st1.n))
  | .ap d t sz bytes x y => need (st.rows (y.get st)) fun ys => (∀ r ∈ ys, r.length = sz) ∧ match x.get st with
    | .own o => match lk st.ob o with
      | some (.row t' sz' rows) => (t' = t ∧ sz' = sz ∧ (rows.length + ys.length) * bytes ≤ 140737488355328) ∧ K (((st.setO o .dead).newO (.row t sz (rows ++ ys))).put d (.own st.n))
      | _ => False
    | .d (.v (.slice none 0 0)) => (ys.length * bytes ≤ 140737488355328) ∧ K ((st.newO (.row t sz ys)).put d (.own st.n))
    | _ => False
  | .aps d t x y => match y.get st with
    | .d (.v (.string s)) => match x.get st with
      | .own o => match lk st.ob o with
        | some (.row t' sz' rows) => (t' = t ∧ sz' = 1 ∧ rows.length + s.size ≤ 140737488355328) ∧ K (((st.setO o .dead).newO (.row t 1 (rows ++ byteRows s.data.toList))).put d (.own st.n))
        | _ => False
      | _ => False
    | _ => False
  | .mi d t x => need (st.frz (x.get st)) fun y => K (y.2.put d (.d (.ifc t y.1)))
  | .mf d f caps => K (st.put d (.fn f (caps.map fun x => x.get st)))
  | .pn x => match x.get st with
    | .d (.ifc t y) => Kp (.d (.ifc t y)) st.store
    | _ => False
  | .call d f lend args => callS (T f) d (osOf st.ob (args.map fun x => x.get st)) lend (args.map fun x => x.get st) st K Kp
  | .callv d lend x args => match x.get st with
    | .fn f caps => callS (T f) d (osOf st.ob ((args.map fun x => x.get st) ++ caps)) lend ((args.map fun x => x.get st) ++ caps) st K Kp
    | _ => False
  | .undef d => K (st.put d .any)

/-! ## What an operation yields under a condition -/

def St.un1 (st : St) (k : Nat) : St := match st.get k with
  | .opt _ x => st.put k x
  | _ => st
def St.unS : List Nat → St → St
  | [], st => st
  | k :: r, st => St.unS r (st.un1 k)
def unOk : List Nat → St → Prop
  | [], _ => True
  | k :: r, st => okU (st.get k) ∧ unOk r (st.un1 k)
def Rv.sl : Rv → List Nat
  | .s t => [t]
  | _ => []
/-- The slots that an operation looks at. -/
def slotsL : List Rv → List Nat
  | [] => []
  | .s t :: r => t :: slotsL r
  | .k _ :: r => slotsL r
  | .f _ :: r => slotsL r
def optL : Option Rv → List Rv → List Rv
  | none, l => l
  | some x, l => x :: l
def slots : SOp → List Nat
  | .mv _ x | .not _ x | .neg _ x | .cvi _ _ x | .i2s _ x | .b2s _ x | .len _ x | .lens _ x | .ex _ x _ | .bx _ _ _ x | .ld _ _ _ x | .nc _ x | .fa _ _ x | .fd _ _ _ _ x | .mi _ _ x | .pn x | .pk _ x _ _ | .isnil _ _ _ x | .rg _ x | .nx _ x => x.sl
  | .bin _ _ x y | .binc _ _ x y | .ixs _ x y | .st _ _ x y | .ia _ _ x y | .ap _ _ _ _ x y | .aps _ _ x y | .eqa _ _ _ x y => slotsL [x, y]
  | .sls _ x lo hi | .slr _ _ x lo hi | .slp _ _ x lo hi => slotsL (x :: optL lo (optL hi []))
  | .mm _ _ x ys => slotsL (x :: ys)
  | .bd _ _ ps => slotsL (ps.map fun p => p.2.2)
  | .bs _ _ _ ps => slotsL ps
  | .mf _ _ caps => slotsL caps
  | .call _ _ _ args => slotsL args
  | .callv _ _ x args => slotsL (x :: args)
  | _ => []

/-- binV, with its conditions apart. -/
def binP : BinOp → Value → Value → Option (Option Prop × Value)
  | .shl, .int k a, .int _ b => some (some (0 ≤ b), .int k (k.wrap (a * 2 ^ (min b.toNat k.bits))))
  | .shr, .int k a, .int _ b => some (some (0 ≤ b), .int k (a.fdiv (2 ^ (min b.toNat k.bits))))
  | .quo, .int k a, .int k' b => some (some (k = k' ∧ b ≠ 0), .int k (k.wrap (a.tdiv b)))
  | .rem, .int k a, .int k' b => some (some (k = k' ∧ b ≠ 0), .int k (a.tmod b))
  | .add, .string a, .string b => some (some (a.size + b.size ≤ 9223372036854775807), .string (a ++ b))
  | op, a, b => (binV op a b).map fun v => (none, v)
theorem binP_ok {op : BinOp} {a b v : Value} {c : Option Prop} (h : binP op a b = some (c, v)) (hc : c.getD True) : binV op a b = some v := by
  unfold binP at h
  split at h
  · simp only [Option.some.injEq, Prod.mk.injEq] at h; obtain ⟨rfl, rfl⟩ := h; simp only [Option.getD_some] at hc; simp only [binV, hc, if_true]
  · simp only [Option.some.injEq, Prod.mk.injEq] at h; obtain ⟨rfl, rfl⟩ := h; simp only [Option.getD_some] at hc; simp only [binV, hc, if_true]
  · simp only [Option.some.injEq, Prod.mk.injEq] at h; obtain ⟨rfl, rfl⟩ := h; simp only [Option.getD_some] at hc; simp [binV, hc.1, hc.2]
  · simp only [Option.some.injEq, Prod.mk.injEq] at h; obtain ⟨rfl, rfl⟩ := h; simp only [Option.getD_some] at hc; simp [binV, hc.1, hc.2]
  · simp only [Option.some.injEq, Prod.mk.injEq] at h; obtain ⟨rfl, rfl⟩ := h; simp only [Option.getD_some] at hc; simp only [binV, hc, if_true]
  · obtain ⟨u, h1, h2⟩ := Option.map_eq_some_iff.1 h
    simp only [Prod.mk.injEq] at h2
    rw [h1, h2.2]

/-- What a choice asks of its arms. -/
def pkC (t : Bool) (a b : SV) : Option Prop := match a, b with
  | .opt p _, .opt q _ => some ((t = true → p = true) ∧ (t = false → q = true))
  | .opt p _, _ => some (t = true → p = true)
  | _, .opt q _ => some (t = false → q = true)
  | _, _ => none
theorem pkC_ok {t : Bool} {a b : SV} (h : (pkC t a b).getD True) : (t = true → okU a) ∧ (t = false → okU b) := by
  cases a <;> cases b <;> first | exact h | exact ⟨h, fun _ => trivial⟩ | exact ⟨fun _ => trivial, h⟩ | exact ⟨fun _ => trivial, fun _ => trivial⟩
/-- The value that an operation yields, and when. -/
def pv (T : FuncId → Contract) (op : SOp) (st : St) : Option (Option Prop × SV) :=
  match op with
  | .mv _ x => some (none, x.get st)
  | .bin _ op x y => match x.get st, y.get st with
    | .d (.v a), .d (.v b) => (binP op a b).map fun p => (p.1, .d (.v p.2))
    | _, _ => none
  | .binc _ op x y => match x.get st, y.get st with
    | .d (.v (.int .i64 a)), .d (.v (.int .i64 b)) => (ariV op a b).map fun z => (some (-9223372036854775808 ≤ z ∧ z ≤ 9223372036854775807), .d (.v (.int .i64 z)))
    | _, _ => none
  | .not _ x => match x.get st with
    | .d (.v (.bool b)) => some (none, .d (.v (.bool !b)))
    | _ => none
  | .neg _ x => match x.get st with
    | .d (.v (.int k n)) => some (none, .d (.v (.int k (k.wrap (0 - n)))))
    | _ => none
  | .cvi _ k x => match x.get st with
    | .d (.v (.int _ n)) => some (none, .d (.v (.int k (k.wrap n))))
    | _ => none
  | .i2s _ x => match x.get st with
    | .d (.v (.int _ n)) => some (none, .d (.v (.string (Utf8.encode n))))
    | _ => none
  | .pk _ c a b => match c.get st with
    | .d (.v (.bool t)) => some (pkC t (a.get st) (b.get st), selS t (a.get st).un (b.get st).un)
    | _ => none
  | .len _ x => (st.rows (x.get st)).map fun rows => (none, .d (.v (.int .i64 rows.length)))
  | .lens _ x => match x.get st with
    | .d (.v (.string s)) => some (none, .d (.v (.int .i64 s.size)))
    | _ => none
  | .ex _ x i => match x.get st with
    | .tup l => l[i]?.map fun y => (none, y)
    | _ => none
  | .ixs _ x i => match x.get st, i.get st with
    | .d (.v (.string s)), .d (.v (.int _ j)) => some (some (0 ≤ j ∧ j < s.size), .d (.v (.int .u8 (bt s j))))
    | _, _ => none
  | .sls _ x lo hi => match x.get st with
    | .d (.v (.string s)) => (optInt st 0 lo).bind fun l => (optInt st s.size hi).map fun h =>
      (some (0 ≤ l ∧ l ≤ h ∧ h ≤ s.size), .d (.v (.string (s.extract l.toNat h.toNat))))
    | _ => none
  | .ld _ agg n a => match a.get st with
    | .ptr o k => match lk st.ob o with
      | some (.cells _ l) => if agg then some (some (k + n ≤ l.length), .agg ((l.drop k).take n)) else l[k]?.map fun y => (none, y)
      | _ => none
    | .cp cells => if agg then some (some (n ≤ cells.length), .agg ((cells.take n).map .d)) else cells[0]?.map fun y => (none, .d y)
    | .d (.pt cells) => if agg then some (some (n ≤ cells.length), .agg ((cells.take n).map .d)) else cells[0]?.map fun y => (none, .d y)
    | .ep o sz i k => match lk st.ob o with
      | some (.row _ sz' rows) => rows[i]?.bind fun r => if agg then some (some (sz' = sz ∧ k + n ≤ r.length), .agg (((r.drop k).take n).map .d)) else r[k]?.map fun y => (some (sz' = sz), .d y)
      | _ => none
    | _ => none
  | .nc _ x => match x.get st with
    | .ptr o k => some (none, .ptr o k)
    | .cp cells => some (none, .cp cells)
    | .d (.pt cells) => some (none, .d (.pt cells))
    | _ => none
  | .fa _ off x => match x.get st with
    | .ptr o k => some (none, .ptr o (k + off))
    | .cp cells => some (none, .cp (cells.drop off))
    | .d (.pt cells) => some (none, .cp (cells.drop off))
    | .ep o sz i k => some (none, .ep o sz i (k + off))
    | _ => none
  | .fd _ agg off n x => match x.get st with
    | .agg l => if agg then some (some (off + n ≤ l.length), .agg ((l.drop off).take n)) else l[off]?.map fun y => (none, y)
    | _ => none
  | .ia _ sz x i => match i.get st with
    | .d (.v (.int _ j)) => match x.get st with
      | .own o => match lk st.ob o with
        | some (.row _ sz' rows) => some (some (sz' = sz ∧ 0 ≤ j ∧ j < rows.length), .ep o sz j.toNat 0)
        | some (.fro rows) => some (some (0 ≤ j ∧ j < rows.length ∧ (rows.getD j.toNat []).length = sz), .cp (rows.getD j.toNat []))
        | _ => none
      | .d (.sl rows) => some (some (0 ≤ j ∧ j < rows.length ∧ (rows.getD j.toNat []).length = sz), .cp (rows.getD j.toNat []))
      | _ => none
    | _ => none
  | .isnil _ neg ifc x => (nilV ifc (x.get st)).map fun b => (none, .d (.v (.bool (cond neg (!b) b))))
  | .eqa _ neg ks x y => (eqA ks (x.get st) (y.get st)).map fun b => (none, .d (.v (.bool (cond neg (!b) b))))
  | .call _ f true args => ((T f).pf (args.map fun x => st.lend (x.get st))).map fun p => (some (p.1 ∧ scal p.2 = true), p.2)
  | _ => none
def dstO : SOp → Option Nat
  | .mv d _ | .bin d _ _ _ | .binc d _ _ _ | .not d _ | .neg d _ | .cvi d _ _ | .i2s d _ | .pk d _ _ _ | .len d _ | .lens d _ | .ex d _ _ | .ixs d _ _ | .sls d _ _ _ | .ld d _ _ _ | .nc d _ | .fa d _ _ | .fd d _ _ _ _ | .ia d _ _ _ | .isnil d _ _ _ | .eqa d _ _ _ _ => some d
  | .call d _ _ _ => d
  | _ => none
/-- Is it an operation that may be looked at so? -/
def fnl : SOp → Bool
  | .mv .. | .bin .. | .binc .. | .not .. | .neg .. | .cvi .. | .i2s .. | .pk .. | .len .. | .lens .. | .ex .. | .ixs .. | .sls .. | .ld .. | .nc .. | .fa .. | .fd .. | .ia .. | .isnil .. | .eqa .. => true
  | .call _ _ lend _ => lend
  | _ => false

/-- pf says what wp says. -/
def Contract.lawful (C : Contract) : Prop := ∀ args p x K, C.pf args = some (p, x) → p → K (.ret x) ⟨0, []⟩ → C.wp args ⟨0, []⟩ K

theorem bind_some' {α β : Type} {o : Option α} {f : α → Option β} {b : β} (h : o.bind f = some b) : ∃ a, o = some a ∧ f a = some b := Option.bind_eq_some_iff.1 h

theorem pv_step {T : FuncId → Contract} (hT : ∀ f, (T f).lawful) {s : SOp} {st : St} {c : Option Prop} {x : SV} {K : St → Prop} {Kp : SV → Store → Prop} (h : pv T s st = some (c, x)) (hc : c.getD True) (hK : K (st.putO (dstO s) x)) : step T s st K Kp := by
  unfold pv at h
  split at h
  · simp only [Option.some.injEq, Prod.mk.injEq] at h; obtain ⟨rfl, rfl⟩ := h; exact hK
  · split at h
    · rename_i a b e1 e2
      obtain ⟨p, h1, h2⟩ := Option.map_eq_some_iff.1 h
      simp only [Prod.mk.injEq] at h2; obtain ⟨rfl, rfl⟩ := h2
      simp only [step, e1, e2, binP_ok (c := p.1) (v := p.2) h1 hc, need_some]; exact hK
    · cases h
  · split at h
    · rename_i a b e1 e2
      obtain ⟨p, h1, h2⟩ := Option.map_eq_some_iff.1 h
      simp only [Prod.mk.injEq] at h2; obtain ⟨rfl, rfl⟩ := h2
      simp only [step, e1, e2, h1, need_some]; exact ⟨hc, hK⟩
    · cases h
  · split at h
    · rename_i e1
      simp only [Option.some.injEq, Prod.mk.injEq] at h; obtain ⟨rfl, rfl⟩ := h
      simp only [step, e1]; exact hK
    · cases h
  · split at h
    · rename_i e1
      simp only [Option.some.injEq, Prod.mk.injEq] at h; obtain ⟨rfl, rfl⟩ := h
      simp only [step, e1]; exact hK
    · cases h
  · split at h
    · rename_i e1
      simp only [Option.some.injEq, Prod.mk.injEq] at h; obtain ⟨rfl, rfl⟩ := h
      simp only [step, e1]; exact hK
    · cases h
  · split at h
    · rename_i e1
      simp only [Option.some.injEq, Prod.mk.injEq] at h; obtain ⟨rfl, rfl⟩ := h
      simp only [step, e1]; exact hK
    · cases h
  · split at h
    · rename_i e1
      simp only [Option.some.injEq, Prod.mk.injEq] at h; obtain ⟨rfl, rfl⟩ := h
      simp only [step, e1]; exact ⟨pkC_ok hc, hK⟩
    · cases h
  · obtain ⟨p, h1, h2⟩ := Option.map_eq_some_iff.1 h
    simp only [Prod.mk.injEq] at h2; obtain ⟨rfl, rfl⟩ := h2
    simp only [step, h1, need_some]; exact hK
  · split at h
    · rename_i e1
      simp only [Option.some.injEq, Prod.mk.injEq] at h; obtain ⟨rfl, rfl⟩ := h
      simp only [step, e1]; exact hK
    · cases h
  · split at h
    · rename_i e1
      obtain ⟨p, h1, h2⟩ := Option.map_eq_some_iff.1 h
      simp only [Prod.mk.injEq] at h2; obtain ⟨rfl, rfl⟩ := h2
      simp only [step, e1, h1, need_some]; exact hK
    · cases h
  · split at h
    · rename_i e1 e2
      simp only [Option.some.injEq, Prod.mk.injEq] at h; obtain ⟨rfl, rfl⟩ := h
      simp only [step, e1, e2]; exact ⟨hc, hK⟩
    · cases h
  · split at h
    · rename_i e1
      obtain ⟨l, h1, h2⟩ := bind_some' h
      obtain ⟨u, h3, h4⟩ := Option.map_eq_some_iff.1 h2
      simp only [Prod.mk.injEq] at h4; obtain ⟨rfl, rfl⟩ := h4
      simp only [step, e1, h1, h3, need_some]; exact ⟨hc, hK⟩
    · cases h
  · split at h
    · rename_i e1
      split at h
      · rename_i e2
        split at h
        · rename_i e3
          simp only [Option.some.injEq, Prod.mk.injEq] at h; obtain ⟨rfl, rfl⟩ := h
          simp only [step, e1, e2, e3, if_true]; exact ⟨hc, hK⟩
        · rename_i e3
          obtain ⟨p, h1, h2⟩ := Option.map_eq_some_iff.1 h
          simp only [Prod.mk.injEq] at h2; obtain ⟨rfl, rfl⟩ := h2
          simp only [step, e1, e2, h1, need_some]; rw [if_neg e3]; exact hK
      · cases h
    · rename_i e1
      split at h
      · rename_i e3
        simp only [Option.some.injEq, Prod.mk.injEq] at h; obtain ⟨rfl, rfl⟩ := h
        simp only [step, e1, e3, if_true]; exact ⟨hc, hK⟩
      · rename_i e3
        obtain ⟨p, h1, h2⟩ := Option.map_eq_some_iff.1 h
        simp only [Prod.mk.injEq] at h2; obtain ⟨rfl, rfl⟩ := h2
        simp only [step, e1, h1, need_some]; rw [if_neg e3]; exact hK
    · rename_i e1
      split at h
      · rename_i e3
        simp only [Option.some.injEq, Prod.mk.injEq] at h; obtain ⟨rfl, rfl⟩ := h
        simp only [step, e1, e3, if_true]; exact ⟨hc, hK⟩
      · rename_i e3
        obtain ⟨p, h1, h2⟩ := Option.map_eq_some_iff.1 h
        simp only [Prod.mk.injEq] at h2; obtain ⟨rfl, rfl⟩ := h2
        simp only [step, e1, h1, need_some]; rw [if_neg e3]; exact hK
    · rename_i e1
      split at h
      · rename_i e2
        obtain ⟨r, h1, h2⟩ := bind_some' h
        split at h2
        · rename_i e3
          simp only [Option.some.injEq, Prod.mk.injEq] at h2; obtain ⟨rfl, rfl⟩ := h2
          simp only [step, e1, e2, h1, need_some, e3, if_true]; exact ⟨hc.1, hc.2, hK⟩
        · rename_i e3
          obtain ⟨p, h3, h4⟩ := Option.map_eq_some_iff.1 h2
          simp only [Prod.mk.injEq] at h4; obtain ⟨rfl, rfl⟩ := h4
          simp only [step, e1, e2, h1, h3, need_some]; rw [if_neg e3]; exact ⟨hc, hK⟩
      · cases h
    · cases h
  · split at h
    · rename_i e1
      simp only [Option.some.injEq, Prod.mk.injEq] at h; obtain ⟨rfl, rfl⟩ := h
      simp only [step, e1]; exact hK
    · rename_i e1
      simp only [Option.some.injEq, Prod.mk.injEq] at h; obtain ⟨rfl, rfl⟩ := h
      simp only [step, e1]; exact hK
    · rename_i e1
      simp only [Option.some.injEq, Prod.mk.injEq] at h; obtain ⟨rfl, rfl⟩ := h
      simp only [step, e1]; exact hK
    · cases h
  · split at h
    · rename_i e1
      simp only [Option.some.injEq, Prod.mk.injEq] at h; obtain ⟨rfl, rfl⟩ := h
      simp only [step, e1]; exact hK
    · rename_i e1
      simp only [Option.some.injEq, Prod.mk.injEq] at h; obtain ⟨rfl, rfl⟩ := h
      simp only [step, e1]; exact hK
    · rename_i e1
      simp only [Option.some.injEq, Prod.mk.injEq] at h; obtain ⟨rfl, rfl⟩ := h
      simp only [step, e1]; exact hK
    · rename_i e1
      simp only [Option.some.injEq, Prod.mk.injEq] at h; obtain ⟨rfl, rfl⟩ := h
      simp only [step, e1]; exact hK
    · cases h
  · split at h
    · rename_i e1
      split at h
      · rename_i e3
        simp only [Option.some.injEq, Prod.mk.injEq] at h; obtain ⟨rfl, rfl⟩ := h
        simp only [step, e1, e3, if_true]; exact ⟨hc, hK⟩
      · rename_i e3
        obtain ⟨p, h1, h2⟩ := Option.map_eq_some_iff.1 h
        simp only [Prod.mk.injEq] at h2; obtain ⟨rfl, rfl⟩ := h2
        simp only [step, e1, h1, need_some]; rw [if_neg e3]; exact hK
    · cases h
  · have row : ∀ {rows : List (List D)} {j : Int} {sz : Nat}, (0 ≤ j ∧ j < rows.length ∧ (rows.getD j.toNat []).length = sz) → ∀ {Q : List D → Prop}, Q (rows.getD j.toNat []) → 0 ≤ j ∧ need rows[j.toNat]? fun r => r.length = sz ∧ Q r := fun {rows j sz} hh Q hQ => by
      obtain ⟨h0, h1, h2⟩ := hh
      have hl : j.toNat < rows.length := by omega
      rw [List.getD_eq_getElem?_getD, List.getElem?_eq_getElem hl] at h2 hQ
      rw [List.getElem?_eq_getElem hl]
      exact ⟨h0, h2, hQ⟩
    split at h
    · rename_i e0
      split at h
      · rename_i e1
        split at h
        · rename_i e2
          simp only [Option.some.injEq, Prod.mk.injEq] at h; obtain ⟨rfl, rfl⟩ := h
          simp only [step, e0, e1, e2]; exact ⟨hc, hK⟩
        · rename_i e2
          simp only [Option.some.injEq, Prod.mk.injEq] at h; obtain ⟨rfl, rfl⟩ := h
          simp only [step, e0, e1, e2]; exact row hc (Q := fun r => K (st.put _ (.cp r))) hK
        · cases h
      · rename_i e1
        simp only [Option.some.injEq, Prod.mk.injEq] at h; obtain ⟨rfl, rfl⟩ := h
        simp only [step, e0, e1]; exact row hc (Q := fun r => K (st.put _ (.cp r))) hK
      · cases h
    · cases h
  · obtain ⟨p, h1, h2⟩ := Option.map_eq_some_iff.1 h
    simp only [Prod.mk.injEq] at h2; obtain ⟨rfl, rfl⟩ := h2
    simp only [step, h1, need_some]; exact hK
  · obtain ⟨p, h1, h2⟩ := Option.map_eq_some_iff.1 h
    simp only [Prod.mk.injEq] at h2; obtain ⟨rfl, rfl⟩ := h2
    simp only [step, h1, need_some]; exact hK
  · obtain ⟨p, h1, h2⟩ := Option.map_eq_some_iff.1 h
    simp only [Prod.mk.injEq] at h2; obtain ⟨rfl, rfl⟩ := h2
    simp only [step, callS, if_true]
    refine hT _ _ p.1 p.2 _ (by rw [List.map_map]; exact h1) hc.1 ⟨hc.2, rfl, hK⟩
  · cases h

end Go.Ev
