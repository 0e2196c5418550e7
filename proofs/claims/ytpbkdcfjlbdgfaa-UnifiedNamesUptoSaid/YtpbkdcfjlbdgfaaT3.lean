import Derived.Test.YtpbkdcfjlbdgfaaT1
set_option linter.unusedVariables false
set_option linter.unusedSimpArgs false
namespace Go.Proofs.Ytpbkdcfjlbdgfaa
open Go Go.Ev
set_option maxRecDepth 100000
theorem s25 : Sound Try.prog 25 C28 := by
  refine sd25 (T := tabT [(28, C28)]) (tab_cons s28 tab_nil) (pureC_lawful _) (pure_hX fun args p x K h hp hk => ?_)
  split at h <;> simp only [Option.some.injEq, Prod.mk.injEq, reduceCtorEq] at h
  obtain ⟨rfl, rfl⟩ := h
  refine ⟨Nat.le_of_ble_eq_true rfl, ?_⟩
  simp -dsimp -implicitDefEqProofs only [S25, R25, C28, ↓Ev.xStp_eq, ↓Ev.P, Ev.Q, eq_self, forall_eq_or_imp, implies_true, forall_const, forall_eq, ↓reduceIte, reduceIte, Nat.reduceEqDiff, Nat.reduceAdd, reduceCtorEq, Nat.reduceSub, Int.reduceToNat, Int.reduceLE, Int.reduceLT, Int.reduceNeg, Nat.reduceBEq, Nat.reduceMul, Nat.reduceLeDiff, Nat.reduceMod, UInt8.reduceOfNat, Nat.reduceLT, Int.reduceEq, Int.reduceAdd, Int.reduceSub, Int.reduceMul]
  exact hk
/-- A digit's place, or -1. -/
def hx (c : UInt8) : Int := Lib.indexByte [48, 49, 50, 51, 52, 53, 54, 55, 56, 57, 97, 98, 99, 100, 101, 102] c
def octV (a b : UInt8) : Int := IntKind.u8.wrap (IntKind.i64.wrap ((BitVec.ofInt IntKind.i64.bits (IntKind.i64.wrap (hx a * 2 ^ min 4 IntKind.i64.bits)) ||| BitVec.ofInt IntKind.i64.bits (hx b)).toNat))
def okO (a b : UInt8) : Bool := decide (0 ≤ hx a) && decide (0 ≤ hx b) && !plainB (octV a b)
def oct2 : List UInt8 → Int × Bool
  | a :: b :: _ => (octV a b, okO a b)
  | _ => (0, false)
def C15 : Contract := pureC fun args => match args with
  | [.d (.v (.string s))] => some (True, .tup [.d (.v (.int .u8 (oct2 s.data.toList).1)), .d (.v (.bool (oct2 s.data.toList).2))])
  | _ => none
theorem s15 : Sound Try.prog 15 C15 := by
  refine sd15 (T := tabT [(14, C14), (25, C28)]) (tab_cons s14 (tab_cons s25 tab_nil)) (pureC_lawful _) (pure_hX fun args p x K h hp hk => ?_)
  split at h <;> simp only [Option.some.injEq, Prod.mk.injEq, reduceCtorEq] at h
  obtain ⟨rfl, rfl⟩ := h
  refine ⟨Nat.le_of_ble_eq_true rfl, ?_⟩
  rename_i s
  obtain ⟨l, rfl⟩ := ex_str s
  simp only [sem_str] at hk
  match l, hk with
  | [], hk =>
    simp -dsimp -implicitDefEqProofs only [S15, R15, C28, C14, ↓Ev.xStp_eq, ↓Ev.P, Ev.Q, eq_self, forall_eq_or_imp, implies_true, forall_const, forall_eq, ↓reduceIte, reduceIte, Nat.reduceEqDiff, Nat.reduceAdd, reduceCtorEq, Nat.reduceSub, Int.reduceToNat, Int.reduceLE, Int.reduceLT, Int.reduceNeg, Nat.reduceBEq, Nat.reduceMul, Nat.reduceLeDiff, Nat.reduceMod, UInt8.reduceOfNat, Nat.reduceLT, Int.reduceEq, Int.reduceAdd, Int.reduceSub, Int.reduceMul]
    repeat' (first | refine And.intro ?_ ?_ | intro _)
    all_goals first | omega | exact hk
  | [a], hk =>
    simp -dsimp -implicitDefEqProofs only [S15, R15, C28, C14, ↓Ev.xStp_eq, ↓Ev.P, Ev.Q, eq_self, forall_eq_or_imp, implies_true, forall_const, forall_eq, ↓reduceIte, reduceIte, Nat.reduceEqDiff, Nat.reduceAdd, reduceCtorEq, Nat.reduceSub, Int.reduceToNat, Int.reduceLE, Int.reduceLT, Int.reduceNeg, Nat.reduceBEq, Nat.reduceMul, Nat.reduceLeDiff, Nat.reduceMod, UInt8.reduceOfNat, Nat.reduceLT, Int.reduceEq, Int.reduceAdd, Int.reduceSub, Int.reduceMul]
    repeat' (first | refine And.intro ?_ ?_ | intro _)
    all_goals first | omega | exact hk
  | a :: b :: r, hk =>
    simp -dsimp -implicitDefEqProofs only [S15, R15, C28, C14, ↓Ev.xStp_eq, ↓Ev.P, Ev.Q, eq_self, forall_eq_or_imp, implies_true, forall_const, forall_eq, ↓reduceIte, reduceIte, Nat.reduceEqDiff, Nat.reduceAdd, reduceCtorEq, Nat.reduceSub, Int.reduceToNat, Int.reduceLE, Int.reduceLT, Int.reduceNeg, Nat.reduceBEq, Nat.reduceMul, Nat.reduceLeDiff, Nat.reduceMod, UInt8.reduceOfNat, Nat.reduceLT, Int.reduceEq, Int.reduceAdd, Int.reduceSub, Int.reduceMul]
    repeat' (first | refine And.intro ?_ ?_ | intro _)
    all_goals first | omega | exact hk
/-- The bytes of a quoted text from behind its first mark, and what is behind it. -/
def unq : List UInt8 → List UInt8 → Option (List UInt8 × List UInt8)
  | [], _ => none
  | c :: r, out => if c = 34 then some (out, r) else if plainB c.toNat = true then unq r (out ++ [c]) else
    if c = 92 ∧ (oct2 r).2 = true then unq (r.drop 2) (out ++ [UInt8.ofNat (oct2 r).1.toNat]) else none
  termination_by l => l.length
  decreasing_by all_goals (simp; try omega)
def unqS : Option (List UInt8 × List UInt8) → SV
  | some (o, r) => .tup [.d (.v (str o)), .d (.v (str r)), .d (.v (.int .i64 0))]
  | none => .tup [.d (.v (str [])), .d (.v (str [])), .d (.v (.int .i64 3))]
def unqL : List UInt8 → Option (List UInt8 × List UInt8)
  | 34 :: r => unq r []
  | _ => none
def C5 : Contract := pureC fun args => match args with
  | [.d (.v (.string s))] => some (s.size ≤ 1099511627776, unqS (unqL s.data.toList))
  | _ => none
theorem pre34 (l : List UInt8) : hasPre ⟨l.toArray⟩ ⟨[34].toArray⟩ = (match l with | c :: _ => decide (c = 34) | [] => false) := by
  unfold hasPre
  simp only [sem_str]
  cases l with
  | nil => rfl
  | cons c r => simp; omega
theorem octV_byte (a b : UInt8) : ((UInt8.ofNat (octV a b).toNat).toNat : Int) = octV a b := by
  have : 0 ≤ octV a b ∧ octV a b < 256 := by
    unfold octV
    generalize IntKind.i64.wrap _ = z
    simp only [IntKind.wrap, IntKind.bits, IntKind.signed]
    simp
    omega
  simp
  omega
theorem u8_eq (d : UInt8) (n : Nat) (hn : n < 256) : ((d.toNat : Int) = n) ↔ d = UInt8.ofNat n := by
  constructor
  · intro h
    apply UInt8.toNat_inj.1
    rw [UInt8.toNat_ofNat']
    omega
  · rintro rfl
    rw [UInt8.toNat_ofNat']
    omega
theorem unq_end (m out : List UInt8) : unq (34 :: m) out = some (out, m) := by rw [unq]; simp
theorem unq_plain {d : UInt8} (m out : List UInt8) (h : d ≠ 34) (hp : plainB d.toNat = true) : unq (d :: m) out = unq m (out ++ [d]) := by rw [unq]; simp [h, hp]
theorem unq_oct (m out : List UInt8) (ho : (oct2 m).2 = true) : 2 ≤ m.length ∧ unq (92 :: m) out = unq (m.drop 2) (out ++ [UInt8.ofNat (oct2 m).1.toNat]) ∧ (((UInt8.ofNat (oct2 m).1.toNat).toNat : Int) = (oct2 m).1) := by
  match m, ho with
  | a :: b :: r, ho =>
    refine ⟨by simp, ?_, octV_byte a b⟩
    have hp : plainB (92 : UInt8).toNat = false := by decide
    rw [unq]
    simp only [hp]
    simp [ho]
  | [], ho => cases ho
  | [_], ho => cases ho
theorem unq_bad {d : UInt8} (m out : List UInt8) (h : d ≠ 34) (hp : plainB d.toNat = false) (hb : d = 92 → (oct2 m).2 = false) : unq (d :: m) out = none := by
  rw [unq]
  simp only [h, if_false, hp, Bool.false_eq_true]
  rw [if_neg]
  rintro ⟨h1, h2⟩
  rw [hb h1] at h2; cases h2
end Go.Proofs.Ytpbkdcfjlbdgfaa
