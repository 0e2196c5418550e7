/- The evaluator's code: control, regions that draw their order, functions. -/
import Derived.Test.YtpbkdcfjlbdgfaaDoorEvL
set_option linter.unusedVariables false
set_option linter.unusedSimpArgs false
namespace Go.Ev
open Go

structure GOp where
  g : Option (Nat × Bool)
  d : Option Nat
  s : SOp
  b : Bool

inductive SCode where
  | skip
  | ops (l : List GOp)
  | dr (xo : List Nat) (l : List (Nat × Bool × GOp))
  | cut (ks : List Nat)
  | keep (ks : List Nat)
  | seq (a b : SCode)
  | cond (c : Rv) (t e : SCode)
  | block (id : Nat) (b : SCode)
  | loop (ks : List Nat) (b : SCode)
  | exit (id : Nat)
  | ret

inductive Ex where
  | normal
  | exit (id : Nat)
  | ret

def guardOf (ops : Array Oper) (o : Oper) : Option (Option (Nat × Bool)) := match o.guard with
  | none => some none
  | some (j, want) => ((ops[j]?).bind (·.dst)).map fun t => some (t, want)
def isPV : SOp → Bool
  | .mv .. | .bin .. | .binc .. | .not .. | .neg .. | .cvi .. | .i2s .. | .pk .. | .ex .. | .ixs .. | .sls .. | .len .. | .lens .. | .nc .. | .fa .. | .fd .. | .ia .. | .bd .. | .mf .. | .slp .. | .mm .. | .isnil .. | .eqa .. => true
  | _ => false
def isTk (s : SOp) : Bool := isPV s || (match s with | .ld .. => true | _ => false)
def gop (P : Program) (N : Nat) (ops : Array Oper) (an : Nat) (b : Bool) (o : Oper) : Option GOp :=
  (guardOf ops o).bind fun g => (cop P N an o).bind fun s => if !fnl s || decide (dstO s = o.dst) then some ⟨g, o.dst, s, b⟩ else none
def cops (P : Program) (N : Nat) (an : Nat → Nat) (ops : Array Oper) : List Oper → Nat → Option (List GOp)
  | [], _ => some []
  | o :: r, i => (gop P N ops (an i) (i % 10 == 9) o).bind fun g => (cops P N an ops r (i + 1)).map (g :: ·)
def cdr (P : Program) (N : Nat) (an : Nat → Nat) (ops : Array Oper) : List (Nat × Bool) → Option (List (Nat × Bool × GOp))
  | [] => some []
  | (i, tk) :: r => (ops[i]?).bind fun o => (gop P N ops (an i) (i % 10 == 9) o).bind fun g => if !tk || isTk g.s then (cdr P N an ops r).map ((i, tk, g) :: ·) else none
/-- Is an order of a region's operations one that may stand for all? -/
def planOk (ops : Array Oper) : List (Nat × Bool) → Array Bool → Bool
  | [], listed => (Region.ready .any ops listed).isEmpty
  | (i, true) :: r, listed => Region.free .any ops listed i && (Region.ready .any ops listed).contains i && planOk ops r (listed.setIfInBounds i true)
  | (i, false) :: r, listed => (Region.ready .any ops listed == [i]) && planOk ops r (listed.setIfInBounds i true)

/-- What is chosen beside the code: at which calls rows are lent (region, operation); of a region that draws the objects that it writes, and an order; ahead of which regions the state is cut to some slots; which slots a loop (by the first region in it) goes by. -/
structure Ann where
  an : Nat → Nat → Nat
  pl : Nat → Option (List Nat × List (Nat × Bool))
  ct : Nat → Option (Bool × List Nat)
  lp : Nat → List Nat
def cutAt (A : Ann) (id : Nat) (s : SCode) : SCode := match A.ct id with
  | some (true, ks) => .seq (.cut ks) s
  | some (false, ks) => .seq (.keep ks) s
  | none => s
def firstReg : Code → Option Nat
  | .region id _ _ => some id
  | .seq a b => (firstReg a).or (firstReg b)
  | .cond _ a b => (firstReg a).or (firstReg b)
  | .block _ b => firstReg b
  | .loop b => firstReg b
  | _ => none
/-- Code, compiled. -/
def cc (P : Program) (N : Nat) (A : Ann) : Code → Option SCode
  | .skip => some .skip
  | .region id ops false => (cops P N (A.an id) ops ops.toList 0).map fun l => cutAt A id (.ops l)
  | .region id ops true => (A.pl id).bind fun p => if Region.noSelect ops && planOk ops p.2 (Array.replicate ops.size false) && p.2.length == ops.size then (cdr P N (A.an id) ops p.2).map (fun l => cutAt A id (.dr p.1 l)) else none
  | .seq a b => (cc P N A a).bind fun x => (cc P N A b).map (.seq x)
  | .cond c t e => (opn c).bind fun r => (cc P N A t).bind fun x => (cc P N A e).map (.cond r x)
  | .block id b => (cc P N A b).map (.block id)
  | .loop b => (cc P N A b).map (.loop (A.lp ((firstReg b).getD 0)))
  | .exit id => some (.exit id)
  | .ret => some .ret
  | _ => none

/-- Under what is a guarded operation performed? -/
def gc (st : St) (g : Nat × Bool) : Option Bool := match st.get g.1 with
  | .d (.v (.bool b)) => some (b == g.2)
  | .opt c (.d (.v (.bool b))) => some (c && (b == g.2))
  | _ => none
def pvX : Option (Option Prop × SV) → SV
  | some p => p.2
  | none => .any
/-- Conditions: none is none. -/
def oand : Option Prop → Option Prop → Option Prop
  | none, q => q
  | some p, none => some p
  | some p, some q => some (p ∧ q)
def andC : Option Prop → Prop → Prop
  | none, X => X
  | some p, X => p ∧ X
def impC (c : Bool) : Option Prop → Prop → Prop
  | none, X => X
  | some p, X => (c = true → p) ∧ X
def okC : SV → Option Prop
  | .opt b _ => some (b = true)
  | _ => none
def unC : List Nat → St → Option Prop
  | [], _ => none
  | k :: r, st => oand (okC (st.get k)) (unC r (st.un1 k))
theorem andC_iff {o : Option Prop} {X : Prop} : andC o X ↔ o.getD True ∧ X := by cases o <;> simp [andC]
theorem impC_iff {c : Bool} {o : Option Prop} {X : Prop} : impC c o X ↔ (c = true → o.getD True) ∧ X := by cases o <;> simp [impC]
theorem oand_iff {o q : Option Prop} : (oand o q).getD True ↔ o.getD True ∧ q.getD True := by cases o <;> cases q <;> simp [oand]
theorem unC_iff : ∀ {l : List Nat} {st : St}, (unC l st).getD True ↔ unOk l st
  | [], st => by simp [unC, unOk]
  | k :: r, st => by
    simp only [unC, unOk, oand_iff, unC_iff]
    refine and_congr ?_ Iff.rfl
    cases st.get k <;> simp [okC, okU]
def pvD : Option (Option Prop × SV) → Option Prop
  | some p => p.1
  | none => some False
theorem pvD_ex {o : Option (Option Prop × SV)} (h : (pvD o).getD True) : ∃ c, o = some (c, pvX o) ∧ c.getD True := by
  cases o with
  | none => exact h.elim
  | some x => exact ⟨x.1, rfl, h⟩

/-- A state, in a type that names what simp is not to look into. -/
abbrev PSt {α : Type} (x : α) : Type := St
/-- A place to stop at. -/
@[irreducible] def stp (K : St → Prop) (st : PSt K) : Prop := K st

theorem stp_eq {K : St → Prop} {st : St} : stp K st = K st := by unfold stp; rfl
/-- A stop, at a mark. -/
def brk (b : Bool) (K : St → Prop) (st : St) : Prop := cond b (stp K st) (K st)
theorem brk_eq {b : Bool} {K : St → Prop} {st : St} : brk b K st = K st := by cases b <;> simp [brk, stp_eq]

def evOps (T : FuncId → Contract) : List GOp → St → (St → Prop) → (SV → Store → Prop) → Prop
  | [], st, K, _ => K st
  | ⟨none, _, s, b⟩ :: r, st, K, Kp => step T s st (fun st' => brk b (fun st2 => evOps T r st2 K Kp) st') Kp
  | ⟨some g, d, s, b⟩ :: r, st, K, Kp => need (gc st g) fun c => match fnl s with
    | true => impC c (oand (unC (slots s) st) (pvD (pv T s (st.unS (slots s))))) (brk b (fun st2 => evOps T r st2 K Kp) (st.putO d (.opt c (pvX (pv T s (st.unS (slots s)))))))
    | false => (c = true → andC (unC (slots s) st) (step T s (st.unS (slots s)) (fun st' => brk b (fun st2 => evOps T r st2 K Kp) st') Kp)) ∧ (c = false → evOps T r (st.putO d (.opt false .any)) K Kp)

def ldOk (xo : List Nat) : SV → Prop
  | .ptr o _ => o ∉ xo
  | .ep o _ _ _ => o ∉ xo
  | _ => True
def takeOk (xo : List Nat) (st : St) : SOp → Prop
  | .ld _ _ _ a => ldOk xo (a.get st)
  | s => isPV s = true
def modsOk (xo : List Nat) (n0 : Nat) (l : List Nat) : Prop := ∀ o ∈ l, o ∈ xo ∧ o < n0

def tkC (xo : List Nat) (st : St) : SOp → Option Prop
  | .ld _ _ _ a => match xo with
    | [] => none
    | xo => some (ldOk xo (a.get st))
  | _ => none
theorem tkC_ok {xo : List Nat} {st : St} {s : SOp} (hs : isTk s = true) (h : (tkC xo st s).getD True) : takeOk xo st s := by
  unfold tkC at h
  split at h
  · rename_i d ag n a
    simp only [takeOk]
    split at h
    · unfold ldOk; split <;> simp
    · exact h
  · rename_i hne
    unfold takeOk
    split
    · exact absurd rfl (hne _ _ _ _)
    · unfold isTk at hs
      simp only [Bool.or_eq_true] at hs
      rcases hs with hs | hs
      · exact hs
      · first | cases hs | (split at hs <;> first | exact absurd rfl (hne _ _ _ _) | cases hs)
def moC (xo : List Nat) (n0 : Nat) : List Nat → Option Prop
  | [] => none
  | l => some (modsOk xo n0 l)
theorem moC_ok {xo : List Nat} {n0 : Nat} {l : List Nat} (h : (moC xo n0 l).getD True) : modsOk xo n0 l := by
  cases l with
  | nil => intro o ho; cases ho
  | cons a r => exact h

def evDr (T : FuncId → Contract) (xo : List Nat) (n0 : Nat) : List (Nat × Bool × GOp) → St → (St → Prop) → (SV → Store → Prop) → Prop
  | [], st, K, _ => K st
  | (_, true, ⟨none, _, s, b⟩) :: r, st, K, Kp => andC (tkC xo st s) (step T s st (fun st' => brk b (fun st2 => evDr T xo n0 r st2 K Kp) st') Kp)
  | (_, true, ⟨some g, d, s, b⟩) :: r, st, K, Kp => need (gc st g) fun c => match fnl s with
    | true => impC c (oand (unC (slots s) st) (oand (tkC xo (st.unS (slots s)) s) (pvD (pv T s (st.unS (slots s)))))) (brk b (fun st2 => evDr T xo n0 r st2 K Kp) (st.putO d (.opt c (pvX (pv T s (st.unS (slots s)))))))
    | false => (c = true → andC (oand (unC (slots s) st) (tkC xo (st.unS (slots s)) s)) (step T s (st.unS (slots s)) (fun st' => brk b (fun st2 => evDr T xo n0 r st2 K Kp) st') Kp)) ∧ (c = false → evDr T xo n0 r (st.putO d (.opt false .any)) K Kp)
  | (_, false, ⟨none, _, s, b⟩) :: r, st, K, Kp => andC (moC xo n0 (mods s st)) (step T s st (fun st' => brk b (fun st2 => evDr T xo n0 r st2 K Kp) st') Kp)
  | (_, false, ⟨some g, d, s, b⟩) :: r, st, K, Kp => need (gc st g) fun c => match fnl s with
    | true => impC c (oand (unC (slots s) st) (oand (moC xo n0 (mods s (st.unS (slots s)))) (pvD (pv T s (st.unS (slots s)))))) (brk b (fun st2 => evDr T xo n0 r st2 K Kp) (st.putO d (.opt c (pvX (pv T s (st.unS (slots s)))))))
    | false => (c = true → andC (oand (unC (slots s) st) (moC xo n0 (mods s (st.unS (slots s))))) (step T s (st.unS (slots s)) (fun st' => brk b (fun st2 => evDr T xo n0 r st2 K Kp) st') Kp)) ∧ (c = false → evDr T xo n0 r (st.putO d (.opt false .any)) K Kp)

def thenK (K2 : St → Prop) (K : Ex → St → Prop) : Ex → St → Prop
  | .normal, st => K2 st
  | e, st => K e st
def blockK (id : Nat) (K : Ex → St → Prop) : Ex → St → Prop
  | .exit j, st => if j = id then K .normal st else K (.exit j) st
  | e, st => K e st

/-- Some of a state's slots and objects, the objects in new numbers. -/
def St.norm (os ks : List Nat) (st : St) : St := ⟨ks.map fun k => (k, (st.get k).ren fun o => os.idxOf? o), os.length, subO st.ob (fun o => os.idxOf? o) os 0⟩
def normOk (n0 : Nat) (os : List Nat) (st : St) : Prop := os.Nodup ∧ (∀ o ∈ os, (lk st.ob o).isSome = true) ∧ os.take n0 = List.range n0

/-- Once more round a loop: the invariant stands again, at a lower count. -/
@[irreducible] def again (I : Nat → St → Prop) (n0 : Nat) (ks : List Nat) (n : Nat) (st : PSt I) : Prop := ∃ k os, k < n ∧ normOk n0 os st ∧ I k (St.norm os ks st)
@[irreducible] def evLoop (body : St → (Ex → St → Prop) → (SV → Store → Prop) → Prop) (n0 : Nat) (ks : List Nat) (K : Ex → St → Prop) (Kp : SV → Store → Prop) (st : PSt (body, K, Kp)) : Prop :=
  ∃ (I : Nat → St → Prop) (n : Nat) (os : List Nat), normOk n0 os st ∧ I n (St.norm os ks st) ∧ ∀ n st, I n st → body st (thenK (again I n0 ks n) K) Kp

/-- Some of a state's slots. -/
def St.keep (ks : List Nat) (st : St) : St := { st with sl := ks.map fun k => (k, st.get k) }
theorem again_eq {I : Nat → St → Prop} {n0 : Nat} {ks : List Nat} {n : Nat} {st : St} : again I n0 ks n st = ∃ k os, k < n ∧ normOk n0 os st ∧ I k (St.norm os ks st) := by unfold again; rfl
theorem evLoop_eq {body : St → (Ex → St → Prop) → (SV → Store → Prop) → Prop} {n0 : Nat} {ks : List Nat} {K : Ex → St → Prop} {Kp : SV → Store → Prop} {st : St} : evLoop body n0 ks K Kp st =
    ∃ (I : Nat → St → Prop) (n : Nat) (os : List Nat), normOk n0 os st ∧ I n (St.norm os ks st) ∧ ∀ n st, I n st → body st (thenK (again I n0 ks n) K) Kp := by unfold evLoop; rfl

/-- The evaluator. n0: how many objects there were when the function began: these keep their numbers. -/
def ev (T : FuncId → Contract) (n0 : Nat) : SCode → St → (Ex → St → Prop) → (SV → Store → Prop) → Prop
  | .skip, st, K, _ => K .normal st
  | .ops l, st, K, Kp => evOps T l st (K .normal) Kp
  | .dr xo l, st, K, Kp => evDr T xo st.n l st (K .normal) Kp
  | .keep ks, st, K, _ => stp (K .normal) (st.keep ks)
  | .cut ks, st, K, _ => ∃ os, normOk n0 os st ∧ K .normal (st.norm os ks)
  | .seq a b, st, K, Kp => ev T n0 a st (thenK (fun st' => ev T n0 b st' K Kp) K) Kp
  | .cond c t e, st, K, Kp => match c.get st with
    | .d (.v (.bool b)) => (b = true → ev T n0 t st K Kp) ∧ (b = false → ev T n0 e st K Kp)
    | _ => False
  | .block id b, st, K, Kp => ev T n0 b st (blockK id K) Kp
  | .loop ks b, st, K, Kp => evLoop (ev T n0 b) n0 ks K Kp st
  | .exit id, st, K, _ => K (.exit id) st
  | .ret, st, K, _ => K .ret st

section
variable {G : World → Prop} {H : Hd G} {N : Nat} {P : Program} {T : FuncId → Contract}
variable {w0 : World} {m0 : Nat → Value} {B0 : Nat → Nat → Prop} {s0 : Store}

theorem Sat.optF {w : World} {m : Nat → Value} {B : Nat → Nat → Prop} {a : Act} {st : St} (h : Sat H N w m B a st) (d : Option Nat) (x : SV) : Sat H N w m B (a.put d undef) (st.putO d (.opt false x)) := by
  cases d with
  | none => exact h
  | some d =>
    refine ⟨by simp [Act.put, h.size], h.defers, fun k => ?_, h.store⟩
    simp only [St.putO]
    rw [St.get_put]
    by_cases e : d = k
    · subst e
      simp only [if_true, Cn, Bool.false_eq_true, if_false, Act.put, Array.getD_eq_getD_getElem?, Array.getElem?_setIfInBounds]
      by_cases e2 : d < a.tmps.size
      · simp [e2]
      · simp [e2]
    · simp only [e, if_false]
      have : (a.put (some d) undef).tmps.getD k undef = a.tmps.getD k undef := by
        simp only [Act.put, Array.getD_eq_getD_getElem?, Array.getElem?_setIfInBounds, e, if_false]
      rw [this]; exact h.slots k

theorem St.un1_get (st : St) (k j : Nat) : (st.un1 k).get j = st.get j ∨ ∃ b x, st.get j = .opt b x ∧ j = k ∧ (st.un1 k).get j = x := by
  unfold St.un1
  split
  · rename_i b x e
    rw [St.get_put]
    by_cases h : k = j
    · exact .inr ⟨b, x, h ▸ e, h.symm, by rw [if_pos h]⟩
    · exact .inl (by rw [if_neg h])
  · exact .inl rfl
theorem St.un1_store (st : St) (k : Nat) : (st.un1 k).store = st.store := by unfold St.un1; split <;> rfl
theorem St.un1_n (st : St) (k : Nat) : (st.un1 k).n = st.n := by unfold St.un1; split <;> rfl
theorem St.un1_ob (st : St) (k : Nat) : (st.un1 k).ob = st.ob := by unfold St.un1; split <;> rfl
theorem St.unS_n : ∀ (l : List Nat) (st : St), (st.unS l).n = st.n
  | [], _ => rfl
  | k :: r, st => by simp only [St.unS]; rw [St.unS_n r, St.un1_n]
theorem St.unS_ob : ∀ (l : List Nat) (st : St), (st.unS l).ob = st.ob
  | [], _ => rfl
  | k :: r, st => by simp only [St.unS]; rw [St.unS_ob r, St.un1_ob]
theorem St.unS_store (l : List Nat) (st : St) : (st.unS l).store = st.store := by unfold St.store; rw [St.unS_n, St.unS_ob]

theorem Sat.un1 {w : World} {m : Nat → Value} {B : Nat → Nat → Prop} {a : Act} {st : St} (h : Sat H N w m B a st) {k : Nat} (hk : okU (st.get k)) : Sat H N w m B a (st.un1 k) := by
  refine ⟨h.size, h.defers, fun j => ?_, by rw [St.un1_store]; exact h.store⟩
  rw [St.un1_n, St.un1_ob]
  have hj := h.slots j
  rcases St.un1_get st k j with e | ⟨b, x, e1, rfl, e2⟩
  · rw [e]; exact hj
  · rw [e2]
    rw [e1] at hk hj
    simp only [okU] at hk; subst hk
    simpa [Cn] using hj
theorem Sat.unS {w : World} {m : Nat → Value} {B : Nat → Nat → Prop} {a : Act} : ∀ {l : List Nat} {st : St}, Sat H N w m B a st → unOk l st → Sat H N w m B a (st.unS l)
  | [], _, h, _ => h
  | k :: r, st, h, hk => by
    simp only [St.unS]
    exact Sat.unS (h.un1 hk.1) hk.2
theorem un_weak {m : Nat → Value} {n : Nat} {c : Rdr} {j : Nat} {v : Value} : ∀ {l : List Nat} {st : St}, unOk l st → Cn m n c ((st.unS l).get j) v → Cn m n c (st.get j) v
  | [], _, _, h => h
  | k :: r, st, hk, h => by
    simp only [St.unS] at h
    have h2 := un_weak hk.2 h
    rcases St.un1_get st k j with e | ⟨b, x, e1, rfl, e2⟩
    · rw [e] at h2; exact h2
    · rw [e2] at h2
      have := hk.1
      rw [e1] at this ⊢
      simp only [okU] at this; subst this
      simpa [Cn] using h2
/-- A value that stands under a condition that is met. -/
theorem Sat.optT {w : World} {m : Nat → Value} {B : Nat → Nat → Prop} {a : Act} {st : St} {l : List Nat} (hk : unOk l st) {d : Option Nat} {x : SV} (h : Sat H N w m B a ((st.unS l).putO d x)) : Sat H N w m B a (st.putO d (.opt true x)) := by
  have hn : (st.putO d (.opt true x)).n = ((st.unS l).putO d x).n := by cases d <;> simp [St.putO, St.put, St.unS_n]
  have ho : (st.putO d (.opt true x)).ob = ((st.unS l).putO d x).ob := by cases d <;> simp [St.putO, St.put, St.unS_ob]
  refine ⟨h.size, h.defers, fun j => ?_, by have := h.store; unfold St.store at this ⊢; rw [hn, ho]; exact this⟩
  rw [hn, ho]
  have hj := h.slots j
  cases d with
  | none => exact un_weak hk hj
  | some d =>
    simp only [St.putO] at hj ⊢
    rw [St.get_put] at hj ⊢
    by_cases e : d = j
    · simp only [e, if_true] at hj ⊢; simpa [Cn, St.put] using hj
    · simp only [e, if_false] at hj ⊢; exact un_weak hk hj
theorem Lift.opt {w : World} {a : Act} {st : St} {l : List Nat} (hk : unOk l st) {d : Option Nat} {x : SV} {s : Store} (h : Lift H N w0 m0 B0 s (fun st' => st' = (st.unS l).putO d x) a w) : Lift H N w0 m0 B0 s (fun st' => st' = st.putO d (.opt true x)) a w := by
  obtain ⟨m', B', st', rfl, h2, h3⟩ := h
  refine ⟨m', B', _, rfl, Sat.optT hk h2, ?_⟩
  rw [St.store_putO, St.unS_store] at h3
  rw [St.store_putO]; exact h3

theorem wanted_b {ops : Array Oper} {o : Oper} {t : Nat} {want b : Bool} {tmps : Array Value} (hg : guardOf ops o = some (some (t, want))) (h3 : tmps.getD t undef = .bool b) :
    Region.wanted o (yielded ops tmps) = (b == want) := by
  unfold guardOf at hg
  split at hg
  · cases hg
  · rename_i j want' e
    simp only [Option.map_eq_some_iff, Option.some.injEq, Prod.mk.injEq] at hg
    obtain ⟨t', h1, rfl, rfl⟩ := hg
    have h4 : tmps[t']? = some (.bool b) := by
      rw [Array.getD_eq_getD_getElem?] at h3
      cases e2 : tmps[t']? with
      | none => rw [e2] at h3; simp [undef] at h3
      | some x => rw [e2] at h3; simp at h3; rw [h3]
    simp only [Region.wanted, e, yielded, h1, Option.bind_some, h4]
    cases b <;> cases want' <;> rfl
theorem wanted_u {ops : Array Oper} {o : Oper} {t : Nat} {want : Bool} {tmps : Array Value} (hg : guardOf ops o = some (some (t, want))) (h3 : tmps.getD t undef = undef) :
    Region.wanted o (yielded ops tmps) = false := by
  unfold guardOf at hg
  split at hg
  · cases hg
  · rename_i j want' e
    simp only [Option.map_eq_some_iff, Option.some.injEq, Prod.mk.injEq] at hg
    obtain ⟨t', h1, rfl, rfl⟩ := hg
    have h4 : tmps[t']? = none ∨ tmps[t']? = some undef := by
      rw [Array.getD_eq_getD_getElem?] at h3
      cases e2 : tmps[t']? with
      | none => exact .inl rfl
      | some x => rw [e2] at h3; simp at h3; rw [h3]; exact .inr rfl
    rcases h4 with h4 | h4 <;> simp only [Region.wanted, e, yielded, h1, Option.bind_some, h4, undef] <;> rfl
theorem gc_ok {w : World} {m : Nat → Value} {B : Nat → Nat → Prop} {a : Act} {st : St} (h : Sat H N w m B a st) {ops : Array Oper} {o : Oper} {t : Nat} {want c : Bool} (hg : guardOf ops o = some (some (t, want))) (hc : gc st (t, want) = some c) :
    Region.wanted o (yielded ops a.tmps) = c := by
  have h2 := h.slots t
  unfold gc at hc
  split at hc
  · rename_i b e
    rw [e] at h2
    simp only [Option.some.injEq] at hc; subst hc
    exact wanted_b hg (of_v h2)
  · rename_i c' b e
    rw [e] at h2
    simp only [Option.some.injEq] at hc; subst hc
    cases c' with
    | true => simp only [Cn, if_true] at h2; simpa using wanted_b hg (of_v (m := m) (n := st.n) (c := vw H w B st.ob) h2)
    | false => simp only [Cn, Bool.false_eq_true, if_false] at h2; simpa using wanted_u hg h2
  · cases hc
theorem wanted_none {ops : Array Oper} {o : Oper} {y : Nat → Option Bool} (hg : guardOf ops o = some none) : Region.wanted o y = true := by
  unfold guardOf at hg
  split at hg
  · rename_i e; simp [Region.wanted, e]
  · obtain ⟨t, _, h⟩ := Option.map_eq_some_iff.1 hg
    cases h

/-- What a code owes, by its ends. -/
def LiftE {G : World → Prop} (H : Hd G) (N : Nat) (w0 : World) (m0 : Nat → Value) (B0 : Nat → Nat → Prop) (s0 : Store) (K : Ex → St → Prop) (Kp : SV → Store → Prop) : Exit → Act → World → Prop
  | .normal, a, w => Lift H N w0 m0 B0 s0 (K .normal) a w
  | .exit id, a, w => Lift H N w0 m0 B0 s0 (K (.exit id)) a w
  | .ret, a, w => Lift H N w0 m0 B0 s0 (K .ret) a w
  | .panic ch, a, w => a.defers = [] ∧ LiftP H w0 m0 B0 s0 Kp ch w
  | _, _, _ => False

theorem Lift.since {w : World} {m : Nat → Value} {B : Nat → Nat → Prop} {s : Store} (h : Since w0 m0 B0 s0 w m B s) {K : St → Prop} {a : Act} {w' : World} (hl : Lift H N w m B s K a w') : Lift H N w0 m0 B0 s0 K a w' := by
  obtain ⟨m', B', st', h1, h2, h3⟩ := hl
  exact ⟨m', B', st', h1, h2, h.trans h3⟩
theorem LiftP.since {w : World} {m : Nat → Value} {B : Nat → Nat → Prop} {s : Store} (h : Since w0 m0 B0 s0 w m B s) {Kp : SV → Store → Prop} {ch : List PanicEntry} {w' : World} (hl : LiftP H w m B s Kp ch w') : LiftP H w0 m0 B0 s0 Kp ch w' := by
  obtain ⟨v, x, m', B', s', h1, h2, h3, h4, h5⟩ := hl
  exact ⟨v, x, m', B', s', h1, h2, h3, h.trans h4, h5⟩

theorem gop_ok {ops : Array Oper} {an : Nat} {bb : Bool} {o : Oper} {g : GOp} (h : gop P N ops an bb o = some g) : guardOf ops o = some g.g ∧ cop P N an o = some g.s ∧ g.d = o.dst ∧ (fnl g.s = true → dstO g.s = g.d) := by
  unfold gop at h
  obtain ⟨q, h1, h2⟩ := Option.bind_eq_some_iff.1 h
  obtain ⟨s, h3, h4⟩ := Option.bind_eq_some_iff.1 h2
  obtain ⟨h5, h6⟩ := Option.ite_none_right_eq_some.1 h4
  simp only [Option.some.injEq] at h6; subst h6
  refine ⟨h1, h3, rfl, fun hf => ?_⟩
  simpa [hf] using h5

theorem need_ex {α : Type} {o : Option α} {K : α → Prop} (h : need o K) : ∃ x, o = some x ∧ K x := by
  cases o with
  | none => exact h.elim
  | some x => exact ⟨x, rfl, h⟩
theorem evOps_ok (hT : ∀ f, Sound G P f (T f)) {an : Nat → Nat} {ops : Array Oper} {K : Ex → St → Prop} {Kp : SV → Store → Prop} : ∀ (l : List Oper) (i : Nat) (gs : List GOp) (a : Act) (w : World) (m : Nat → Value) (B : Nat → Nat → Prop) (st : St),
    cops P N an ops l i = some gs → (∀ j o, l[j]? = some o → ops[i + j]? = some o) → Sat H N w m B a st → Since w0 m0 B0 s0 w m B st.store → evOps T gs st (K .normal) Kp →
    wpOps P ops (LiftE H N w0 m0 B0 s0 K Kp) (List.range' i l.length) a w
  | [], i, gs, a, w, m, B, st, hc, _, h, hS, he => by
    simp only [cops, Option.some.injEq] at hc; subst hc
    exact ⟨m, B, st, he, h, hS⟩
  | o :: r, i, gs, a, w, m, B, st, hc, hl, h, hS, he => by
    simp only [cops] at hc
    obtain ⟨g, hg, hc⟩ := Option.bind_eq_some_iff.1 hc
    obtain ⟨gs', hgs, rfl⟩ := Option.map_eq_some_iff.1 hc
    obtain ⟨h1, h2, h3, h4⟩ := gop_ok hg
    have ho : ops[i]? = some o := hl 0 o rfl
    have hl' : ∀ j o', r[j]? = some o' → ops[i + 1 + j]? = some o' := fun j o' hj => by
      have := hl (j + 1) o' (by simpa using hj)
      rwa [show i + (j + 1) = i + 1 + j by omega] at this
    simp only [List.length_cons, List.range'_succ, wpOps, ho]
    have run : step T g.s st (fun st' => evOps T gs' st' (K .normal) Kp) Kp → o.wp P a w (wpOps P ops (LiftE H N w0 m0 B0 s0 K Kp) (List.range' (i + 1) r.length)) (LiftE H N w0 m0 B0 s0 K Kp) := fun hs => by
      refine cop_ok (XB := fun _ => True) hT h2 h (fun _ _ _ _ _ _ _ => trivial) hs _ _ (fun a' w' hh _ => ?_) (fun ch a' w' hd hp => ⟨hd, hp.since hS⟩)
      obtain ⟨m', B', st', k1, k2, k3⟩ := hh
      exact evOps_ok hT r (i + 1) gs' a' w' m' B' st' hgs hl' k2 (hS.trans k3) k1
    obtain ⟨gg, gd', gs0, gb⟩ := g
    cases gg with
    | none =>
      simp only [evOps, brk_eq] at he
      rw [wanted_none h1]
      exact .inl (run he)
    | some p =>
      obtain ⟨t, want⟩ := p
      simp only [evOps, brk_eq] at he
      obtain ⟨c, e, he⟩ := need_ex he
      rw [gc_ok h h1 e]
      simp only at h3
      have cont : ∀ (x : SV) a' w', evOps T gs' (st.putO gd' x) (K .normal) Kp → Lift H N w m B st.store (fun st' => st' = st.putO gd' x) a' w' → wpOps P ops (LiftE H N w0 m0 B0 s0 K Kp) (List.range' (i + 1) r.length) a' w' := by
        rintro x a' w' hk ⟨m', B', st', rfl, k2, k3⟩
        exact evOps_ok hT r (i + 1) gs' a' w' m' B' _ hgs hl' k2 (hS.trans k3) hk
      cases hf : fnl gs0 with
      | true =>
        rw [hf] at he
        obtain ⟨hcond, he⟩ := impC_iff.1 he
        have hd := h4 hf
        cases c with
        | true =>
          simp only [if_true]
          obtain ⟨hu, hp⟩ := oand_iff.1 (hcond rfl)
          replace hu := unC_iff.1 hu
          obtain ⟨q, hq, hqc⟩ := pvD_ex hp
          have hs := pv_step (K := fun st' => st' = (st.unS (slots gs0)).putO gd' (pvX (pv T gs0 (st.unS (slots gs0))))) (Kp := Kp) (fun f => (hT f).1) hq hqc (by rw [hd])
          refine .inl (cop_ok (XB := fun _ => True) hT h2 (h.unS hu) (fun _ _ _ _ _ _ _ => trivial) hs _ _ (fun a' w' hh _ => ?_) (fun ch a' w' hd hp => ⟨hd, by rw [St.unS_store] at hp; exact hp.since hS⟩))
          rw [St.unS_store] at hh
          exact cont _ a' w' he (Lift.opt hu hh)
        | false =>
          simp only [Bool.false_eq_true, if_false]
          exact cont _ _ w he ⟨m, B, _, rfl, h3 ▸ h.optF _ _, by rw [St.store_putO]; exact Since.refl _ _ _ _⟩
      | false =>
        rw [hf] at he
        obtain ⟨hy, hn⟩ := he
        cases c with
        | true =>
          simp only [if_true]
          obtain ⟨hu, hs⟩ := andC_iff.1 (hy rfl)
          replace hu := unC_iff.1 hu
          refine .inl (cop_ok (XB := fun _ => True) hT h2 (h.unS hu) (fun _ _ _ _ _ _ _ => trivial) hs _ _ (fun a' w' hh _ => ?_) (fun ch a' w' hd hp => ⟨hd, by rw [St.unS_store] at hp; exact hp.since hS⟩))
          rw [St.unS_store] at hh
          obtain ⟨m', B', st', k1, k2, k3⟩ := hh
          exact evOps_ok hT r (i + 1) gs' a' w' m' B' st' hgs hl' k2 (hS.trans k3) k1
        | false =>
          simp only [Bool.false_eq_true, if_false]
          exact cont _ _ w (hn rfl) ⟨m, B, _, rfl, h3 ▸ h.optF _ _, by rw [St.store_putO]; exact Since.refl _ _ _ _⟩

theorem Since.drew (w : World) (m : Nat → Value) (B : Nat → Nat → Prop) (s : Store) (k : Nat) : Since w m B s { w with drawn := k } m B s :=
  ⟨rfl, rfl, rfl, Nat.le_refl _, fun _ _ _ => rfl, fun _ h => .inl h, Nat.le_refl _, fun _ _ => rfl, fun o x b _ h1 h2 h3 => .inl ⟨x, h1, h2, h3⟩⟩
theorem Sat.drew {w : World} {m : Nat → Value} {B : Nat → Nat → Prop} {a : Act} {st : St} (h : Sat H N w m B a st) (k : Nat) : Sat H N { w with drawn := k } m B a st :=
  ⟨h.size, h.defers, h.slots.since (Since.drew w m B st.store k), ⟨fun o x ho => (h.store.obs o x ho).keep (Nat.le_refl _) (h.store.lt o x ho) (fun _ _ => rfl) (Since.drew w m B st.store k).vw (fun _ _ _ => rfl), h.store.lt, h.store.sep, h.store.blk, h.store.hid, h.store.gs (Since.drew w m B st.store k), h.store.seph⟩⟩

/-- What is taken first yields its value in every world that has kept the old blocks. -/
theorem take_ok {w : World} {m : Nat → Value} {B : Nat → Nat → Prop} {a : Act} {st : St} {o : Oper} {an : Nat} {s : SOp} (hc : cop P N an o = some s) (h : Sat H N w m B a st) {xo : List Nat} (ht : takeOk xo st s) {K : St → Prop} {Kp : SV → Store → Prop} (hs : step T s st K Kp)
    {XB : Nat → Prop} (hXB : ∀ b, XB b → ∃ o y, o ∈ xo ∧ lk st.ob o = some y ∧ y.has = true ∧ B o b) :
    ∃ d, o.dst = some d ∧ d < N ∧ ∃ x v, K (st.put d x) ∧ Cn m st.n (vw H w B st.ob) x v ∧ ∀ w', (∀ b, b < w.heap.size → ¬ XB b → w'.heap[b]? = w.heap[b]?) → (execOp a.eval o).run P w' = .ok (.value v) w' := by
  have pv : ∀ {d : Nat}, o.dst = some d → d < N → PV m st.n (vw H w B st.ob) P o a d K st → ∃ d, o.dst = some d ∧ d < N ∧ ∃ x v, K (st.put d x) ∧ Cn m st.n (vw H w B st.ob) x v ∧ ∀ w', (∀ b, b < w.heap.size → ¬ XB b → w'.heap[b]? = w.heap[b]?) → (execOp a.eval o).run P w' = .ok (.value v) w' := by
    rintro d h1 h2 ⟨x, v, h3, h4, h5⟩
    exact ⟨d, h1, h2, x, v, h3, h4, fun w' _ => h5 w'⟩
  unfold cop at hc
  split at hc
  · rename_i x d e1 e2
    obtain ⟨hd, hc⟩ := Option.ite_none_right_eq_some.1 hc
    split at hc
    · obtain ⟨hx, hc⟩ := Option.ite_none_right_eq_some.1 hc
      obtain ⟨sz, hsz, rfl⟩ := Option.map_eq_some_iff.1 hc
      simp [takeOk, isPV] at ht
    · obtain ⟨r, hr, rfl⟩ := Option.map_eq_some_iff.1 hc
      exact pv e2 hd (ok_mv h hd (.inl e1) hr hs)
  · rename_i x d e1 e2
    obtain ⟨hd, hc⟩ := Option.ite_none_right_eq_some.1 hc
    split at hc
    · obtain ⟨hx, hc⟩ := Option.ite_none_right_eq_some.1 hc
      obtain ⟨sz, hsz, rfl⟩ := Option.map_eq_some_iff.1 hc
      simp [takeOk, isPV] at ht
    · obtain ⟨r, hr, rfl⟩ := Option.map_eq_some_iff.1 hc
      exact pv e2 hd (ok_mv h hd (.inr e1) hr hs)
  · rename_i op t x y t' d e1 e2
    obtain ⟨hd, hc⟩ := Option.ite_none_right_eq_some.1 hc
    split at hc
    · rename_i nn hn
      obtain ⟨r, hr, rfl⟩ := Option.map_eq_some_iff.1 hc
      exact pv e2 hd (ok_isnil h hd e1 hr hn hs)
    · split at hc
      · rename_i ks hk
        obtain ⟨r, hr, hc⟩ := Option.bind_eq_some_iff.1 hc
        obtain ⟨q, hq, rfl⟩ := Option.map_eq_some_iff.1 hc
        exact pv e2 hd (ok_eqa h hd e1 hr hq hk hs)
      · obtain ⟨r, hr, hc⟩ := Option.bind_eq_some_iff.1 hc
        obtain ⟨q, hq, hc⟩ := Option.map_eq_some_iff.1 hc
        split at hc <;> subst hc
        · exact pv e2 hd (ok_binc h hd e1 hr hq hs)
        · exact pv e2 hd (ok_bin h hd e1 hr hq hs)
  · rename_i t x d e1 e2
    obtain ⟨hd, hc⟩ := Option.ite_none_right_eq_some.1 hc
    obtain ⟨r, hr, rfl⟩ := Option.map_eq_some_iff.1 hc
    exact pv e2 hd (ok_not h hd e1 hr hs)
  · rename_i t x d e1 e2
    obtain ⟨hd, hc⟩ := Option.ite_none_right_eq_some.1 hc
    obtain ⟨r, hr, rfl⟩ := Option.map_eq_some_iff.1 hc
    exact pv e2 hd (ok_neg h hd e1 hr hs)
  · rename_i s' t x d e1 e2
    obtain ⟨hd, hc⟩ := Option.ite_none_right_eq_some.1 hc
    obtain ⟨r, hr, hc⟩ := Option.bind_eq_some_iff.1 hc
    split at hc
    · split at hc
      · simp only [Option.some.injEq] at hc; subst hc
        simp [takeOk, isPV] at ht
      · cases hc
    · rename_i k h1 h2
      simp only [Option.some.injEq] at hc; subst hc
      exact pv e2 hd (ok_i2s h hd e1 hr ⟨_, h1⟩ h2 hs)
    · simp only [Option.some.injEq] at hc; subst hc
      exact pv e2 hd (ok_cvi h hd e1 hr ⟨_, by assumption⟩ (by assumption) hs)
    · cases hc
  · rename_i c x y d e1 e2
    obtain ⟨hd, hc⟩ := Option.ite_none_right_eq_some.1 hc
    obtain ⟨rc, hrc, hc⟩ := Option.bind_eq_some_iff.1 hc
    obtain ⟨r, hr, hc⟩ := Option.bind_eq_some_iff.1 hc
    obtain ⟨q, hq, rfl⟩ := Option.map_eq_some_iff.1 hc
    exact pv e2 hd (ok_pk h hd e1 hrc hr hq hs)
  · rename_i x i d e1 e2
    obtain ⟨hd, hc⟩ := Option.ite_none_right_eq_some.1 hc
    obtain ⟨r, hr, rfl⟩ := Option.map_eq_some_iff.1 hc
    exact pv e2 hd (ok_ex h hd e1 hr hs)
  · rename_i t x i d e1 e2
    obtain ⟨hd, hc⟩ := Option.ite_none_right_eq_some.1 hc
    split at hc
    · rename_i htt
      obtain ⟨r, hr, hc⟩ := Option.bind_eq_some_iff.1 hc
      obtain ⟨q, hq, rfl⟩ := Option.map_eq_some_iff.1 hc
      exact pv e2 hd (ok_ixs h hd e1 hr hq htt hs)
    · cases hc
  · rename_i t x lo hi d e1 e2
    obtain ⟨hd, hc⟩ := Option.ite_none_right_eq_some.1 hc
    obtain ⟨r, hr, hc⟩ := Option.bind_eq_some_iff.1 hc
    obtain ⟨rl, hl, hc⟩ := Option.bind_eq_some_iff.1 hc
    obtain ⟨rh, hh, hc⟩ := Option.bind_eq_some_iff.1 hc
    obtain ⟨l1, l2⟩ := optOpn_ok hl
    obtain ⟨k1, k2⟩ := optOpn_ok hh
    split at hc
    · rename_i htt
      simp only [Option.some.injEq] at hc; subst hc
      exact pv e2 hd (ok_sls h hd e1 hr l1 l2 k1 k2 htt hs)
    · rename_i e htt
      obtain ⟨sz, hz, rfl⟩ := Option.map_eq_some_iff.1 hc
      split at hs
      · exact pv e2 hd (ok_slp h hd e1 hr l1 l2 k1 k2 htt hz hs)
      · rename_i hne
        rw [if_neg hne] at ht
        simp [takeOk, isPV] at ht
    · cases hc
  · obtain ⟨hd, hc⟩ := Option.ite_none_right_eq_some.1 hc
    obtain ⟨z, hz, hc⟩ := Option.bind_eq_some_iff.1 hc
    split at hc
    all_goals
      obtain ⟨h1, hc⟩ := Option.ite_none_right_eq_some.1 hc
      simp only [Option.some.injEq] at hc; subst hc
      simp [takeOk, isPV] at ht
  · obtain ⟨hd, hc⟩ := Option.ite_none_right_eq_some.1 hc
    obtain ⟨r, hr, hc⟩ := Option.bind_eq_some_iff.1 hc
    obtain ⟨n, hn, rfl⟩ := Option.map_eq_some_iff.1 hc
    simp [takeOk, isPV] at ht
  · -- a load
    rename_i t x d e1 e2
    obtain ⟨hd, hc⟩ := Option.ite_none_right_eq_some.1 hc
    obtain ⟨r, hr, hc⟩ := Option.bind_eq_some_iff.1 hc
    obtain ⟨p, hp, rfl⟩ := Option.map_eq_some_iff.1 hc
    simp only [takeOk] at ht
    have hl := ht
    have hX := hXB
    obtain ⟨x, v, k1, k2, k3⟩ := ok_ld (XB := XB) (fun b hb hx => by
        obtain ⟨o', y, q1, q2, q3, q4⟩ := hX b hx
        exact hb ⟨o', y, q2, q3, q4⟩) h e1 hr hp (fun o' y hor hy hhas b hb hx => by
        obtain ⟨o2, y2, q1, q2, q3, q4⟩ := hX b hx
        have : o' ∉ xo := by
          rcases hor with ⟨k, e⟩ | ⟨s, i, k, e⟩
          · rw [e] at hl; exact hl
          · rw [e] at hl; exact hl
        exact h.store.sep o' o2 y y2 hy q2 hhas q3 (fun e => this (e ▸ q1)) b hb q4) hs
    exact ⟨d, e2, hd, x, v, k1, k2, fun w' hw => k3 w' hw⟩
  · obtain ⟨r, hr, hc⟩ := Option.bind_eq_some_iff.1 hc
    obtain ⟨q, hq, hc⟩ := Option.bind_eq_some_iff.1 hc
    obtain ⟨p, hp, rfl⟩ := Option.map_eq_some_iff.1 hc
    simp [takeOk, isPV] at ht
  · rename_i x d e1 e2
    obtain ⟨hd, hc⟩ := Option.ite_none_right_eq_some.1 hc
    obtain ⟨r, hr, rfl⟩ := Option.map_eq_some_iff.1 hc
    exact pv e2 hd (ok_nc h hd e1 hr hs)
  · rename_i t x i d e1 e2
    obtain ⟨hd, hc⟩ := Option.ite_none_right_eq_some.1 hc
    split at hc
    · rename_i fs htt
      obtain ⟨f, hf, hc⟩ := Option.bind_eq_some_iff.1 hc
      obtain ⟨sz, hz, hc⟩ := Option.bind_eq_some_iff.1 hc
      split at hc
      · cases hc
      · rename_i h0
        obtain ⟨r, hr, rfl⟩ := Option.map_eq_some_iff.1 hc
        exact pv e2 hd (ok_fa h hd e1 hr htt hf hz h0 hs)
    · cases hc
  · rename_i t x i d e1 e2
    obtain ⟨hd, hc⟩ := Option.ite_none_right_eq_some.1 hc
    split at hc
    · rename_i fs htt
      obtain ⟨f, hf, hc⟩ := Option.bind_eq_some_iff.1 hc
      obtain ⟨sz, hz, hc⟩ := Option.bind_eq_some_iff.1 hc
      obtain ⟨ag, hag, hc⟩ := Option.bind_eq_some_iff.1 hc
      obtain ⟨r, hr, rfl⟩ := Option.map_eq_some_iff.1 hc
      exact pv e2 hd (ok_fd h hd e1 hr htt hf hz hag hs)
    · cases hc
  · rename_i t x i d e1 e2
    obtain ⟨hd, hc⟩ := Option.ite_none_right_eq_some.1 hc
    split at hc
    · rename_i e htt
      obtain ⟨sz, hz, hc⟩ := Option.bind_eq_some_iff.1 hc
      obtain ⟨r, hr, hc⟩ := Option.bind_eq_some_iff.1 hc
      obtain ⟨q, hq, rfl⟩ := Option.map_eq_some_iff.1 hc
      exact pv e2 hd (ok_ia h hd e1 hr hq htt hz hs)
    · cases hc
  · rename_i t ps d e1 e2
    obtain ⟨hd, hc⟩ := Option.ite_none_right_eq_some.1 hc
    split at hc
    · rename_i fs htt
      obtain ⟨z, hz, hc⟩ := Option.bind_eq_some_iff.1 hc
      obtain ⟨h1, hc⟩ := Option.ite_none_right_eq_some.1 hc
      rw [Bool.and_eq_true] at h1
      obtain ⟨qs, hq, rfl⟩ := Option.map_eq_some_iff.1 hc
      exact pv e2 hd (ok_bd h hd e1 htt hz (List.all_eq_true.1 h1.1) (places_run P fs h1.2) (bparts_ok hq) hs)
    · cases hc
  · obtain ⟨hd, hc⟩ := Option.ite_none_right_eq_some.1 hc
    split at hc
    · obtain ⟨z, hz, hc⟩ := Option.bind_eq_some_iff.1 hc
      obtain ⟨sz, hsz, hc⟩ := Option.bind_eq_some_iff.1 hc
      obtain ⟨_, hc⟩ := Option.ite_none_right_eq_some.1 hc
      obtain ⟨qs, hq, rfl⟩ := Option.map_eq_some_iff.1 hc
      simp [takeOk, isPV] at ht
    · cases hc
  · obtain ⟨hd, hc⟩ := Option.ite_none_right_eq_some.1 hc
    split at hc
    · cases hc
    · obtain ⟨r, hr, rfl⟩ := Option.map_eq_some_iff.1 hc
      simp [takeOk, isPV] at ht
    · cases hc
  · rename_i f first cs d e1 e2
    obtain ⟨⟨hd, hf0⟩, hc2⟩ := Option.ite_none_right_eq_some.1 hc
    clear hc
    have hc := hc2
    clear hc2
    have : first = #[] := Array.eq_empty_of_size_eq_zero hf0
    subst this
    obtain ⟨r, hr, rfl⟩ := Option.map_eq_some_iff.1 hc
    exact pv e2 hd (ok_mf h hd e1 (mapM_some hr) hs)
  · obtain ⟨r, hr, rfl⟩ := Option.map_eq_some_iff.1 hc
    simp [takeOk, isPV] at ht
  · obtain ⟨_, hc⟩ := Option.ite_none_right_eq_some.1 hc
    split at hc
    · obtain ⟨r, hr, rfl⟩ := Option.map_eq_some_iff.1 hc
      simp [takeOk, isPV] at ht
    · cases hc
  · obtain ⟨_, hc⟩ := Option.ite_none_right_eq_some.1 hc
    obtain ⟨r, hr, rfl⟩ := Option.map_eq_some_iff.1 hc
    simp [takeOk, isPV] at ht
  · rename_i c e1
    obtain ⟨callee, args, ts⟩ := c
    unfold copCall at hc
    split at hc
    · rename_i e3
      simp only at e3
      subst e3
      split at hc
      · rename_i d x t e2 e4 e5
        have e4' : args = #[x] := by cases args; simp_all
        have e5' : ts = #[t] := by cases ts; simp_all
        subst e4' e5'
        obtain ⟨hd, hc⟩ := Option.ite_none_right_eq_some.1 hc
        split at hc
        · rename_i htt
          obtain ⟨r, hr, rfl⟩ := Option.map_eq_some_iff.1 hc
          exact pv e2 hd (ok_lens h hd e1 hr htt hs)
        · rename_i e htt
          obtain ⟨r, hr, rfl⟩ := Option.map_eq_some_iff.1 hc
          exact pv e2 hd (ok_len h hd e1 hr htt hs)
        · cases hc
      · cases hc
    · split at hc
      · split at hc
        · split at hc
          · obtain ⟨i, hi, hc⟩ := Option.bind_eq_some_iff.1 hc
            obtain ⟨z, hz, hc⟩ := Option.bind_eq_some_iff.1 hc
            obtain ⟨_, hc⟩ := Option.ite_none_right_eq_some.1 hc
            obtain ⟨r, hr, hc⟩ := Option.bind_eq_some_iff.1 hc
            obtain ⟨q, hq, rfl⟩ := Option.map_eq_some_iff.1 hc
            simp [takeOk, isPV] at ht
          · cases hc
        · obtain ⟨_, hc⟩ := Option.ite_none_right_eq_some.1 hc
          split at hc
          · obtain ⟨i, hi, hc⟩ := Option.bind_eq_some_iff.1 hc
            obtain ⟨_, hc⟩ := Option.ite_none_right_eq_some.1 hc
            obtain ⟨r, hr, hc⟩ := Option.bind_eq_some_iff.1 hc
            obtain ⟨q, hq, rfl⟩ := Option.map_eq_some_iff.1 hc
            simp [takeOk, isPV] at ht
          · cases hc
      · cases hc
    · rename_i e3
      simp only at e3
      subst e3
      split at hc
      · rename_i d x ys e2 e4
        obtain ⟨hd, hc⟩ := Option.ite_none_right_eq_some.1 hc
        obtain ⟨r, hr, hc⟩ := Option.bind_eq_some_iff.1 hc
        obtain ⟨rs, hrs, rfl⟩ := Option.map_eq_some_iff.1 hc
        exact pv e2 hd (ok_mm (mn := true) h hd e4 e1 hr (mapM_some hrs) hs)
      · cases hc
    · rename_i e3
      simp only at e3
      subst e3
      split at hc
      · rename_i d x ys e2 e4
        obtain ⟨hd, hc⟩ := Option.ite_none_right_eq_some.1 hc
        obtain ⟨r, hr, hc⟩ := Option.bind_eq_some_iff.1 hc
        obtain ⟨rs, hrs, rfl⟩ := Option.map_eq_some_iff.1 hc
        exact pv e2 hd (ok_mm (mn := false) h hd e4 e1 hr (mapM_some hrs) hs)
      · cases hc
    · obtain ⟨_, hc⟩ := Option.ite_none_right_eq_some.1 hc
      split at hc
      · obtain ⟨_, hc⟩ := Option.ite_none_right_eq_some.1 hc
        obtain ⟨r, hr, rfl⟩ := Option.map_eq_some_iff.1 hc
        simp [takeOk, isPV] at ht
      · cases hc
    · obtain ⟨_, hc⟩ := Option.ite_none_right_eq_some.1 hc
      obtain ⟨r, hr, rfl⟩ := Option.map_eq_some_iff.1 hc
      simp [takeOk, isPV] at ht
    · cases hc
  · cases hc

theorem LiftE.quiet {K : Ex → St → Prop} {Kp : SV → Store → Prop} (d : Option Tmp) (v : Value) (c : List PanicEntry) (a : Act) (w : World) (h : LiftE H N w0 m0 B0 s0 K Kp (.panic c) (a.put d v) w) : LiftE H N w0 m0 B0 s0 K Kp (.panic c) a w :=
  ⟨by have := h.1; cases d <;> exact this, h.2⟩

/-- Since a place of a region: blocks that are not those of objects that the region may write. -/
def SI (xo : List Nat) (n0 : Nat) (w : World) (B : Nat → Nat → Prop) (s : Store) (w' : World) : Prop :=
  ∀ b, b < w.heap.size → ¬ (∃ o y, o ∈ xo ∧ o < n0 ∧ lk s.ob o = some y ∧ y.has = true ∧ B o b) → w'.heap[b]? = w.heap[b]?
theorem SI.trans {xo : List Nat} {n0 : Nat} {w w1 w2 : World} {m m1 : Nat → Value} {B B1 : Nat → Nat → Prop} {s s1 : Store} (hn : n0 ≤ s.n) (hS : Since w m B s w1 m1 B1 s1) (h : SI xo n0 w B s w1) (k : SI xo n0 w1 B1 s1 w2) : SI xo n0 w B s w2 := by
  intro b hb hno
  rw [k b (Nat.lt_of_lt_of_le hb hS.size) ?_, h b hb hno]
  rintro ⟨o, y, q1, q2, q3, q4, q5⟩
  rcases hS.keep o y b (Nat.lt_of_lt_of_le q2 hn) q3 q4 q5 with ⟨y', k1, k2, k3⟩ | k1
  · exact hno ⟨o, y', q1, q2, k1, k2, k3⟩
  · omega
theorem wpAnyH_mono {ops : Array Oper} {Q : Exit → Act → World → Prop} {S S' : World → Prop} (hS : ∀ w, S' w → S w) : ∀ (fuel : Nat) (listed : Array Bool) (a : Act) (w : World), wpAnyH P .any ops Q S' fuel listed a w → wpAnyH P .any ops Q S fuel listed a w
  | 0, _, _, _, h => h
  | fuel + 1, _, _, _, h => ⟨h.1, fun i hi => wpOp_mono (fun a' w' h' => ⟨hS w' h'.1, wpAnyH_mono hS fuel _ a' w' h'.2⟩) (h.2 i hi)⟩

/-- A region that draws its order: the plan's order stands for all. -/
theorem evDr_ok (hT : ∀ f, Sound G P f (T f)) {an : Nat → Nat} {ops : Array Oper} (hsel : Region.noSelect ops = true) {K : Ex → St → Prop} {Kp : SV → Store → Prop} {xo : List Nat} {n0 : Nat} :
    ∀ (l : List (Nat × Bool)) (listed : Array Bool) (gs : List (Nat × Bool × GOp)) (a : Act) (w : World) (m : Nat → Value) (B : Nat → Nat → Prop) (st : St),
    cdr P N an ops l = some gs → planOk ops l listed = true → Sat H N w m B a st → Since w0 m0 B0 s0 w m B st.store → n0 ≤ st.store.n → evDr T xo n0 gs st (K .normal) Kp →
    wpAnyH P .any ops (LiftE H N w0 m0 B0 s0 K Kp) (SI xo n0 w B st.store) l.length listed a w
  | [], listed, gs, a, w, m, B, st, hc, hp, h, hS, hn, hs => by
    simp only [cdr, Option.some.injEq] at hc; subst hc
    simp only [planOk, List.isEmpty_iff] at hp
    refine wpAnyH_done hp ?_ _
    exact ⟨m, B, st, hs, h, hS⟩
  | (i, tk) :: r, listed, gs, a, w, m, B, st, hc, hp, h, hS, hn, hs => by
    simp only [cdr] at hc
    obtain ⟨o, ho, hc⟩ := Option.bind_eq_some_iff.1 hc
    obtain ⟨g, hg, hc⟩ := Option.bind_eq_some_iff.1 hc
    obtain ⟨htk0, hc2⟩ := Option.ite_none_right_eq_some.1 hc
    obtain ⟨gs', hgs, rfl⟩ := Option.map_eq_some_iff.1 hc2
    obtain ⟨h1, h2, h3, h4⟩ := gop_ok hg
    obtain ⟨gg, gd', s, gb⟩ := g
    have hb : SI xo n0 w B st.store w := fun _ _ _ => rfl
    cases tk with
    | true =>
      simp only [planOk, Bool.and_eq_true] at hp
      obtain ⟨⟨p1, p2⟩, p3⟩ := hp
      -- taken, and performed
      have perform : ∀ st1 : St, Sat H N w m B a st1 → st1.store = st.store → ∀ K1 : St → Prop, Region.wanted o (yielded ops a.tmps) = true → (takeOk xo st1 s ∧ step T s st1 K1 Kp) →
          (∀ d x v, gd' = some d → d < N → K1 (st1.put d x) → Cn m st1.n (vw H w B st1.ob) x v → wpAnyH P .any ops (LiftE H N w0 m0 B0 s0 K Kp) (SI xo n0 w B st.store) r.length (listed.setIfInBounds i true) (a.put (some d) v) w) →
          wpAnyH P .any ops (LiftE H N w0 m0 B0 s0 K Kp) (SI xo n0 w B st.store) (r.length + 1) listed a w := by
        rintro st1 h st1e K1 hw ⟨ht, hs⟩ hcont
        obtain ⟨d, e2, hd, x, v, k1, k2, k3⟩ := take_ok h2 h ht hs (XB := fun b => ∃ o y, o ∈ xo ∧ o < n0 ∧ lk st.store.ob o = some y ∧ y.has = true ∧ B o b) (fun b hx => by
          obtain ⟨o', y, q1, q0, q2, q3, q4⟩ := hx
          exact ⟨o', y, q1, by rw [← st1e] at q2; exact q2, q3, q4⟩)
        refine wpAnyH_take (v := v) ho hsel p1 p2 (fun c a w hq => LiftE.quiet _ _ c a w hq) (.inl ⟨hw, fun w' hw' => k3 w' hw'⟩) hb ?_
        rw [e2]
        exact hcont d x v (h3.trans e2) hd k1 k2
      have skipped : ∀ x, Region.wanted o (yielded ops a.tmps) = false → evDr T xo n0 gs' (st.putO gd' (.opt false x)) (K .normal) Kp →
          wpAnyH P .any ops (LiftE H N w0 m0 B0 s0 K Kp) (SI xo n0 w B st.store) (r.length + 1) listed a w := by
        intro x hw hs
        refine wpAnyH_take (v := undef) ho hsel p1 p2 (fun c a w hq => LiftE.quiet _ _ c a w hq) (.inr ⟨hw, rfl⟩) hb ?_
        simp only at h3
        have := evDr_ok hT hsel (n0 := n0) r _ gs' (a.put o.dst undef) w m B (st.putO gd' (.opt false x)) hgs p3 (h3 ▸ h.optF _ _) (by rw [St.store_putO]; exact hS) (by rw [St.store_putO]; exact hn) hs
        rwa [St.store_putO] at this
      have go : ∀ st2 : St, st2.store = st.store → ∀ a', Sat H N w m B a' st2 → evDr T xo n0 gs' st2 (K .normal) Kp → wpAnyH P .any ops (LiftE H N w0 m0 B0 s0 K Kp) (SI xo n0 w B st.store) r.length (listed.setIfInBounds i true) a' w :=
        fun st2 e a' h' hs' => by
          have := evDr_ok hT hsel (n0 := n0) r _ gs' a' w m B st2 hgs p3 h' (by rw [e]; exact hS) (by rw [e]; exact hn) hs'
          rwa [e] at this
      cases gg with
      | none =>
        simp only [evDr, brk_eq] at hs
        obtain ⟨hs1, hs2⟩ := andC_iff.1 hs
        exact perform st h rfl _ (wanted_none h1) ⟨tkC_ok (by simpa using htk0) hs1, hs2⟩ (fun d x v e hd k1 k2 => go (st.put d x) rfl _ (h.put hd k2) k1)
      | some p =>
        obtain ⟨t, want⟩ := p
        simp only [evDr, brk_eq] at hs
        obtain ⟨c, e, hs⟩ := need_ex hs
        have hwc := gc_ok h h1 e
        cases hf : fnl s with
        | true =>
          rw [hf] at hs
          obtain ⟨hcond, hs⟩ := impC_iff.1 hs
          have hd := h4 hf
          cases c with
          | true =>
            obtain ⟨hu, hq0⟩ := oand_iff.1 (hcond rfl)
            obtain ⟨htk, hp⟩ := oand_iff.1 hq0
            replace hu := unC_iff.1 hu
            replace htk := tkC_ok (by simpa using htk0) htk
            obtain ⟨q, hq, hqc⟩ := pvD_ex hp
            have hst := pv_step (K := fun st' => st' = (st.unS (slots s)).putO gd' (pvX (pv T s (st.unS (slots s))))) (Kp := Kp) (fun f => (hT f).1) hq hqc (by rw [hd])
            refine perform _ (h.unS hu) (St.unS_store _ _) _ hwc ⟨htk, hst⟩ (fun d x v e2 hd2 k1 k2 => ?_)
            have hsat := (h.unS hu).put hd2 k2
            rw [k1] at hsat
            subst e2
            exact go _ (by rw [St.store_putO]) _ (Sat.optT hu hsat) hs
          | false => exact skipped _ hwc hs
        | false =>
          rw [hf] at hs
          obtain ⟨hy, hn'⟩ := hs
          cases c with
          | true =>
            obtain ⟨hq0, hst⟩ := andC_iff.1 (hy rfl)
            obtain ⟨hu, htk⟩ := oand_iff.1 hq0
            replace hu := unC_iff.1 hu
            replace htk := tkC_ok (by simpa using htk0) htk
            refine perform _ (h.unS hu) (St.unS_store _ _) _ hwc ⟨htk, hst⟩ (fun d x v e2 hd2 k1 k2 => go _ ?_ _ ((h.unS hu).put hd2 k2) k1)
            rw [St.store_put, St.unS_store]
          | false => exact skipped _ hwc (hn' rfl)
    | false =>
      simp only [planOk, Bool.and_eq_true, beq_iff_eq] at hp
      obtain ⟨p1, p2⟩ := hp
      have perform : ∀ st1 : St, Sat H N w m B a st1 → st1.store = st.store → ∀ K1 : St → Prop, Region.wanted o (yielded ops a.tmps) = true → (modsOk xo n0 (mods s st1) ∧ step T s st1 K1 Kp) →
          (∀ a' w', Lift H N w m B st.store K1 a' w' → SI xo n0 w B st.store w' → wpAnyH P .any ops (LiftE H N w0 m0 B0 s0 K Kp) (SI xo n0 w B st.store) r.length (listed.setIfInBounds i true) a' w') →
          wpAnyH P .any ops (LiftE H N w0 m0 B0 s0 K Kp) (SI xo n0 w B st.store) (r.length + 1) listed a w := by
        rintro st1 hst1 st1e K1 hw ⟨hm, hs2⟩ hcont
        refine wpAnyH_all p1 (by simp) ?_
        intro j hj
        simp only [List.mem_singleton] at hj
        subst hj
        unfold wpOp
        simp only [ho, hw, if_true]
        refine .inl (cop_ok (XB := fun b => ∃ o y, o ∈ mods s st1 ∧ lk st1.ob o = some y ∧ y.has = true ∧ B o b) hT h2 hst1 (fun o' ho' y b q1 q2 q3 => ⟨o', y, ho', q1, q2, q3⟩) hs2 _ _ (fun a' w' hh hsame => ?_) (fun ch a' w' hd hp => ⟨hd, by rw [st1e] at hp; exact hp.since hS⟩))
        have hb' : SI xo n0 w B st.store w' := by
          intro b hbl hno
          refine hsame b hbl ?_
          rintro ⟨o', y, q1, q2, q3, q4⟩
          obtain ⟨z1, z2⟩ := hm o' q1
          have q2' : lk st.store.ob o' = some y := by rw [← st1e]; exact q2
          exact hno ⟨o', y, z1, z2, q2', q3, q4⟩
        rw [st1e] at hh
        exact ⟨hb', hcont a' w' hh hb'⟩
      have go : ∀ (K1 : St → Prop), (∀ st2, K1 st2 → evDr T xo n0 gs' st2 (K .normal) Kp) → ∀ a' w', Lift H N w m B st.store K1 a' w' → SI xo n0 w B st.store w' → wpAnyH P .any ops (LiftE H N w0 m0 B0 s0 K Kp) (SI xo n0 w B st.store) r.length (listed.setIfInBounds i true) a' w' := by
        rintro K1 hK a' w' ⟨m', B', st', k1, k2, k3⟩ hb'
        exact wpAnyH_mono (fun x hx => SI.trans hn k3 hb' hx) _ _ _ _ (evDr_ok hT hsel (n0 := n0) r _ gs' a' w' m' B' st' hgs p2 k2 (hS.trans k3) (Nat.le_trans hn k3.n) (hK _ k1))
      have skipped : ∀ x, Region.wanted o (yielded ops a.tmps) = false → evDr T xo n0 gs' (st.putO gd' (.opt false x)) (K .normal) Kp →
          wpAnyH P .any ops (LiftE H N w0 m0 B0 s0 K Kp) (SI xo n0 w B st.store) (r.length + 1) listed a w := by
        intro x hw hs2
        refine wpAnyH_all p1 (by simp) ?_
        intro j hj
        simp only [List.mem_singleton] at hj
        subst hj
        unfold wpOp
        simp only [ho, hw, Bool.false_eq_true, if_false]
        simp only at h3
        have := evDr_ok hT hsel (n0 := n0) r _ gs' (a.put o.dst undef) w m B (st.putO gd' (.opt false x)) hgs p2 (h3 ▸ h.optF _ _) (by rw [St.store_putO]; exact hS) (by rw [St.store_putO]; exact hn) hs2
        rw [St.store_putO] at this
        exact ⟨hb, this⟩
      cases gg with
      | none =>
        simp only [evDr, brk_eq] at hs
        obtain ⟨hs1, hs2⟩ := andC_iff.1 hs
        exact perform st h rfl _ (wanted_none h1) ⟨moC_ok hs1, hs2⟩ (go _ fun _ hk => hk)
      | some p =>
        obtain ⟨t, want⟩ := p
        simp only [evDr, brk_eq] at hs
        obtain ⟨c, e, hs'⟩ := need_ex hs
        have hwc := gc_ok h h1 e
        cases hf : fnl s with
        | true =>
          rw [hf] at hs'
          obtain ⟨hcond, hs'⟩ := impC_iff.1 hs'
          have hd := h4 hf
          cases c with
          | true =>
            obtain ⟨hu, hq0⟩ := oand_iff.1 (hcond rfl)
            obtain ⟨hmo, hp⟩ := oand_iff.1 hq0
            replace hu := unC_iff.1 hu
            replace hmo := moC_ok hmo
            obtain ⟨q, hq, hqc⟩ := pvD_ex hp
            have hst := pv_step (K := fun st' => st' = (st.unS (slots s)).putO gd' (pvX (pv T s (st.unS (slots s))))) (Kp := Kp) (fun f => (hT f).1) hq hqc (by rw [hd])
            exact perform _ (h.unS hu) (St.unS_store _ _) _ hwc ⟨hmo, hst⟩ fun a' w' hh hb' => go _ (fun st2 e => by rw [e]; exact hs') a' w' (Lift.opt hu hh) hb'
          | false => exact skipped _ hwc hs'
        | false =>
          rw [hf] at hs'
          obtain ⟨hy, hn'⟩ := hs'
          cases c with
          | true =>
            obtain ⟨hq0, hst⟩ := andC_iff.1 (hy rfl)
            obtain ⟨hu, hmo⟩ := oand_iff.1 hq0
            replace hu := unC_iff.1 hu
            replace hmo := moC_ok hmo
            exact perform _ (h.unS hu) (St.unS_store _ _) _ hwc ⟨hmo, hst⟩ (go _ fun _ hk => hk)
          | false => exact skipped _ hwc (hn' rfl)

end
end Go.Ev
