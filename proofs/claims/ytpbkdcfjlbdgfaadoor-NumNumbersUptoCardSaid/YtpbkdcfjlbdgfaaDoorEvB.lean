/- The abstract states of the evaluator: owned objects, stores and states; how a state changes. -/
import Derived.Test.YtpbkdcfjlbdgfaaDoorEvA
set_option linter.unusedVariables false
set_option linter.unusedSimpArgs false
namespace Go.Ev
open Go

def lk {β : Type} : List (Nat × β) → Nat → Option β
  | [], _ => none
  | (j, b) :: r, k => cond (j == k) (some b) (lk r k)
theorem lk_cons {β : Type} (k : Nat) (b : β) (r : List (Nat × β)) (j : Nat) : lk ((k, b) :: r) j = if k = j then some b else lk r j := by
  simp only [lk]
  by_cases h : k = j
  · subst h; simp
  · have : (k == j) = false := by simpa using h
    rw [this, if_neg h]; rfl

inductive Ob where
  | dead
  | cells (t : TypeId) (l : List SV)
  | row (t : TypeId) (sz : Nat) (rows : List (List D))
  | fro (rows : List (List D))
  | bld (t u : TypeId) (bs : List UInt8)
  | iter (s : ByteArray) (p : Nat)
  deriving Inhabited

/-- Does an object own memory? -/
def Ob.has : Ob → Bool
  | .cells .. | .row .. | .bld .. | .iter .. => true
  | _ => false

def byteVals (bs : List UInt8) : List Value := bs.map fun b => .int .u8 b.toNat

def ObS (w : World) (m : Nat → Value) (n : Nat) (c : Rdr) (o : Nat) (B : Nat → Prop) : Ob → Prop
  | .dead => True
  | .cells t l => ∃ b cs, m o = .pointer (some ⟨b, 0, none⟩) ∧ w.heap[b]? = some (.cells cs t (0, 0)) ∧ CnL m n c l cs.toList ∧ (∀ x ∈ cs.toList, x.oneCell' = true) ∧ ∀ x, B x ↔ x = b
  | .row t sz rows => ∃ xs, w.ownsRow 0 t sz (m o) rows.length xs ∧ RdL c rows.flatten xs ∧ (∀ r ∈ rows, r.length = sz) ∧ ∀ x, B x ↔ (m o).ownBlock = some x
  | .fro rows => Rd c (.sl rows) (m o)
  | .bld t u bs => ∃ b p v, m o = .pointer (some ⟨b, 0, none⟩) ∧ w.heap[b]? = some (.cells #[p, v] t (0, 0)) ∧ (p = .pointer none ∨ p = m o) ∧ w.ownsRow 0 u 1 v bs.length (byteVals bs) ∧ v.ownBlock ≠ some b ∧ ∀ x, B x ↔ (x = b ∨ v.ownBlock = some x)
  | .iter t p => ∃ b, m o = .pointer (some ⟨b, 0, none⟩) ∧ w.heap[b]? = some (.stringIter t p) ∧ ∀ x, B x ↔ x = b

/-- Is a block one of an object's? -/
def owns (B : Nat → Nat → Prop) (ob : List (Nat × Ob)) (b : Nat) : Prop := ∃ o x, lk ob o = some x ∧ x.has = true ∧ B o b
/-- What is hidden: blocks; among them those of laid variables, of which G speaks. -/
structure Hd (G : World → Prop) where
  hid : Nat → Prop
  gb : Nat → Prop
  sub : ∀ b, gb b → hid b
  st : ∀ w w', G w → (∀ b, gb b → w'.heap[b]? = w.heap[b]?) → G w'
instance {G : World → Prop} : CoeFun (Hd G) (fun _ => Nat → Prop) := ⟨Hd.hid⟩
/-- What can be read beside the objects; H: blocks that are hidden besides. -/
def vw {G : World → Prop} (H : Hd G) (w : World) (B : Nat → Nat → Prop) (ob : List (Nat × Ob)) : Rdr := fun a u => w.cell? a = some u ∧ ¬ owns B ob a.block ∧ ¬ H a.block

structure Store where
  n : Nat
  ob : List (Nat × Ob)

structure SOk {G : World → Prop} (H : Hd G) (w : World) (m : Nat → Value) (B : Nat → Nat → Prop) (s : Store) : Prop where
  obs : ∀ o x, lk s.ob o = some x → ObS w m s.n (vw H w B s.ob) o (B o) x
  lt : ∀ o x, lk s.ob o = some x → o < s.n
  sep : ∀ o o' x x', lk s.ob o = some x → lk s.ob o' = some x' → x.has = true → x'.has = true → o ≠ o' → ∀ b, B o b → ¬ B o' b
  blk : ∀ o x b, lk s.ob o = some x → x.has = true → B o b → b < w.heap.size
  hid : ∀ b, H b → b < w.heap.size
  gw : G w
  seph : ∀ o x b, lk s.ob o = some x → x.has = true → B o b → ¬ H b

/-- How a later store stands to an elder one. -/
structure Since (w : World) (m : Nat → Value) (B : Nat → Nat → Prop) (s : Store) (w' : World) (m' : Nat → Value) (B' : Nat → Nat → Prop) (s' : Store) : Prop where
  os : w'.os = w.os
  tape : w'.tape = w.tape
  output : w'.output = w.output
  size : w.heap.size ≤ w'.heap.size
  block : ∀ b, b < w.heap.size → ¬ owns B s.ob b → w'.heap[b]? = w.heap[b]?
  own : ∀ b, owns B' s'.ob b → owns B s.ob b ∨ w.heap.size ≤ b
  n : s.n ≤ s'.n
  m : ∀ o, o < s.n → m' o = m o
  keep : ∀ o x b, o < s.n → lk s'.ob o = some x → x.has = true → B' o b → (∃ y, lk s.ob o = some y ∧ y.has = true ∧ B o b) ∨ w.heap.size ≤ b

theorem SOk.gs {G : World → Prop} {H : Hd G} {w w1 : World} {m m1 : Nat → Value} {B B1 : Nat → Nat → Prop} {s s1 : Store} (h : SOk H w m B s) (hS : Since w m B s w1 m1 B1 s1) : G w1 :=
  H.st w w1 h.gw fun b hb => hS.block b (h.hid b (H.sub b hb)) fun ⟨o, x, h1, h2, h3⟩ => h.seph o x b h1 h2 h3 (H.sub b hb)
theorem Since.refl (w : World) (m : Nat → Value) (B : Nat → Nat → Prop) (s : Store) : Since w m B s w m B s :=
  ⟨rfl, rfl, rfl, Nat.le_refl _, fun _ _ _ => rfl, fun _ h => .inl h, Nat.le_refl _, fun _ _ => rfl, fun o x b _ h1 h2 h3 => .inl ⟨x, h1, h2, h3⟩⟩

section
variable {w w1 w2 : World} {m m1 m2 : Nat → Value} {B B1 B2 : Nat → Nat → Prop} {s s1 s2 : Store}
theorem Since.trans (h : Since w m B s w1 m1 B1 s1) (k : Since w1 m1 B1 s1 w2 m2 B2 s2) : Since w m B s w2 m2 B2 s2 where
  os := k.os.trans h.os
  tape := k.tape.trans h.tape
  output := k.output.trans h.output
  size := Nat.le_trans h.size k.size
  block b hb ho := by
    rw [k.block b (Nat.lt_of_lt_of_le hb h.size) (fun h1 => (h.own b h1).elim ho (fun h2 => by omega)), h.block b hb ho]
  own b hb := by
    rcases k.own b hb with h1 | h1
    · exact h.own b h1
    · exact .inr (Nat.le_trans h.size h1)
  n := Nat.le_trans h.n k.n
  m o ho := (k.m o (Nat.lt_of_lt_of_le ho h.n)).trans (h.m o ho)
  keep o x b ho h1 h2 h3 := by
    rcases k.keep o x b (Nat.lt_of_lt_of_le ho h.n) h1 h2 h3 with ⟨y, k1, k2, k3⟩ | k1
    · exact h.keep o y b ho k1 k2 k3
    · exact .inr (Nat.le_trans h.size k1)

theorem cell_lt {w : World} {a : Addr} {u : Value} (h : w.cell? a = some u) : a.block < w.heap.size := by
  unfold World.cell? at h
  split at h
  · rename_i h1; exact (Array.getElem?_eq_some_iff.1 h1).1
  · cases h

theorem Since.vw {G : World → Prop} {H : Hd G} (h : Since w m B s w1 m1 B1 s1) : ∀ a u, Go.Ev.vw H w B s.ob a u → Go.Ev.vw H w1 B1 s1.ob a u := by
  rintro a u ⟨h1, h2, hH⟩
  have hl := cell_lt h1
  refine ⟨?_, fun h3 => ?_, hH⟩
  · rw [World.cell?_of_block (h.block _ hl h2)]; exact h1
  · rcases h.own _ h3 with h4 | h4
    · exact h2 h4
    · omega

theorem Since.cn {G : World → Prop} {H : Hd G} (h : Since w m B s w1 m1 B1 s1) (x : SV) (y : Value) (hx : Cn m s.n (Go.Ev.vw H w B s.ob) x y) : Cn m1 s1.n (Go.Ev.vw H w1 B1 s1.ob) x y :=
  Cn_mono h.n h.m h.vw x y hx
theorem Since.cnL {G : World → Prop} {H : Hd G} (h : Since w m B s w1 m1 B1 s1) (x : List SV) (y : List Value) (hx : CnL m s.n (Go.Ev.vw H w B s.ob) x y) : CnL m1 s1.n (Go.Ev.vw H w1 B1 s1.ob) x y :=
  CnL_mono h.n h.m h.vw x y hx
end

/-- A state: slots and a store. -/
structure St where
  sl : List (Nat × SV)
  n : Nat
  ob : List (Nat × Ob)

def St.store (s : St) : Store := ⟨s.n, s.ob⟩
def St.get (s : St) (k : Nat) : SV := (lk s.sl k).getD .any
def St.put (s : St) (k : Nat) (x : SV) : St := { s with sl := (k, x) :: s.sl }
def St.putO (s : St) (d : Option Nat) (x : SV) : St := match d with | some k => s.put k x | none => s
@[simp] theorem St.store_put (s : St) (k : Nat) (x : SV) : (s.put k x).store = s.store := rfl
@[simp] theorem St.store_putO (s : St) (k : Option Nat) (x : SV) : (s.putO k x).store = s.store := by cases k <;> rfl
theorem St.get_put (s : St) (k j : Nat) (x : SV) : (s.put k x).get j = if k = j then x else s.get j := by
  unfold St.get St.put
  simp only [lk_cons]
  split <;> simp

def SlOk (m : Nat → Value) (n : Nat) (c : Rdr) (a : Act) (s : St) : Prop := ∀ k, Cn m n c (s.get k) (a.tmps.getD k undef)

theorem getD_put (a : Act) (d k : Nat) (v : Value) (hd : d < a.tmps.size) : (a.put (some d) v).tmps.getD k undef = if d = k then v else a.tmps.getD k undef := by
  simp only [Act.put, Array.getD_eq_getD_getElem?, Array.getElem?_setIfInBounds]
  by_cases h : d = k
  · subst h; simp [hd]
  · simp [h]

theorem SlOk.put {m : Nat → Value} {n : Nat} {c : Rdr} {a : Act} {s : St} (h : SlOk m n c a s) {d : Nat} (hd : d < a.tmps.size) {x : SV} {v : Value} (hx : Cn m n c x v) : SlOk m n c (a.put (some d) v) (s.put d x) := by
  intro k
  rw [getD_put _ _ _ _ hd, St.get_put]
  by_cases e : d = k
  · simp only [e, if_true]; exact hx
  · simp only [e, if_false]; exact h k

/-- A frame and a world are as a state says; N: how many slots there are. -/
structure Sat {G : World → Prop} (H : Hd G) (N : Nat) (w : World) (m : Nat → Value) (B : Nat → Nat → Prop) (a : Act) (s : St) : Prop where
  size : a.tmps.size = N
  defers : a.defers = []
  slots : SlOk m s.n (vw H w B s.ob) a s
  store : SOk H w m B s.store

theorem Sat.put {G : World → Prop} {H : Hd G} {N : Nat} {w : World} {m : Nat → Value} {B : Nat → Nat → Prop} {a : Act} {s : St} (h : Sat H N w m B a s) {d : Nat} (hd : d < N) {x : SV} {v : Value} (hx : Cn m s.n (vw H w B s.ob) x v) : Sat H N w m B (a.put (some d) v) (s.put d x) :=
  ⟨by simp [Act.put, h.size], h.defers, h.slots.put (by rw [h.size]; exact hd) hx, h.store⟩

/-- Into a later world and store. -/
theorem SlOk.since {G : World → Prop} {H : Hd G} {w w1 : World} {m m1 : Nat → Value} {B B1 : Nat → Nat → Prop} {s s1 : Store} (h : Since w m B s w1 m1 B1 s1) {a : Act} {sl : List (Nat × SV)}
    (hs : SlOk m s.n (vw H w B s.ob) a ⟨sl, s.n, s.ob⟩) : SlOk m1 s1.n (vw H w1 B1 s1.ob) a ⟨sl, s1.n, s1.ob⟩ :=
  fun k => h.cn _ _ (hs k)

/-- An object whose blocks stand as they stood is what it was. -/
theorem ObS.keep {w w1 : World} {m m1 : Nat → Value} {n n1 : Nat} {c c1 : Rdr} {o : Nat} {B : Nat → Prop} {x : Ob} (h : ObS w m n c o B x) (hn : n ≤ n1) (ho : o < n)
    (hm : ∀ o, o < n → m1 o = m o) (hc : ∀ a u, c a u → c1 a u) (hb : ∀ b, x.has = true → B b → w1.heap[b]? = w.heap[b]?) : ObS w1 m1 n1 c1 o B x := by
  cases x with
  | dead => trivial
  | cells t l =>
    obtain ⟨b, cs, h1, h2, h3, h4, h5⟩ := h
    exact ⟨b, cs, by rw [hm o ho]; exact h1, by rw [hb b rfl ((h5 b).2 rfl)]; exact h2, CnL_mono hn hm hc _ _ h3, h4, h5⟩
  | row t sz rows =>
    obtain ⟨xs, h1, h2, h3, h4⟩ := h
    refine ⟨xs, ?_, RdL_mono hc _ _ h2, h3, by rw [hm o ho]; exact h4⟩
    rw [hm o ho]
    obtain ⟨g1, g2⟩ := h1
    refine ⟨g1, g2.imp id ?_⟩
    rintro ⟨g, cap, cur, e1, e2, e3, e4⟩
    exact ⟨g, cap, cur, e1, e2, by rw [hb g rfl ((h4 g).2 (by rw [e1]; rfl))]; exact e3, e4⟩
  | fro rows => exact (by simp only [ObS] at h ⊢; rw [hm o ho]; exact Rd_mono hc _ _ h)
  | bld t u bs =>
    obtain ⟨b, p, v, h1, h2, h3, h4, h5, h6⟩ := h
    refine ⟨b, p, v, by rw [hm o ho]; exact h1, by rw [hb b rfl ((h6 b).2 (.inl rfl))]; exact h2, by rw [hm o ho]; exact h3, ?_, h5, h6⟩
    obtain ⟨g1, g2⟩ := h4
    refine ⟨g1, g2.imp id ?_⟩
    rintro ⟨g, cap, cur, e1, e2, e3, e4⟩
    exact ⟨g, cap, cur, e1, e2, by rw [hb g rfl ((h6 g).2 (.inr (by rw [e1]; rfl)))]; exact e3, e4⟩
  | iter t p =>
    obtain ⟨b, h1, h2, h3⟩ := h
    exact ⟨b, by rw [hm o ho]; exact h1, by rw [hb b rfl ((h3 b).2 rfl)]; exact h2, h3⟩


/-- A NEW OBJECT, or none: the world has grown by blocks that nobody had; the store by one entry whose number is the next one. -/
theorem SOk.add {G : World → Prop} {H : Hd G} {w w1 : World} {m : Nat → Value} {B : Nat → Nat → Prop} {s : Store} (h : SOk H w m B s) (x : Ob) (v : Value) (Bn : Nat → Prop)
    (os : w1.os = w.os) (tape : w1.tape = w.tape) (output : w1.output = w.output) (size : w.heap.size ≤ w1.heap.size) (old : ∀ b, b < w.heap.size → w1.heap[b]? = w.heap[b]?)
    (hB : ∀ b, x.has = true → Bn b → w.heap.size ≤ b ∧ b < w1.heap.size)
    (hx : ∀ c : Rdr, (∀ a u, vw H w B s.ob a u → c a u) → ObS w1 (fun o => if o = s.n then v else m o) (s.n + 1) c s.n Bn x) :
    Since w m B s w1 (fun o => if o = s.n then v else m o) (fun o => if o = s.n then Bn else B o) ⟨s.n + 1, (s.n, x) :: s.ob⟩ ∧
    SOk H w1 (fun o => if o = s.n then v else m o) (fun o => if o = s.n then Bn else B o) ⟨s.n + 1, (s.n, x) :: s.ob⟩ := by
  have hne : ∀ o y, lk s.ob o = some y → o ≠ s.n := fun o y ho e => by have := h.lt o y ho; omega
  have hS : Since w m B s w1 (fun o => if o = s.n then v else m o) (fun o => if o = s.n then Bn else B o) ⟨s.n + 1, (s.n, x) :: s.ob⟩ := by
    refine ⟨os, tape, output, size, fun b hb _ => old b hb, ?_, Nat.le_succ _, fun o ho => by simp; omega, ?_⟩
    · rintro b ⟨o, y, h1, h2, h3⟩
      simp only [lk_cons] at h1
      by_cases e : s.n = o
      · subst e
        simp only [if_true, Option.some.injEq] at h1 h3
        subst h1
        exact .inr (hB b h2 h3).1
      · simp only [e, if_false] at h1
        have e' : o ≠ s.n := fun h => e h.symm
        simp only [e', if_false] at h3
        exact .inl ⟨o, y, h1, h2, h3⟩
    · intro o y b ho h1 h2 h3
      have e : s.n ≠ o := by omega
      have e' : o ≠ s.n := by omega
      simp only [lk_cons, e, if_false] at h1
      simp only [e', if_false] at h3
      exact .inl ⟨y, h1, h2, h3⟩
  refine ⟨hS, ?_, ?_, ?_, ?_, fun b hb => Nat.lt_of_lt_of_le (h.hid b hb) size, h.gs hS, ?_⟩
  · intro o y ho
    simp only [lk_cons] at ho
    by_cases e : s.n = o
    · subst e
      simp only [if_true, Option.some.injEq] at ho
      subst ho
      have := hx _ hS.vw
      simpa using this
    · simp only [e, if_false] at ho
      have e' : o ≠ s.n := fun h => e h.symm
      have := (h.obs o y ho).keep (w1 := w1) hS.n (h.lt o y ho) hS.m hS.vw (fun b hy hb => old b (h.blk o y b ho hy hb))
      simpa [e'] using this
  · intro o y ho
    simp only [lk_cons] at ho
    by_cases e : s.n = o
    · subst e; simp
    · simp only [e, if_false] at ho
      have := h.lt o y ho
      simp; omega
  · intro o o' y y' ho ho' hy hy' hoo b hb hb'
    simp only [lk_cons] at ho ho'
    by_cases e : s.n = o
    · subst e
      have e' : o' ≠ s.n := fun h => hoo h.symm
      simp only [if_true, Option.some.injEq] at ho hb
      subst ho
      have e2 : s.n ≠ o' := hoo
      simp only [e2, if_false] at ho'
      simp only [e', if_false] at hb'
      have h1 := hB b hy hb
      have h2 := h.blk o' y' b ho' hy' hb'
      omega
    · simp only [e, if_false] at ho
      have e1 : o ≠ s.n := fun h => e h.symm
      simp only [e1, if_false] at hb
      by_cases e' : s.n = o'
      · subst e'
        simp only [if_true, Option.some.injEq] at ho' hb'
        subst ho'
        have h1 := hB b hy' hb'
        have h2 := h.blk o y b ho hy hb
        omega
      · simp only [e', if_false] at ho'
        have e2 : o' ≠ s.n := fun h => e' h.symm
        simp only [e2, if_false] at hb'
        exact h.sep o o' y y' ho ho' hy hy' hoo b hb hb'
  · intro o y b ho hy hb
    simp only [lk_cons] at ho
    by_cases e : s.n = o
    · subst e
      simp only [if_true, Option.some.injEq] at ho hb
      subst ho
      exact (hB b hy hb).2
    · simp only [e, if_false] at ho
      have e1 : o ≠ s.n := fun h => e h.symm
      simp only [e1, if_false] at hb
      exact Nat.lt_of_lt_of_le (h.blk o y b ho hy hb) size
  · intro o y b ho hy hb hh
    simp only [lk_cons] at ho
    by_cases e : s.n = o
    · subst e
      simp only [if_true, Option.some.injEq] at ho hb
      subst ho
      have := (hB b hy hb).1
      have := h.hid b hh
      omega
    · simp only [e, if_false] at ho
      have e1 : o ≠ s.n := fun h => e h.symm
      simp only [e1, if_false] at hb
      exact h.seph o y b ho hy hb hh

/-- AN OBJECT IS CHANGED: only its own blocks, and new ones, are touched. -/
theorem SOk.upd {G : World → Prop} {H : Hd G} {w w1 : World} {m : Nat → Value} {B : Nat → Nat → Prop} {s : Store} (h : SOk H w m B s) (o : Nat) (x0 x : Ob) (ho : lk s.ob o = some x0) (h0 : x0.has = true) (Bn : Nat → Prop)
    (os : w1.os = w.os) (tape : w1.tape = w.tape) (output : w1.output = w.output) (size : w.heap.size ≤ w1.heap.size) (old : ∀ b, b < w.heap.size → ¬ B o b → w1.heap[b]? = w.heap[b]?)
    (hB : ∀ b, x.has = true → Bn b → b < w1.heap.size ∧ (B o b ∨ w.heap.size ≤ b))
    (hx : ∀ c : Rdr, (∀ a u, vw H w B s.ob a u → c a u) → (∀ a u, w1.cell? a = some u → ¬ (x.has = true ∧ Bn a.block) → B o a.block → c a u) → ObS w1 m s.n c o Bn x) :
    Since w m B s w1 m (fun k => if k = o then Bn else B k) ⟨s.n, (o, x) :: s.ob⟩ ∧
    SOk H w1 m (fun k => if k = o then Bn else B k) ⟨s.n, (o, x) :: s.ob⟩ := by
  have hS : Since w m B s w1 m (fun k => if k = o then Bn else B k) ⟨s.n, (o, x) :: s.ob⟩ := by
    refine ⟨os, tape, output, size, fun b hb hn => old b hb (fun hb' => hn ⟨o, x0, ho, h0, hb'⟩), ?_, Nat.le_refl _, fun _ _ => rfl, ?_⟩
    · rintro b ⟨k, y, h1, h2, h3⟩
      simp only [lk_cons] at h1
      by_cases e : o = k
      · subst e
        simp only [if_true, Option.some.injEq] at h1 h3
        subst h1
        rcases (hB b h2 h3).2 with h4 | h4
        · exact .inl ⟨o, x0, ho, h0, h4⟩
        · exact .inr h4
      · simp only [e, if_false] at h1
        have e' : k ≠ o := fun h => e h.symm
        simp only [e', if_false] at h3
        exact .inl ⟨k, y, h1, h2, h3⟩
    · intro k y b hk h1 h2 h3
      simp only [lk_cons] at h1
      by_cases e : o = k
      · subst e
        simp only [if_true, Option.some.injEq] at h1 h3
        subst h1
        rcases (hB b h2 h3).2 with h4 | h4
        · exact .inl ⟨x0, ho, h0, h4⟩
        · exact .inr h4
      · simp only [e, if_false] at h1
        have e' : k ≠ o := fun h => e h.symm
        simp only [e', if_false] at h3
        exact .inl ⟨y, h1, h2, h3⟩
  have hsame : ∀ k y, lk s.ob k = some y → k ≠ o → y.has = true → ∀ b, B k b → w1.heap[b]? = w.heap[b]? := fun k y hk hko hy b hb =>
    old b (h.blk k y b hk hy hb) (h.sep k o y x0 hk ho hy h0 hko b hb)
  refine ⟨hS, ?_, ?_, ?_, ?_, fun b hb => Nat.lt_of_lt_of_le (h.hid b hb) size, h.gs hS, ?_⟩
  · intro k y hk
    simp only [lk_cons] at hk
    by_cases e : o = k
    · subst e
      simp only [if_true, Option.some.injEq] at hk
      subst hk
      have := hx _ hS.vw (fun a u h1 h2 h3 => ⟨h1, fun h4 => by
        obtain ⟨k, y, k1, k2, k3⟩ := h4
        simp only [lk_cons] at k1
        by_cases e : o = k
        · subst e
          simp only [if_true, Option.some.injEq] at k1 k3
          subst k1
          exact h2 ⟨k2, k3⟩
        · simp only [e, if_false] at k1
          have e' : k ≠ o := fun h => e h.symm
          simp only [e', if_false] at k3
          exact h.sep k o y x0 k1 ho k2 h0 e' _ k3 h3, h.seph o x0 _ ho h0 h3⟩)
      simpa using this
    · simp only [e, if_false] at hk
      have e' : k ≠ o := fun h => e h.symm
      have := (h.obs k y hk).keep (w1 := w1) hS.n (h.lt k y hk) hS.m hS.vw (fun b hy hb => hsame k y hk e' hy b hb)
      simpa [e'] using this
  · intro k y hk
    simp only [lk_cons] at hk
    by_cases e : o = k
    · subst e; exact h.lt o x0 ho
    · simp only [e, if_false] at hk; exact h.lt k y hk
  · intro k k' y y' hk hk' hy hy' hkk b hb hb'
    simp only [lk_cons] at hk hk'
    by_cases e : o = k
    · subst e
      have e' : k' ≠ o := fun h => hkk h.symm
      simp only [if_true, Option.some.injEq] at hk hb
      subst hk
      have e2 : o ≠ k' := hkk
      simp only [e2, if_false] at hk'
      simp only [e', if_false] at hb'
      rcases (hB b hy hb).2 with h1 | h1
      · exact h.sep o k' x0 y' ho hk' h0 hy' e2 b h1 hb'
      · have h2 := h.blk k' y' b hk' hy' hb'
        omega
    · simp only [e, if_false] at hk
      have e1 : k ≠ o := fun h => e h.symm
      simp only [e1, if_false] at hb
      by_cases e' : o = k'
      · subst e'
        simp only [if_true, Option.some.injEq] at hk' hb'
        subst hk'
        rcases (hB b hy' hb').2 with h1 | h1
        · exact h.sep k o y x0 hk ho hy h0 e1 b hb h1
        · have h2 := h.blk k y b hk hy hb
          omega
      · simp only [e', if_false] at hk'
        have e2 : k' ≠ o := fun h => e' h.symm
        simp only [e2, if_false] at hb'
        exact h.sep k k' y y' hk hk' hy hy' hkk b hb hb'
  · intro k y b hk hy hb
    simp only [lk_cons] at hk
    by_cases e : o = k
    · subst e
      simp only [if_true, Option.some.injEq] at hk hb
      subst hk
      exact (hB b hy hb).1
    · simp only [e, if_false] at hk
      have e1 : k ≠ o := fun h => e h.symm
      simp only [e1, if_false] at hb
      exact Nat.lt_of_lt_of_le (h.blk k y b hk hy hb) size
  · intro k y b hk hy hb hh
    simp only [lk_cons] at hk
    by_cases e : o = k
    · subst e
      simp only [if_true, Option.some.injEq] at hk hb
      subst hk
      rcases (hB b hy hb).2 with h1 | h1
      · exact h.seph o x0 b ho h0 h1 hh
      · have := h.hid b hh
        omega
    · simp only [e, if_false] at hk
      have e1 : k ≠ o := fun h => e h.symm
      simp only [e1, if_false] at hb
      exact h.seph k y b hk hy hb hh

/-- AN OBJECT GIVES ITS MEMORY TO A NEW ONE, whose number is the next one; it is dead behind that. -/
theorem SOk.mv {G : World → Prop} {H : Hd G} {w w1 : World} {m : Nat → Value} {B : Nat → Nat → Prop} {s : Store} (h : SOk H w m B s) (o : Nat) (x0 x : Ob) (ho : lk s.ob o = some x0) (h0 : x0.has = true) (v : Value) (Bn : Nat → Prop)
    (os : w1.os = w.os) (tape : w1.tape = w.tape) (output : w1.output = w.output) (size : w.heap.size ≤ w1.heap.size) (old : ∀ b, b < w.heap.size → ¬ B o b → w1.heap[b]? = w.heap[b]?)
    (hB : ∀ b, x.has = true → Bn b → b < w1.heap.size ∧ (B o b ∨ w.heap.size ≤ b))
    (hx : ∀ c : Rdr, (∀ a u, vw H w B s.ob a u → c a u) → (∀ a u, w1.cell? a = some u → ¬ (x.has = true ∧ Bn a.block) → B o a.block → c a u) → ObS w1 (fun k => if k = s.n then v else m k) (s.n + 1) c s.n Bn x) :
    Since w m B s w1 (fun k => if k = s.n then v else m k) (fun k => if k = s.n then Bn else B k) ⟨s.n + 1, (s.n, x) :: (o, .dead) :: s.ob⟩ ∧
    SOk H w1 (fun k => if k = s.n then v else m k) (fun k => if k = s.n then Bn else B k) ⟨s.n + 1, (s.n, x) :: (o, .dead) :: s.ob⟩ := by
  have hno : o < s.n := h.lt o x0 ho
  -- an entry of the new store
  have ent : ∀ k y, lk ((s.n, x) :: (o, .dead) :: s.ob) k = some y → (k = s.n ∧ y = x) ∨ (k = o ∧ y = .dead) ∨ (k ≠ s.n ∧ k ≠ o ∧ lk s.ob k = some y ∧ k < s.n) := by
    intro k y hk
    simp only [lk_cons] at hk
    by_cases e : s.n = k
    · simp only [e, if_true, Option.some.injEq] at hk; exact .inl ⟨e.symm, hk.symm⟩
    · simp only [e, if_false] at hk
      by_cases e' : o = k
      · simp only [e', if_true, Option.some.injEq] at hk; exact .inr (.inl ⟨e'.symm, hk.symm⟩)
      · simp only [e', if_false] at hk
        exact .inr (.inr ⟨fun h => e h.symm, fun h => e' h.symm, hk, h.lt k y hk⟩)
  have hS : Since w m B s w1 (fun k => if k = s.n then v else m k) (fun k => if k = s.n then Bn else B k) ⟨s.n + 1, (s.n, x) :: (o, .dead) :: s.ob⟩ := by
    refine ⟨os, tape, output, size, fun b hb hn => old b hb (fun hb' => hn ⟨o, x0, ho, h0, hb'⟩), ?_, Nat.le_succ _, fun k hk => by simp; omega, ?_⟩
    · rintro b ⟨k, y, h1, h2, h3⟩
      rcases ent k y h1 with ⟨rfl, rfl⟩ | ⟨rfl, rfl⟩ | ⟨e1, e2, e3, e4⟩
      · simp only [if_true] at h3
        rcases (hB b h2 h3).2 with h4 | h4
        · exact .inl ⟨o, x0, ho, h0, h4⟩
        · exact .inr h4
      · cases h2
      · simp only [e1, if_false] at h3
        exact .inl ⟨k, y, e3, h2, h3⟩
    · intro k y b hk h1 h2 h3
      rcases ent k y h1 with ⟨rfl, rfl⟩ | ⟨rfl, rfl⟩ | ⟨e1, e2, e3, e4⟩
      · omega
      · cases h2
      · simp only [e1, if_false] at h3
        exact .inl ⟨y, e3, h2, h3⟩
  refine ⟨hS, ?_, ?_, ?_, ?_, fun b hb => Nat.lt_of_lt_of_le (h.hid b hb) size, h.gs hS, ?_⟩
  · intro k y hk
    rcases ent k y hk with ⟨rfl, rfl⟩ | ⟨rfl, rfl⟩ | ⟨e1, e2, e3, e4⟩
    · have := hx _ hS.vw (fun a u h1 h2 h3 => ⟨h1, fun h4 => by
        obtain ⟨k, z, k1, k2, k3⟩ := h4
        rcases ent k z k1 with ⟨rfl, rfl⟩ | ⟨rfl, rfl⟩ | ⟨e1, e2, e3, e4⟩
        · simp only [if_true] at k3; exact h2 ⟨k2, k3⟩
        · cases k2
        · simp only [e1, if_false] at k3
          exact h.sep k o z x0 e3 ho k2 h0 e2 _ k3 h3, h.seph o x0 _ ho h0 h3⟩)
      simpa using this
    · trivial
    · have := (h.obs k y e3).keep (w1 := w1) hS.n e4 hS.m hS.vw (fun b hy hb => old b (h.blk k y b e3 hy hb) (h.sep k o y x0 e3 ho hy h0 e2 b hb))
      simpa [e1] using this
  · intro k y hk
    rcases ent k y hk with ⟨rfl, rfl⟩ | ⟨rfl, rfl⟩ | ⟨e1, e2, e3, e4⟩ <;> (simp only; omega)
  · intro k k' y y' hk hk' hy hy' hkk b hb hb'
    rcases ent k y hk with ⟨rfl, rfl⟩ | ⟨rfl, rfl⟩ | ⟨e1, e2, e3, e4⟩
    · rcases ent k' y' hk' with ⟨rfl, rfl⟩ | ⟨rfl, rfl⟩ | ⟨f1, f2, f3, f4⟩
      · exact hkk rfl
      · cases hy'
      · simp only [if_true] at hb
        simp only [f1, if_false] at hb'
        rcases (hB b hy hb).2 with h1 | h1
        · exact h.sep o k' x0 y' ho f3 h0 hy' (fun h => f2 h.symm) b h1 hb'
        · have := h.blk k' y' b f3 hy' hb'; omega
    · cases hy
    · rcases ent k' y' hk' with ⟨rfl, rfl⟩ | ⟨rfl, rfl⟩ | ⟨f1, f2, f3, f4⟩
      · simp only [if_true] at hb'
        simp only [e1, if_false] at hb
        rcases (hB b hy' hb').2 with h1 | h1
        · exact h.sep k o y x0 e3 ho hy h0 e2 b hb h1
        · have := h.blk k y b e3 hy hb; omega
      · cases hy'
      · simp only [e1, if_false] at hb
        simp only [f1, if_false] at hb'
        exact h.sep k k' y y' e3 f3 hy hy' hkk b hb hb'
  · intro k y b hk hy hb
    rcases ent k y hk with ⟨rfl, rfl⟩ | ⟨rfl, rfl⟩ | ⟨e1, e2, e3, e4⟩
    · simp only [if_true] at hb; exact (hB b hy hb).1
    · cases hy
    · simp only [e1, if_false] at hb
      exact Nat.lt_of_lt_of_le (h.blk k y b e3 hy hb) size
  · intro k y b hk hy hb hh
    rcases ent k y hk with ⟨rfl, rfl⟩ | ⟨rfl, rfl⟩ | ⟨e1, e2, e3, e4⟩
    · simp only [if_true] at hb
      rcases (hB b hy hb).2 with h1 | h1
      · exact h.seph o x0 b ho h0 h1 hh
      · have := h.hid b hh
        omega
    · cases hy
    · simp only [e1, if_false] at hb
      exact h.seph k y b e3 hy hb hh

end Go.Ev
