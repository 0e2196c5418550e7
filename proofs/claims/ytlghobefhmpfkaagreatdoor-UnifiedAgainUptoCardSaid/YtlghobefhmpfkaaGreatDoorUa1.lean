/- UnifiedAgain: what is read of any text is written and read again as the same Part 1 of 6. -/
import Init
import Derived.OrdersHeld
import Derived.Laws.AppendOwn
import Derived.Laws.CopyRow
import Derived.Laws.Cells
import Derived.Laws.Tables
import Derived.Laws.World
import Derived.KernelRfl
import Derived.Laws.Strings
import Derived.Laws.Entries
import Derived.Maps.AppendAt
import Derived.Laws.BytesArg
import Derived.Laws.RangeString
import Derived.Lib.AppendStr
import Derived.WalkKit
import Derived.Laws.StructEq
import Derived.Laws.Pointers
import Derived.WideLaws
import Derived.RangeFuncSeq
set_option linter.unusedSimpArgs false
set_option linter.unusedVariables false
namespace Go.Rcs
section
variable (ps : List UInt8 → Int × Int)
end
end Go.Rcs
namespace Go.Ev
open Go
inductive D where
 | v (x : Value)
 | sl (rows : List (List D))
 | pt (cells : List D)
 | ifc (t : TypeId) (x : D)
 deriving Inhabited
abbrev Rdr := Addr → Value → Prop
mutual
def Rd (c : Rdr) : D → Value → Prop
 | .v x, y => y = x ∧ x.oneCell' = true
 | .sl rows, y => ∃ A cap, y = .slice A rows.length cap ∧ rows.length ≤ cap ∧ rows.length ≤ 9223372036854775807 ∧ (rows = [] ∨ ∃ ad sz, A = some ad ∧ ad.spot = none ∧ RdRows c ad sz 0 rows)
 | .pt cells, y => ∃ ad, y = .pointer (some ad) ∧ RdCells c ad 0 cells
 | .ifc t x, y => ∃ z, y = .iface t z ∧ Rd c x z
def RdCells (c : Rdr) (ad : Addr) (k : Nat) : List D → Prop
 | [] => True
 | d :: ds => (∃ u, c (ad.add k) u ∧ Rd c d u) ∧ RdCells c ad (k + 1) ds
def RdRows (c : Rdr) (ad : Addr) (sz k : Nat) : List (List D) → Prop
 | [] => True
 | r :: rs => r.length = sz ∧ RdCells c ad k r ∧ RdRows c ad sz (k + sz) rs
end
mutual
theorem Rd_mono {c c' : Rdr} (h : ∀ a u, c a u → c' a u) : ∀ (d : D) (y : Value), Rd c d y → Rd c' d y
 | .v x, y, hh => by simpa [Rd] using hh
 | .sl rows, y, hh => by
   simp only [Rd] at hh ⊢
   obtain ⟨A, cap, h1, h2, h2', h3⟩ := hh
   exact ⟨A, cap, h1, h2, h2', h3.imp id fun ⟨ad, sz, e, hsp, hr⟩ => ⟨ad, sz, e, hsp, RdRows_mono h ad sz 0 rows hr⟩⟩
 | .pt cells, y, hh => by
   simp only [Rd] at hh ⊢
   obtain ⟨ad, h1, h2⟩ := hh
   exact ⟨ad, h1, RdCells_mono h ad 0 cells h2⟩
 | .ifc t x, y, hh => by
   simp only [Rd] at hh ⊢
   obtain ⟨z, h1, h2⟩ := hh
   exact ⟨z, h1, Rd_mono h x z h2⟩
theorem RdCells_mono {c c' : Rdr} (h : ∀ a u, c a u → c' a u) (ad : Addr) : ∀ (k : Nat) (l : List D), RdCells c ad k l → RdCells c' ad k l
 | _, [], _ => by simp [RdCells]
 | k, d :: ds, hh => by
   simp only [RdCells] at hh ⊢
   obtain ⟨⟨u, h1, h2⟩, h3⟩ := hh
   exact ⟨⟨u, h _ _ h1, Rd_mono h d u h2⟩, RdCells_mono h ad (k + 1) ds h3⟩
theorem RdRows_mono {c c' : Rdr} (h : ∀ a u, c a u → c' a u) (ad : Addr) (sz : Nat) : ∀ (k : Nat) (l : List (List D)), RdRows c ad sz k l → RdRows c' ad sz k l
 | _, [], _ => by simp [RdRows]
 | k, r :: rs, hh => by
   simp only [RdRows] at hh ⊢
   obtain ⟨h1, h2, h3⟩ := hh
   exact ⟨h1, RdCells_mono h ad k r h2, RdRows_mono h ad sz (k + sz) rs h3⟩
end
theorem Rd_one {c : Rdr} : ∀ (d : D) (y : Value), Rd c d y → y.oneCell' = true
 | .v x, y, h => by simp only [Rd] at h; obtain ⟨rfl, h⟩ := h; exact h
 | .sl rows, y, h => by simp only [Rd] at h; obtain ⟨A, cap, rfl, _⟩ := h; rfl
 | .pt cells, y, h => by simp only [Rd] at h; obtain ⟨ad, rfl, _⟩ := h; rfl
 | .ifc t x, y, h => by simp only [Rd] at h; obtain ⟨z, rfl, _⟩ := h; rfl
theorem RdCells_get {c : Rdr} {ad : Addr} : ∀ {l : List D} {k j : Nat} {d : D}, RdCells c ad k l → l[j]? = some d → ∃ u, c (ad.add (k + j)) u ∧ Rd c d u
 | [], _, _, _, _, h => by simp at h
 | d :: ds, k, 0, d', h, e => by
   simp only [RdCells] at h
   simp only [List.getElem?_cons_zero, Option.some.injEq] at e
   subst e; exact h.1
 | d :: ds, k, j + 1, d', h, e => by
   simp only [RdCells] at h
   simp only [List.getElem?_cons_succ] at e
   have := RdCells_get h.2 e
   rwa [show k + 1 + j = k + (j + 1) by omega] at this
theorem RdRows_get {c : Rdr} {ad : Addr} {sz : Nat} : ∀ {l : List (List D)} {k i : Nat} {r : List D}, RdRows c ad sz k l → l[i]? = some r → r.length = sz ∧ RdCells c ad (k + i * sz) r
 | [], _, _, _, _, h => by simp at h
 | r :: rs, k, 0, r', h, e => by
   simp only [RdRows] at h
   simp only [List.getElem?_cons_zero, Option.some.injEq] at e
   subst e; simpa using ⟨h.1, h.2.1⟩
 | r :: rs, k, i + 1, r', h, e => by
   simp only [RdRows] at h
   simp only [List.getElem?_cons_succ] at e
   have := RdRows_get h.2.2 e
   rwa [show k + sz + i * sz = k + (i + 1) * sz by rw [Nat.add_mul]; omega] at this
theorem add_add (a : Addr) (j k : Nat) : (a.add j).add k = a.add (j + k) := by
 unfold Addr.add
 by_cases hj : j = 0
 · subst hj; simp
 · by_cases hk : k = 0
   · subst hk; simp
   · simp [hj, hk, Nat.add_assoc]
theorem add_spot {a : Addr} (h : a.spot = none) (j : Nat) : (a.add j).spot = none := by
 unfold Addr.add; split
 · exact h
 · rfl
theorem RdCells_at {c : Rdr} {ad : Addr} : ∀ {l : List D} {k j : Nat}, RdCells c ad (j + k) l → RdCells c (ad.add j) k l
 | [], _, _, _ => by simp [RdCells]
 | d :: ds, k, j, h => by
   simp only [RdCells] at h ⊢
   refine ⟨?_, RdCells_at (by rw [← Nat.add_assoc]; exact h.2)⟩
   rw [add_add]; exact h.1
theorem RdCells_drop {c : Rdr} {ad : Addr} : ∀ {l : List D} {k : Nat} (n : Nat), RdCells c ad k l → RdCells c ad (k + n) (l.drop n)
 | l, k, 0, h => by simpa using h
 | [], k, n + 1, h => by simp [RdCells]
 | d :: ds, k, n + 1, h => by
   simp only [RdCells] at h
   simp only [List.drop_succ_cons]
   have := RdCells_drop n h.2
   rwa [show k + 1 + n = k + (n + 1) by omega] at this
theorem RdRows_drop {c : Rdr} {ad : Addr} {sz : Nat} : ∀ {l : List (List D)} {k : Nat} (n : Nat), RdRows c ad sz k l → RdRows c ad sz (k + n * sz) (l.drop n)
 | l, k, 0, h => by simpa using h
 | [], k, n + 1, h => by simp [RdRows]
 | d :: ds, k, n + 1, h => by
   simp only [RdRows] at h
   simp only [List.drop_succ_cons]
   have := RdRows_drop n h.2.2
   rwa [show k + sz + n * sz = k + (n + 1) * sz by rw [Nat.add_mul]; omega] at this
theorem RdRows_take {c : Rdr} {ad : Addr} {sz : Nat} : ∀ {l : List (List D)} {k : Nat} (n : Nat), RdRows c ad sz k l → RdRows c ad sz k (l.take n)
 | l, k, 0, h => by simp [RdRows]
 | [], k, n + 1, h => by simp [RdRows]
 | d :: ds, k, n + 1, h => by
   simp only [RdRows] at h
   simp only [List.take_succ_cons, RdRows]
   exact ⟨h.1, h.2.1, RdRows_take n h.2.2⟩
theorem RdRows_at {c : Rdr} {ad : Addr} {sz : Nat} : ∀ {l : List (List D)} {k j : Nat}, RdRows c ad sz (j + k) l → RdRows c (ad.add j) sz k l
 | [], _, _, _ => by simp [RdRows]
 | d :: ds, k, j, h => by
   simp only [RdRows] at h ⊢
   exact ⟨h.1, RdCells_at h.2.1, RdRows_at (by rw [← Nat.add_assoc]; exact h.2.2)⟩
def RdL (c : Rdr) : List D → List Value → Prop
 | [], [] => True
 | d :: ds, v :: vs => Rd c d v ∧ RdL c ds vs
 | _, _ => False
theorem RdL_mono {c c' : Rdr} (h : ∀ a u, c a u → c' a u) : ∀ (l : List D) (vs : List Value), RdL c l vs → RdL c' l vs
 | [], [], _ => trivial
 | d :: ds, v :: vs, hh => ⟨Rd_mono h _ _ hh.1, RdL_mono h ds vs hh.2⟩
theorem RdL_length {c : Rdr} : ∀ {l : List D} {vs : List Value}, RdL c l vs → vs.length = l.length
 | [], [], _ => rfl
 | d :: ds, v :: vs, hh => by simp [RdL_length hh.2]
theorem RdL_append {c : Rdr} : ∀ {l l' : List D} {vs vs' : List Value}, RdL c l vs → RdL c l' vs' → RdL c (l ++ l') (vs ++ vs')
 | [], _, [], _, _, h => h
 | d :: ds, _, v :: vs, _, hh, h => ⟨hh.1, RdL_append hh.2 h⟩
theorem RdL_one {c : Rdr} : ∀ {l : List D} {vs : List Value}, RdL c l vs → ∀ v ∈ vs, v.oneCell' = true
 | [], [], _, v, hv => by cases hv
 | d :: ds, u :: vs, hh, v, hv => by
   rcases List.mem_cons.1 hv with rfl | hv
   · exact Rd_one _ _ hh.1
   · exact RdL_one hh.2 v hv
theorem RdL_get {c : Rdr} : ∀ {l : List D} {vs : List Value} {i : Nat} {d : D}, RdL c l vs → l[i]? = some d → ∃ v, vs[i]? = some v ∧ Rd c d v
 | [], _, _, _, _, h => by simp at h
 | d :: ds, v :: vs, 0, d', hh, h => by simp at h; subst h; exact ⟨v, rfl, hh.1⟩
 | d :: ds, v :: vs, i + 1, d', hh, h => by simp at h; simpa using RdL_get hh.2 h
inductive SV where
 | any
 | d (x : D)
 | own (o : Nat)
 | ptr (o k : Nat)
 | cp (cells : List D)
 | ep (o sz i k : Nat)
 | agg (l : List SV)
 | tup (l : List SV)
 | fn (f : FuncId) (caps : List SV)
 | opt (b : Bool) (x : SV)
 deriving Inhabited
mutual
def Cn (m : Nat → Value) (n : Nat) (c : Rdr) : SV → Value → Prop
 | .any, _ => True
 | .d x, y => Rd c x y
 | .own o, y => o < n ∧ y = m o ∧ y.oneCell' = true
 | .ptr o k, y => o < n ∧ ∃ b, m o = .pointer (some ⟨b, 0, none⟩) ∧ y = .pointer (some ⟨b, k, none⟩)
 | .cp cells, y => ∃ ad, y = .pointer (some ad) ∧ RdCells c ad 0 cells
 | .ep o sz i k, y => o < n ∧ ∃ g len cap, m o = .slice (some ⟨g, 0, none⟩) len cap ∧ y = .pointer (some ⟨g, i * sz + k, none⟩)
 | .agg l, y => ∃ a : Array Value, y = .agg a ∧ CnL m n c l a.toList ∧ ∀ x ∈ a.toList, x.oneCell' = true
 | .tup l, y => ∃ a : Array Value, y = .tuple a ∧ CnL m n c l a.toList
 | .fn f caps, y => ∃ a : Array Value, y = .func (.func f) #[] a ∧ CnL m n c caps a.toList
 | .opt b x, y => if b = true then Cn m n c x y else y = undef
def CnL (m : Nat → Value) (n : Nat) (c : Rdr) : List SV → List Value → Prop
 | [], [] => True
 | s :: ss, v :: vs => Cn m n c s v ∧ CnL m n c ss vs
 | [], _ :: _ => False
 | _ :: _, [] => False
end
mutual
theorem Cn_mono {m m' : Nat → Value} {n n' : Nat} {c c' : Rdr} (hn : n ≤ n') (hm : ∀ o, o < n → m' o = m o) (h : ∀ a u, c a u → c' a u) : ∀ (s : SV) (y : Value), Cn m n c s y → Cn m' n' c' s y
 | .any, y, _ => by simp [Cn]
 | .d x, y, hh => by simp only [Cn] at hh ⊢; exact Rd_mono h _ _ hh
 | .own o, y, hh => by
   simp only [Cn] at hh ⊢
   exact ⟨by omega, by rw [hm o hh.1]; exact hh.2.1, hh.2.2⟩
 | .ptr o k, y, hh => by
   simp only [Cn] at hh ⊢
   exact ⟨by omega, by rw [hm o hh.1]; exact hh.2⟩
 | .cp cells, y, hh => by
   simp only [Cn] at hh ⊢
   obtain ⟨ad, h1, h2⟩ := hh
   exact ⟨ad, h1, RdCells_mono h ad 0 cells h2⟩
 | .ep o sz i k, y, hh => by
   simp only [Cn] at hh ⊢
   exact ⟨by omega, by rw [hm o hh.1]; exact hh.2⟩
 | .agg l, y, hh => by
   simp only [Cn] at hh ⊢
   obtain ⟨a, h1, h2, h3⟩ := hh
   exact ⟨a, h1, CnL_mono hn hm h l _ h2, h3⟩
 | .tup l, y, hh => by
   simp only [Cn] at hh ⊢
   obtain ⟨a, h1, h2⟩ := hh
   exact ⟨a, h1, CnL_mono hn hm h l _ h2⟩
 | .fn f caps, y, hh => by
   simp only [Cn] at hh ⊢
   obtain ⟨a, h1, h2⟩ := hh
   exact ⟨a, h1, CnL_mono hn hm h caps _ h2⟩
 | .opt b x, y, hh => by
   cases b with
   | false => simpa [Cn] using hh
   | true => simp only [Cn, if_true] at hh ⊢; exact Cn_mono hn hm h x y hh
theorem CnL_mono {m m' : Nat → Value} {n n' : Nat} {c c' : Rdr} (hn : n ≤ n') (hm : ∀ o, o < n → m' o = m o) (h : ∀ a u, c a u → c' a u) : ∀ (l : List SV) (vs : List Value), CnL m n c l vs → CnL m' n' c' l vs
 | [], [], _ => by simp [CnL]
 | s :: ss, v :: vs, hh => by
   simp only [CnL] at hh ⊢
   exact ⟨Cn_mono hn hm h s v hh.1, CnL_mono hn hm h ss vs hh.2⟩
 | [], _ :: _, hh => by simp [CnL] at hh
 | _ :: _, [], hh => by simp [CnL] at hh
end
section
variable {m : Nat → Value} {n : Nat} {c : Rdr}
theorem CnL_length : ∀ {l : List SV} {vs : List Value}, CnL m n c l vs → vs.length = l.length
 | [], [], _ => rfl
 | d :: ds, v :: vs, hh => by simp only [CnL] at hh; simp [CnL_length hh.2]
 | [], _ :: _, hh => by simp [CnL] at hh
 | _ :: _, [], hh => by simp [CnL] at hh
theorem CnL_get : ∀ {l : List SV} {vs : List Value} {i : Nat} {s : SV}, CnL m n c l vs → l[i]? = some s → ∃ v, vs[i]? = some v ∧ Cn m n c s v
 | [], _, _, _, _, h => by simp at h
 | d :: ds, [], _, _, hh, _ => by simp [CnL] at hh
 | d :: ds, v :: vs, 0, d', hh, h => by simp only [CnL] at hh; simp at h; subst h; exact ⟨v, rfl, hh.1⟩
 | d :: ds, v :: vs, i + 1, d', hh, h => by simp only [CnL] at hh; simp at h; simpa using CnL_get hh.2 h
theorem CnL_append : ∀ {l l' : List SV} {vs vs' : List Value}, CnL m n c l vs → CnL m n c l' vs' → CnL m n c (l ++ l') (vs ++ vs')
 | [], _, [], _, _, h => h
 | d :: ds, _, v :: vs, _, hh, h => by simp only [CnL, List.cons_append] at hh ⊢; exact ⟨hh.1, CnL_append hh.2 h⟩
 | [], _, _ :: _, _, hh, _ => by simp [CnL] at hh
 | _ :: _, _, [], _, hh, _ => by simp [CnL] at hh
theorem CnL_take : ∀ {l : List SV} {vs : List Value} (k : Nat), CnL m n c l vs → CnL m n c (l.take k) (vs.take k)
 | [], [], k, h => by simpa using h
 | d :: ds, v :: vs, 0, hh => by simp [CnL]
 | d :: ds, v :: vs, k + 1, hh => by simp only [CnL, List.take_succ_cons] at hh ⊢; exact ⟨hh.1, CnL_take k hh.2⟩
 | [], _ :: _, _, hh => by simp [CnL] at hh
 | _ :: _, [], _, hh => by simp [CnL] at hh
theorem CnL_drop : ∀ {l : List SV} {vs : List Value} (k : Nat), CnL m n c l vs → CnL m n c (l.drop k) (vs.drop k)
 | [], [], k, h => by simpa using h
 | d :: ds, v :: vs, 0, hh => by simpa using hh
 | d :: ds, v :: vs, k + 1, hh => by simp only [CnL] at hh; simpa using CnL_drop k hh.2
 | [], _ :: _, _, hh => by simp [CnL] at hh
 | _ :: _, [], _, hh => by simp [CnL] at hh
theorem CnL_of_RdL : ∀ {l : List D} {vs : List Value}, RdL c l vs → CnL m n c (l.map .d) vs
 | [], [], _ => by simp [CnL]
 | d :: ds, v :: vs, hh => by simp only [List.map_cons, CnL, Cn]; exact ⟨hh.1, CnL_of_RdL hh.2⟩
end
end Go.Ev
namespace Go.Ev
open Go
def lk {β : Type} : List (Nat × β) → Nat → Option β
 | [], _ => none
 | (j, b) :: r, k => cond (j == k) (some b) (lk r k)
theorem lk_cons {β : Type} (k : Nat) (b : β) (r : List (Nat × β)) (j : Nat) : lk ((k, b) :: r) j = if k = j then some b else lk r j := by
 simp only [lk]
 by_cases h : k = j
 · subst h; simp
 · have : (k == j) = false := by simpa using h
   rw [this, if_neg h]; rfl
inductive Ob where
 | dead
 | cells (t : TypeId) (l : List SV)
 | row (t : TypeId) (sz : Nat) (rows : List (List D))
 | fro (rows : List (List D))
 | bld (t u : TypeId) (bs : List UInt8)
 | iter (s : ByteArray) (p : Nat)
 deriving Inhabited
def Ob.has : Ob → Bool
 | .cells .. | .row .. | .bld .. | .iter .. => true
 | _ => false
def byteVals (bs : List UInt8) : List Value := bs.map fun b => .int .u8 b.toNat
def ObS (w : World) (m : Nat → Value) (n : Nat) (c : Rdr) (o : Nat) (B : Nat → Prop) : Ob → Prop
 | .dead => True
 | .cells t l => ∃ b cs, m o = .pointer (some ⟨b, 0, none⟩) ∧ w.heap[b]? = some (.cells cs t (0, 0)) ∧ CnL m n c l cs.toList ∧ (∀ x ∈ cs.toList, x.oneCell' = true) ∧ ∀ x, B x ↔ x = b
 | .row t sz rows => ∃ xs, w.ownsRow 0 t sz (m o) rows.length xs ∧ RdL c rows.flatten xs ∧ (∀ r ∈ rows, r.length = sz) ∧ ∀ x, B x ↔ (m o).ownBlock = some x
 | .fro rows => Rd c (.sl rows) (m o)
 | .bld t u bs => ∃ b p v, m o = .pointer (some ⟨b, 0, none⟩) ∧ w.heap[b]? = some (.cells #[p, v] t (0, 0)) ∧ (p = .pointer none ∨ p = m o) ∧ w.ownsRow 0 u 1 v bs.length (byteVals bs) ∧ v.ownBlock ≠ some b ∧ ∀ x, B x ↔ (x = b ∨ v.ownBlock = some x)
 | .iter t p => ∃ b, m o = .pointer (some ⟨b, 0, none⟩) ∧ w.heap[b]? = some (.stringIter t p) ∧ ∀ x, B x ↔ x = b
def owns (B : Nat → Nat → Prop) (ob : List (Nat × Ob)) (b : Nat) : Prop := ∃ o x, lk ob o = some x ∧ x.has = true ∧ B o b
structure Hd (G : World → Prop) where
 hid : Nat → Prop
 gb : Nat → Prop
 sub : ∀ b, gb b → hid b
 st : ∀ w w', G w → (∀ b, gb b → w'.heap[b]? = w.heap[b]?) → G w'
 lo : Nat
 df : List Deferred
instance {G : World → Prop} : CoeFun (Hd G) (fun _ => Nat → Prop) := ⟨Hd.hid⟩
def vw {G : World → Prop} (H : Hd G) (w : World) (B : Nat → Nat → Prop) (ob : List (Nat × Ob)) : Rdr := fun a u => w.cell? a = some u ∧ ¬ owns B ob a.block ∧ ¬ H a.block
structure Store where
 n : Nat
 ob : List (Nat × Ob)
structure SOk {G : World → Prop} (H : Hd G) (w : World) (m : Nat → Value) (B : Nat → Nat → Prop) (s : Store) : Prop where
 obs : ∀ o x, lk s.ob o = some x → ObS w m s.n (vw H w B s.ob) o (B o) x
 lt : ∀ o x, lk s.ob o = some x → o < s.n
 sep : ∀ o o' x x', lk s.ob o = some x → lk s.ob o' = some x' → x.has = true → x'.has = true → o ≠ o' → ∀ b, B o b → ¬ B o' b
 blk : ∀ o x b, lk s.ob o = some x → x.has = true → B o b → b < w.heap.size
 hid : ∀ b, H b → b < w.heap.size
 gw : G w
 seph : ∀ o x b, lk s.ob o = some x → x.has = true → B o b → ¬ H b
structure Since (w : World) (m : Nat → Value) (B : Nat → Nat → Prop) (s : Store) (w' : World) (m' : Nat → Value) (B' : Nat → Nat → Prop) (s' : Store) : Prop where
 os : w'.os = w.os
 tape : w'.tape = w.tape
 output : w'.output = w.output
 size : w.heap.size ≤ w'.heap.size
 block : ∀ b, b < w.heap.size → ¬ owns B s.ob b → w'.heap[b]? = w.heap[b]?
 own : ∀ b, owns B' s'.ob b → owns B s.ob b ∨ w.heap.size ≤ b
 n : s.n ≤ s'.n
 m : ∀ o, o < s.n → m' o = m o
 keep : ∀ o x b, o < s.n → lk s'.ob o = some x → x.has = true → B' o b → (∃ y, lk s.ob o = some y ∧ y.has = true ∧ B o b) ∨ w.heap.size ≤ b
theorem SOk.gs {G : World → Prop} {H : Hd G} {w w1 : World} {m m1 : Nat → Value} {B B1 : Nat → Nat → Prop} {s s1 : Store} (h : SOk H w m B s) (hS : Since w m B s w1 m1 B1 s1) : G w1 :=
 H.st w w1 h.gw fun b hb => hS.block b (h.hid b (H.sub b hb)) fun ⟨o, x, h1, h2, h3⟩ => h.seph o x b h1 h2 h3 (H.sub b hb)
theorem Since.refl (w : World) (m : Nat → Value) (B : Nat → Nat → Prop) (s : Store) : Since w m B s w m B s :=
 ⟨rfl, rfl, rfl, Nat.le_refl _, fun _ _ _ => rfl, fun _ h => .inl h, Nat.le_refl _, fun _ _ => rfl, fun o x b _ h1 h2 h3 => .inl ⟨x, h1, h2, h3⟩⟩
section
variable {w w1 w2 : World} {m m1 m2 : Nat → Value} {B B1 B2 : Nat → Nat → Prop} {s s1 s2 : Store}
theorem Since.trans (h : Since w m B s w1 m1 B1 s1) (k : Since w1 m1 B1 s1 w2 m2 B2 s2) : Since w m B s w2 m2 B2 s2 where
 os := k.os.trans h.os
 tape := k.tape.trans h.tape
 output := k.output.trans h.output
 size := Nat.le_trans h.size k.size
 block b hb ho := by
   rw [k.block b (Nat.lt_of_lt_of_le hb h.size) (fun h1 => (h.own b h1).elim ho (fun h2 => by omega)), h.block b hb ho]
 own b hb := by
   rcases k.own b hb with h1 | h1
   · exact h.own b h1
   · exact .inr (Nat.le_trans h.size h1)
 n := Nat.le_trans h.n k.n
 m o ho := (k.m o (Nat.lt_of_lt_of_le ho h.n)).trans (h.m o ho)
 keep o x b ho h1 h2 h3 := by
   rcases k.keep o x b (Nat.lt_of_lt_of_le ho h.n) h1 h2 h3 with ⟨y, k1, k2, k3⟩ | k1
   · exact h.keep o y b ho k1 k2 k3
   · exact .inr (Nat.le_trans h.size k1)
theorem cell_lt {w : World} {a : Addr} {u : Value} (h : w.cell? a = some u) : a.block < w.heap.size := by
 unfold World.cell? at h
 split at h
 · rename_i h1; exact (Array.getElem?_eq_some_iff.1 h1).1
 · cases h
theorem Since.vw {G : World → Prop} {H : Hd G} (h : Since w m B s w1 m1 B1 s1) : ∀ a u, Go.Ev.vw H w B s.ob a u → Go.Ev.vw H w1 B1 s1.ob a u := by
 rintro a u ⟨h1, h2, hH⟩
 have hl := cell_lt h1
 refine ⟨?_, fun h3 => ?_, hH⟩
 · rw [World.cell?_of_block (h.block _ hl h2)]; exact h1
 · rcases h.own _ h3 with h4 | h4
   · exact h2 h4
   · omega
theorem Since.cn {G : World → Prop} {H : Hd G} (h : Since w m B s w1 m1 B1 s1) (x : SV) (y : Value) (hx : Cn m s.n (Go.Ev.vw H w B s.ob) x y) : Cn m1 s1.n (Go.Ev.vw H w1 B1 s1.ob) x y :=
 Cn_mono h.n h.m h.vw x y hx
theorem Since.cnL {G : World → Prop} {H : Hd G} (h : Since w m B s w1 m1 B1 s1) (x : List SV) (y : List Value) (hx : CnL m s.n (Go.Ev.vw H w B s.ob) x y) : CnL m1 s1.n (Go.Ev.vw H w1 B1 s1.ob) x y :=
 CnL_mono h.n h.m h.vw x y hx
end
def Marks0 {G : World → Prop} (H : Hd G) (w : World) (B : Nat → Nat → Prop) (ob : List (Nat × Ob)) (L : List Deferred) : Prop :=
 L.Nodup ∧ ∀ d ∈ L, ∃ D, d = { target := .collected D, args := #[] } ∧ w.heap[D]? = some (.deferred (some [])) ∧ ¬ owns B ob D ∧ ¬ H D ∧ H.lo ≤ D
def Marks {G : World → Prop} (H : Hd G) (w : World) (B : Nat → Nat → Prop) (ob : List (Nat × Ob)) (L : List Deferred) : Prop := ∃ M, L = M ++ H.df ∧ Marks0 H w B ob M
theorem Marks.base {G : World → Prop} (H : Hd G) (w : World) (B : Nat → Nat → Prop) (ob : List (Nat × Ob)) : Marks H w B ob H.df := ⟨[], rfl, .nil, fun _ h => by cases h⟩
theorem Marks.nil {G : World → Prop} {H : Hd G} (h0 : H.df = []) (w : World) (B : Nat → Nat → Prop) (ob : List (Nat × Ob)) : Marks H w B ob [] := ⟨[], by rw [h0]; rfl, .nil, fun _ h => by cases h⟩
theorem Marks0.since {G : World → Prop} {H : Hd G} {w w1 : World} {m m1 : Nat → Value} {B B1 : Nat → Nat → Prop} {s s1 : Store} {L : List Deferred} (h : Marks0 H w B s.ob L) (hS : Since w m B s w1 m1 B1 s1) : Marks0 H w1 B1 s1.ob L := by
 refine ⟨h.1, fun d hd => ?_⟩
 obtain ⟨D, e, h1, h2, h3⟩ := h.2 d hd
 have hl := (Array.getElem?_eq_some_iff.1 h1).1
 refine ⟨D, e, by rw [hS.block D hl h2]; exact h1, fun ho => ?_, h3⟩
 rcases hS.own D ho with k | k
 · exact h2 k
 · omega
theorem Marks.since {G : World → Prop} {H : Hd G} {w w1 : World} {m m1 : Nat → Value} {B B1 : Nat → Nat → Prop} {s s1 : Store} {L : List Deferred} (h : Marks H w B s.ob L) (hS : Since w m B s w1 m1 B1 s1) : Marks H w1 B1 s1.ob L := by
 obtain ⟨M, e0, h⟩ := h
 exact ⟨M, e0, h.since hS⟩
theorem Marks.own {G : World → Prop} {H : Hd G} {w : World} {B B1 : Nat → Nat → Prop} {ob ob1 : List (Nat × Ob)} {L : List Deferred} (h : Marks H w B ob L) (ho : ∀ b, owns B1 ob1 b → owns B ob b) : Marks H w B1 ob1 L := by
 obtain ⟨M, e0, h⟩ := h
 exact ⟨M, e0, h.1, fun d hd => by obtain ⟨D, e, h1, h2, h3⟩ := h.2 d hd; exact ⟨D, e, h1, fun k => h2 (ho D k), h3⟩⟩
structure St where
 sl : List (Nat × SV)
 n : Nat
 ob : List (Nat × Ob)
def St.store (s : St) : Store := ⟨s.n, s.ob⟩
def St.get (s : St) (k : Nat) : SV := (lk s.sl k).getD .any
def St.put (s : St) (k : Nat) (x : SV) : St := { s with sl := (k, x) :: s.sl }
def St.putO (s : St) (d : Option Nat) (x : SV) : St := match d with | some k => s.put k x | none => s
@[simp] theorem St.store_put (s : St) (k : Nat) (x : SV) : (s.put k x).store = s.store := rfl
@[simp] theorem St.store_putO (s : St) (k : Option Nat) (x : SV) : (s.putO k x).store = s.store := by cases k <;> rfl
theorem St.get_put (s : St) (k j : Nat) (x : SV) : (s.put k x).get j = if k = j then x else s.get j := by
 unfold St.get St.put
 simp only [lk_cons]
 split <;> simp
def SlOk (m : Nat → Value) (n : Nat) (c : Rdr) (a : Act) (s : St) : Prop := ∀ k, Cn m n c (s.get k) (a.tmps.getD k undef)
theorem getD_put (a : Act) (d k : Nat) (v : Value) (hd : d < a.tmps.size) : (a.put (some d) v).tmps.getD k undef = if d = k then v else a.tmps.getD k undef := by
 simp only [Act.put, Array.getD_eq_getD_getElem?, Array.getElem?_setIfInBounds]
 by_cases h : d = k
 · subst h; simp [hd]
 · simp [h]
theorem SlOk.put {m : Nat → Value} {n : Nat} {c : Rdr} {a : Act} {s : St} (h : SlOk m n c a s) {d : Nat} (hd : d < a.tmps.size) {x : SV} {v : Value} (hx : Cn m n c x v) : SlOk m n c (a.put (some d) v) (s.put d x) := by
 intro k
 rw [getD_put _ _ _ _ hd, St.get_put]
 by_cases e : d = k
 · simp only [e, if_true]; exact hx
 · simp only [e, if_false]; exact h k
structure Sat {G : World → Prop} (H : Hd G) (N : Nat) (w : World) (m : Nat → Value) (B : Nat → Nat → Prop) (a : Act) (s : St) : Prop where
 size : a.tmps.size = N
 defers : Marks H w B s.ob a.defers
 slots : SlOk m s.n (vw H w B s.ob) a s
 store : SOk H w m B s.store
theorem Sat.put {G : World → Prop} {H : Hd G} {N : Nat} {w : World} {m : Nat → Value} {B : Nat → Nat → Prop} {a : Act} {s : St} (h : Sat H N w m B a s) {d : Nat} (hd : d < N) {x : SV} {v : Value} (hx : Cn m s.n (vw H w B s.ob) x v) : Sat H N w m B (a.put (some d) v) (s.put d x) :=
 ⟨by simp [Act.put, h.size], h.defers, h.slots.put (by rw [h.size]; exact hd) hx, h.store⟩
theorem SlOk.since {G : World → Prop} {H : Hd G} {w w1 : World} {m m1 : Nat → Value} {B B1 : Nat → Nat → Prop} {s s1 : Store} (h : Since w m B s w1 m1 B1 s1) {a : Act} {sl : List (Nat × SV)}
   (hs : SlOk m s.n (vw H w B s.ob) a ⟨sl, s.n, s.ob⟩) : SlOk m1 s1.n (vw H w1 B1 s1.ob) a ⟨sl, s1.n, s1.ob⟩ :=
 fun k => h.cn _ _ (hs k)
theorem ObS.keep {w w1 : World} {m m1 : Nat → Value} {n n1 : Nat} {c c1 : Rdr} {o : Nat} {B : Nat → Prop} {x : Ob} (h : ObS w m n c o B x) (hn : n ≤ n1) (ho : o < n)
   (hm : ∀ o, o < n → m1 o = m o) (hc : ∀ a u, c a u → c1 a u) (hb : ∀ b, x.has = true → B b → w1.heap[b]? = w.heap[b]?) : ObS w1 m1 n1 c1 o B x := by
 cases x with
 | dead => trivial
 | cells t l =>
   obtain ⟨b, cs, h1, h2, h3, h4, h5⟩ := h
   exact ⟨b, cs, by rw [hm o ho]; exact h1, by rw [hb b rfl ((h5 b).2 rfl)]; exact h2, CnL_mono hn hm hc _ _ h3, h4, h5⟩
 | row t sz rows =>
   obtain ⟨xs, h1, h2, h3, h4⟩ := h
   refine ⟨xs, ?_, RdL_mono hc _ _ h2, h3, by rw [hm o ho]; exact h4⟩
   rw [hm o ho]
   obtain ⟨g1, g2⟩ := h1
   refine ⟨g1, g2.imp id ?_⟩
   rintro ⟨g, cap, cur, e1, e2, e3, e4⟩
   exact ⟨g, cap, cur, e1, e2, by rw [hb g rfl ((h4 g).2 (by rw [e1]; rfl))]; exact e3, e4⟩
 | fro rows => exact (by simp only [ObS] at h ⊢; rw [hm o ho]; exact Rd_mono hc _ _ h)
 | bld t u bs =>
   obtain ⟨b, p, v, h1, h2, h3, h4, h5, h6⟩ := h
   refine ⟨b, p, v, by rw [hm o ho]; exact h1, by rw [hb b rfl ((h6 b).2 (.inl rfl))]; exact h2, by rw [hm o ho]; exact h3, ?_, h5, h6⟩
   obtain ⟨g1, g2⟩ := h4
   refine ⟨g1, g2.imp id ?_⟩
   rintro ⟨g, cap, cur, e1, e2, e3, e4⟩
   exact ⟨g, cap, cur, e1, e2, by rw [hb g rfl ((h6 g).2 (.inr (by rw [e1]; rfl)))]; exact e3, e4⟩
 | iter t p =>
   obtain ⟨b, h1, h2, h3⟩ := h
   exact ⟨b, by rw [hm o ho]; exact h1, by rw [hb b rfl ((h3 b).2 rfl)]; exact h2, h3⟩
theorem SOk.add {G : World → Prop} {H : Hd G} {w w1 : World} {m : Nat → Value} {B : Nat → Nat → Prop} {s : Store} (h : SOk H w m B s) (x : Ob) (v : Value) (Bn : Nat → Prop)
   (os : w1.os = w.os) (tape : w1.tape = w.tape) (output : w1.output = w.output) (size : w.heap.size ≤ w1.heap.size) (old : ∀ b, b < w.heap.size → w1.heap[b]? = w.heap[b]?)
   (hB : ∀ b, x.has = true → Bn b → w.heap.size ≤ b ∧ b < w1.heap.size)
   (hx : ∀ c : Rdr, (∀ a u, vw H w B s.ob a u → c a u) → ObS w1 (fun o => if o = s.n then v else m o) (s.n + 1) c s.n Bn x) :
   Since w m B s w1 (fun o => if o = s.n then v else m o) (fun o => if o = s.n then Bn else B o) ⟨s.n + 1, (s.n, x) :: s.ob⟩ ∧
   SOk H w1 (fun o => if o = s.n then v else m o) (fun o => if o = s.n then Bn else B o) ⟨s.n + 1, (s.n, x) :: s.ob⟩ := by
 have hne : ∀ o y, lk s.ob o = some y → o ≠ s.n := fun o y ho e => by have := h.lt o y ho; omega
 have hS : Since w m B s w1 (fun o => if o = s.n then v else m o) (fun o => if o = s.n then Bn else B o) ⟨s.n + 1, (s.n, x) :: s.ob⟩ := by
   refine ⟨os, tape, output, size, fun b hb _ => old b hb, ?_, Nat.le_succ _, fun o ho => by simp; omega, ?_⟩
   · rintro b ⟨o, y, h1, h2, h3⟩
     simp only [lk_cons] at h1
     by_cases e : s.n = o
     · subst e
       simp only [if_true, Option.some.injEq] at h1 h3
       subst h1
       exact .inr (hB b h2 h3).1
     · simp only [e, if_false] at h1
       have e' : o ≠ s.n := fun h => e h.symm
       simp only [e', if_false] at h3
       exact .inl ⟨o, y, h1, h2, h3⟩
   · intro o y b ho h1 h2 h3
     have e : s.n ≠ o := by omega
     have e' : o ≠ s.n := by omega
     simp only [lk_cons, e, if_false] at h1
     simp only [e', if_false] at h3
     exact .inl ⟨y, h1, h2, h3⟩
 refine ⟨hS, ?_, ?_, ?_, ?_, fun b hb => Nat.lt_of_lt_of_le (h.hid b hb) size, h.gs hS, ?_⟩
 · intro o y ho
   simp only [lk_cons] at ho
   by_cases e : s.n = o
   · subst e
     simp only [if_true, Option.some.injEq] at ho
     subst ho
     have := hx _ hS.vw
     simpa using this
   · simp only [e, if_false] at ho
     have e' : o ≠ s.n := fun h => e h.symm
     have := (h.obs o y ho).keep (w1 := w1) hS.n (h.lt o y ho) hS.m hS.vw (fun b hy hb => old b (h.blk o y b ho hy hb))
     simpa [e'] using this
 · intro o y ho
   simp only [lk_cons] at ho
   by_cases e : s.n = o
   · subst e; simp
   · simp only [e, if_false] at ho
     have := h.lt o y ho
     simp; omega
 · intro o o' y y' ho ho' hy hy' hoo b hb hb'
   simp only [lk_cons] at ho ho'
   by_cases e : s.n = o
   · subst e
     have e' : o' ≠ s.n := fun h => hoo h.symm
     simp only [if_true, Option.some.injEq] at ho hb
     subst ho
     have e2 : s.n ≠ o' := hoo
     simp only [e2, if_false] at ho'
     simp only [e', if_false] at hb'
     have h1 := hB b hy hb
     have h2 := h.blk o' y' b ho' hy' hb'
     omega
   · simp only [e, if_false] at ho
     have e1 : o ≠ s.n := fun h => e h.symm
     simp only [e1, if_false] at hb
     by_cases e' : s.n = o'
     · subst e'
       simp only [if_true, Option.some.injEq] at ho' hb'
       subst ho'
       have h1 := hB b hy' hb'
       have h2 := h.blk o y b ho hy hb
       omega
     · simp only [e', if_false] at ho'
       have e2 : o' ≠ s.n := fun h => e' h.symm
       simp only [e2, if_false] at hb'
       exact h.sep o o' y y' ho ho' hy hy' hoo b hb hb'
 · intro o y b ho hy hb
   simp only [lk_cons] at ho
   by_cases e : s.n = o
   · subst e
     simp only [if_true, Option.some.injEq] at ho hb
     subst ho
     exact (hB b hy hb).2
   · simp only [e, if_false] at ho
     have e1 : o ≠ s.n := fun h => e h.symm
     simp only [e1, if_false] at hb
     exact Nat.lt_of_lt_of_le (h.blk o y b ho hy hb) size
 · intro o y b ho hy hb hh
   simp only [lk_cons] at ho
   by_cases e : s.n = o
   · subst e
     simp only [if_true, Option.some.injEq] at ho hb
     subst ho
     have := (hB b hy hb).1
     have := h.hid b hh
     omega
   · simp only [e, if_false] at ho
     have e1 : o ≠ s.n := fun h => e h.symm
     simp only [e1, if_false] at hb
     exact h.seph o y b ho hy hb hh
theorem SOk.upd {G : World → Prop} {H : Hd G} {w w1 : World} {m : Nat → Value} {B : Nat → Nat → Prop} {s : Store} (h : SOk H w m B s) (o : Nat) (x0 x : Ob) (ho : lk s.ob o = some x0) (h0 : x0.has = true) (Bn : Nat → Prop)
   (os : w1.os = w.os) (tape : w1.tape = w.tape) (output : w1.output = w.output) (size : w.heap.size ≤ w1.heap.size) (old : ∀ b, b < w.heap.size → ¬ B o b → w1.heap[b]? = w.heap[b]?)
   (hB : ∀ b, x.has = true → Bn b → b < w1.heap.size ∧ (B o b ∨ w.heap.size ≤ b))
   (hx : ∀ c : Rdr, (∀ a u, vw H w B s.ob a u → c a u) → (∀ a u, w1.cell? a = some u → ¬ (x.has = true ∧ Bn a.block) → B o a.block → c a u) → ObS w1 m s.n c o Bn x) :
   Since w m B s w1 m (fun k => if k = o then Bn else B k) ⟨s.n, (o, x) :: s.ob⟩ ∧
   SOk H w1 m (fun k => if k = o then Bn else B k) ⟨s.n, (o, x) :: s.ob⟩ := by
 have hS : Since w m B s w1 m (fun k => if k = o then Bn else B k) ⟨s.n, (o, x) :: s.ob⟩ := by
   refine ⟨os, tape, output, size, fun b hb hn => old b hb (fun hb' => hn ⟨o, x0, ho, h0, hb'⟩), ?_, Nat.le_refl _, fun _ _ => rfl, ?_⟩
   · rintro b ⟨k, y, h1, h2, h3⟩
     simp only [lk_cons] at h1
     by_cases e : o = k
     · subst e
       simp only [if_true, Option.some.injEq] at h1 h3
       subst h1
       rcases (hB b h2 h3).2 with h4 | h4
       · exact .inl ⟨o, x0, ho, h0, h4⟩
       · exact .inr h4
     · simp only [e, if_false] at h1
       have e' : k ≠ o := fun h => e h.symm
       simp only [e', if_false] at h3
       exact .inl ⟨k, y, h1, h2, h3⟩
   · intro k y b hk h1 h2 h3
     simp only [lk_cons] at h1
     by_cases e : o = k
     · subst e
       simp only [if_true, Option.some.injEq] at h1 h3
       subst h1
       rcases (hB b h2 h3).2 with h4 | h4
       · exact .inl ⟨x0, ho, h0, h4⟩
       · exact .inr h4
     · simp only [e, if_false] at h1
       have e' : k ≠ o := fun h => e h.symm
       simp only [e', if_false] at h3
       exact .inl ⟨y, h1, h2, h3⟩
 have hsame : ∀ k y, lk s.ob k = some y → k ≠ o → y.has = true → ∀ b, B k b → w1.heap[b]? = w.heap[b]? := fun k y hk hko hy b hb =>
   old b (h.blk k y b hk hy hb) (h.sep k o y x0 hk ho hy h0 hko b hb)
 refine ⟨hS, ?_, ?_, ?_, ?_, fun b hb => Nat.lt_of_lt_of_le (h.hid b hb) size, h.gs hS, ?_⟩
 · intro k y hk
   simp only [lk_cons] at hk
   by_cases e : o = k
   · subst e
     simp only [if_true, Option.some.injEq] at hk
     subst hk
     have := hx _ hS.vw (fun a u h1 h2 h3 => ⟨h1, fun h4 => by
       obtain ⟨k, y, k1, k2, k3⟩ := h4
       simp only [lk_cons] at k1
       by_cases e : o = k
       · subst e
         simp only [if_true, Option.some.injEq] at k1 k3
         subst k1
         exact h2 ⟨k2, k3⟩
       · simp only [e, if_false] at k1
         have e' : k ≠ o := fun h => e h.symm
         simp only [e', if_false] at k3
         exact h.sep k o y x0 k1 ho k2 h0 e' _ k3 h3, h.seph o x0 _ ho h0 h3⟩)
     simpa using this
   · simp only [e, if_false] at hk
     have e' : k ≠ o := fun h => e h.symm
     have := (h.obs k y hk).keep (w1 := w1) hS.n (h.lt k y hk) hS.m hS.vw (fun b hy hb => hsame k y hk e' hy b hb)
     simpa [e'] using this
 · intro k y hk
   simp only [lk_cons] at hk
   by_cases e : o = k
   · subst e; exact h.lt o x0 ho
   · simp only [e, if_false] at hk; exact h.lt k y hk
 · intro k k' y y' hk hk' hy hy' hkk b hb hb'
   simp only [lk_cons] at hk hk'
   by_cases e : o = k
   · subst e
     have e' : k' ≠ o := fun h => hkk h.symm
     simp only [if_true, Option.some.injEq] at hk hb
     subst hk
     have e2 : o ≠ k' := hkk
     simp only [e2, if_false] at hk'
     simp only [e', if_false] at hb'
     rcases (hB b hy hb).2 with h1 | h1
     · exact h.sep o k' x0 y' ho hk' h0 hy' e2 b h1 hb'
     · have h2 := h.blk k' y' b hk' hy' hb'
       omega
   · simp only [e, if_false] at hk
     have e1 : k ≠ o := fun h => e h.symm
     simp only [e1, if_false] at hb
     by_cases e' : o = k'
     · subst e'
       simp only [if_true, Option.some.injEq] at hk' hb'
       subst hk'
       rcases (hB b hy' hb').2 with h1 | h1
       · exact h.sep k o y x0 hk ho hy h0 e1 b hb h1
       · have h2 := h.blk k y b hk hy hb
         omega
     · simp only [e', if_false] at hk'
       have e2 : k' ≠ o := fun h => e' h.symm
       simp only [e2, if_false] at hb'
       exact h.sep k k' y y' hk hk' hy hy' hkk b hb hb'
 · intro k y b hk hy hb
   simp only [lk_cons] at hk
   by_cases e : o = k
   · subst e
     simp only [if_true, Option.some.injEq] at hk hb
     subst hk
     exact (hB b hy hb).1
   · simp only [e, if_false] at hk
     have e1 : k ≠ o := fun h => e h.symm
     simp only [e1, if_false] at hb
     exact Nat.lt_of_lt_of_le (h.blk k y b hk hy hb) size
 · intro k y b hk hy hb hh
   simp only [lk_cons] at hk
   by_cases e : o = k
   · subst e
     simp only [if_true, Option.some.injEq] at hk hb
     subst hk
     rcases (hB b hy hb).2 with h1 | h1
     · exact h.seph o x0 b ho h0 h1 hh
     · have := h.hid b hh
       omega
   · simp only [e, if_false] at hk
     have e1 : k ≠ o := fun h => e h.symm
     simp only [e1, if_false] at hb
     exact h.seph k y b hk hy hb hh
theorem SOk.mv {G : World → Prop} {H : Hd G} {w w1 : World} {m : Nat → Value} {B : Nat → Nat → Prop} {s : Store} (h : SOk H w m B s) (o : Nat) (x0 x : Ob) (ho : lk s.ob o = some x0) (h0 : x0.has = true) (v : Value) (Bn : Nat → Prop)
   (os : w1.os = w.os) (tape : w1.tape = w.tape) (output : w1.output = w.output) (size : w.heap.size ≤ w1.heap.size) (old : ∀ b, b < w.heap.size → ¬ B o b → w1.heap[b]? = w.heap[b]?)
   (hB : ∀ b, x.has = true → Bn b → b < w1.heap.size ∧ (B o b ∨ w.heap.size ≤ b))
   (hx : ∀ c : Rdr, (∀ a u, vw H w B s.ob a u → c a u) → (∀ a u, w1.cell? a = some u → ¬ (x.has = true ∧ Bn a.block) → B o a.block → c a u) → ObS w1 (fun k => if k = s.n then v else m k) (s.n + 1) c s.n Bn x) :
   Since w m B s w1 (fun k => if k = s.n then v else m k) (fun k => if k = s.n then Bn else B k) ⟨s.n + 1, (s.n, x) :: (o, .dead) :: s.ob⟩ ∧
   SOk H w1 (fun k => if k = s.n then v else m k) (fun k => if k = s.n then Bn else B k) ⟨s.n + 1, (s.n, x) :: (o, .dead) :: s.ob⟩ := by
 have hno : o < s.n := h.lt o x0 ho
 -- an entry of the new store
 have ent : ∀ k y, lk ((s.n, x) :: (o, .dead) :: s.ob) k = some y → (k = s.n ∧ y = x) ∨ (k = o ∧ y = .dead) ∨ (k ≠ s.n ∧ k ≠ o ∧ lk s.ob k = some y ∧ k < s.n) := by
   intro k y hk
   simp only [lk_cons] at hk
   by_cases e : s.n = k
   · simp only [e, if_true, Option.some.injEq] at hk; exact .inl ⟨e.symm, hk.symm⟩
   · simp only [e, if_false] at hk
     by_cases e' : o = k
     · simp only [e', if_true, Option.some.injEq] at hk; exact .inr (.inl ⟨e'.symm, hk.symm⟩)
     · simp only [e', if_false] at hk
       exact .inr (.inr ⟨fun h => e h.symm, fun h => e' h.symm, hk, h.lt k y hk⟩)
 have hS : Since w m B s w1 (fun k => if k = s.n then v else m k) (fun k => if k = s.n then Bn else B k) ⟨s.n + 1, (s.n, x) :: (o, .dead) :: s.ob⟩ := by
   refine ⟨os, tape, output, size, fun b hb hn => old b hb (fun hb' => hn ⟨o, x0, ho, h0, hb'⟩), ?_, Nat.le_succ _, fun k hk => by simp; omega, ?_⟩
   · rintro b ⟨k, y, h1, h2, h3⟩
     rcases ent k y h1 with ⟨rfl, rfl⟩ | ⟨rfl, rfl⟩ | ⟨e1, e2, e3, e4⟩
     · simp only [if_true] at h3
       rcases (hB b h2 h3).2 with h4 | h4
       · exact .inl ⟨o, x0, ho, h0, h4⟩
       · exact .inr h4
     · cases h2
     · simp only [e1, if_false] at h3
       exact .inl ⟨k, y, e3, h2, h3⟩
   · intro k y b hk h1 h2 h3
     rcases ent k y h1 with ⟨rfl, rfl⟩ | ⟨rfl, rfl⟩ | ⟨e1, e2, e3, e4⟩
     · omega
     · cases h2
     · simp only [e1, if_false] at h3
       exact .inl ⟨y, e3, h2, h3⟩
 refine ⟨hS, ?_, ?_, ?_, ?_, fun b hb => Nat.lt_of_lt_of_le (h.hid b hb) size, h.gs hS, ?_⟩
 · intro k y hk
   rcases ent k y hk with ⟨rfl, rfl⟩ | ⟨rfl, rfl⟩ | ⟨e1, e2, e3, e4⟩
   · have := hx _ hS.vw (fun a u h1 h2 h3 => ⟨h1, fun h4 => by
       obtain ⟨k, z, k1, k2, k3⟩ := h4
       rcases ent k z k1 with ⟨rfl, rfl⟩ | ⟨rfl, rfl⟩ | ⟨e1, e2, e3, e4⟩
       · simp only [if_true] at k3; exact h2 ⟨k2, k3⟩
       · cases k2
       · simp only [e1, if_false] at k3
         exact h.sep k o z x0 e3 ho k2 h0 e2 _ k3 h3, h.seph o x0 _ ho h0 h3⟩)
     simpa using this
   · trivial
   · have := (h.obs k y e3).keep (w1 := w1) hS.n e4 hS.m hS.vw (fun b hy hb => old b (h.blk k y b e3 hy hb) (h.sep k o y x0 e3 ho hy h0 e2 b hb))
     simpa [e1] using this
 · intro k y hk
   rcases ent k y hk with ⟨rfl, rfl⟩ | ⟨rfl, rfl⟩ | ⟨e1, e2, e3, e4⟩ <;> (simp only; omega)
 · intro k k' y y' hk hk' hy hy' hkk b hb hb'
   rcases ent k y hk with ⟨rfl, rfl⟩ | ⟨rfl, rfl⟩ | ⟨e1, e2, e3, e4⟩
   · rcases ent k' y' hk' with ⟨rfl, rfl⟩ | ⟨rfl, rfl⟩ | ⟨f1, f2, f3, f4⟩
     · exact hkk rfl
     · cases hy'
     · simp only [if_true] at hb
       simp only [f1, if_false] at hb'
       rcases (hB b hy hb).2 with h1 | h1
       · exact h.sep o k' x0 y' ho f3 h0 hy' (fun h => f2 h.symm) b h1 hb'
       · have := h.blk k' y' b f3 hy' hb'; omega
   · cases hy
   · rcases ent k' y' hk' with ⟨rfl, rfl⟩ | ⟨rfl, rfl⟩ | ⟨f1, f2, f3, f4⟩
     · simp only [if_true] at hb'
       simp only [e1, if_false] at hb
       rcases (hB b hy' hb').2 with h1 | h1
       · exact h.sep k o y x0 e3 ho hy h0 e2 b hb h1
       · have := h.blk k y b e3 hy hb; omega
     · cases hy'
     · simp only [e1, if_false] at hb
       simp only [f1, if_false] at hb'
       exact h.sep k k' y y' e3 f3 hy hy' hkk b hb hb'
 · intro k y b hk hy hb
   rcases ent k y hk with ⟨rfl, rfl⟩ | ⟨rfl, rfl⟩ | ⟨e1, e2, e3, e4⟩
   · simp only [if_true] at hb; exact (hB b hy hb).1
   · cases hy
   · simp only [e1, if_false] at hb
     exact Nat.lt_of_lt_of_le (h.blk k y b e3 hy hb) size
 · intro k y b hk hy hb hh
   rcases ent k y hk with ⟨rfl, rfl⟩ | ⟨rfl, rfl⟩ | ⟨e1, e2, e3, e4⟩
   · simp only [if_true] at hb
     rcases (hB b hy hb).2 with h1 | h1
     · exact h.seph o x0 b ho h0 h1 hh
     · have := h.hid b hh
       omega
   · cases hy
   · simp only [e1, if_false] at hb
     exact h.seph k y b e3 hy hb hh
end Go.Ev
namespace Go.Ev
open Go
inductive Rv where
 | s (t : Nat)
 | k (v : Value)
 | f (n : FuncId)
inductive Out where
 | ret (s : SV)
 | pan (s : SV)
structure Contract where
 wp : List SV → Store → (Out → Store → Prop) → Prop
 pf : List SV → Option (Prop × SV)
 it : List D → Option (Prop × List (List SV)) := fun _ => none
inductive SOp where
 | mv (d : Nat) (x : Rv)
 | bin (d : Nat) (op : BinOp) (x y : Rv)
 | binc (d : Nat) (op : BinOp) (x y : Rv)
 | nr (d : Nat) (t : TypeId) (sz : Nat)
 | not (d : Nat) (x : Rv)
 | neg (d : Nat) (x : Rv)
 | isnil (d : Nat) (neg ifc : Bool) (x : Rv)
 | eqa (d : Nat) (neg : Bool) (ks : List Nat) (x y : Rv)
 | cvi (d : Nat) (k : IntKind) (x : Rv)
 | i2s (d : Nat) (x : Rv)
 | b2s (d : Nat) (x : Rv)
 | pk (d : Nat) (c a b : Rv)
 | len (d : Nat) (x : Rv)
 | lens (d : Nat) (x : Rv)
 | ex (d : Nat) (x : Rv) (i : Nat)
 | ixs (d : Nat) (x i : Rv)
 | sls (d : Nat) (x : Rv) (lo hi : Option Rv)
 | slr (d : Nat) (sz : Nat) (x : Rv) (lo hi : Option Rv)
 | slp (d : Nat) (sz : Nat) (x : Rv) (lo hi : Option Rv)
 | mm (d : Nat) (mn : Bool) (x : Rv) (ys : List Rv)
 | rg (d : Nat) (x : Rv)
 | nx (d : Nat) (x : Rv)
 | al (d : Nat) (t : TypeId) (zero : List Value)
 | alb (d : Nat) (t u : TypeId)
 | aln (d : Nat) (t : TypeId) (zero : List Value) (c : Nat) (u : TypeId) (sz : Nat)
 | bx (d : Nat) (t : TypeId) (n : Nat) (x : Rv)
 | bxn (d : Nat) (t : TypeId) (n : Nat) (x : Rv) (c : Nat) (u : TypeId) (sz : Nat)
 | ld (d : Nat) (agg : Bool) (n : Nat) (a : Rv)
 | st (agg : Bool) (n : Nat) (a x : Rv)
 | nc (d : Nat) (x : Rv)
 | fa (d : Nat) (off : Nat) (x : Rv)
 | fd (d : Nat) (agg : Bool) (off n : Nat) (x : Rv)
 | ia (d : Nat) (sz : Nat) (x i : Rv)
 | ixa (d : Nat) (agg : Bool) (n sz : Nat) (x i : Rv)
 | ipa (d : Nat) (n sz : Nat) (x i : Rv)
 | bd (d : Nat) (zero : List Value) (parts : List (Nat × Nat × Rv))
 | bs (d : Nat) (t : TypeId) (sz : Nat) (parts : List Rv)
 | ap (d : Nat) (t : TypeId) (sz bytes : Nat) (x y : Rv)
 | aps (d : Nat) (t : TypeId) (x y : Rv)
 | mi (d : Nat) (t : TypeId) (x : Rv)
 | mf (d : Nat) (f : FuncId) (caps : List Rv)
 | pn (x : Rv)
 | call (d : Option Nat) (f : FuncId) (lend : Bool) (args : List Rv)
 | callv (d : Option Nat) (lend : Bool) (x : Rv) (args : List Rv)
 | undef (d : Nat)
 | stuck
def kSV : Value → SV
 | .agg a => .agg (a.toList.map fun x => .d (.v x))
 | v => .d (.v v)
def Rv.get (st : St) : Rv → SV
 | .s t => st.get t
 | .k v => kSV v
 | .f n => .fn n []
def need {α : Type} (o : Option α) (K : α → Prop) : Prop := match o with | some a => K a | none => False
@[simp] theorem need_some {α : Type} (a : α) (K : α → Prop) : need (some a) K = K a := rfl
@[simp] theorem need_none {α : Type} (K : α → Prop) : need none K = False := rfl
def binV : BinOp → Value → Value → Option Value
 | .shl, .int k a, .int _ b => if 0 ≤ b then some (.int k (k.wrap (a * 2 ^ (min b.toNat k.bits)))) else none
 | .shr, .int k a, .int _ b => if 0 ≤ b then some (.int k (a.fdiv (2 ^ (min b.toNat k.bits)))) else none
 | .add, .int k a, .int k' b => if k = k' then some (.int k (k.wrap (a + b))) else none
 | .sub, .int k a, .int k' b => if k = k' then some (.int k (k.wrap (a - b))) else none
 | .mul, .int k a, .int k' b => if k = k' then some (.int k (k.wrap (a * b))) else none
 | .quo, .int k a, .int k' b => if k = k' ∧ b ≠ 0 then some (.int k (k.wrap (a.tdiv b))) else none
 | .rem, .int k a, .int k' b => if k = k' ∧ b ≠ 0 then some (.int k (a.tmod b)) else none
 | .and, .int k a, .int k' b => if k = k' then some (.int k (k.wrap ((BitVec.ofInt k.bits a &&& BitVec.ofInt k.bits b).toNat))) else none
 | .or, .int k a, .int k' b => if k = k' then some (.int k (k.wrap ((BitVec.ofInt k.bits a ||| BitVec.ofInt k.bits b).toNat))) else none
 | .xor, .int k a, .int k' b => if k = k' then some (.int k (k.wrap ((BitVec.ofInt k.bits a ^^^ BitVec.ofInt k.bits b).toNat))) else none
 | .eql, .int k a, .int k' b => if k = k' then some (.bool (decide (a = b))) else none
 | .neq, .int k a, .int k' b => if k = k' then some (.bool (!decide (a = b))) else none
 | .lss, .int k a, .int k' b => if k = k' then some (.bool (decide (a < b))) else none
 | .leq, .int k a, .int k' b => if k = k' then some (.bool (decide (a ≤ b))) else none
 | .gtr, .int k a, .int k' b => if k = k' then some (.bool (decide (b < a))) else none
 | .geq, .int k a, .int k' b => if k = k' then some (.bool (decide (b ≤ a))) else none
 | .add, .string a, .string b => if a.size + b.size ≤ 9223372036854775807 then some (.string (a ++ b)) else none
 | .eql, .string a, .string b => some (.bool (decide (a = b)))
 | .neq, .string a, .string b => some (.bool (!decide (a = b)))
 | _, _, _ => none
def ariV : BinOp → Int → Int → Option Int
 | .add, a, b => some (a + b)
 | .sub, a, b => some (a - b)
 | .mul, a, b => some (a * b)
 | _, _, _ => none
theorem wrap_in (z : Int) (h : -9223372036854775808 ≤ z ∧ z ≤ 9223372036854775807) : IntKind.i64.wrap z = z := by
 simp only [IntKind.wrap, IntKind.bits, IntKind.signed]
 simp
 omega
theorem ariV_ok {op : BinOp} {a b z : Int} (h : ariV op a b = some z) (hz : -9223372036854775808 ≤ z ∧ z ≤ 9223372036854775807) : binV op (.int .i64 a) (.int .i64 b) = some (.int .i64 z) := by
 unfold ariV at h
 split at h <;> simp only [Option.some.injEq, reduceCtorEq] at h <;> subst h <;> simp only [binV, if_true, wrap_in _ hz]
theorem bytes_eq (a b : ByteArray) : (a.toList == b.toList) = decide (a = b) := by
 rw [Bool.eq_iff_iff]
 simp only [ByteArray.toList_eq, beq_iff_eq, decide_eq_true_eq]
 constructor
 · intro h
   have h2 : a.data = b.data := Array.toList_inj.1 h
   cases a; cases b; simp_all
 · rintro rfl; rfl
theorem binV_ok {op : BinOp} {a b v : Value} (h : binV op a b = some v) (P : Program) (w : World) (t : TypeId) (x y : Operand) :
   ((do eqGuard op t x y a b; binOp op t a b) : Sem Value).run P w = .ok v w := by
 have hint : ∀ k (p q : Int), eqGuard op t x y (.int k p) (.int k q) = pure () := fun k p q => by cases op <;> rfl
 have hstr : ∀ (p q : ByteArray), eqGuard op t x y (.string p) (.string q) = pure () := fun p q => by cases op <;> rfl
 unfold binV at h
 split at h
 case h_1 k p k' q =>
   split at h
   · rename_i hq
     simp only [Option.some.injEq] at h; subst h
     have : ¬ q < 0 := by omega
     simp [eqGuard, binOp, Op.shift, this]
   · cases h
 case h_2 k p k' q =>
   split at h
   · rename_i hq
     simp only [Option.some.injEq] at h; subst h
     have : ¬ q < 0 := by omega
     simp [eqGuard, binOp, Op.shift, this]
   · cases h
 case h_3 => obtain ⟨e, h3⟩ := Option.ite_none_right_eq_some.1 h; clear h; subst e; simp only [Option.some.injEq] at h3; subst h3; simp [hint, binOp, Op.intArith]
 case h_4 => obtain ⟨e, h3⟩ := Option.ite_none_right_eq_some.1 h; clear h; subst e; simp only [Option.some.injEq] at h3; subst h3; simp [hint, binOp, Op.intArith]
 case h_5 => obtain ⟨e, h3⟩ := Option.ite_none_right_eq_some.1 h; clear h; subst e; simp only [Option.some.injEq] at h3; subst h3; simp [hint, binOp, Op.intArith]
 case h_6 => obtain ⟨⟨e0, e⟩, h3⟩ := Option.ite_none_right_eq_some.1 h; clear h; subst e0; simp only [Option.some.injEq] at h3; subst h3; simp [hint, binOp, Op.intDiv, e]
 case h_7 => obtain ⟨⟨e0, e⟩, h3⟩ := Option.ite_none_right_eq_some.1 h; clear h; subst e0; simp only [Option.some.injEq] at h3; subst h3; simp [hint, binOp, Op.intDiv, e]
 case h_8 => obtain ⟨e, h3⟩ := Option.ite_none_right_eq_some.1 h; clear h; subst e; simp only [Option.some.injEq] at h3; subst h3; simp [hint, binOp, Op.intBits]
 case h_9 => obtain ⟨e, h3⟩ := Option.ite_none_right_eq_some.1 h; clear h; subst e; simp only [Option.some.injEq] at h3; subst h3; simp [hint, binOp, Op.intBits]
 case h_10 => obtain ⟨e, h3⟩ := Option.ite_none_right_eq_some.1 h; clear h; subst e; simp only [Option.some.injEq] at h3; subst h3; simp [hint, binOp, Op.intBits]
 case h_11 => obtain ⟨e, h3⟩ := Option.ite_none_right_eq_some.1 h; clear h; subst e; simp only [Option.some.injEq] at h3; subst h3; simp [hint, binOp, Op.intCmp]; rfl
 case h_12 => obtain ⟨e, h3⟩ := Option.ite_none_right_eq_some.1 h; clear h; subst e; simp only [Option.some.injEq] at h3; subst h3; simp [hint, binOp, Op.intCmp]; rfl
 case h_13 => obtain ⟨e, h3⟩ := Option.ite_none_right_eq_some.1 h; clear h; subst e; simp only [Option.some.injEq] at h3; subst h3; simp [hint, binOp, Op.intCmp]
 case h_14 => obtain ⟨e, h3⟩ := Option.ite_none_right_eq_some.1 h; clear h; subst e; simp only [Option.some.injEq] at h3; subst h3; simp [hint, binOp, Op.intCmp]
 case h_15 => obtain ⟨e, h3⟩ := Option.ite_none_right_eq_some.1 h; clear h; subst e; simp only [Option.some.injEq] at h3; subst h3; simp [hint, binOp, Op.intCmp]
 case h_16 => obtain ⟨e, h3⟩ := Option.ite_none_right_eq_some.1 h; clear h; subst e; simp only [Option.some.injEq] at h3; subst h3; simp [hint, binOp, Op.intCmp]
 case h_17 p q =>
   obtain ⟨e, h⟩ := Option.ite_none_right_eq_some.1 h
   simp only [Option.some.injEq] at h; subst h
   have h2 : binOp .add t (.string p) (.string q) = Op.stringOp .add p q := by simp [binOp]
   have h1 : ¬ ((p.size + q.size : Nat) : Int) > IntKind.i64.max := by have : IntKind.i64.max = 9223372036854775807 := by decide
                                                                       omega
   simp only [Sem.run_bind, hstr, Sem.run_pure, Result.andThen_ok, h2]
   unfold Op.stringOp
   simp only [h1, if_false]
   rfl
 case h_18 p q =>
   simp only [Option.some.injEq] at h; subst h
   simp [hstr, binOp, Op.stringOp, bytes_eq]
 case h_19 p q =>
   simp only [Option.some.injEq] at h; subst h
   simp [hstr, binOp, Op.stringOp, bytes_eq]
 case h_20 => cases h
def St.rows (st : St) : SV → Option (List (List D))
 | .own o => match lk st.ob o with
   | some (.row _ _ rows) => some rows
   | some (.fro rows) => some rows
   | _ => none
 | .d (.sl rows) => some rows
 | .d (.v (.slice none 0 0)) => some []
 | _ => none
def St.rowsF (st : St) : SV → Option (List (List D))
 | .own o => match lk st.ob o with
   | some (.fro rows) => some rows
   | _ => none
 | .d (.sl rows) => some rows
 | .d (.v (.slice none 0 0)) => some []
 | _ => none
def St.setO (st : St) (o : Nat) (x : Ob) : St := { st with ob := (o, x) :: st.ob }
def St.newO (st : St) (x : Ob) : St := { st with n := st.n + 1, ob := (st.n, x) :: st.ob }
def allD : List SV → Option (List D)
 | [] => some []
 | .d x :: r => (allD r).map (x :: ·)
 | _ :: _ => none
def St.frz (st : St) : SV → Option (D × St)
 | .d x => some (x, st)
 | .own o => match lk st.ob o with
   | some (.row _ _ rows) => some (.sl rows, st.setO o (.fro rows))
   | some (.fro rows) => some (.sl rows, st)
   | _ => none
 | .ptr o 0 => match lk st.ob o with
   | some (.cells _ l) => (allD l).map fun ds => (.pt ds, st.setO o .dead)
   | _ => none
 | _ => none
def St.frzL (st : St) : List SV → Option (List D × St)
 | [] => some ([], st)
 | x :: r => (st.frz x).bind fun (y, st1) => (st1.frzL r).map fun (ys, st2) => (y :: ys, st2)
def SV.cells : SV → Option (List SV)
 | .agg l => some l
 | .any | .tup _ | .opt _ _ => none
 | x => some [x]
def byteOf : List D → Option UInt8
 | [.v (.int .u8 n)] => some (UInt8.ofNat n.toNat)
 | _ => none
def bytesOf : List (List D) → Option (List UInt8)
 | [] => some []
 | r :: rs => match byteOf r, bytesOf rs with
   | some b, some bs => some (b :: bs)
   | _, _ => none
def byteRows (l : List UInt8) : List (List D) := l.map fun b => [.v (.int .u8 b.toNat)]
def str (l : List UInt8) : Value := .string ⟨l.toArray⟩
def bt (s : ByteArray) (i : Int) : Int := ((s.data.toList.getD i.toNat 0).toNat : Int)
def splice (l : List SV) (off : Nat) (xs : List SV) : List SV := l.take off ++ xs ++ l.drop (off + xs.length)
def spliceD (l : List D) (off : Nat) (xs : List D) : List D := l.take off ++ xs ++ l.drop (off + xs.length)
def parts (st : St) : List SV → List (Nat × Nat × Rv) → Option (List SV)
 | l, [] => some l
 | l, (off, n, x) :: r => match (x.get st).cells with
   | some xs => if xs.length = n ∧ off + n ≤ l.length then parts st (splice l off xs) r else none
   | none => none
def rowParts (st : St) (sz : Nat) : List Rv → Option (List (List D) × St)
 | [] => some ([], st)
 | x :: r => match (x.get st).cells with
   | some xs => if xs.length = sz then (st.frzL xs).bind fun (ds, st1) => (rowParts st1 sz r).map fun (rs, st2) => (ds :: rs, st2) else none
   | none => none
def SV.ren (f : Nat → Option Nat) : SV → SV
 | .own o => match f o with | some i => .own i | none => .any
 | .ptr o k => match f o with | some i => .ptr i k | none => .any
 | .ep o sz i k => match f o with | some j => .ep j sz i k | none => .any
 | .agg l => .agg (l.map fun x => SV.ren f x)
 | .tup l => .tup (l.map fun x => SV.ren f x)
 | .fn g caps => .fn g (caps.map fun x => SV.ren f x)
 | .opt b x => .opt b (x.ren f)
 | .any => .any
 | .d x => .d x
 | .cp cells => .cp cells
def Ob.ren (f : Nat → Option Nat) : Ob → Ob
 | .cells t l => .cells t (l.map fun x => x.ren f)
 | x => x
def optInt (st : St) (dflt : Int) : Option Rv → Option Int
 | none => some dflt
 | some x => match x.get st with
   | .d (.v (.int _ i)) => some i
   | _ => none
def nilV : Bool → SV → Option Bool
 | false, .ptr _ _ => some false
 | false, .d (.pt _) => some false
 | false, .cp _ => some false
 | false, .d (.v (.pointer none)) => some true
 | true, .d (.ifc _ _) => some false
 | true, .d (.v .nilIface) => some true
 | _, _ => none
def eqv : Nat → SV → SV → Option Bool
 | 0, .d (.v (.int k a)), .d (.v (.int k' b)) => if k = k' then some (decide (a = b)) else none
 | 1, .d (.v (.string a)), .d (.v (.string b)) => some (decide (a = b))
 | 2, .d (.v (.bool a)), .d (.v (.bool b)) => some (a == b)
 | _, _, _ => none
def eqL : List Nat → List SV → List SV → Option Bool
 | [], _, _ => some true
 | k :: ks, x :: xs, y :: ys => (eqv k x y).bind fun p => (eqL ks xs ys).map fun q => p && q
 | _, _, _ => none
def eqA (ks : List Nat) : SV → SV → Option Bool
 | .agg l, .agg l' => eqL ks l l'
 | _, _ => none
def intsOf (st : St) (k : IntKind) : List Rv → Option (List Int)
 | [] => some []
 | x :: r => match x.get st with
   | .d (.v (.int k' i)) => if k' = k then (intsOf st k r).map (i :: ·) else none
   | _ => none
def mmOf (mn : Bool) (x y : Int) : Int := cond mn (if y < x then y else x) (if y > x then y else x)
def St.lend1 (st : St) : SV → SV
 | .own o => match lk st.ob o with
   | some (.row _ _ rows) => .d (.sl rows)
   | some (.fro rows) => .d (.sl rows)
   | _ => .any
 | .d (.v (.slice none 0 0)) => .d (.sl [])
 | .d x => .d x
 | .cp l => .cp l
 | _ => .any
def St.lend (st : St) : SV → SV
 | .agg l => .agg (l.map st.lend1)
 | x => st.lend1 x
def St.give1 (st : St) (os : List Nat) : SV → SV × St
 | .own o => if o ∈ os then (.own o, st) else match st.frz (.own o) with
   | some (y, st1) => (.d y, st1)
   | none => (.any, st)
 | .d (.v (.slice none 0 0)) => (.d (.sl []), st)
 | x => (x, st)
def St.giveC (st : St) (os : List Nat) : List SV → List SV × St
 | [] => ([], st)
 | x :: r => ((st.give1 os x).1 :: ((st.give1 os x).2.giveC os r).1, ((st.give1 os x).2.giveC os r).2)
def St.give (st : St) (os : List Nat) : SV → SV × St
 | .agg l => (.agg (st.giveC os l).1, (st.giveC os l).2)
 | x => st.give1 os x
def St.giveL (st : St) (os : List Nat) : List SV → List SV × St
 | [] => ([], st)
 | x :: r => ((st.give os x).1 :: ((st.give os x).2.giveL os r).1, ((st.give os x).2.giveL os r).2)
def subO (ob : List (Nat × Ob)) (f : Nat → Option Nat) : List Nat → Nat → List (Nat × Ob)
 | [], _ => []
 | o :: r, i => match lk ob o with
   | some x => (i, x.ren f) :: subO ob f r (i + 1)
   | none => subO ob f r (i + 1)
def St.sub (st : St) (os : List Nat) : Store := ⟨os.length, subO st.ob (fun o => os.idxOf? o) os 0⟩
def back (n : Nat) (os : List Nat) (i : Nat) : Nat := if i < os.length then os.getD i 0 else n + (i - os.length)
def St.merge (st : St) (os : List Nat) (s : Store) : St :=
 { st with n := st.n + (s.n - os.length), ob := (s.ob.map fun x => (back st.n os x.1, x.2.ren fun j => some (back st.n os j))) ++ ((os.map fun o => (o, Ob.dead)) ++ st.ob) }
def idsC (ob : List (Nat × Ob)) : Nat → SV → List Nat
 | _, .own o => [o]
 | 0, _ => []
 | f + 1, .ptr o _ => o :: (match lk ob o with
   | some (.cells _ l) => l.flatMap (idsC ob f)
   | _ => [])
 | _, _ => []
def idsA (ob : List (Nat × Ob)) : SV → List Nat
 | .ptr o k => idsC ob 3 (.ptr o k)
 | .ep o _ _ _ => [o]
 | .fn _ caps => caps.flatMap (idsC ob 3)
 | _ => []
def dd : List Nat → List Nat
 | [] => []
 | x :: r => x :: (dd r).filter fun y => decide (y ≠ x)
def osOf (ob : List (Nat × Ob)) (args : List SV) : List Nat := dd (args.flatMap (idsA ob))
def scal1 : SV → Bool
 | .d (.v _) => true
 | _ => false
def scal : SV → Bool
 | .tup l => l.all scal1
 | x => scal1 x
def okU : SV → Prop
 | .opt b _ => b = true
 | _ => True
def SV.un : SV → SV
 | .opt _ x => x
 | x => x
def selS (t : Bool) (x y : SV) : SV := if t then x else y
def callS (C : Contract) (d : Option Nat) (os : List Nat) (lend : Bool) (args : List SV) (st : St) (K : St → Prop) (Kp : SV → St → Prop) : Prop :=
 if lend then C.wp (args.map st.lend) ⟨0, []⟩ fun out s => match out with
     | .ret x => scal x = true ∧ s.ob = [] ∧ K (st.putO d x)
     | .pan _ => False
 else
   os.Nodup ∧ (∀ o ∈ os, (lk (st.giveL os args).2.ob o).isSome = true) ∧
   C.wp ((st.giveL os args).1.map (SV.ren fun o => os.idxOf? o)) ((st.giveL os args).2.sub os) fun out s => match out with
     | .ret x => K (((st.giveL os args).2.merge os s).putO d (x.ren fun j => some (back (st.giveL os args).2.n os j)))
     | .pan x => Kp (x.ren fun j => some (back (st.giveL os args).2.n os j)) ((st.giveL os args).2.merge os s)
def step (T : FuncId → Contract) (op : SOp) (st : St) (K : St → Prop) (Kp : SV → St → Prop) : Prop :=
 match op with
 | .mv d x => K (st.put d (x.get st))
 | .bin d op x y => match x.get st, y.get st with
   | .d (.v a), .d (.v b) => need (binV op a b) fun v => K (st.put d (.d (.v v)))
   | _, _ => False
 | .binc d op x y => match x.get st, y.get st with
   | .d (.v (.int .i64 a)), .d (.v (.int .i64 b)) => need (ariV op a b) fun z => (-9223372036854775808 ≤ z ∧ z ≤ 9223372036854775807) ∧ K (st.put d (.d (.v (.int .i64 z))))
   | _, _ => False
 | .nr d t sz => K ((st.newO (.row t sz [])).put d (.own st.n))
 | .not d x => match x.get st with
   | .d (.v (.bool b)) => K (st.put d (.d (.v (.bool !b))))
   | _ => False
 | .neg d x => match x.get st with
   | .d (.v (.int k n)) => K (st.put d (.d (.v (.int k (k.wrap (0 - n))))))
   | _ => False
 | .isnil d neg ifc x => need (nilV ifc (x.get st)) fun b => K (st.put d (.d (.v (.bool (cond neg (!b) b)))))
 | .eqa d neg ks x y => need (eqA ks (x.get st) (y.get st)) fun b => K (st.put d (.d (.v (.bool (cond neg (!b) b)))))
 | .cvi d k x => match x.get st with
   | .d (.v (.int _ n)) => K (st.put d (.d (.v (.int k (k.wrap n)))))
   | _ => False
 | .i2s d x => match x.get st with
   | .d (.v (.int _ n)) => K (st.put d (.d (.v (.string (Utf8.encode n)))))
   | _ => False
 | .b2s d x => need (st.rows (x.get st)) fun rows => need (bytesOf rows) fun l => K (st.put d (.d (.v (str l))))
 | .pk d c a b => match c.get st with
   | .d (.v (.bool t)) => ((t = true → okU (a.get st)) ∧ (t = false → okU (b.get st))) ∧ K (st.put d (selS t (a.get st).un (b.get st).un))
   | _ => False
 | .len d x => need (st.rows (x.get st)) fun rows => K (st.put d (.d (.v (.int .i64 rows.length))))
 | .lens d x => match x.get st with
   | .d (.v (.string s)) => K (st.put d (.d (.v (.int .i64 s.size))))
   | _ => False
 | .ex d x i => match x.get st with
   | .tup l => need l[i]? fun y => K (st.put d y)
   | _ => False
 | .ixs d x i => match x.get st, i.get st with
   | .d (.v (.string s)), .d (.v (.int _ j)) => (0 ≤ j ∧ j < s.size) ∧ K (st.put d (.d (.v (.int .u8 (bt s j)))))
   | _, _ => False
 | .sls d x lo hi => match x.get st with
   | .d (.v (.string s)) => need (optInt st 0 lo) fun l => need (optInt st s.size hi) fun h =>
     (0 ≤ l ∧ l ≤ h ∧ h ≤ s.size) ∧ K (st.put d (.d (.v (.string (s.extract l.toNat h.toNat)))))
   | _ => False
 | .slr d sz x lo hi => need (st.frz (x.get st)) fun y => match y.1 with
   | .sl rows => need (optInt st 0 lo) fun l => need (optInt st rows.length hi) fun h =>
     (0 ≤ l ∧ l ≤ h ∧ h ≤ rows.length) ∧ (∀ r ∈ rows, r.length = sz) ∧ K (y.2.put d (.d (.sl ((rows.take h.toNat).drop l.toNat))))
   | _ => False
 | .slp d sz x lo hi => need (st.rowsF (x.get st)) fun rows => need (optInt st 0 lo) fun l => need (optInt st rows.length hi) fun h =>
     (0 ≤ l ∧ l ≤ h ∧ h ≤ rows.length) ∧ (∀ r ∈ rows, r.length = sz) ∧ K (st.put d (.d (.sl ((rows.take h.toNat).drop l.toNat))))
 | .mm d mn x ys => match x.get st with
   | .d (.v (.int k i)) => need (intsOf st k ys) fun l => K (st.put d (.d (.v (.int k (l.foldl (mmOf mn) i)))))
   | _ => False
 | .rg d x => match x.get st with
   | .d (.v (.string s)) => K ((st.newO (.iter s 0)).put d (.own st.n))
   | _ => False
 | .nx d x => match x.get st with
   | .own o => match lk st.ob o with
     | some (.iter s p) => (p < s.size → K ((st.setO o (.iter s (p + (Utf8.decode s p).2))).put d (.tup [.d (.v (.bool true)), .d (.v (.int .i64 p)), .d (.v (.int .i32 (Utf8.decode s p).1))]))) ∧ (¬ p < s.size → K (st.put d (.tup [.d (.v (.bool false))])))
     | _ => False
   | _ => False
 | .al d t zero => K ((st.newO (.cells t (zero.map fun v => .d (.v v)))).put d (.ptr st.n 0))
 | .alb d t u => K ((st.newO (.bld t u [])).put d (.ptr st.n 0))
 | .aln d t zero c u sz => K (((st.newO (.row u sz [])).newO (.cells t ((zero.map fun v => .d (.v v)).set c (.own st.n)))).put d (.ptr (st.n + 1) 0))
 | .bx d t n x => need (x.get st).cells fun l => l.length = n ∧ K ((st.newO (.cells t l)).put d (.ptr st.n 0))
 | .bxn d t n x c u sz => need (x.get st).cells fun l => (l.length = n ∧ l[c]? = some (.d (.v (.slice none 0 0)))) ∧ K (((st.newO (.row u sz [])).newO (.cells t (l.set c (.own st.n)))).put d (.ptr (st.n + 1) 0))
 | .ld d agg n a => match a.get st with
   | .ptr o k => match lk st.ob o with
     | some (.cells _ l) => if agg then k + n ≤ l.length ∧ K (st.put d (.agg ((l.drop k).take n))) else need l[k]? fun y => K (st.put d y)
     | _ => False
   | .cp cells => if agg then n ≤ cells.length ∧ K (st.put d (.agg ((cells.take n).map .d))) else need cells[0]? fun y => K (st.put d (.d y))
   | .d (.pt cells) => if agg then n ≤ cells.length ∧ K (st.put d (.agg ((cells.take n).map .d))) else need cells[0]? fun y => K (st.put d (.d y))
   | .ep o sz i k => match lk st.ob o with
     | some (.row _ sz' rows) => sz' = sz ∧ need rows[i]? fun r => if agg then k + n ≤ r.length ∧ K (st.put d (.agg (((r.drop k).take n).map .d))) else need r[k]? fun y => K (st.put d (.d y))
     | _ => False
   | _ => False
 | .st agg n a x => match a.get st with
   | .ptr o k => match lk st.ob o with
     | some (.cells t l) => need (x.get st).cells fun xs => (xs.length = n ∧ k + n ≤ l.length) ∧ K (st.setO o (.cells t (splice l k xs)))
     | _ => False
   | .ep o sz i k => match lk st.ob o with
     | some (.row t sz' rows) => need (x.get st).cells fun xs => need (allD xs) fun ds => (sz' = sz ∧ i < rows.length ∧ ds.length = n ∧ k + n ≤ sz) ∧ K (st.setO o (.row t sz (rows.set i (spliceD (rows.getD i []) k ds))))
     | _ => False
   | _ => False
 | .nc d x => match x.get st with
   | .ptr o k => K (st.put d (.ptr o k))
   | .cp cells => K (st.put d (.cp cells))
   | .d (.pt cells) => K (st.put d (.d (.pt cells)))
   | _ => False
 | .fa d off x => match x.get st with
   | .ptr o k => K (st.put d (.ptr o (k + off)))
   | .cp cells => K (st.put d (.cp (cells.drop off)))
   | .d (.pt cells) => K (st.put d (.cp (cells.drop off)))
   | .ep o sz i k => K (st.put d (.ep o sz i (k + off)))
   | _ => False
 | .fd d agg off n x => match x.get st with
   | .agg l => if agg then off + n ≤ l.length ∧ K (st.put d (.agg ((l.drop off).take n))) else need l[off]? fun y => K (st.put d y)
   | _ => False
 | .ia d sz x i => match i.get st with
   | .d (.v (.int _ j)) => match x.get st with
     | .own o => match lk st.ob o with
       | some (.row _ sz' rows) => (sz' = sz ∧ 0 ≤ j ∧ j < rows.length) ∧ K (st.put d (.ep o sz j.toNat 0))
       | some (.fro rows) => 0 ≤ j ∧ need rows[j.toNat]? fun r => r.length = sz ∧ K (st.put d (.cp r))
       | _ => False
     | .d (.sl rows) => 0 ≤ j ∧ need rows[j.toNat]? fun r => r.length = sz ∧ K (st.put d (.cp r))
     | _ => False
   | _ => False
 | .ixa d agg n sz x i => match i.get st, x.get st with
   | .d (.v (.int _ j)), .agg l => (0 ≤ j ∧ j < n) ∧ (if agg then j.toNat * sz + sz ≤ l.length ∧ K (st.put d (.agg ((l.drop (j.toNat * sz)).take sz))) else need l[j.toNat * sz]? fun y => K (st.put d y))
   | _, _ => False
 | .ipa d n sz x i => match i.get st, x.get st with
   | .d (.v (.int _ j)), .ptr o k => (0 ≤ j ∧ j < n) ∧ K (st.put d (.ptr o (k + j.toNat * sz)))
   | .d (.v (.int _ j)), .cp cells => (0 ≤ j ∧ j < n) ∧ K (st.put d (.cp (cells.drop (j.toNat * sz))))
   | _, _ => False
 | .bd d zero ps => need (parts st (zero.map fun v => .d (.v v)) ps) fun l => K (st.put d (.agg l))
 | .bs d t sz ps => need (rowParts st sz ps) fun (rows, st1) => K ((st1.newO (.row t sz rows)).put d (.own st1.n))
 | .ap d t sz bytes x y => need (st.rows (y.get st)) fun ys => (∀ r ∈ ys, r.length = sz) ∧ match x.get st with
   | .own o => match lk st.ob o with
     | some (.row t' sz' rows) => (t' = t ∧ sz' = sz ∧ (rows.length + ys.length) * bytes ≤ 140737488355328) ∧ K (((st.setO o .dead).newO (.row t sz (rows ++ ys))).put d (.own st.n))
     | _ => False
   | .d (.v (.slice none 0 0)) => (ys.length * bytes ≤ 140737488355328) ∧ K ((st.newO (.row t sz ys)).put d (.own st.n))
   | _ => False
 | .aps d t x y => match y.get st with
   | .d (.v (.string s)) => match x.get st with
     | .own o => match lk st.ob o with
       | some (.row t' sz' rows) => (t' = t ∧ sz' = 1 ∧ rows.length + s.size ≤ 140737488355328) ∧ K (((st.setO o .dead).newO (.row t 1 (rows ++ byteRows s.data.toList))).put d (.own st.n))
       | _ => False
     | _ => False
   | _ => False
 | .mi d t x => need (st.frz (x.get st)) fun y => K (y.2.put d (.d (.ifc t y.1)))
 | .mf d f caps => K (st.put d (.fn f (caps.map fun x => x.get st)))
 | .pn x => match x.get st with
   | .d (.ifc t y) => Kp (.d (.ifc t y)) st
   | _ => False
 | .call d f lend args => callS (T f) d (osOf st.ob (args.map fun x => x.get st)) lend (args.map fun x => x.get st) st K Kp
 | .callv d lend x args => match x.get st with
   | .fn f caps => callS (T f) d (osOf st.ob ((args.map fun x => x.get st) ++ caps)) lend ((args.map fun x => x.get st) ++ caps) st K Kp
   | _ => False
 | .undef d => K (st.put d .any)
 | .stuck => False
def St.un1 (st : St) (k : Nat) : St := match st.get k with
 | .opt _ x => st.put k x
 | _ => st
def St.unS : List Nat → St → St
 | [], st => st
 | k :: r, st => St.unS r (st.un1 k)
def unOk : List Nat → St → Prop
 | [], _ => True
 | k :: r, st => okU (st.get k) ∧ unOk r (st.un1 k)
def Rv.sl : Rv → List Nat
 | .s t => [t]
 | _ => []
def slotsL : List Rv → List Nat
 | [] => []
 | .s t :: r => t :: slotsL r
 | .k _ :: r => slotsL r
 | .f _ :: r => slotsL r
def optL : Option Rv → List Rv → List Rv
 | none, l => l
 | some x, l => x :: l
def slots : SOp → List Nat
 | .mv _ x | .not _ x | .neg _ x | .cvi _ _ x | .i2s _ x | .b2s _ x | .len _ x | .lens _ x | .ex _ x _ | .bx _ _ _ x | .bxn _ _ _ x _ _ _ | .ld _ _ _ x | .nc _ x | .fa _ _ x | .fd _ _ _ _ x | .mi _ _ x | .pn x | .pk _ x _ _ | .isnil _ _ _ x | .rg _ x | .nx _ x => x.sl
 | .bin _ _ x y | .binc _ _ x y | .ixs _ x y | .st _ _ x y | .ia _ _ x y | .ixa _ _ _ _ x y | .ipa _ _ _ x y | .ap _ _ _ _ x y | .aps _ _ x y | .eqa _ _ _ x y => slotsL [x, y]
 | .sls _ x lo hi | .slr _ _ x lo hi | .slp _ _ x lo hi => slotsL (x :: optL lo (optL hi []))
 | .mm _ _ x ys => slotsL (x :: ys)
 | .bd _ _ ps => slotsL (ps.map fun p => p.2.2)
 | .bs _ _ _ ps => slotsL ps
 | .mf _ _ caps => slotsL caps
 | .call _ _ _ args => slotsL args
 | .callv _ _ x args => slotsL (x :: args)
 | _ => []
def binP : BinOp → Value → Value → Option (Option Prop × Value)
 | .shl, .int k a, .int _ b => some (some (0 ≤ b), .int k (k.wrap (a * 2 ^ (min b.toNat k.bits))))
 | .shr, .int k a, .int _ b => some (some (0 ≤ b), .int k (a.fdiv (2 ^ (min b.toNat k.bits))))
 | .quo, .int k a, .int k' b => some (some (k = k' ∧ b ≠ 0), .int k (k.wrap (a.tdiv b)))
 | .rem, .int k a, .int k' b => some (some (k = k' ∧ b ≠ 0), .int k (a.tmod b))
 | .add, .string a, .string b => some (some (a.size + b.size ≤ 9223372036854775807), .string (a ++ b))
 | op, a, b => (binV op a b).map fun v => (none, v)
theorem binP_ok {op : BinOp} {a b v : Value} {c : Option Prop} (h : binP op a b = some (c, v)) (hc : c.getD True) : binV op a b = some v := by
 unfold binP at h
 split at h
 · simp only [Option.some.injEq, Prod.mk.injEq] at h; obtain ⟨rfl, rfl⟩ := h; simp only [Option.getD_some] at hc; simp only [binV, hc, if_true]
 · simp only [Option.some.injEq, Prod.mk.injEq] at h; obtain ⟨rfl, rfl⟩ := h; simp only [Option.getD_some] at hc; simp only [binV, hc, if_true]
 · simp only [Option.some.injEq, Prod.mk.injEq] at h; obtain ⟨rfl, rfl⟩ := h; simp only [Option.getD_some] at hc; simp [binV, hc.1, hc.2]
 · simp only [Option.some.injEq, Prod.mk.injEq] at h; obtain ⟨rfl, rfl⟩ := h; simp only [Option.getD_some] at hc; simp [binV, hc.1, hc.2]
 · simp only [Option.some.injEq, Prod.mk.injEq] at h; obtain ⟨rfl, rfl⟩ := h; simp only [Option.getD_some] at hc; simp only [binV, hc, if_true]
 · obtain ⟨u, h1, h2⟩ := Option.map_eq_some_iff.1 h
   simp only [Prod.mk.injEq] at h2
   rw [h1, h2.2]
def pkC (t : Bool) (a b : SV) : Option Prop := match a, b with
 | .opt p _, .opt q _ => some ((t = true → p = true) ∧ (t = false → q = true))
 | .opt p _, _ => some (t = true → p = true)
 | _, .opt q _ => some (t = false → q = true)
 | _, _ => none
theorem pkC_ok {t : Bool} {a b : SV} (h : (pkC t a b).getD True) : (t = true → okU a) ∧ (t = false → okU b) := by
 cases a <;> cases b <;> first | exact h | exact ⟨h, fun _ => trivial⟩ | exact ⟨fun _ => trivial, h⟩ | exact ⟨fun _ => trivial, fun _ => trivial⟩
def pv (T : FuncId → Contract) (op : SOp) (st : St) : Option (Option Prop × SV) :=
 match op with
 | .mv _ x => some (none, x.get st)
 | .bin _ op x y => match x.get st, y.get st with
   | .d (.v a), .d (.v b) => (binP op a b).map fun p => (p.1, .d (.v p.2))
   | _, _ => none
 | .binc _ op x y => match x.get st, y.get st with
   | .d (.v (.int .i64 a)), .d (.v (.int .i64 b)) => (ariV op a b).map fun z => (some (-9223372036854775808 ≤ z ∧ z ≤ 9223372036854775807), .d (.v (.int .i64 z)))
   | _, _ => none
 | .not _ x => match x.get st with
   | .d (.v (.bool b)) => some (none, .d (.v (.bool !b)))
   | _ => none
 | .neg _ x => match x.get st with
   | .d (.v (.int k n)) => some (none, .d (.v (.int k (k.wrap (0 - n)))))
   | _ => none
 | .cvi _ k x => match x.get st with
   | .d (.v (.int _ n)) => some (none, .d (.v (.int k (k.wrap n))))
   | _ => none
 | .i2s _ x => match x.get st with
   | .d (.v (.int _ n)) => some (none, .d (.v (.string (Utf8.encode n))))
   | _ => none
 | .pk _ c a b => match c.get st with
   | .d (.v (.bool t)) => some (pkC t (a.get st) (b.get st), selS t (a.get st).un (b.get st).un)
   | _ => none
 | .len _ x => (st.rows (x.get st)).map fun rows => (none, .d (.v (.int .i64 rows.length)))
 | .lens _ x => match x.get st with
   | .d (.v (.string s)) => some (none, .d (.v (.int .i64 s.size)))
   | _ => none
 | .ex _ x i => match x.get st with
   | .tup l => l[i]?.map fun y => (none, y)
   | _ => none
 | .ixs _ x i => match x.get st, i.get st with
   | .d (.v (.string s)), .d (.v (.int _ j)) => some (some (0 ≤ j ∧ j < s.size), .d (.v (.int .u8 (bt s j))))
   | _, _ => none
 | .sls _ x lo hi => match x.get st with
   | .d (.v (.string s)) => (optInt st 0 lo).bind fun l => (optInt st s.size hi).map fun h =>
     (some (0 ≤ l ∧ l ≤ h ∧ h ≤ s.size), .d (.v (.string (s.extract l.toNat h.toNat))))
   | _ => none
 | .ld _ agg n a => match a.get st with
   | .ptr o k => match lk st.ob o with
     | some (.cells _ l) => if agg then some (some (k + n ≤ l.length), .agg ((l.drop k).take n)) else l[k]?.map fun y => (none, y)
     | _ => none
   | .cp cells => if agg then some (some (n ≤ cells.length), .agg ((cells.take n).map .d)) else cells[0]?.map fun y => (none, .d y)
   | .d (.pt cells) => if agg then some (some (n ≤ cells.length), .agg ((cells.take n).map .d)) else cells[0]?.map fun y => (none, .d y)
   | .ep o sz i k => match lk st.ob o with
     | some (.row _ sz' rows) => rows[i]?.bind fun r => if agg then some (some (sz' = sz ∧ k + n ≤ r.length), .agg (((r.drop k).take n).map .d)) else r[k]?.map fun y => (some (sz' = sz), .d y)
     | _ => none
   | _ => none
 | .nc _ x => match x.get st with
   | .ptr o k => some (none, .ptr o k)
   | .cp cells => some (none, .cp cells)
   | .d (.pt cells) => some (none, .d (.pt cells))
   | _ => none
 | .fa _ off x => match x.get st with
   | .ptr o k => some (none, .ptr o (k + off))
   | .cp cells => some (none, .cp (cells.drop off))
   | .d (.pt cells) => some (none, .cp (cells.drop off))
   | .ep o sz i k => some (none, .ep o sz i (k + off))
   | _ => none
 | .fd _ agg off n x => match x.get st with
   | .agg l => if agg then some (some (off + n ≤ l.length), .agg ((l.drop off).take n)) else l[off]?.map fun y => (none, y)
   | _ => none
 | .ia _ sz x i => match i.get st with
   | .d (.v (.int _ j)) => match x.get st with
     | .own o => match lk st.ob o with
       | some (.row _ sz' rows) => some (some (sz' = sz ∧ 0 ≤ j ∧ j < rows.length), .ep o sz j.toNat 0)
       | some (.fro rows) => some (some (0 ≤ j ∧ j < rows.length ∧ (rows.getD j.toNat []).length = sz), .cp (rows.getD j.toNat []))
       | _ => none
     | .d (.sl rows) => some (some (0 ≤ j ∧ j < rows.length ∧ (rows.getD j.toNat []).length = sz), .cp (rows.getD j.toNat []))
     | _ => none
   | _ => none
 | .ixa _ agg n sz x i => match i.get st, x.get st with
   | .d (.v (.int _ j)), .agg l => if agg then some (some ((0 ≤ j ∧ j < n) ∧ j.toNat * sz + sz ≤ l.length), .agg ((l.drop (j.toNat * sz)).take sz)) else l[j.toNat * sz]?.map fun y => (some (0 ≤ j ∧ j < n), y)
   | _, _ => none
 | .ipa _ n sz x i => match i.get st, x.get st with
   | .d (.v (.int _ j)), .ptr o k => some (some (0 ≤ j ∧ j < n), .ptr o (k + j.toNat * sz))
   | .d (.v (.int _ j)), .cp cells => some (some (0 ≤ j ∧ j < n), .cp (cells.drop (j.toNat * sz)))
   | _, _ => none
 | .isnil _ neg ifc x => (nilV ifc (x.get st)).map fun b => (none, .d (.v (.bool (cond neg (!b) b))))
 | .eqa _ neg ks x y => (eqA ks (x.get st) (y.get st)).map fun b => (none, .d (.v (.bool (cond neg (!b) b))))
 | .call _ f true args => ((T f).pf (args.map fun x => st.lend (x.get st))).map fun p => (some (p.1 ∧ scal p.2 = true), p.2)
 | _ => none
def dstO : SOp → Option Nat
 | .mv d _ | .bin d _ _ _ | .binc d _ _ _ | .not d _ | .neg d _ | .cvi d _ _ | .i2s d _ | .pk d _ _ _ | .len d _ | .lens d _ | .ex d _ _ | .ixs d _ _ | .sls d _ _ _ | .ld d _ _ _ | .nc d _ | .fa d _ _ | .fd d _ _ _ _ | .ia d _ _ _ | .ixa d _ _ _ _ _ | .ipa d _ _ _ _ | .isnil d _ _ _ | .eqa d _ _ _ _ => some d
 | .call d _ _ _ => d
 | _ => none
def fnl : SOp → Bool
 | .mv .. | .bin .. | .binc .. | .not .. | .neg .. | .cvi .. | .i2s .. | .pk .. | .len .. | .lens .. | .ex .. | .ixs .. | .sls .. | .ld .. | .nc .. | .fa .. | .fd .. | .ia .. | .ixa .. | .ipa .. | .isnil .. | .eqa .. => true
 | .call _ _ lend _ => lend
 | _ => false
def Contract.lawful (C : Contract) : Prop := ∀ args p x K, C.pf args = some (p, x) → p → K (.ret x) ⟨0, []⟩ → C.wp args ⟨0, []⟩ K
theorem bind_some' {α β : Type} {o : Option α} {f : α → Option β} {b : β} (h : o.bind f = some b) : ∃ a, o = some a ∧ f a = some b := Option.bind_eq_some_iff.1 h
theorem pv_step {T : FuncId → Contract} (hT : ∀ f, (T f).lawful) {s : SOp} {st : St} {c : Option Prop} {x : SV} {K : St → Prop} {Kp : SV → St → Prop} (h : pv T s st = some (c, x)) (hc : c.getD True) (hK : K (st.putO (dstO s) x)) : step T s st K Kp := by
 unfold pv at h
 split at h
 · simp only [Option.some.injEq, Prod.mk.injEq] at h; obtain ⟨rfl, rfl⟩ := h; exact hK
 · split at h
   · rename_i a b e1 e2
     obtain ⟨p, h1, h2⟩ := Option.map_eq_some_iff.1 h
     simp only [Prod.mk.injEq] at h2; obtain ⟨rfl, rfl⟩ := h2
     simp only [step, e1, e2, binP_ok (c := p.1) (v := p.2) h1 hc, need_some]; exact hK
   · cases h
 · split at h
   · rename_i a b e1 e2
     obtain ⟨p, h1, h2⟩ := Option.map_eq_some_iff.1 h
     simp only [Prod.mk.injEq] at h2; obtain ⟨rfl, rfl⟩ := h2
     simp only [step, e1, e2, h1, need_some]; exact ⟨hc, hK⟩
   · cases h
 · split at h
   · rename_i e1
     simp only [Option.some.injEq, Prod.mk.injEq] at h; obtain ⟨rfl, rfl⟩ := h
     simp only [step, e1]; exact hK
   · cases h
 · split at h
   · rename_i e1
     simp only [Option.some.injEq, Prod.mk.injEq] at h; obtain ⟨rfl, rfl⟩ := h
     simp only [step, e1]; exact hK
   · cases h
 · split at h
   · rename_i e1
     simp only [Option.some.injEq, Prod.mk.injEq] at h; obtain ⟨rfl, rfl⟩ := h
     simp only [step, e1]; exact hK
   · cases h
 · split at h
   · rename_i e1
     simp only [Option.some.injEq, Prod.mk.injEq] at h; obtain ⟨rfl, rfl⟩ := h
     simp only [step, e1]; exact hK
   · cases h
 · split at h
   · rename_i e1
     simp only [Option.some.injEq, Prod.mk.injEq] at h; obtain ⟨rfl, rfl⟩ := h
     simp only [step, e1]; exact ⟨pkC_ok hc, hK⟩
   · cases h
 · obtain ⟨p, h1, h2⟩ := Option.map_eq_some_iff.1 h
   simp only [Prod.mk.injEq] at h2; obtain ⟨rfl, rfl⟩ := h2
   simp only [step, h1, need_some]; exact hK
 · split at h
   · rename_i e1
     simp only [Option.some.injEq, Prod.mk.injEq] at h; obtain ⟨rfl, rfl⟩ := h
     simp only [step, e1]; exact hK
   · cases h
 · split at h
   · rename_i e1
     obtain ⟨p, h1, h2⟩ := Option.map_eq_some_iff.1 h
     simp only [Prod.mk.injEq] at h2; obtain ⟨rfl, rfl⟩ := h2
     simp only [step, e1, h1, need_some]; exact hK
   · cases h
 · split at h
   · rename_i e1 e2
     simp only [Option.some.injEq, Prod.mk.injEq] at h; obtain ⟨rfl, rfl⟩ := h
     simp only [step, e1, e2]; exact ⟨hc, hK⟩
   · cases h
 · split at h
   · rename_i e1
     obtain ⟨l, h1, h2⟩ := bind_some' h
     obtain ⟨u, h3, h4⟩ := Option.map_eq_some_iff.1 h2
     simp only [Prod.mk.injEq] at h4; obtain ⟨rfl, rfl⟩ := h4
     simp only [step, e1, h1, h3, need_some]; exact ⟨hc, hK⟩
   · cases h
 · split at h
   · rename_i e1
     split at h
     · rename_i e2
       split at h
       · rename_i e3
         simp only [Option.some.injEq, Prod.mk.injEq] at h; obtain ⟨rfl, rfl⟩ := h
         simp only [step, e1, e2, e3, if_true]; exact ⟨hc, hK⟩
       · rename_i e3
         obtain ⟨p, h1, h2⟩ := Option.map_eq_some_iff.1 h
         simp only [Prod.mk.injEq] at h2; obtain ⟨rfl, rfl⟩ := h2
         simp only [step, e1, e2, h1, need_some]; rw [if_neg e3]; exact hK
     · cases h
   · rename_i e1
     split at h
     · rename_i e3
       simp only [Option.some.injEq, Prod.mk.injEq] at h; obtain ⟨rfl, rfl⟩ := h
       simp only [step, e1, e3, if_true]; exact ⟨hc, hK⟩
     · rename_i e3
       obtain ⟨p, h1, h2⟩ := Option.map_eq_some_iff.1 h
       simp only [Prod.mk.injEq] at h2; obtain ⟨rfl, rfl⟩ := h2
       simp only [step, e1, h1, need_some]; rw [if_neg e3]; exact hK
   · rename_i e1
     split at h
     · rename_i e3
       simp only [Option.some.injEq, Prod.mk.injEq] at h; obtain ⟨rfl, rfl⟩ := h
       simp only [step, e1, e3, if_true]; exact ⟨hc, hK⟩
     · rename_i e3
       obtain ⟨p, h1, h2⟩ := Option.map_eq_some_iff.1 h
       simp only [Prod.mk.injEq] at h2; obtain ⟨rfl, rfl⟩ := h2
       simp only [step, e1, h1, need_some]; rw [if_neg e3]; exact hK
   · rename_i e1
     split at h
     · rename_i e2
       obtain ⟨r, h1, h2⟩ := bind_some' h
       split at h2
       · rename_i e3
         simp only [Option.some.injEq, Prod.mk.injEq] at h2; obtain ⟨rfl, rfl⟩ := h2
         simp only [step, e1, e2, h1, need_some, e3, if_true]; exact ⟨hc.1, hc.2, hK⟩
       · rename_i e3
         obtain ⟨p, h3, h4⟩ := Option.map_eq_some_iff.1 h2
         simp only [Prod.mk.injEq] at h4; obtain ⟨rfl, rfl⟩ := h4
         simp only [step, e1, e2, h1, h3, need_some]; rw [if_neg e3]; exact ⟨hc, hK⟩
     · cases h
   · cases h
 · split at h
   · rename_i e1
     simp only [Option.some.injEq, Prod.mk.injEq] at h; obtain ⟨rfl, rfl⟩ := h
     simp only [step, e1]; exact hK
   · rename_i e1
     simp only [Option.some.injEq, Prod.mk.injEq] at h; obtain ⟨rfl, rfl⟩ := h
     simp only [step, e1]; exact hK
   · rename_i e1
     simp only [Option.some.injEq, Prod.mk.injEq] at h; obtain ⟨rfl, rfl⟩ := h
     simp only [step, e1]; exact hK
   · cases h
 · split at h
   · rename_i e1
     simp only [Option.some.injEq, Prod.mk.injEq] at h; obtain ⟨rfl, rfl⟩ := h
     simp only [step, e1]; exact hK
   · rename_i e1
     simp only [Option.some.injEq, Prod.mk.injEq] at h; obtain ⟨rfl, rfl⟩ := h
     simp only [step, e1]; exact hK
   · rename_i e1
     simp only [Option.some.injEq, Prod.mk.injEq] at h; obtain ⟨rfl, rfl⟩ := h
     simp only [step, e1]; exact hK
   · rename_i e1
     simp only [Option.some.injEq, Prod.mk.injEq] at h; obtain ⟨rfl, rfl⟩ := h
     simp only [step, e1]; exact hK
   · cases h
 · split at h
   · rename_i e1
     split at h
     · rename_i e3
       simp only [Option.some.injEq, Prod.mk.injEq] at h; obtain ⟨rfl, rfl⟩ := h
       simp only [step, e1, e3, if_true]; exact ⟨hc, hK⟩
     · rename_i e3
       obtain ⟨p, h1, h2⟩ := Option.map_eq_some_iff.1 h
       simp only [Prod.mk.injEq] at h2; obtain ⟨rfl, rfl⟩ := h2
       simp only [step, e1, h1, need_some]; rw [if_neg e3]; exact hK
   · cases h
 · have row : ∀ {rows : List (List D)} {j : Int} {sz : Nat}, (0 ≤ j ∧ j < rows.length ∧ (rows.getD j.toNat []).length = sz) → ∀ {Q : List D → Prop}, Q (rows.getD j.toNat []) → 0 ≤ j ∧ need rows[j.toNat]? fun r => r.length = sz ∧ Q r := fun {rows j sz} hh Q hQ => by
     obtain ⟨h0, h1, h2⟩ := hh
     have hl : j.toNat < rows.length := by omega
     rw [List.getD_eq_getElem?_getD, List.getElem?_eq_getElem hl] at h2 hQ
     rw [List.getElem?_eq_getElem hl]
     exact ⟨h0, h2, hQ⟩
   split at h
   · rename_i e0
     split at h
     · rename_i e1
       split at h
       · rename_i e2
         simp only [Option.some.injEq, Prod.mk.injEq] at h; obtain ⟨rfl, rfl⟩ := h
         simp only [step, e0, e1, e2]; exact ⟨hc, hK⟩
       · rename_i e2
         simp only [Option.some.injEq, Prod.mk.injEq] at h; obtain ⟨rfl, rfl⟩ := h
         simp only [step, e0, e1, e2]; exact row hc (Q := fun r => K (st.put _ (.cp r))) hK
       · cases h
     · rename_i e1
       simp only [Option.some.injEq, Prod.mk.injEq] at h; obtain ⟨rfl, rfl⟩ := h
       simp only [step, e0, e1]; exact row hc (Q := fun r => K (st.put _ (.cp r))) hK
     · cases h
   · cases h
 · split at h
   · rename_i e1 e2
     split at h
     · rename_i e3
       simp only [Option.some.injEq, Prod.mk.injEq] at h; obtain ⟨rfl, rfl⟩ := h
       simp only [step, e1, e2, e3, if_true]; exact ⟨hc.1, hc.2, hK⟩
     · rename_i e3
       obtain ⟨p, h1, h2⟩ := Option.map_eq_some_iff.1 h
       simp only [Prod.mk.injEq] at h2; obtain ⟨rfl, rfl⟩ := h2
       simp only [step, e1, e2, h1, need_some]; rw [if_neg e3]; exact ⟨hc, hK⟩
   · cases h
 · split at h
   · rename_i e1 e2
     simp only [Option.some.injEq, Prod.mk.injEq] at h; obtain ⟨rfl, rfl⟩ := h
     simp only [step, e1, e2]; exact ⟨hc, hK⟩
   · rename_i e1 e2
     simp only [Option.some.injEq, Prod.mk.injEq] at h; obtain ⟨rfl, rfl⟩ := h
     simp only [step, e1, e2]; exact ⟨hc, hK⟩
   · cases h
 · obtain ⟨p, h1, h2⟩ := Option.map_eq_some_iff.1 h
   simp only [Prod.mk.injEq] at h2; obtain ⟨rfl, rfl⟩ := h2
   simp only [step, h1, need_some]; exact hK
 · obtain ⟨p, h1, h2⟩ := Option.map_eq_some_iff.1 h
   simp only [Prod.mk.injEq] at h2; obtain ⟨rfl, rfl⟩ := h2
   simp only [step, h1, need_some]; exact hK
 · obtain ⟨p, h1, h2⟩ := Option.map_eq_some_iff.1 h
   simp only [Prod.mk.injEq] at h2; obtain ⟨rfl, rfl⟩ := h2
   simp only [step, callS, if_true]
   refine hT _ _ p.1 p.2 _ (by rw [List.map_map]; exact h1) hc.1 ⟨hc.2, rfl, hK⟩
 · cases h
end Go.Ev
namespace Go.Ev
open Go
def plainV : Value → Bool
 | .agg a => a.all (·.oneCell')
 | v => v.oneCell'
def opn : Operand → Option Rv
 | .tmp t => some (.s t)
 | .const v => if plainV v then some (.k v) else none
 | .func f => some (.f f)
 | .global _ => none
section
variable {G : World → Prop} {H : Hd G} {XB : Nat → Prop} {N : Nat} {w : World} {m : Nat → Value} {B : Nat → Nat → Prop} {a : Act} {st : St}
theorem Cn_dv {n : Nat} {c : Rdr} {x : Value} (h : x.oneCell' = true) : Cn m n c (.d (.v x)) x := ⟨rfl, h⟩
theorem CnL_dv {n : Nat} {c : Rdr} : ∀ (l : List Value), (∀ x ∈ l, x.oneCell' = true) → CnL m n c (l.map fun x => .d (.v x)) l
 | [], _ => by simp [CnL]
 | x :: r, hl => by
   simp only [List.map_cons, CnL]
   exact ⟨Cn_dv (hl x (by simp)), CnL_dv r fun y hy => hl y (by simp [hy])⟩
theorem Cn_kSV {n : Nat} {c : Rdr} : ∀ (v : Value), plainV v = true → Cn m n c (kSV v) v
 | .agg cs, h => by
   simp only [plainV, Array.all_eq_true_iff_forall_mem] at h
   simp only [kSV, Cn]
   exact ⟨cs, rfl, CnL_dv _ fun x hx => h x (by simpa using hx), fun x hx => h x (by simpa using hx)⟩
 | .bool _, h | .int _ _, h | .float _ _, h | .complex _ _ _, h | .string _, h | .pointer _, h | .slice _ _ _, h | .map _, h | .chan _, h | .func _ _ _, h | .nilFunc, h | .iface _ _, h | .nilIface, h => Cn_dv h
 | .tuple _, h => Cn_dv h
theorem get_ok (h : Sat H N w m B a st) {x : Operand} {r : Rv} (e : opn x = some r) : Cn m st.n (vw H w B st.ob) (r.get st) (a.eval x) := by
 cases x with
 | tmp t => simp only [opn, Option.some.injEq] at e; subst e; exact h.slots t
 | const v =>
   simp only [opn] at e
   obtain ⟨h1, h2⟩ := Option.ite_none_right_eq_some.1 e
   simp only [Option.some.injEq] at h2; subst h2
   exact Cn_kSV v h1
 | func f => simp only [opn, Option.some.injEq] at e; subst e; exact ⟨#[], rfl, by simp [CnL]⟩
 | global g => cases e
theorem getL_ok (h : Sat H N w m B a st) : ∀ {xs : List Operand} {rs : List Rv}, xs.map opn = rs.map some → CnL m st.n (vw H w B st.ob) (rs.map fun r => r.get st) (xs.map a.eval)
 | [], [], _ => by simp [CnL]
 | x :: xs, r :: rs, e => by
   simp only [List.map_cons, List.cons.injEq] at e
   simp only [List.map_cons, CnL]
   exact ⟨get_ok h e.1, getL_ok h e.2⟩
 | [], _ :: _, e => by simp at e
 | _ :: _, [], e => by simp at e
def VOk {G : World → Prop} (H : Hd G) (N : Nat) (XB : Nat → Prop) (w : World) (m : Nat → Value) (B : Nat → Nat → Prop) (s0 : Store) (a : Act) (d : Nat) (K : St → Prop) (r : Result Next) : Prop :=
 ∃ v w' m' B' st', r = .ok (.value v) w' ∧ K st' ∧ Sat H N w' m' B' (a.put (some d) v) st' ∧ Since w m B s0 w' m' B' st'.store ∧ ∀ b, b < w.heap.size → ¬ XB b → w'.heap[b]? = w.heap[b]?
theorem VOk.pure (h : Sat H N w m B a st) {d : Nat} (hd : d < N) {K : St → Prop} {x : SV} {v : Value} (hx : Cn m st.n (vw H w B st.ob) x v) (hK : K (st.put d x)) {r : Result Next} (hr : r = .ok (.value v) w) : VOk H N XB w m B st.store a d K r :=
 ⟨v, w, m, B, st.put d x, hr, hK, h.put hd hx, Since.refl _ _ _ _, fun _ _ _ => rfl⟩
def PV (m : Nat → Value) (n : Nat) (c : Rdr) (P : Program) (o : Oper) (a : Act) (d : Nat) (K : St → Prop) (st : St) : Prop :=
 ∃ x v, K (st.put d x) ∧ Cn m n c x v ∧ ∀ w', (execOp a.eval o).run P w' = .ok (.value v) w'
theorem PV.vok {P : Program} {o : Oper} (h : Sat H N w m B a st) {d : Nat} (hd : d < N) {K : St → Prop} (hp : PV m st.n (vw H w B st.ob) P o a d K st) : VOk H N XB w m B st.store a d K ((execOp a.eval o).run P w) := by
 obtain ⟨x, v, h1, h2, h3⟩ := hp
 exact VOk.pure h hd h2 h1 (h3 w)
theorem PV.pure {P : Program} {o : Oper} (h : Sat H N w m B a st) {d : Nat} (hd : d < N) {K : St → Prop} {x : SV} {v : Value} (hx : Cn m st.n (vw H w B st.ob) x v) (hK : K (st.put d x)) (hr : ∀ w, (execOp a.eval o).run P w = .ok (.value v) w) : PV m st.n (vw H w B st.ob) P o a d K st :=
 ⟨x, v, hK, hx, hr⟩
theorem Cn_v {n : Nat} {c : Rdr} {x : Value} (h : x.oneCell' = true) : Cn m n c (.d (.v x)) x := ⟨rfl, h⟩
theorem of_v {n : Nat} {c : Rdr} {x y : Value} (h : Cn m n c (.d (.v x)) y) : y = x := h.1
variable {P : Program} {o : Oper} {T : FuncId → Contract} {K : St → Prop} {Kp : SV → St → Prop}
theorem ok_mv (h : Sat H N w m B a st) {d : Nat} (hd : d < N) {x : Operand} {r : Rv} (ho : o.op = .move x ∨ o.op = .assign x) (hx : opn x = some r)
   (hs : step T (.mv d r) st K Kp) : PV m st.n (vw H w B st.ob) P o a d K st :=
 PV.pure h hd (get_ok h hx) hs (fun w => by rcases ho with ho | ho <;> simp [execOp, ho])
theorem ok_bin (h : Sat H N w m B a st) {d : Nat} (hd : d < N) {op : BinOp} {t t' : TypeId} {x y : Operand} {r q : Rv} (ho : o.op = .binOp op t x y t') (hx : opn x = some r) (hy : opn y = some q)
   (hs : step T (.bin d op r q) st K Kp) : PV m st.n (vw H w B st.ob) P o a d K st := by
 have h1 := get_ok h hx
 have h2 := get_ok h hy
 simp only [step] at hs
 split at hs
 · rename_i u v e1 e2
   rw [e1] at h1; rw [e2] at h2
   cases hv : binV op u v with
   | none => rw [hv] at hs; exact hs.elim
   | some z =>
     rw [hv] at hs
     have hz : z.oneCell' = true := by
       unfold binV at hv
       split at hv <;> first | (obtain ⟨_, hv⟩ := Option.ite_none_right_eq_some.1 hv; simp only [Option.some.injEq] at hv; subst hv; rfl) | (simp only [Option.some.injEq] at hv; subst hv; rfl) | cases hv
     refine PV.pure h hd (Cn_v hz) hs fun w => ?_
     have := binV_ok hv P w t x y
     rw [← of_v h1, ← of_v h2] at this
     simp only [execOp, ho, Sem.run_bind] at this ⊢
     rw [this]; rfl
 · exact hs.elim
theorem ok_binc (h : Sat H N w m B a st) {d : Nat} (hd : d < N) {op : BinOp} {t t' : TypeId} {x y : Operand} {r q : Rv} (ho : o.op = .binOp op t x y t') (hx : opn x = some r) (hy : opn y = some q)
   (hs : step T (.binc d op r q) st K Kp) : PV m st.n (vw H w B st.ob) P o a d K st := by
 refine ok_bin (T := T) (Kp := Kp) h hd ho hx hy ?_
 simp only [step] at hs ⊢
 split at hs
 · rename_i u v e1 e2
   rw [e1, e2]
   cases hz : ariV op u v with
   | none => rw [hz] at hs; exact hs.elim
   | some z =>
     rw [hz] at hs
     obtain ⟨h1, h2⟩ := hs
     simp only [ariV_ok hz h1, need_some]; exact h2
 · exact hs.elim
theorem ok_not (h : Sat H N w m B a st) {d : Nat} (hd : d < N) {t : TypeId} {x : Operand} {r : Rv} (ho : o.op = .unOp .not t x) (hx : opn x = some r)
   (hs : step T (.not d r) st K Kp) : PV m st.n (vw H w B st.ob) P o a d K st := by
 have h1 := get_ok h hx
 simp only [step] at hs
 split at hs
 · rename_i b e
   rw [e] at h1
   exact PV.pure h hd (Cn_v rfl) hs (fun w => by simp [execOp, ho, of_v h1, Op.unary])
 · exact hs.elim
theorem ok_neg (h : Sat H N w m B a st) {d : Nat} (hd : d < N) {t : TypeId} {x : Operand} {r : Rv} (ho : o.op = .unOp .neg t x) (hx : opn x = some r)
   (hs : step T (.neg d r) st K Kp) : PV m st.n (vw H w B st.ob) P o a d K st := by
 have h1 := get_ok h hx
 simp only [step] at hs
 split at hs
 · rename_i b e
   rw [e] at h1
   exact PV.pure h hd (Cn_v rfl) hs (fun w => by simp [execOp, ho, of_v h1, Op.unary, Op.intArith])
 · exact hs.elim
theorem ok_cvi (h : Sat H N w m B a st) {d : Nat} (hd : d < N) {s t : TypeId} {k : IntKind} {x : Operand} {r : Rv} (ho : o.op = .convert s t x) (hx : opn x = some r) (h1t : ∃ u, P.underlying s = some u) (ht : P.underlying t = some (.int k))
   (hs : step T (.cvi d k r) st K Kp) : PV m st.n (vw H w B st.ob) P o a d K st := by
 have h1 := get_ok h hx
 obtain ⟨u, hu⟩ := h1t
 simp only [step] at hs
 split at hs
 · rename_i b n e
   rw [e] at h1
   refine PV.pure h hd (Cn_v rfl) hs ?_
   simp [execOp, ho, of_v h1, convert, run_underlying hu, run_underlying ht, Conv.intToInt]
 · exact hs.elim
theorem ok_i2s (h : Sat H N w m B a st) {d : Nat} (hd : d < N) {s t : TypeId} {x : Operand} {r : Rv} (ho : o.op = .convert s t x) (hx : opn x = some r) (h1t : ∃ u, P.underlying s = some u) (ht : P.underlying t = some .string)
   (hs : step T (.i2s d r) st K Kp) : PV m st.n (vw H w B st.ob) P o a d K st := by
 have h1 := get_ok h hx
 obtain ⟨u, hu⟩ := h1t
 simp only [step] at hs
 split at hs
 · rename_i b n e
   rw [e] at h1
   refine PV.pure h hd (Cn_v rfl) hs ?_
   simp [execOp, ho, of_v h1, convert, run_underlying hu, run_underlying ht, Conv.intToString]
 · exact hs.elim
theorem Cn_un {n : Nat} {c : Rdr} {x : SV} {v : Value} (h : okU x) (hx : Cn m n c x v) : Cn m n c x.un v := by
 cases x with
 | opt b y => simp only [okU] at h; subst h; simpa [Cn, SV.un] using hx
 | _ => exact hx
theorem ok_pk (h : Sat H N w m B a st) {d : Nat} (hd : d < N) {c x y : Operand} {rc r q : Rv} (ho : o.op = .pick c x y) (hc : opn c = some rc) (hx : opn x = some r) (hy : opn y = some q)
   (hs : step T (.pk d rc r q) st K Kp) : PV m st.n (vw H w B st.ob) P o a d K st := by
 have h0 := get_ok h hc
 have h1 := get_ok h hx
 have h2 := get_ok h hy
 simp only [step] at hs
 split at hs
 · rename_i b e
   rw [e] at h0
   refine PV.pure (x := selS b (r.get st).un (q.get st).un) (v := if b then a.eval x else a.eval y) h hd ?_ hs.2 (fun w => by simp [execOp, ho, of_v h0, asBool])
   cases b with
   | false => simpa [selS] using Cn_un (hs.1.2 rfl) h2
   | true => simpa [selS] using Cn_un (hs.1.1 rfl) h1
 · exact hs.elim
theorem ok_ex (h : Sat H N w m B a st) {d : Nat} (hd : d < N) {x : Operand} {r : Rv} {i : Nat} (ho : o.op = .extract x i) (hx : opn x = some r)
   (hs : step T (.ex d r i) st K Kp) : PV m st.n (vw H w B st.ob) P o a d K st := by
 have h1 := get_ok h hx
 simp only [step] at hs
 split at hs
 · rename_i l e
   rw [e] at h1
   simp only [Cn] at h1
   obtain ⟨cs, e1, h1⟩ := h1
   cases hl : l[i]? with
   | none => rw [hl] at hs; exact hs.elim
   | some y =>
     rw [hl] at hs
     obtain ⟨v, hv, hy⟩ := CnL_get h1 hl
     refine PV.pure h hd hy hs ?_
     have : cs[i]? = some v := by simpa using hv
     simp [execOp, ho, e1, Instr.extract, this]
 · exact hs.elim
theorem bt_ok (s : ByteArray) (j : Int) (h0 : 0 ≤ j) (h1 : j < s.size) : s[j.toNat]? = some (s.data.toList.getD j.toNat 0) ∧ (bt s j = ((s.data.toList.getD j.toNat 0).toNat : Int)) := by
 have hlt : j.toNat < s.size := by omega
 refine ⟨?_, rfl⟩
 rw [ByteArray.getElem?_lt' s _ hlt]
 congr 1
 have : j.toNat < s.data.toList.length := by simpa using hlt
 rw [List.getD_eq_getElem?_getD, List.getElem?_eq_getElem this]
 rfl
theorem ok_ixs (h : Sat H N w m B a st) {d : Nat} (hd : d < N) {t : TypeId} {x i : Operand} {r q : Rv} (ho : o.op = .index t x i) (hx : opn x = some r) (hi : opn i = some q) (ht : P.underlying t = some .string)
   (hs : step T (.ixs d r q) st K Kp) : PV m st.n (vw H w B st.ob) P o a d K st := by
 have h1 := get_ok h hx
 have h2 := get_ok h hi
 simp only [step] at hs
 split at hs
 · rename_i s k j e1 e2
   rw [e1] at h1; rw [e2] at h2
   obtain ⟨⟨j0, j1⟩, hs⟩ := hs
   refine PV.pure h hd (Cn_v rfl) hs ?_
   have hb := bt_ok s j j0 j1
   simp [execOp, ho, of_v h1, of_v h2, Instr.index, asIntOf, run_underlying ht, j0, hb.1, hb.2]
 · exact hs.elim
theorem optInt_ok (h : Sat H N w m B a st) {x : Option Operand} {r : Option Rv} (hx : x.bind opn = r) (hn : x.isSome = r.isSome) {dflt v : Int} (e : optInt st dflt r = some v) :
   (x = none ∧ v = dflt) ∨ ∃ y k, x = some y ∧ a.eval y = .int k v := by
 cases x with
 | none =>
   simp at hx; subst hx
   simp only [optInt, Option.some.injEq] at e
   exact .inl ⟨rfl, e.symm⟩
 | some y =>
   cases r with
   | none => simp at hn
   | some q =>
     simp only [Option.bind_some] at hx
     have h1 := get_ok h hx
     simp only [optInt] at e
     split at e
     · rename_i k i e1
       simp only [Option.some.injEq] at e; subst e
       rw [e1] at h1
       exact .inr ⟨y, k, rfl, of_v h1⟩
     · cases e
theorem run_bounds_ok (w : World) (isS : Bool) (len cap : Nat) (lo hi : Option Operand) (l u : Int) (hl : (lo = none ∧ l = 0) ∨ ∃ y k, lo = some y ∧ a.eval y = .int k l) (hu : (hi = none ∧ u = len) ∨ ∃ y k, hi = some y ∧ a.eval y = .int k u)
   (h0 : 0 ≤ l) (h1 : l ≤ u) (h2 : u ≤ len) (hc : len ≤ cap) : (Instr.sliceBounds isS len cap (lo.map a.eval) (hi.map a.eval) none).run P w = .ok (l.toNat, u.toNat, cap) w := by
 have hb : ∀ (k : IntKind) (i : Int) (y : Nat) (c : BoundsCode), 0 ≤ i → i ≤ y → (Instr.sliceBound (.int k i) y c).run P w = .ok i.toNat w := fun k i y c h0 h1 => by
   simp [Instr.sliceBound, asIntOf, h0, h1]
 have e1 : (cap : Int) ≥ u := by omega
 rcases hl with ⟨rfl, rfl⟩ | ⟨y, k, rfl, ey⟩ <;> rcases hu with ⟨rfl, rfl⟩ | ⟨z, k', rfl, ez⟩
 · simp [Instr.sliceBounds]
 · simp [Instr.sliceBounds, ez, hb _ u cap _ (by omega) (by omega)]
 · simp [Instr.sliceBounds, ey, hb _ l len _ (by omega) (by omega)]
 · have : ((u.toNat : Nat) : Int) = u := by omega
   simp [Instr.sliceBounds, ey, ez, hb _ u cap _ (by omega) (by omega), hb _ l u.toNat _ (by omega) (by omega)]
theorem ok_sls (h : Sat H N w m B a st) {d : Nat} (hd : d < N) {t : TypeId} {x : Operand} {lo hi : Option Operand} {r : Rv} {rl rh : Option Rv} (ho : o.op = .slice t x lo hi none) (hx : opn x = some r)
   (hl : lo.bind opn = rl) (hln : lo.isSome = rl.isSome) (hh : hi.bind opn = rh) (hhn : hi.isSome = rh.isSome) (ht : P.underlying t = some .string)
   (hs : step T (.sls d r rl rh) st K Kp) : PV m st.n (vw H w B st.ob) P o a d K st := by
 have h1 := get_ok h hx
 simp only [step] at hs
 split at hs
 · rename_i s e1
   rw [e1] at h1
   cases e2 : optInt st 0 rl with
   | none => rw [e2] at hs; exact hs.elim
   | some l =>
     cases e3 : optInt st s.size rh with
     | none => rw [e2, e3] at hs; exact hs.elim
     | some u =>
       rw [e2, e3] at hs
       obtain ⟨⟨b0, b1, b2⟩, hs⟩ := hs
       refine PV.pure h hd (Cn_v rfl) hs fun w => ?_
       have hb := run_bounds_ok (P := P) (a := a) w false s.size s.size lo hi l u (optInt_ok h hl hln e2) (optInt_ok h hh hhn e3) b0 b1 b2 (Nat.le_refl _)
       simp [execOp, ho, of_v h1, Instr.sliceAt, Instr.slice, run_underlying ht, hb]
 · exact hs.elim
end
end Go.Ev
namespace Go.Ev
open Go
theorem RdRows_flat {c : Rdr} {ad : Addr} {sz : Nat} : ∀ {l : List (List D)} {k j : Nat} {d : D}, RdRows c ad sz k l → l.flatten[j]? = some d → ∃ u, c (ad.add (k + j)) u ∧ Rd c d u
 | [], _, _, _, _, h => by simp at h
 | r :: rs, k, j, d, h, e => by
   simp only [RdRows] at h
   obtain ⟨h1, h2, h3⟩ := h
   simp only [List.flatten_cons] at e
   by_cases hj : j < r.length
   · rw [List.getElem?_append_left hj] at e
     exact RdCells_get h2 e
   · rw [List.getElem?_append_right (by omega)] at e
     have := RdRows_flat h3 e
     rwa [show k + sz + (j - r.length) = k + j by omega] at this
theorem flat_length {l : List (List D)} {sz : Nat} (h : ∀ r ∈ l, r.length = sz) : l.flatten.length = l.length * sz := by
 induction l with
 | nil => simp
 | cons r rs ih =>
   simp only [List.flatten_cons, List.length_append, List.length_cons, Nat.add_mul, Nat.one_mul]
   rw [ih fun x hx => h x (by simp [hx]), h r (by simp)]
   omega
theorem flat_get {l : List (List D)} {sz : Nat} (h : ∀ r ∈ l, r.length = sz) {i k : Nat} {r : List D} (hr : l[i]? = some r) (hk : k < sz) : l.flatten[i * sz + k]? = r[k]? := by
 induction l generalizing i with
 | nil => simp at hr
 | cons x rs ih =>
   have hx := h x (by simp)
   simp only [List.flatten_cons]
   cases i with
   | zero =>
     simp only [List.getElem?_cons_zero, Option.some.injEq] at hr
     subst hr
     rw [Nat.zero_mul, Nat.zero_add, List.getElem?_append_left (by omega)]
   | succ i =>
     simp only [List.getElem?_cons_succ] at hr
     rw [List.getElem?_append_right (by rw [Nat.add_mul]; omega), show (i + 1) * sz + k - x.length = i * sz + k by rw [Nat.add_mul]; omega]
     exact ih (fun y hy => h y (by simp [hy])) hr
section
variable {G : World → Prop} {H : Hd G} {XB : Nat → Prop} {N : Nat} {w : World} {m : Nat → Value} {B : Nat → Nat → Prop} {a : Act} {st : St}
theorem rows_ok (h : SOk H w m B st.store) {x : SV} {v : Value} (hx : Cn m st.n (vw H w B st.ob) x v) {rows : List (List D)} (e : st.rows x = some rows) :
   ∃ A cap, v = .slice A rows.length cap ∧ rows.length ≤ cap ∧ rows.length ≤ 9223372036854775807 ∧
     ∀ j d, rows.flatten[j]? = some d → ∃ ad u, A = some ad ∧ w.cell? (ad.add j) = some u ∧ Rd (vw H w B st.ob) d u := by
 have data : ∀ {v : Value} {rows : List (List D)}, Rd (vw H w B st.ob) (.sl rows) v → ∃ A cap, v = .slice A rows.length cap ∧ rows.length ≤ cap ∧ rows.length ≤ 9223372036854775807 ∧
     ∀ j d, rows.flatten[j]? = some d → ∃ ad u, A = some ad ∧ w.cell? (ad.add j) = some u ∧ Rd (vw H w B st.ob) d u := by
   intro v rows hv
   simp only [Rd] at hv
   obtain ⟨A, cap, rfl, h1, h2, h3⟩ := hv
   refine ⟨A, cap, rfl, h1, h2, fun j d hj => ?_⟩
   rcases h3 with rfl | ⟨ad, sz, rfl, _, h3⟩
   · simp at hj
   · obtain ⟨u, h4, h5⟩ := RdRows_flat h3 hj
     rw [Nat.zero_add] at h4
     exact ⟨ad, u, rfl, h4.1, h5⟩
 unfold St.rows at e
 split at e
 · rename_i o
   simp only [Cn] at hx
   obtain ⟨ho, rfl, _⟩ := hx
   split at e
   · rename_i t sz rows' hl
     simp only [Option.some.injEq] at e; subst e
     obtain ⟨xs, h1, h2, h3, h4⟩ := h.obs o _ hl
     obtain ⟨g1, g2⟩ := h1
     rcases g2 with ⟨e1, e2⟩ | ⟨g, cap, cur, e1, _, e3, e4, e5, e6, e7⟩
     · refine ⟨none, 0, by rw [e1, e2], by omega, by omega, fun j d hj => ?_⟩
       have : rows' = [] := List.length_eq_zero_iff.1 e2
       subst this; simp at hj
     · refine ⟨_, cap, e1, e4, ?_, fun j d hj => ?_⟩
       · have : maxLen = 9223372036854775807 := by decide
         omega
       · obtain ⟨u, hu, hd⟩ := RdL_get h2 hj
         refine ⟨_, u, rfl, ?_, hd⟩
         have hadd : (⟨g, 0, none⟩ : Addr).add j = ⟨g, j, none⟩ := by unfold Addr.add; split <;> simp_all
         rw [hadd]
         simp only [World.cell?, e3]
         rw [← e7] at hu
         rw [List.getElem?_take] at hu
         split at hu
         · simpa using hu
         · cases hu
   · rename_i rows' hl
     simp only [Option.some.injEq] at e; subst e
     exact data (h.obs o _ hl)
   · cases e
 · rename_i rows'
   simp only [Option.some.injEq] at e; subst e
   exact data hx
 · simp only [Option.some.injEq] at e; subst e
   rw [of_v hx]
   exact ⟨none, 0, rfl, by simp, by simp, fun j d hj => by simp at hj⟩
 · cases e
variable {P : Program} {o : Oper} {T : FuncId → Contract} {K : St → Prop} {Kp : SV → St → Prop}
theorem ok_len (h : Sat H N w m B a st) {d : Nat} (hd : d < N) {x : Operand} {r : Rv} {t e : TypeId} (ho : o.op = .call { callee := .builtin .len, args := #[x], argTypes := #[t] }) (hx : opn x = some r)
   (ht : P.underlying t = some (.slice e)) (hs : step T (.len d r) st K Kp) : PV m st.n (vw H w B st.ob) P o a d K st := by
 have h1 := get_ok h hx
 simp only [step] at hs
 cases e2 : st.rows (r.get st) with
 | none => rw [e2] at hs; exact hs.elim
 | some rows =>
   rw [e2] at hs
   obtain ⟨A, cap, e3, _⟩ := rows_ok h.store h1 e2
   refine PV.pure h hd (Cn_v rfl) hs ?_
   simp [execOp, ho, resolve, invoke, builtin, Builtin.len_, e3, run_underlying ht, goInt]
theorem ok_lens (h : Sat H N w m B a st) {d : Nat} (hd : d < N) {x : Operand} {r : Rv} {t : TypeId} (ho : o.op = .call { callee := .builtin .len, args := #[x], argTypes := #[t] }) (hx : opn x = some r)
   (ht : P.underlying t = some .string) (hs : step T (.lens d r) st K Kp) : PV m st.n (vw H w B st.ob) P o a d K st := by
 have h1 := get_ok h hx
 simp only [step] at hs
 split at hs
 · rename_i s e1
   rw [e1] at h1
   refine PV.pure h hd (Cn_v rfl) hs ?_
   simp [execOp, ho, resolve, invoke, builtin, Builtin.len_, of_v h1, run_underlying ht, goInt]
 · exact hs.elim
theorem ok_mf (h : Sat H N w m B a st) {d : Nat} (hd : d < N) {f : FuncId} {cs : Array Operand} {rs : List Rv} (ho : o.op = .makeFunc (.func f) #[] cs) (hc : cs.toList.map opn = rs.map some)
   (hs : step T (.mf d f rs) st K Kp) : PV m st.n (vw H w B st.ob) P o a d K st := by
 refine PV.pure (v := .func (.func f) #[] (cs.map a.eval)) h hd ?_ hs (fun w => by simp [execOp, ho, Instr.makeFunc])
 simp only [Cn]
 exact ⟨_, rfl, by simpa using getL_ok h hc⟩
theorem ok_nc (h : Sat H N w m B a st) {d : Nat} (hd : d < N) {x : Operand} {r : Rv} (ho : o.op = .nilCheck x) (hx : opn x = some r)
   (hs : step T (.nc d r) st K Kp) : PV m st.n (vw H w B st.ob) P o a d K st := by
 have h1 := get_ok h hx
 simp only [step] at hs
 split at hs
 · rename_i o' k e1
   rw [e1] at h1
   refine PV.pure h hd h1 hs ?_
   simp only [Cn] at h1
   obtain ⟨_, b, _, e⟩ := h1
   simp [execOp, ho, e]
 · rename_i cells e1
   rw [e1] at h1
   refine PV.pure h hd h1 hs ?_
   simp only [Cn] at h1
   obtain ⟨ad, e, _⟩ := h1
   simp [execOp, ho, e]
 · rename_i cells e1
   rw [e1] at h1
   refine PV.pure h hd h1 hs ?_
   simp only [Cn, Rd] at h1
   obtain ⟨ad, e, _⟩ := h1
   simp [execOp, ho, e]
 · exact hs.elim
theorem run_fieldAt (w : World) (t : TypeId) (fs : Array Field) (i : Nat) (f : Field) (ad : Addr) (sz : Nat) (ht : P.underlying t = some (.struct fs)) (hf : fs[i]? = some f) (hz : (P.info? f.type).map (·.size) = some sz) (h0 : sz ≠ 0) :
   (Instr.fieldAt t (.pointer (some ad)) i).run P w = .ok (.pointer (some (ad.add f.offset))) w := by
 cases hi : P.info? f.type with
 | none => rw [hi] at hz; cases hz
 | some inf =>
   rw [hi] at hz
   simp only [Option.map_some, Option.some.injEq] at hz
   have hsz : (sizeOf f.type).run P w = .ok sz w := by simp [sizeOf, typeInfo, hi, hz]
   simp [Instr.fieldAt, run_underlying ht, hf, Instr.sureAddr, fieldPlace, hsz, h0]
theorem add0 (b k j : Nat) : (⟨b, k, none⟩ : Addr).add j = ⟨b, k + j, none⟩ := by
 unfold Addr.add; split <;> simp_all
theorem ok_fa (h : Sat H N w m B a st) {d : Nat} (hd : d < N) {x : Operand} {r : Rv} {t : TypeId} {i : Nat} {fs : Array Field} {f : Field} {sz : Nat} (ho : o.op = .fieldAddr t x i) (hx : opn x = some r)
   (ht : P.underlying t = some (.struct fs)) (hf : fs[i]? = some f) (hz : (P.info? f.type).map (·.size) = some sz) (h0 : sz ≠ 0)
   (hs : step T (.fa d f.offset r) st K Kp) : PV m st.n (vw H w B st.ob) P o a d K st := by
 have h1 := get_ok h hx
 have hr := fun ad w => run_fieldAt w t fs i f ad sz ht hf hz h0
 simp only [step] at hs
 split at hs
 · rename_i o' k e1
   rw [e1] at h1
   simp only [Cn] at h1
   obtain ⟨h2, b, h3, e⟩ := h1
   refine PV.pure (v := .pointer (some ⟨b, k + f.offset, none⟩)) h hd ?_ hs ?_
   · simp only [Cn]; exact ⟨h2, b, h3, rfl⟩
   · simp [execOp, ho, e, hr, add0]
 · rename_i cells e1
   rw [e1] at h1
   simp only [Cn] at h1
   obtain ⟨ad, e, hc⟩ := h1
   refine PV.pure (v := .pointer (some (ad.add f.offset))) h hd ?_ hs ?_
   · simp only [Cn]; exact ⟨_, rfl, RdCells_at (by simpa using RdCells_drop f.offset hc)⟩
   · simp [execOp, ho, e, hr]
 · rename_i cells e1
   rw [e1] at h1
   simp only [Cn, Rd] at h1
   obtain ⟨ad, e, hc⟩ := h1
   refine PV.pure (v := .pointer (some (ad.add f.offset))) h hd ?_ hs ?_
   · simp only [Cn]; exact ⟨_, rfl, RdCells_at (by simpa using RdCells_drop f.offset hc)⟩
   · simp [execOp, ho, e, hr]
 · rename_i o' sz' i' k e1
   rw [e1] at h1
   simp only [Cn] at h1
   obtain ⟨h2, g, len, cap, h3, e⟩ := h1
   refine PV.pure (v := .pointer (some ⟨g, i' * sz' + (k + f.offset), none⟩)) h hd ?_ hs ?_
   · simp only [Cn]; exact ⟨h2, g, len, cap, h3, rfl⟩
   · simp [execOp, ho, e, hr, add0, Nat.add_assoc]
 · exact hs.elim
theorem ok_fd (h : Sat H N w m B a st) {d : Nat} (hd : d < N) {x : Operand} {r : Rv} {t : TypeId} {i : Nat} {fs : Array Field} {f : Field} {sz : Nat} {agg : Bool} (ho : o.op = .field t x i) (hx : opn x = some r)
   (ht : P.underlying t = some (.struct fs)) (hf : fs[i]? = some f) (hz : (P.info? f.type).map (·.size) = some sz) (hag : (match P.underlying f.type with | some (.struct _) | some (.array _ _) => some true | some _ => some false | none => none) = some agg)
   (hs : step T (.fd d agg f.offset sz r) st K Kp) : PV m st.n (vw H w B st.ob) P o a d K st := by
 have h1 := get_ok h hx
 cases hi : P.info? f.type with
 | none => rw [hi] at hz; cases hz
 | some inf =>
 rw [hi] at hz
 simp only [Option.map_some, Option.some.injEq] at hz
 have hsz : ∀ w, (sizeOf f.type).run P w = .ok sz w := fun w => by simp [sizeOf, typeInfo, hi, hz]
 have hagg : ∀ w, (isAgg f.type).run P w = .ok agg w := fun w => by
   cases hu : P.underlying f.type with
   | none => rw [hu] at hag; cases hag
   | some u => rw [hu] at hag; cases u <;> simp_all [isAgg, run_underlying hu]
 simp only [step] at hs
 split at hs
 · rename_i l e1
   rw [e1] at h1
   simp only [Cn] at h1
   obtain ⟨cs, e, h2, h3⟩ := h1
   cases agg with
   | true =>
     simp only [if_true] at hs
     obtain ⟨hlen, hs⟩ := hs
     refine PV.pure (v := .agg (cs.extract f.offset (f.offset + sz))) h hd ?_ hs ?_
     · simp only [Cn]
       refine ⟨_, rfl, ?_, fun y hy => h3 y ?_⟩
       · have := CnL_take sz (CnL_drop f.offset h2)
         simpa [List.extract_eq_take_drop] using this
       · simp [List.extract_eq_take_drop] at hy
         exact List.mem_of_mem_drop (List.mem_of_mem_take hy)
     · simp [execOp, ho, e, Instr.field, run_underlying ht, hf, asAgg, part, hagg, hsz]
   | false =>
     simp only [Bool.false_eq_true, if_false] at hs
     cases hl : l[f.offset]? with
     | none => rw [hl] at hs; exact hs.elim
     | some y =>
       rw [hl] at hs
       obtain ⟨v, hv, hy⟩ := CnL_get h2 hl
       refine PV.pure h hd hy hs ?_
       have hv' : cs[f.offset]? = some v := by simpa using hv
       simp [execOp, ho, e, Instr.field, run_underlying ht, hf, asAgg, part, hagg, hv']
 · exact hs.elim
theorem ok_ixa (h : Sat H N w m B a st) {d : Nat} (hd : d < N) {x i : Operand} {r q : Rv} {t e : TypeId} {n sz : Nat} {agg : Bool} (ho : o.op = .index t x i) (hx : opn x = some r) (hi : opn i = some q)
   (ht : P.underlying t = some (.array n e)) (hz : (P.info? e).map (·.size) = some sz) (hag : (match P.underlying e with | some (.struct _) | some (.array _ _) => some true | some _ => some false | none => none) = some agg)
   (hs : step T (.ixa d agg n sz r q) st K Kp) : PV m st.n (vw H w B st.ob) P o a d K st := by
 have h1 := get_ok h hx
 have h2 := get_ok h hi
 cases hi : P.info? e with
 | none => rw [hi] at hz; cases hz
 | some inf =>
 rw [hi] at hz
 simp only [Option.map_some, Option.some.injEq] at hz
 have hsz : ∀ w, (sizeOf e).run P w = .ok sz w := fun w => by simp [sizeOf, typeInfo, hi, hz]
 have hagg : ∀ w, (isAgg e).run P w = .ok agg w := fun w => by
   cases hu : P.underlying e with
   | none => rw [hu] at hag; cases hag
   | some u => rw [hu] at hag; cases u <;> simp_all [isAgg, run_underlying hu]
 simp only [step] at hs
 split at hs
 · rename_i k j l e2 e1
   rw [e1] at h1; rw [e2] at h2
   have hj := of_v h2
   obtain ⟨⟨j0, j1⟩, hs⟩ := hs
   simp only [Cn] at h1
   obtain ⟨cs, e, h2, h3⟩ := h1
   cases agg with
   | true =>
     simp only [if_true] at hs
     obtain ⟨hlen, hs⟩ := hs
     refine PV.pure (v := .agg (cs.extract (j.toNat * sz) (j.toNat * sz + sz))) h hd ?_ hs ?_
     · simp only [Cn]
       refine ⟨_, rfl, ?_, fun y hy => h3 y ?_⟩
       · have := CnL_take sz (CnL_drop (j.toNat * sz) h2)
         simpa [List.extract_eq_take_drop] using this
       · simp [List.extract_eq_take_drop] at hy
         exact List.mem_of_mem_drop (List.mem_of_mem_take hy)
     · simp [execOp, ho, e, hj, Instr.index, asIntOf, run_underlying ht, j0, j1, part, hagg, hsz]
   | false =>
     simp only [Bool.false_eq_true, if_false] at hs
     cases hl : l[j.toNat * sz]? with
     | none => rw [hl] at hs; exact hs.elim
     | some y =>
       rw [hl] at hs
       obtain ⟨v, hv, hy⟩ := CnL_get h2 hl
       refine PV.pure h hd hy hs ?_
       have hv' : cs[j.toNat * sz]? = some v := by simpa using hv
       simp [execOp, ho, e, hj, Instr.index, asIntOf, run_underlying ht, j0, j1, part, hagg, hsz, hv']
 · exact hs.elim
end
end Go.Ev
namespace Go.Ev
open Go
section
variable {G : World → Prop} {H : Hd G} {XB : Nat → Prop} {N : Nat} {w : World} {m : Nat → Value} {B : Nat → Nat → Prop} {a : Act} {st : St}
variable {P : Program} {o : Oper} {T : FuncId → Contract} {K : St → Prop} {Kp : SV → St → Prop}
def ldT (P : Program) (t : TypeId) : Option (Bool × Nat) :=
 match P.underlying t, (P.info? t).map (·.size) with
 | some (.struct _), some n | some (.array _ _), some n => some (true, n)
 | some _, some n => some (false, n)
 | _, _ => none
theorem ldT_run {t : TypeId} {agg : Bool} {n : Nat} (h : ldT P t = some (agg, n)) (w : World) : (isAgg t).run P w = .ok agg w ∧ (sizeOf t).run P w = .ok n w := by
 unfold ldT at h
 cases hu : P.underlying t with
 | none => simp [hu] at h
 | some u =>
   cases hi : P.info? t with
   | none => cases u <;> simp [hu, hi] at h
   | some inf =>
     rw [hu, hi] at h
     have h2 : (sizeOf t).run P w = .ok inf.size w := by simp [sizeOf, typeInfo, hi]
     cases u <;> simp only [Option.map_some, Option.some.injEq, Prod.mk.injEq] at h <;> obtain ⟨rfl, rfl⟩ := h <;> exact ⟨by simp [isAgg, run_underlying hu], h2⟩
theorem run_ld_agg {t : TypeId} {n : Nat} (h : ldT P t = some (true, n)) {ad : Addr} {vs : List Value} (hl : vs.length = n) (hc : ∀ j v, vs[j]? = some v → w.cell? (ad.add j) = some v) : (loadVar t ad).run P w = .ok (.agg vs.toArray) w := by
 obtain ⟨h1, h2⟩ := ldT_run h w
 have h3 := run_loadCells_list (P := P) w ad vs hc
 rw [hl] at h3
 simp [loadVar, h1, h2, h3]
theorem run_ld_one {t : TypeId} {n : Nat} (h : ldT P t = some (false, n)) {ad : Addr} {v : Value} (hc : w.cell? ad = some v) : (loadVar t ad).run P w = .ok v w := by
 obtain ⟨h1, h2⟩ := ldT_run h w
 simp [loadVar, h1, hc]
theorem obj_cells (h : SOk H w m B st.store) {o : Nat} {t : TypeId} {l : List SV} (hl : lk st.ob o = some (.cells t l)) {b : Nat} (hb : m o = .pointer (some ⟨b, 0, none⟩)) :
   ∃ cs : Array Value, w.heap[b]? = some (.cells cs t (0, 0)) ∧ CnL m st.n (vw H w B st.ob) l cs.toList ∧ (∀ x ∈ cs.toList, x.oneCell' = true) ∧ ∀ x, B o x ↔ x = b := by
 obtain ⟨b', cs, h1, h2, h3, h4, h5⟩ := h.obs o _ hl
 rw [hb] at h1
 simp only [Value.pointer.injEq, Option.some.injEq, Addr.mk.injEq, and_true] at h1
 subst h1
 exact ⟨cs, h2, h3, h4, h5⟩
theorem cell_at {w : World} {b k : Nat} {cs : Array Value} {t : TypeId} {f : Nat × Nat} (h : w.heap[b]? = some (.cells cs t f)) : w.cell? ⟨b, k, none⟩ = cs[k]? := by simp [World.cell?, h]
theorem CnL_sub {n : Nat} {c : Rdr} {l : List SV} {vs : List Value} (h : CnL m n c l vs) (k j : Nat) : CnL m n c ((l.drop k).take j) ((vs.drop k).take j) := CnL_take j (CnL_drop k h)
theorem rdcells_vals {c : Rdr} {ad : Addr} : ∀ {l : List D} {k : Nat}, RdCells c ad k l → ∃ vs, RdL c l vs ∧ ∀ j v, vs[j]? = some v → c (ad.add (k + j)) v
 | [], _, _ => ⟨[], trivial, by simp⟩
 | d :: ds, k, h => by
   simp only [RdCells] at h
   obtain ⟨⟨u, h1, h2⟩, h3⟩ := h
   obtain ⟨vs, h4, h5⟩ := rdcells_vals h3
   refine ⟨u :: vs, ⟨h2, h4⟩, fun j v hj => ?_⟩
   cases j with
   | zero => simp at hj; subst hj; simpa using h1
   | succ j => simp at hj; have := h5 j v hj; rwa [show k + 1 + j = k + (j + 1) by omega] at this
def LV (XB : Addr → Prop) (w : World) (m : Nat → Value) (n : Nat) (c : Rdr) (P : Program) (o : Oper) (a : Act) (d : Nat) (K : St → Prop) (st : St) : Prop :=
 ∃ x v, K (st.put d x) ∧ Cn m n c x v ∧ ∀ w', (∀ q : Addr, q.block < w.heap.size → ¬ XB q → w'.cell? q = w.cell? q) → (execOp a.eval o).run P w' = .ok (.value v) w'
theorem LV.vok {XL : Addr → Prop} (h : Sat H N w m B a st) {d : Nat} (hd : d < N) (hp : LV XL w m st.n (vw H w B st.ob) P o a d K st) : VOk H N XB w m B st.store a d K ((execOp a.eval o).run P w) := by
 obtain ⟨x, v, h1, h2, h3⟩ := hp
 exact VOk.pure h hd h2 h1 (h3 w fun _ _ _ => rfl)
theorem ok_ld_data {XB : Addr → Prop} (hXd : ∀ q : Addr, ¬ owns B st.ob q.block → ¬ XB q) (h : Sat H N w m B a st) {d : Nat} {t : TypeId} {x : Operand} {agg : Bool} {n : Nat} (ho : o.op = .load t x) (ht : ldT P t = some (agg, n)) {ad : Addr} {cells : List D} (ha : a.eval x = .pointer (some ad))
   (hc : RdCells (vw H w B st.ob) ad 0 cells) (hs : if agg then n ≤ cells.length ∧ K (st.put d (.agg ((cells.take n).map .d))) else need cells[0]? fun y => K (st.put d (.d y))) :
   LV XB w m st.n (vw H w B st.ob) P o a d K st := by
 obtain ⟨vs, h1, h2⟩ := rdcells_vals hc
 simp only [Nat.zero_add] at h2
 have hlen := RdL_length h1
 have hcell : ∀ w' : World, (∀ q : Addr, q.block < w.heap.size → ¬ XB q → w'.cell? q = w.cell? q) → ∀ j v, vs[j]? = some v → w'.cell? (ad.add j) = some v := by
   intro w' hw j v hj
   obtain ⟨q1, q2, _⟩ := h2 j v hj
   rw [hw _ (cell_lt q1) (hXd _ q2)]; exact q1
 cases agg with
 | true =>
   simp only [if_true] at hs
   obtain ⟨hn, hs⟩ := hs
   refine ⟨_, .agg (vs.take n).toArray, hs, ?_, fun w' hw => ?_⟩
   · simp only [Cn]
     refine ⟨_, rfl, ?_, fun y hy => RdL_one h1 y (List.mem_of_mem_take (by simpa using hy))⟩
     have h3 : CnL m st.n (vw H w B st.ob) (cells.map .d) vs := CnL_of_RdL h1
     have := CnL_take n h3
     rwa [← List.map_take] at this
   · have hv := run_ld_agg (w := w') ht (ad := ad) (vs := vs.take n) (by rw [List.length_take]; omega) (fun j v hj => by
       rw [List.getElem?_take] at hj
       split at hj
       · exact hcell w' hw j v hj
       · cases hj)
     simp [execOp, ho, Instr.loadAt, Instr.sureAddr, ha, hv]
 | false =>
   simp only [Bool.false_eq_true, if_false] at hs
   cases hc0 : cells[0]? with
   | none => rw [hc0] at hs; exact hs.elim
   | some y =>
     rw [hc0] at hs
     obtain ⟨v, hv, hy⟩ := RdL_get h1 hc0
     refine ⟨.d y, v, hs, hy, fun w' hw => ?_⟩
     have := hcell w' hw 0 v hv
     rw [Addr.add_zero'] at this
     simp [execOp, ho, Instr.loadAt, Instr.sureAddr, ha, run_ld_one ht this]
theorem ok_ld {XB : Addr → Prop} (hXd : ∀ q : Addr, ¬ owns B st.ob q.block → ¬ XB q) (h : Sat H N w m B a st) {d : Nat} {t : TypeId} {x : Operand} {r : Rv} {agg : Bool} {n : Nat} (ho : o.op = .load t x) (hx : opn x = some r) (ht : ldT P t = some (agg, n))
   (hXp : ∀ o' k y, r.get st = .ptr o' k → lk st.ob o' = some y → y.has = true → ∀ b, B o' b → ∀ j, j < cond agg n 1 → ¬ XB ⟨b, k + j, none⟩)
   (hXe : ∀ o' s i k y, r.get st = .ep o' s i k → lk st.ob o' = some y → y.has = true → ∀ q : Addr, B o' q.block → ¬ XB q)
   (hs : step T (.ld d agg n r) st K Kp) : LV XB w m st.n (vw H w B st.ob) P o a d K st := by
 have h1 := get_ok h hx
 simp only [step] at hs
 split at hs
 · -- a variable
   rename_i o' k e1
   rw [e1] at h1
   simp only [Cn] at h1
   obtain ⟨h2, b, h3, e⟩ := h1
   split at hs
   · rename_i t' l hl
     obtain ⟨cs, g1, g2, g3, g4⟩ := obj_cells h.store hl h3
     have hcl := CnL_length g2
     have hst : ∀ w' : World, (∀ q : Addr, q.block < w.heap.size → ¬ XB q → w'.cell? q = w.cell? q) → ∀ j, j < cond agg n 1 → w'.cell? ⟨b, k + j, none⟩ = cs[k + j]? := fun w' hw j hj => by
       rw [hw ⟨b, k + j, none⟩ (Array.getElem?_eq_some_iff.1 g1).1 (hXp _ _ _ e1 hl rfl b ((g4 b).2 rfl) j hj), cell_at g1]
     cases agg with
     | true =>
       simp only [if_true] at hs
       obtain ⟨hn, hs⟩ := hs
       refine ⟨_, .agg ((cs.toList.drop k).take n).toArray, hs, ?_, fun w' hw => ?_⟩
       · simp only [Cn]
         exact ⟨_, rfl, CnL_sub g2 k n, fun y hy => g3 y (List.mem_of_mem_drop (List.mem_of_mem_take (by simpa using hy)))⟩
       · have hv := run_ld_agg (w := w') ht (ad := ⟨b, k, none⟩) (vs := (cs.toList.drop k).take n) (by rw [List.length_take, List.length_drop]; omega) (fun j v hj => by
           rw [List.getElem?_take] at hj
           split at hj
           · rename_i hjn
             rw [List.getElem?_drop] at hj
             rw [add0, hst w' hw j hjn]; simpa using hj
           · cases hj)
         simp [execOp, ho, Instr.loadAt, Instr.sureAddr, e, hv]
     | false =>
       simp only [Bool.false_eq_true, if_false] at hs
       cases hk : l[k]? with
       | none => rw [hk] at hs; exact hs.elim
       | some y =>
         rw [hk] at hs
         obtain ⟨v, hv, hy⟩ := CnL_get g2 hk
         refine ⟨y, v, hs, hy, fun w' hw => ?_⟩
         have : w'.cell? ⟨b, k, none⟩ = some v := by
           have h9 := hst w' hw 0 Nat.zero_lt_one
           rw [Nat.add_zero] at h9
           rw [h9]; simpa using hv
         simp [execOp, ho, Instr.loadAt, Instr.sureAddr, e, run_ld_one ht this]
   · exact hs.elim
 · rename_i cells e1
   rw [e1] at h1
   simp only [Cn] at h1
   obtain ⟨ad, e, hc⟩ := h1
   exact ok_ld_data hXd h ho ht e hc hs
 · rename_i cells e1
   rw [e1] at h1
   simp only [Cn, Rd] at h1
   obtain ⟨ad, e, hc⟩ := h1
   exact ok_ld_data hXd h ho ht e hc hs
 · -- an element of an own row
   rename_i o' sz i k e1
   rw [e1] at h1
   simp only [Cn] at h1
   obtain ⟨h2, g, len, cap, h3, e⟩ := h1
   split at hs
   · rename_i t' sz' rows hl
     obtain ⟨rfl, hs⟩ := hs
     cases hr : rows[i]? with
     | none => rw [hr] at hs; exact hs.elim
     | some r' =>
       rw [hr] at hs
       simp only [need_some] at hs
       obtain ⟨xs, q1, q2, q3, q4⟩ := h.store.obs o' _ hl
       have hrl := q3 r' (List.mem_of_getElem? hr)
       have hcell : ∀ w' : World, (∀ q : Addr, q.block < w.heap.size → ¬ XB q → w'.cell? q = w.cell? q) → ∀ j v, xs[j]? = some v → w'.cell? ⟨g, j, none⟩ = some v := by
         intro w' hw j v hj
         obtain ⟨_, p2⟩ := q1
         rcases p2 with ⟨f1, f2⟩ | ⟨g', cap', cur, f1, _, f3, f4, f5, f6, f7⟩
         · rw [h3] at f1; simp at f1
         · have hB := (q4 g').2 (by rw [f1]; rfl)
           rw [h3] at f1
           simp only [Value.slice.injEq, Option.some.injEq, Addr.mk.injEq, and_true] at f1
           have f3' : w'.cell? ⟨g', j, none⟩ = cur[j]? := by
             rw [hw ⟨g', j, none⟩ (Array.getElem?_eq_some_iff.1 f3).1 (hXe _ _ _ _ _ e1 hl rfl ⟨g', j, none⟩ hB), cell_at f3]
           rw [f1.1, f3']
           rw [← f7, List.getElem?_take] at hj
           split at hj
           · simpa using hj
           · cases hj
       -- the element's cells, from k on
       have hget : ∀ j d', j < sz' → r'[j]? = some d' → ∃ v, xs[i * sz' + j]? = some v ∧ Rd (vw H w B st.ob) d' v := by
         intro j d' hj hd'
         rw [← flat_get q3 hr hj] at hd'
         exact RdL_get q2 hd'
       have hrest : ∀ (j : Nat) (l : List D), r'.drop j = l → j ≤ r'.length → ∃ vs, RdL (vw H w B st.ob) l vs ∧ ∀ q v, vs[q]? = some v → xs[i * sz' + j + q]? = some v := by
         intro j l
         induction l generalizing j with
         | nil => intro _ _; exact ⟨[], trivial, by simp⟩
         | cons y ys ih =>
           intro hj hjl
           have hlt : j < r'.length := by
             rcases Nat.lt_or_ge j r'.length with h | h
             · exact h
             · rw [List.drop_of_length_le h] at hj; cases hj
           have hy : r'[j]? = some y := by
             have h9 : (r'.drop j)[0]? = some y := by rw [hj]; rfl
             simpa using h9
           have hys : r'.drop (j + 1) = ys := by
             have h9 : (r'.drop j).drop 1 = ys := by rw [hj]; rfl
             simpa [List.drop_drop] using h9
           obtain ⟨vs, p1, p2⟩ := ih (j + 1) hys (by omega)
           obtain ⟨v, p3, p4⟩ := hget j y (by omega) hy
           refine ⟨v :: vs, ⟨p4, p1⟩, fun q u hq => ?_⟩
           cases q with
           | zero => simp at hq; subst hq; simpa using p3
           | succ q => simp at hq; have := p2 q u hq; rwa [show i * sz' + (j + 1) + q = i * sz' + j + (q + 1) by omega] at this
       cases agg with
       | true =>
         simp only [if_true] at hs
         obtain ⟨hn, hs⟩ := hs
         obtain ⟨vs, p1, p2⟩ := hrest k _ rfl (by omega)
         have hvl := RdL_length p1
         rw [List.length_drop] at hvl
         refine ⟨_, .agg (vs.take n).toArray, hs, ?_, fun w' hw => ?_⟩
         · simp only [Cn]
           refine ⟨_, rfl, ?_, fun y hy => RdL_one p1 y (List.mem_of_mem_take (by simpa using hy))⟩
           have h3 : CnL m st.n (vw H w B st.ob) ((r'.drop k).map .d) vs := CnL_of_RdL p1
           have := CnL_take n h3
           rwa [← List.map_take] at this
         · have hv := run_ld_agg (w := w') ht (ad := ⟨g, i * sz' + k, none⟩) (vs := vs.take n) (by rw [List.length_take]; omega) (fun j v hj => by
             rw [List.getElem?_take] at hj
             split at hj
             · rw [add0]; exact hcell w' hw _ v (p2 j v hj)
             · cases hj)
           simp [execOp, ho, Instr.loadAt, Instr.sureAddr, e, hv]
       | false =>
         simp only [Bool.false_eq_true, if_false] at hs
         cases hk : r'[k]? with
         | none => rw [hk] at hs; exact hs.elim
         | some y =>
           rw [hk] at hs
           have hkl : k < sz' := by rw [← hrl]; exact (List.getElem?_eq_some_iff.1 hk).1
           obtain ⟨v, hv, hy⟩ := hget k y hkl hk
           exact ⟨.d y, v, hs, hy, fun w' hw => by simp [execOp, ho, Instr.loadAt, Instr.sureAddr, e, run_ld_one ht (hcell w' hw _ v hv)]⟩
   · exact hs.elim
 · exact hs.elim
theorem run_indexAt (w : World) {t e : TypeId} {sz : Nat} (ht : P.underlying t = some (.slice e)) (hz : (P.info? e).map (·.size) = some sz) (A : Option Addr) (len cap : Nat) (k : IntKind) (i : Int) (ad : Addr) (hA : A = some ad) (h0 : 0 ≤ i) (h1 : i < len) :
   (Instr.indexAt t (.slice A len cap) (.int k i)).run P w = .ok (.pointer (some (ad.add (i.toNat * sz)))) w := by
 cases hi : P.info? e with
 | none => rw [hi] at hz; cases hz
 | some inf =>
   rw [hi] at hz
   simp only [Option.map_some, Option.some.injEq] at hz
   have hsz : (sizeOf e).run P w = .ok sz w := by simp [sizeOf, typeInfo, hi, hz]
   simp [Instr.indexAt, asIntOf, run_underlying ht, hA, h0, h1, hsz]
theorem ok_ia_data (h : Sat H N w m B a st) {d : Nat} (hd : d < N) {t e : TypeId} {x i : Operand} {sz : Nat} (ho : o.op = .indexAddr t x i) (ht : P.underlying t = some (.slice e)) (hz : (P.info? e).map (·.size) = some sz)
   {rows : List (List D)} {k : IntKind} {j : Int} (hv : Rd (vw H w B st.ob) (.sl rows) (a.eval x)) (hj : a.eval i = .int k j)
   (hs : 0 ≤ j ∧ need rows[j.toNat]? fun r => r.length = sz ∧ K (st.put d (.cp r))) : PV m st.n (vw H w B st.ob) P o a d K st := by
 obtain ⟨j0, hs⟩ := hs
 cases hr : rows[j.toNat]? with
 | none => rw [hr] at hs; exact hs.elim
 | some r =>
   rw [hr] at hs
   obtain ⟨hl, hs⟩ := hs
   simp only [Rd] at hv
   obtain ⟨A, cap, e1, g1, g2, g3⟩ := hv
   rcases g3 with rfl | ⟨ad, sz', eA, _, g3⟩
   · simp at hr
   · obtain ⟨q1, q2⟩ := RdRows_get g3 hr
     have hlt : j.toNat < rows.length := (List.getElem?_eq_some_iff.1 hr).1
     have hsz : sz' = sz := by omega
     subst hsz
     refine PV.pure (x := .cp r) (v := .pointer (some (ad.add (j.toNat * sz')))) h hd ?_ hs ?_
     · simp only [Cn]
       exact ⟨_, rfl, RdCells_at (by simpa using q2)⟩
     · intro w
       simp [execOp, ho, e1, hj, run_indexAt w ht hz A rows.length cap k j ad eA j0 (by omega)]
theorem ok_ia (h : Sat H N w m B a st) {d : Nat} (hd : d < N) {t e : TypeId} {x i : Operand} {r q : Rv} {sz : Nat} (ho : o.op = .indexAddr t x i) (hx : opn x = some r) (hi : opn i = some q) (ht : P.underlying t = some (.slice e)) (hz : (P.info? e).map (·.size) = some sz)
   (hs : step T (.ia d sz r q) st K Kp) : PV m st.n (vw H w B st.ob) P o a d K st := by
 have h1 := get_ok h hx
 have h2 := get_ok h hi
 simp only [step] at hs
 split at hs
 · rename_i k j e2
   rw [e2] at h2
   have hj := of_v h2
   split at hs
   · rename_i o' e1
     rw [e1] at h1
     simp only [Cn] at h1
     obtain ⟨h3, h4, _⟩ := h1
     split at hs
     · rename_i t' sz' rows hl
       obtain ⟨⟨rfl, j0, j1⟩, hs⟩ := hs
       obtain ⟨xs, q1, q2, q3, _⟩ := h.store.obs o' _ hl
       obtain ⟨_, p2⟩ := q1
       rcases p2 with ⟨f1, f2⟩ | ⟨g, cap, cur, f1, _, f3, f4, f5, f6, f7⟩
       · omega
       · refine PV.pure (x := .ep o' sz' j.toNat 0) (v := .pointer (some ⟨g, j.toNat * sz', none⟩)) h hd ?_ hs ?_
         · simp only [Cn]; exact ⟨h3, g, _, cap, f1, by simp⟩
         · intro w
           have := run_indexAt w ht hz (some ⟨g, 0, none⟩) rows.length cap k j ⟨g, 0, none⟩ rfl j0 j1
           rw [add0, Nat.zero_add] at this
           simp [execOp, ho, h4, f1, hj, this]
     · rename_i rows hl
       have := h.store.obs o' _ hl
       simp only [ObS] at this
       exact ok_ia_data h hd ho ht hz (by rw [h4]; exact this) hj hs
     · exact hs.elim
   · rename_i rows e1
     rw [e1] at h1
     exact ok_ia_data h hd ho ht hz h1 hj hs
   · exact hs.elim
 · exact hs.elim
theorem ok_ipa (h : Sat H N w m B a st) {d : Nat} (hd : d < N) {t e : TypeId} {x i : Operand} {r q : Rv} {sz n : Nat} (ho : o.op = .indexAddr t x i) (hx : opn x = some r) (hi : opn i = some q) (ht : P.underlying t = some (.array n e)) (hz : (P.info? e).map (·.size) = some sz)
   (hs : step T (.ipa d n sz r q) st K Kp) : PV m st.n (vw H w B st.ob) P o a d K st := by
 have h1 := get_ok h hx
 have h2 := get_ok h hi
 have run : ∀ (w : World) (k : IntKind) (j : Int) (ad : Addr), 0 ≤ j → j < n → (Instr.indexAt t (.pointer (some ad)) (.int k j)).run P w = .ok (.pointer (some (ad.add (j.toNat * sz)))) w := by
   intro w k j ad j0 j1
   cases hi : P.info? e with
   | none => rw [hi] at hz; cases hz
   | some inf =>
     rw [hi] at hz
     simp only [Option.map_some, Option.some.injEq] at hz
     have hsz : (sizeOf e).run P w = .ok sz w := by simp [sizeOf, typeInfo, hi, hz]
     simp [Instr.indexAt, asIntOf, run_underlying ht, Instr.sureAddr, j0, j1, hsz]
 simp only [step] at hs
 split at hs
 · rename_i k j o' k' e2 e1
   rw [e2] at h2; rw [e1] at h1
   have hj := of_v h2
   obtain ⟨⟨j0, j1⟩, hs⟩ := hs
   simp only [Cn] at h1
   obtain ⟨h3, b, h4, h5⟩ := h1
   refine PV.pure (x := .ptr o' (k' + j.toNat * sz)) (v := .pointer (some ⟨b, k' + j.toNat * sz, none⟩)) h hd ?_ hs ?_
   · simp only [Cn]; exact ⟨h3, b, h4, rfl⟩
   · intro w
     have := run w k j ⟨b, k', none⟩ j0 j1
     rw [add0] at this
     simp [execOp, ho, h5, hj, this]
 · rename_i k j cells e2 e1
   rw [e2] at h2; rw [e1] at h1
   have hj := of_v h2
   obtain ⟨⟨j0, j1⟩, hs⟩ := hs
   simp only [Cn] at h1
   obtain ⟨ad, h3, h4⟩ := h1
   refine PV.pure (x := .cp (cells.drop (j.toNat * sz))) (v := .pointer (some (ad.add (j.toNat * sz)))) h hd ?_ hs ?_
   · simp only [Cn]
     exact ⟨_, rfl, RdCells_at (by simpa using RdCells_drop (j.toNat * sz) h4)⟩
   · intro w
     simp [execOp, ho, h3, hj, run w k j ad j0 j1]
 · exact hs.elim
end
end Go.Ev
namespace Go.Ev
open Go
theorem al_size (w : World) (o : Obj) : (w.alloc o).heap.size = w.heap.size + 1 := by show (w.heap.push o).size = _; simp
theorem al_old (w : World) (o : Obj) (b : Nat) (h : b < w.heap.size) : (w.alloc o).heap[b]? = w.heap[b]? := by
 show (w.heap.push o)[b]? = _
 rw [Array.getElem?_push, if_neg (by omega)]
theorem al_new (w : World) (o : Obj) : (w.alloc o).heap[w.heap.size]? = some o := by
 show (w.heap.push o)[w.heap.size]? = _
 rw [Array.getElem?_push, if_pos rfl]
theorem RdL_split {c : Rdr} : ∀ {l l' : List D} {vs : List Value}, RdL c (l ++ l') vs → ∃ us us', vs = us ++ us' ∧ RdL c l us ∧ RdL c l' us'
 | [], _, vs, h => ⟨[], vs, rfl, trivial, h⟩
 | d :: ds, _, [], h => h.elim
 | d :: ds, _, v :: vs, h => by
   obtain ⟨us, us', e, h1, h2⟩ := RdL_split h.2
   exact ⟨v :: us, us', by rw [e]; rfl, ⟨h.1, h1⟩, h2⟩
theorem RdCells_of {c : Rdr} {ad : Addr} : ∀ {l : List D} {vs : List Value} {k : Nat}, RdL c l vs → (∀ j v, vs[j]? = some v → c (ad.add (k + j)) v) → RdCells c ad k l
 | [], [], _, _, _ => by simp [RdCells]
 | d :: ds, v :: vs, k, h, hc => by
   simp only [RdCells]
   refine ⟨⟨v, by simpa using hc 0 v rfl, h.1⟩, RdCells_of h.2 fun j u hj => ?_⟩
   have := hc (j + 1) u (by simpa using hj)
   rwa [show k + (j + 1) = k + 1 + j by omega] at this
theorem RdRows_of {c : Rdr} {ad : Addr} {sz : Nat} : ∀ {rows : List (List D)} {vs : List Value} {k : Nat}, (∀ r ∈ rows, r.length = sz) → RdL c rows.flatten vs → (∀ j v, vs[j]? = some v → c (ad.add (k + j)) v) → RdRows c ad sz k rows
 | [], _, _, _, _, _ => by simp [RdRows]
 | r :: rs, vs, k, hr, h, hc => by
   simp only [List.flatten_cons] at h
   obtain ⟨us, us', rfl, h1, h2⟩ := RdL_split h
   have hl := RdL_length h1
   have hr1 := hr r (by simp)
   simp only [RdRows]
   refine ⟨hr1, RdCells_of h1 fun j v hj => hc j v (by rw [List.getElem?_append_left (List.getElem?_eq_some_iff.1 hj).1]; exact hj), RdRows_of (fun x hx => hr x (by simp [hx])) h2 fun j v hj => ?_⟩
   have := hc (sz + j) v (by rw [List.getElem?_append_right (by omega), show sz + j - us.length = j by omega]; exact hj)
   rwa [show k + (sz + j) = k + sz + j by omega] at this
section
variable {G : World → Prop} {H : Hd G} {XB : Nat → Prop} {N : Nat} {w : World} {m : Nat → Value} {B : Nat → Nat → Prop} {a : Act} {st : St}
variable {P : Program} {o : Oper} {T : FuncId → Contract} {K : St → Prop} {Kp : SV → St → Prop}
theorem allD_ok {n : Nat} {c : Rdr} : ∀ {l : List SV} {ds : List D} {vs : List Value}, allD l = some ds → CnL m n c l vs → RdL c ds vs
 | [], ds, [], e, _ => by simp only [allD, Option.some.injEq] at e; subst e; trivial
 | [], _, _ :: _, _, h => by simp [CnL] at h
 | .d x :: r, ds, v :: vs, e, h => by
   simp only [allD, Option.map_eq_some_iff] at e
   obtain ⟨ys, e1, rfl⟩ := e
   simp only [CnL] at h
   exact ⟨h.1, allD_ok e1 h.2⟩
 | .d x :: r, ds, [], e, h => by simp [CnL] at h
 | .any :: _, _, _, e, _ | .own _ :: _, _, _, e, _ | .ptr _ _ :: _, _, _, e, _ | .cp _ :: _, _, _, e, _ | .ep _ _ _ _ :: _, _, _, e, _ | .agg _ :: _, _, _, e, _ | .tup _ :: _, _, _, e, _ | .fn _ _ :: _, _, _, e, _ | .opt _ _ :: _, _, _, e, _ => by simp [allD] at e
theorem row_data {c : Rdr} {t : TypeId} {sz : Nat} {rows : List (List D)} {v : Value} {xs : List Value} (h1 : w.ownsRow 0 t sz v rows.length xs) (h2 : RdL c rows.flatten xs) (h3 : ∀ r ∈ rows, r.length = sz)
   (hc : ∀ a u, w.cell? a = some u → v.ownBlock = some a.block → c a u) : Rd c (.sl rows) v := by
 simp only [Rd]
 obtain ⟨_, p2⟩ := h1
 rcases p2 with ⟨f1, f2⟩ | ⟨g, cap, cur, f1, _, f3, f4, f5, f6, f7⟩
 · exact ⟨none, 0, by rw [f1, f2], by omega, by omega, .inl (List.length_eq_zero_iff.1 f2)⟩
 · have hm : maxLen = 9223372036854775807 := by decide
   refine ⟨_, cap, f1, f4, by omega, .inr ⟨_, sz, rfl, rfl, RdRows_of h3 h2 fun j v' hj => hc _ _ ?_ (by rw [f1, Nat.zero_add, add0]; rfl)⟩⟩
   rw [Nat.zero_add, add0, cell_at f3]
   rw [← f7, List.getElem?_take] at hj
   split at hj
   · simpa using hj
   · cases hj
theorem frz_ok (h : Sat H N w m B a st) {x : SV} {v : Value} (hx : Cn m st.n (vw H w B st.ob) x v) {y : D} {st1 : St} (e : st.frz x = some (y, st1)) :
   ∃ B1, Sat H N w m B1 a st1 ∧ Since w m B st.store w m B1 st1.store ∧ Rd (vw H w B1 st1.ob) y v ∧ st1.n = st.n ∧ st1.sl = st.sl ∧ ∀ o b, B1 o b → B o b := by
 unfold St.frz at e
 split at e
 · simp only [Option.some.injEq, Prod.mk.injEq] at e
   obtain ⟨rfl, rfl⟩ := e
   exact ⟨B, h, Since.refl _ _ _ _, hx, rfl, rfl, fun _ _ => id⟩
 · rename_i o'
   simp only [Cn] at hx
   obtain ⟨h1, rfl, _⟩ := hx
   split at e
   · rename_i t sz rows hl
     simp only [Option.some.injEq, Prod.mk.injEq] at e
     obtain ⟨rfl, rfl⟩ := e
     obtain ⟨xs, q1, q2, q3, q4⟩ := h.store.obs o' _ hl
     have hu := SOk.upd (w1 := w) h.store o' _ (.fro rows) hl rfl (fun _ => False) rfl rfl rfl (Nat.le_refl _) (fun _ _ _ => rfl) (fun b hb _ => by cases hb) (fun c hc1 hc2 => by
       simp only [ObS]
       exact row_data q1 (RdL_mono hc1 _ _ q2) q3 fun a u ha hb => hc2 a u ha (by simp [Ob.has]) ((q4 _).2 hb))
     obtain ⟨hS, hO⟩ := hu
     refine ⟨_, ⟨h.size, h.defers.since hS, h.slots.since hS, hO⟩, hS, ?_, rfl, rfl, fun k b hb => by by_cases e : k = o' <;> simp_all⟩
     have := hO.obs o' (.fro rows) (by simp [lk_cons])
     exact this
   · rename_i rows hl
     simp only [Option.some.injEq, Prod.mk.injEq] at e
     obtain ⟨rfl, rfl⟩ := e
     exact ⟨B, h, Since.refl _ _ _ _, h.store.obs o' _ hl, rfl, rfl, fun _ _ => id⟩
   · cases e
 · rename_i o'
   simp only [Cn] at hx
   obtain ⟨h1, b, h2, rfl⟩ := hx
   split at e
   · rename_i t l hl
     simp only [Option.map_eq_some_iff, Prod.mk.injEq] at e
     obtain ⟨ds, e1, rfl, rfl⟩ := e
     obtain ⟨cs, g1, g2, g3, g4⟩ := obj_cells h.store hl h2
     have hu := SOk.upd (w1 := w) h.store o' _ .dead hl rfl (fun _ => False) rfl rfl rfl (Nat.le_refl _) (fun _ _ _ => rfl) (fun b hb _ => by cases hb) (fun c hc1 hc2 => trivial)
     obtain ⟨hS, hO⟩ := hu
     refine ⟨_, ⟨h.size, h.defers.since hS, h.slots.since hS, hO⟩, hS, ?_, rfl, rfl, fun k b hb => by by_cases e : k = o' <;> simp_all⟩
     simp only [Rd]
     refine ⟨_, rfl, RdCells_of (RdL_mono hS.vw _ _ (allD_ok e1 g2)) fun j v hj => ⟨?_, ?_, ?_⟩⟩
     · rw [Nat.zero_add, add0, cell_at g1]; simpa using hj
     · rintro ⟨k, z, k1, k2, k3⟩
       rw [Nat.zero_add, add0] at k3
       simp only [St.store, St.setO, lk_cons] at k1
       by_cases e : o' = k
       · subst e; simp only [if_true, Option.some.injEq] at k1; subst k1; cases k2
       · simp only [e, if_false] at k1
         have e' : k ≠ o' := fun h => e h.symm
         simp only [e', if_false] at k3
         exact h.store.sep k o' z _ k1 hl k2 rfl e' _ k3 ((g4 b).2 rfl)
     · rw [Nat.zero_add, add0]
       exact h.store.seph o' _ b hl rfl ((g4 b).2 rfl)
   · cases e
 · cases e
theorem frzL_ok : ∀ {l : List SV} {vs : List Value} {st st1 : St} {B : Nat → Nat → Prop} {ys : List D}, Sat H N w m B a st → CnL m st.n (vw H w B st.ob) l vs → st.frzL l = some (ys, st1) →
   ∃ B1, Sat H N w m B1 a st1 ∧ Since w m B st.store w m B1 st1.store ∧ RdL (vw H w B1 st1.ob) ys vs ∧ st1.n = st.n ∧ st1.sl = st.sl
 | [], [], st, st1, B, ys, h, _, e => by
   simp only [St.frzL, Option.some.injEq, Prod.mk.injEq] at e
   obtain ⟨rfl, rfl⟩ := e
   exact ⟨B, h, Since.refl _ _ _ _, trivial, rfl, rfl⟩
 | [], _ :: _, _, _, _, _, _, h, _ => by simp [CnL] at h
 | _ :: _, [], _, _, _, _, _, h, _ => by simp [CnL] at h
 | x :: r, v :: vs, st, st1, B, ys, h, hl, e => by
   simp only [CnL] at hl
   simp only [St.frzL, Option.bind_eq_some_iff, Option.map_eq_some_iff, Prod.exists, Prod.mk.injEq] at e
   obtain ⟨y, st2, e1, zs, st3, e2, rfl, rfl⟩ := e
   obtain ⟨B1, h1, s1, r1, n1, l1, _⟩ := frz_ok h hl.1 e1
   obtain ⟨B2, h2, s2, r2, n2, l2⟩ := frzL_ok h1 (s1.cnL _ _ hl.2) e2
   exact ⟨B2, h2, s1.trans s2, ⟨Rd_mono s2.vw _ _ r1, r2⟩, n2.trans n1, l2.trans l1⟩
theorem new_cells (h : Sat H N w m B a st) {d : Nat} (hd : d < N) {t : TypeId} {l : List SV} {vs : Array Value} (hl : CnL m st.n (vw H w B st.ob) l vs.toList) (h1 : ∀ v ∈ vs.toList, v.oneCell' = true) (hK : K ((st.newO (.cells t l)).put d (.ptr st.n 0)))
   {r : Result Next} (hr : r = .ok (.value (.pointer (some ⟨w.heap.size, 0, none⟩))) (w.alloc (.cells vs t))) : VOk H N XB w m B st.store a d K r := by
 have hadd := SOk.add (w1 := w.alloc (.cells vs t)) h.store (.cells t l) (.pointer (some ⟨w.heap.size, 0, none⟩)) (fun b => b = w.heap.size) rfl rfl rfl (by rw [al_size]; omega) (fun b hb => al_old _ _ _ hb)
   (fun b _ hb => by subst hb; rw [al_size]; omega) (fun c hc => by
     refine ⟨w.heap.size, vs, by simp, al_new _ _, CnL_mono (Nat.le_succ _) (fun o ho => ?_) hc _ _ hl, h1, fun x => Iff.rfl⟩
     have : o ≠ st.store.n := Nat.ne_of_lt ho
     simp only [this, if_false])
 obtain ⟨hS, hO⟩ := hadd
 refine ⟨_, _, _, _, _, hr, hK, Sat.put ⟨h.size, h.defers.since hS, h.slots.since hS, hO⟩ hd ?_, hS, fun b hb _ => al_old _ _ _ hb⟩
 simp only [Cn, St.newO]
 exact ⟨by omega, w.heap.size, by simp [St.store], rfl⟩
theorem new_row (h : Sat H N w m B a st) {d : Nat} (hd : d < N) {t : TypeId} {sz cap : Nat} {rows : List (List D)} {vs : Array Value} (hl : RdL (vw H w B st.ob) rows.flatten vs.toList) (hr : ∀ r ∈ rows, r.length = sz) (hc : rows.length = cap) (hcm : cap ≤ 9223372036854775807)
   (hK : K ((st.newO (.row t sz rows)).put d (.own st.n))) {r : Result Next} (he : r = .ok (.value (.slice (some ⟨w.heap.size, 0, none⟩) rows.length cap)) (w.alloc (.cells vs t))) : VOk H N XB w m B st.store a d K r := by
 have hlen := RdL_length hl
 rw [flat_length hr] at hlen
 have hm : maxLen = 9223372036854775807 := by decide
 have hadd := SOk.add (w1 := w.alloc (.cells vs t)) h.store (.row t sz rows) (.slice (some ⟨w.heap.size, 0, none⟩) rows.length cap) (fun b => b = w.heap.size) rfl rfl rfl (by rw [al_size]; omega) (fun b hb => al_old _ _ _ hb)
   (fun b _ hb => by subst hb; rw [al_size]; omega) (fun c hc' => by
     refine ⟨vs.toList, ⟨by rw [hlen], .inr ⟨w.heap.size, cap, vs, by simp, Nat.zero_le _, al_new _ _, by omega, by omega, by rw [← hc]; simpa using hlen, ?_⟩⟩, RdL_mono hc' _ _ hl, hr, fun x => ?_⟩
     · exact List.take_of_length_le (by omega)
     · simp only [if_true, Value.ownBlock, Option.some.injEq]; exact eq_comm)
 obtain ⟨hS, hO⟩ := hadd
 refine ⟨_, _, _, _, _, he, hK, Sat.put ⟨h.size, h.defers.since hS, h.slots.since hS, hO⟩ hd ?_, hS, fun b hb _ => al_old _ _ _ hb⟩
 simp only [Cn, St.newO]
 exact ⟨by omega, by simp [St.store], rfl⟩
theorem new_nil (h : Sat H N w m B a st) {d : Nat} (hd : d < N) {t : TypeId} {sz : Nat} (hK : K ((st.newO (.row t sz [])).put d (.own st.n))) {r : Result Next} (he : r = .ok (.value (.slice none 0 0)) w) : VOk H N XB w m B st.store a d K r := by
 have hadd := SOk.add (w1 := w) h.store (.row t sz []) (.slice none 0 0) (fun _ => False) rfl rfl rfl (Nat.le_refl _) (fun b hb => rfl)
   (fun b _ hb => hb.elim) (fun c hc' => by
     refine ⟨[], ⟨by simp, .inl ⟨by simp, rfl⟩⟩, trivial, (by intro r hr; cases hr), fun x => ?_⟩
     simp [Value.ownBlock])
 obtain ⟨hS, hO⟩ := hadd
 refine ⟨_, _, _, _, _, he, hK, Sat.put ⟨h.size, h.defers.since hS, h.slots.since hS, hO⟩ hd ?_, hS, fun b hb _ => rfl⟩
 simp only [Cn, St.newO]
 exact ⟨by omega, by simp [St.store], rfl⟩
theorem ok_nr (h : Sat H N w m B a st) {d : Nat} (hd : d < N) {t : TypeId} {sz : Nat} (ho : o.op = .move (.const (.slice none 0 0)) ∨ o.op = .assign (.const (.slice none 0 0)))
   (hs : step T (.nr d t sz) st K Kp) : VOk H N XB w m B st.store a d K ((execOp a.eval o).run P w) :=
 new_nil h hd hs (by rcases ho with ho | ho <;> simp [execOp, ho, Act.eval])
theorem zero_run {t : TypeId} {z : Value} (hz : (P.info? t).bind (·.zero) = some z) (w : World) : (zeroValue t).run P w = .ok z w := by
 cases hi : P.info? t with
 | none => rw [hi] at hz; cases hz
 | some inf => rw [hi] at hz; simp only [Option.bind_some] at hz; simp [zeroValue, typeInfo, hi, hz]
theorem ok_al (h : Sat H N w m B a st) {d : Nat} (hd : d < N) {t : TypeId} {z : Value} (ho : o.op = .alloc t) (hz : (P.info? t).bind (·.zero) = some z) (h1 : ∀ v ∈ z.cells.toList, v.oneCell' = true)
   (hs : step T (.al d t z.cells.toList) st K Kp) : VOk H N XB w m B st.store a d K ((execOp a.eval o).run P w) := by
 simp only [step] at hs
 refine new_cells h hd (CnL_dv _ h1) h1 hs ?_
 simp [execOp, ho, Instr.alloc, zero_run hz, newVar, newRow]
theorem CnL_set {n : Nat} {c : Rdr} : ∀ {l : List SV} {vs : List Value} {k : Nat} {x : SV} {v : Value}, CnL m n c l vs → vs[k]? = some v → Cn m n c x v → CnL m n c (l.set k x) vs
 | [], [], k, x, v, _, h, _ => by simp at h
 | [], _ :: _, k, x, v, h, _, _ => by simp [CnL] at h
 | _ :: _, [], k, x, v, h, _, _ => by simp [CnL] at h
 | s :: ss, w :: ws, 0, x, v, h, e, hx => by
   simp only [CnL] at h
   simp only [List.getElem?_cons_zero, Option.some.injEq] at e
   subst e
   simp only [List.set_cons_zero, CnL]
   exact ⟨hx, h.2⟩
 | s :: ss, w :: ws, k + 1, x, v, h, e, hx => by
   simp only [CnL] at h
   simp only [List.getElem?_cons_succ] at e
   simp only [List.set_cons_succ, CnL]
   exact ⟨h.1, CnL_set h.2 e hx⟩
theorem ok_aln (h : Sat H N w m B a st) {d : Nat} (hd : d < N) {t u : TypeId} {sz k : Nat} {z : Value} (ho : o.op = .alloc t) (hz : (P.info? t).bind (·.zero) = some z) (h1 : ∀ v ∈ z.cells.toList, v.oneCell' = true) (hk : z.cells.toList[k]? = some (.slice none 0 0))
   (hs : step T (.aln d t z.cells.toList k u sz) st K Kp) : VOk H N XB w m B st.store a d K ((execOp a.eval o).run P w) := by
 simp only [step] at hs
 have hadd := SOk.add (w1 := w) h.store (.row u sz []) (.slice none 0 0) (fun _ => False) rfl rfl rfl (Nat.le_refl _) (fun b hb => rfl)
   (fun b _ hb => hb.elim) (fun c hc' => by
     refine ⟨[], ⟨by simp, .inl ⟨by simp, rfl⟩⟩, trivial, (by intro r hr; cases hr), fun x => ?_⟩
     simp [Value.ownBlock])
 obtain ⟨hS, hO⟩ := hadd
 have hsat : Sat H N w _ _ a (st.newO (.row u sz [])) := ⟨h.size, h.defers.since hS, h.slots.since hS, hO⟩
 obtain ⟨v, w', m', B', st', k1, k2, k3, k4, k5⟩ := new_cells (XB := XB) hsat hd (CnL_set (CnL_dv _ h1) hk (by simp only [Cn, St.newO]; exact ⟨by omega, by simp [St.store], rfl⟩)) h1 hs (r := (execOp a.eval o).run P w) (by simp [execOp, ho, Instr.alloc, zero_run hz, newVar, newRow])
 exact ⟨v, w', m', B', st', k1, k2, k3, hS.trans k4, k5⟩
theorem ok_alb (h : Sat H N w m B a st) {d : Nat} (hd : d < N) {t u : TypeId} {z : Value} (ho : o.op = .alloc t) (hz : (P.info? t).bind (·.zero) = some z) (h1 : z.cells = #[.pointer none, .slice none 0 0])
   (hs : step T (.alb d t u) st K Kp) : VOk H N XB w m B st.store a d K ((execOp a.eval o).run P w) := by
 simp only [step] at hs
 have hadd := SOk.add (w1 := w.alloc (.cells z.cells t)) h.store (.bld t u []) (.pointer (some ⟨w.heap.size, 0, none⟩)) (fun b => b = w.heap.size) rfl rfl rfl (by rw [al_size]; omega) (fun b hb => al_old _ _ _ hb)
   (fun b _ hb => by subst hb; rw [al_size]; omega) (fun c hc => by
     refine ⟨w.heap.size, .pointer none, .slice none 0 0, by simp, by rw [al_new, h1], .inl rfl, ⟨by simp [byteVals], .inl ⟨by simp, rfl⟩⟩, by simp [Value.ownBlock], fun x => by simp [Value.ownBlock]⟩)
 obtain ⟨hS, hO⟩ := hadd
 have hr : (execOp a.eval o).run P w = .ok (.value (.pointer (some ⟨w.heap.size, 0, none⟩))) (w.alloc (.cells z.cells t)) := by simp [execOp, ho, Instr.alloc, zero_run hz, newVar, newRow]
 refine ⟨_, _, _, _, _, hr, hs, Sat.put ⟨h.size, h.defers.since hS, h.slots.since hS, hO⟩ hd ?_, hS, fun b hb _ => al_old _ _ _ hb⟩
 · simp only [Cn, St.newO]
   exact ⟨by omega, w.heap.size, by simp [St.store], rfl⟩
theorem cells_ok {n : Nat} {c : Rdr} {x : SV} {v : Value} {l : List SV} (hx : Cn m n c x v) (e : x.cells = some l) : CnL m n c l v.cells.toList ∧ ∀ u ∈ v.cells.toList, u.oneCell' = true := by
 have one : ∀ {y : SV} {u : Value}, Cn m n c y u → u.oneCell' = true → CnL m n c [y] u.cells.toList ∧ ∀ z ∈ u.cells.toList, z.oneCell' = true := by
   intro y u hy hu
   have : u.cells = #[u] := by cases u <;> first | rfl | cases hu
   rw [this]
   exact ⟨by simp only [CnL, and_true]; exact hy, fun z hz => by simp at hz; subst hz; exact hu⟩
 cases x with
 | any => cases e
 | tup l => cases e
 | opt b x => cases e
 | agg l' =>
   simp only [SV.cells, Option.some.injEq] at e; subst e
   simp only [Cn] at hx
   obtain ⟨cs, rfl, h1, h2⟩ := hx
   exact ⟨h1, h2⟩
 | d x => simp only [SV.cells, Option.some.injEq] at e; subst e; exact one hx (Rd_one _ _ hx)
 | own o => simp only [SV.cells, Option.some.injEq] at e; subst e; exact one hx hx.2.2
 | ptr o k => simp only [SV.cells, Option.some.injEq] at e; subst e; exact one hx (by simp only [Cn] at hx; obtain ⟨_, b, _, rfl⟩ := hx; rfl)
 | cp l => simp only [SV.cells, Option.some.injEq] at e; subst e; exact one hx (by simp only [Cn] at hx; obtain ⟨b, rfl, _⟩ := hx; rfl)
 | ep o sz i k => simp only [SV.cells, Option.some.injEq] at e; subst e; exact one hx (by simp only [Cn] at hx; obtain ⟨_, g, _, _, _, rfl⟩ := hx; rfl)
 | fn f caps => simp only [SV.cells, Option.some.injEq] at e; subst e; exact one hx (by simp only [Cn] at hx; obtain ⟨b, rfl, _⟩ := hx; rfl)
theorem ok_bx (h : Sat H N w m B a st) {d : Nat} (hd : d < N) {t : TypeId} {n : Nat} {x : Operand} {r : Rv} (ho : o.op = .box t x) (hx : opn x = some r)
   (hs : step T (.bx d t n r) st K Kp) : VOk H N XB w m B st.store a d K ((execOp a.eval o).run P w) := by
 have h1 := get_ok h hx
 simp only [step] at hs
 cases e : (r.get st).cells with
 | none => rw [e] at hs; exact hs.elim
 | some l =>
   rw [e] at hs
   obtain ⟨hn, hs⟩ := hs
   obtain ⟨h2, h3⟩ := cells_ok h1 e
   refine new_cells h hd (vs := (a.eval x).cells) h2 h3 hs ?_
   simp [execOp, ho, Instr.box, newVar, newRow]
theorem ok_bxn (h : Sat H N w m B a st) {d : Nat} (hd : d < N) {t u : TypeId} {n k sz : Nat} {x : Operand} {r : Rv} (ho : o.op = .box t x) (hx : opn x = some r)
   (hs : step T (.bxn d t n r k u sz) st K Kp) : VOk H N XB w m B st.store a d K ((execOp a.eval o).run P w) := by
 have h1 := get_ok h hx
 simp only [step] at hs
 cases e : (r.get st).cells with
 | none => rw [e] at hs; exact hs.elim
 | some l =>
   rw [e] at hs
   obtain ⟨⟨hn, hk⟩, hs⟩ := hs
   obtain ⟨h2, h3⟩ := cells_ok h1 e
   obtain ⟨v, hv, hv2⟩ := CnL_get h2 hk
   rw [of_v hv2] at hv
   have hadd := SOk.add (w1 := w) h.store (.row u sz []) (.slice none 0 0) (fun _ => False) rfl rfl rfl (Nat.le_refl _) (fun b hb => rfl)
     (fun b _ hb => hb.elim) (fun c hc' => by
       refine ⟨[], ⟨by simp, .inl ⟨by simp, rfl⟩⟩, trivial, (by intro r hr; cases hr), fun x => ?_⟩
       simp [Value.ownBlock])
   obtain ⟨hS, hO⟩ := hadd
   have hsat : Sat H N w _ _ a (st.newO (.row u sz [])) := ⟨h.size, h.defers.since hS, h.slots.since hS, hO⟩
   obtain ⟨v, w', m', B', st', k1, k2, k3, k4, k5⟩ := new_cells (XB := XB) hsat hd (vs := (a.eval x).cells) (CnL_set (hS.cnL _ _ h2) hv (by simp only [Cn, St.newO]; exact ⟨by omega, by simp [St.store], rfl⟩)) h3 hs (r := (execOp a.eval o).run P w) (by simp [execOp, ho, Instr.box, newVar, newRow])
   exact ⟨v, w', m', B', st', k1, k2, k3, hS.trans k4, k5⟩
theorem ok_mi (h : Sat H N w m B a st) {d : Nat} (hd : d < N) {t : TypeId} {x : Operand} {r : Rv} (ho : o.op = .makeInterface t x) (hx : opn x = some r) {u : TypeDesc} (ht : P.underlying t = some u) (hu : (match u with | .interface _ => false | _ => true) = true)
   (hs : step T (.mi d t r) st K Kp) : VOk H N XB w m B st.store a d K ((execOp a.eval o).run P w) := by
 have h1 := get_ok h hx
 simp only [step] at hs
 cases e : st.frz (r.get st) with
 | none => rw [e] at hs; exact hs.elim
 | some y =>
   rw [e] at hs
   simp only [need_some] at hs
   obtain ⟨B1, g1, g2, g3, _⟩ := frz_ok h h1 (y := y.1) (st1 := y.2) e
   refine ⟨.iface t (a.eval x), w, m, B1, _, ?_, hs, g1.put hd ?_, g2, fun _ _ _ => rfl⟩
   · cases u <;> simp_all [execOp, Instr.makeInterface, run_underlying ht]
   · simp only [Cn, Rd]; exact ⟨_, rfl, g3⟩
theorem run_st {t : TypeId} {agg : Bool} {n b k : Nat} {cs : Array Value} {te : TypeId} {v : Value} (hg : w.heap[b]? = some (.cells cs te (0, 0))) (ht : ldT P t = some (agg, n)) (hv : v.cells.size = n) (hk : k + n ≤ cs.size) (h1 : ∀ u ∈ v.cells.toList, u.oneCell' = true) :
   ∃ w1, (storeVar t ⟨b, k, none⟩ v).run P w = .ok () w1 ∧ w1.os = w.os ∧ w1.tape = w.tape ∧ w1.output = w.output ∧ w1.heap.size = w.heap.size ∧ (∀ j, j ≠ b → w1.heap[j]? = w.heap[j]?) ∧
     w1.heap[b]? = some (.cells (cs.toList.take k ++ v.cells.toList ++ cs.toList.drop (k + v.cells.toList.length)).toArray te (0, 0)) := by
 have hlt : b < w.heap.size := (Array.getElem?_eq_some_iff.1 hg).1
 have h2 := run_storeCells_at (P := P) b k te v.cells.toList 0 cs w hg (by simp; omega) h1
 rw [Nat.add_zero] at h2
 obtain ⟨_, h3⟩ := ldT_run ht w
 refine ⟨w.setRow b (cs.toList.take k ++ v.cells.toList ++ cs.toList.drop (k + v.cells.toList.length)).toArray, ?_, rfl, rfl, rfl, ?_, fun j hj => ?_, ?_⟩
 · simp [storeVar, h3, hv, h2]
 · simp [World.setRow]
 · simp only [World.setRow, Array.getElem?_modify]
   rw [if_neg (fun h => hj h.symm)]
 · simp only [World.setRow, Array.getElem?_modify, if_true, hg, Option.map_some]
theorem take_splice {α : Type} (C V : List α) (p n : Nat) (h : p + V.length ≤ n) (hn : n ≤ C.length) : (C.take p ++ V ++ C.drop (p + V.length)).take n = (C.take n).take p ++ V ++ (C.take n).drop (p + V.length) := by
 rw [List.take_append, List.take_of_length_le (by simp; omega), List.take_take, Nat.min_eq_left (by omega), List.drop_take]
 congr 2
 simp; omega
theorem flat_set {sz : Nat} : ∀ (rows : List (List D)) (i k : Nat) (ds : List D), (∀ r ∈ rows, r.length = sz) → i < rows.length → k + ds.length ≤ sz →
   (rows.set i (spliceD (rows.getD i []) k ds)).flatten = rows.flatten.take (i * sz + k) ++ ds ++ rows.flatten.drop (i * sz + k + ds.length)
 | [], i, _, _, _, hi, _ => by simp at hi
 | r :: rs, 0, k, ds, h, _, hk => by
   have hr := h r (by simp)
   simp only [List.set_cons_zero, List.getD_cons_zero, List.flatten_cons, spliceD, Nat.zero_mul, Nat.zero_add]
   rw [List.take_append_of_le_length (by omega), List.drop_append_of_le_length (by omega)]
   simp
 | r :: rs, i + 1, k, ds, h, hi, hk => by
   have hr := h r (by simp)
   have ih := flat_set rs i k ds (fun x hx => h x (by simp [hx])) (by simpa using hi) hk
   simp only [List.set_cons_succ, List.getD_cons_succ, List.flatten_cons, ih]
   rw [show (i + 1) * sz + k = r.length + (i * sz + k) by rw [Nat.succ_mul]; omega, show r.length + (i * sz + k) + ds.length = r.length + (i * sz + k + ds.length) by omega, List.take_length_add_append, List.drop_length_add_append]
   simp
theorem RdL_take {c : Rdr} : ∀ {l : List D} {vs : List Value} (k : Nat), RdL c l vs → RdL c (l.take k) (vs.take k)
 | [], [], k, h => by simpa using h
 | d :: ds, v :: vs, 0, hh => by simp [RdL]
 | d :: ds, v :: vs, k + 1, hh => by simp only [List.take_succ_cons]; exact ⟨hh.1, RdL_take k hh.2⟩
theorem RdL_drop {c : Rdr} : ∀ {l : List D} {vs : List Value} (k : Nat), RdL c l vs → RdL c (l.drop k) (vs.drop k)
 | [], [], k, h => by simpa using h
 | d :: ds, v :: vs, 0, hh => by simpa using hh
 | d :: ds, v :: vs, k + 1, hh => by simpa using RdL_drop k hh.2
theorem ok_st (h : Sat H N w m B a st) {t : TypeId} {x y : Operand} {r q : Rv} {agg : Bool} {n : Nat} (ho : o.op = .store t x y) (hx : opn x = some r) (hy : opn y = some q) (ht : ldT P t = some (agg, n))
   (hXB : ∀ o' k, r.get st = .ptr o' k → ∀ y b, lk st.ob o' = some y → y.has = true → B o' b → XB b)
   (hXB2 : ∀ o' sz i k, r.get st = .ep o' sz i k → ∀ y b, lk st.ob o' = some y → y.has = true → B o' b → XB b)
   (hs : step T (.st agg n r q) st K Kp) : ∃ w' m' B' st', (execOp a.eval o).run P w = .ok .skip w' ∧ K st' ∧ Sat H N w' m' B' a st' ∧ Since w m B st.store w' m' B' st'.store ∧ ∀ b, b < w.heap.size → ¬ XB b → w'.heap[b]? = w.heap[b]? := by
 have h1 := get_ok h hx
 have h2 := get_ok h hy
 simp only [step] at hs
 split at hs
 · rename_i o' k e1
   rw [e1] at h1
   simp only [Cn] at h1
   obtain ⟨h3, b, h4, e⟩ := h1
   split at hs
   · rename_i te l hl
     cases e2 : (q.get st).cells with
     | none => rw [e2] at hs; exact hs.elim
     | some xs =>
       rw [e2] at hs
       obtain ⟨⟨hn, hk⟩, hs⟩ := hs
       obtain ⟨p1, p2⟩ := cells_ok h2 e2
       obtain ⟨cs, g1, g2, g3, g4⟩ := obj_cells h.store hl h4
       have l1 := CnL_length p1
       have l2 := CnL_length g2
       obtain ⟨w1, r1, r2, r3, r4, r5, r6, r7⟩ := run_st (P := P) (w := w) (t := t) (k := k) (v := a.eval y) g1 ht (by rw [← Array.length_toList]; omega) (by rw [← Array.length_toList]; omega) p2
       have hu := SOk.upd (w1 := w1) h.store o' _ (.cells te (splice l k xs)) hl rfl (fun x => x = b) r2 r3 r4 (by omega) (fun j _ hj => r6 j (fun e => hj ((g4 j).2 e)))
         (fun j _ hj => by subst hj; exact ⟨by rw [r5]; exact (Array.getElem?_eq_some_iff.1 g1).1, .inl ((g4 j).2 rfl)⟩) (fun c hc1 _ => by
           refine ⟨b, _, h4, r7, ?_, ?_, fun x => Iff.rfl⟩
           · simp only [splice]
             rw [show xs.length = (a.eval y).cells.toList.length by omega]
             exact CnL_append (CnL_append (CnL_take k (CnL_mono (Nat.le_refl _) (fun _ _ => rfl) hc1 _ _ g2)) (CnL_mono (Nat.le_refl _) (fun _ _ => rfl) hc1 _ _ p1)) (CnL_drop _ (CnL_mono (Nat.le_refl _) (fun _ _ => rfl) hc1 _ _ g2))
           · intro u hu
             simp only [List.mem_append] at hu
             rcases hu with (hu | hu) | hu
             · exact g3 u (List.mem_of_mem_take hu)
             · exact p2 u hu
             · exact g3 u (List.mem_of_mem_drop hu))
       obtain ⟨hS, hO⟩ := hu
       refine ⟨w1, m, _, _, ?_, hs, ⟨h.size, h.defers.since hS, h.slots.since hS, hO⟩, hS, fun j _ hj => r6 j fun e' => hj (hXB o' k e1 _ j hl rfl ((g4 j).2 e'))⟩
       simp [execOp, ho, Instr.storeAt, Instr.sureAddr, e, r1]
   · exact hs.elim
 · rename_i o' sz i k e1
   rw [e1] at h1
   simp only [Cn] at h1
   obtain ⟨h3, g, len, cap, h4, e⟩ := h1
   split at hs
   · rename_i te sz' rows hl
     cases e2 : (q.get st).cells with
     | none => rw [e2] at hs; exact hs.elim
     | some xs =>
       rw [e2] at hs
       simp only [need_some] at hs
       cases e3 : allD xs with
       | none => rw [e3] at hs; exact hs.elim
       | some ds =>
         rw [e3] at hs
         simp only [need_some] at hs
         obtain ⟨⟨rfl, hi, hn, hk⟩, hs⟩ := hs
         obtain ⟨p1, p2⟩ := cells_ok h2 e2
         have p3 := allD_ok e3 p1
         have l1 := RdL_length p3
         obtain ⟨ys, g1, g2, g3, g4⟩ := h.store.obs o' _ hl
         obtain ⟨f1, f2⟩ := g1
         rcases f2 with ⟨f2, f3⟩ | ⟨g', cap', cur, f2, f3, f4, f5, f6, f7, f8⟩
         · rw [h4] at f2; cases f2
         · rw [h4] at f2
           simp only [Value.slice.injEq, Option.some.injEq, Addr.mk.injEq, and_true] at f2
           obtain ⟨rfl, rfl, rfl⟩ := f2
           have hin : i * sz' + k + n ≤ rows.length * sz' := by
             have := Nat.mul_le_mul_right sz' hi
             rw [Nat.succ_mul] at this
             omega
           have hcc : rows.length * sz' ≤ cap * sz' := Nat.mul_le_mul_right _ f5
           obtain ⟨w1, r1, r2, r3, r4, r5, r6, r7⟩ := run_st (P := P) (w := w) (t := t) (k := i * sz' + k) (v := a.eval y) f4 ht (by rw [← Array.length_toList]; omega) (by omega) p2
           have hcl : cur.toList.length = cap * sz' := by rw [Array.length_toList, f7]
           have hpl : i * sz' + k ≤ rows.length * sz' := by omega
           have hg4 : ∀ x, B o' x ↔ x = g := fun x => by rw [g4 x, h4]; simp [Value.ownBlock, eq_comm]
           have hfl := flat_set rows i k ds g3 hi (by omega)
           have hu := SOk.upd (w1 := w1) h.store o' _ (.row te sz' (rows.set i (spliceD (rows.getD i []) k ds))) hl rfl (fun x => x = g) r2 r3 r4 (by omega) (fun j _ hj => r6 j (fun e => hj ((hg4 j).2 e)))
             (fun j _ hj => by subst hj; exact ⟨by rw [r5]; exact (Array.getElem?_eq_some_iff.1 f4).1, .inl ((hg4 j).2 rfl)⟩) (fun c hc1 _ => by
               refine ⟨ys.take (i * sz' + k) ++ (a.eval y).cells.toList ++ ys.drop (i * sz' + k + (a.eval y).cells.toList.length), ⟨?_, .inr ⟨g, cap, _, by rw [h4, List.length_set], f3, r7, by rw [List.length_set]; exact f5, f6, ?_, ?_⟩⟩, ?_, ?_, fun x => ?_⟩
               · simp only [List.length_append, List.length_take, List.length_drop, List.length_set, f1, Nat.min_eq_left hpl]; omega
               · simp only [List.size_toArray, List.length_append, List.length_take, List.length_drop, hcl, Nat.min_eq_left (Nat.le_trans hpl hcc)]; omega
               · rw [List.length_set, ← f8, ← take_splice _ _ _ _ (by omega) (by omega)]
               · rw [hfl, ← l1]
                 refine RdL_append (RdL_append (RdL_take _ ?_) (RdL_mono hc1 _ _ p3)) (RdL_drop _ ?_) <;> exact RdL_mono hc1 _ _ g2
               · intro r hr
                 rcases List.mem_or_eq_of_mem_set hr with hr | rfl
                 · exact g3 r hr
                 · have hr0 : (rows.getD i []).length = sz' := by
                     rw [List.getD_eq_getElem?_getD, List.getElem?_eq_getElem hi]
                     exact g3 _ (List.getElem_mem hi)
                   simp only [spliceD, List.length_append, List.length_take, List.length_drop, hr0]; omega
               · rw [h4]; simp [Value.ownBlock, eq_comm])
           obtain ⟨hS, hO⟩ := hu
           refine ⟨w1, m, _, _, ?_, hs, ⟨h.size, h.defers.since hS, h.slots.since hS, hO⟩, hS, fun j _ hj => r6 j fun e' => hj (hXB2 o' sz' i k e1 _ j hl rfl ((hg4 j).2 e'))⟩
           simp [execOp, ho, Instr.storeAt, Instr.sureAddr, e, r1]
   · exact hs.elim
 · exact hs.elim
end
end Go.Ev
namespace Go.Ev
open Go
section
variable {G : World → Prop} {H : Hd G} {XB : Nat → Prop} {N : Nat} {w : World} {m : Nat → Value} {B : Nat → Nat → Prop} {a : Act} {st : St}
variable {P : Program} {o : Oper} {T : FuncId → Contract} {K : St → Prop} {Kp : SV → St → Prop}
theorem foldl_set (off : Nat) : ∀ (l : List Value) (k : Nat) (cs : Array Value), off + k + l.length ≤ cs.size →
   ((l.zipIdx k).foldl (fun cs (x : Value × Nat) => cs.setIfInBounds (off + x.2) x.1) cs).toList = cs.toList.take (off + k) ++ l ++ cs.toList.drop (off + k + l.length)
 | [], k, cs, _ => by simp
 | v :: r, k, cs, h => by
   simp only [List.length_cons] at h
   rw [List.zipIdx_cons, List.foldl_cons, foldl_set off r (k + 1) _ (by simp; omega)]
   have hlt : off + k < cs.toList.length := by simp; omega
   simp only [Array.toList_setIfInBounds]
   rw [show off + (k + 1) = off + k + 1 by omega]
   rw [List.take_succ_eq_append_getElem (by simpa using hlt)]
   simp only [List.getElem_set_self, List.take_set_of_le (Nat.le_refl _), List.length_cons, List.append_assoc, List.cons_append, List.nil_append]
   rw [List.drop_set_of_lt (by omega), show off + k + 1 + r.length = off + k + (r.length + 1) by omega]
theorem splice_vals (v : Value) (off : Nat) (cs : Array Value) (h : off + v.cells.size ≤ cs.size) :
   (v.cells.zipIdx.foldl (fun cs (c, j) => cs.setIfInBounds (off + j) c) cs).toList = cs.toList.take off ++ v.cells.toList ++ cs.toList.drop (off + v.cells.toList.length) := by
 have := foldl_set off v.cells.toList 0 cs (by simpa using h)
 rw [Nat.add_zero] at this
 rw [← this, ← Array.foldl_toList, Array.toList_zipIdx]
theorem fill_ok (h : Sat H N w m B a st) (place : Nat → Option (Nat × Nat)) : ∀ (ps : List (Nat × Operand)) (qs : List (Nat × Nat × Rv)) (l l' : List SV) (cs : Array Value),
   ps.map (fun p => (place p.1, opn p.2)) = qs.map (fun q => (some (q.1, q.2.1), some q.2.2)) → CnL m st.n (vw H w B st.ob) l cs.toList → (∀ u ∈ cs.toList, u.oneCell' = true) → parts st l qs = some l' →
   ∃ cs', Instr.fill place cs (ps.map fun p => (p.1, a.eval p.2)) = some cs' ∧ CnL m st.n (vw H w B st.ob) l' cs'.toList ∧ ∀ u ∈ cs'.toList, u.oneCell' = true
 | [], [], l, l', cs, _, hl, h1, e => by
   simp only [parts, Option.some.injEq] at e; subst e
   exact ⟨cs, rfl, hl, h1⟩
 | (i, x) :: ps, (off, n, r) :: qs, l, l', cs, hf, hl, h1, e => by
   simp only [List.map_cons, List.cons.injEq, Prod.mk.injEq] at hf
   obtain ⟨⟨hp1, hp2⟩, hf⟩ := hf
   have hx := get_ok h hp2
   simp only [parts] at e
   cases ec : (r.get st).cells with
   | none => rw [ec] at e; cases e
   | some xs =>
     rw [ec] at e
     simp only at e
     obtain ⟨⟨e1, e2⟩, e3⟩ := Option.ite_none_right_eq_some.1 e
     obtain ⟨c1, c2⟩ := cells_ok hx ec
     have l1 := CnL_length c1
     have l2 := CnL_length hl
     have hsz : (a.eval x).cells.size = n := by rw [← Array.length_toList]; omega
     have hcs : cs.size = l.length := by rw [← Array.length_toList]; omega
     have hsp := splice_vals (a.eval x) off cs (by omega)
     have hrec := fill_ok h place ps qs (splice l off xs) l' ((a.eval x).cells.zipIdx.foldl (fun cs (c, j) => cs.setIfInBounds (off + j) c) cs) hf (by
         rw [hsp, splice, show xs.length = (a.eval x).cells.toList.length by omega]
         exact CnL_append (CnL_append (CnL_take off hl) c1) (CnL_drop _ hl)) (by
         rw [hsp]
         intro u hu
         simp only [List.mem_append] at hu
         rcases hu with (hu | hu) | hu
         · exact h1 u (List.mem_of_mem_take hu)
         · exact c2 u hu
         · exact h1 u (List.mem_of_mem_drop hu)) e3
     obtain ⟨cs', g1, g2, g3⟩ := hrec
     refine ⟨cs', ?_, g2, g3⟩
     have hno : ¬ ((decide ((a.eval x).cells.size ≠ n) || decide (off + (a.eval x).cells.size > cs.size)) = true) := by simp [hsz]; omega
     simp only [List.map_cons, Instr.fill, hp1]
     rw [if_neg hno]
     exact g1
 | [], _ :: _, _, _, _, hf, _, _, _ => by simp at hf
 | _ :: _, [], _, _, _, hf, _, _, _ => by simp at hf
theorem ok_bd (h : Sat H N w m B a st) {d : Nat} (hd : d < N) {t : TypeId} {fs : Array Field} {z : Value} {ps : Array (Nat × Operand)} {qs : List (Nat × Nat × Rv)} (ho : o.op = .build t ps) (ht : P.underlying t = some (.struct fs)) (hz : (P.info? t).bind (·.zero) = some z)
   (h1 : ∀ v ∈ z.cells.toList, v.oneCell' = true) {places : Array (Nat × Nat)} (hpl : ∀ w : World, (fs.mapM fun f => do pure (f.offset, ← sizeOf f.type) : Sem (Array (Nat × Nat))).run P w = .ok places w)
   (hq : ps.toList.map (fun p => (places[p.1]?, opn p.2)) = qs.map (fun q => (some (q.1, q.2.1), some q.2.2)))
   (hs : step T (.bd d z.cells.toList qs) st K Kp) : PV m st.n (vw H w B st.ob) P o a d K st := by
 simp only [step] at hs
 cases e : parts st (z.cells.toList.map fun v => .d (.v v)) qs with
 | none => rw [e] at hs; exact hs.elim
 | some l =>
   rw [e] at hs
   obtain ⟨cs, g1, g2, g3⟩ := fill_ok h (places[·]?) ps.toList qs _ l z.cells hq (CnL_dv _ h1) h1 e
   refine PV.pure (v := .agg cs) h hd ?_ hs ?_
   · simp only [Cn]; exact ⟨_, rfl, g2, g3⟩
   · intro w
     simp only [execOp, ho, Instr.build, Sem.run_bind, zero_run hz, Result.andThen_ok, run_underlying ht, hpl, Array.toList_map]
     rw [g1]; rfl
theorem ok_bda (h : Sat H N w m B a st) {d : Nat} (hd : d < N) {t e : TypeId} {len sz : Nat} {z : Value} {ps : Array (Nat × Operand)} {qs : List (Nat × Nat × Rv)} (ho : o.op = .build t ps) (ht : P.underlying t = some (.array len e)) (hz : (P.info? t).bind (·.zero) = some z) (he : (P.info? e).map (·.size) = some sz)
   (h1 : ∀ v ∈ z.cells.toList, v.oneCell' = true)
   (hq : ps.toList.map (fun p => (some (p.1 * sz, sz), opn p.2)) = qs.map (fun q => (some (q.1, q.2.1), some q.2.2)))
   (hs : step T (.bd d z.cells.toList qs) st K Kp) : PV m st.n (vw H w B st.ob) P o a d K st := by
 have hsz : ∀ w, (sizeOf e).run P w = .ok sz w := by
   intro w
   cases hi : P.info? e with
   | none => rw [hi] at he; cases he
   | some inf =>
     rw [hi] at he
     simp only [Option.map_some, Option.some.injEq] at he
     simp [sizeOf, typeInfo, hi, he]
 simp only [step] at hs
 cases e : parts st (z.cells.toList.map fun v => .d (.v v)) qs with
 | none => rw [e] at hs; exact hs.elim
 | some l =>
   rw [e] at hs
   obtain ⟨cs, g1, g2, g3⟩ := fill_ok h (fun i => some (i * sz, sz)) ps.toList qs _ l z.cells hq (CnL_dv _ h1) h1 e
   refine PV.pure (v := .agg cs) h hd ?_ hs ?_
   · simp only [Cn]; exact ⟨_, rfl, g2, g3⟩
   · intro w
     simp only [execOp, ho, Instr.build, Sem.run_bind, zero_run hz, Result.andThen_ok, run_underlying ht, hsz, Array.toList_map]
     rw [g1]; rfl
theorem fillRow_ok (sz : Nat) : ∀ (ps : List (Nat × Operand)) (qs : List Rv) (i : Nat) (st st1 : St) (B : Nat → Nat → Prop) (rows : List (List D)) (cs : Array Value), Sat H N w m B a st →
   ps.map (fun p => (p.1, opn p.2)) = (qs.zipIdx i).map (fun q => (q.2, some q.1)) → cs.size = (i + ps.length) * sz → rowParts st sz qs = some (rows, st1) →
   ∃ cs' vs B1, Instr.fill (fun i => some (i * sz, sz)) cs (ps.map fun p => (p.1, a.eval p.2)) = some cs' ∧ cs'.toList = cs.toList.take (i * sz) ++ vs ∧
     Sat H N w m B1 a st1 ∧ Since w m B st.store w m B1 st1.store ∧ RdL (vw H w B1 st1.ob) rows.flatten vs ∧ (∀ r ∈ rows, r.length = sz) ∧ rows.length = ps.length ∧ st1.n = st.n ∧ st1.sl = st.sl
 | [], [], i, st, st1, B, rows, cs, h, _, hc, e => by
   simp only [rowParts, Option.some.injEq, Prod.mk.injEq] at e
   obtain ⟨rfl, rfl⟩ := e
   refine ⟨cs, [], B, rfl, ?_, h, Since.refl _ _ _ _, trivial, by simp, rfl, rfl, rfl⟩
   rw [List.append_nil, List.take_of_length_le (by simp at hc ⊢; omega)]
 | (j, x) :: ps, r :: qs, i, st, st1, B, rows, cs, h, hf, hc, e => by
   simp only [List.map_cons, List.zipIdx_cons, List.cons.injEq, Prod.mk.injEq] at hf
   obtain ⟨⟨rfl, hp⟩, hf⟩ := hf
   have hx := get_ok h hp
   simp only [rowParts] at e
   cases ec : (r.get st).cells with
   | none => rw [ec] at e; cases e
   | some xs =>
     rw [ec] at e
     simp only at e
     obtain ⟨e1, e3⟩ := Option.ite_none_right_eq_some.1 e
     simp only [Option.bind_eq_some_iff, Option.map_eq_some_iff, Prod.exists, Prod.mk.injEq] at e3
     obtain ⟨ds, st2, e4, rs, st3, e5, rfl, rfl⟩ := e3
     obtain ⟨c1, c2⟩ := cells_ok hx ec
     obtain ⟨B1, h2, s2, r2, n2, l2⟩ := frzL_ok h c1 e4
     have lx := CnL_length c1
     have lr := RdL_length r2
     have hsz : (a.eval x).cells.size = sz := by rw [← Array.length_toList]; omega
     have hsz' : (a.eval x).cells.toList.length = sz := by omega
     simp only [List.length_cons] at hc
     have hc' : j * sz + sz ≤ cs.size := by
       rw [hc, show (j + (ps.length + 1)) * sz = j * sz + sz + ps.length * sz by simp only [Nat.add_mul, Nat.one_mul]; omega]
       omega
     have hsp := splice_vals (a.eval x) (j * sz) cs (by omega)
     obtain ⟨cs', vs, B2, g1, g2, g3, g4, g5, g6, g7, g8, g9⟩ := fillRow_ok sz ps qs (j + 1) st2 st3 B1 rs ((a.eval x).cells.zipIdx.foldl (fun cs (c, k) => cs.setIfInBounds (j * sz + k) c) cs) h2 hf (by
       rw [← Array.length_toList, hsp]
       simp only [List.length_append, List.length_take, List.length_drop, Array.length_toList]
       rw [hsz, show (j + 1 + ps.length) * sz = cs.size by rw [hc]; congr 1; omega]
       omega) e5
     refine ⟨cs', (a.eval x).cells.toList ++ vs, B2, ?_, ?_, g3, s2.trans g4, ?_, ?_, by simp [g7], g8.trans n2, g9.trans l2⟩
     · have hno : ¬ ((decide ((a.eval x).cells.size ≠ sz) || decide (j * sz + (a.eval x).cells.size > cs.size)) = true) := by simp [hsz]; omega
       simp only [List.map_cons, Instr.fill]
       rw [if_neg hno]
       exact g1
     · rw [g2, hsp, ← List.append_assoc]
       congr 1
       have e9 : (j + 1) * sz = (cs.toList.take (j * sz) ++ (a.eval x).cells.toList).length := by
         simp only [List.length_append, List.length_take, Array.length_toList, hsz, Nat.add_mul, Nat.one_mul]
         omega
       rw [e9, List.take_left']
       rfl
     · simp only [List.flatten_cons]
       exact RdL_append (RdL_mono g4.vw _ _ r2) g5
     · intro q hq
       rcases List.mem_cons.1 hq with rfl | hq
       · omega
       · exact g6 q hq
 | [], _ :: _, _, _, _, _, _, _, _, hf, _, _ => by simp at hf
 | _ :: _, [], _, _, _, _, _, _, _, hf, _, _ => by simp at hf
theorem ok_bs (h : Sat H N w m B a st) {d : Nat} (hd : d < N) {t e : TypeId} {n sz : Nat} {z : Value} {ps : Array (Nat × Operand)} {qs : List Rv} (ho : o.op = .buildSlice t n ps) (ht : P.underlying t = some (.slice e)) (hz : (P.info? e).bind (·.zero) = some z)
   (hsz : (P.info? e).map (·.size) = some sz) (hn : n * sz ≤ 2 ^ 24) (hn2 : n ≤ 2 ^ 24) (hpl : ps.size = n) (hq : ps.toList.map (fun p => (p.1, opn p.2)) = qs.zipIdx.map (fun q => (q.2, some q.1)))
   (hs : step T (.bs d e sz qs) st K Kp) : VOk H N XB w m B st.store a d K ((execOp a.eval o).run P w) := by
 simp only [step] at hs
 cases er : rowParts st sz qs with
 | none => rw [er] at hs; exact hs.elim
 | some y =>
   obtain ⟨rows, st1⟩ := y
   rw [er] at hs
   simp only [need_some] at hs
   cases hi : P.info? e with
   | none => rw [hi] at hsz; cases hsz
   | some inf =>
   have hsz0 := hsz
   rw [hi] at hsz
   simp only [Option.map_some, Option.some.injEq] at hsz
   have hszr : (sizeOf e).run P w = .ok sz w := by simp [sizeOf, typeInfo, hi, hsz]
   have key : ∀ cs : Array Value, cs.size = n * sz → ∃ cs' B1, Instr.fill (fun i => some (i * sz, sz)) cs (ps.toList.map fun p => (p.1, a.eval p.2)) = some cs' ∧
       Sat H N w m B1 a st1 ∧ Since w m B st.store w m B1 st1.store ∧ RdL (vw H w B1 st1.ob) rows.flatten cs'.toList ∧ (∀ r ∈ rows, r.length = sz) ∧ rows.length = n := by
     intro cs hcs
     obtain ⟨cs', vs, B1, g1, g2, g3, g4, g5, g6, g7, _⟩ := fillRow_ok sz ps.toList qs 0 st st1 B rows cs h hq (by simp [hpl, hcs]) er
     simp only [Nat.zero_mul, List.take_zero, List.nil_append] at g2
     exact ⟨cs', B1, g1, g3, g4, by rw [g2]; exact g5, g6, by rw [g7]; simpa using hpl⟩
   have h24 : ¬ (n * sz > 16777216) := by have : (2 : Nat) ^ 24 = 16777216 := by decide
                                          omega
   by_cases h0 : n * sz = 0
   · obtain ⟨cs', B1, g1, g3, g4, g5, g6, g7⟩ := key #[] (by simp [h0])
     have hv := new_row (XB := XB) (K := K) (d := d) (cap := n) g3 hd (t := e) (vs := cs') g5 g6 g7 (by omega) hs (r := (execOp a.eval o).run P w) (by
       simp only [execOp, ho, Instr.buildSlice, Sem.run_bind, run_underlying ht, Result.andThen_ok, hszr, h0, h24]
       simp [h0, g1, newRow, g7, Array.range_zero'])
     obtain ⟨v, w', m', B', st', r1, r2, r3, r4, r5⟩ := hv
     exact ⟨v, w', m', B', st', r1, r2, r3, g4.trans r4, r5⟩
   · obtain ⟨cs', B1, g1, g3, g4, g5, g6, g7⟩ := key ((Array.range (n * sz)).map (z.cells[· % z.cells.size]!)) (by simp)
     have hv := new_row (XB := XB) (K := K) (d := d) (cap := n) g3 hd (t := e) (vs := cs') g5 g6 g7 (by omega) hs (r := (execOp a.eval o).run P w) (by
       simp only [execOp, ho, Instr.buildSlice, Sem.run_bind, run_underlying ht, Result.andThen_ok, hszr]
       simp [h0, h24, zero_run hz, g1, newRow, g7])
     obtain ⟨v, w', m', B', st', r1, r2, r3, r4, r5⟩ := hv
     exact ⟨v, w', m', B', st', r1, r2, r3, g4.trans r4, r5⟩
end
end Go.Ev
namespace Go.Ev
open Go
section
variable {G : World → Prop} {H : Hd G} {XB : Nat → Prop} {N : Nat} {w : World} {m : Nat → Value} {B : Nat → Nat → Prop} {a : Act} {st : St}
variable {P : Program} {o : Oper} {T : FuncId → Contract} {K : St → Prop} {Kp : SV → St → Prop}
theorem source_ok (h : SOk H w m B st.store) {x : SV} {v : Value} (hx : Cn m st.n (vw H w B st.ob) x v) {rows : List (List D)} (e : st.rows x = some rows) {sz : Nat} (hr : ∀ r ∈ rows, r.length = sz) :
   ∃ A cap xs, v = .slice A rows.length cap ∧ RdL (vw H w B st.ob) rows.flatten xs ∧ xs.length = rows.length * sz ∧ (∀ j u, xs[j]? = some u → ∃ ad, A = some ad ∧ w.cell? (ad.add j) = some u) := by
 obtain ⟨A, cap, e1, _, _, h4⟩ := rows_ok h hx e
 refine ⟨A, cap, ?_⟩
 have key : ∀ (l : List D) (k : Nat), (∀ j d, l[j]? = some d → ∃ ad u, A = some ad ∧ w.cell? (ad.add (k + j)) = some u ∧ Rd (vw H w B st.ob) d u) → ∃ xs, RdL (vw H w B st.ob) l xs ∧ ∀ j u, xs[j]? = some u → ∃ ad, A = some ad ∧ w.cell? (ad.add (k + j)) = some u := by
   intro l
   induction l with
   | nil => intro k _; exact ⟨[], trivial, by simp⟩
   | cons d ds ih =>
     intro k hl
     obtain ⟨ad, u, e1, e2, e3⟩ := hl 0 d rfl
     obtain ⟨xs, q1, q2⟩ := ih (k + 1) (fun j d' hj => by
       have := hl (j + 1) d' (by simpa using hj)
       rwa [show k + (j + 1) = k + 1 + j by omega] at this)
     refine ⟨u :: xs, ⟨e3, q1⟩, fun j u' hj => ?_⟩
     cases j with
     | zero => simp at hj; subst hj; exact ⟨ad, e1, e2⟩
     | succ j =>
       have := q2 j u' (by simpa using hj)
       rwa [show k + 1 + j = k + (j + 1) by omega] at this
 obtain ⟨xs, q1, q2⟩ := key rows.flatten 0 (fun j d hj => by simpa using h4 j d hj)
 exact ⟨xs, e1, q1, by rw [RdL_length q1, flat_length hr], by simpa using q2⟩
theorem run_append_none {t ty e : TypeId} {i : TypeInfo} (ht : P.underlying t = some (.slice e)) (hi : P.info? e = some i) {v : Value} {n : Nat} {xs : List Value} {sz : Nat} (hown : w.ownsRow 0 e sz v n xs) (cap : Nat) :
   (Builtin.append_ #[t, t] ty #[v, .slice none 0 cap]).run P w = .ok v w := by
 obtain ⟨_, p2⟩ := hown
 rcases p2 with ⟨rfl, rfl⟩ | ⟨g, c, cur, rfl, _, f3, f4, f5, f6, f7⟩
 · simp [Builtin.append_, run_underlying ht, sizeOf, typeInfo, hi, Builtin.lenOf, Builtin.firstCells]
 · simp [Builtin.append_, run_underlying ht, sizeOf, typeInfo, hi, Builtin.lenOf, Builtin.firstCells, f4, storeCells]
theorem app_run {t ty e : TypeId} {i : TypeInfo} {z : Value} {sz bytes : Nat} (ht : P.underlying t = some (.slice e)) (hi : P.info? e = some i) (hz : i.zero = some z) (hsize : i.size = sz) (hby : i.bytes = bytes) (hzs : z.cells.size = sz) (hsz : 0 < sz) (hb0 : 0 < bytes)
   {v : Value} {n : Nat} {xs : List Value} (hown : w.ownsRow 0 e sz v n xs) {A : Option Addr} {k cap : Nat} {news : List Value} (hl : news.length = k * sz) (hA : ∀ j u, news[j]? = some u → ∃ ad, A = some ad ∧ w.cell? (ad.add j) = some u)
   (h1 : ∀ u ∈ news, u.oneCell' = true) (hbytes : (n + k) * bytes ≤ 140737488355328) :
   ∃ v' w', (Builtin.append_ #[t, t] ty #[v, .slice A k cap]).run P w = .ok v' w' ∧ w'.ownsRow 0 e sz v' (n + k) (xs ++ news) ∧ w.grownBy w' v.ownBlock ∧ (v'.ownBlock = v.ownBlock ∨ v'.ownBlock = some w.heap.size) := by
 have hm : maxLen = 9223372036854775807 := by decide
 have hnk : n + k ≤ 140737488355328 := Nat.le_trans (Nat.le_mul_of_pos_right _ hb0) hbytes
 cases A with
 | some ad =>
   obtain ⟨v', w', r1, r2, r3, _, r5⟩ := run_append_own_at (P := P) (w := w) 0 t ty e i z sz bytes ht hi hz hsize hby hzs hsz v n xs hown ad k cap news hl (fun j u hj => by
     obtain ⟨ad', e1, e2⟩ := hA j u hj
     cases e1; exact e2) h1 (by omega) hbytes (Nat.zero_le _)
   exact ⟨v', w', r1, r2, r3, r5⟩
 | none =>
   have hn : news = [] := by
     cases news with
     | nil => rfl
     | cons u r => obtain ⟨ad, e1, _⟩ := hA 0 u rfl; cases e1
   subst hn
   have hk : k = 0 := by
     rcases Nat.mul_eq_zero.1 (show k * sz = 0 by simpa using hl.symm) with h | h
     · exact h
     · omega
   subst hk
   exact ⟨v, w, run_append_none ht hi hown cap, by simpa using hown, ⟨rfl, rfl, rfl, Nat.le_refl _, fun _ _ _ => rfl⟩, .inl rfl⟩
theorem ok_ap (h : Sat H N w m B a st) {d : Nat} (hd : d < N) {t e : TypeId} {i : TypeInfo} {z : Value} {sz bytes : Nat} {x y : Operand} {r q : Rv} (ho : o.op = .call { callee := .builtin .append, args := #[x, y], argTypes := #[t, t] }) (hx : opn x = some r) (hy : opn y = some q)
   (ht : P.underlying t = some (.slice e)) (hi : P.info? e = some i) (hz : i.zero = some z) (hsize : i.size = sz) (hby : i.bytes = bytes) (hzs : z.cells.size = sz) (hsz : 0 < sz) (hb0 : 0 < bytes)
   (hXB : ∀ o', r.get st = .own o' → ∀ y b, lk st.ob o' = some y → y.has = true → B o' b → XB b)
   (hs : step T (.ap d e sz bytes r q) st K Kp) : VOk H N XB w m B st.store a d K ((execOp a.eval o).run P w) := by
 have h1 := get_ok h hx
 have h2 := get_ok h hy
 simp only [step] at hs
 cases ey : st.rows (q.get st) with
 | none => rw [ey] at hs; exact hs.elim
 | some ys =>
   rw [ey] at hs
   simp only [need_some] at hs
   obtain ⟨hr, hs⟩ := hs
   obtain ⟨A, cap, news, e1, q1, q2, q3⟩ := source_ok h.store h2 ey hr
   have hex : ∀ v w', (Builtin.append_ #[t, t] o.type #[a.eval x, a.eval y]).run P w = .ok v w' → (execOp a.eval o).run P w = .ok (.value v) w' := by
     intro v w' hv
     simp only [execOp, ho, resolve, invoke, builtin, Sem.run_bind, Sem.run_pure, Result.andThen_ok]
     have : (Array.map a.eval #[x, y]) = #[a.eval x, a.eval y] := by simp
     rw [this, hv]; rfl
   split at hs
   · -- onto an own row
     rename_i o' ex
     rw [ex] at h1
     simp only [Cn] at h1
     obtain ⟨h3, h4, _⟩ := h1
     split at hs
     · rename_i t' sz' rows hl
       obtain ⟨⟨rfl, rfl, hb⟩, hs⟩ := hs
       obtain ⟨xs, p1, p2, p3, p4⟩ := h.store.obs o' _ hl
       obtain ⟨v', w1, r1, r2, r3, r4⟩ := app_run (P := P) (w := w) (t := t) (ty := o.type) ht hi hz hsize hby hzs hsz hb0 p1 (A := A) (k := ys.length) (cap := cap) q2 q3 (RdL_one q1) hb
       have hmv := SOk.mv (w1 := w1) h.store o' _ (.row t' sz' (rows ++ ys)) hl rfl v' (fun b => v'.ownBlock = some b) r3.os r3.tape r3.output r3.size (fun b hb hno => r3.block b hb (fun e => hno ((p4 b).2 e.symm)))
         (fun b _ hb => by
           have hlt := (r2.lt b hb).2
           refine ⟨hlt, ?_⟩
           rcases r4 with r4 | r4
           · rw [r4] at hb; exact .inl ((p4 b).2 hb)
           · rw [r4] at hb; cases hb; exact .inr (Nat.le_refl _)) (fun c hc1 _ => by
           refine ⟨xs ++ news, ?_, ?_, ?_, ?_⟩
           · simpa using r2
           · rw [List.flatten_append]; exact RdL_append (RdL_mono hc1 _ _ p2) (RdL_mono hc1 _ _ q1)
           · intro z hz
             rcases List.mem_append.1 hz with hz | hz
             · exact p3 z hz
             · exact hr z hz
           · intro b; simp)
       obtain ⟨hS, hO⟩ := hmv
       refine ⟨v', w1, _, _, _, hex _ _ (by rw [h4, e1]; exact r1), hs, Sat.put ⟨h.size, h.defers.since hS, h.slots.since hS, hO⟩ hd ?_, hS, fun b hb hno => r3.block b hb fun e => hno (hXB o' ex _ b hl rfl ((p4 b).2 e.symm))⟩
       simp only [Cn, St.newO, St.setO]
       refine ⟨by omega, by simp [St.store], ?_⟩
       obtain ⟨_, f⟩ := r2
       rcases f with ⟨rfl, _⟩ | ⟨_, _, _, rfl, _⟩ <;> rfl
     · exact hs.elim
   · -- onto nil
     rename_i ex
     rw [ex] at h1
     obtain ⟨hb, hs⟩ := hs
     obtain ⟨v', w1, r1, r2, r3, r4⟩ := app_run (P := P) (w := w) (t := t) (ty := o.type) ht hi hz hsize hby hzs hsz hb0 (World.ownsRow_nil w 0 e sz) (A := A) (k := ys.length) (cap := cap) q2 q3 (RdL_one q1) (by simpa using hb)
     have hadd := SOk.add (w1 := w1) h.store (.row e sz ys) v' (fun b => v'.ownBlock = some b) r3.os r3.tape r3.output r3.size (fun b hb => r3.block b hb (by simp [Value.ownBlock]))
       (fun b _ hb => by
         have hlt := (r2.lt b hb).2
         rcases r4 with r4 | r4
         · rw [r4] at hb; cases hb
         · rw [r4] at hb; cases hb; exact ⟨Nat.le_refl _, hlt⟩) (fun c hc => by
         refine ⟨news, ?_, RdL_mono hc _ _ q1, hr, ?_⟩
         · simpa using r2
         · intro b; simp)
     obtain ⟨hS, hO⟩ := hadd
     refine ⟨v', w1, _, _, _, hex _ _ (by rw [of_v h1, e1]; exact r1), hs, Sat.put ⟨h.size, h.defers.since hS, h.slots.since hS, hO⟩ hd ?_, hS, fun b hb _ => r3.block b hb (by simp [Value.ownBlock])⟩
     simp only [Cn, St.newO]
     refine ⟨by omega, by simp [St.store], ?_⟩
     obtain ⟨_, f⟩ := r2
     rcases f with ⟨rfl, _⟩ | ⟨_, _, _, rfl, _⟩ <;> rfl
   · exact hs.elim
theorem ok_slr (h : Sat H N w m B a st) {d : Nat} (hd : d < N) {t e : TypeId} {sz : Nat} {x : Operand} {lo hi : Option Operand} {r : Rv} {rl rh : Option Rv} (ho : o.op = .slice t x lo hi none) (hx : opn x = some r)
   (hl : lo.bind opn = rl) (hln : lo.isSome = rl.isSome) (hh : hi.bind opn = rh) (hhn : hi.isSome = rh.isSome) (ht : P.underlying t = some (.slice e)) (hz : (P.info? e).map (·.size) = some sz)
   (hs : step T (.slr d sz r rl rh) st K Kp) : VOk H N XB w m B st.store a d K ((execOp a.eval o).run P w) := by
 have h1 := get_ok h hx
 cases hi' : P.info? e with
 | none => rw [hi'] at hz; cases hz
 | some inf =>
 rw [hi'] at hz
 simp only [Option.map_some, Option.some.injEq] at hz
 have hszr : (sizeOf e).run P w = .ok sz w := by simp [sizeOf, typeInfo, hi', hz]
 simp only [step] at hs
 cases ef : st.frz (r.get st) with
 | none => rw [ef] at hs; exact hs.elim
 | some y =>
   obtain ⟨yd, st1⟩ := y
   rw [ef] at hs
   simp only [need_some] at hs
   obtain ⟨B1, g1, g2, g3, g4, g5⟩ := frz_ok h h1 ef
   split at hs
   · rename_i rows
     cases e2 : optInt st 0 rl with
     | none => rw [e2] at hs; exact hs.elim
     | some l =>
       cases e3 : optInt st rows.length rh with
       | none => rw [e2, e3] at hs; exact hs.elim
       | some u =>
         rw [e2, e3] at hs
         obtain ⟨⟨b0, b1, b2⟩, hr, hs⟩ := hs
         simp only [Rd] at g3
         obtain ⟨A, cap, ev, c1, c2, c3⟩ := g3
         have hb := run_bounds_ok (P := P) (a := a) w true rows.length cap lo hi l u (optInt_ok h hl hln e2) (optInt_ok h hh hhn e3) b0 b1 b2 c1
         have hlen : ((rows.take u.toNat).drop l.toNat).length = u.toNat - l.toNat := by rw [List.length_drop, List.length_take]; omega
         refine ⟨.slice (if cap = l.toNat then A else A.map (·.add (l.toNat * sz))) (u.toNat - l.toNat) (cap - l.toNat), w, m, B1, _, ?_, hs, g1.put hd ?_, g2, fun _ _ _ => rfl⟩
         · simp [execOp, ho, ev, Instr.sliceAt, Instr.slice, run_underlying ht, hb, hszr]
         · simp only [Cn, Rd]
           rw [hlen]
           refine ⟨_, _, rfl, by omega, by omega, ?_⟩
           by_cases hc : cap = l.toNat
           · left
             apply List.length_eq_zero_iff.1
             rw [hlen]; omega
           · rcases c3 with rfl | ⟨ad, sz', rfl, csp, c3⟩
             · left; simp
             · cases rows with
               | nil => left; simp
               | cons r0 rs =>
                 have hsz' : sz' = sz := by
                   have h8 := (RdRows_get (i := 0) c3 rfl).1
                   have h9 := hr r0 (by simp)
                   omega
                 subst hsz'
                 right
                 refine ⟨ad.add (l.toNat * sz'), sz', by rw [if_neg hc]; rfl, add_spot csp _, ?_⟩
                 have := RdRows_drop l.toNat (RdRows_take u.toNat c3)
                 rw [Nat.zero_add] at this
                 exact RdRows_at (by rw [Nat.add_zero]; exact this)
   · exact hs.elim
theorem ok_slrT (h : Sat H N w m B a st) {d : Nat} {t e : TypeId} {sz : Nat} {x : Operand} {lo hi : Option Operand} {r : Rv} {rl rh : Option Rv} (ho : o.op = .slice t x lo hi none) (hx : opn x = some r)
   (hl : lo.bind opn = rl) (hln : lo.isSome = rl.isSome) (hh : hi.bind opn = rh) (hhn : hi.isSome = rh.isSome) (ht : P.underlying t = some (.slice e)) (hz : (P.info? e).map (·.size) = some sz)
   (hs : step T (.slr d sz r rl rh) st K Kp) :
   ∃ st1 B1 x v, K (st1.put d x) ∧ Sat H N w m B1 a st1 ∧ Since w m B st.store w m B1 st1.store ∧ Cn m st1.n (vw H w B1 st1.ob) x v ∧ ∀ w' : World, (execOp a.eval o).run P w' = .ok (.value v) w' := by
 have h1 := get_ok h hx
 cases hi' : P.info? e with
 | none => rw [hi'] at hz; cases hz
 | some inf =>
 rw [hi'] at hz
 simp only [Option.map_some, Option.some.injEq] at hz
 have hszr : ∀ w' : World, (sizeOf e).run P w' = .ok sz w' := fun w' => by simp [sizeOf, typeInfo, hi', hz]
 simp only [step] at hs
 cases ef : st.frz (r.get st) with
 | none => rw [ef] at hs; exact hs.elim
 | some y =>
   obtain ⟨yd, st1⟩ := y
   rw [ef] at hs
   simp only [need_some] at hs
   obtain ⟨B1, g1, g2, g3, g4, g5⟩ := frz_ok h h1 ef
   split at hs
   · rename_i rows
     cases e2 : optInt st 0 rl with
     | none => rw [e2] at hs; exact hs.elim
     | some l =>
       cases e3 : optInt st rows.length rh with
       | none => rw [e2, e3] at hs; exact hs.elim
       | some u =>
         rw [e2, e3] at hs
         obtain ⟨⟨b0, b1, b2⟩, hr, hs⟩ := hs
         simp only [Rd] at g3
         obtain ⟨A, cap, ev, c1, c2, c3⟩ := g3
         have hb := fun w' : World => run_bounds_ok (P := P) (a := a) w' true rows.length cap lo hi l u (optInt_ok h hl hln e2) (optInt_ok h hh hhn e3) b0 b1 b2 c1
         have hlen : ((rows.take u.toNat).drop l.toNat).length = u.toNat - l.toNat := by rw [List.length_drop, List.length_take]; omega
         refine ⟨_, B1, _, .slice (if cap = l.toNat then A else A.map (·.add (l.toNat * sz))) (u.toNat - l.toNat) (cap - l.toNat), hs, g1, g2, ?_, fun w' => ?_⟩
         rotate_left
         · simp [execOp, ho, ev, Instr.sliceAt, Instr.slice, run_underlying ht, hb w', hszr w']
         · simp only [Cn, Rd]
           rw [hlen]
           refine ⟨_, _, rfl, by omega, by omega, ?_⟩
           by_cases hc : cap = l.toNat
           · left
             apply List.length_eq_zero_iff.1
             rw [hlen]; omega
           · rcases c3 with rfl | ⟨ad, sz', rfl, csp, c3⟩
             · left; simp
             · cases rows with
               | nil => left; simp
               | cons r0 rs =>
                 have hsz' : sz' = sz := by
                   have h8 := (RdRows_get (i := 0) c3 rfl).1
                   have h9 := hr r0 (by simp)
                   omega
                 subst hsz'
                 right
                 refine ⟨ad.add (l.toNat * sz'), sz', by rw [if_neg hc]; rfl, add_spot csp _, ?_⟩
                 have := RdRows_drop l.toNat (RdRows_take u.toNat c3)
                 rw [Nat.zero_add] at this
                 exact RdRows_at (by rw [Nat.add_zero]; exact this)
   · exact hs.elim
theorem app_str {t u ty e : TypeId} {i : TypeInfo} (ht : P.underlying t = some (.slice e)) (hu : P.underlying u = some .string) (hi : P.info? e = some i) (hz : i.zero = some (.int .u8 0)) (hsize : i.size = 1) (hby : i.bytes = 1)
   {v : Value} {n : Nat} {xs : List Value} (hown : w.ownsRow 0 e 1 v n xs) (s : ByteArray) (hb : n + s.size ≤ 140737488355328) :
   ∃ v' w', (Builtin.append_ #[t, u] ty #[v, .string s]).run P w = .ok v' w' ∧ w'.ownsRow 0 e 1 v' (n + s.size) (xs ++ Lib.strCells s) ∧ w.grownBy w' v.ownBlock ∧ (v'.ownBlock = v.ownBlock ∨ ∃ x, v'.ownBlock = some x ∧ w.heap.size ≤ x) := by
 have hm : maxLen = 9223372036854775807 := by decide
 obtain ⟨v', w', h1, h2, h3, h4⟩ := Lib.run_append_own_string (P := P) (w := w) 0 t u ty e i ht hu hi hz hsize hby v n xs hown s (by omega) hb (Nat.zero_le _)
 refine ⟨v', w', h1, h2, h3, ?_⟩
 obtain ⟨p1, p2⟩ := hown
 rcases p2 with ⟨rfl, rfl⟩ | ⟨g, cap, cur, rfl, _, f3, f4, f5, f6, f7⟩
 · have hx : xs = [] := List.eq_nil_of_length_eq_zero (by simpa using p1)
   subst hx
   obtain ⟨v2, w2, k1, k2, k3, k4⟩ := Lib.run_append_own_string (P := P) (w := w) w.heap.size t u ty e i ht hu hi hz hsize hby _ 0 [] (World.ownsRow_nil w _ e 1) s (by omega) hb (Nat.le_refl _)
   rw [h1] at k1
   simp only [Result.ok.injEq] at k1
   obtain ⟨rfl, rfl⟩ := k1
   rcases k2.2 with ⟨rfl, _⟩ | ⟨g, cap, cur, rfl, hg, _⟩
   · exact .inl rfl
   · exact .inr ⟨g, rfl, hg⟩
 · by_cases hr : n + s.size ≤ cap
   · have := Lib.run_append_room_string (P := P) (w := w) t u ty e i ht hu hi hsize g n cap cur f3 s hr (by omega)
     rw [h1] at this
     simp only [Result.ok.injEq] at this
     obtain ⟨rfl, _⟩ := this
     exact .inl rfl
   · have := Lib.run_append_grow_string (P := P) (w := w) t u ty e i _ ht hu hi hz ⟨g, 0, none⟩ n cap xs (by rw [hsize]; exact p1) (World.ownsRow.cells (g := g) ⟨p1, .inr ⟨g, cap, cur, rfl, Nat.zero_le _, f3, f4, f5, f6, f7⟩⟩ rfl) s (by omega) (by omega) (by rw [hby]; exact growslice_fits (by omega) (by omega))
     rw [h1] at this
     simp only [Result.ok.injEq] at this
     obtain ⟨rfl, _⟩ := this
     exact .inr ⟨_, rfl, Nat.le_refl _⟩
theorem byteRows_all (l : List UInt8) : ∀ r ∈ byteRows l, r.length = 1 := by
 intro r hr
 simp only [byteRows, List.mem_map] at hr
 obtain ⟨b, _, rfl⟩ := hr; rfl
theorem byteRows_flat {c : Rdr} : ∀ l : List UInt8, RdL c (byteRows l).flatten (l.map fun b => Value.int .u8 b.toNat)
 | [] => trivial
 | b :: l => ⟨⟨rfl, rfl⟩, byteRows_flat l⟩
theorem ok_aps (h : Sat H N w m B a st) {d : Nat} (hd : d < N) {t u e : TypeId} {i : TypeInfo} {x y : Operand} {r q : Rv} (ho : o.op = .call { callee := .builtin .append, args := #[x, y], argTypes := #[t, u] }) (hx : opn x = some r) (hy : opn y = some q)
   (ht : P.underlying t = some (.slice e)) (hu : P.underlying u = some .string) (hi : P.info? e = some i) (hz : i.zero = some (.int .u8 0)) (hsize : i.size = 1) (hby : i.bytes = 1)
   (hXB : ∀ o', r.get st = .own o' → ∀ y b, lk st.ob o' = some y → y.has = true → B o' b → XB b)
   (hs : step T (.aps d e r q) st K Kp) : VOk H N XB w m B st.store a d K ((execOp a.eval o).run P w) := by
 have h1 := get_ok h hx
 have h2 := get_ok h hy
 simp only [step] at hs
 split at hs
 · rename_i s ey
   rw [ey] at h2
   have e1 := of_v h2
   split at hs
   · rename_i o' ex
     rw [ex] at h1
     simp only [Cn] at h1
     obtain ⟨h3, h4, _⟩ := h1
     split at hs
     · rename_i t' sz' rows hl
       obtain ⟨⟨rfl, rfl, hb⟩, hs⟩ := hs
       obtain ⟨xs, p1, p2, p3, p4⟩ := h.store.obs o' _ hl
       obtain ⟨v', w1, r1, r2, r3, r4⟩ := app_str (P := P) (w := w) (t := t) (u := u) (ty := o.type) ht hu hi hz hsize hby p1 s hb
       have hsz : (byteRows s.data.toList).length = s.size := by simp only [byteRows, List.length_map, Array.length_toList]; rfl
       have hmv := SOk.mv (w1 := w1) h.store o' _ (.row t' 1 (rows ++ byteRows s.data.toList)) hl rfl v' (fun b => v'.ownBlock = some b) r3.os r3.tape r3.output r3.size (fun b hb hno => r3.block b hb (fun e => hno ((p4 b).2 e.symm)))
         (fun b _ hb => by
           have hlt := (r2.lt b hb).2
           refine ⟨hlt, ?_⟩
           rcases r4 with r4 | ⟨y, r4, r5⟩
           · rw [r4] at hb; exact .inl ((p4 b).2 hb)
           · rw [r4] at hb; cases hb; exact .inr r5) (fun c hc1 _ => by
           refine ⟨xs ++ Lib.strCells s, ?_, ?_, ?_, ?_⟩
           · simp only [if_true, List.length_append, hsz]; exact r2
           · rw [List.flatten_append]; exact RdL_append (RdL_mono hc1 _ _ p2) (byteRows_flat _)
           · intro z hz
             rcases List.mem_append.1 hz with hz | hz
             · exact p3 z hz
             · exact byteRows_all _ z hz
           · intro b; simp)
       obtain ⟨hS, hO⟩ := hmv
       refine ⟨v', w1, _, _, _, ?_, hs, Sat.put ⟨h.size, h.defers.since hS, h.slots.since hS, hO⟩ hd ?_, hS, fun b hb hno => r3.block b hb fun e => hno (hXB o' ex _ b hl rfl ((p4 b).2 e.symm))⟩
       · simp only [execOp, ho, resolve, invoke, builtin, Sem.run_bind, Sem.run_pure, Result.andThen_ok]
         have : (Array.map a.eval #[x, y]) = #[m o', .string s] := by simp [h4, e1]
         rw [this, r1]; rfl
       · simp only [Cn, St.newO, St.setO]
         refine ⟨by omega, by simp [St.store], ?_⟩
         obtain ⟨_, f⟩ := r2
         rcases f with ⟨rfl, _⟩ | ⟨_, _, _, rfl, _⟩ <;> rfl
     · exact hs.elim
   · exact hs.elim
 · exact hs.elim
def nilT (P : Program) (op : BinOp) (t : TypeId) (y : Operand) : Option (Bool × Bool) := match op, P.underlying t, y with
 | .eql, some (.interface _), .const .nilIface => some (false, true)
 | .neq, some (.interface _), .const .nilIface => some (true, true)
 | .eql, some (.pointer _), .const (.pointer none) => some (false, false)
 | .neq, some (.pointer _), .const (.pointer none) => some (true, false)
 | _, _, _ => none
theorem eqnil_ptr {P : Program} {t e : TypeId} (hu : P.underlying t = some (.pointer e)) (p : Option Addr) (w : World) : (Op.equal t (.pointer p) (.pointer none)).run P w = .ok p.isNone w := run_equal_pointer_nil w t p (by rw [hu]; simp [Program.pointee, hu])
theorem eqnil_held {P : Program} {t : TypeId} {ms : Array (String × TypeId)} (hu : P.underlying t = some (.interface ms)) (u : TypeId) (x : Value) (w : World) : (Op.equal t (.iface u x) .nilIface).run P w = .ok false w := run_equal_held_nil w t u x (by rw [hu]; simp [Program.methodsAt, hu])
theorem eqnil_nil {P : Program} {t : TypeId} {ms : Array (String × TypeId)} (hu : P.underlying t = some (.interface ms)) (w : World) : (Op.equal t .nilIface .nilIface).run P w = .ok true w := run_equal_nil_nil w t (by rw [hu]; simp [Program.methodsAt, hu])
theorem evalC (a : Act) (c : Value) : a.eval (.const c) = c := rfl
theorem ok_isnil (h : Sat H N w m B a st) {d : Nat} (hd : d < N) {op : BinOp} {t t' : TypeId} {x y : Operand} {r : Rv} {nn : Bool × Bool} (ho : o.op = .binOp op t x y t') (hx : opn x = some r) (hn : nilT P op t y = some nn)
   (hs : step T (.isnil d nn.1 nn.2 r) st K Kp) : PV m st.n (vw H w B st.ob) P o a d K st := by
 have h1 := get_ok h hx
 simp only [step] at hs
 cases e : nilV nn.2 (r.get st) with
 | none => rw [e] at hs; exact hs.elim
 | some b =>
   rw [e] at hs
   simp only [need_some] at hs
   refine PV.pure (v := .bool (cond nn.1 (!b) b)) h hd (Cn_v rfl) hs fun w => ?_
   unfold nilT at hn
   unfold nilV at e
   split at hn <;> simp only [Option.some.injEq, reduceCtorEq] at hn <;> subst hn <;> rename_i hu
   all_goals
     split at e <;> simp only [Option.some.injEq, reduceCtorEq, Bool.true_eq_false, Bool.false_eq_true] at e <;> subst e <;> rename_i hr <;> rw [hr] at h1 <;> simp only [Cn, Rd] at h1
   all_goals first | contradiction | skip
   all_goals first
     | (obtain ⟨_, b', _, e⟩ := h1; simp [execOp, ho, evalC, e, eqGuard, binOp, eqnil_ptr hu]; done)
     | (obtain ⟨b', e, _⟩ := h1; simp [execOp, ho, evalC, e, eqGuard, binOp, eqnil_ptr hu]; done)
     | (obtain ⟨b', e, _⟩ := h1; simp [execOp, ho, evalC, e, eqGuard, binOp, eqnil_held hu]; done)
     | (obtain ⟨e, _⟩ := h1; simp [execOp, ho, e, evalC, eqGuard, binOp, eqnil_ptr hu]; done)
     | (obtain ⟨e, _⟩ := h1; simp [execOp, ho, e, evalC, eqGuard, binOp, eqnil_nil hu]; done)
def kindT (P : Program) (t : TypeId) : Option Nat := match P.underlying t with
 | some (.int _) => some 0
 | some .string => some 1
 | some .bool => some 2
 | _ => none
def kindsT (P : Program) : List Field → Nat → Option (List Nat)
 | [], _ => some []
 | f :: fs, i => if (f.name != "_" && f.offset == i && (P.info? f.type).map (·.size) == some 1) = true then (kindT P f.type).bind fun k => (kindsT P fs (i + 1)).map (k :: ·) else none
def eqT (P : Program) (op : BinOp) (t : TypeId) : Option (Bool × List Nat) := match P.underlying t with
 | some (.struct fs) => if (P.stoodInHeld t == false && P.eqGuardType P.depth t == false) = true then match op with
     | .eql => (kindsT P fs.toList 0).map fun ks => (false, ks)
     | .neq => (kindsT P fs.toList 0).map fun ks => (true, ks)
     | _ => none
   else none
 | some (.array len e) => if ((P.info? e).map (·.size) == some 1 && P.eqGuardType P.depth t == false) = true then match op with
     | .eql => (kindT P e).map fun k => (false, List.replicate len k)
     | .neq => (kindT P e).map fun k => (true, List.replicate len k)
     | _ => none
   else none
 | _ => none
theorem eqv_run {k : Nat} {t : TypeId} {c : Rdr} {n : Nat} {x y : SV} {u v : Value} {b : Bool} (hk : kindT P t = some k) (hx : Cn m n c x u) (hy : Cn m n c y v) (e : eqv k x y = some b) (d : Nat) (w : World) : (Op.equalIn (d + 1) t u v).run P w = .ok b w := by
 unfold eqv at e
 unfold kindT at hk
 split at e
 · obtain ⟨e3, e4⟩ := Option.ite_none_right_eq_some.1 e
   clear e
   subst e3
   obtain rfl := Option.some.inj e4
   split at hk <;> simp at hk
   rename_i hu
   rw [of_v hx, of_v hy, run_equalIn_int w d t _ _ _ _ hu]
   congr 1
 · obtain rfl := Option.some.inj e
   split at hk <;> simp at hk
   rename_i hu
   rw [of_v hx, of_v hy, run_equalIn_string w d t _ _ hu, bytes_eq]
 · obtain rfl := Option.some.inj e
   split at hk <;> simp at hk
   rename_i hu
   rw [of_v hx, of_v hy, run_equalIn_bool' w d t _ _ hu]
 · cases e
theorem eqL_run {c : Rdr} {n : Nat} {xs ys : Array Value} (d : Nat) (w : World) : ∀ {fs : List Field} {i : Nat} {ks : List Nat} {l l' : List SV} {b : Bool}, kindsT P fs i = some ks → CnL m n c l (xs.toList.drop i) → CnL m n c l' (ys.toList.drop i) → eqL ks l l' = some b →
   (Op.eqFields (d + 1) xs ys fs).run P w = .ok b w
 | [], i, ks, l, l', b, hk, _, _, e => by
   simp only [kindsT, Option.some.injEq] at hk; subst hk
   simp only [eqL, Option.some.injEq] at e; subst e
   simp [Op.eqFields]
 | f :: fs, i, ks, l, l', b, hk, hx, hy, e => by
   simp only [kindsT] at hk
   obtain ⟨hc, hk⟩ := Option.ite_none_right_eq_some.1 hk
   obtain ⟨k, hk1, hk⟩ := Option.bind_eq_some_iff.1 hk
   obtain ⟨ks', hk2, rfl⟩ := Option.map_eq_some_iff.1 hk
   simp only [Bool.and_eq_true, bne_iff_ne, ne_eq, beq_iff_eq] at hc
   obtain ⟨⟨c1, c2⟩, c3⟩ := hc
   cases l with
   | nil => simp [eqL] at e
   | cons x l =>
     cases l' with
     | nil => simp [eqL] at e
     | cons y l' =>
       simp only [eqL, Option.bind_eq_some_iff, Option.map_eq_some_iff] at e
       obtain ⟨p, e1, q, e2, rfl⟩ := e
       have gx : ∃ u, xs[i]? = some u ∧ Cn m n c x u ∧ CnL m n c l (xs.toList.drop (i + 1)) := by
         cases hd : xs.toList.drop i with
         | nil => rw [hd] at hx; simp [CnL] at hx
         | cons u us =>
           rw [hd] at hx
           simp only [CnL] at hx
           refine ⟨u, ?_, hx.1, ?_⟩
           · have := congrArg (·[0]?) hd
             simpa [List.getElem?_drop] using this
           · have : xs.toList.drop (i + 1) = us := by rw [← List.drop_drop, hd]; rfl
             rw [this]; exact hx.2
       have gy : ∃ u, ys[i]? = some u ∧ Cn m n c y u ∧ CnL m n c l' (ys.toList.drop (i + 1)) := by
         cases hd : ys.toList.drop i with
         | nil => rw [hd] at hy; simp [CnL] at hy
         | cons u us =>
           rw [hd] at hy
           simp only [CnL] at hy
           refine ⟨u, ?_, hy.1, ?_⟩
           · have := congrArg (·[0]?) hd
             simpa [List.getElem?_drop] using this
           · have : ys.toList.drop (i + 1) = us := by rw [← List.drop_drop, hd]; rfl
             rw [this]; exact hy.2
       obtain ⟨u, u1, u2, u3⟩ := gx
       obtain ⟨v, v1, v2, v3⟩ := gy
       have hagg : (isAgg f.type).run P w = .ok false w := by
         unfold kindT at hk1
         split at hk1 <;> first | (rename_i hu; simp [isAgg, run_underlying hu]) | cases hk1
       have pa : ∀ {zs : Array Value} {z : Value}, zs[i]? = some z → (part f.type zs f.offset).run P w = .ok z w := fun {zs z} hz => by simp [part, hagg, c2, hz]
       have ih := eqL_run d w hk2 u3 v3 e2
       simp only [Op.eqFields, c1, not_false_eq_true, ne_eq, if_true, Sem.run_bind, pa u1, pa v1, Result.andThen_ok, eqv_run hk1 u2 v2 e1 d w]
       cases p
       · simp
       · simp [ih]
theorem cnl_at {c : Rdr} {n : Nat} {xs : Array Value} {i : Nat} {x : SV} {l : List SV} (hx : CnL m n c (x :: l) (xs.toList.drop i)) : ∃ u, xs[i]? = some u ∧ Cn m n c x u ∧ CnL m n c l (xs.toList.drop (i + 1)) := by
 cases hd : xs.toList.drop i with
 | nil => rw [hd] at hx; simp [CnL] at hx
 | cons u us =>
   rw [hd] at hx
   simp only [CnL] at hx
   refine ⟨u, ?_, hx.1, ?_⟩
   · have := congrArg (·[0]?) hd
     simpa [List.getElem?_drop] using this
   · have : xs.toList.drop (i + 1) = us := by rw [← List.drop_drop, hd]; rfl
     rw [this]; exact hx.2
theorem eqE_run {c : Rdr} {n : Nat} {xs ys : Array Value} (d : Nat) (w : World) {e : TypeId} {k : Nat} (hk : kindT P e = some k) : ∀ (cnt i : Nat) (l l' : List SV) (b : Bool), CnL m n c l (xs.toList.drop i) → CnL m n c l' (ys.toList.drop i) → eqL (List.replicate cnt k) l l' = some b →
   (Sem.run P (forIn (List.range' i cnt) ((none : Option Bool), ()) fun i _ => do
       let x ← part e xs (i * 1)
       let y ← part e ys (i * 1)
       let q ← Op.equalIn (d + 1) e x y
       if (!q) = true then pure (ForInStep.done (some false, ())) else pure (ForInStep.yield (none, ())) : Sem (Option Bool × Unit)) w).andThen (fun a w' => Sem.run P (match a.fst with | some r => pure r | none => pure true) w') = .ok b w
 | 0, i, l, l', b, _, _, e0 => by
   simp only [List.replicate_zero, eqL, Option.some.injEq] at e0; subst e0
   simp
 | cnt + 1, i, l, l', b, hx, hy, e0 => by
   rw [List.replicate_succ] at e0
   cases l with
   | nil => simp [eqL] at e0
   | cons x l =>
     cases l' with
     | nil => simp [eqL] at e0
     | cons y l' =>
       simp only [eqL, Option.bind_eq_some_iff, Option.map_eq_some_iff] at e0
       obtain ⟨p, e1, q, e2, rfl⟩ := e0
       obtain ⟨u, u1, u2, u3⟩ := cnl_at hx
       obtain ⟨v, v1, v2, v3⟩ := cnl_at hy
       have hagg : (isAgg e).run P w = .ok false w := by
         unfold kindT at hk
         split at hk <;> first | (rename_i hu; simp [isAgg, run_underlying hu]) | cases hk
       have pa : ∀ {zs : Array Value} {z : Value}, zs[i]? = some z → (part e zs (i * 1)).run P w = .ok z w := fun {zs z} hz => by simp [part, hagg, hz]
       have ih := eqE_run d w hk cnt (i + 1) l l' q u3 v3 e2
       rw [List.range'_succ, List.forIn_cons]
       simp only [Sem.run_bind, pa u1, pa v1, Result.andThen_ok, eqv_run hk u2 v2 e1 d w]
       cases p
       · simp
       · simpa using ih
theorem ok_eqa (h : Sat H N w m B a st) {d : Nat} (hd : d < N) {op : BinOp} {t t' : TypeId} {x y : Operand} {r q : Rv} {ks : Bool × List Nat} (ho : o.op = .binOp op t x y t') (hx : opn x = some r) (hy : opn y = some q) (hk : eqT P op t = some ks)
   (hs : step T (.eqa d ks.1 ks.2 r q) st K Kp) : PV m st.n (vw H w B st.ob) P o a d K st := by
 have h1 := get_ok h hx
 have h2 := get_ok h hy
 simp only [step] at hs
 cases e : eqA ks.2 (r.get st) (q.get st) with
 | none => rw [e] at hs; exact hs.elim
 | some b =>
   rw [e] at hs
   simp only [need_some] at hs
   refine PV.pure (v := .bool (cond ks.1 (!b) b)) h hd (Cn_v rfl) hs fun w => ?_
   unfold eqA at e
   split at e
   · rename_i l l' e1 e2
     rw [e1] at h1; rw [e2] at h2
     simp only [Cn] at h1 h2
     obtain ⟨xs, f1, f2, _⟩ := h1
     obtain ⟨ys, g1, g2, _⟩ := h2
     unfold eqT at hk
     split at hk
     · rename_i fs hu
       obtain ⟨hc, hk⟩ := Option.ite_none_right_eq_some.1 hk
       simp only [Bool.and_eq_true, beq_iff_eq] at hc
       have hfs : P.fieldsOf t = fs := by simp [Program.fieldsOf, hu]
       have run : ∀ ks', kindsT P fs.toList 0 = some ks' → ks' = ks.2 → (Op.equalIn 10000 t (.agg xs) (.agg ys)).run P w = .ok b w := fun ks' hks e' => by
         subst e'
         rw [run_equalIn_agg w 9999 t xs ys (by rw [hfs, hu]) hc.1, hfs]
         exact eqL_run 9998 w hks (by simpa using f2) (by simpa using g2) e
       split at hk
       · obtain ⟨ks', k1, k2⟩ := Option.map_eq_some_iff.1 hk
         have := run ks' k1 (by rw [← k2])
         simp only [execOp, ho, f1, g1, Sem.run_bind, run_eqGuard_agg w _ t x y xs ys hc.2, Result.andThen_ok, run_eql_struct, this, ← k2, cond_false, Sem.run_pure]
       · obtain ⟨ks', k1, k2⟩ := Option.map_eq_some_iff.1 hk
         have := run ks' k1 (by rw [← k2])
         simp only [execOp, ho, f1, g1, Sem.run_bind, run_eqGuard_agg w _ t x y xs ys hc.2, Result.andThen_ok, run_neq_struct, this, ← k2, cond_true, Sem.run_pure]
       · cases hk
     · rename_i len el hu
       obtain ⟨hc, hk⟩ := Option.ite_none_right_eq_some.1 hk
       simp only [Bool.and_eq_true, beq_iff_eq] at hc
       have hsz : (sizeOf el : Sem Nat).run P w = .ok 1 w := by
         cases hi : P.info? el with
         | none => rw [hi] at hc; cases hc.1
         | some inf =>
           rw [hi] at hc
           simp only [Option.map_some, Option.some.injEq] at hc
           simp [sizeOf, typeInfo, hi, hc.1]
       have run : ∀ k', kindT P el = some k' → List.replicate len k' = ks.2 → (Op.equalIn 10000 t (.agg xs) (.agg ys)).run P w = .ok b w := fun k' hks e' => by
         have h0 := eqE_run (xs := xs) (ys := ys) 9998 w hks len 0 l l' b (by simpa using f2) (by simpa using g2) (by rw [e']; exact e)
         rw [show (10000 : Nat) = (9998 + 1) + 1 from rfl, Op.equalIn]
         simp only [Sem.run_bind, run_underlying hu, Result.andThen_ok, hsz, Std.Legacy.Range.forIn_eq_forIn_range', Std.Legacy.Range.size, Nat.sub_zero, Nat.add_one_sub_one, Nat.div_one]
         refine Eq.trans ?_ h0
         congr 1
         funext x w'
         cases x.fst <;> rfl
       split at hk
       · obtain ⟨k', k1, k2⟩ := Option.map_eq_some_iff.1 hk
         have := run k' k1 (by rw [← k2])
         simp only [execOp, ho, f1, g1, Sem.run_bind, run_eqGuard_agg w _ t x y xs ys hc.2, Result.andThen_ok, run_eql_struct, this, ← k2, cond_false, Sem.run_pure]
       · obtain ⟨k', k1, k2⟩ := Option.map_eq_some_iff.1 hk
         have := run k' k1 (by rw [← k2])
         simp only [execOp, ho, f1, g1, Sem.run_bind, run_eqGuard_agg w _ t x y xs ys hc.2, Result.andThen_ok, run_neq_struct, this, ← k2, cond_true, Sem.run_pure]
       · cases hk
     · cases hk
   · cases e
theorem rowsF_ok (h : SOk H w m B st.store) {x : SV} {v : Value} (hx : Cn m st.n (vw H w B st.ob) x v) {rows : List (List D)} (e : st.rowsF x = some rows) : Rd (vw H w B st.ob) (.sl rows) v := by
 unfold St.rowsF at e
 split at e
 · rename_i o
   simp only [Cn] at hx
   obtain ⟨ho, rfl, _⟩ := hx
   split at e
   · rename_i rows' hl
     simp only [Option.some.injEq] at e; subst e
     exact h.obs o _ hl
   · cases e
 · simp only [Option.some.injEq] at e; subst e; exact hx
 · simp only [Option.some.injEq] at e; subst e
   simp only [Cn, Rd] at hx
   obtain ⟨rfl, _⟩ := hx
   simp [Rd]
 · cases e
theorem ok_slp (h : Sat H N w m B a st) {d : Nat} (hd : d < N) {t e : TypeId} {sz : Nat} {x : Operand} {lo hi : Option Operand} {r : Rv} {rl rh : Option Rv} (ho : o.op = .slice t x lo hi none) (hx : opn x = some r)
   (hl : lo.bind opn = rl) (hln : lo.isSome = rl.isSome) (hh : hi.bind opn = rh) (hhn : hi.isSome = rh.isSome) (ht : P.underlying t = some (.slice e)) (hz : (P.info? e).map (·.size) = some sz)
   (hs : step T (.slp d sz r rl rh) st K Kp) : PV m st.n (vw H w B st.ob) P o a d K st := by
 have h1 := get_ok h hx
 cases hi' : P.info? e with
 | none => rw [hi'] at hz; cases hz
 | some inf =>
 rw [hi'] at hz
 simp only [Option.map_some, Option.some.injEq] at hz
 have hszr : ∀ w, (sizeOf e).run P w = .ok sz w := fun w => by simp [sizeOf, typeInfo, hi', hz]
 simp only [step] at hs
 cases ef : st.rowsF (r.get st) with
 | none => rw [ef] at hs; exact hs.elim
 | some rows =>
   rw [ef] at hs
   simp only [need_some] at hs
   have g3 := rowsF_ok h.store h1 ef
   cases e2 : optInt st 0 rl with
   | none => rw [e2] at hs; exact hs.elim
   | some l =>
     cases e3 : optInt st rows.length rh with
     | none => rw [e2, e3] at hs; exact hs.elim
     | some u =>
       rw [e2, e3] at hs
       obtain ⟨⟨b0, b1, b2⟩, hr, hs⟩ := hs
       simp only [Rd] at g3
       obtain ⟨A, cap, ev, c1, c2, c3⟩ := g3
       have hb := fun w => run_bounds_ok (P := P) (a := a) w true rows.length cap lo hi l u (optInt_ok h hl hln e2) (optInt_ok h hh hhn e3) b0 b1 b2 c1
       have hlen : ((rows.take u.toNat).drop l.toNat).length = u.toNat - l.toNat := by rw [List.length_drop, List.length_take]; omega
       refine PV.pure (v := .slice (if cap = l.toNat then A else A.map (·.add (l.toNat * sz))) (u.toNat - l.toNat) (cap - l.toNat)) h hd ?_ hs fun w => ?_
       · simp only [Cn, Rd]
         rw [hlen]
         refine ⟨_, _, rfl, by omega, by omega, ?_⟩
         by_cases hc : cap = l.toNat
         · left
           apply List.length_eq_zero_iff.1
           rw [hlen]; omega
         · rcases c3 with rfl | ⟨ad, sz', rfl, csp, c3⟩
           · left; simp
           · cases rows with
             | nil => left; simp
             | cons r0 rs =>
               have hsz' : sz' = sz := by
                 have h8 := (RdRows_get (i := 0) c3 rfl).1
                 have h9 := hr r0 (by simp)
                 omega
               subst hsz'
               right
               refine ⟨ad.add (l.toNat * sz'), sz', by rw [if_neg hc]; rfl, add_spot csp _, ?_⟩
               have := RdRows_drop l.toNat (RdRows_take u.toNat c3)
               rw [Nat.zero_add] at this
               exact RdRows_at (by rw [Nat.add_zero]; exact this)
       · simp [execOp, ho, ev, Instr.sliceAt, Instr.slice, run_underlying ht, hb, hszr]
theorem intsOf_ok (h : Sat H N w m B a st) {k : IntKind} : ∀ {ys : List Operand} {rs : List Rv} {l : List Int}, ys.map opn = rs.map some → intsOf st k rs = some l → ys.map a.eval = l.map (Value.int k)
 | [], [], l, _, e => by simp only [intsOf, Option.some.injEq] at e; subst e; rfl
 | [], _ :: _, _, e, _ => by simp at e
 | _ :: _, [], _, e, _ => by simp at e
 | y :: ys, r :: rs, l, he, e => by
   simp only [List.map_cons, List.cons.injEq] at he
   simp only [intsOf] at e
   split at e
   · rename_i k' i e1
     obtain ⟨rfl, e⟩ := Option.ite_none_right_eq_some.1 e
     obtain ⟨l', e2, rfl⟩ := Option.map_eq_some_iff.1 e
     have h1 := get_ok h he.1
     rw [e1] at h1
     simp only [List.map_cons, intsOf_ok h he.2 e2, of_v h1]
   · cases e
theorem fold_mm (P : Program) (mn : Bool) (k : IntKind) (w : World) : ∀ (l : List Int) (i : Int), ((l.map (Value.int k)).foldlM (cond mn Builtin.min2 Builtin.max2) (Value.int k i) : Sem Value).run P w = .ok (.int k (l.foldl (mmOf mn) i)) w
 | [], i => by simp
 | x :: l, i => by
   have h := fold_mm P mn k w l (mmOf mn i x)
   cases mn <;> (simp only [List.map_cons, List.foldlM_cons, cond_true, cond_false, Builtin.min2, Builtin.max2, mmOf, Sem.run_bind, Sem.run_pure, Result.andThen_ok, List.foldl_cons] at h ⊢; exact h)
theorem ok_mm (h : Sat H N w m B a st) {d : Nat} (hd : d < N) {mn : Bool} {x : Operand} {ys : List Operand} {r : Rv} {rs : List Rv} {args : Array Operand} {ts : Array TypeId} (hargs : args.toList = x :: ys) (ho : o.op = .call { callee := .builtin (cond mn .min .max), args := args, argTypes := ts }) (hx : opn x = some r)
   (hy : ys.map opn = rs.map some) (hs : step T (.mm d mn r rs) st K Kp) : PV m st.n (vw H w B st.ob) P o a d K st := by
 have h1 := get_ok h hx
 simp only [step] at hs
 split at hs
 · rename_i k i e1
   rw [e1] at h1
   cases e2 : intsOf st k rs with
   | none => rw [e2] at hs; exact hs.elim
   | some l =>
     rw [e2] at hs
     refine PV.pure h hd (Cn_v rfl) hs fun w => ?_
     have he := intsOf_ok h hy e2
     have ha : (args.map a.eval).toList = Value.int k i :: l.map (Value.int k) := by simp [hargs, he, of_v h1]
     have hf := fold_mm P mn k w l i
     cases mn
     · simp only [cond_false] at ho hf
       simp only [execOp, ho, resolve, invoke, builtin, Builtin.max_, Sem.run_bind, Sem.run_pure, Result.andThen_ok, ha, hf]
     · simp only [cond_true] at ho hf
       simp only [execOp, ho, resolve, invoke, builtin, Builtin.min_, Sem.run_bind, Sem.run_pure, Result.andThen_ok, ha, hf]
 · exact hs.elim
theorem ok_rg (h : Sat H N w m B a st) {d : Nat} (hd : d < N) {t : TypeId} {x : Operand} {r : Rv} (ho : o.op = .range t x) (hx : opn x = some r) (ht : P.underlying t = some .string)
   (hs : step T (.rg d r) st K Kp) : VOk H N XB w m B st.store a d K ((execOp a.eval o).run P w) := by
 have h1 := get_ok h hx
 simp only [step] at hs
 split at hs
 · rename_i s e1
   rw [e1] at h1
   have hadd := SOk.add (w1 := w.alloc (.stringIter s 0)) h.store (.iter s 0) (.pointer (some ⟨w.heap.size, 0, none⟩)) (fun b => b = w.heap.size) rfl rfl rfl (by rw [al_size]; omega) (fun b hb => al_old _ _ _ hb)
     (fun b _ hb => by subst hb; rw [al_size]; omega) (fun c hc => ⟨w.heap.size, by simp, al_new _ _, fun x => Iff.rfl⟩)
   obtain ⟨hS, hO⟩ := hadd
   have hr : (execOp a.eval o).run P w = .ok (.value (.pointer (some ⟨w.heap.size, 0, none⟩))) (w.alloc (.stringIter s 0)) := by
     have := run_range_string (P := P) w t s ht
     simp only [execOp, ho, of_v h1, Sem.run_bind, this, Result.andThen_ok, Sem.run_pure]
     rfl
   refine ⟨_, _, _, _, _, hr, hs, Sat.put ⟨h.size, h.defers.since hS, h.slots.since hS, hO⟩ hd ?_, hS, fun b hb _ => al_old _ _ _ hb⟩
   simp only [Cn, St.newO]
   exact ⟨by omega, by simp [St.store], rfl⟩
 · exact hs.elim
theorem ok_nx (h : Sat H N w m B a st) {d : Nat} (hd : d < N) {x : Operand} {r : Rv} (ho : o.op = .next x true) (hx : opn x = some r)
   (hXB : ∀ o', r.get st = .own o' → ∀ y b, lk st.ob o' = some y → y.has = true → B o' b → XB b)
   (hs : step T (.nx d r) st K Kp) : VOk H N XB w m B st.store a d K ((execOp a.eval o).run P w) := by
 have h1 := get_ok h hx
 simp only [step] at hs
 split at hs
 · rename_i o' e1
   rw [e1] at h1
   simp only [Cn] at h1
   obtain ⟨h3, h4, _⟩ := h1
   split at hs
   · rename_i s p hl
     obtain ⟨b, g1, g2, g3⟩ := h.store.obs o' _ hl
     have hlt : b < w.heap.size := (Array.getElem?_eq_some_iff.1 g2).1
     have g2' : w.heap[b] = .stringIter s p := by have := (Array.getElem?_eq_some_iff.1 g2).2; exact this
     rw [g1] at h4
     by_cases hp : p < s.size
     · have hs := hs.1 hp
       have hu := SOk.upd (w1 := { w with heap := w.heap.setIfInBounds b (.stringIter s (p + (Utf8.decode s p).2)) }) h.store o' _ (.iter s (p + (Utf8.decode s p).2)) hl rfl (fun x => x = b) rfl rfl rfl (by simp)
         (fun j _ hj => by
           have hne : b ≠ j := fun e => hj ((g3 j).2 e.symm)
           simp [Array.getElem?_setIfInBounds, hne])
         (fun j _ hj => by subst hj; exact ⟨by simpa using hlt, .inl ((g3 j).2 rfl)⟩) (fun c hc1 _ => ⟨b, g1, by simp [Array.getElem?_setIfInBounds, hlt], fun x => Iff.rfl⟩)
       obtain ⟨hS, hO⟩ := hu
       refine ⟨.tuple #[.bool true, .int .i64 p, .int .i32 (Utf8.decode s p).1], _, m, _, _, ?_, hs, Sat.put ⟨h.size, h.defers.since hS, h.slots.since hS, hO⟩ hd ?_, hS, fun j hj hx => ?_⟩
       · simp [execOp, ho, h4, Instr.next, getObj, setObj, Sem.run, hlt, g2', hp, goInt, Result.andThen]
       · simp [Cn, CnL, Rd, Value.oneCell']
       · have hne : b ≠ j := fun e => hx (hXB o' e1 _ j hl rfl ((g3 j).2 e.symm))
         simp [Array.getElem?_setIfInBounds, hne]
     · have hs := hs.2 hp
       refine VOk.pure h hd (v := .tuple #[.bool false]) (by simp [Cn, CnL, Rd, Value.oneCell']) hs ?_
       simp [execOp, ho, h4, Instr.next, getObj, Sem.run, hlt, g2', hp, Result.andThen]
   · exact hs.elim
 · exact hs.elim
theorem bytes_vals {c : Rdr} : ∀ {rows : List (List D)} {l : List UInt8} {xs : List Value}, bytesOf rows = some l → RdL c rows.flatten xs → ∃ ns : List Int, xs = ns.map (Value.int .u8) ∧ l = ns.map fun n => UInt8.ofNat n.toNat
 | [], l, [], e, _ => by simp only [bytesOf, Option.some.injEq] at e; subst e; exact ⟨[], rfl, rfl⟩
 | [], _, _ :: _, _, h => h.elim
 | r :: rs, l, xs, e, h => by
   simp only [bytesOf] at e
   split at e
   · rename_i b bs e1 e2
     simp only [Option.some.injEq] at e; subst e
     unfold byteOf at e1
     split at e1
     · rename_i n
       simp only [Option.some.injEq] at e1; subst e1
       simp only [List.flatten_cons, List.cons_append, List.nil_append] at h
       cases xs with
       | nil => exact h.elim
       | cons x xs =>
         obtain ⟨hx, h⟩ := h
         simp only [Rd] at hx
         obtain ⟨rfl, _⟩ := hx
         obtain ⟨ns, e3, e4⟩ := bytes_vals e2 h
         exact ⟨n :: ns, by simp [e3], by simp [e4]⟩
     · cases e1
   · cases e
theorem ok_b2s (h : Sat H N w m B a st) {d : Nat} (hd : d < N) {s t e : TypeId} {x : Operand} {r : Rv} (ho : o.op = .convert s t x) (hx : opn x = some r) (hs1 : P.underlying s = some (.slice e)) (he : P.underlying e = some (.int .u8)) (ht : P.underlying t = some .string)
   (hs : step T (.b2s d r) st K Kp) : VOk H N XB w m B st.store a d K ((execOp a.eval o).run P w) := by
 have h1 := get_ok h hx
 simp only [step] at hs
 cases er : st.rows (r.get st) with
 | none => rw [er] at hs; exact hs.elim
 | some rows =>
   rw [er] at hs
   simp only [need_some] at hs
   cases eb : bytesOf rows with
   | none => rw [eb] at hs; exact hs.elim
   | some l =>
     rw [eb] at hs
     have hsz : ∀ r ∈ rows, r.length = 1 := by
       intro r hr
       have : ∀ {rows : List (List D)} {l : List UInt8}, bytesOf rows = some l → ∀ r ∈ rows, r.length = 1 := by
         intro rows
         induction rows with
         | nil => intro l _ r hr; cases hr
         | cons r0 rs ih =>
           intro l e r hr
           simp only [bytesOf] at e
           split at e
           · rename_i b bs e1 e2
             rcases List.mem_cons.1 hr with rfl | hr
             · unfold byteOf at e1
               split at e1
               · rfl
               · cases e1
             · exact ih e2 r hr
           · cases e
       exact this eb r hr
     obtain ⟨A, cap, xs, e1, q1, q2, q3⟩ := source_ok h.store h1 er hsz
     obtain ⟨ns, rfl, rfl⟩ := bytes_vals eb q1
     simp only [List.length_map, Nat.mul_one] at q2
     refine VOk.pure h hd (Cn_v rfl) hs ?_
     have hconv : (convert s t (a.eval x)).run P w = .ok (str (ns.map fun n => UInt8.ofNat n.toNat)) w := by
       rw [e1]
       cases A with
       | none =>
         have : ns = [] := by
           cases ns with
           | nil => rfl
           | cons n r => obtain ⟨ad, e, _⟩ := q3 0 _ rfl; cases e
         subst this
         rw [run_convert_bytes_nil w s e hs1 he _ _ t ht]; rfl
       | some ad =>
         have hl := run_loadCells_list (P := P) w ad (ns.map (Value.int .u8)) (fun j v hj => by
           obtain ⟨ad', e, h9⟩ := q3 j v hj
           cases e; exact h9)
         rw [List.length_map, q2] at hl
         rw [run_convert_bytes_string w s t e _ _ cap hs1 he ht, run_bytesToString w ad rows.length cap ns hl, foldl_push_bytes]
         simp [str, ByteArray.empty, ByteArray.emptyWithCapacity]
         rfl
     simp only [execOp, ho, Sem.run_bind, hconv, Result.andThen_ok]
     rfl
end
end Go.Ev
namespace Go.Ev
open Go
def OutOk (m : Nat → Value) (n : Nat) (c : Rdr) : Out → Ending → Prop
 | .ret x, .returned v => Cn m n c x v
 | .pan x, .panicked ch => ∃ v, ch = [{ v := v, recovered := false }] ∧ Cn m n c x v
 | _, _ => False
def HasBody (P : Program) (f : FuncId) : Prop := ∃ fn : Func, P.funcs[f]? = some fn ∧ fn.body.isNone = false ∧ (fn.name == "runtime.NumGoroutine") = false
structure Grown (w w' : World) : Prop where
 os : w'.os = w.os
 tape : w'.tape = w.tape
 output : w'.output = w.output
 size : w.heap.size ≤ w'.heap.size
 block : ∀ b, b < w.heap.size → w'.heap[b]? = w.heap[b]?
theorem Grown.refl (w : World) : Grown w w := ⟨rfl, rfl, rfl, Nat.le_refl _, fun _ _ => rfl⟩
theorem Grown.trans {a b c : World} (h : Grown a b) (k : Grown b c) : Grown a c :=
 ⟨k.os.trans h.os, k.tape.trans h.tape, k.output.trans h.output, Nat.le_trans h.size k.size, fun x hx => (k.block x (Nat.lt_of_lt_of_le hx h.size)).trans (h.block x hx)⟩
theorem Grown.alloc (w : World) (o : Obj) : Grown w (w.alloc o) := ⟨rfl, rfl, rfl, by rw [al_size]; omega, fun b hb => al_old w o b hb⟩
def SoundIt (G : World → Prop) (P : Program) (f : FuncId) (it : List D → Option (Prop × List (List SV))) : Prop :=
 ∀ (S : Nat → Prop) (w : World) (cs : List D) (vs : List Value) (p : Prop) (xs : List (List SV)) (l : Nat) (J : Nat → World → Prop) (Jx : World → Prop),
   it cs = some (p, xs) → p → RdL (fun a u => w.cell? a = some u ∧ S a.block) cs vs →
   (∀ k W, J k W → G W ∧ ∀ b, S b → b < w.heap.size → W.heap[b]? = w.heap[b]?) →
   (∀ W, Jx W → ∀ b, S b → b < w.heap.size → W.heap[b]? = w.heap[b]?) →
   (∀ k W W', J k W → Grown W W' → J k W') → (∀ W W', Jx W → Grown W W' → Jx W') →
   (∀ k W x ys, J k W → xs[k]? = some x → CnL (fun _ => undef) 0 (fun a u => w.cell? a = some u ∧ S a.block) x ys → YieldAt Fence.wide 0 P l ys.toArray W fun e W' => (e = .returned (.bool true) ∧ J (k + 1) W') ∨ (e = .returned (.bool false) ∧ Jx W')) →
   J 0 w →
   HasBody P f ∧ CallsIn Fence.wide 0 P f (#[.func (.yield l) #[] #[]] ++ vs.toArray) w fun e W' => (∃ v, e = .returned v) ∧ (J xs.length W' ∨ Jx W')
theorem SoundIt.none {G : World → Prop} {P : Program} {f : FuncId} : SoundIt G P f fun _ => none := fun _ _ _ _ _ _ _ _ _ h => by cases h
def Sound (G : World → Prop) (P : Program) (f : FuncId) (C : Contract) : Prop :=
 C.lawful ∧ (∀ (H : Hd G) (w : World) (m : Nat → Value) (B : Nat → Nat → Prop) (s : Store) (args : List SV) (vs : List Value) (K : Out → Store → Prop), C.wp args s K → SOk H w m B s → CnL m s.n (vw H w B s.ob) args vs →
   HasBody P f ∧ Calls P f vs.toArray w fun e w' => ∃ m' B' s' out, K out s' ∧ SOk H w' m' B' s' ∧ Since w m B s w' m' B' s' ∧ OutOk m' s'.n (vw H w' B' s'.ob) out e) ∧ SoundIt G P f C.it
mutual
theorem Cn_ren {m m' : Nat → Value} {n n' : Nat} {c c' : Rdr} {f : Nat → Option Nat} (hf : ∀ o i, f o = some i → o < n → i < n' ∧ m' i = m o) (hc : ∀ a u, c a u → c' a u) : ∀ (x : SV) (y : Value), Cn m n c x y → Cn m' n' c' (x.ren f) y
 | .any, y, h => by simp [SV.ren, Cn]
 | .d x, y, h => by simp only [SV.ren, Cn] at h ⊢; exact Rd_mono hc _ _ h
 | .cp l, y, h => by
   simp only [SV.ren, Cn] at h ⊢
   obtain ⟨ad, h1, h2⟩ := h
   exact ⟨ad, h1, RdCells_mono hc ad 0 l h2⟩
 | .own o, y, h => by
   simp only [SV.ren]
   simp only [Cn] at h
   cases e : f o with
   | none => simp [Cn]
   | some i =>
     obtain ⟨h1, h2⟩ := hf o i e h.1
     simp only [Cn]
     exact ⟨h1, by rw [h2]; exact h.2.1, h.2.2⟩
 | .ptr o k, y, h => by
   simp only [SV.ren]
   simp only [Cn] at h
   cases e : f o with
   | none => simp [Cn]
   | some i =>
     obtain ⟨h1, h2⟩ := hf o i e h.1
     simp only [Cn]
     exact ⟨h1, by rw [h2]; exact h.2⟩
 | .ep o sz j k, y, h => by
   simp only [SV.ren]
   simp only [Cn] at h
   cases e : f o with
   | none => simp [Cn]
   | some i =>
     obtain ⟨h1, h2⟩ := hf o i e h.1
     simp only [Cn]
     exact ⟨h1, by rw [h2]; exact h.2⟩
 | .opt b x, y, h => by
   cases b with
   | false => simpa [SV.ren, Cn] using h
   | true => simp only [SV.ren, Cn, if_true] at h ⊢; exact Cn_ren hf hc x y h
 | .agg l, y, h => by
   simp only [SV.ren, Cn] at h ⊢
   obtain ⟨a, h1, h2, h3⟩ := h
   exact ⟨a, h1, CnL_ren hf hc l _ h2, h3⟩
 | .tup l, y, h => by
   simp only [SV.ren, Cn] at h ⊢
   obtain ⟨a, h1, h2⟩ := h
   exact ⟨a, h1, CnL_ren hf hc l _ h2⟩
 | .fn g l, y, h => by
   simp only [SV.ren, Cn] at h ⊢
   obtain ⟨a, h1, h2⟩ := h
   exact ⟨a, h1, CnL_ren hf hc l _ h2⟩
theorem CnL_ren {m m' : Nat → Value} {n n' : Nat} {c c' : Rdr} {f : Nat → Option Nat} (hf : ∀ o i, f o = some i → o < n → i < n' ∧ m' i = m o) (hc : ∀ a u, c a u → c' a u) : ∀ (x : List SV) (y : List Value), CnL m n c x y → CnL m' n' c' (x.map fun z => z.ren f) y
 | [], [], h => by simp [CnL]
 | [], _ :: _, h => by simp [CnL] at h
 | _ :: _, [], h => by simp [CnL] at h
 | x :: r, y :: s, h => by
   simp only [CnL, List.map_cons] at h ⊢
   exact ⟨Cn_ren hf hc x y h.1, CnL_ren hf hc r s h.2⟩
end
theorem Ob.has_ren (f : Nat → Option Nat) (x : Ob) : (x.ren f).has = x.has := by cases x <;> rfl
theorem ObS_ren {w : World} {m m' : Nat → Value} {n n' : Nat} {c c' : Rdr} {f : Nat → Option Nat} {o i : Nat} {Bo : Nat → Prop} (hf : ∀ o i, f o = some i → o < n → i < n' ∧ m' i = m o) (hc : ∀ a u, c a u → c' a u) (hm : m' i = m o) :
   ∀ {x : Ob}, ObS w m n c o Bo x → ObS w m' n' c' i Bo (x.ren f)
 | .dead, _ => trivial
 | .cells t l, h => by
   obtain ⟨b, cs, h1, h2, h3, h4, h5⟩ := h
   exact ⟨b, cs, by rw [hm]; exact h1, h2, CnL_ren hf hc _ _ h3, h4, h5⟩
 | .row t sz rows, h => by
   obtain ⟨xs, h1, h2, h3, h4⟩ := h
   exact ⟨xs, by rw [hm]; exact h1, RdL_mono hc _ _ h2, h3, by rw [hm]; exact h4⟩
 | .fro rows, h => by simp only [ObS, Ob.ren] at h ⊢; rw [hm]; exact Rd_mono hc _ _ h
 | .bld t u bs, h => by
   obtain ⟨b, p, v, h1, h2, h3, h4, h5, h6⟩ := h
   exact ⟨b, p, v, by rw [hm]; exact h1, h2, by rw [hm]; exact h3, h4, h5, h6⟩
 | .iter t p, h => by
   obtain ⟨b, h1, h2, h3⟩ := h
   exact ⟨b, by rw [hm]; exact h1, h2, h3⟩
theorem lk_map {β γ : Type} {g : Nat → Nat} {h : β → γ} : ∀ {l : List (Nat × β)} {o : Nat} {y : γ}, lk (l.map fun x => (g x.1, h x.2)) o = some y → ∃ i x, g i = o ∧ lk l i = some x ∧ y = h x
 | [], _, _, e => by simp [lk] at e
 | (i0, x0) :: r, o, y, e => by
   simp only [List.map_cons, lk_cons] at e
   by_cases e1 : g i0 = o
   · simp only [e1, if_true, Option.some.injEq] at e
     exact ⟨i0, x0, e1, by simp [lk_cons], e.symm⟩
   · simp only [e1, if_false] at e
     obtain ⟨i, x, h1, h2, h3⟩ := lk_map e
     refine ⟨i, x, h1, ?_, h3⟩
     rw [lk_cons, if_neg (fun h => e1 (by rw [h]; exact h1))]
     exact h2
theorem lk_append {β : Type} : ∀ {l r : List (Nat × β)} {o : Nat} {y : β}, lk (l ++ r) o = some y → lk l o = some y ∨ (lk l o = none ∧ lk r o = some y)
 | [], _, _, _, e => .inr ⟨rfl, e⟩
 | (i, x) :: l, r, o, y, e => by
   simp only [List.cons_append, lk_cons] at e ⊢
   by_cases e1 : i = o
   · simp only [e1, if_true] at e ⊢; exact .inl e
   · simp only [e1, if_false] at e ⊢; exact lk_append e
theorem lk_dead {os : List Nat} {o : Nat} : ∀ {y : Ob}, lk (os.map fun o => (o, Ob.dead)) o = some y → y = .dead := by
 induction os with
 | nil => intro y h; simp [lk] at h
 | cons i r ih =>
   intro y h
   simp only [List.map_cons, lk_cons] at h
   by_cases e : i = o
   · simp only [e, if_true, Option.some.injEq] at h; exact h.symm
   · simp only [e, if_false] at h; exact ih h
theorem lk_dead_none {os : List Nat} {o : Nat} (h : lk (os.map fun o => (o, Ob.dead)) o = none) : o ∉ os := by
 induction os with
 | nil => simp
 | cons i r ih =>
   simp only [List.map_cons, lk_cons] at h
   by_cases e : i = o
   · simp [e] at h
   · simp only [e, if_false] at h
     simp only [List.mem_cons, not_or]
     exact ⟨fun h => e h.symm, ih h⟩
theorem lk_dead_notin {os : List Nat} {o : Nat} (h9 : o ∉ os) : lk (os.map fun o => (o, Ob.dead)) o = none := by
 induction os with
 | nil => rfl
 | cons i r ih =>
   simp only [List.mem_cons, not_or] at h9
   simp only [List.map_cons, lk_cons]
   rw [if_neg (fun e => h9.1 e.symm)]
   exact ih h9.2
theorem lk_subO {ob : List (Nat × Ob)} {f : Nat → Option Nat} : ∀ {os : List Nat} {i j : Nat} {y : Ob}, lk (subO ob f os i) j = some y → ∃ k o x, j = i + k ∧ os[k]? = some o ∧ lk ob o = some x ∧ y = x.ren f
 | [], _, _, _, e => by simp [subO, lk] at e
 | o :: r, i, j, y, e => by
   simp only [subO] at e
   cases ho : lk ob o with
   | none =>
     rw [ho] at e
     obtain ⟨k, o', x, h1, h2, h3, h4⟩ := lk_subO e
     exact ⟨k + 1, o', x, by omega, by simpa using h2, h3, h4⟩
   | some x =>
     rw [ho] at e
     simp only [lk_cons] at e
     by_cases e1 : i = j
     · simp only [e1, if_true, Option.some.injEq] at e
       exact ⟨0, o, x, by omega, rfl, ho, e.symm⟩
     · simp only [e1, if_false] at e
       obtain ⟨k, o', x, h1, h2, h3, h4⟩ := lk_subO e
       exact ⟨k + 1, o', x, by omega, by simpa using h2, h3, h4⟩
theorem idxOf_get {os : List Nat} {o i : Nat} (h : os.idxOf? o = some i) : os[i]? = some o := by
 induction os generalizing i with
 | nil => simp at h
 | cons x r ih =>
   simp only [List.idxOf?_cons] at h
   split at h
   · rename_i e
     simp only [Option.some.injEq] at h; subst h
     simpa using e
   · simp only [Option.map_eq_some_iff] at h
     obtain ⟨j, h1, rfl⟩ := h
     simpa using ih h1
theorem nodup_get {os : List Nat} (hn : os.Nodup) {i j o : Nat} (hi : os[i]? = some o) (hj : os[j]? = some o) : i = j := by
 induction os generalizing i j with
 | nil => simp at hi
 | cons x r ih =>
   simp only [List.nodup_cons] at hn
   cases i with
   | zero =>
     cases j with
     | zero => rfl
     | succ j => simp at hi hj; subst hi; exact absurd (List.mem_of_getElem? hj) hn.1
   | succ i =>
     cases j with
     | zero => simp at hi hj; subst hj; exact absurd (List.mem_of_getElem? hi) hn.1
     | succ j => simp at hi hj; rw [ih hn.2 hi hj]
theorem idxOf_of {os : List Nat} (hn : os.Nodup) {i o : Nat} (h : os[i]? = some o) : os.idxOf? o = some i := by
 cases e : os.idxOf? o with
 | none => exact absurd (List.mem_of_getElem? h) (by simpa using e)
 | some j => rw [nodup_get hn (idxOf_get e) h]
section
variable {G : World → Prop} {H : Hd G} {XB : Nat → Prop} {N : Nat} {w : World} {m : Nat → Value} {B : Nat → Nat → Prop} {a : Act} {st : St}
variable {P : Program} {K : St → Prop} {Kp : SV → St → Prop}
theorem give1_ok (h : Sat H N w m B a st) (os : List Nat) {x : SV} {v : Value} (hx : Cn m st.n (vw H w B st.ob) x v) :
   ∃ B1, Sat H N w m B1 a (st.give1 os x).2 ∧ Since w m B st.store w m B1 (st.give1 os x).2.store ∧ Cn m (st.give1 os x).2.n (vw H w B1 (st.give1 os x).2.ob) (st.give1 os x).1 v ∧ (st.give1 os x).2.n = st.n := by
 unfold St.give1
 split
 · rename_i o
   split
   · exact ⟨B, h, Since.refl _ _ _ _, hx, rfl⟩
   · cases e : st.frz (.own o) with
     | none => exact ⟨B, h, Since.refl _ _ _ _, by simp [Cn], rfl⟩
     | some y =>
       obtain ⟨y, st1⟩ := y
       obtain ⟨B1, g1, g2, g3, g4, _⟩ := frz_ok h hx e
       exact ⟨B1, g1, g2, g3, g4⟩
 · refine ⟨B, h, Since.refl _ _ _ _, ?_, rfl⟩
   rw [of_v hx]
   simp only [Cn, Rd]
   exact ⟨none, 0, rfl, by simp, by simp, .inl trivial⟩
 · exact ⟨B, h, Since.refl _ _ _ _, hx, rfl⟩
theorem giveC_ok (os : List Nat) : ∀ {l : List SV} {vs : List Value} {st : St} {B : Nat → Nat → Prop}, Sat H N w m B a st → CnL m st.n (vw H w B st.ob) l vs →
   ∃ B1, Sat H N w m B1 a (st.giveC os l).2 ∧ Since w m B st.store w m B1 (st.giveC os l).2.store ∧ CnL m (st.giveC os l).2.n (vw H w B1 (st.giveC os l).2.ob) (st.giveC os l).1 vs ∧ (st.giveC os l).2.n = st.n
 | [], [], st, B, h, hl => ⟨B, h, Since.refl _ _ _ _, by simp [St.giveC, CnL], rfl⟩
 | [], _ :: _, _, _, _, h => by simp [CnL] at h
 | _ :: _, [], _, _, _, h => by simp [CnL] at h
 | x :: r, v :: vs, st, B, h, hl => by
   simp only [CnL] at hl
   obtain ⟨B1, g1, g2, g3, g4⟩ := give1_ok h os hl.1
   obtain ⟨B2, k1, k2, k3, k4⟩ := giveC_ok os g1 (g2.cnL _ _ hl.2)
   refine ⟨B2, k1, g2.trans k2, ?_, k4.trans g4⟩
   simp only [St.giveC, CnL]
   exact ⟨k2.cn _ _ g3, k3⟩
theorem give_ok (h : Sat H N w m B a st) (os : List Nat) {x : SV} {v : Value} (hx : Cn m st.n (vw H w B st.ob) x v) :
   ∃ B1, Sat H N w m B1 a (st.give os x).2 ∧ Since w m B st.store w m B1 (st.give os x).2.store ∧ Cn m (st.give os x).2.n (vw H w B1 (st.give os x).2.ob) (st.give os x).1 v ∧ (st.give os x).2.n = st.n := by
 unfold St.give
 split
 · rename_i l
   simp only [Cn] at hx
   obtain ⟨cs, e, h1, h2⟩ := hx
   obtain ⟨B1, g1, g2, g3, g4⟩ := giveC_ok os h h1
   exact ⟨B1, g1, g2, by simp only [Cn]; exact ⟨cs, e, g3, h2⟩, g4⟩
 · exact give1_ok h os hx
theorem giveL_ok (os : List Nat) : ∀ {l : List SV} {vs : List Value} {st : St} {B : Nat → Nat → Prop}, Sat H N w m B a st → CnL m st.n (vw H w B st.ob) l vs →
   ∃ B1, Sat H N w m B1 a (st.giveL os l).2 ∧ Since w m B st.store w m B1 (st.giveL os l).2.store ∧ CnL m (st.giveL os l).2.n (vw H w B1 (st.giveL os l).2.ob) (st.giveL os l).1 vs ∧ (st.giveL os l).2.n = st.n
 | [], [], st, B, h, hl => ⟨B, h, Since.refl _ _ _ _, by simp [St.giveL, CnL], rfl⟩
 | [], _ :: _, _, _, _, h => by simp [CnL] at h
 | _ :: _, [], _, _, _, h => by simp [CnL] at h
 | x :: r, v :: vs, st, B, h, hl => by
   simp only [CnL] at hl
   obtain ⟨B1, g1, g2, g3, g4⟩ := give_ok h os hl.1
   obtain ⟨B2, k1, k2, k3, k4⟩ := giveL_ok os g1 (g2.cnL _ _ hl.2)
   refine ⟨B2, k1, g2.trans k2, ?_, k4.trans g4⟩
   simp only [St.giveL, CnL]
   exact ⟨k2.cn _ _ g3, k3⟩
def CallOk {G : World → Prop} (H : Hd G) (XB : Nat → Prop) (N : Nat) (w : World) (m : Nat → Value) (B : Nat → Nat → Prop) (s0 : Store) (a : Act) (d : Option Nat) (K : St → Prop) (Kp : SV → St → Prop) (e : Ending) (w' : World) : Prop :=
 (∃ v m' B' st', e = .returned v ∧ K st' ∧ Sat H N w' m' B' (a.put d v) st' ∧ Since w m B s0 w' m' B' st'.store ∧ ∀ b, b < w.heap.size → ¬ XB b → w'.heap[b]? = w.heap[b]?) ∨
 (∃ v x m' B' st', e = .panicked [{ v := v, recovered := false }] ∧ Kp x st' ∧ Sat H N w' m' B' a st' ∧ Since w m B s0 w' m' B' st'.store ∧ Cn m' st'.n (vw H w' B' st'.ob) x v)
theorem Sat.putO (h : Sat H N w m B a st) {d : Option Nat} (hd : ∀ k, d = some k → k < N) {x : SV} {v : Value} (hx : Cn m st.n (vw H w B st.ob) x v) : Sat H N w m B (a.put d v) (st.putO d x) := by
 cases d with
 | none => exact h
 | some k => exact h.put (hd k rfl) hx
theorem scal1_ok {m' : Nat → Value} {n n' : Nat} {c c' : Rdr} {x : SV} {v : Value} (hs : scal1 x = true) (h : Cn m n c x v) : Cn m' n' c' x v := by
 unfold scal1 at hs
 split at hs
 · exact h
 · cases hs
theorem scal_ok {m' : Nat → Value} {n n' : Nat} {c c' : Rdr} {x : SV} {v : Value} (hs : scal x = true) (h : Cn m n c x v) : Cn m' n' c' x v := by
 unfold scal at hs
 split at hs
 · rename_i l
   simp only [Cn] at h ⊢
   obtain ⟨cs, e, h1⟩ := h
   refine ⟨cs, e, ?_⟩
   have key : ∀ (l : List SV) (vs : List Value), l.all scal1 = true → CnL m n c l vs → CnL m' n' c' l vs := by
     intro l
     induction l with
     | nil => intro vs _ h; cases vs <;> simp_all [CnL]
     | cons x r ih =>
       intro vs hl h
       cases vs with
       | nil => simp [CnL] at h
       | cons v vs =>
         simp only [List.all_cons, Bool.and_eq_true] at hl
         simp only [CnL] at h ⊢
         exact ⟨scal1_ok hl.1 h.1, ih vs hl.2 h.2⟩
   exact key l _ hs h1
 · exact scal1_ok hs h
theorem lend1_ok (h : SOk H w m B st.store) {B0 : Nat → Nat → Prop} {x : SV} {v : Value} (hx : Cn m st.n (vw H w B st.ob) x v) (m0 : Nat → Value) : Cn m0 0 (vw H w B0 []) (st.lend1 x) v := by
 have hc : ∀ a u, vw H w B st.ob a u → vw H w B0 [] a u := fun a u hh => ⟨hh.1, by rintro ⟨o, x, h1, _⟩; simp [lk] at h1, hh.2.2⟩
 unfold St.lend1
 split
 · rename_i o
   simp only [Cn] at hx
   obtain ⟨_, rfl, _⟩ := hx
   split
   · rename_i t sz rows hl
     obtain ⟨xs, q1, q2, q3, q4⟩ := h.obs o _ hl
     simp only [Cn]
     exact row_data q1 (RdL_mono hc _ _ q2) q3 fun a u ha hb => ⟨ha, by rintro ⟨o, x, h1, _⟩; simp [lk] at h1, h.seph o _ _ hl rfl ((q4 _).2 hb)⟩
   · rename_i rows hl
     have := h.obs o _ hl
     simp only [Cn]
     exact Rd_mono hc _ _ this
   · simp [Cn]
 · rw [of_v hx]
   simp only [Cn, Rd]
   exact ⟨none, 0, rfl, by simp, by simp, .inl trivial⟩
 · simp only [Cn] at hx ⊢; exact Rd_mono hc _ _ hx
 · simp only [Cn] at hx ⊢
   obtain ⟨ad, e, h1⟩ := hx
   exact ⟨ad, e, RdCells_mono hc ad 0 _ h1⟩
 · simp [Cn]
theorem lendL1_ok (h : SOk H w m B st.store) {B0 : Nat → Nat → Prop} (m0 : Nat → Value) : ∀ {l : List SV} {vs : List Value}, CnL m st.n (vw H w B st.ob) l vs → CnL m0 0 (vw H w B0 []) (l.map st.lend1) vs
 | [], [], _ => by simp [CnL]
 | [], _ :: _, h => by simp [CnL] at h
 | _ :: _, [], h => by simp [CnL] at h
 | x :: r, v :: vs, hl => by
   simp only [CnL, List.map_cons] at hl ⊢
   exact ⟨lend1_ok h hl.1 m0, lendL1_ok h m0 hl.2⟩
theorem lend_ok (h : SOk H w m B st.store) {B0 : Nat → Nat → Prop} {x : SV} {v : Value} (hx : Cn m st.n (vw H w B st.ob) x v) (m0 : Nat → Value) : Cn m0 0 (vw H w B0 []) (st.lend x) v := by
 unfold St.lend
 split
 · rename_i l
   simp only [Cn] at hx ⊢
   obtain ⟨cs, e, h1, h2⟩ := hx
   exact ⟨cs, e, lendL1_ok h m0 h1, h2⟩
 · exact lend1_ok h hx m0
theorem lendL_ok (h : SOk H w m B st.store) {B0 : Nat → Nat → Prop} (m0 : Nat → Value) : ∀ {l : List SV} {vs : List Value}, CnL m st.n (vw H w B st.ob) l vs → CnL m0 0 (vw H w B0 []) (l.map st.lend) vs
 | [], [], _ => by simp [CnL]
 | [], _ :: _, h => by simp [CnL] at h
 | _ :: _, [], h => by simp [CnL] at h
 | x :: r, v :: vs, hl => by
   simp only [CnL, List.map_cons] at hl ⊢
   exact ⟨lend_ok h hl.1 m0, lendL_ok h m0 hl.2⟩
theorem SOk.empty {G : World → Prop} {H : Hd G} {w : World} (hh : ∀ b, H b → b < w.heap.size) (hg : G w) (m : Nat → Value) (B : Nat → Nat → Prop) : SOk H w m B ⟨0, []⟩ :=
 ⟨fun o x h => by simp [lk] at h, fun o x h => by simp [lk] at h, fun o o' x x' h => by simp [lk] at h, fun o x b h => by simp [lk] at h, hh, hg, fun o x b h => by simp [lk] at h⟩
theorem callS_lend {f : FuncId} {C : Contract} (hC : Sound G P f C) (h : Sat H N w m B a st) {d : Option Nat} (hd : ∀ k, d = some k → k < N) {os : List Nat} {args : List SV} {vs : List Value} (ha : CnL m st.n (vw H w B st.ob) args vs)
   (hs : callS C d os true args st K Kp) : HasBody P f ∧ Calls P f vs.toArray w (CallOk H XB N w m B st.store a d K Kp) := by
 simp only [callS, if_true] at hs
 refine (hC.2.1 H w (fun _ => .nilFunc) (fun _ _ => False) ⟨0, []⟩ _ vs _ hs (SOk.empty h.store.hid h.store.gw _ _) (lendL_ok h.store _ ha)).imp id fun hcc => hcc.mono ?_
 rintro e w' ⟨m', B', s', out, hK, hO, hS, hR⟩
 cases out with
 | pan x => exact hK.elim
 | ret x =>
   obtain ⟨k1, k2, k3⟩ := hK
   cases e with
   | panicked ch => exact hR.elim
   | outgrown => exact hR.elim
   | returned v =>
     have hno : ∀ b, ¬ owns (fun _ _ => False) ([] : List (Nat × Ob)) b := by rintro b ⟨o, x, h1, _⟩; simp [lk] at h1
     have hS2 : Since w m B st.store w' m B st.store := ⟨hS.os, hS.tape, hS.output, hS.size, fun b hb _ => hS.block b hb (hno b), fun b hb => .inl hb, Nat.le_refl _, fun _ _ => rfl, fun o x b _ h1 h2 h3 => .inl ⟨x, h1, h2, h3⟩⟩
     refine .inl ⟨v, m, B, _, rfl, k3, Sat.putO ⟨h.size, h.defers.since hS2, h.slots.since hS2, ?_⟩ hd (scal_ok k1 hR), by rw [St.store_putO]; exact hS2, fun b hb _ => hS.block b hb (hno b)⟩
     refine ⟨fun o x ho => (h.store.obs o x ho).keep (Nat.le_refl _) (h.store.lt o x ho) (fun _ _ => rfl) hS2.vw (fun b hx hb => hS.block b (h.store.blk o x b ho hx hb) (hno b)), h.store.lt, h.store.sep, fun o x b ho hx hb => Nat.lt_of_lt_of_le (h.store.blk o x b ho hx hb) hS.size, fun b hb => Nat.lt_of_lt_of_le (h.store.hid b hb) hS.size, h.store.gs hS2, h.store.seph⟩
theorem callS_give {f : FuncId} {C : Contract} (hC : Sound G P f C) (h0 : Sat H N w m B a st) {d : Option Nat} (hd : ∀ k, d = some k → k < N) {os : List Nat} {args : List SV} {vs : List Value} (ha0 : CnL m st.n (vw H w B st.ob) args vs) (hXB : ∀ o, o ∈ os → ∀ y b, lk st.ob o = some y → y.has = true → B o b → XB b)
   (hs : callS C d os false args st K Kp) : HasBody P f ∧ Calls P f vs.toArray w (CallOk H XB N w m B st.store a d K Kp) := by
 simp only [callS, Bool.false_eq_true, if_false] at hs
 obtain ⟨hnd, hex, hs⟩ := hs
 obtain ⟨B1, h, s1, ha, hn1⟩ := giveL_ok os h0 ha0
 generalize (st.giveL os args).2 = st1 at *
 generalize (st.giveL os args).1 = args1 at *
 -- the callee's view
 have hlt : ∀ (i o : Nat), os[i]? = some o → i < os.length ∧ o < st1.n := by
   intro i o hi
   refine ⟨(List.getElem?_eq_some_iff.1 hi).1, ?_⟩
   obtain ⟨x, hx⟩ := Option.isSome_iff_exists.1 (hex o (List.mem_of_getElem? hi))
   exact h.store.lt o x hx
 have hgetD : ∀ (i o : Nat), os[i]? = some o → os.getD i 0 = o := fun i o hi => by simp [List.getD, hi]
 let mL : Nat → Value := fun i => m (os.getD i 0)
 let BL : Nat → Nat → Prop := fun i => B1 (os.getD i 0)
 let HL : Hd G := ⟨fun b => H b ∨ ∃ o x, lk st1.ob o = some x ∧ x.has = true ∧ B1 o b ∧ o ∉ os, H.gb, fun b hb => .inl (H.sub b hb), H.st, H.lo, H.df⟩
 let sL : Store := st1.sub os
 have hsub : ∀ (i : Nat) (y : Ob), lk sL.ob i = some y → ∃ (o : Nat) (x : Ob), os[i]? = some o ∧ lk st1.ob o = some x ∧ y = x.ren (fun o => os.idxOf? o) := by
   intro i y hy
   obtain ⟨k, o, x, e1, e2, e3, e4⟩ := lk_subO hy
   rw [Nat.zero_add] at e1
   subst e1
   exact ⟨o, x, e2, e3, e4⟩
 have hownL : ∀ b, owns BL sL.ob b → ∃ (i o : Nat) (x : Ob), os[i]? = some o ∧ lk st1.ob o = some x ∧ x.has = true ∧ B1 o b := by
   rintro b ⟨i, y, h1, h2, h3⟩
   obtain ⟨o, x, e1, e2, rfl⟩ := hsub i y h1
   refine ⟨i, o, x, e1, e2, by rw [Ob.has_ren] at h2; exact h2, ?_⟩
   simp only [BL, hgetD i o e1] at h3
   exact h3
 have hvL : ∀ a u, vw H w B1 st1.ob a u → vw HL w BL sL.ob a u := by
   rintro a u ⟨v1, v2, v3⟩
   refine ⟨v1, fun h9 => ?_, ?_⟩
   · obtain ⟨i, o, x, e1, e2, e3, e4⟩ := hownL _ h9
     exact v2 ⟨o, x, e2, e3, e4⟩
   · rintro (h9 | ⟨o, x, e1, e2, e3, _⟩)
     · exact v3 h9
     · exact v2 ⟨o, x, e1, e2, e3⟩
 have hfL : ∀ o i, os.idxOf? o = some i → o < st1.n → i < os.length ∧ mL i = m o := by
   intro o i hi _
   have := idxOf_get hi
   exact ⟨(hlt i o this).1, by simp only [mL, hgetD i o this]⟩
 have hOL : SOk HL w mL BL sL := by
   refine ⟨?_, ?_, ?_, ?_, ?_, h.store.gw, ?_⟩
   · intro i y hy
     obtain ⟨o, x, e1, e2, rfl⟩ := hsub i y hy
     have := ObS_ren (n' := sL.n) (m' := mL) (i := i) hfL hvL (by simp only [mL, hgetD i o e1]) (h.store.obs o x e2)
     simp only [BL, hgetD i o e1]
     exact this
   · intro i y hy
     obtain ⟨o, x, e1, e2, rfl⟩ := hsub i y hy
     exact (hlt i o e1).1
   · intro i j y z hy hz hy' hz' hij b hb hb'
     obtain ⟨o, x, e1, e2, rfl⟩ := hsub i y hy
     obtain ⟨o', x', f1, f2, rfl⟩ := hsub j z hz
     rw [Ob.has_ren] at hy' hz'
     simp only [BL, hgetD i o e1] at hb
     simp only [BL, hgetD j o' f1] at hb'
     refine h.store.sep o o' x x' e2 f2 hy' hz' (fun e => ?_) b hb hb'
     subst e
     exact hij (nodup_get hnd e1 f1)
   · intro i y b hy hy' hb
     obtain ⟨o, x, e1, e2, rfl⟩ := hsub i y hy
     rw [Ob.has_ren] at hy'
     simp only [BL, hgetD i o e1] at hb
     exact h.store.blk o x b e2 hy' hb
   · rintro b (hb | ⟨o, x, e1, e2, e3, _⟩)
     · exact h.store.hid b hb
     · exact h.store.blk o x b e1 e2 e3
   · intro i y b hy hy' hb
     obtain ⟨o, x, e1, e2, rfl⟩ := hsub i y hy
     rw [Ob.has_ren] at hy'
     simp only [BL, hgetD i o e1] at hb
     rintro (h9 | ⟨o', x', f1, f2, f3, f4⟩)
     · exact h.store.seph o x b e2 hy' hb h9
     · exact h.store.sep o o' x x' e2 f1 hy' f2 (fun e => f4 (e ▸ List.mem_of_getElem? e1)) b hb f3
 have haL : CnL mL sL.n (vw HL w BL sL.ob) (args1.map (SV.ren fun o => os.idxOf? o)) vs := CnL_ren hfL hvL _ _ ha
 refine (hC.2.1 HL w mL BL sL _ vs _ hs hOL haL).imp id fun hcc => hcc.mono ?_
 rintro e w' ⟨m', B', s', out, hK, hO, hS, hR⟩
 -- back in the caller
 let L := os.length
 let g : Nat → Nat := back st1.n os
 let m2 : Nat → Value := fun o => if o < st1.n then m o else m' (L + (o - st1.n))
 let B2 : Nat → Nat → Prop := fun o => match os.idxOf? o with
   | some i => B' i
   | none => if o < st1.n then B1 o else B' (L + (o - st1.n))
 have hLn : L ≤ s'.n := hS.n
 have hgs : ∀ (i o : Nat), os[i]? = some o → g i = o := by
   intro i o hi
   simp only [g, back, (hlt i o hi).1, if_true]
   exact hgetD i o hi
 have hgn : ∀ i, ¬ i < L → g i = st1.n + (i - L) := by
   intro i hi
   simp only [g, back]
   rw [if_neg hi]
 have hmg : ∀ i, i < s'.n → g i < st1.n + (s'.n - L) ∧ m2 (g i) = m' i := by
   intro i hi
   by_cases hiL : i < L
   · have ho : os[i]? = some os[i] := List.getElem?_eq_getElem hiL
     rw [hgs i _ ho]
     have := (hlt i _ ho).2
     refine ⟨by omega, ?_⟩
     simp only [m2, this, if_true]
     have h9 := hS.m i hiL
     simp only [mL, hgetD i _ ho] at h9
     exact h9.symm
   · rw [hgn i hiL]
     refine ⟨by omega, ?_⟩
     have : ¬ (st1.n + (i - L) < st1.n) := by omega
     simp only [m2, this, if_false]
     congr 1; omega
 have hBg : ∀ i, B2 (g i) = B' i := by
   intro i
   by_cases hiL : i < L
   · have ho : os[i]? = some os[i] := List.getElem?_eq_getElem hiL
     rw [hgs i _ ho]
     simp only [B2, idxOf_of hnd ho]
   · rw [hgn i hiL]
     have : os.idxOf? (st1.n + (i - L)) = none := by
       cases e : os.idxOf? (st1.n + (i - L)) with
       | none => rfl
       | some j => have := (hlt j _ (idxOf_get e)).2; omega
     have h2 : ¬ (st1.n + (i - L) < st1.n) := by omega
     simp only [B2, this, h2, if_false]
     congr 1; omega
 have hginj : ∀ i j, i < s'.n → j < s'.n → g i = g j → i = j := by
   intro i j hi hj e
   by_cases hiL : i < L
   · have ho : os[i]? = some os[i] := List.getElem?_eq_getElem hiL
     have h1 := (hlt i _ ho).2
     by_cases hjL : j < L
     · have ho' : os[j]? = some os[j] := List.getElem?_eq_getElem hjL
       rw [hgs i _ ho, hgs j _ ho'] at e
       exact nodup_get hnd ho (by rw [e]; exact ho')
     · rw [hgs i _ ho, hgn j hjL] at e; omega
   · by_cases hjL : j < L
     · have ho' : os[j]? = some os[j] := List.getElem?_eq_getElem hjL
       have h1 := (hlt j _ ho').2
       rw [hgn i hiL, hgs j _ ho'] at e; omega
     · rw [hgn i hiL, hgn j hjL] at e; omega
 let st2 : St := st1.merge os s'
 -- an entry of the store behind the call
 have hent : ∀ o y, lk st2.ob o = some y → (∃ i x, g i = o ∧ lk s'.ob i = some x ∧ y = x.ren fun j => some (g j)) ∨ y = .dead ∧ o ∈ os ∨ (o ∉ os ∧ lk st1.ob o = some y) := by
   intro o y hy
   simp only [st2, St.merge] at hy
   rcases lk_append hy with h1 | ⟨_, h1⟩
   · obtain ⟨i, x, e1, e2, e3⟩ := lk_map h1
     exact .inl ⟨i, x, e1, e2, e3⟩
   · rcases lk_append h1 with h2 | ⟨h2, h3⟩
     · have : o ∈ os := by
         rcases Classical.em (o ∈ os) with h9 | h9
         · exact h9
         · have : lk (os.map fun o => (o, Ob.dead)) o = none := lk_dead_notin h9
           rw [this] at h2; cases h2
       exact .inr (.inl ⟨lk_dead h2, this⟩)
     · exact .inr (.inr ⟨lk_dead_none h2, h3⟩)
 have hBo : ∀ o, o ∉ os → o < st1.n → B2 o = B1 o := by
   intro o ho hl
   have : os.idxOf? o = none := by simpa using ho
   simp only [B2, this, hl, if_true]
 have hown2 : ∀ b, owns B2 st2.ob b → owns B' s'.ob b ∨ ∃ o x, o ∉ os ∧ lk st1.ob o = some x ∧ x.has = true ∧ B1 o b := by
   rintro b ⟨o, y, h1, h2, h3⟩
   rcases hent o y h1 with ⟨i, x, rfl, e2, rfl⟩ | ⟨rfl, _⟩ | ⟨e1, e2⟩
   · rw [hBg] at h3
     rw [Ob.has_ren] at h2
     exact .inl ⟨i, x, e2, h2, h3⟩
   · cases h2
   · rw [hBo o e1 (h.store.lt o y e2)] at h3
     exact .inr ⟨o, y, e1, e2, h2, h3⟩
 have hS2 : Since w m B1 st1.store w' m2 B2 st2.store := by
   refine ⟨hS.os, hS.tape, hS.output, hS.size, fun b hb hn => hS.block b hb (fun h9 => ?_), fun b hb => ?_, ?_, fun o ho => ?_, ?_⟩
   · obtain ⟨i, o, x, e1, e2, e3, e4⟩ := hownL b h9
     exact hn ⟨o, x, e2, e3, e4⟩
   · rcases hown2 b hb with h9 | ⟨o, x, e1, e2, e3, e4⟩
     · rcases hS.own b h9 with h8 | h8
       · obtain ⟨i, o, x, e1, e2, e3, e4⟩ := hownL b h8
         exact .inl ⟨o, x, e2, e3, e4⟩
       · exact .inr h8
     · exact .inl ⟨o, x, e2, e3, e4⟩
   · simp only [st2, St.merge, St.store]; omega
   · exact if_pos ho
   · intro o y b ho h1 h2 h3
     rcases hent o y h1 with ⟨i, x, rfl, e2, rfl⟩ | ⟨rfl, _⟩ | ⟨e1, e2⟩
     · rw [hBg] at h3
       rw [Ob.has_ren] at h2
       have hiL : i < os.length := by
         rcases Nat.lt_or_ge i os.length with h | h
         · exact h
         · rw [hgn i (by omega)] at ho
           have : st1.store.n = st1.n := rfl
           omega
       rcases hS.keep i x b hiL e2 h2 h3 with ⟨y, k1, k2, k3⟩ | k1
       · obtain ⟨o', x', f1, f2, rfl⟩ := hsub i y k1
         rw [Ob.has_ren] at k2
         rw [hgs i o' f1]
         refine .inl ⟨x', f2, k2, ?_⟩
         have : BL i b := k3
         simp only [BL, hgetD i o' f1] at this
         exact this
       · exact .inr k1
     · cases h2
     · rw [hBo o e1 (h.store.lt o y e2)] at h3
       exact .inl ⟨y, e2, h2, h3⟩
 -- blocks of objects that were not handed over
 have hfar : ∀ o x b, o ∉ os → lk st1.ob o = some x → x.has = true → B1 o b → ¬ owns BL sL.ob b := by
   intro o x b ho hx hh hb h9
   obtain ⟨i, o', x', e1, e2, e3, e4⟩ := hownL b h9
   exact h.store.sep o o' x x' hx e2 hh e3 (fun e => ho (e ▸ List.mem_of_getElem? e1)) b hb e4
 have hv2 : ∀ a u, vw HL w' B' s'.ob a u → vw H w' B2 st2.ob a u := by
   rintro a u ⟨v1, v2, v3⟩
   refine ⟨v1, fun h9 => ?_, fun h9 => v3 (.inl h9)⟩
   rcases hown2 _ h9 with h8 | ⟨o, x, e1, e2, e3, e4⟩
   · exact v2 h8
   · exact v3 (.inr ⟨o, x, e2, e3, e4, e1⟩)
 have hfg : ∀ i j, (fun j => some (g j)) i = some j → i < s'.n → j < st2.n ∧ m2 j = m' i := by
   intro i j e hi
   simp only [Option.some.injEq] at e; subst e
   exact hmg i hi
 have hO2 : SOk H w' m2 B2 st2.store := by
   refine ⟨?_, ?_, ?_, ?_, fun b hb => Nat.lt_of_lt_of_le (h.store.hid b hb) hS.size, h.store.gs hS2, ?_⟩
   · intro o y hy
     rcases hent o y hy with ⟨i, x, rfl, e2, rfl⟩ | ⟨rfl, _⟩ | ⟨e1, e2⟩
     · have hi := hO.lt i x e2
       have := ObS_ren (n' := st2.n) (m' := m2) (i := g i) hfg hv2 (hmg i hi).2 (hO.obs i x e2)
       rw [hBg]; exact this
     · trivial
     · rw [hBo o e1 (h.store.lt o y e2)]
       exact (h.store.obs o y e2).keep hS2.n (h.store.lt o y e2) hS2.m hS2.vw (fun b hy' hb => hS.block b (h.store.blk o y b e2 hy' hb) (hfar o y b e1 e2 hy' hb))
   · intro o y hy
     rcases hent o y hy with ⟨i, x, rfl, e2, rfl⟩ | ⟨rfl, e1⟩ | ⟨e1, e2⟩
     · exact (hmg i (hO.lt i x e2)).1
     · obtain ⟨i, hi⟩ := List.mem_iff_getElem?.1 e1
       have := (hlt i o hi).2
       simp only [st2, St.merge, St.store]; omega
     · have := h.store.lt o y e2
       simp only [st2, St.merge, St.store] at this ⊢; omega
   · intro o o' y y' hy hy' hh hh' hoo b hb hb'
     rcases hent o y hy with ⟨i, x, rfl, e2, rfl⟩ | ⟨rfl, _⟩ | ⟨e1, e2⟩
     · rw [hBg] at hb
       rw [Ob.has_ren] at hh
       rcases hent o' y' hy' with ⟨j, z, rfl, f2, rfl⟩ | ⟨rfl, _⟩ | ⟨f1, f2⟩
       · rw [hBg] at hb'
         rw [Ob.has_ren] at hh'
         exact hO.sep i j x z e2 f2 hh hh' (fun e => hoo (by rw [e])) b hb hb'
       · cases hh'
       · rw [hBo o' f1 (h.store.lt o' y' f2)] at hb'
         exact hO.seph i x b e2 hh hb (.inr ⟨o', y', f2, hh', hb', f1⟩)
     · cases hh
     · rw [hBo o e1 (h.store.lt o y e2)] at hb
       rcases hent o' y' hy' with ⟨j, z, rfl, f2, rfl⟩ | ⟨rfl, _⟩ | ⟨f1, f2⟩
       · rw [hBg] at hb'
         rw [Ob.has_ren] at hh'
         exact hO.seph j z b f2 hh' hb' (.inr ⟨o, y, e2, hh, hb, e1⟩)
       · cases hh'
       · rw [hBo o' f1 (h.store.lt o' y' f2)] at hb'
         exact h.store.sep o o' y y' e2 f2 hh hh' hoo b hb hb'
   · intro o y b hy hh hb
     rcases hent o y hy with ⟨i, x, rfl, e2, rfl⟩ | ⟨rfl, _⟩ | ⟨e1, e2⟩
     · rw [hBg] at hb
       rw [Ob.has_ren] at hh
       exact hO.blk i x b e2 hh hb
     · cases hh
     · rw [hBo o e1 (h.store.lt o y e2)] at hb
       exact Nat.lt_of_lt_of_le (h.store.blk o y b e2 hh hb) hS.size
   · intro o y b hy hh hb h9
     rcases hent o y hy with ⟨i, x, rfl, e2, rfl⟩ | ⟨rfl, _⟩ | ⟨e1, e2⟩
     · rw [hBg] at hb
       rw [Ob.has_ren] at hh
       exact hO.seph i x b e2 hh hb (.inl h9)
     · cases hh
     · rw [hBo o e1 (h.store.lt o y e2)] at hb
       exact h.store.seph o y b e2 hh hb h9
 have hfin : ∀ b, b < w.heap.size → ¬ XB b → w'.heap[b]? = w.heap[b]? := fun b hb hno => hS.block b hb fun h9 => by
   obtain ⟨i, o, x, e1, e2, e3, e4⟩ := hownL b h9
   rcases s1.keep o x b (by
     have h8 := h.store.lt o x e2
     have h7 : st1.n = st.n := hn1
     have h6 : st.store.n = st.n := rfl
     have h5 : st1.store.n = st1.n := rfl
     omega) e2 e3 e4 with ⟨y, k1, k2, k3⟩ | k1
   · exact hno (hXB o (List.mem_of_getElem? e1) y b k1 k2 k3)
   · omega
 have hSat : Sat H N w' m2 B2 a st2 := ⟨h.size, h.defers.since hS2, h.slots.since hS2, hO2⟩
 cases out with
 | ret x =>
   cases e with
   | panicked ch => exact hR.elim
   | outgrown => exact hR.elim
   | returned v => exact .inl ⟨v, m2, B2, _, rfl, hK, Sat.putO hSat hd (Cn_ren hfg hv2 _ _ hR), by rw [St.store_putO]; exact s1.trans hS2, hfin⟩
 | pan x =>
   cases e with
   | returned v => exact hR.elim
   | outgrown => exact hR.elim
   | panicked ch =>
     obtain ⟨v, rfl, hR⟩ := hR
     exact .inr ⟨v, _, m2, B2, _, rfl, hK, hSat, s1.trans hS2, Cn_ren hfg hv2 _ _ hR⟩
theorem callS_ok {f : FuncId} {C : Contract} (hC : Sound G P f C) (h : Sat H N w m B a st) {d : Option Nat} (hd : ∀ k, d = some k → k < N) {os : List Nat} {lend : Bool} {args : List SV} {vs : List Value} (ha : CnL m st.n (vw H w B st.ob) args vs) (hXB : ∀ o, o ∈ os → ∀ y b, lk st.ob o = some y → y.has = true → B o b → XB b)
   (hs : callS C d os lend args st K Kp) : HasBody P f ∧ Calls P f vs.toArray w (CallOk H XB N w m B st.store a d K Kp) := by
 cases lend with
 | true => exact callS_lend hC h hd ha hs
 | false => exact callS_give hC h hd ha hXB hs
end
end Go.Ev
