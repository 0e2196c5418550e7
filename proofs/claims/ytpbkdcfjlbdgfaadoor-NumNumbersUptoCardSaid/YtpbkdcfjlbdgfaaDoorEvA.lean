/- The abstract states of the evaluator: deep immutable data, slot values, owned objects; what they say of a frame and a world. -/
import Derived.OrdersHeld
import Derived.Laws.AppendOwn
import Derived.Laws.CopyRow
import Derived.Laws.Cells
import Derived.Laws.Tables
import Derived.Laws.World
import Derived.KernelRfl
set_option linter.unusedVariables false
set_option linter.unusedSimpArgs false
namespace Go.Ev
open Go

/-- Immutable data, as deep as it is. -/
inductive D where
  | v (x : Value)
  | sl (rows : List (List D))
  | pt (cells : List D)
  | ifc (t : TypeId) (x : D)
  deriving Inhabited

abbrev Rdr := Addr → Value → Prop

mutual
def Rd (c : Rdr) : D → Value → Prop
  | .v x, y => y = x ∧ x.oneCell' = true
  | .sl rows, y => ∃ A cap, y = .slice A rows.length cap ∧ rows.length ≤ cap ∧ rows.length ≤ 9223372036854775807 ∧ (rows = [] ∨ ∃ ad sz, A = some ad ∧ ad.spot = none ∧ RdRows c ad sz 0 rows)
  | .pt cells, y => ∃ ad, y = .pointer (some ad) ∧ RdCells c ad 0 cells
  | .ifc t x, y => ∃ z, y = .iface t z ∧ Rd c x z
def RdCells (c : Rdr) (ad : Addr) (k : Nat) : List D → Prop
  | [] => True
  | d :: ds => (∃ u, c (ad.add k) u ∧ Rd c d u) ∧ RdCells c ad (k + 1) ds
def RdRows (c : Rdr) (ad : Addr) (sz k : Nat) : List (List D) → Prop
  | [] => True
  | r :: rs => r.length = sz ∧ RdCells c ad k r ∧ RdRows c ad sz (k + sz) rs
end

mutual
theorem Rd_mono {c c' : Rdr} (h : ∀ a u, c a u → c' a u) : ∀ (d : D) (y : Value), Rd c d y → Rd c' d y
  | .v x, y, hh => by simpa [Rd] using hh
  | .sl rows, y, hh => by
    simp only [Rd] at hh ⊢
    obtain ⟨A, cap, h1, h2, h2', h3⟩ := hh
    exact ⟨A, cap, h1, h2, h2', h3.imp id fun ⟨ad, sz, e, hsp, hr⟩ => ⟨ad, sz, e, hsp, RdRows_mono h ad sz 0 rows hr⟩⟩
  | .pt cells, y, hh => by
    simp only [Rd] at hh ⊢
    obtain ⟨ad, h1, h2⟩ := hh
    exact ⟨ad, h1, RdCells_mono h ad 0 cells h2⟩
  | .ifc t x, y, hh => by
    simp only [Rd] at hh ⊢
    obtain ⟨z, h1, h2⟩ := hh
    exact ⟨z, h1, Rd_mono h x z h2⟩
theorem RdCells_mono {c c' : Rdr} (h : ∀ a u, c a u → c' a u) (ad : Addr) : ∀ (k : Nat) (l : List D), RdCells c ad k l → RdCells c' ad k l
  | _, [], _ => by simp [RdCells]
  | k, d :: ds, hh => by
    simp only [RdCells] at hh ⊢
    obtain ⟨⟨u, h1, h2⟩, h3⟩ := hh
    exact ⟨⟨u, h _ _ h1, Rd_mono h d u h2⟩, RdCells_mono h ad (k + 1) ds h3⟩
theorem RdRows_mono {c c' : Rdr} (h : ∀ a u, c a u → c' a u) (ad : Addr) (sz : Nat) : ∀ (k : Nat) (l : List (List D)), RdRows c ad sz k l → RdRows c' ad sz k l
  | _, [], _ => by simp [RdRows]
  | k, r :: rs, hh => by
    simp only [RdRows] at hh ⊢
    obtain ⟨h1, h2, h3⟩ := hh
    exact ⟨h1, RdCells_mono h ad k r h2, RdRows_mono h ad sz (k + sz) rs h3⟩
end

theorem Rd_one {c : Rdr} : ∀ (d : D) (y : Value), Rd c d y → y.oneCell' = true
  | .v x, y, h => by simp only [Rd] at h; obtain ⟨rfl, h⟩ := h; exact h
  | .sl rows, y, h => by simp only [Rd] at h; obtain ⟨A, cap, rfl, _⟩ := h; rfl
  | .pt cells, y, h => by simp only [Rd] at h; obtain ⟨ad, rfl, _⟩ := h; rfl
  | .ifc t x, y, h => by simp only [Rd] at h; obtain ⟨z, rfl, _⟩ := h; rfl

theorem RdCells_get {c : Rdr} {ad : Addr} : ∀ {l : List D} {k j : Nat} {d : D}, RdCells c ad k l → l[j]? = some d → ∃ u, c (ad.add (k + j)) u ∧ Rd c d u
  | [], _, _, _, _, h => by simp at h
  | d :: ds, k, 0, d', h, e => by
    simp only [RdCells] at h
    simp only [List.getElem?_cons_zero, Option.some.injEq] at e
    subst e; exact h.1
  | d :: ds, k, j + 1, d', h, e => by
    simp only [RdCells] at h
    simp only [List.getElem?_cons_succ] at e
    have := RdCells_get h.2 e
    rwa [show k + 1 + j = k + (j + 1) by omega] at this

theorem RdRows_get {c : Rdr} {ad : Addr} {sz : Nat} : ∀ {l : List (List D)} {k i : Nat} {r : List D}, RdRows c ad sz k l → l[i]? = some r → r.length = sz ∧ RdCells c ad (k + i * sz) r
  | [], _, _, _, _, h => by simp at h
  | r :: rs, k, 0, r', h, e => by
    simp only [RdRows] at h
    simp only [List.getElem?_cons_zero, Option.some.injEq] at e
    subst e; simpa using ⟨h.1, h.2.1⟩
  | r :: rs, k, i + 1, r', h, e => by
    simp only [RdRows] at h
    simp only [List.getElem?_cons_succ] at e
    have := RdRows_get h.2.2 e
    rwa [show k + sz + i * sz = k + (i + 1) * sz by rw [Nat.add_mul]; omega] at this

theorem add_add (a : Addr) (j k : Nat) : (a.add j).add k = a.add (j + k) := by
  unfold Addr.add
  by_cases hj : j = 0
  · subst hj; simp
  · by_cases hk : k = 0
    · subst hk; simp
    · simp [hj, hk, Nat.add_assoc]

theorem add_spot {a : Addr} (h : a.spot = none) (j : Nat) : (a.add j).spot = none := by
  unfold Addr.add; split
  · exact h
  · rfl

/-- The cells from a place on, as cells from another one on. -/
theorem RdCells_at {c : Rdr} {ad : Addr} : ∀ {l : List D} {k j : Nat}, RdCells c ad (j + k) l → RdCells c (ad.add j) k l
  | [], _, _, _ => by simp [RdCells]
  | d :: ds, k, j, h => by
    simp only [RdCells] at h ⊢
    refine ⟨?_, RdCells_at (by rw [← Nat.add_assoc]; exact h.2)⟩
    rw [add_add]; exact h.1
theorem RdCells_drop {c : Rdr} {ad : Addr} : ∀ {l : List D} {k : Nat} (n : Nat), RdCells c ad k l → RdCells c ad (k + n) (l.drop n)
  | l, k, 0, h => by simpa using h
  | [], k, n + 1, h => by simp [RdCells]
  | d :: ds, k, n + 1, h => by
    simp only [RdCells] at h
    simp only [List.drop_succ_cons]
    have := RdCells_drop n h.2
    rwa [show k + 1 + n = k + (n + 1) by omega] at this
theorem RdRows_drop {c : Rdr} {ad : Addr} {sz : Nat} : ∀ {l : List (List D)} {k : Nat} (n : Nat), RdRows c ad sz k l → RdRows c ad sz (k + n * sz) (l.drop n)
  | l, k, 0, h => by simpa using h
  | [], k, n + 1, h => by simp [RdRows]
  | d :: ds, k, n + 1, h => by
    simp only [RdRows] at h
    simp only [List.drop_succ_cons]
    have := RdRows_drop n h.2.2
    rwa [show k + sz + n * sz = k + (n + 1) * sz by rw [Nat.add_mul]; omega] at this
theorem RdRows_take {c : Rdr} {ad : Addr} {sz : Nat} : ∀ {l : List (List D)} {k : Nat} (n : Nat), RdRows c ad sz k l → RdRows c ad sz k (l.take n)
  | l, k, 0, h => by simp [RdRows]
  | [], k, n + 1, h => by simp [RdRows]
  | d :: ds, k, n + 1, h => by
    simp only [RdRows] at h
    simp only [List.take_succ_cons, RdRows]
    exact ⟨h.1, h.2.1, RdRows_take n h.2.2⟩
theorem RdRows_at {c : Rdr} {ad : Addr} {sz : Nat} : ∀ {l : List (List D)} {k j : Nat}, RdRows c ad sz (j + k) l → RdRows c (ad.add j) sz k l
  | [], _, _, _ => by simp [RdRows]
  | d :: ds, k, j, h => by
    simp only [RdRows] at h ⊢
    exact ⟨h.1, RdCells_at h.2.1, RdRows_at (by rw [← Nat.add_assoc]; exact h.2.2)⟩

/-- A row of values reads as a row of data. -/
def RdL (c : Rdr) : List D → List Value → Prop
  | [], [] => True
  | d :: ds, v :: vs => Rd c d v ∧ RdL c ds vs
  | _, _ => False
theorem RdL_mono {c c' : Rdr} (h : ∀ a u, c a u → c' a u) : ∀ (l : List D) (vs : List Value), RdL c l vs → RdL c' l vs
  | [], [], _ => trivial
  | d :: ds, v :: vs, hh => ⟨Rd_mono h _ _ hh.1, RdL_mono h ds vs hh.2⟩
theorem RdL_length {c : Rdr} : ∀ {l : List D} {vs : List Value}, RdL c l vs → vs.length = l.length
  | [], [], _ => rfl
  | d :: ds, v :: vs, hh => by simp [RdL_length hh.2]
theorem RdL_append {c : Rdr} : ∀ {l l' : List D} {vs vs' : List Value}, RdL c l vs → RdL c l' vs' → RdL c (l ++ l') (vs ++ vs')
  | [], _, [], _, _, h => h
  | d :: ds, _, v :: vs, _, hh, h => ⟨hh.1, RdL_append hh.2 h⟩
theorem RdL_one {c : Rdr} : ∀ {l : List D} {vs : List Value}, RdL c l vs → ∀ v ∈ vs, v.oneCell' = true
  | [], [], _, v, hv => by cases hv
  | d :: ds, u :: vs, hh, v, hv => by
    rcases List.mem_cons.1 hv with rfl | hv
    · exact Rd_one _ _ hh.1
    · exact RdL_one hh.2 v hv
theorem RdL_get {c : Rdr} : ∀ {l : List D} {vs : List Value} {i : Nat} {d : D}, RdL c l vs → l[i]? = some d → ∃ v, vs[i]? = some v ∧ Rd c d v
  | [], _, _, _, _, h => by simp at h
  | d :: ds, v :: vs, 0, d', hh, h => by simp at h; subst h; exact ⟨v, rfl, hh.1⟩
  | d :: ds, v :: vs, i + 1, d', hh, h => by simp at h; simpa using RdL_get hh.2 h

/-- What stands in a slot. -/
inductive SV where
  | any
  | d (x : D)
  | own (o : Nat)
  | ptr (o k : Nat)
  | cp (cells : List D)
  | ep (o sz i k : Nat)
  | agg (l : List SV)
  | tup (l : List SV)
  | fn (f : FuncId) (caps : List SV)
  | opt (b : Bool) (x : SV)
  deriving Inhabited

mutual
def Cn (m : Nat → Value) (n : Nat) (c : Rdr) : SV → Value → Prop
  | .any, _ => True
  | .d x, y => Rd c x y
  | .own o, y => o < n ∧ y = m o ∧ y.oneCell' = true
  | .ptr o k, y => o < n ∧ ∃ b, m o = .pointer (some ⟨b, 0, none⟩) ∧ y = .pointer (some ⟨b, k, none⟩)
  | .cp cells, y => ∃ ad, y = .pointer (some ad) ∧ RdCells c ad 0 cells
  | .ep o sz i k, y => o < n ∧ ∃ g len cap, m o = .slice (some ⟨g, 0, none⟩) len cap ∧ y = .pointer (some ⟨g, i * sz + k, none⟩)
  | .agg l, y => ∃ a : Array Value, y = .agg a ∧ CnL m n c l a.toList ∧ ∀ x ∈ a.toList, x.oneCell' = true
  | .tup l, y => ∃ a : Array Value, y = .tuple a ∧ CnL m n c l a.toList
  | .fn f caps, y => ∃ a : Array Value, y = .func (.func f) #[] a ∧ CnL m n c caps a.toList
  | .opt b x, y => if b = true then Cn m n c x y else y = undef
def CnL (m : Nat → Value) (n : Nat) (c : Rdr) : List SV → List Value → Prop
  | [], [] => True
  | s :: ss, v :: vs => Cn m n c s v ∧ CnL m n c ss vs
  | [], _ :: _ => False
  | _ :: _, [] => False
end

mutual
theorem Cn_mono {m m' : Nat → Value} {n n' : Nat} {c c' : Rdr} (hn : n ≤ n') (hm : ∀ o, o < n → m' o = m o) (h : ∀ a u, c a u → c' a u) : ∀ (s : SV) (y : Value), Cn m n c s y → Cn m' n' c' s y
  | .any, y, _ => by simp [Cn]
  | .d x, y, hh => by simp only [Cn] at hh ⊢; exact Rd_mono h _ _ hh
  | .own o, y, hh => by
    simp only [Cn] at hh ⊢
    exact ⟨by omega, by rw [hm o hh.1]; exact hh.2.1, hh.2.2⟩
  | .ptr o k, y, hh => by
    simp only [Cn] at hh ⊢
    exact ⟨by omega, by rw [hm o hh.1]; exact hh.2⟩
  | .cp cells, y, hh => by
    simp only [Cn] at hh ⊢
    obtain ⟨ad, h1, h2⟩ := hh
    exact ⟨ad, h1, RdCells_mono h ad 0 cells h2⟩
  | .ep o sz i k, y, hh => by
    simp only [Cn] at hh ⊢
    exact ⟨by omega, by rw [hm o hh.1]; exact hh.2⟩
  | .agg l, y, hh => by
    simp only [Cn] at hh ⊢
    obtain ⟨a, h1, h2, h3⟩ := hh
    exact ⟨a, h1, CnL_mono hn hm h l _ h2, h3⟩
  | .tup l, y, hh => by
    simp only [Cn] at hh ⊢
    obtain ⟨a, h1, h2⟩ := hh
    exact ⟨a, h1, CnL_mono hn hm h l _ h2⟩
  | .fn f caps, y, hh => by
    simp only [Cn] at hh ⊢
    obtain ⟨a, h1, h2⟩ := hh
    exact ⟨a, h1, CnL_mono hn hm h caps _ h2⟩
  | .opt b x, y, hh => by
    cases b with
    | false => simpa [Cn] using hh
    | true => simp only [Cn, if_true] at hh ⊢; exact Cn_mono hn hm h x y hh
theorem CnL_mono {m m' : Nat → Value} {n n' : Nat} {c c' : Rdr} (hn : n ≤ n') (hm : ∀ o, o < n → m' o = m o) (h : ∀ a u, c a u → c' a u) : ∀ (l : List SV) (vs : List Value), CnL m n c l vs → CnL m' n' c' l vs
  | [], [], _ => by simp [CnL]
  | s :: ss, v :: vs, hh => by
    simp only [CnL] at hh ⊢
    exact ⟨Cn_mono hn hm h s v hh.1, CnL_mono hn hm h ss vs hh.2⟩
  | [], _ :: _, hh => by simp [CnL] at hh
  | _ :: _, [], hh => by simp [CnL] at hh
end

section
variable {m : Nat → Value} {n : Nat} {c : Rdr}
theorem CnL_length : ∀ {l : List SV} {vs : List Value}, CnL m n c l vs → vs.length = l.length
  | [], [], _ => rfl
  | d :: ds, v :: vs, hh => by simp only [CnL] at hh; simp [CnL_length hh.2]
  | [], _ :: _, hh => by simp [CnL] at hh
  | _ :: _, [], hh => by simp [CnL] at hh
theorem CnL_get : ∀ {l : List SV} {vs : List Value} {i : Nat} {s : SV}, CnL m n c l vs → l[i]? = some s → ∃ v, vs[i]? = some v ∧ Cn m n c s v
  | [], _, _, _, _, h => by simp at h
  | d :: ds, [], _, _, hh, _ => by simp [CnL] at hh
  | d :: ds, v :: vs, 0, d', hh, h => by simp only [CnL] at hh; simp at h; subst h; exact ⟨v, rfl, hh.1⟩
  | d :: ds, v :: vs, i + 1, d', hh, h => by simp only [CnL] at hh; simp at h; simpa using CnL_get hh.2 h
theorem CnL_append : ∀ {l l' : List SV} {vs vs' : List Value}, CnL m n c l vs → CnL m n c l' vs' → CnL m n c (l ++ l') (vs ++ vs')
  | [], _, [], _, _, h => h
  | d :: ds, _, v :: vs, _, hh, h => by simp only [CnL, List.cons_append] at hh ⊢; exact ⟨hh.1, CnL_append hh.2 h⟩
  | [], _, _ :: _, _, hh, _ => by simp [CnL] at hh
  | _ :: _, _, [], _, hh, _ => by simp [CnL] at hh
theorem CnL_take : ∀ {l : List SV} {vs : List Value} (k : Nat), CnL m n c l vs → CnL m n c (l.take k) (vs.take k)
  | [], [], k, h => by simpa using h
  | d :: ds, v :: vs, 0, hh => by simp [CnL]
  | d :: ds, v :: vs, k + 1, hh => by simp only [CnL, List.take_succ_cons] at hh ⊢; exact ⟨hh.1, CnL_take k hh.2⟩
  | [], _ :: _, _, hh => by simp [CnL] at hh
  | _ :: _, [], _, hh => by simp [CnL] at hh
theorem CnL_drop : ∀ {l : List SV} {vs : List Value} (k : Nat), CnL m n c l vs → CnL m n c (l.drop k) (vs.drop k)
  | [], [], k, h => by simpa using h
  | d :: ds, v :: vs, 0, hh => by simpa using hh
  | d :: ds, v :: vs, k + 1, hh => by simp only [CnL] at hh; simpa using CnL_drop k hh.2
  | [], _ :: _, _, hh => by simp [CnL] at hh
  | _ :: _, [], _, hh => by simp [CnL] at hh
/-- Data that are read are values of slots. -/
theorem CnL_of_RdL : ∀ {l : List D} {vs : List Value}, RdL c l vs → CnL m n c (l.map .d) vs
  | [], [], _ => by simp [CnL]
  | d :: ds, v :: vs, hh => by simp only [List.map_cons, CnL, Cn]; exact ⟨hh.1, CnL_of_RdL hh.2⟩
end

end Go.Ev
