/- EdfmtRaw: line feeds of the lines that are edited do not matter Part 5 of 6. -/
import Derived.Test.YtlghobefhmpfkaaGreatDoorProg
import Derived.WalkKit
import Derived.RecoverIn
import Derived.RowKitTokens
import Derived.Below
import Derived.Lib.Join
import Derived.LaidEql
import Derived.Stop.Asserts
import Derived.RegionTactic
import Derived.ChangeAlike
import Derived.Test.YtlghobefhmpfkaaGreatDoorEr1
import Derived.Test.YtlghobefhmpfkaaGreatDoorEr2
import Derived.Test.YtlghobefhmpfkaaGreatDoorEr3
import Derived.Test.YtlghobefhmpfkaaGreatDoorEr4
set_option linter.unusedVariables false
set_option linter.unusedSimpArgs false
namespace Go.Proofs.YtlghobefhmpfkaaGreatDoor
open Go Go.Ev Go.Rcs
set_option maxRecDepth 100000
variable {G : World → Prop}
theorem owns_congr {B : Nat → Nat → Prop} {ob ob' : List (Nat × Ob)} (h : ∀ k, lk ob k = lk ob' k) : owns B ob = owns B ob' := by
  funext b; simp only [owns, h]
theorem vw_congr {H : Hd G} {w : World} {B : Nat → Nat → Prop} {ob ob' : List (Nat × Ob)} (h : ∀ k, lk ob k = lk ob' k) : vw H w B ob = vw H w B ob' := by
  funext a u; simp only [vw, owns_congr h]
theorem sok_congr {H : Hd G} {w : World} {m : Nat → Value} {B : Nat → Nat → Prop} {s s' : Store} (h : ∀ k, lk s.ob k = lk s'.ob k) (hn : s.n = s'.n) (hO : SOk H w m B s) : SOk H w m B s' :=
  ⟨fun o x hx => by rw [← hn, ← vw_congr h]; exact hO.obs o x (by rw [h]; exact hx), fun o x hx => by rw [← hn]; exact hO.lt o x (by rw [h]; exact hx),
   fun o o' x x' hx hx' => hO.sep o o' x x' (by rw [h]; exact hx) (by rw [h]; exact hx'), fun o x b hx => hO.blk o x b (by rw [h]; exact hx), hO.hid, hO.gw, fun o x b hx => hO.seph o x b (by rw [h]; exact hx)⟩
theorem since_congr {w w' : World} {m m' : Nat → Value} {B B' : Nat → Nat → Prop} {s s' s2 : Store} (h : ∀ k, lk s'.ob k = lk s2.ob k) (hn : s'.n = s2.n) (hS : Since w m B s w' m' B' s') : Since w m B s w' m' B' s2 :=
  ⟨hS.os, hS.tape, hS.output, hS.size, hS.block, fun b hb => hS.own b (by rw [owns_congr h]; exact hb), hn ▸ hS.n, hS.m, fun o x b ho hx => hS.keep o x b ho (by rw [h]; exact hx)⟩
theorem own_sl {w : World} {e : TypeId} {v : Value} {n : Nat} {xs : List Value} (h : w.ownsRow 0 e 1 v n xs) : ∃ A tc, v = .slice A n tc ∧ n ≤ tc ∧ SlCells w A xs ∧ xs.length = n := by
  have hl := h.1
  rw [Nat.mul_one] at hl
  rcases h.2 with ⟨rfl, rfl⟩ | ⟨g, cap, cur, rfl, _, hg, hn, _⟩
  · exact ⟨none, 0, rfl, Nat.le_refl _, fun h0 => by omega, hl⟩
  · exact ⟨some ⟨g, 0, none⟩, cap, rfl, hn, fun _ => ⟨_, rfl, h.cells rfl⟩, hl⟩
theorem flat1 {l : List (List D)} (h : ∀ r ∈ l, r.length = 1) : l.flatten.length = l.length := by rw [flat_length h, Nat.mul_one]
theorem RdL_take' {c : Rdr} : ∀ {l : List D} {vs : List Value} (k : Nat), RdL c l vs → RdL c (l.take k) (vs.take k)
  | [], [], k, h => by simpa using h
  | d :: ds, v :: vs, 0, hh => by simp [RdL]
  | d :: ds, v :: vs, k + 1, hh => by simpa [RdL] using ⟨hh.1, RdL_take' k hh.2⟩
theorem RdL_drop' {c : Rdr} : ∀ {l : List D} {vs : List Value} (k : Nat), RdL c l vs → RdL c (l.drop k) (vs.drop k)
  | [], [], k, h => by simpa using h
  | d :: ds, v :: vs, 0, hh => by simpa using hh
  | d :: ds, v :: vs, k + 1, hh => by simpa using RdL_drop' k hh.2
theorem flat_take1 : ∀ {l : List (List D)} (k : Nat), (∀ r ∈ l, r.length = 1) → (l.take k).flatten = l.flatten.take k
  | [], k, h => by simp
  | r :: l, 0, h => by simp
  | r :: l, k + 1, h => by
    obtain ⟨x, rfl⟩ := List.length_eq_one_iff.1 (h r (by simp))
    have ih := flat_take1 k (fun y hy => h y (List.mem_cons_of_mem _ hy))
    simp only [List.take_succ_cons, List.flatten_cons, List.cons_append, List.nil_append, ih]
theorem flat_drop1 : ∀ {l : List (List D)} (k : Nat), (∀ r ∈ l, r.length = 1) → (l.drop k).flatten = l.flatten.drop k
  | [], k, h => by simp
  | r :: l, 0, h => by simp
  | r :: l, k + 1, h => by
    obtain ⟨x, rfl⟩ := List.length_eq_one_iff.1 (h r (by simp))
    have ih := flat_drop1 k (fun y hy => h y (List.mem_cons_of_mem _ hy))
    simp only [List.drop_succ_cons, List.flatten_cons, List.cons_append, List.nil_append, ih]
def curE (p n : Nat) : Int := if n = 0 then -1 else (p : Int) + n - 1
set_option maxHeartbeats 2000000 in
theorem repl_core {H : Hd G} {w : World} {m : Nat → Value} {B : Nat → Nat → Prop} {s : Store} (hO : SOk H w m B s) {t : TypeId} {c : Int} {x y : D} {T l : List (List D)}
    (h0 : lk s.ob 0 = some (.cells t [.own 1, .d (.v (.int .i64 c)), .d x, .d y])) (h1 : lk s.ob 1 = some (.row 9 1 T)) {p n : Nat} (hp : p + n ≤ T.length) (hT : T.length ≤ 1099511627776) (hl : l.length ≤ 1099511627776)
    {v0 v1 v2 : Value} (a0 : Cn m s.n (vw H w B s.ob) (.ptr 0 0) v0) (a1 : v1 = .int .i64 p) (a2 : v2 = .int .i64 n) {LA : Option Addr} {lc : Nat} {ys : List Value} (hlc : l.length ≤ lc)
    (hys : RdL (vw H w B s.ob) l.flatten ys) (hlr : ∀ r ∈ l, r.length = 1) (hLA : SlCells w LA ys) :
    HasBody Tryz.prog 96 ∧ Calls Tryz.prog 96 #[v0, v1, v2, .slice LA l.length lc] w fun e w' => e = .returned (.tuple #[]) ∧ ∃ m' B',
      Since w m B s w' m' B' ⟨s.n + 1, (0, .cells t [.own s.n, .d (.v (.int .i64 (curE p l.length))), .d x, .d y]) :: (s.n, .row 9 1 (T.take p ++ (l ++ T.drop (p + n)))) :: (1, .dead) :: s.ob⟩ ∧
      SOk H w' m' B' ⟨s.n + 1, (0, .cells t [.own s.n, .d (.v (.int .i64 (curE p l.length))), .d x, .d y]) :: (s.n, .row 9 1 (T.take p ++ (l ++ T.drop (p + n)))) :: (1, .dead) :: s.ob⟩ := by
  refine ⟨⟨Tryz.f96, by kernel_rfl, by kernel_rfl, by kernel_rfl⟩, ?_⟩
  subst a1; subst a2
  have n0 := hO.lt 0 _ h0
  have n1 := hO.lt 1 _ h1
  obtain ⟨b, cs, g1, g2, g3, g4, g5⟩ := hO.obs 0 _ h0
  obtain ⟨xs, r1, r2, r3, r4⟩ := hO.obs 1 _ h1
  simp only [Cn] at a0
  obtain ⟨_, b', e1, rfl⟩ := a0
  rw [g1] at e1
  simp only [Value.pointer.injEq, Option.some.injEq, Addr.mk.injEq, and_true] at e1
  subst e1
  obtain ⟨cl⟩ := cs
  match cl, g2, g3, g4 with
  | [u0, u1, u2, u3], g2, g3, g4 =>
    simp only [CnL, Cn, and_true] at g3
    obtain ⟨⟨_, rfl, _⟩, hc1, hx, hy⟩ := g3
    obtain ⟨A, tc, hm1, htc, hA, hxl⟩ := own_sl r1
    rw [hm1] at g2
    have hyl : ys.length = l.length := by rw [RdL_length hys, flat1 hlr]
    have hox := RdL_one r2
    have hoy := RdL_one hys
    have hbs : b < w.heap.size := (Array.getElem?_eq_some_iff.1 g2).1
    refine (repl_run w b t A T.length tc u1 u2 u3 p n LA l.length lc xs ys _ _ rfl rfl g2 hp htc hlc ⟨hT, hl⟩ hxl hA hyl hLA hox hoy).mono ?_
    rintro e w' ⟨rfl, g, k1, k2, k3, k4, k5, k6, k7, k8⟩
    refine ⟨rfl, ?_⟩
    have hNl : (xs.take p ++ (ys ++ xs.drop (p + n))).length = (T.take p ++ (l ++ T.drop (p + n))).length := by
      simp only [List.length_append, List.length_take, List.length_drop, hxl, hyl]
    have hNm : (T.take p ++ (l ++ T.drop (p + n))).length ≤ 2199023255552 := by
      simp only [List.length_append, List.length_take, List.length_drop]; omega
    have hgl : g < w'.heap.size := (Array.getElem?_eq_some_iff.1 k2).1
    have hgb : g ≠ b := by omega
    have hnew : ∀ r ∈ T.take p ++ (l ++ T.drop (p + n)), r.length = 1 := by
      intro r hr
      rcases List.mem_append.1 hr with h | h
      · exact r3 r (List.mem_of_mem_take h)
      · rcases List.mem_append.1 h with h | h
        · exact hlr r h
        · exact r3 r (List.mem_of_mem_drop h)
    have hrd : RdL (vw H w B s.ob) (T.take p ++ (l ++ T.drop (p + n))).flatten (xs.take p ++ (ys ++ xs.drop (p + n))) := by
      rw [List.flatten_append, List.flatten_append, flat_take1 p r3, flat_drop1 (p + n) r3]
      exact RdL_append (RdL_take' p r2) (RdL_append hys (RdL_drop' (p + n) r2))
    generalize hw1 : ({ w' with heap := w'.heap.setIfInBounds b (.cells #[.slice A T.length tc, u1, u2, u3] t (0, 0)) } : World) = w1
    have q1 : ∀ k, k ≠ b → w1.heap[k]? = w'.heap[k]? := fun k hk => by subst hw1; exact Array.getElem?_setIfInBounds_ne (fun e => hk e.symm)
    have q2 : w1.heap[b]? = some (.cells #[.slice A T.length tc, u1, u2, u3] t (0, 0)) := by subst hw1; exact Array.getElem?_setIfInBounds_self_of_lt (by omega)
    have q3 : ∀ k, k < w.heap.size → w1.heap[k]? = w.heap[k]? := fun k hk => by
      by_cases e : k = b
      · subst e; rw [q2, g2]
      · rw [q1 k e, k8 k hk e]
    have q4 : w1.heap.size = w'.heap.size := by subst hw1; simp
    have q5 : w1.os = w'.os := by subst hw1; rfl
    have q6 : w1.tape = w'.tape := by subst hw1; rfl
    have q7 : w1.output = w'.output := by subst hw1; rfl
    have mv := SOk.mv (w1 := w1) hO 1 _ (.row 9 1 (T.take p ++ (l ++ T.drop (p + n)))) h1 rfl (.slice (some ⟨g, 0, none⟩) (xs.take p ++ (ys ++ xs.drop (p + n))).length (xs.take p ++ (ys ++ xs.drop (p + n))).length) (fun z => z = g)
      (q5.trans k4) (q6.trans k5) (q7.trans k6) (by omega) (fun k hk _ => q3 k hk) (fun z _ hz => by subst hz; exact ⟨by omega, .inr k1⟩) (fun c hc _ => by
        refine ⟨xs.take p ++ (ys ++ xs.drop (p + n)), ⟨by rw [Nat.mul_one]; exact hNl, .inr ⟨g, (T.take p ++ (l ++ T.drop (p + n))).length, (xs.take p ++ (ys ++ xs.drop (p + n))).toArray, ?_, Nat.zero_le _, (q1 g hgb).trans k2, Nat.le_refl _, ?_, ?_, ?_⟩⟩, RdL_mono hc _ _ hrd, hnew, fun z => ?_⟩
        · show (if s.n = s.n then _ else _) = _
          rw [if_pos rfl, hNl]
        · have : maxLen = 9223372036854775807 := by decide
          omega
        · rw [Nat.mul_one, ← hNl]; exact List.size_toArray
        · rw [Nat.mul_one, ← hNl]; exact List.take_length
        · show z = g ↔ Value.ownBlock (if s.n = s.n then _ else _) = some z
          rw [if_pos rfl]; simp only [Value.ownBlock, Option.some.injEq]; exact eq_comm)
    have z0 : (0 : Nat) ≠ s.n := by omega
    have up := SOk.upd (w1 := w') mv.2 0 (.cells t [.own 1, .d (.v (.int .i64 c)), .d x, .d y]) (.cells t [.own s.n, .d (.v (.int .i64 (curE p l.length))), .d x, .d y])
      (by simp only [lk_cons]; rw [if_neg (by omega), if_neg (by decide)]; exact h0) rfl (fun z => z = b)
      q5.symm q6.symm q7.symm (by omega) (fun k hk hn => by
        rw [q1 k]
        intro e
        refine hn ?_
        show (if (0 : Nat) = s.n then (fun z => z = g) else B 0) k
        rw [if_neg z0]
        exact (g5 k).2 e)
      (fun z _ hz => ⟨by omega, .inl (by
        show (if (0 : Nat) = s.n then (fun z => z = g) else B 0) z
        rw [if_neg z0]
        exact (g5 z).2 hz)⟩)
      (fun c hc _ => by
        refine ⟨b, _, ?_, k3, ?_, ?_, fun z => Iff.rfl⟩
        · show (if (0 : Nat) = s.n then _ else _) = _
          rw [if_neg z0]; exact g1
        · simp only [CnL, Cn, and_true]
          refine ⟨⟨by omega, ?_, rfl⟩, ⟨?_, rfl⟩, Rd_mono (fun a u h => hc a u (mv.1.vw a u h)) _ _ hx, Rd_mono (fun a u h => hc a u (mv.1.vw a u h)) _ _ hy⟩
          · exact (if_pos trivial).symm
          · rw [curE, hyl]
        · intro z hz
          simp only [List.mem_cons, List.not_mem_nil, or_false] at hz
          rcases hz with rfl | rfl | rfl | rfl
          · rfl
          · rfl
          · exact g4 _ (by simp)
          · exact g4 _ (by simp))
    exact ⟨_, _, mv.1.trans up.1, up.2⟩
  | [], _, h, _ => simp [CnL] at h
  | [_], _, h, _ => simp [CnL] at h
  | [_, _], _, h, _ => simp [CnL] at h
  | [_, _, _], _, h, _ => simp [CnL] at h
  | _ :: _ :: _ :: _ :: _ :: _, _, h, _ => simp [CnL] at h
def CRepl : Contract := stC fun args st => match args, st with
  | [.ptr 0 0, .d (.v (.int .i64 p)), .d (.v (.int .i64 n)), .d (.sl l)], ⟨2, [(0, .cells t [.own 1, .d (.v (.int .i64 c)), .d x, .d y]), (1, .row u z T)]⟩ =>
    some ((0 ≤ p ∧ 0 ≤ n ∧ p + n ≤ T.length ∧ T.length ≤ 1099511627776 ∧ l.length ≤ 1099511627776 ∧ (u = 9 ∧ z = 1) ∧ ∀ r ∈ l, r.length = 1), .tup [], ⟨3, [(0, .cells t [.own 2, .d (.v (.int .i64 (curE p.toNat l.length))), .d x, .d y]), (1, .dead), (2, .row 9 1 (T.take p.toNat ++ (l ++ T.drop (p.toNat + n.toNat))))]⟩)
  | _, _ => none
theorem s96 : Sound G Tryz.prog 96 CRepl := by
  refine ⟨stC_lawful _, fun H w m B s args vs K hK hO ha => ?_, SoundIt.none⟩
  unfold CRepl at hK
  rw [stC_wp] at hK
  obtain ⟨z, h1, h2, h3⟩ := need_ex hK
  split at h1 <;> simp only [Option.some.injEq, reduceCtorEq] at h1
  subst h1
  rename_i p n l t c x y u z T
  simp only at h2 h3
  obtain ⟨p0, n0, hp, hT, hl, ⟨rfl, rfl⟩, hlr⟩ := h2
  obtain ⟨p, rfl⟩ := Int.eq_ofNat_of_zero_le p0
  obtain ⟨n, rfl⟩ := Int.eq_ofNat_of_zero_le n0
  simp only [Int.toNat_natCast] at h3
  match vs, ha with
  | [v0, v1, v2, v3], ha =>
    simp only [CnL, and_true] at ha
    obtain ⟨a0, a1, a2, a3⟩ := ha
    have a4 := a3
    simp only [Cn, Rd] at a4
    obtain ⟨LA, lc, rfl, hlc, _⟩ := a4
    obtain ⟨A', cap', ys, q1, r2, q3, q4⟩ := source_ok (st := ⟨[], 2, [(0, .cells t [.own 1, .d (.v (.int .i64 c)), .d x, .d y]), (1, .row 9 1 T)]⟩) hO a3 (rows := l) rfl hlr
    simp only [Value.slice.injEq, true_and] at q1
    obtain ⟨rfl, rfl⟩ := q1
    have hLA : SlCells w LA ys := fun h0 => by
      obtain ⟨ad, e1, _⟩ := q4 0 _ (List.getElem?_eq_getElem h0)
      refine ⟨ad, e1, fun j v hj => ?_⟩
      obtain ⟨ad', e2, hc⟩ := q4 j v hj
      rw [e1] at e2
      simp only [Option.some.injEq] at e2
      subst e2
      exact hc
    obtain ⟨hB, hC⟩ := repl_core hO (t := t) (c := c) (x := x) (y := y) (T := T) (l := l) rfl rfl (p := p) (n := n) (by omega) hT hl a0 (of_v a1) (of_v a2) hlc r2 hlr hLA
    refine ⟨hB, hC.mono ?_⟩
    rintro e w' ⟨rfl, m', B', hS, hO'⟩
    have hlk : ∀ k, lk ((0, Ob.cells t [.own 2, .d (.v (.int .i64 (curE p l.length))), .d x, .d y]) :: (2, .row 9 1 (T.take p ++ (l ++ T.drop (p + n)))) :: (1, .dead) :: [(0, .cells t [.own 1, .d (.v (.int .i64 c)), .d x, .d y]), (1, .row 9 1 T)]) k =
        lk [(0, Ob.cells t [.own 2, .d (.v (.int .i64 (curE p l.length))), .d x, .d y]), (1, .dead), (2, .row 9 1 (T.take p ++ (l ++ T.drop (p + n))))] k := by
      intro k
      simp only [lk_cons]
      by_cases e0 : 0 = k
      · subst e0; rfl
      by_cases e1 : 1 = k
      · subst e1; rfl
      by_cases e2 : 2 = k
      · subst e2; rfl
      simp only [e0, e1, e2, if_false]
    refine ⟨m', _, _, _, h3, sok_congr ?_ ?_ hO', since_congr ?_ ?_ hS, ?_⟩
    · exact hlk
    · rfl
    · exact hlk
    · rfl
    simp only [OutOk]
    exact ⟨_, rfl, trivial⟩
  | [], ha => simp [CnL] at ha
  | [_], ha => simp [CnL] at ha
  | [_, _], ha => simp [CnL] at ha
  | [_, _, _], ha => simp [CnL] at ha
  | _ :: _ :: _ :: _ :: _ :: _, ha => simp [CnL] at ha
def cmK (t : TypeId) (rows T : List (List D)) (c : Int) (K : Out → Store → Prop) : Except Fl (Ed × Nat) → Prop
  | .ok (y, a) => K (.ret (.tup [])) ⟨3, [(0, .cells t [.own 2, .d (.v (.int .i64 y.2)), .d (.sl rows), .d (.v (.int .i64 (a : Nat)))]), (1, .dead), (2, .row 9 1 (strRows y.1))]⟩ ∧ K (.ret (.tup [])) ⟨2, [(0, .cells t [.own 1, .d (.v (.int .i64 y.2)), .d (.sl rows), .d (.v (.int .i64 (a : Nat)))]), (1, .row 9 1 (strRows y.1))]⟩
  | .error (a, e) => K (.pan (.d (fltV a e))) ⟨2, [(0, .cells t [.own 1, .d (.v (.int .i64 c)), .d (.sl rows), .d (.v (.int .i64 a))]), (1, .row 9 1 T)]⟩
def cmdW (args : List SV) (st : Store) (K : Out → Store → Prop) : Prop := match args, st with
  | [.ptr 0 0], ⟨2, [(0, .cells t [.own 1, .d (.v (.int .i64 c)), .d (.sl rows), .d (.v (.int .i64 at_))]), (1, .row u z T)]⟩ =>
    need ((unStr rows).bind fun L => (unStr T).map fun X => (L, X)) fun y => ((u = 9 ∧ z = 1) ∧ okE (y.2, c) ∧ (0 ≤ at_ ∧ at_ ≤ y.1.length) ∧ smL y.1 ∧ smL y.2) ∧ cmK t rows T c K (cmdE y.1 (y.2, c) at_.toNat)
  | _, _ => False
def CCmdE : Contract := wpC cmdW
theorem cmdE_wp {t u : TypeId} {z : Nat} {T rows : List (List D)} {c at_ : Int} {K : Out → Store → Prop} :
    CCmdE.wp [.ptr 0 0] ⟨2, [(0, .cells t [.own 1, .d (.v (.int .i64 c)), .d (.sl rows), .d (.v (.int .i64 at_))]), (1, .row u z T)]⟩ K =
      need ((unStr rows).bind fun L => (unStr T).map fun X => (L, X)) fun y => ((u = 9 ∧ z = 1) ∧ okE (y.2, c) ∧ (0 ≤ at_ ∧ at_ ≤ y.1.length) ∧ smL y.1 ∧ smL y.2) ∧ cmK t rows T c K (cmdE y.1 (y.2, c) at_.toNat) := rfl
@[congr] theorem cmdE_congr {l l' : List SV} {s s' : Store} {K : Out → Store → Prop} (h : l = l') (h2 : s = s') : CCmdE.wp l s K = CCmdE.wp l' s' K := by rw [h, h2]
theorem cmK_ok {t : TypeId} {rows T : List (List D)} {c : Int} {K : Out → Store → Prop} {y : Ed} {a : Nat} : cmK t rows T c K (.ok (y, a)) = (K (.ret (.tup [])) ⟨3, [(0, .cells t [.own 2, .d (.v (.int .i64 y.2)), .d (.sl rows), .d (.v (.int .i64 (a : Nat)))]), (1, .dead), (2, .row 9 1 (strRows y.1))]⟩ ∧ K (.ret (.tup [])) ⟨2, [(0, .cells t [.own 1, .d (.v (.int .i64 y.2)), .d (.sl rows), .d (.v (.int .i64 (a : Nat)))]), (1, .row 9 1 (strRows y.1))]⟩) := rfl
theorem cmK_error {t : TypeId} {rows T : List (List D)} {c : Int} {K : Out → Store → Prop} {a e : Int} : cmK t rows T c K (.error (a, e)) = K (.pan (.d (fltV a e))) ⟨2, [(0, .cells t [.own 1, .d (.v (.int .i64 c)), .d (.sl rows), .d (.v (.int .i64 a))]), (1, .row 9 1 T)]⟩ := rfl
theorem put_rows (X l : List (List UInt8)) (p n : Nat) : (strRows X).take p ++ (strRows l ++ (strRows X).drop (p + n)) = strRows (putE X p n l).1 := by
  simp [strRows, putE, List.map_take, List.map_drop]
theorem put_non2 (X : List (List UInt8)) (p n : Nat) : (strRows X).take p ++ (strRows X).drop (p + n) = strRows (putE X p n []).1 := by
  simp [strRows, putE, List.map_take, List.map_drop]
theorem cur_none (p : Nat) : curE p 0 = -1 := rfl
theorem put_cur (X l : List (List UInt8)) (p n : Nat) : curE p l.length = (putE X p n l).2 := by
  unfold curE putE
  cases l <;> simp
set_option maxHeartbeats 16000000 in
theorem s47 (hE : ∀ w, G w → ErrR w) : Sound G Tryz.prog 47 CCmdE := by
  refine sd47 (T := tabT [(95, CNextE), (48, CStopE), (97, CBodyE), (96, CRepl), (98, CPlaceE)]) (tab_cons s95 (tab_cons s48 (tab_cons s97 (tab_cons s96 (tab_cons (s98 hE) tab_nil))))) (wpC_lawful _) (fun args st K hW => ?_)
  replace hW : cmdW args st K := hW
  unfold cmdW at hW
  split at hW
  rotate_left
  · exact hW.elim
  rename_i t c rows at_ u z T0
  obtain ⟨y, hy, ⟨⟨rfl, rfl⟩, hok, ⟨t0, t1⟩, ⟨hLl, hL⟩, hXl, hX⟩, hk⟩ := need_ex hW
  obtain ⟨L, hL0, hy⟩ := Option.bind_eq_some_iff.1 hy
  obtain ⟨X, hX0, rfl⟩ := Option.map_eq_some_iff.1 hy
  rw [unStr_eq hL0] at *
  rw [unStr_eq hX0] at *
  obtain ⟨k, rfl⟩ := Int.eq_ofNat_of_zero_le t0
  rw [Int.toNat_natCast] at hk
  dsimp only at hk hok hL hLl hX hXl t1
  refine ⟨Nat.le_of_ble_eq_true rfl, ?_⟩
  unfold cmdE at hk
  cases hx : nextL L k with
  | error x =>
    obtain ⟨xa, xe⟩ := x
    rw [hx] at hk; dsimp only at hk
    rw [cmK_error] at hk
    unfold fltV at hk
    refine ⟨[0, 1], [0, 1], ?_⟩
    simp -dsimp -implicitDefEqProofs only [S47, R47, S47_0, S47_1, S47_2, S47_3, S47_4, S47_5, S47_6, S47_7, S47r1, S47r2, S47r3, S47r4, S47r5, S47r6, S47r7, S47r8, hx, impF, CNextE, CStopE, CPlaceE, CRepl, fltV, Ev.panK, edC_wp, bodE_wp, bodK_ok, bodK_error, edK_ok, edK_error, plK, map_ok, map_error, strA, unStr_rows, strRows_len, strRows_all, ↓Ev.P, Ev.Q, Bool.cond_true, Bool.cond_false, eq_self, forall_eq_or_imp, implies_true, forall_const, forall_eq, ↓reduceIte, reduceIte, Nat.reduceEqDiff, Nat.reduceAdd, reduceCtorEq, Nat.reduceSub, Int.reduceToNat, Int.reduceLE, Int.reduceLT, Int.reduceNeg, Nat.reduceBEq, Nat.reduceMul, Nat.reduceLeDiff, Nat.reduceMod, UInt8.reduceOfNat, Nat.reduceLT, Int.reduceEq, Int.reduceAdd, Int.reduceSub, Int.reduceMul]
    repeat' (first | with_reducible assumption | refine And.intro ?_ ?_ | intro _ | (rw [Ev.xStp_eq]; simp -dsimp -implicitDefEqProofs only [hx, impF, CNextE, CStopE, CPlaceE, CRepl, fltV, Ev.panK, edC_wp, bodE_wp, bodK_ok, bodK_error, edK_ok, edK_error, plK, map_ok, map_error, strA, unStr_rows, strRows_len, strRows_all, ↓Ev.P, Ev.Q, Bool.cond_true, Bool.cond_false, eq_self, forall_eq_or_imp, implies_true, forall_const, forall_eq, ↓reduceIte, reduceIte, Nat.reduceEqDiff, Nat.reduceAdd, reduceCtorEq, Nat.reduceSub, Int.reduceToNat, Int.reduceLE, Int.reduceLT, Int.reduceNeg, Nat.reduceBEq, Nat.reduceMul, Nat.reduceLeDiff, Nat.reduceMod, UInt8.reduceOfNat, Nat.reduceLT, Int.reduceEq, Int.reduceAdd, Int.reduceSub, Int.reduceMul]))
    all_goals try omega
    all_goals exact hk
  | ok x =>
    obtain ⟨s, a⟩ := x
    obtain ⟨ha, hlt, hs⟩ := nextL_le hx
    have hsl : s.length ≤ 1099511627776 := by rw [hs]; exact Nat.le_trans (bare_len _) (hL _ (getD_in hlt))
    clear hs
    rw [hx] at hk; dsimp only at hk
    by_cases h1 : s = []
    · rw [if_pos h1] at hk
      rw [cmK_error] at hk
      unfold fltV at hk
      refine ⟨[0, 1], [0, 1], ?_⟩
      simp -dsimp -implicitDefEqProofs only [S47, R47, S47_0, S47_1, S47_2, S47_3, S47_4, S47_5, S47_6, S47_7, S47r1, S47r2, S47r3, S47r4, S47r5, S47r6, S47r7, S47r8, hx, h1, impF, CNextE, CStopE, CPlaceE, CRepl, fltV, Ev.panK, edC_wp, bodE_wp, bodK_ok, bodK_error, edK_ok, edK_error, plK, map_ok, map_error, strA, unStr_rows, strRows_len, strRows_all, ↓Ev.P, Ev.Q, Bool.cond_true, Bool.cond_false, eq_self, forall_eq_or_imp, implies_true, forall_const, forall_eq, ↓reduceIte, reduceIte, Nat.reduceEqDiff, Nat.reduceAdd, reduceCtorEq, Nat.reduceSub, Int.reduceToNat, Int.reduceLE, Int.reduceLT, Int.reduceNeg, Nat.reduceBEq, Nat.reduceMul, Nat.reduceLeDiff, Nat.reduceMod, UInt8.reduceOfNat, Nat.reduceLT, Int.reduceEq, Int.reduceAdd, Int.reduceSub, Int.reduceMul]
      repeat' (first | with_reducible assumption | refine And.intro ?_ ?_ | intro _ | (rw [Ev.xStp_eq]; simp -dsimp -implicitDefEqProofs only [hx, h1, impF, CNextE, CStopE, CPlaceE, CRepl, fltV, Ev.panK, edC_wp, bodE_wp, bodK_ok, bodK_error, edK_ok, edK_error, plK, map_ok, map_error, strA, unStr_rows, strRows_len, strRows_all, ↓Ev.P, Ev.Q, Bool.cond_true, Bool.cond_false, eq_self, forall_eq_or_imp, implies_true, forall_const, forall_eq, ↓reduceIte, reduceIte, Nat.reduceEqDiff, Nat.reduceAdd, reduceCtorEq, Nat.reduceSub, Int.reduceToNat, Int.reduceLE, Int.reduceLT, Int.reduceNeg, Nat.reduceBEq, Nat.reduceMul, Nat.reduceLeDiff, Nat.reduceMod, UInt8.reduceOfNat, Nat.reduceLT, Int.reduceEq, Int.reduceAdd, Int.reduceSub, Int.reduceMul]))
      all_goals try omega
      all_goals exact hk
    rw [if_neg h1] at hk
    by_cases h2 : s = [97]
    · rw [if_pos h2] at hk
      have h1' : ¬ ([97] : List UInt8) = [] := by decide
      have h3' : ¬ ([97] : List UInt8) = [115, 47, 46, 47, 47] := by decide
      subst h2
      by_cases hc : c = -1
      · rw [if_pos hc] at hk
        subst hc
        rw [cmK_error] at hk
        unfold fltV at hk
        refine ⟨[0, 1], [0, 1], ?_⟩
        simp -dsimp -implicitDefEqProofs only [S47, R47, S47_0, S47_1, S47_2, S47_3, S47_4, S47_5, S47_6, S47_7, S47r1, S47r2, S47r3, S47r4, S47r5, S47r6, S47r7, S47r8, hx, h1', h3', impF, CNextE, CStopE, CPlaceE, CRepl, fltV, Ev.panK, edC_wp, bodE_wp, bodK_ok, bodK_error, edK_ok, edK_error, plK, map_ok, map_error, strA, unStr_rows, strRows_len, strRows_all, ↓Ev.P, Ev.Q, Bool.cond_true, Bool.cond_false, eq_self, forall_eq_or_imp, implies_true, forall_const, forall_eq, ↓reduceIte, reduceIte, Nat.reduceEqDiff, Nat.reduceAdd, reduceCtorEq, Nat.reduceSub, Int.reduceToNat, Int.reduceLE, Int.reduceLT, Int.reduceNeg, Nat.reduceBEq, Nat.reduceMul, Nat.reduceLeDiff, Nat.reduceMod, UInt8.reduceOfNat, Nat.reduceLT, Int.reduceEq, Int.reduceAdd, Int.reduceSub, Int.reduceMul]
        repeat' (first | with_reducible assumption | refine And.intro ?_ ?_ | intro _ | (rw [Ev.xStp_eq]; simp -dsimp -implicitDefEqProofs only [hx, h1', h3', impF, CNextE, CStopE, CPlaceE, CRepl, fltV, Ev.panK, edC_wp, bodE_wp, bodK_ok, bodK_error, edK_ok, edK_error, plK, map_ok, map_error, strA, unStr_rows, strRows_len, strRows_all, ↓Ev.P, Ev.Q, Bool.cond_true, Bool.cond_false, eq_self, forall_eq_or_imp, implies_true, forall_const, forall_eq, ↓reduceIte, reduceIte, Nat.reduceEqDiff, Nat.reduceAdd, reduceCtorEq, Nat.reduceSub, Int.reduceToNat, Int.reduceLE, Int.reduceLT, Int.reduceNeg, Nat.reduceBEq, Nat.reduceMul, Nat.reduceLeDiff, Nat.reduceMod, UInt8.reduceOfNat, Nat.reduceLT, Int.reduceEq, Int.reduceAdd, Int.reduceSub, Int.reduceMul]))
        all_goals try omega
        all_goals exact hk
      · rw [if_neg hc] at hk
        have hc0 := hok.resolve_left hc
        obtain ⟨cn, rfl⟩ := Int.eq_ofNat_of_zero_le hc0.1
        have e1 : ((cn : Int) + 1).toNat = cn + 1 := by omega
        have hcl := hc0.2
        dsimp only at hcl
        rw [e1] at hk
        unfold bodyE at hk
        cases hb : bodyL L (L.length - a) a [] with
        | error x =>
          obtain ⟨xa, xe⟩ := x
          rw [hb] at hk; dsimp only at hk
          rw [cmK_error] at hk
          unfold fltV at hk
          refine ⟨[0, 1], [0, 1], ?_⟩
          simp -dsimp -implicitDefEqProofs only [S47, R47, S47_0, S47_1, S47_2, S47_3, S47_4, S47_5, S47_6, S47_7, S47r1, S47r2, S47r3, S47r4, S47r5, S47r6, S47r7, S47r8, hx, h1', h3', hc, hb, impF, CNextE, CStopE, CPlaceE, CRepl, fltV, Ev.panK, edC_wp, bodE_wp, bodK_ok, bodK_error, edK_ok, edK_error, plK, map_ok, map_error, strA, unStr_rows, strRows_len, strRows_all, ↓Ev.P, Ev.Q, Bool.cond_true, Bool.cond_false, eq_self, forall_eq_or_imp, implies_true, forall_const, forall_eq, ↓reduceIte, reduceIte, Nat.reduceEqDiff, Nat.reduceAdd, reduceCtorEq, Nat.reduceSub, Int.reduceToNat, Int.reduceLE, Int.reduceLT, Int.reduceNeg, Nat.reduceBEq, Nat.reduceMul, Nat.reduceLeDiff, Nat.reduceMod, UInt8.reduceOfNat, Nat.reduceLT, Int.reduceEq, Int.reduceAdd, Int.reduceSub, Int.reduceMul]
          repeat' (first | with_reducible assumption | refine And.intro ?_ ?_ | intro _ | (rw [Ev.xStp_eq]; simp -dsimp -implicitDefEqProofs only [hx, h1', h3', hc, hb, impF, CNextE, CStopE, CPlaceE, CRepl, fltV, Ev.panK, edC_wp, bodE_wp, bodK_ok, bodK_error, edK_ok, edK_error, plK, map_ok, map_error, strA, unStr_rows, strRows_len, strRows_all, ↓Ev.P, Ev.Q, Bool.cond_true, Bool.cond_false, eq_self, forall_eq_or_imp, implies_true, forall_const, forall_eq, ↓reduceIte, reduceIte, Nat.reduceEqDiff, Nat.reduceAdd, reduceCtorEq, Nat.reduceSub, Int.reduceToNat, Int.reduceLE, Int.reduceLT, Int.reduceNeg, Nat.reduceBEq, Nat.reduceMul, Nat.reduceLeDiff, Nat.reduceMod, UInt8.reduceOfNat, Nat.reduceLT, Int.reduceEq, Int.reduceAdd, Int.reduceSub, Int.reduceMul]))
          all_goals try omega
          all_goals exact hk
        | ok x =>
          obtain ⟨l, b⟩ := x
          rw [hb] at hk; dsimp only at hk
          rw [cmK_ok] at hk
          have hle := bodyL_le hb
          have hp1 := put_rows X l (cn + 1) 0
          have hp2 := put_cur X l (cn + 1) 0
          rw [Nat.add_zero] at hp1
          refine ⟨[0, 1, 3], [0, 1], ?_⟩
          simp -dsimp -implicitDefEqProofs only [S47, R47, S47_0, S47_1, S47_2, S47_3, S47_4, S47_5, S47_6, S47_7, S47r1, S47r2, S47r3, S47r4, S47r5, S47r6, S47r7, S47r8, hx, h1', h3', hc, hb, e1, hp1, hp2, impF, CNextE, CStopE, CPlaceE, CRepl, fltV, Ev.panK, edC_wp, bodE_wp, bodK_ok, bodK_error, edK_ok, edK_error, plK, map_ok, map_error, strA, unStr_rows, strRows_len, strRows_all, ↓Ev.P, Ev.Q, Bool.cond_true, Bool.cond_false, eq_self, forall_eq_or_imp, implies_true, forall_const, forall_eq, ↓reduceIte, reduceIte, Nat.reduceEqDiff, Nat.reduceAdd, reduceCtorEq, Nat.reduceSub, Int.reduceToNat, Int.reduceLE, Int.reduceLT, Int.reduceNeg, Nat.reduceBEq, Nat.reduceMul, Nat.reduceLeDiff, Nat.reduceMod, UInt8.reduceOfNat, Nat.reduceLT, Int.reduceEq, Int.reduceAdd, Int.reduceSub, Int.reduceMul]
          repeat' (first | with_reducible assumption | refine And.intro ?_ ?_ | intro _ | (rw [Ev.xStp_eq]; simp -dsimp -implicitDefEqProofs only [hx, h1', h3', hc, hb, e1, hp1, hp2, impF, CNextE, CStopE, CPlaceE, CRepl, fltV, Ev.panK, edC_wp, bodE_wp, bodK_ok, bodK_error, edK_ok, edK_error, plK, map_ok, map_error, strA, unStr_rows, strRows_len, strRows_all, ↓Ev.P, Ev.Q, Bool.cond_true, Bool.cond_false, eq_self, forall_eq_or_imp, implies_true, forall_const, forall_eq, ↓reduceIte, reduceIte, Nat.reduceEqDiff, Nat.reduceAdd, reduceCtorEq, Nat.reduceSub, Int.reduceToNat, Int.reduceLE, Int.reduceLT, Int.reduceNeg, Nat.reduceBEq, Nat.reduceMul, Nat.reduceLeDiff, Nat.reduceMod, UInt8.reduceOfNat, Nat.reduceLT, Int.reduceEq, Int.reduceAdd, Int.reduceSub, Int.reduceMul]))
          all_goals try omega
          all_goals first | (simp only [List.length_nil] at hle; omega) | exact hk.1
    rw [if_neg h2] at hk
    by_cases h3 : s = stripS
    · rw [if_pos h3] at hk
      have h1' : ¬ ([115, 47, 46, 47, 47] : List UInt8) = [] := by decide
      have h2' : ¬ ([115, 47, 46, 47, 47] : List UInt8) = [97] := by decide
      unfold stripS at h3
      subst h3
      by_cases hc : c = -1
      · rw [if_pos (.inl hc)] at hk
        subst hc
        rw [cmK_error] at hk
        unfold fltV at hk
        refine ⟨[0, 1], [0, 1], ?_⟩
        simp -dsimp -implicitDefEqProofs only [S47, R47, S47_0, S47_1, S47_2, S47_3, S47_4, S47_5, S47_6, S47_7, S47r1, S47r2, S47r3, S47r4, S47r5, S47r6, S47r7, S47r8, hx, h1', h2', impF, CNextE, CStopE, CPlaceE, CRepl, fltV, Ev.panK, edC_wp, bodE_wp, bodK_ok, bodK_error, edK_ok, edK_error, plK, map_ok, map_error, strA, unStr_rows, strRows_len, strRows_all, ↓Ev.P, Ev.Q, Bool.cond_true, Bool.cond_false, eq_self, forall_eq_or_imp, implies_true, forall_const, forall_eq, ↓reduceIte, reduceIte, Nat.reduceEqDiff, Nat.reduceAdd, reduceCtorEq, Nat.reduceSub, Int.reduceToNat, Int.reduceLE, Int.reduceLT, Int.reduceNeg, Nat.reduceBEq, Nat.reduceMul, Nat.reduceLeDiff, Nat.reduceMod, UInt8.reduceOfNat, Nat.reduceLT, Int.reduceEq, Int.reduceAdd, Int.reduceSub, Int.reduceMul]
        repeat' (first | with_reducible assumption | refine And.intro ?_ ?_ | intro _ | (rw [Ev.xStp_eq]; simp -dsimp -implicitDefEqProofs only [hx, h1', h2', impF, CNextE, CStopE, CPlaceE, CRepl, fltV, Ev.panK, edC_wp, bodE_wp, bodK_ok, bodK_error, edK_ok, edK_error, plK, map_ok, map_error, strA, unStr_rows, strRows_len, strRows_all, ↓Ev.P, Ev.Q, Bool.cond_true, Bool.cond_false, eq_self, forall_eq_or_imp, implies_true, forall_const, forall_eq, ↓reduceIte, reduceIte, Nat.reduceEqDiff, Nat.reduceAdd, reduceCtorEq, Nat.reduceSub, Int.reduceToNat, Int.reduceLE, Int.reduceLT, Int.reduceNeg, Nat.reduceBEq, Nat.reduceMul, Nat.reduceLeDiff, Nat.reduceMod, UInt8.reduceOfNat, Nat.reduceLT, Int.reduceEq, Int.reduceAdd, Int.reduceSub, Int.reduceMul]))
        all_goals try omega
        all_goals exact hk
      · have hc0 := hok.resolve_left hc
        obtain ⟨cn, rfl⟩ := Int.eq_ofNat_of_zero_le hc0.1
        have hcl : (cn : Int) < X.length := hc0.2
        have hcl2 : cn < X.length := by omega
        rw [Int.toNat_natCast] at hk
        have hg := strRows_get hcl2
        have hg2 : (strRows X).getD cn [] = [.v (.string ⟨(X.getD cn []).toArray⟩)] := by rw [List.getD_eq_getElem?_getD, hg]; rfl
        by_cases he : X.getD cn [] = []
        · rw [if_pos (.inr he)] at hk
          rw [cmK_error] at hk
          unfold fltV at hk
          refine ⟨[0, 1], [0, 1], ?_⟩
          simp -dsimp -implicitDefEqProofs only [S47, R47, S47_0, S47_1, S47_2, S47_3, S47_4, S47_5, S47_6, S47_7, S47r1, S47r2, S47r3, S47r4, S47r5, S47r6, S47r7, S47r8, hx, h1', h2', hc, hg, hg2, he, impF, CNextE, CStopE, CPlaceE, CRepl, fltV, Ev.panK, edC_wp, bodE_wp, bodK_ok, bodK_error, edK_ok, edK_error, plK, map_ok, map_error, strA, unStr_rows, strRows_len, strRows_all, ↓Ev.P, Ev.Q, Bool.cond_true, Bool.cond_false, eq_self, forall_eq_or_imp, implies_true, forall_const, forall_eq, ↓reduceIte, reduceIte, Nat.reduceEqDiff, Nat.reduceAdd, reduceCtorEq, Nat.reduceSub, Int.reduceToNat, Int.reduceLE, Int.reduceLT, Int.reduceNeg, Nat.reduceBEq, Nat.reduceMul, Nat.reduceLeDiff, Nat.reduceMod, UInt8.reduceOfNat, Nat.reduceLT, Int.reduceEq, Int.reduceAdd, Int.reduceSub, Int.reduceMul]
          repeat' (first | with_reducible assumption | refine And.intro ?_ ?_ | intro _ | (rw [Ev.xStp_eq]; simp -dsimp -implicitDefEqProofs only [hx, h1', h2', hc, hg, hg2, he, impF, CNextE, CStopE, CPlaceE, CRepl, fltV, Ev.panK, edC_wp, bodE_wp, bodK_ok, bodK_error, edK_ok, edK_error, plK, map_ok, map_error, strA, unStr_rows, strRows_len, strRows_all, ↓Ev.P, Ev.Q, Bool.cond_true, Bool.cond_false, eq_self, forall_eq_or_imp, implies_true, forall_const, forall_eq, ↓reduceIte, reduceIte, Nat.reduceEqDiff, Nat.reduceAdd, reduceCtorEq, Nat.reduceSub, Int.reduceToNat, Int.reduceLE, Int.reduceLT, Int.reduceNeg, Nat.reduceBEq, Nat.reduceMul, Nat.reduceLeDiff, Nat.reduceMod, UInt8.reduceOfNat, Nat.reduceLT, Int.reduceEq, Int.reduceAdd, Int.reduceSub, Int.reduceMul]))
          all_goals try omega
          all_goals exact hk
        · rw [if_neg (by simp only [hc, false_or]; exact he)] at hk
          rw [cmK_ok] at hk
          have hxl := hX _ (getD_in hcl2)
          have hpos : 1 ≤ (X.getD cn []).length := List.length_pos_iff.2 he
          have hset : (strRows X).set cn [.v (.string ⟨((X.getD cn []).drop 1).toArray⟩)] = strRows (X.set cn ((X.getD cn []).drop 1)) := by simp [strRows, List.map_set]
          generalize X.getD cn [] = w at hg hg2 he hk hxl hpos hset
          have htk : (w.drop 1).take (w.length - 1) = w.drop 1 := List.take_of_length_le (by rw [List.length_drop]; exact Nat.le_refl _)
          refine ⟨[0, 1], [0, 1], ?_⟩
          simp -dsimp -implicitDefEqProofs only [S47, R47, S47_0, S47_1, S47_2, S47_3, S47_4, S47_5, S47_6, S47_7, S47r1, S47r2, S47r3, S47r4, S47r5, S47r6, S47r7, S47r8, hx, h1', h2', hc, hg, hg2, he, hset, htk, List.length_set, impF, CNextE, CStopE, CPlaceE, CRepl, fltV, Ev.panK, edC_wp, bodE_wp, bodK_ok, bodK_error, edK_ok, edK_error, plK, map_ok, map_error, strA, unStr_rows, strRows_len, strRows_all, ↓Ev.P, Ev.Q, Bool.cond_true, Bool.cond_false, eq_self, forall_eq_or_imp, implies_true, forall_const, forall_eq, ↓reduceIte, reduceIte, Nat.reduceEqDiff, Nat.reduceAdd, reduceCtorEq, Nat.reduceSub, Int.reduceToNat, Int.reduceLE, Int.reduceLT, Int.reduceNeg, Nat.reduceBEq, Nat.reduceMul, Nat.reduceLeDiff, Nat.reduceMod, UInt8.reduceOfNat, Nat.reduceLT, Int.reduceEq, Int.reduceAdd, Int.reduceSub, Int.reduceMul]
          repeat' (first | with_reducible assumption | refine And.intro ?_ ?_ | intro _ | (rw [Ev.xStp_eq]; simp -dsimp -implicitDefEqProofs only [hx, h1', h2', hc, hg, hg2, he, hset, htk, List.length_set, impF, CNextE, CStopE, CPlaceE, CRepl, fltV, Ev.panK, edC_wp, bodE_wp, bodK_ok, bodK_error, edK_ok, edK_error, plK, map_ok, map_error, strA, unStr_rows, strRows_len, strRows_all, ↓Ev.P, Ev.Q, Bool.cond_true, Bool.cond_false, eq_self, forall_eq_or_imp, implies_true, forall_const, forall_eq, ↓reduceIte, reduceIte, Nat.reduceEqDiff, Nat.reduceAdd, reduceCtorEq, Nat.reduceSub, Int.reduceToNat, Int.reduceLE, Int.reduceLT, Int.reduceNeg, Nat.reduceBEq, Nat.reduceMul, Nat.reduceLeDiff, Nat.reduceMod, UInt8.reduceOfNat, Nat.reduceLT, Int.reduceEq, Int.reduceAdd, Int.reduceSub, Int.reduceMul]))
          all_goals try omega
          all_goals exact hk.2
    rw [if_neg h3] at hk
    unfold stripS at h3
    have hpos : 0 < s.length := List.length_pos_iff.2 h1
    have e2 : ((s.length : Int) - 1).toNat = s.length - 1 := by omega
    unfold numE at hk
    have hsl2 : (s.take (s.length - 1)).length ≤ 1099511627776 := by rw [List.length_take]; omega
    have hv0 : (0 : Int) ≤ ((s.getD (s.length - 1) 0).toNat : Int) := by omega
    have hv1 : ((s.getD (s.length - 1) 0).toNat : Int) < 256 := by have := (s.getD (s.length - 1) 0).toNat_lt; omega
    generalize hw : s.take (s.length - 1) = w at hk hsl2
    generalize hv : ((s.getD (s.length - 1) 0).toNat : Int) = v at hk hv0 hv1
    by_cases hvv : v = 97 ∨ v = 99 ∨ v = 100
    · rw [if_pos hvv] at hk
      cases hpl : placeE X.length w v with
      | error e =>
        rw [hpl] at hk; dsimp only at hk
        rw [cmK_error] at hk
        unfold fltV at hk
        rcases hvv with rfl | rfl | rfl
        · have _t := trivial
          refine ⟨[0, 1], [0, 1], ?_⟩
          simp -dsimp -implicitDefEqProofs only [S47, R47, S47_0, S47_1, S47_2, S47_3, S47_4, S47_5, S47_6, S47_7, S47r1, S47r2, S47r3, S47r4, S47r5, S47r6, S47r7, S47r8, hx, h1, h2, h3, e2, hw, hv, hpl, impF, CNextE, CStopE, CPlaceE, CRepl, fltV, Ev.panK, edC_wp, bodE_wp, bodK_ok, bodK_error, edK_ok, edK_error, plK, map_ok, map_error, strA, unStr_rows, strRows_len, strRows_all, ↓Ev.P, Ev.Q, Bool.cond_true, Bool.cond_false, eq_self, forall_eq_or_imp, implies_true, forall_const, forall_eq, ↓reduceIte, reduceIte, Nat.reduceEqDiff, Nat.reduceAdd, reduceCtorEq, Nat.reduceSub, Int.reduceToNat, Int.reduceLE, Int.reduceLT, Int.reduceNeg, Nat.reduceBEq, Nat.reduceMul, Nat.reduceLeDiff, Nat.reduceMod, UInt8.reduceOfNat, Nat.reduceLT, Int.reduceEq, Int.reduceAdd, Int.reduceSub, Int.reduceMul]
          repeat' (first | with_reducible assumption | refine And.intro ?_ ?_ | intro _ | (rw [Ev.xStp_eq]; simp -dsimp -implicitDefEqProofs only [hx, h1, h2, h3, e2, hw, hv, hpl, impF, CNextE, CStopE, CPlaceE, CRepl, fltV, Ev.panK, edC_wp, bodE_wp, bodK_ok, bodK_error, edK_ok, edK_error, plK, map_ok, map_error, strA, unStr_rows, strRows_len, strRows_all, ↓Ev.P, Ev.Q, Bool.cond_true, Bool.cond_false, eq_self, forall_eq_or_imp, implies_true, forall_const, forall_eq, ↓reduceIte, reduceIte, Nat.reduceEqDiff, Nat.reduceAdd, reduceCtorEq, Nat.reduceSub, Int.reduceToNat, Int.reduceLE, Int.reduceLT, Int.reduceNeg, Nat.reduceBEq, Nat.reduceMul, Nat.reduceLeDiff, Nat.reduceMod, UInt8.reduceOfNat, Nat.reduceLT, Int.reduceEq, Int.reduceAdd, Int.reduceSub, Int.reduceMul]))
          all_goals try omega
          all_goals exact hk
        · have _t := trivial
          refine ⟨[0, 1], [0, 1], ?_⟩
          simp -dsimp -implicitDefEqProofs only [S47, R47, S47_0, S47_1, S47_2, S47_3, S47_4, S47_5, S47_6, S47_7, S47r1, S47r2, S47r3, S47r4, S47r5, S47r6, S47r7, S47r8, hx, h1, h2, h3, e2, hw, hv, hpl, impF, CNextE, CStopE, CPlaceE, CRepl, fltV, Ev.panK, edC_wp, bodE_wp, bodK_ok, bodK_error, edK_ok, edK_error, plK, map_ok, map_error, strA, unStr_rows, strRows_len, strRows_all, ↓Ev.P, Ev.Q, Bool.cond_true, Bool.cond_false, eq_self, forall_eq_or_imp, implies_true, forall_const, forall_eq, ↓reduceIte, reduceIte, Nat.reduceEqDiff, Nat.reduceAdd, reduceCtorEq, Nat.reduceSub, Int.reduceToNat, Int.reduceLE, Int.reduceLT, Int.reduceNeg, Nat.reduceBEq, Nat.reduceMul, Nat.reduceLeDiff, Nat.reduceMod, UInt8.reduceOfNat, Nat.reduceLT, Int.reduceEq, Int.reduceAdd, Int.reduceSub, Int.reduceMul]
          repeat' (first | with_reducible assumption | refine And.intro ?_ ?_ | intro _ | (rw [Ev.xStp_eq]; simp -dsimp -implicitDefEqProofs only [hx, h1, h2, h3, e2, hw, hv, hpl, impF, CNextE, CStopE, CPlaceE, CRepl, fltV, Ev.panK, edC_wp, bodE_wp, bodK_ok, bodK_error, edK_ok, edK_error, plK, map_ok, map_error, strA, unStr_rows, strRows_len, strRows_all, ↓Ev.P, Ev.Q, Bool.cond_true, Bool.cond_false, eq_self, forall_eq_or_imp, implies_true, forall_const, forall_eq, ↓reduceIte, reduceIte, Nat.reduceEqDiff, Nat.reduceAdd, reduceCtorEq, Nat.reduceSub, Int.reduceToNat, Int.reduceLE, Int.reduceLT, Int.reduceNeg, Nat.reduceBEq, Nat.reduceMul, Nat.reduceLeDiff, Nat.reduceMod, UInt8.reduceOfNat, Nat.reduceLT, Int.reduceEq, Int.reduceAdd, Int.reduceSub, Int.reduceMul]))
          all_goals try omega
          all_goals exact hk
        · have _t := trivial
          refine ⟨[0, 1], [0, 1], ?_⟩
          simp -dsimp -implicitDefEqProofs only [S47, R47, S47_0, S47_1, S47_2, S47_3, S47_4, S47_5, S47_6, S47_7, S47r1, S47r2, S47r3, S47r4, S47r5, S47r6, S47r7, S47r8, hx, h1, h2, h3, e2, hw, hv, hpl, impF, CNextE, CStopE, CPlaceE, CRepl, fltV, Ev.panK, edC_wp, bodE_wp, bodK_ok, bodK_error, edK_ok, edK_error, plK, map_ok, map_error, strA, unStr_rows, strRows_len, strRows_all, ↓Ev.P, Ev.Q, Bool.cond_true, Bool.cond_false, eq_self, forall_eq_or_imp, implies_true, forall_const, forall_eq, ↓reduceIte, reduceIte, Nat.reduceEqDiff, Nat.reduceAdd, reduceCtorEq, Nat.reduceSub, Int.reduceToNat, Int.reduceLE, Int.reduceLT, Int.reduceNeg, Nat.reduceBEq, Nat.reduceMul, Nat.reduceLeDiff, Nat.reduceMod, UInt8.reduceOfNat, Nat.reduceLT, Int.reduceEq, Int.reduceAdd, Int.reduceSub, Int.reduceMul]
          repeat' (first | with_reducible assumption | refine And.intro ?_ ?_ | intro _ | (rw [Ev.xStp_eq]; simp -dsimp -implicitDefEqProofs only [hx, h1, h2, h3, e2, hw, hv, hpl, impF, CNextE, CStopE, CPlaceE, CRepl, fltV, Ev.panK, edC_wp, bodE_wp, bodK_ok, bodK_error, edK_ok, edK_error, plK, map_ok, map_error, strA, unStr_rows, strRows_len, strRows_all, ↓Ev.P, Ev.Q, Bool.cond_true, Bool.cond_false, eq_self, forall_eq_or_imp, implies_true, forall_const, forall_eq, ↓reduceIte, reduceIte, Nat.reduceEqDiff, Nat.reduceAdd, reduceCtorEq, Nat.reduceSub, Int.reduceToNat, Int.reduceLE, Int.reduceLT, Int.reduceNeg, Nat.reduceBEq, Nat.reduceMul, Nat.reduceLeDiff, Nat.reduceMod, UInt8.reduceOfNat, Nat.reduceLT, Int.reduceEq, Int.reduceAdd, Int.reduceSub, Int.reduceMul]))
          all_goals try omega
          all_goals exact hk
      | ok pn =>
        obtain ⟨pp, nn⟩ := pn
        rw [hpl] at hk; dsimp only at hk
        obtain ⟨p0, n0, hpn⟩ := placeE_le hpl
        obtain ⟨pp, rfl⟩ := Int.eq_ofNat_of_zero_le p0
        obtain ⟨nn, rfl⟩ := Int.eq_ofNat_of_zero_le n0
        simp only [Int.toNat_natCast] at hk
        by_cases hd : v = 100
        · rw [if_pos hd] at hk
          subst hd
          rw [cmK_ok] at hk
          have hp1 := put_non2 X pp nn
          have hp2 : (putE X pp nn []).2 = -1 := rfl
          rw [hp2] at hk
          refine ⟨[0, 1, 2], [0, 1], ?_⟩
          simp -dsimp -implicitDefEqProofs only [S47, R47, S47_0, S47_1, S47_2, S47_3, S47_4, S47_5, S47_6, S47_7, S47r1, S47r2, S47r3, S47r4, S47r5, S47r6, S47r7, S47r8, hx, h1, h2, h3, e2, hw, hv, hpl, hp1, cur_none, impF, CNextE, CStopE, CPlaceE, CRepl, fltV, Ev.panK, edC_wp, bodE_wp, bodK_ok, bodK_error, edK_ok, edK_error, plK, map_ok, map_error, strA, unStr_rows, strRows_len, strRows_all, ↓Ev.P, Ev.Q, Bool.cond_true, Bool.cond_false, eq_self, forall_eq_or_imp, implies_true, forall_const, forall_eq, ↓reduceIte, reduceIte, Nat.reduceEqDiff, Nat.reduceAdd, reduceCtorEq, Nat.reduceSub, Int.reduceToNat, Int.reduceLE, Int.reduceLT, Int.reduceNeg, Nat.reduceBEq, Nat.reduceMul, Nat.reduceLeDiff, Nat.reduceMod, UInt8.reduceOfNat, Nat.reduceLT, Int.reduceEq, Int.reduceAdd, Int.reduceSub, Int.reduceMul]
          repeat' (first | with_reducible assumption | refine And.intro ?_ ?_ | intro _ | (rw [Ev.xStp_eq]; simp -dsimp -implicitDefEqProofs only [hx, h1, h2, h3, e2, hw, hv, hpl, hp1, cur_none, impF, CNextE, CStopE, CPlaceE, CRepl, fltV, Ev.panK, edC_wp, bodE_wp, bodK_ok, bodK_error, edK_ok, edK_error, plK, map_ok, map_error, strA, unStr_rows, strRows_len, strRows_all, ↓Ev.P, Ev.Q, Bool.cond_true, Bool.cond_false, eq_self, forall_eq_or_imp, implies_true, forall_const, forall_eq, ↓reduceIte, reduceIte, Nat.reduceEqDiff, Nat.reduceAdd, reduceCtorEq, Nat.reduceSub, Int.reduceToNat, Int.reduceLE, Int.reduceLT, Int.reduceNeg, Nat.reduceBEq, Nat.reduceMul, Nat.reduceLeDiff, Nat.reduceMod, UInt8.reduceOfNat, Nat.reduceLT, Int.reduceEq, Int.reduceAdd, Int.reduceSub, Int.reduceMul]))
          all_goals try omega
          all_goals exact hk.1
        · rw [if_neg hd] at hk
          have hvv2 : v = 97 ∨ v = 99 := by rcases hvv with h | h | h; exact .inl h; exact .inr h; exact absurd h hd
          clear hvv
          unfold bodyE at hk
          cases hb : bodyL L (L.length - a) a [] with
          | error x =>
            obtain ⟨xa, xe⟩ := x
            rw [hb] at hk; dsimp only at hk
            rw [cmK_error] at hk
            unfold fltV at hk
            rcases hvv2 with rfl | rfl
            · have _t := trivial
              refine ⟨[0, 1], [0, 1], ?_⟩
              simp -dsimp -implicitDefEqProofs only [S47, R47, S47_0, S47_1, S47_2, S47_3, S47_4, S47_5, S47_6, S47_7, S47r1, S47r2, S47r3, S47r4, S47r5, S47r6, S47r7, S47r8, hx, h1, h2, h3, e2, hw, hv, hpl, hb, impF, CNextE, CStopE, CPlaceE, CRepl, fltV, Ev.panK, edC_wp, bodE_wp, bodK_ok, bodK_error, edK_ok, edK_error, plK, map_ok, map_error, strA, unStr_rows, strRows_len, strRows_all, ↓Ev.P, Ev.Q, Bool.cond_true, Bool.cond_false, eq_self, forall_eq_or_imp, implies_true, forall_const, forall_eq, ↓reduceIte, reduceIte, Nat.reduceEqDiff, Nat.reduceAdd, reduceCtorEq, Nat.reduceSub, Int.reduceToNat, Int.reduceLE, Int.reduceLT, Int.reduceNeg, Nat.reduceBEq, Nat.reduceMul, Nat.reduceLeDiff, Nat.reduceMod, UInt8.reduceOfNat, Nat.reduceLT, Int.reduceEq, Int.reduceAdd, Int.reduceSub, Int.reduceMul]
              repeat' (first | with_reducible assumption | refine And.intro ?_ ?_ | intro _ | (rw [Ev.xStp_eq]; simp -dsimp -implicitDefEqProofs only [hx, h1, h2, h3, e2, hw, hv, hpl, hb, impF, CNextE, CStopE, CPlaceE, CRepl, fltV, Ev.panK, edC_wp, bodE_wp, bodK_ok, bodK_error, edK_ok, edK_error, plK, map_ok, map_error, strA, unStr_rows, strRows_len, strRows_all, ↓Ev.P, Ev.Q, Bool.cond_true, Bool.cond_false, eq_self, forall_eq_or_imp, implies_true, forall_const, forall_eq, ↓reduceIte, reduceIte, Nat.reduceEqDiff, Nat.reduceAdd, reduceCtorEq, Nat.reduceSub, Int.reduceToNat, Int.reduceLE, Int.reduceLT, Int.reduceNeg, Nat.reduceBEq, Nat.reduceMul, Nat.reduceLeDiff, Nat.reduceMod, UInt8.reduceOfNat, Nat.reduceLT, Int.reduceEq, Int.reduceAdd, Int.reduceSub, Int.reduceMul]))
              all_goals try omega
              all_goals exact hk
            · have _t := trivial
              refine ⟨[0, 1], [0, 1], ?_⟩
              simp -dsimp -implicitDefEqProofs only [S47, R47, S47_0, S47_1, S47_2, S47_3, S47_4, S47_5, S47_6, S47_7, S47r1, S47r2, S47r3, S47r4, S47r5, S47r6, S47r7, S47r8, hx, h1, h2, h3, e2, hw, hv, hpl, hb, impF, CNextE, CStopE, CPlaceE, CRepl, fltV, Ev.panK, edC_wp, bodE_wp, bodK_ok, bodK_error, edK_ok, edK_error, plK, map_ok, map_error, strA, unStr_rows, strRows_len, strRows_all, ↓Ev.P, Ev.Q, Bool.cond_true, Bool.cond_false, eq_self, forall_eq_or_imp, implies_true, forall_const, forall_eq, ↓reduceIte, reduceIte, Nat.reduceEqDiff, Nat.reduceAdd, reduceCtorEq, Nat.reduceSub, Int.reduceToNat, Int.reduceLE, Int.reduceLT, Int.reduceNeg, Nat.reduceBEq, Nat.reduceMul, Nat.reduceLeDiff, Nat.reduceMod, UInt8.reduceOfNat, Nat.reduceLT, Int.reduceEq, Int.reduceAdd, Int.reduceSub, Int.reduceMul]
              repeat' (first | with_reducible assumption | refine And.intro ?_ ?_ | intro _ | (rw [Ev.xStp_eq]; simp -dsimp -implicitDefEqProofs only [hx, h1, h2, h3, e2, hw, hv, hpl, hb, impF, CNextE, CStopE, CPlaceE, CRepl, fltV, Ev.panK, edC_wp, bodE_wp, bodK_ok, bodK_error, edK_ok, edK_error, plK, map_ok, map_error, strA, unStr_rows, strRows_len, strRows_all, ↓Ev.P, Ev.Q, Bool.cond_true, Bool.cond_false, eq_self, forall_eq_or_imp, implies_true, forall_const, forall_eq, ↓reduceIte, reduceIte, Nat.reduceEqDiff, Nat.reduceAdd, reduceCtorEq, Nat.reduceSub, Int.reduceToNat, Int.reduceLE, Int.reduceLT, Int.reduceNeg, Nat.reduceBEq, Nat.reduceMul, Nat.reduceLeDiff, Nat.reduceMod, UInt8.reduceOfNat, Nat.reduceLT, Int.reduceEq, Int.reduceAdd, Int.reduceSub, Int.reduceMul]))
              all_goals try omega
              all_goals exact hk
          | ok x =>
            obtain ⟨l, b⟩ := x
            rw [hb] at hk; dsimp only at hk
            rw [cmK_ok] at hk
            have hle := bodyL_le hb
            have hp1 := put_rows X l pp nn
            have hp2 := put_cur X l pp nn
            rcases hvv2 with rfl | rfl
            · have _t := trivial
              refine ⟨[0, 1, 3], [0, 1], ?_⟩
              simp -dsimp -implicitDefEqProofs only [S47, R47, S47_0, S47_1, S47_2, S47_3, S47_4, S47_5, S47_6, S47_7, S47r1, S47r2, S47r3, S47r4, S47r5, S47r6, S47r7, S47r8, hx, h1, h2, h3, e2, hw, hv, hpl, hb, hp1, hp2, impF, CNextE, CStopE, CPlaceE, CRepl, fltV, Ev.panK, edC_wp, bodE_wp, bodK_ok, bodK_error, edK_ok, edK_error, plK, map_ok, map_error, strA, unStr_rows, strRows_len, strRows_all, ↓Ev.P, Ev.Q, Bool.cond_true, Bool.cond_false, eq_self, forall_eq_or_imp, implies_true, forall_const, forall_eq, ↓reduceIte, reduceIte, Nat.reduceEqDiff, Nat.reduceAdd, reduceCtorEq, Nat.reduceSub, Int.reduceToNat, Int.reduceLE, Int.reduceLT, Int.reduceNeg, Nat.reduceBEq, Nat.reduceMul, Nat.reduceLeDiff, Nat.reduceMod, UInt8.reduceOfNat, Nat.reduceLT, Int.reduceEq, Int.reduceAdd, Int.reduceSub, Int.reduceMul]
              repeat' (first | with_reducible assumption | refine And.intro ?_ ?_ | intro _ | (rw [Ev.xStp_eq]; simp -dsimp -implicitDefEqProofs only [hx, h1, h2, h3, e2, hw, hv, hpl, hb, hp1, hp2, impF, CNextE, CStopE, CPlaceE, CRepl, fltV, Ev.panK, edC_wp, bodE_wp, bodK_ok, bodK_error, edK_ok, edK_error, plK, map_ok, map_error, strA, unStr_rows, strRows_len, strRows_all, ↓Ev.P, Ev.Q, Bool.cond_true, Bool.cond_false, eq_self, forall_eq_or_imp, implies_true, forall_const, forall_eq, ↓reduceIte, reduceIte, Nat.reduceEqDiff, Nat.reduceAdd, reduceCtorEq, Nat.reduceSub, Int.reduceToNat, Int.reduceLE, Int.reduceLT, Int.reduceNeg, Nat.reduceBEq, Nat.reduceMul, Nat.reduceLeDiff, Nat.reduceMod, UInt8.reduceOfNat, Nat.reduceLT, Int.reduceEq, Int.reduceAdd, Int.reduceSub, Int.reduceMul]))
              all_goals try omega
              all_goals first | (simp only [List.length_nil] at hle; omega) | exact hk.1
            · have _t := trivial
              refine ⟨[0, 1, 3], [0, 1], ?_⟩
              simp -dsimp -implicitDefEqProofs only [S47, R47, S47_0, S47_1, S47_2, S47_3, S47_4, S47_5, S47_6, S47_7, S47r1, S47r2, S47r3, S47r4, S47r5, S47r6, S47r7, S47r8, hx, h1, h2, h3, e2, hw, hv, hpl, hb, hp1, hp2, impF, CNextE, CStopE, CPlaceE, CRepl, fltV, Ev.panK, edC_wp, bodE_wp, bodK_ok, bodK_error, edK_ok, edK_error, plK, map_ok, map_error, strA, unStr_rows, strRows_len, strRows_all, ↓Ev.P, Ev.Q, Bool.cond_true, Bool.cond_false, eq_self, forall_eq_or_imp, implies_true, forall_const, forall_eq, ↓reduceIte, reduceIte, Nat.reduceEqDiff, Nat.reduceAdd, reduceCtorEq, Nat.reduceSub, Int.reduceToNat, Int.reduceLE, Int.reduceLT, Int.reduceNeg, Nat.reduceBEq, Nat.reduceMul, Nat.reduceLeDiff, Nat.reduceMod, UInt8.reduceOfNat, Nat.reduceLT, Int.reduceEq, Int.reduceAdd, Int.reduceSub, Int.reduceMul]
              repeat' (first | with_reducible assumption | refine And.intro ?_ ?_ | intro _ | (rw [Ev.xStp_eq]; simp -dsimp -implicitDefEqProofs only [hx, h1, h2, h3, e2, hw, hv, hpl, hb, hp1, hp2, impF, CNextE, CStopE, CPlaceE, CRepl, fltV, Ev.panK, edC_wp, bodE_wp, bodK_ok, bodK_error, edK_ok, edK_error, plK, map_ok, map_error, strA, unStr_rows, strRows_len, strRows_all, ↓Ev.P, Ev.Q, Bool.cond_true, Bool.cond_false, eq_self, forall_eq_or_imp, implies_true, forall_const, forall_eq, ↓reduceIte, reduceIte, Nat.reduceEqDiff, Nat.reduceAdd, reduceCtorEq, Nat.reduceSub, Int.reduceToNat, Int.reduceLE, Int.reduceLT, Int.reduceNeg, Nat.reduceBEq, Nat.reduceMul, Nat.reduceLeDiff, Nat.reduceMod, UInt8.reduceOfNat, Nat.reduceLT, Int.reduceEq, Int.reduceAdd, Int.reduceSub, Int.reduceMul]))
              all_goals try omega
              all_goals first | (simp only [List.length_nil] at hle; omega) | exact hk.1
    · rw [if_neg hvv] at hk
      rw [cmK_error] at hk
      unfold fltV at hk
      have v1 : ¬ v = 97 := fun h => hvv (.inl h)
      have v2 : ¬ v = 99 := fun h => hvv (.inr (.inl h))
      have v3 : ¬ v = 100 := fun h => hvv (.inr (.inr h))
      refine ⟨[0, 1], [0, 1], ?_⟩
      simp -dsimp -implicitDefEqProofs only [S47, R47, S47_0, S47_1, S47_2, S47_3, S47_4, S47_5, S47_6, S47_7, S47r1, S47r2, S47r3, S47r4, S47r5, S47r6, S47r7, S47r8, hx, h1, h2, h3, e2, hw, hv, v1, v2, v3, impF, CNextE, CStopE, CPlaceE, CRepl, fltV, Ev.panK, edC_wp, bodE_wp, bodK_ok, bodK_error, edK_ok, edK_error, plK, map_ok, map_error, strA, unStr_rows, strRows_len, strRows_all, ↓Ev.P, Ev.Q, Bool.cond_true, Bool.cond_false, eq_self, forall_eq_or_imp, implies_true, forall_const, forall_eq, ↓reduceIte, reduceIte, Nat.reduceEqDiff, Nat.reduceAdd, reduceCtorEq, Nat.reduceSub, Int.reduceToNat, Int.reduceLE, Int.reduceLT, Int.reduceNeg, Nat.reduceBEq, Nat.reduceMul, Nat.reduceLeDiff, Nat.reduceMod, UInt8.reduceOfNat, Nat.reduceLT, Int.reduceEq, Int.reduceAdd, Int.reduceSub, Int.reduceMul]
      repeat' (first | with_reducible assumption | refine And.intro ?_ ?_ | intro _ | (rw [Ev.xStp_eq]; simp -dsimp -implicitDefEqProofs only [hx, h1, h2, h3, e2, hw, hv, v1, v2, v3, impF, CNextE, CStopE, CPlaceE, CRepl, fltV, Ev.panK, edC_wp, bodE_wp, bodK_ok, bodK_error, edK_ok, edK_error, plK, map_ok, map_error, strA, unStr_rows, strRows_len, strRows_all, ↓Ev.P, Ev.Q, Bool.cond_true, Bool.cond_false, eq_self, forall_eq_or_imp, implies_true, forall_const, forall_eq, ↓reduceIte, reduceIte, Nat.reduceEqDiff, Nat.reduceAdd, reduceCtorEq, Nat.reduceSub, Int.reduceToNat, Int.reduceLE, Int.reduceLT, Int.reduceNeg, Nat.reduceBEq, Nat.reduceMul, Nat.reduceLeDiff, Nat.reduceMod, UInt8.reduceOfNat, Nat.reduceLT, Int.reduceEq, Int.reduceAdd, Int.reduceSub, Int.reduceMul]))
      all_goals try omega
      all_goals exact hk
def CPutR : Contract := stC fun args st => match args, st with
  | [.ptr 0 0, .d (.v (.int .i64 p)), .d (.sl l)], ⟨2, [(0, .cells t [.own 1, .d (.v (.int .i64 c))]), (1, .row u z T)]⟩ =>
    some ((0 ≤ p ∧ p ≤ T.length ∧ T.length ≤ 1099511627776 ∧ l.length ≤ 1099511627776 ∧ (u = 9 ∧ z = 1) ∧ (∀ r ∈ l, r.length = 1) ∧ ∀ r ∈ T, r.length = 1), .tup [], ⟨3, [(0, .cells t [.own 2, .d (.v (.int .i64 (curE p.toNat l.length)))]), (1, .fro T), (2, .row 9 1 (T.take p.toNat ++ (l ++ T.drop p.toNat)))]⟩)
  | _, _ => none
set_option maxHeartbeats 4000000 in
theorem s100 : Sound G Tryz.prog 100 CPutR := by
  refine sd100 (T := tabT []) tab_nil (stC_lawful _) (st_hX fun args st p x st' K h hp hk => ?_)
  split at h <;> simp only [Option.some.injEq, Prod.mk.injEq, reduceCtorEq] at h
  obtain ⟨rfl, rfl, rfl⟩ := h
  rename_i p l t c u z T
  obtain ⟨h1, h2, h3, h4, ⟨rfl, rfl⟩, h5, h6⟩ := hp
  obtain ⟨p, rfl⟩ := Int.eq_ofNat_of_zero_le h1
  rw [Int.toNat_natCast] at hk
  have h7 : ∀ r ∈ T.take p, r.length = 1 := fun r hr => h6 r (List.mem_of_mem_take hr)
  have h8 : ∀ r ∈ T.drop p, r.length = 1 := fun r hr => h6 r (List.mem_of_mem_drop hr)
  refine ⟨Nat.le_of_ble_eq_true rfl, [0, 1, 5], ?_⟩
  by_cases hl : 0 < l.length
  · have hl2 : (0 : Int) < (l.length : Int) := by omega
    rw [curE, if_neg (by omega)] at hk
    simp -dsimp -implicitDefEqProofs only [S100, R100, hl2, ↓Ev.xStp_eq, ↓Ev.P, Ev.Q, Bool.cond_true, Bool.cond_false, eq_self, forall_eq_or_imp, implies_true, forall_const, forall_eq, ↓reduceIte, reduceIte, Nat.reduceEqDiff, Nat.reduceAdd, reduceCtorEq, Nat.reduceSub, Int.reduceToNat, Int.reduceLE, Int.reduceLT, Int.reduceNeg, Nat.reduceBEq, Nat.reduceMul, Nat.reduceLeDiff, Nat.reduceMod, UInt8.reduceOfNat, Nat.reduceLT, Int.reduceEq, Int.reduceAdd, Int.reduceSub, Int.reduceMul]
    repeat' (first | with_reducible assumption | refine And.intro ?_ ?_ | intro _)
    all_goals try omega
    all_goals first | exact hk | (rw [← List.append_assoc] at hk; exact hk) | (simp only [List.length_append, List.length_take, List.length_drop]; omega)
  · obtain rfl : l = [] := List.eq_nil_of_length_eq_zero (by omega)
    rw [List.length_nil, curE, if_pos rfl] at hk
    simp -dsimp -implicitDefEqProofs only [S100, R100, ↓Ev.xStp_eq, ↓Ev.P, Ev.Q, Bool.cond_true, Bool.cond_false, eq_self, forall_eq_or_imp, implies_true, forall_const, forall_eq, ↓reduceIte, reduceIte, Nat.reduceEqDiff, Nat.reduceAdd, reduceCtorEq, Nat.reduceSub, Int.reduceToNat, Int.reduceLE, Int.reduceLT, Int.reduceNeg, Nat.reduceBEq, Nat.reduceMul, Nat.reduceLeDiff, Nat.reduceMod, UInt8.reduceOfNat, Nat.reduceLT, Int.reduceEq, Int.reduceAdd, Int.reduceSub, Int.reduceMul]
    repeat' (first | with_reducible assumption | refine And.intro ?_ ?_ | intro _)
    all_goals try omega
    all_goals first | exact hk | (simp only [List.length_append, List.length_take, List.length_drop]; omega)
def refE : Except Fl (List (List UInt8)) → SV × Store
  | .ok T => (.tup [.own 0, .agg [.d (.v (.int .i64 0)), .d (.v (.int .i64 0))]], ⟨1, [(0, .row 9 1 (strRows T))]⟩)
  | .error (a, e) => (.tup [.d (.sl []), .agg [.d (.v (.int .i64 a)), .d (.v (.int .i64 e))]], ⟨0, []⟩)
def CRunE : Contract := stC fun args st => match args, st with
  | [.d (.v (.string s)), .d (.sl rows)], ⟨0, []⟩ => (unStr rows).map fun A => ((s.size ≤ 1099511627776 ∧ A.length ≤ 1048576 ∧ ∀ x ∈ A, x.length ≤ 1099511627776), refE (edN s.data.toList A))
  | _, _ => none
theorem lns_szE (s : List UInt8) (h : s.length ≤ 1048576) : (lns s).length ≤ 1048576 ∧ ∀ x ∈ lns s, x.length ≤ 1048576 := by
  refine ⟨Nat.le_trans (lns_len s) h, fun x hx => ?_⟩
  have h2 : x.length ≤ (lns s).flatten.length := by
    obtain ⟨a, b, e⟩ := List.append_of_mem hx
    rw [e]; simp; omega
  rw [lns_flat] at h2
  omega
theorem bareT_len (A : List (List UInt8)) : (bareT A).length = A.length := by simp [bareT]
theorem bareT_sz {A : List (List UInt8)} {m : Nat} (h : ∀ x ∈ A, x.length ≤ m) : ∀ x ∈ bareT A, x.length ≤ m := by
  intro x hx
  obtain ⟨y, hy, rfl⟩ := List.mem_map.1 hx
  exact Nat.le_trans (bare_len _) (h y hy)
theorem bareT_snoc {A : List (List UInt8)} {i : Nat} (h : i < A.length) : (bareT A).take (i + 1) = (bareT A).take i ++ [(bareS (A.getD i [])).1] := by
  rw [List.take_add_one, bareT, List.getElem?_map, List.getD_eq_getElem?_getD, List.getElem?_eq_getElem h]; rfl
theorem bareT_all (A : List (List UInt8)) : (bareT A).take A.length = bareT A := List.take_of_length_le (by rw [bareT_len]; exact Nat.le_refl _)
theorem runE_end {L : List (List UInt8)} {n k : Nat} {x : Ed} (h : ¬ k < L.length) : runE L n x k = .ok (x.1, false) := by
  cases n with
  | zero => rfl
  | succ n => rw [runE, if_neg h]
theorem fed_len (T : List (List UInt8)) (j : Nat) : (fedT T j).length = T.length := by
  simp only [fedT, List.length_append, List.length_map, List.length_take, List.length_drop]; omega
theorem fed_get {T : List (List UInt8)} {j : Nat} (h : j < T.length) : (fedT T j).getD j [] = T.getD j [] := by
  rw [fedT, List.getD_eq_getElem?_getD, List.getElem?_append_right (by simp; omega), List.getElem?_drop, List.getD_eq_getElem?_getD]
  congr 2
  simp; omega
theorem fed_set {T : List (List UInt8)} {j : Nat} (h : j < T.length) : (fedT T j).set j (T.getD j [] ++ [10]) = fedT T (j + 1) := by
  have hd : T.drop j = T.getD j [] :: T.drop (j + 1) := by
    rw [List.drop_eq_getElem_cons h, List.getD_eq_getElem?_getD, List.getElem?_eq_getElem h]; rfl
  have ht : T.take (j + 1) = T.take j ++ [T.getD j []] := by
    rw [List.take_add_one, List.getD_eq_getElem?_getD, List.getElem?_eq_getElem h]; rfl
  have hl : ((T.take j).map (· ++ [10])).length = j := by simp; omega
  rw [fedT, fedT, List.set_append_right _ _ (by omega), hl, Nat.sub_self, hd, List.set_cons_zero, ht, List.map_append, List.append_assoc]
  rfl
theorem fed_rows {T : List (List UInt8)} {j : Nat} (h : j < T.length) : (strRows (fedT T j)).set j [.v (.string ⟨(T.getD j [] ++ [10]).toArray⟩)] = strRows (fedT T (j + 1)) := by
  rw [← fed_set h]; simp [strRows, List.map_set]
theorem fed_zero (T : List (List UInt8)) : fedT T 0 = T := by simp [fedT]
theorem bodyE_err {L T : List (List UInt8)} {p n k : Nat} {a e : Int} (h : bodyE L T p n k = .error (a, e)) : ¬ e = 0 := by
  unfold bodyE at h
  cases hb : bodyL L (L.length - k) k [] with
  | error y =>
    obtain ⟨ya, ye⟩ := y
    rw [hb] at h
    simp only [Except.error.injEq, Prod.mk.injEq] at h
    obtain ⟨rfl, rfl⟩ := h
    exact bodyL_err hb
  | ok y => rw [hb] at h; cases h
theorem placeE_err {len : Nat} {s : List UInt8} {v e : Int} (h : placeE len s v = .error e) : ¬ e = 0 := by
  unfold placeE at h
  repeat' split at h
  all_goals simp only [Except.error.injEq, reduceCtorEq] at h
  all_goals (subst h; decide)
theorem cmdE_err {L : List (List UInt8)} {x : Ed} {k : Nat} {a e : Int} (h : cmdE L x k = .error (a, e)) : ¬ e = 0 := by
  unfold cmdE at h
  cases hx : nextL L k with
  | error y =>
    obtain ⟨ya, ye⟩ := y
    rw [hx] at h
    simp only [Except.error.injEq, Prod.mk.injEq] at h
    obtain ⟨rfl, rfl⟩ := h
    exact (nx_next_err 0 hx).2.2
  | ok y =>
    obtain ⟨s, b⟩ := y
    rw [hx] at h; dsimp only at h
    split at h
    · simp only [Except.error.injEq, Prod.mk.injEq] at h; rw [← h.2]; decide
    split at h
    · split at h
      · simp only [Except.error.injEq, Prod.mk.injEq] at h; rw [← h.2]; decide
      · exact bodyE_err h
    split at h
    · split at h
      · simp only [Except.error.injEq, Prod.mk.injEq] at h; rw [← h.2]; decide
      · cases h
    unfold numE at h
    split at h
    · split at h
      · rename_i e2 hpl
        simp only [Except.error.injEq, Prod.mk.injEq] at h
        rw [← h.2]; exact placeE_err hpl
      · split at h
        · cases h
        · exact bodyE_err h
    · simp only [Except.error.injEq, Prod.mk.injEq] at h; rw [← h.2]; decide
theorem runE_le {L : List (List UInt8)} : ∀ {n k : Nat} {x : Ed} {T : List (List UInt8)} {c : Bool}, runE L n x k = .ok (T, c) → okE x → k ≤ L.length → T.length ≤ x.1.length + (L.length - k)
  | 0, k, x, T, c, h, _, _ => by
    simp only [runE, Except.ok.injEq, Prod.mk.injEq] at h
    rw [← h.1]; omega
  | n + 1, k, x, T, c, h, hx, hk => by
    rw [runE] at h
    split at h
    · split at h
      · split at h
        · simp only [Except.ok.injEq, Prod.mk.injEq] at h
          rw [← h.1]; omega
        · cases h
      · split at h
        · cases h
        · rename_i y a hc
          obtain ⟨q1, q2, q3, q4⟩ := cmdE_le hc hx
          have := runE_le h q1 q3
          omega
    · simp only [Except.ok.injEq, Prod.mk.injEq] at h
      rw [← h.1]; omega
end Go.Proofs.YtlghobefhmpfkaaGreatDoor
set_option linter.unusedVariables false
set_option linter.unusedSimpArgs false
namespace Go.Proofs.YtlghobefhmpfkaaGreatDoor
open Go Go.RowKit
set_option maxRecDepth 100000
theorem ta_flt (v : Value) (xT : TypeId) (w : World) : (Instr.typeAssert (.iface 79 v) xT 79 true).run Tryz.prog w = .ok (.tuple #[v, .bool true]) w := by kernel_rfl
set_option maxHeartbeats 1000000 in
theorem catch_pan (p0 p1 : Addr) (q : Addr) (x0 x1 : Value) (w : World) (h0 : w.cell? p0 = some x0) (h1 : w.cell? p1 = some x1) (f0 : w.frozen? p0 = false) (f1 : w.frozen? p1 = false) (hne : p0.block ≠ p1.block) :
    CallsDIn Fence.wide 0 Tryz.prog 46 #[.pointer (some p0), .pointer (some p1)] (.panicking [{ v := .iface 79 (.pointer (some q)), recovered := false }]) w fun e u w' =>
      e = .returned (.tuple #[]) ∧ u = .panicking [{ v := .iface 79 (.pointer (some q)), recovered := true }] ∧ w' = (w.setCell p0 (.slice none 0 0)).setCell p1 (.iface 79 (.pointer (some q))) := by
  have hta := ta_flt
  refine callsDIn_of_wpSIn Tryz.func46 rfl trivial fun c₀ cs hu => ?_
  refine wpSIn_seq (wpSIn_region ?_)
  simp [wpOpsSIn, go_sem, recoverD, hu, Tryz.ntmps46, Exit.thenS]
  refine wpSIn_of_wpIn rfl (wpIn_wide.2 ?_)
  have f1' : (w.setCell p0 (.slice none 0 0)).frozen? p1 = false := by rw [World.frozen?_setCell]; exact f1
  have h1' : (w.setCell p0 (.slice none 0 0)).cell? p1 = some x1 := by rw [World.cell?_setCell_other _ _ _ _ (fun e => hne (by rw [e]))]; exact h1
  go_wp2
  exact ⟨rfl, _, rfl, _, results_none rfl _ _ _, rfl, rfl, rfl⟩
theorem catch_idle (p0 p1 : Addr) (w : World) :
    CallsDIn Fence.wide 0 Tryz.prog 46 #[.pointer (some p0), .pointer (some p1)] .returning w fun e u w' => e = .returned (.tuple #[]) ∧ u = .returning ∧ w' = w := by
  refine callsDIn_of_wpSIn Tryz.func46 rfl trivial fun c₀ cs hu => ?_
  refine wpSIn_seq (wpSIn_region ?_)
  simp [wpOpsSIn, go_sem, recoverD, hu, Tryz.ntmps46, Exit.thenS]
  refine wpSIn_of_wpIn rfl (wpIn_wide.2 ?_)
  go_wp2
  trace_state
  refine ⟨rfl, .returning, ?_, _, results_none rfl _ _ _, rfl, rfl, rfl⟩
  cases c₀
  simp_all
end Go.Proofs.YtlghobefhmpfkaaGreatDoor
set_option linter.unusedVariables false
set_option linter.unusedSimpArgs false
namespace Go.Proofs.YtlghobefhmpfkaaGreatDoor
open Go Go.Ev
set_option maxRecDepth 100000
variable {G : World → Prop}
def DCatch (tf : TypeId) : DCon := fun x caps s K => match x, caps with
  | none, [.ptr _ 0, .ptr _ 0] => K s
  | some (.d (.ifc t (.pt cells))), [.ptr o1 0, .ptr o2 0] => match lk s.ob o1, lk s.ob o2 with
    | some (.cells t1 [x1]), some (.cells t2 [x2]) => (t = tf ∧ o1 ≠ o2) ∧ K ⟨s.n, (o2, .cells t2 [.d (.ifc t (.pt cells))]) :: (o1, .cells t1 [.d (.v (.slice none 0 0))]) :: s.ob⟩
    | _, _ => False
  | _, _ => False
theorem heap_set {w : World} {b : Nat} {c : Value} {t : TypeId} (h : w.heap[b]? = some (.cells #[c] t (0, 0))) (u : Value) : (w.setCell ⟨b, 0, none⟩ u).heap[b]? = some (.cells #[u] t (0, 0)) := by
  simp only [World.setCell, Array.getElem?_modify, if_true, h, Option.map_some]
  rfl
theorem one_cell {cs : Array Value} {m : Nat → Value} {n : Nat} {c : Rdr} {x : SV} (h : CnL m n c [x] cs.toList) : ∃ v, cs = #[v] ∧ Cn m n c x v := by
  obtain ⟨l⟩ := cs
  match l, h with
  | [v], h => exact ⟨v, rfl, by simpa [CnL] using h⟩
  | [], h => simp [CnL] at h
  | _ :: _ :: _, h => simp [CnL] at h
theorem set_one {H : Hd G} {w : World} {m : Nat → Value} {B : Nat → Nat → Prop} {s : Store} (hO : SOk H w m B s) {o b : Nat} {t : TypeId} {x : SV} (ho : lk s.ob o = some (.cells t [x])) (hb : m o = .pointer (some ⟨b, 0, none⟩)) {y : SV} {u : Value} (hy : Cn m s.n (vw H w B s.ob) y u) (hu : u.oneCell' = true) :
    ∃ c, w.heap[b]? = some (.cells #[c] t (0, 0)) ∧ (∀ z, B o z ↔ z = b) ∧ ∃ B', Since w m B s (w.setCell ⟨b, 0, none⟩ u) m B' ⟨s.n, (o, .cells t [y]) :: s.ob⟩ ∧ SOk H (w.setCell ⟨b, 0, none⟩ u) m B' ⟨s.n, (o, .cells t [y]) :: s.ob⟩ ∧ ∀ k, k ≠ o → ∀ z, B' k z ↔ B k z := by
  obtain ⟨b', cs, g1, g2, g3, g4, g5⟩ := hO.obs o _ ho
  rw [hb] at g1
  simp only [Value.pointer.injEq, Option.some.injEq, Addr.mk.injEq, and_true] at g1
  subst g1
  obtain ⟨c, rfl, _⟩ := one_cell g3
  have hs := heap_set g2 u
  have hsz : (w.setCell ⟨b, 0, none⟩ u).heap.size = w.heap.size := by simp [World.setCell]
  have hup := SOk.upd (w1 := w.setCell ⟨b, 0, none⟩ u) hO o _ (.cells t [y]) ho rfl (fun z => z = b) rfl rfl rfl (by omega) (fun j _ hj => RowKit.Below.heap_setCell _ _ _ _ (fun e => hj ((g5 j).2 e)))
    (fun j _ hj => by subst hj; exact ⟨by rw [hsz]; exact (Array.getElem?_eq_some_iff.1 g2).1, .inl ((g5 j).2 rfl)⟩) (fun c' hc1 _ => by
      refine ⟨b, _, hb, hs, ?_, ?_, fun z => Iff.rfl⟩
      · simp only [CnL, and_true]; exact Cn_mono (Nat.le_refl _) (fun _ _ => rfl) hc1 _ _ hy
      · intro z hz; simp at hz; subst hz; exact hu)
  exact ⟨c, g2, g5, _, hup.1, hup.2, fun k hk z => by simp [hk]⟩
theorem sCatch : SoundD G Tryz.prog 46 (DCatch 79) := by
  intro H w m B s caps vs hO hc
  refine ⟨⟨Tryz.f46, by kernel_rfl, by kernel_rfl, by kernel_rfl⟩, fun K hK => ?_, fun x v K hx hK => ?_⟩
  · unfold DCatch at hK
    split at hK
    · rename_i o1 o2 _
      match vs, hc with
      | [a, b], hc =>
        simp only [CnL, Cn, and_true] at hc
        obtain ⟨⟨n1, b1, e1, rfl⟩, n2, b2, e2, rfl⟩ := hc
        refine (catch_idle ⟨b1, 0, none⟩ ⟨b2, 0, none⟩ w).mono ?_
        rintro e u w' ⟨rfl, rfl, rfl⟩
        exact ⟨⟨_, rfl⟩, rfl, m, B, s, hK, hO, Since.refl _ _ _ _⟩
      | [], hc => simp [CnL] at hc
      | [_], hc => simp [CnL] at hc
      | _ :: _ :: _ :: _, hc => simp [CnL] at hc
    · rename_i h; cases h
    · exact hK.elim
  · unfold DCatch at hK
    split at hK
    · rename_i h; cases h
    · rename_i t cells o1 o2 h
      simp only [Option.some.injEq] at h
      subst h
      split at hK
      · rename_i t1 x1 t2 x2 l1 l2
        obtain ⟨⟨rfl, hne⟩, hK⟩ := hK
        match vs, hc with
        | [a, b], hc =>
          simp only [CnL, Cn, and_true] at hc
          obtain ⟨⟨n1, b1, e1, rfl⟩, n2, b2, e2, rfl⟩ := hc
          simp only [Cn, Rd] at hx
          obtain ⟨z, rfl, ad, rfl, hcells⟩ := hx
          obtain ⟨c1, p1, p2, B1, p3, p4, p5⟩ := set_one hO l1 e1 (y := .d (.v (.slice none 0 0))) (u := .slice none 0 0) ⟨rfl, rfl⟩ rfl
          have l2' : lk ((o1, Ob.cells t1 [.d (.v (.slice none 0 0))]) :: s.ob) o2 = some (.cells t2 [x2]) := by rw [lk_cons, if_neg hne]; exact l2
          have hcells2 := RdCells_mono p3.vw ad 0 cells hcells
          obtain ⟨c2, q1, q2, B2, q3, q4, q5⟩ := set_one p4 l2' e2 (y := .d (.ifc 79 (.pt cells))) (u := .iface 79 (.pointer (some ad))) (by simp only [Cn, Rd]; exact ⟨_, rfl, ad, rfl, hcells2⟩) rfl
          obtain ⟨c2', q1', q2', _⟩ := set_one hO l2 e2 (y := .d (.v (.slice none 0 0))) (u := .slice none 0 0) ⟨rfl, rfl⟩ rfl
          have hb : b1 ≠ b2 := fun e => hO.sep o1 o2 _ _ l1 l2 rfl rfl hne b1 ((p2 b1).2 rfl) ((q2' b1).2 e)
          refine (catch_pan ⟨b1, 0, none⟩ ⟨b2, 0, none⟩ ad c1 c2' w (by rw [cell_at p1]; rfl) (by rw [cell_at q1']; rfl) ?_ ?_ hb).mono ?_
          · simp [World.frozen?, p1]
          · simp [World.frozen?, q1']
          · rintro e u w' ⟨rfl, rfl, rfl⟩
            exact ⟨⟨_, rfl⟩, rfl, m, B2, _, hK, q4, p3.trans q3⟩
        | [], hc => simp [CnL] at hc
        | [_], hc => simp [CnL] at hc
        | _ :: _ :: _ :: _, hc => simp [CnL] at hc
      · exact hK.elim
    · exact hK.elim
end Go.Proofs.YtlghobefhmpfkaaGreatDoor
set_option linter.unusedVariables false
set_option linter.unusedSimpArgs false
namespace Go.Proofs.YtlghobefhmpfkaaGreatDoor
open Go Go.Ev Go.Rcs
set_option maxRecDepth 100000
variable {G : World → Prop}
theorem defE_nE {D : DCon} {rs : List RR} {n0 : Nat} {os : List Nat} {K : Out → Store → Prop} {caps : List SV} {st : St} : Ev.defE D rs n0 os K caps .normal st = Ev.defK D rs n0 os K none caps st := rfl
theorem defE_rE {D : DCon} {rs : List RR} {n0 : Nat} {os : List Nat} {K : Out → Store → Prop} {caps : List SV} {st : St} : Ev.defE D rs n0 os K caps .ret st = Ev.defK D rs n0 os K none caps st := rfl
def runE2 : Except Fl (List (List UInt8)) → SV × Store
  | .ok T => (.tup [.own 0, .d (.v .nilIface)], ⟨1, [(0, .row 9 1 (strRows T))]⟩)
  | .error (a, e) => (.tup [.d (.sl []), .d (fltV a e)], ⟨0, []⟩)
def CRunP : Contract := stC fun args st => match args, st with
  | [.d (.v (.string s)), .d (.sl rows)], ⟨0, []⟩ => (unStr rows).map fun A => ((s.size ≤ 1099511627776 ∧ A.length ≤ 1048576 ∧ ∀ x ∈ A, x.length ≤ 1099511627776), runE2 (edN s.data.toList A))
  | _, _ => none
set_option maxHeartbeats 32000000 in
theorem s15 (hG : ∀ w, G w → ErrR w) : Sound G Tryz.prog 15 CRunP := by
  refine sd15 (T := tabT [(34, CSplit), (18, CBare), (47, CCmdE), (48, CStopE)]) (tab_cons s34 (tab_cons s18 (tab_cons (s47 hG) (tab_cons s48 tab_nil)))) sCatch (stC_lawful _) (fun args st K hW => ?_)
  replace hW := (stC_wp _ args st K).mp hW
  obtain ⟨z, h, hp, hk⟩ := need_ex hW
  split at h <;> simp only [Option.map_eq_some_iff, reduceCtorEq] at h
  obtain ⟨A, hl, rfl⟩ := h
  rename_i s rows
  rw [unStr_eq hl] at *
  obtain ⟨s, rfl⟩ := ex_str s
  simp only [sem_str] at hp hk
  obtain ⟨hs0, hAl, hA⟩ := hp
  refine ⟨Nat.le_of_ble_eq_true rfl, ?_⟩
  by_cases h4 : 1048576 < s.length
  · have h4' : (1048576 : Int) < (s.length : Int) := by omega
    have h5 : edN s A = .error (0, 9) := by rw [edN, if_pos h4]
    rw [h5] at hk; simp only [runE2] at hk; unfold fltV at hk
    refine ⟨[], ?_⟩
    simp -dsimp -implicitDefEqProofs only [S15, SP15, R15, h4', impF, CSplit, CBare, CStopE, cmdE_wp, cmK_ok, cmK_error, edC_wp, edK_ok, edK_error, DCatch, Ev.defK, defE_nE, defE_rE, Ev.endK, Ev.xvs, fltV, unStr_rows, strRows_len, strRows_all, List.length_append, List.length_set, Ev.St.giveC, ↓Ev.P, Ev.Q, Bool.cond_true, Bool.cond_false, eq_self, forall_eq_or_imp, implies_true, forall_const, forall_eq, ↓reduceIte, reduceIte, Nat.reduceEqDiff, Nat.reduceAdd, reduceCtorEq, Nat.reduceSub, Int.reduceToNat, Int.reduceLE, Int.reduceLT, Int.reduceNeg, Nat.reduceBEq, Nat.reduceMul, Nat.reduceLeDiff, Nat.reduceMod, UInt8.reduceOfNat, Nat.reduceLT, Int.reduceEq, Int.reduceAdd, Int.reduceSub, Int.reduceMul]
    repeat' (first | with_reducible assumption | refine And.intro ?_ ?_ | intro _ | (rw [Ev.xStp_eq]; simp -dsimp -implicitDefEqProofs only [S15, SP15, R15, h4', impF, CSplit, CBare, CStopE, cmdE_wp, cmK_ok, cmK_error, edC_wp, edK_ok, edK_error, DCatch, Ev.defK, defE_nE, defE_rE, Ev.endK, Ev.xvs, fltV, unStr_rows, strRows_len, strRows_all, List.length_append, List.length_set, Ev.St.giveC, ↓Ev.P, Ev.Q, Bool.cond_true, Bool.cond_false, eq_self, forall_eq_or_imp, implies_true, forall_const, forall_eq, ↓reduceIte, reduceIte, Nat.reduceEqDiff, Nat.reduceAdd, reduceCtorEq, Nat.reduceSub, Int.reduceToNat, Int.reduceLE, Int.reduceLT, Int.reduceNeg, Nat.reduceBEq, Nat.reduceMul, Nat.reduceLeDiff, Nat.reduceMod, UInt8.reduceOfNat, Nat.reduceLT, Int.reduceEq, Int.reduceAdd, Int.reduceSub, Int.reduceMul]))
    all_goals try omega
    all_goals exact hk
  · have h4' : ¬ (1048576 : Int) < (s.length : Int) := by omega
    have h5 : edN s A = (runE (lns s) ((lns s).length + 1) (bareT A, -1) 0).map fedE := by rw [edN, if_neg h4]
    rw [h5] at hk
    obtain ⟨hLl, hL0⟩ := lns_szE s (by omega)
    generalize hLs : lns s = L at hk hLl hL0
    have hL : ∀ x ∈ L, x.length ≤ 1099511627776 := fun x hx => Nat.le_trans (hL0 x hx) (by omega)
    have hsm : smL L := ⟨by omega, hL⟩
    cases hY : runE L (L.length + 1) (bareT A, -1) 0 with
    | error xe =>
      obtain ⟨a, e⟩ := xe
      rw [hY] at hk; simp only [map_error, runE2] at hk; unfold fltV at hk
      refine ⟨[], ?_⟩
      simp -dsimp -implicitDefEqProofs only [S15, SP15, R15, h4', hLs, impF, CSplit, CBare, CStopE, cmdE_wp, cmK_ok, cmK_error, edC_wp, edK_ok, edK_error, DCatch, Ev.defK, defE_nE, defE_rE, Ev.endK, Ev.xvs, fltV, unStr_rows, strRows_len, strRows_all, List.length_append, List.length_set, Ev.St.giveC, ↓Ev.P, Ev.Q, Bool.cond_true, Bool.cond_false, eq_self, forall_eq_or_imp, implies_true, forall_const, forall_eq, ↓reduceIte, reduceIte, Nat.reduceEqDiff, Nat.reduceAdd, reduceCtorEq, Nat.reduceSub, Int.reduceToNat, Int.reduceLE, Int.reduceLT, Int.reduceNeg, Nat.reduceBEq, Nat.reduceMul, Nat.reduceLeDiff, Nat.reduceMod, UInt8.reduceOfNat, Nat.reduceLT, Int.reduceEq, Int.reduceAdd, Int.reduceSub, Int.reduceMul]
      repeat' (first | with_reducible assumption | refine And.intro ?_ ?_ | intro _ | (rw [Ev.xStp_eq]; simp -dsimp -implicitDefEqProofs only [S15, SP15, R15, h4', hLs, impF, CSplit, CBare, CStopE, cmdE_wp, cmK_ok, cmK_error, edC_wp, edK_ok, edK_error, DCatch, Ev.defK, defE_nE, defE_rE, Ev.endK, Ev.xvs, fltV, unStr_rows, strRows_len, strRows_all, List.length_append, List.length_set, Ev.St.giveC, ↓Ev.P, Ev.Q, Bool.cond_true, Bool.cond_false, eq_self, forall_eq_or_imp, implies_true, forall_const, forall_eq, ↓reduceIte, reduceIte, Nat.reduceEqDiff, Nat.reduceAdd, reduceCtorEq, Nat.reduceSub, Int.reduceToNat, Int.reduceLE, Int.reduceLT, Int.reduceNeg, Nat.reduceBEq, Nat.reduceMul, Nat.reduceLeDiff, Nat.reduceMod, UInt8.reduceOfNat, Nat.reduceLT, Int.reduceEq, Int.reduceAdd, Int.reduceSub, Int.reduceMul]))
      all_goals try omega
      refine xLoop_intro (fun m st => ∃ i : Nat, i ≤ A.length ∧ m = A.length - i ∧ st = ⟨[(4, .ptr 0 0), (5, .ptr 1 0), (6, .ptr 3 0), (25, .d (.sl (strRows A))), (26, .d (.v (.int .i64 (A.length : Nat)))), (27, .d (.v (.int .i64 (i : Nat))))], 4, [(0, .cells 22 [.d (.v (.slice none 0 0))]), (1, .cells 24 [.d (.v .nilIface)]), (2, .row 9 1 (strRows ((bareT A).take i))), (3, .cells 87 [.own 2, .d (.v (.int .i64 (-1))), .d (.sl (strRows L)), .d (.v (.int .i64 0))])]⟩) A.length [0, 1, 2, 3] ?_ ?_ ?_
      · simp -dsimp -implicitDefEqProofs only [↓Ev.xStp_eq, ↓Ev.P, Ev.Q, Bool.cond_true, Bool.cond_false, eq_self, forall_eq_or_imp, implies_true, forall_const, forall_eq, ↓reduceIte, reduceIte, Nat.reduceEqDiff, Nat.reduceAdd, reduceCtorEq, Nat.reduceSub, Int.reduceToNat, Int.reduceLE, Int.reduceLT, Int.reduceNeg, Nat.reduceBEq, Nat.reduceMul, Nat.reduceLeDiff, Nat.reduceMod, UInt8.reduceOfNat, Nat.reduceLT, Int.reduceEq, Int.reduceAdd, Int.reduceSub, Int.reduceMul]
      · simp -dsimp -implicitDefEqProofs only [strRows_len, ↓Ev.xStp_eq, ↓Ev.P, Ev.Q, Bool.cond_true, Bool.cond_false, eq_self, forall_eq_or_imp, implies_true, forall_const, forall_eq, ↓reduceIte, reduceIte, Nat.reduceEqDiff, Nat.reduceAdd, reduceCtorEq, Nat.reduceSub, Int.reduceToNat, Int.reduceLE, Int.reduceLT, Int.reduceNeg, Nat.reduceBEq, Nat.reduceMul, Nat.reduceLeDiff, Nat.reduceMod, UInt8.reduceOfNat, Nat.reduceLT, Int.reduceEq, Int.reduceAdd, Int.reduceSub, Int.reduceMul]
        exact ⟨0, by omega, by omega, rfl⟩
      · rintro m st ⟨i, hi, rfl, rfl⟩
        by_cases hil : i < A.length
        · have hi3 : (i : Int) < (A.length : Int) := by omega
          have hg := strRows_get hil
          have hsz := hA _ (getD_in hil)
          have hlen : ((bareT A).take i).length = i := by rw [List.length_take, bareT_len]; omega
          have hsn := bareT_snoc hil
          generalize A.getD i [] = w at hg hsz hsn
          simp -dsimp -implicitDefEqProofs only [S15, SP15, R15, hi3, hg, hlen, impF, CSplit, CBare, CStopE, cmdE_wp, cmK_ok, cmK_error, edC_wp, edK_ok, edK_error, DCatch, Ev.defK, defE_nE, defE_rE, Ev.endK, Ev.xvs, fltV, unStr_rows, strRows_len, strRows_all, List.length_append, List.length_set, Ev.St.giveC, ↓Ev.P, Ev.Q, Bool.cond_true, Bool.cond_false, eq_self, forall_eq_or_imp, implies_true, forall_const, forall_eq, ↓reduceIte, reduceIte, Nat.reduceEqDiff, Nat.reduceAdd, reduceCtorEq, Nat.reduceSub, Int.reduceToNat, Int.reduceLE, Int.reduceLT, Int.reduceNeg, Nat.reduceBEq, Nat.reduceMul, Nat.reduceLeDiff, Nat.reduceMod, UInt8.reduceOfNat, Nat.reduceLT, Int.reduceEq, Int.reduceAdd, Int.reduceSub, Int.reduceMul]
          repeat' (first | with_reducible assumption | refine And.intro ?_ ?_ | intro _ | (rw [Ev.xStp_eq]; simp -dsimp -implicitDefEqProofs only [S15, SP15, R15, hi3, hg, hlen, impF, CSplit, CBare, CStopE, cmdE_wp, cmK_ok, cmK_error, edC_wp, edK_ok, edK_error, DCatch, Ev.defK, defE_nE, defE_rE, Ev.endK, Ev.xvs, fltV, unStr_rows, strRows_len, strRows_all, List.length_append, List.length_set, Ev.St.giveC, ↓Ev.P, Ev.Q, Bool.cond_true, Bool.cond_false, eq_self, forall_eq_or_imp, implies_true, forall_const, forall_eq, ↓reduceIte, reduceIte, Nat.reduceEqDiff, Nat.reduceAdd, reduceCtorEq, Nat.reduceSub, Int.reduceToNat, Int.reduceLE, Int.reduceLT, Int.reduceNeg, Nat.reduceBEq, Nat.reduceMul, Nat.reduceLeDiff, Nat.reduceMod, UInt8.reduceOfNat, Nat.reduceLT, Int.reduceEq, Int.reduceAdd, Int.reduceSub, Int.reduceMul]))
          all_goals try omega
          refine xAgain_intro (A.length - (i + 1)) [0, 1, 5, 3] (by omega) (by simp -dsimp -implicitDefEqProofs only [↓Ev.xStp_eq, ↓Ev.P, Ev.Q, Bool.cond_true, Bool.cond_false, eq_self, forall_eq_or_imp, implies_true, forall_const, forall_eq, ↓reduceIte, reduceIte, Nat.reduceEqDiff, Nat.reduceAdd, reduceCtorEq, Nat.reduceSub, Int.reduceToNat, Int.reduceLE, Int.reduceLT, Int.reduceNeg, Nat.reduceBEq, Nat.reduceMul, Nat.reduceLeDiff, Nat.reduceMod, UInt8.reduceOfNat, Nat.reduceLT, Int.reduceEq, Int.reduceAdd, Int.reduceSub, Int.reduceMul]) ⟨i + 1, by omega, rfl, ?_⟩
          rw [hsn, strRows_snoc]
          simp -dsimp -implicitDefEqProofs only [↓Ev.xStp_eq, ↓Ev.P, Ev.Q, Bool.cond_true, Bool.cond_false, eq_self, forall_eq_or_imp, implies_true, forall_const, forall_eq, ↓reduceIte, reduceIte, Nat.reduceEqDiff, Nat.reduceAdd, reduceCtorEq, Nat.reduceSub, Int.reduceToNat, Int.reduceLE, Int.reduceLT, Int.reduceNeg, Nat.reduceBEq, Nat.reduceMul, Nat.reduceLeDiff, Nat.reduceMod, UInt8.reduceOfNat, Nat.reduceLT, Int.reduceEq, Int.reduceAdd, Int.reduceSub, Int.reduceMul]
          all_goals rfl
        · have hi3 : ¬ (i : Int) < (A.length : Int) := by omega
          obtain rfl : i = A.length := by omega
          rw [bareT_all]
          simp -dsimp -implicitDefEqProofs only [S15, SP15, R15, hi3, impF, CSplit, CBare, CStopE, cmdE_wp, cmK_ok, cmK_error, edC_wp, edK_ok, edK_error, DCatch, Ev.defK, defE_nE, defE_rE, Ev.endK, Ev.xvs, fltV, unStr_rows, strRows_len, strRows_all, List.length_append, List.length_set, Ev.St.giveC, ↓Ev.P, Ev.Q, Bool.cond_true, Bool.cond_false, eq_self, forall_eq_or_imp, implies_true, forall_const, forall_eq, ↓reduceIte, reduceIte, Nat.reduceEqDiff, Nat.reduceAdd, reduceCtorEq, Nat.reduceSub, Int.reduceToNat, Int.reduceLE, Int.reduceLT, Int.reduceNeg, Nat.reduceBEq, Nat.reduceMul, Nat.reduceLeDiff, Nat.reduceMod, UInt8.reduceOfNat, Nat.reduceLT, Int.reduceEq, Int.reduceAdd, Int.reduceSub, Int.reduceMul]
          repeat' (first | with_reducible assumption | refine And.intro ?_ ?_ | intro _ | (rw [Ev.xStp_eq]; simp -dsimp -implicitDefEqProofs only [S15, SP15, R15, hi3, impF, CSplit, CBare, CStopE, cmdE_wp, cmK_ok, cmK_error, edC_wp, edK_ok, edK_error, DCatch, Ev.defK, defE_nE, defE_rE, Ev.endK, Ev.xvs, fltV, unStr_rows, strRows_len, strRows_all, List.length_append, List.length_set, Ev.St.giveC, ↓Ev.P, Ev.Q, Bool.cond_true, Bool.cond_false, eq_self, forall_eq_or_imp, implies_true, forall_const, forall_eq, ↓reduceIte, reduceIte, Nat.reduceEqDiff, Nat.reduceAdd, reduceCtorEq, Nat.reduceSub, Int.reduceToNat, Int.reduceLE, Int.reduceLT, Int.reduceNeg, Nat.reduceBEq, Nat.reduceMul, Nat.reduceLeDiff, Nat.reduceMod, UInt8.reduceOfNat, Nat.reduceLT, Int.reduceEq, Int.reduceAdd, Int.reduceSub, Int.reduceMul]))
          all_goals try omega
          refine xLoop_intro (fun n2 st => (∃ (f k : Nat) (x : Ed), k ≤ L.length ∧ n2 = L.length - k + 1 ∧ L.length - k < f ∧ okE x ∧ x.1.length ≤ A.length + k ∧ (∀ z ∈ x.1, z.length ≤ 1099511627776) ∧ runE L f x k = .error (a, e) ∧ st = ⟨[(4, .ptr 0 0), (5, .ptr 1 0), (6, .ptr 3 0), (11, .d (.v (.bool false)))], 4, [(0, .cells 22 [.d (.v (.slice none 0 0))]), (1, .cells 24 [.d (.v .nilIface)]), (2, .row 9 1 (strRows x.1)), (3, .cells 87 [.own 2, .d (.v (.int .i64 x.2)), .d (.sl (strRows L)), .d (.v (.int .i64 (k : Nat)))])]⟩)) (L.length + 1) [0, 1, 2, 3] ?_ ?_ ?_
          · simp -dsimp -implicitDefEqProofs only [↓Ev.xStp_eq, ↓Ev.P, Ev.Q, Bool.cond_true, Bool.cond_false, eq_self, forall_eq_or_imp, implies_true, forall_const, forall_eq, ↓reduceIte, reduceIte, Nat.reduceEqDiff, Nat.reduceAdd, reduceCtorEq, Nat.reduceSub, Int.reduceToNat, Int.reduceLE, Int.reduceLT, Int.reduceNeg, Nat.reduceBEq, Nat.reduceMul, Nat.reduceLeDiff, Nat.reduceMod, UInt8.reduceOfNat, Nat.reduceLT, Int.reduceEq, Int.reduceAdd, Int.reduceSub, Int.reduceMul]
          · simp -dsimp -implicitDefEqProofs only [↓Ev.xStp_eq, ↓Ev.P, Ev.Q, Bool.cond_true, Bool.cond_false, eq_self, forall_eq_or_imp, implies_true, forall_const, forall_eq, ↓reduceIte, reduceIte, Nat.reduceEqDiff, Nat.reduceAdd, reduceCtorEq, Nat.reduceSub, Int.reduceToNat, Int.reduceLE, Int.reduceLT, Int.reduceNeg, Nat.reduceBEq, Nat.reduceMul, Nat.reduceLeDiff, Nat.reduceMod, UInt8.reduceOfNat, Nat.reduceLT, Int.reduceEq, Int.reduceAdd, Int.reduceSub, Int.reduceMul]
            exact ⟨L.length + 1, 0, (bareT A, -1), by omega, by omega, by omega, .inl rfl, by rw [bareT_len]; omega, bareT_sz hA, hY, rfl⟩
          · rintro n2 st2 ⟨f, k, ⟨X, c⟩, hkl, rfl, hf, hok, hXl, hX, hgo, rfl⟩
            dsimp only at hXl hX
            have hsX : smL X := ⟨by omega, hX⟩
            by_cases hlt : k < L.length
            · have hi3 : (k : Int) < (L.length : Int) := by omega
              obtain ⟨f, rfl⟩ : ∃ g, f = g + 1 := ⟨f - 1, by omega⟩
              have hg := strRows_get hlt
              rw [runE, if_pos hlt] at hgo
              by_cases hmk : L.getD k [] = markS
              · rw [if_pos hmk] at hgo
                rw [hmk, markS] at hg
                by_cases hlast : k + 1 = L.length
                · rw [if_pos hlast] at hgo
                  cases hgo
                · rw [if_neg hlast] at hgo
                  simp only [Except.error.injEq, Prod.mk.injEq] at hgo
                  obtain ⟨rfl, rfl⟩ := hgo
                  have hi4 : ¬ (k : Int) = (L.length : Int) - 1 := by omega
                  simp -dsimp -implicitDefEqProofs only [S15, SP15, R15, hi3, hg, eq_false hi4, impF, CSplit, CBare, CStopE, cmdE_wp, cmK_ok, cmK_error, edC_wp, edK_ok, edK_error, DCatch, Ev.defK, defE_nE, defE_rE, Ev.endK, Ev.xvs, fltV, unStr_rows, strRows_len, strRows_all, List.length_append, List.length_set, Ev.St.giveC, ↓Ev.P, Ev.Q, Bool.cond_true, Bool.cond_false, eq_self, forall_eq_or_imp, implies_true, forall_const, forall_eq, ↓reduceIte, reduceIte, Nat.reduceEqDiff, Nat.reduceAdd, reduceCtorEq, Nat.reduceSub, Int.reduceToNat, Int.reduceLE, Int.reduceLT, Int.reduceNeg, Nat.reduceBEq, Nat.reduceMul, Nat.reduceLeDiff, Nat.reduceMod, UInt8.reduceOfNat, Nat.reduceLT, Int.reduceEq, Int.reduceAdd, Int.reduceSub, Int.reduceMul]
                  repeat' (first | with_reducible assumption | refine And.intro ?_ ?_ | intro _ | (rw [Ev.xStp_eq]; simp -dsimp -implicitDefEqProofs only [S15, SP15, R15, hi3, hg, eq_false hi4, impF, CSplit, CBare, CStopE, cmdE_wp, cmK_ok, cmK_error, edC_wp, edK_ok, edK_error, DCatch, Ev.defK, defE_nE, defE_rE, Ev.endK, Ev.xvs, fltV, unStr_rows, strRows_len, strRows_all, List.length_append, List.length_set, Ev.St.giveC, ↓Ev.P, Ev.Q, Bool.cond_true, Bool.cond_false, eq_self, forall_eq_or_imp, implies_true, forall_const, forall_eq, ↓reduceIte, reduceIte, Nat.reduceEqDiff, Nat.reduceAdd, reduceCtorEq, Nat.reduceSub, Int.reduceToNat, Int.reduceLE, Int.reduceLT, Int.reduceNeg, Nat.reduceBEq, Nat.reduceMul, Nat.reduceLeDiff, Nat.reduceMod, UInt8.reduceOfNat, Nat.reduceLT, Int.reduceEq, Int.reduceAdd, Int.reduceSub, Int.reduceMul]))
                  all_goals try omega
                  all_goals exact hk
              · rw [if_neg hmk] at hgo
                have hmk2 : ¬ L.getD k [] = [92, 32, 78, 111, 32, 110, 101, 119, 108, 105, 110, 101, 32, 97, 116, 32, 101, 110, 100, 32, 111, 102, 32, 102, 105, 108, 101, 10] := hmk
                cases hcm : cmdE L (X, c) k with
                | error y =>
                  obtain ⟨ya, ye⟩ := y
                  rw [hcm] at hgo
                  simp only [Except.error.injEq, Prod.mk.injEq] at hgo
                  obtain ⟨rfl, rfl⟩ := hgo
                  simp -dsimp -implicitDefEqProofs only [S15, SP15, R15, hi3, hg, hmk2, hcm, impF, CSplit, CBare, CStopE, cmdE_wp, cmK_ok, cmK_error, edC_wp, edK_ok, edK_error, DCatch, Ev.defK, defE_nE, defE_rE, Ev.endK, Ev.xvs, fltV, unStr_rows, strRows_len, strRows_all, List.length_append, List.length_set, Ev.St.giveC, ↓Ev.P, Ev.Q, Bool.cond_true, Bool.cond_false, eq_self, forall_eq_or_imp, implies_true, forall_const, forall_eq, ↓reduceIte, reduceIte, Nat.reduceEqDiff, Nat.reduceAdd, reduceCtorEq, Nat.reduceSub, Int.reduceToNat, Int.reduceLE, Int.reduceLT, Int.reduceNeg, Nat.reduceBEq, Nat.reduceMul, Nat.reduceLeDiff, Nat.reduceMod, UInt8.reduceOfNat, Nat.reduceLT, Int.reduceEq, Int.reduceAdd, Int.reduceSub, Int.reduceMul]
                  repeat' (first | with_reducible assumption | refine And.intro ?_ ?_ | intro _ | (rw [Ev.xStp_eq]; simp -dsimp -implicitDefEqProofs only [S15, SP15, R15, hi3, hg, hmk2, hcm, impF, CSplit, CBare, CStopE, cmdE_wp, cmK_ok, cmK_error, edC_wp, edK_ok, edK_error, DCatch, Ev.defK, defE_nE, defE_rE, Ev.endK, Ev.xvs, fltV, unStr_rows, strRows_len, strRows_all, List.length_append, List.length_set, Ev.St.giveC, ↓Ev.P, Ev.Q, Bool.cond_true, Bool.cond_false, eq_self, forall_eq_or_imp, implies_true, forall_const, forall_eq, ↓reduceIte, reduceIte, Nat.reduceEqDiff, Nat.reduceAdd, reduceCtorEq, Nat.reduceSub, Int.reduceToNat, Int.reduceLE, Int.reduceLT, Int.reduceNeg, Nat.reduceBEq, Nat.reduceMul, Nat.reduceLeDiff, Nat.reduceMod, UInt8.reduceOfNat, Nat.reduceLT, Int.reduceEq, Int.reduceAdd, Int.reduceSub, Int.reduceMul]))
                  all_goals try omega
                  all_goals exact hk
                | ok y =>
                  obtain ⟨⟨X1, c1⟩, a1⟩ := y
                  rw [hcm] at hgo; dsimp only at hgo
                  obtain ⟨q1, q2, q3, q4⟩ := cmdE_le hcm hok
                  dsimp only at q4
                  have q5 := cmdE_sz hL hcm hX
                  simp -dsimp -implicitDefEqProofs only [S15, SP15, R15, hi3, hg, hmk2, hcm, impF, CSplit, CBare, CStopE, cmdE_wp, cmK_ok, cmK_error, edC_wp, edK_ok, edK_error, DCatch, Ev.defK, defE_nE, defE_rE, Ev.endK, Ev.xvs, fltV, unStr_rows, strRows_len, strRows_all, List.length_append, List.length_set, Ev.St.giveC, ↓Ev.P, Ev.Q, Bool.cond_true, Bool.cond_false, eq_self, forall_eq_or_imp, implies_true, forall_const, forall_eq, ↓reduceIte, reduceIte, Nat.reduceEqDiff, Nat.reduceAdd, reduceCtorEq, Nat.reduceSub, Int.reduceToNat, Int.reduceLE, Int.reduceLT, Int.reduceNeg, Nat.reduceBEq, Nat.reduceMul, Nat.reduceLeDiff, Nat.reduceMod, UInt8.reduceOfNat, Nat.reduceLT, Int.reduceEq, Int.reduceAdd, Int.reduceSub, Int.reduceMul]
                  repeat' (first | with_reducible assumption | refine And.intro ?_ ?_ | intro _ | (rw [Ev.xStp_eq]; simp -dsimp -implicitDefEqProofs only [S15, SP15, R15, hi3, hg, hmk2, hcm, impF, CSplit, CBare, CStopE, cmdE_wp, cmK_ok, cmK_error, edC_wp, edK_ok, edK_error, DCatch, Ev.defK, defE_nE, defE_rE, Ev.endK, Ev.xvs, fltV, unStr_rows, strRows_len, strRows_all, List.length_append, List.length_set, Ev.St.giveC, ↓Ev.P, Ev.Q, Bool.cond_true, Bool.cond_false, eq_self, forall_eq_or_imp, implies_true, forall_const, forall_eq, ↓reduceIte, reduceIte, Nat.reduceEqDiff, Nat.reduceAdd, reduceCtorEq, Nat.reduceSub, Int.reduceToNat, Int.reduceLE, Int.reduceLT, Int.reduceNeg, Nat.reduceBEq, Nat.reduceMul, Nat.reduceLeDiff, Nat.reduceMod, UInt8.reduceOfNat, Nat.reduceLT, Int.reduceEq, Int.reduceAdd, Int.reduceSub, Int.reduceMul]))
                  all_goals try omega
                  · refine xAgain_intro (L.length - a1 + 1) [0, 1, 4, 3] (by omega) (by simp -dsimp -implicitDefEqProofs only [↓Ev.xStp_eq, ↓Ev.P, Ev.Q, Bool.cond_true, Bool.cond_false, eq_self, forall_eq_or_imp, implies_true, forall_const, forall_eq, ↓reduceIte, reduceIte, Nat.reduceEqDiff, Nat.reduceAdd, reduceCtorEq, Nat.reduceSub, Int.reduceToNat, Int.reduceLE, Int.reduceLT, Int.reduceNeg, Nat.reduceBEq, Nat.reduceMul, Nat.reduceLeDiff, Nat.reduceMod, UInt8.reduceOfNat, Nat.reduceLT, Int.reduceEq, Int.reduceAdd, Int.reduceSub, Int.reduceMul]) ⟨f, a1, (X1, c1), q3, rfl, by omega, q1, by dsimp only; omega, q5, hgo, ?_⟩
                    simp -dsimp -implicitDefEqProofs only [↓Ev.xStp_eq, ↓Ev.P, Ev.Q, Bool.cond_true, Bool.cond_false, eq_self, forall_eq_or_imp, implies_true, forall_const, forall_eq, ↓reduceIte, reduceIte, Nat.reduceEqDiff, Nat.reduceAdd, reduceCtorEq, Nat.reduceSub, Int.reduceToNat, Int.reduceLE, Int.reduceLT, Int.reduceNeg, Nat.reduceBEq, Nat.reduceMul, Nat.reduceLeDiff, Nat.reduceMod, UInt8.reduceOfNat, Nat.reduceLT, Int.reduceEq, Int.reduceAdd, Int.reduceSub, Int.reduceMul]
                    all_goals rfl
                  · refine xAgain_intro (L.length - a1 + 1) [0, 1, 2, 3] (by omega) (by simp -dsimp -implicitDefEqProofs only [↓Ev.xStp_eq, ↓Ev.P, Ev.Q, Bool.cond_true, Bool.cond_false, eq_self, forall_eq_or_imp, implies_true, forall_const, forall_eq, ↓reduceIte, reduceIte, Nat.reduceEqDiff, Nat.reduceAdd, reduceCtorEq, Nat.reduceSub, Int.reduceToNat, Int.reduceLE, Int.reduceLT, Int.reduceNeg, Nat.reduceBEq, Nat.reduceMul, Nat.reduceLeDiff, Nat.reduceMod, UInt8.reduceOfNat, Nat.reduceLT, Int.reduceEq, Int.reduceAdd, Int.reduceSub, Int.reduceMul]) ⟨f, a1, (X1, c1), q3, rfl, by omega, q1, by dsimp only; omega, q5, hgo, ?_⟩
                    simp -dsimp -implicitDefEqProofs only [↓Ev.xStp_eq, ↓Ev.P, Ev.Q, Bool.cond_true, Bool.cond_false, eq_self, forall_eq_or_imp, implies_true, forall_const, forall_eq, ↓reduceIte, reduceIte, Nat.reduceEqDiff, Nat.reduceAdd, reduceCtorEq, Nat.reduceSub, Int.reduceToNat, Int.reduceLE, Int.reduceLT, Int.reduceNeg, Nat.reduceBEq, Nat.reduceMul, Nat.reduceLeDiff, Nat.reduceMod, UInt8.reduceOfNat, Nat.reduceLT, Int.reduceEq, Int.reduceAdd, Int.reduceSub, Int.reduceMul]
                    all_goals rfl
            · have hi3 : ¬ (k : Int) < (L.length : Int) := by omega
              rw [runE_end hlt] at hgo
              cases hgo
    | ok hh =>
      obtain ⟨X9, cut⟩ := hh
      rw [hY] at hk; simp only [map_ok, runE2, fedE] at hk
      refine ⟨[2], ?_⟩
      simp -dsimp -implicitDefEqProofs only [S15, SP15, R15, h4', hLs, impF, CSplit, CBare, CStopE, cmdE_wp, cmK_ok, cmK_error, edC_wp, edK_ok, edK_error, DCatch, Ev.defK, defE_nE, defE_rE, Ev.endK, Ev.xvs, fltV, unStr_rows, strRows_len, strRows_all, List.length_append, List.length_set, Ev.St.giveC, ↓Ev.P, Ev.Q, Bool.cond_true, Bool.cond_false, eq_self, forall_eq_or_imp, implies_true, forall_const, forall_eq, ↓reduceIte, reduceIte, Nat.reduceEqDiff, Nat.reduceAdd, reduceCtorEq, Nat.reduceSub, Int.reduceToNat, Int.reduceLE, Int.reduceLT, Int.reduceNeg, Nat.reduceBEq, Nat.reduceMul, Nat.reduceLeDiff, Nat.reduceMod, UInt8.reduceOfNat, Nat.reduceLT, Int.reduceEq, Int.reduceAdd, Int.reduceSub, Int.reduceMul]
      repeat' (first | with_reducible assumption | refine And.intro ?_ ?_ | intro _ | (rw [Ev.xStp_eq]; simp -dsimp -implicitDefEqProofs only [S15, SP15, R15, h4', hLs, impF, CSplit, CBare, CStopE, cmdE_wp, cmK_ok, cmK_error, edC_wp, edK_ok, edK_error, DCatch, Ev.defK, defE_nE, defE_rE, Ev.endK, Ev.xvs, fltV, unStr_rows, strRows_len, strRows_all, List.length_append, List.length_set, Ev.St.giveC, ↓Ev.P, Ev.Q, Bool.cond_true, Bool.cond_false, eq_self, forall_eq_or_imp, implies_true, forall_const, forall_eq, ↓reduceIte, reduceIte, Nat.reduceEqDiff, Nat.reduceAdd, reduceCtorEq, Nat.reduceSub, Int.reduceToNat, Int.reduceLE, Int.reduceLT, Int.reduceNeg, Nat.reduceBEq, Nat.reduceMul, Nat.reduceLeDiff, Nat.reduceMod, UInt8.reduceOfNat, Nat.reduceLT, Int.reduceEq, Int.reduceAdd, Int.reduceSub, Int.reduceMul]))
      all_goals try omega
      refine xLoop_intro (fun m st => ∃ i : Nat, i ≤ A.length ∧ m = A.length - i ∧ st = ⟨[(4, .ptr 0 0), (5, .ptr 1 0), (6, .ptr 3 0), (25, .d (.sl (strRows A))), (26, .d (.v (.int .i64 (A.length : Nat)))), (27, .d (.v (.int .i64 (i : Nat))))], 4, [(0, .cells 22 [.d (.v (.slice none 0 0))]), (1, .cells 24 [.d (.v .nilIface)]), (2, .row 9 1 (strRows ((bareT A).take i))), (3, .cells 87 [.own 2, .d (.v (.int .i64 (-1))), .d (.sl (strRows L)), .d (.v (.int .i64 0))])]⟩) A.length [0, 1, 2, 3] ?_ ?_ ?_
      · simp -dsimp -implicitDefEqProofs only [↓Ev.xStp_eq, ↓Ev.P, Ev.Q, Bool.cond_true, Bool.cond_false, eq_self, forall_eq_or_imp, implies_true, forall_const, forall_eq, ↓reduceIte, reduceIte, Nat.reduceEqDiff, Nat.reduceAdd, reduceCtorEq, Nat.reduceSub, Int.reduceToNat, Int.reduceLE, Int.reduceLT, Int.reduceNeg, Nat.reduceBEq, Nat.reduceMul, Nat.reduceLeDiff, Nat.reduceMod, UInt8.reduceOfNat, Nat.reduceLT, Int.reduceEq, Int.reduceAdd, Int.reduceSub, Int.reduceMul]
      · simp -dsimp -implicitDefEqProofs only [strRows_len, ↓Ev.xStp_eq, ↓Ev.P, Ev.Q, Bool.cond_true, Bool.cond_false, eq_self, forall_eq_or_imp, implies_true, forall_const, forall_eq, ↓reduceIte, reduceIte, Nat.reduceEqDiff, Nat.reduceAdd, reduceCtorEq, Nat.reduceSub, Int.reduceToNat, Int.reduceLE, Int.reduceLT, Int.reduceNeg, Nat.reduceBEq, Nat.reduceMul, Nat.reduceLeDiff, Nat.reduceMod, UInt8.reduceOfNat, Nat.reduceLT, Int.reduceEq, Int.reduceAdd, Int.reduceSub, Int.reduceMul]
        exact ⟨0, by omega, by omega, rfl⟩
      · rintro m st ⟨i, hi, rfl, rfl⟩
        by_cases hil : i < A.length
        · have hi3 : (i : Int) < (A.length : Int) := by omega
          have hg := strRows_get hil
          have hsz := hA _ (getD_in hil)
          have hlen : ((bareT A).take i).length = i := by rw [List.length_take, bareT_len]; omega
          have hsn := bareT_snoc hil
          generalize A.getD i [] = w at hg hsz hsn
          simp -dsimp -implicitDefEqProofs only [S15, SP15, R15, hi3, hg, hlen, impF, CSplit, CBare, CStopE, cmdE_wp, cmK_ok, cmK_error, edC_wp, edK_ok, edK_error, DCatch, Ev.defK, defE_nE, defE_rE, Ev.endK, Ev.xvs, fltV, unStr_rows, strRows_len, strRows_all, List.length_append, List.length_set, Ev.St.giveC, ↓Ev.P, Ev.Q, Bool.cond_true, Bool.cond_false, eq_self, forall_eq_or_imp, implies_true, forall_const, forall_eq, ↓reduceIte, reduceIte, Nat.reduceEqDiff, Nat.reduceAdd, reduceCtorEq, Nat.reduceSub, Int.reduceToNat, Int.reduceLE, Int.reduceLT, Int.reduceNeg, Nat.reduceBEq, Nat.reduceMul, Nat.reduceLeDiff, Nat.reduceMod, UInt8.reduceOfNat, Nat.reduceLT, Int.reduceEq, Int.reduceAdd, Int.reduceSub, Int.reduceMul]
          repeat' (first | with_reducible assumption | refine And.intro ?_ ?_ | intro _ | (rw [Ev.xStp_eq]; simp -dsimp -implicitDefEqProofs only [S15, SP15, R15, hi3, hg, hlen, impF, CSplit, CBare, CStopE, cmdE_wp, cmK_ok, cmK_error, edC_wp, edK_ok, edK_error, DCatch, Ev.defK, defE_nE, defE_rE, Ev.endK, Ev.xvs, fltV, unStr_rows, strRows_len, strRows_all, List.length_append, List.length_set, Ev.St.giveC, ↓Ev.P, Ev.Q, Bool.cond_true, Bool.cond_false, eq_self, forall_eq_or_imp, implies_true, forall_const, forall_eq, ↓reduceIte, reduceIte, Nat.reduceEqDiff, Nat.reduceAdd, reduceCtorEq, Nat.reduceSub, Int.reduceToNat, Int.reduceLE, Int.reduceLT, Int.reduceNeg, Nat.reduceBEq, Nat.reduceMul, Nat.reduceLeDiff, Nat.reduceMod, UInt8.reduceOfNat, Nat.reduceLT, Int.reduceEq, Int.reduceAdd, Int.reduceSub, Int.reduceMul]))
          all_goals try omega
          refine xAgain_intro (A.length - (i + 1)) [0, 1, 5, 3] (by omega) (by simp -dsimp -implicitDefEqProofs only [↓Ev.xStp_eq, ↓Ev.P, Ev.Q, Bool.cond_true, Bool.cond_false, eq_self, forall_eq_or_imp, implies_true, forall_const, forall_eq, ↓reduceIte, reduceIte, Nat.reduceEqDiff, Nat.reduceAdd, reduceCtorEq, Nat.reduceSub, Int.reduceToNat, Int.reduceLE, Int.reduceLT, Int.reduceNeg, Nat.reduceBEq, Nat.reduceMul, Nat.reduceLeDiff, Nat.reduceMod, UInt8.reduceOfNat, Nat.reduceLT, Int.reduceEq, Int.reduceAdd, Int.reduceSub, Int.reduceMul]) ⟨i + 1, by omega, rfl, ?_⟩
          rw [hsn, strRows_snoc]
          simp -dsimp -implicitDefEqProofs only [↓Ev.xStp_eq, ↓Ev.P, Ev.Q, Bool.cond_true, Bool.cond_false, eq_self, forall_eq_or_imp, implies_true, forall_const, forall_eq, ↓reduceIte, reduceIte, Nat.reduceEqDiff, Nat.reduceAdd, reduceCtorEq, Nat.reduceSub, Int.reduceToNat, Int.reduceLE, Int.reduceLT, Int.reduceNeg, Nat.reduceBEq, Nat.reduceMul, Nat.reduceLeDiff, Nat.reduceMod, UInt8.reduceOfNat, Nat.reduceLT, Int.reduceEq, Int.reduceAdd, Int.reduceSub, Int.reduceMul]
          all_goals rfl
        · have hi3 : ¬ (i : Int) < (A.length : Int) := by omega
          obtain rfl : i = A.length := by omega
          rw [bareT_all]
          simp -dsimp -implicitDefEqProofs only [S15, SP15, R15, hi3, impF, CSplit, CBare, CStopE, cmdE_wp, cmK_ok, cmK_error, edC_wp, edK_ok, edK_error, DCatch, Ev.defK, defE_nE, defE_rE, Ev.endK, Ev.xvs, fltV, unStr_rows, strRows_len, strRows_all, List.length_append, List.length_set, Ev.St.giveC, ↓Ev.P, Ev.Q, Bool.cond_true, Bool.cond_false, eq_self, forall_eq_or_imp, implies_true, forall_const, forall_eq, ↓reduceIte, reduceIte, Nat.reduceEqDiff, Nat.reduceAdd, reduceCtorEq, Nat.reduceSub, Int.reduceToNat, Int.reduceLE, Int.reduceLT, Int.reduceNeg, Nat.reduceBEq, Nat.reduceMul, Nat.reduceLeDiff, Nat.reduceMod, UInt8.reduceOfNat, Nat.reduceLT, Int.reduceEq, Int.reduceAdd, Int.reduceSub, Int.reduceMul]
          repeat' (first | with_reducible assumption | refine And.intro ?_ ?_ | intro _ | (rw [Ev.xStp_eq]; simp -dsimp -implicitDefEqProofs only [S15, SP15, R15, hi3, impF, CSplit, CBare, CStopE, cmdE_wp, cmK_ok, cmK_error, edC_wp, edK_ok, edK_error, DCatch, Ev.defK, defE_nE, defE_rE, Ev.endK, Ev.xvs, fltV, unStr_rows, strRows_len, strRows_all, List.length_append, List.length_set, Ev.St.giveC, ↓Ev.P, Ev.Q, Bool.cond_true, Bool.cond_false, eq_self, forall_eq_or_imp, implies_true, forall_const, forall_eq, ↓reduceIte, reduceIte, Nat.reduceEqDiff, Nat.reduceAdd, reduceCtorEq, Nat.reduceSub, Int.reduceToNat, Int.reduceLE, Int.reduceLT, Int.reduceNeg, Nat.reduceBEq, Nat.reduceMul, Nat.reduceLeDiff, Nat.reduceMod, UInt8.reduceOfNat, Nat.reduceLT, Int.reduceEq, Int.reduceAdd, Int.reduceSub, Int.reduceMul]))
          all_goals try omega
          refine xLoop_intro (fun n2 st => (∃ (f k : Nat) (x : Ed), k ≤ L.length ∧ n2 = L.length - k + 1 ∧ L.length - k < f ∧ okE x ∧ x.1.length ≤ A.length + k ∧ (∀ z ∈ x.1, z.length ≤ 1099511627776) ∧ runE L f x k = .ok (X9, cut) ∧ st = ⟨[(4, .ptr 0 0), (5, .ptr 1 0), (6, .ptr 3 0), (11, .d (.v (.bool false)))], 4, [(0, .cells 22 [.d (.v (.slice none 0 0))]), (1, .cells 24 [.d (.v .nilIface)]), (2, .row 9 1 (strRows x.1)), (3, .cells 87 [.own 2, .d (.v (.int .i64 x.2)), .d (.sl (strRows L)), .d (.v (.int .i64 (k : Nat)))])]⟩) ∨ (n2 = 0 ∧ cut = true ∧ ∃ (c : Int) (T : List (List UInt8)), T = X9 ∧ (∀ z ∈ T, z.length ≤ 1099511627776) ∧ T.length ≤ A.length + L.length ∧ st = ⟨[(4, .ptr 0 0), (5, .ptr 1 0), (6, .ptr 3 0), (11, .d (.v (.bool true)))], 4, [(0, .cells 22 [.d (.v (.slice none 0 0))]), (1, .cells 24 [.d (.v .nilIface)]), (2, .row 9 1 (strRows T)), (3, .cells 87 [.own 2, .d (.v (.int .i64 c)), .d (.sl (strRows L)), .d (.v (.int .i64 (L.length : Nat)))])]⟩)) (L.length + 1) [0, 1, 2, 3] ?_ ?_ ?_
          · simp -dsimp -implicitDefEqProofs only [↓Ev.xStp_eq, ↓Ev.P, Ev.Q, Bool.cond_true, Bool.cond_false, eq_self, forall_eq_or_imp, implies_true, forall_const, forall_eq, ↓reduceIte, reduceIte, Nat.reduceEqDiff, Nat.reduceAdd, reduceCtorEq, Nat.reduceSub, Int.reduceToNat, Int.reduceLE, Int.reduceLT, Int.reduceNeg, Nat.reduceBEq, Nat.reduceMul, Nat.reduceLeDiff, Nat.reduceMod, UInt8.reduceOfNat, Nat.reduceLT, Int.reduceEq, Int.reduceAdd, Int.reduceSub, Int.reduceMul]
          · simp -dsimp -implicitDefEqProofs only [↓Ev.xStp_eq, ↓Ev.P, Ev.Q, Bool.cond_true, Bool.cond_false, eq_self, forall_eq_or_imp, implies_true, forall_const, forall_eq, ↓reduceIte, reduceIte, Nat.reduceEqDiff, Nat.reduceAdd, reduceCtorEq, Nat.reduceSub, Int.reduceToNat, Int.reduceLE, Int.reduceLT, Int.reduceNeg, Nat.reduceBEq, Nat.reduceMul, Nat.reduceLeDiff, Nat.reduceMod, UInt8.reduceOfNat, Nat.reduceLT, Int.reduceEq, Int.reduceAdd, Int.reduceSub, Int.reduceMul]
            exact .inl ⟨L.length + 1, 0, (bareT A, -1), by omega, by omega, by omega, .inl rfl, by rw [bareT_len]; omega, bareT_sz hA, hY, rfl⟩
          · rintro n2 st2 (⟨f, k, ⟨X, c⟩, hkl, rfl, hf, hok, hXl, hX, hgo, rfl⟩ | ⟨rfl, rfl, c, X, rfl, hX, hXl, rfl⟩)
            · dsimp only at hXl hX
              have hsX : smL X := ⟨by omega, hX⟩
              by_cases hlt : k < L.length
              · have hi3 : (k : Int) < (L.length : Int) := by omega
                obtain ⟨f, rfl⟩ : ∃ g, f = g + 1 := ⟨f - 1, by omega⟩
                have hg := strRows_get hlt
                rw [runE, if_pos hlt] at hgo
                by_cases hmk : L.getD k [] = markS
                · rw [if_pos hmk] at hgo
                  rw [hmk, markS] at hg
                  by_cases hlast : k + 1 = L.length
                  · rw [if_pos hlast] at hgo
                    simp only [Except.ok.injEq, Prod.mk.injEq] at hgo
                    obtain ⟨rfl, rfl⟩ := hgo
                    have hi4 : (k : Int) = (L.length : Int) - 1 := by omega
                    have hi5 : (k : Int) + 1 = (L.length : Int) := by omega
                    have hi6 : (L.length : Int) - 1 + 1 = (L.length : Int) := by omega
                    simp -dsimp -implicitDefEqProofs only [S15, SP15, R15, hi3, hg, eq_true hi4, hi5, impF, CSplit, CBare, CStopE, cmdE_wp, cmK_ok, cmK_error, edC_wp, edK_ok, edK_error, DCatch, Ev.defK, defE_nE, defE_rE, Ev.endK, Ev.xvs, fltV, unStr_rows, strRows_len, strRows_all, List.length_append, List.length_set, Ev.St.giveC, ↓Ev.P, Ev.Q, Bool.cond_true, Bool.cond_false, eq_self, forall_eq_or_imp, implies_true, forall_const, forall_eq, ↓reduceIte, reduceIte, Nat.reduceEqDiff, Nat.reduceAdd, reduceCtorEq, Nat.reduceSub, Int.reduceToNat, Int.reduceLE, Int.reduceLT, Int.reduceNeg, Nat.reduceBEq, Nat.reduceMul, Nat.reduceLeDiff, Nat.reduceMod, UInt8.reduceOfNat, Nat.reduceLT, Int.reduceEq, Int.reduceAdd, Int.reduceSub, Int.reduceMul]
                    repeat' (first | with_reducible assumption | refine And.intro ?_ ?_ | intro _ | (rw [Ev.xStp_eq]; simp -dsimp -implicitDefEqProofs only [S15, SP15, R15, hi3, hg, eq_true hi4, hi5, impF, CSplit, CBare, CStopE, cmdE_wp, cmK_ok, cmK_error, edC_wp, edK_ok, edK_error, DCatch, Ev.defK, defE_nE, defE_rE, Ev.endK, Ev.xvs, fltV, unStr_rows, strRows_len, strRows_all, List.length_append, List.length_set, Ev.St.giveC, ↓Ev.P, Ev.Q, Bool.cond_true, Bool.cond_false, eq_self, forall_eq_or_imp, implies_true, forall_const, forall_eq, ↓reduceIte, reduceIte, Nat.reduceEqDiff, Nat.reduceAdd, reduceCtorEq, Nat.reduceSub, Int.reduceToNat, Int.reduceLE, Int.reduceLT, Int.reduceNeg, Nat.reduceBEq, Nat.reduceMul, Nat.reduceLeDiff, Nat.reduceMod, UInt8.reduceOfNat, Nat.reduceLT, Int.reduceEq, Int.reduceAdd, Int.reduceSub, Int.reduceMul]))
                    all_goals try omega
                    refine xAgain_intro 0 [0, 1, 2, 3] (by omega) (by simp -dsimp -implicitDefEqProofs only [↓Ev.xStp_eq, ↓Ev.P, Ev.Q, Bool.cond_true, Bool.cond_false, eq_self, forall_eq_or_imp, implies_true, forall_const, forall_eq, ↓reduceIte, reduceIte, Nat.reduceEqDiff, Nat.reduceAdd, reduceCtorEq, Nat.reduceSub, Int.reduceToNat, Int.reduceLE, Int.reduceLT, Int.reduceNeg, Nat.reduceBEq, Nat.reduceMul, Nat.reduceLeDiff, Nat.reduceMod, UInt8.reduceOfNat, Nat.reduceLT, Int.reduceEq, Int.reduceAdd, Int.reduceSub, Int.reduceMul]) (.inr ⟨rfl, rfl, c, X, rfl, hX, by omega, ?_⟩)
                    simp -dsimp -implicitDefEqProofs only [hi5, ↓Ev.xStp_eq, ↓Ev.P, Ev.Q, Bool.cond_true, Bool.cond_false, eq_self, forall_eq_or_imp, implies_true, forall_const, forall_eq, ↓reduceIte, reduceIte, Nat.reduceEqDiff, Nat.reduceAdd, reduceCtorEq, Nat.reduceSub, Int.reduceToNat, Int.reduceLE, Int.reduceLT, Int.reduceNeg, Nat.reduceBEq, Nat.reduceMul, Nat.reduceLeDiff, Nat.reduceMod, UInt8.reduceOfNat, Nat.reduceLT, Int.reduceEq, Int.reduceAdd, Int.reduceSub, Int.reduceMul]
                    all_goals rfl
                  · rw [if_neg hlast] at hgo
                    cases hgo
                · rw [if_neg hmk] at hgo
                  have hmk2 : ¬ L.getD k [] = [92, 32, 78, 111, 32, 110, 101, 119, 108, 105, 110, 101, 32, 97, 116, 32, 101, 110, 100, 32, 111, 102, 32, 102, 105, 108, 101, 10] := hmk
                  cases hcm : cmdE L (X, c) k with
                  | error y =>
                    obtain ⟨ya, ye⟩ := y
                    rw [hcm] at hgo
                    cases hgo
                  | ok y =>
                    obtain ⟨⟨X1, c1⟩, a1⟩ := y
                    rw [hcm] at hgo; dsimp only at hgo
                    obtain ⟨q1, q2, q3, q4⟩ := cmdE_le hcm hok
                    dsimp only at q4
                    have q5 := cmdE_sz hL hcm hX
                    simp -dsimp -implicitDefEqProofs only [S15, SP15, R15, hi3, hg, hmk2, hcm, impF, CSplit, CBare, CStopE, cmdE_wp, cmK_ok, cmK_error, edC_wp, edK_ok, edK_error, DCatch, Ev.defK, defE_nE, defE_rE, Ev.endK, Ev.xvs, fltV, unStr_rows, strRows_len, strRows_all, List.length_append, List.length_set, Ev.St.giveC, ↓Ev.P, Ev.Q, Bool.cond_true, Bool.cond_false, eq_self, forall_eq_or_imp, implies_true, forall_const, forall_eq, ↓reduceIte, reduceIte, Nat.reduceEqDiff, Nat.reduceAdd, reduceCtorEq, Nat.reduceSub, Int.reduceToNat, Int.reduceLE, Int.reduceLT, Int.reduceNeg, Nat.reduceBEq, Nat.reduceMul, Nat.reduceLeDiff, Nat.reduceMod, UInt8.reduceOfNat, Nat.reduceLT, Int.reduceEq, Int.reduceAdd, Int.reduceSub, Int.reduceMul]
                    repeat' (first | with_reducible assumption | refine And.intro ?_ ?_ | intro _ | (rw [Ev.xStp_eq]; simp -dsimp -implicitDefEqProofs only [S15, SP15, R15, hi3, hg, hmk2, hcm, impF, CSplit, CBare, CStopE, cmdE_wp, cmK_ok, cmK_error, edC_wp, edK_ok, edK_error, DCatch, Ev.defK, defE_nE, defE_rE, Ev.endK, Ev.xvs, fltV, unStr_rows, strRows_len, strRows_all, List.length_append, List.length_set, Ev.St.giveC, ↓Ev.P, Ev.Q, Bool.cond_true, Bool.cond_false, eq_self, forall_eq_or_imp, implies_true, forall_const, forall_eq, ↓reduceIte, reduceIte, Nat.reduceEqDiff, Nat.reduceAdd, reduceCtorEq, Nat.reduceSub, Int.reduceToNat, Int.reduceLE, Int.reduceLT, Int.reduceNeg, Nat.reduceBEq, Nat.reduceMul, Nat.reduceLeDiff, Nat.reduceMod, UInt8.reduceOfNat, Nat.reduceLT, Int.reduceEq, Int.reduceAdd, Int.reduceSub, Int.reduceMul]))
                    all_goals try omega
                    · refine xAgain_intro (L.length - a1 + 1) [0, 1, 4, 3] (by omega) (by simp -dsimp -implicitDefEqProofs only [↓Ev.xStp_eq, ↓Ev.P, Ev.Q, Bool.cond_true, Bool.cond_false, eq_self, forall_eq_or_imp, implies_true, forall_const, forall_eq, ↓reduceIte, reduceIte, Nat.reduceEqDiff, Nat.reduceAdd, reduceCtorEq, Nat.reduceSub, Int.reduceToNat, Int.reduceLE, Int.reduceLT, Int.reduceNeg, Nat.reduceBEq, Nat.reduceMul, Nat.reduceLeDiff, Nat.reduceMod, UInt8.reduceOfNat, Nat.reduceLT, Int.reduceEq, Int.reduceAdd, Int.reduceSub, Int.reduceMul]) (.inl ⟨f, a1, (X1, c1), q3, rfl, by omega, q1, by dsimp only; omega, q5, hgo, ?_⟩)
                      simp -dsimp -implicitDefEqProofs only [↓Ev.xStp_eq, ↓Ev.P, Ev.Q, Bool.cond_true, Bool.cond_false, eq_self, forall_eq_or_imp, implies_true, forall_const, forall_eq, ↓reduceIte, reduceIte, Nat.reduceEqDiff, Nat.reduceAdd, reduceCtorEq, Nat.reduceSub, Int.reduceToNat, Int.reduceLE, Int.reduceLT, Int.reduceNeg, Nat.reduceBEq, Nat.reduceMul, Nat.reduceLeDiff, Nat.reduceMod, UInt8.reduceOfNat, Nat.reduceLT, Int.reduceEq, Int.reduceAdd, Int.reduceSub, Int.reduceMul]
                      all_goals rfl
                    · refine xAgain_intro (L.length - a1 + 1) [0, 1, 2, 3] (by omega) (by simp -dsimp -implicitDefEqProofs only [↓Ev.xStp_eq, ↓Ev.P, Ev.Q, Bool.cond_true, Bool.cond_false, eq_self, forall_eq_or_imp, implies_true, forall_const, forall_eq, ↓reduceIte, reduceIte, Nat.reduceEqDiff, Nat.reduceAdd, reduceCtorEq, Nat.reduceSub, Int.reduceToNat, Int.reduceLE, Int.reduceLT, Int.reduceNeg, Nat.reduceBEq, Nat.reduceMul, Nat.reduceLeDiff, Nat.reduceMod, UInt8.reduceOfNat, Nat.reduceLT, Int.reduceEq, Int.reduceAdd, Int.reduceSub, Int.reduceMul]) (.inl ⟨f, a1, (X1, c1), q3, rfl, by omega, q1, by dsimp only; omega, q5, hgo, ?_⟩)
                      simp -dsimp -implicitDefEqProofs only [↓Ev.xStp_eq, ↓Ev.P, Ev.Q, Bool.cond_true, Bool.cond_false, eq_self, forall_eq_or_imp, implies_true, forall_const, forall_eq, ↓reduceIte, reduceIte, Nat.reduceEqDiff, Nat.reduceAdd, reduceCtorEq, Nat.reduceSub, Int.reduceToNat, Int.reduceLE, Int.reduceLT, Int.reduceNeg, Nat.reduceBEq, Nat.reduceMul, Nat.reduceLeDiff, Nat.reduceMod, UInt8.reduceOfNat, Nat.reduceLT, Int.reduceEq, Int.reduceAdd, Int.reduceSub, Int.reduceMul]
                      all_goals rfl
              · have hi3 : ¬ (k : Int) < (L.length : Int) := by omega
                rw [runE_end hlt] at hgo
                simp only [Except.ok.injEq, Prod.mk.injEq] at hgo
                obtain ⟨rfl, rfl⟩ := hgo
                simp -dsimp -implicitDefEqProofs only [S15, SP15, R15, hi3, impF, CSplit, CBare, CStopE, cmdE_wp, cmK_ok, cmK_error, edC_wp, edK_ok, edK_error, DCatch, Ev.defK, defE_nE, defE_rE, Ev.endK, Ev.xvs, fltV, unStr_rows, strRows_len, strRows_all, List.length_append, List.length_set, Ev.St.giveC, ↓Ev.P, Ev.Q, Bool.cond_true, Bool.cond_false, eq_self, forall_eq_or_imp, implies_true, forall_const, forall_eq, ↓reduceIte, reduceIte, Nat.reduceEqDiff, Nat.reduceAdd, reduceCtorEq, Nat.reduceSub, Int.reduceToNat, Int.reduceLE, Int.reduceLT, Int.reduceNeg, Nat.reduceBEq, Nat.reduceMul, Nat.reduceLeDiff, Nat.reduceMod, UInt8.reduceOfNat, Nat.reduceLT, Int.reduceEq, Int.reduceAdd, Int.reduceSub, Int.reduceMul]
                repeat' (first | with_reducible assumption | refine And.intro ?_ ?_ | intro _ | (rw [Ev.xStp_eq]; simp -dsimp -implicitDefEqProofs only [S15, SP15, R15, hi3, impF, CSplit, CBare, CStopE, cmdE_wp, cmK_ok, cmK_error, edC_wp, edK_ok, edK_error, DCatch, Ev.defK, defE_nE, defE_rE, Ev.endK, Ev.xvs, fltV, unStr_rows, strRows_len, strRows_all, List.length_append, List.length_set, Ev.St.giveC, ↓Ev.P, Ev.Q, Bool.cond_true, Bool.cond_false, eq_self, forall_eq_or_imp, implies_true, forall_const, forall_eq, ↓reduceIte, reduceIte, Nat.reduceEqDiff, Nat.reduceAdd, reduceCtorEq, Nat.reduceSub, Int.reduceToNat, Int.reduceLE, Int.reduceLT, Int.reduceNeg, Nat.reduceBEq, Nat.reduceMul, Nat.reduceLeDiff, Nat.reduceMod, UInt8.reduceOfNat, Nat.reduceLT, Int.reduceEq, Int.reduceAdd, Int.reduceSub, Int.reduceMul]))
                all_goals try omega
                refine xLoop_intro (fun m st => ∃ j : Nat, j ≤ X.length ∧ m = X.length - j ∧ st = ⟨[(4, .ptr 0 0), (5, .ptr 1 0), (6, .ptr 3 0), (11, .d (.v (.bool false))), (103, .d (.v (.int .i64 (X.length : Nat)))), (104, .d (.v (.int .i64 (j : Nat))))], 4, [(0, .cells 22 [.d (.v (.slice none 0 0))]), (1, .cells 24 [.d (.v .nilIface)]), (2, .row 9 1 (strRows (fedT X (min j X.length)))), (3, .cells 87 [.own 2, .d (.v (.int .i64 c)), .d (.sl (strRows L)), .d (.v (.int .i64 (k : Nat)))])]⟩) X.length [0, 1, 2, 3] ?_ ?_ ?_
                · simp -dsimp -implicitDefEqProofs only [↓Ev.xStp_eq, ↓Ev.P, Ev.Q, Bool.cond_true, Bool.cond_false, eq_self, forall_eq_or_imp, implies_true, forall_const, forall_eq, ↓reduceIte, reduceIte, Nat.reduceEqDiff, Nat.reduceAdd, reduceCtorEq, Nat.reduceSub, Int.reduceToNat, Int.reduceLE, Int.reduceLT, Int.reduceNeg, Nat.reduceBEq, Nat.reduceMul, Nat.reduceLeDiff, Nat.reduceMod, UInt8.reduceOfNat, Nat.reduceLT, Int.reduceEq, Int.reduceAdd, Int.reduceSub, Int.reduceMul]
                · simp -dsimp -implicitDefEqProofs only [strRows_len, ↓Ev.xStp_eq, ↓Ev.P, Ev.Q, Bool.cond_true, Bool.cond_false, eq_self, forall_eq_or_imp, implies_true, forall_const, forall_eq, ↓reduceIte, reduceIte, Nat.reduceEqDiff, Nat.reduceAdd, reduceCtorEq, Nat.reduceSub, Int.reduceToNat, Int.reduceLE, Int.reduceLT, Int.reduceNeg, Nat.reduceBEq, Nat.reduceMul, Nat.reduceLeDiff, Nat.reduceMod, UInt8.reduceOfNat, Nat.reduceLT, Int.reduceEq, Int.reduceAdd, Int.reduceSub, Int.reduceMul]
                  refine ⟨0, by omega, by omega, ?_⟩
                  rw [Nat.zero_min, fed_zero]
                  all_goals rfl
                · rintro m st ⟨j, hj, rfl, rfl⟩
                  by_cases hjl : j < X.length
                  · have hj3 : (j : Int) < (X.length : Int) := by omega
                    rw [Nat.min_eq_left (by omega)]
                    have hg := strRows_get (l := fedT X j) (i := j) (by rw [fed_len]; exact hjl)
                    rw [fed_get hjl] at hg
                    have hg2 : (strRows (fedT X j)).getD j [] = [.v (.string ⟨(X.getD j []).toArray⟩)] := by rw [List.getD_eq_getElem?_getD, hg]; rfl
                    have hset := fed_rows hjl
                    have hxz := hX _ (getD_in hjl)
                    have hfl := fed_len X j
                    generalize X.getD j [] = w at hg hg2 hset hxz
                    simp -dsimp -implicitDefEqProofs only [S15, SP15, R15, hj3, hg, hg2, hset, hfl, impF, CSplit, CBare, CStopE, cmdE_wp, cmK_ok, cmK_error, edC_wp, edK_ok, edK_error, DCatch, Ev.defK, defE_nE, defE_rE, Ev.endK, Ev.xvs, fltV, unStr_rows, strRows_len, strRows_all, List.length_append, List.length_set, Ev.St.giveC, ↓Ev.P, Ev.Q, Bool.cond_true, Bool.cond_false, eq_self, forall_eq_or_imp, implies_true, forall_const, forall_eq, ↓reduceIte, reduceIte, Nat.reduceEqDiff, Nat.reduceAdd, reduceCtorEq, Nat.reduceSub, Int.reduceToNat, Int.reduceLE, Int.reduceLT, Int.reduceNeg, Nat.reduceBEq, Nat.reduceMul, Nat.reduceLeDiff, Nat.reduceMod, UInt8.reduceOfNat, Nat.reduceLT, Int.reduceEq, Int.reduceAdd, Int.reduceSub, Int.reduceMul]
                    repeat' (first | with_reducible assumption | refine And.intro ?_ ?_ | intro _ | (rw [Ev.xStp_eq]; simp -dsimp -implicitDefEqProofs only [S15, SP15, R15, hj3, hg, hg2, hset, hfl, impF, CSplit, CBare, CStopE, cmdE_wp, cmK_ok, cmK_error, edC_wp, edK_ok, edK_error, DCatch, Ev.defK, defE_nE, defE_rE, Ev.endK, Ev.xvs, fltV, unStr_rows, strRows_len, strRows_all, List.length_append, List.length_set, Ev.St.giveC, ↓Ev.P, Ev.Q, Bool.cond_true, Bool.cond_false, eq_self, forall_eq_or_imp, implies_true, forall_const, forall_eq, ↓reduceIte, reduceIte, Nat.reduceEqDiff, Nat.reduceAdd, reduceCtorEq, Nat.reduceSub, Int.reduceToNat, Int.reduceLE, Int.reduceLT, Int.reduceNeg, Nat.reduceBEq, Nat.reduceMul, Nat.reduceLeDiff, Nat.reduceMod, UInt8.reduceOfNat, Nat.reduceLT, Int.reduceEq, Int.reduceAdd, Int.reduceSub, Int.reduceMul]))
                    all_goals try omega
                    refine xAgain_intro (X.length - (j + 1)) [0, 1, 2, 3] (by omega) (by simp -dsimp -implicitDefEqProofs only [↓Ev.xStp_eq, ↓Ev.P, Ev.Q, Bool.cond_true, Bool.cond_false, eq_self, forall_eq_or_imp, implies_true, forall_const, forall_eq, ↓reduceIte, reduceIte, Nat.reduceEqDiff, Nat.reduceAdd, reduceCtorEq, Nat.reduceSub, Int.reduceToNat, Int.reduceLE, Int.reduceLT, Int.reduceNeg, Nat.reduceBEq, Nat.reduceMul, Nat.reduceLeDiff, Nat.reduceMod, UInt8.reduceOfNat, Nat.reduceLT, Int.reduceEq, Int.reduceAdd, Int.reduceSub, Int.reduceMul]) ⟨j + 1, by omega, rfl, ?_⟩
                    rw [Nat.min_eq_left (by omega)]
                    simp -dsimp -implicitDefEqProofs only [↓Ev.xStp_eq, ↓Ev.P, Ev.Q, Bool.cond_true, Bool.cond_false, eq_self, forall_eq_or_imp, implies_true, forall_const, forall_eq, ↓reduceIte, reduceIte, Nat.reduceEqDiff, Nat.reduceAdd, reduceCtorEq, Nat.reduceSub, Int.reduceToNat, Int.reduceLE, Int.reduceLT, Int.reduceNeg, Nat.reduceBEq, Nat.reduceMul, Nat.reduceLeDiff, Nat.reduceMod, UInt8.reduceOfNat, Nat.reduceLT, Int.reduceEq, Int.reduceAdd, Int.reduceSub, Int.reduceMul]
                    all_goals rfl
                  · have hj3 : ¬ (j : Int) < (X.length : Int) := by omega
                    rw [Nat.min_eq_right (by omega)]
                    have hfl := fed_len X X.length
                    simp only [fedM, if_true, Bool.false_eq_true, if_false] at hk
                    simp -dsimp -implicitDefEqProofs only [S15, SP15, R15, hj3, hfl, impF, CSplit, CBare, CStopE, cmdE_wp, cmK_ok, cmK_error, edC_wp, edK_ok, edK_error, DCatch, Ev.defK, defE_nE, defE_rE, Ev.endK, Ev.xvs, fltV, unStr_rows, strRows_len, strRows_all, List.length_append, List.length_set, Ev.St.giveC, ↓Ev.P, Ev.Q, Bool.cond_true, Bool.cond_false, eq_self, forall_eq_or_imp, implies_true, forall_const, forall_eq, ↓reduceIte, reduceIte, Nat.reduceEqDiff, Nat.reduceAdd, reduceCtorEq, Nat.reduceSub, Int.reduceToNat, Int.reduceLE, Int.reduceLT, Int.reduceNeg, Nat.reduceBEq, Nat.reduceMul, Nat.reduceLeDiff, Nat.reduceMod, UInt8.reduceOfNat, Nat.reduceLT, Int.reduceEq, Int.reduceAdd, Int.reduceSub, Int.reduceMul]
                    repeat' (first | with_reducible assumption | refine And.intro ?_ ?_ | intro _ | (rw [Ev.xStp_eq]; simp -dsimp -implicitDefEqProofs only [S15, SP15, R15, hj3, hfl, impF, CSplit, CBare, CStopE, cmdE_wp, cmK_ok, cmK_error, edC_wp, edK_ok, edK_error, DCatch, Ev.defK, defE_nE, defE_rE, Ev.endK, Ev.xvs, fltV, unStr_rows, strRows_len, strRows_all, List.length_append, List.length_set, Ev.St.giveC, ↓Ev.P, Ev.Q, Bool.cond_true, Bool.cond_false, eq_self, forall_eq_or_imp, implies_true, forall_const, forall_eq, ↓reduceIte, reduceIte, Nat.reduceEqDiff, Nat.reduceAdd, reduceCtorEq, Nat.reduceSub, Int.reduceToNat, Int.reduceLE, Int.reduceLT, Int.reduceNeg, Nat.reduceBEq, Nat.reduceMul, Nat.reduceLeDiff, Nat.reduceMod, UInt8.reduceOfNat, Nat.reduceLT, Int.reduceEq, Int.reduceAdd, Int.reduceSub, Int.reduceMul]))
                    all_goals try omega
                    all_goals exact hk
            · have _t := trivial
              simp -dsimp -implicitDefEqProofs only [S15, SP15, R15, hLs, impF, CSplit, CBare, CStopE, cmdE_wp, cmK_ok, cmK_error, edC_wp, edK_ok, edK_error, DCatch, Ev.defK, defE_nE, defE_rE, Ev.endK, Ev.xvs, fltV, unStr_rows, strRows_len, strRows_all, List.length_append, List.length_set, Ev.St.giveC, ↓Ev.P, Ev.Q, Bool.cond_true, Bool.cond_false, eq_self, forall_eq_or_imp, implies_true, forall_const, forall_eq, ↓reduceIte, reduceIte, Nat.reduceEqDiff, Nat.reduceAdd, reduceCtorEq, Nat.reduceSub, Int.reduceToNat, Int.reduceLE, Int.reduceLT, Int.reduceNeg, Nat.reduceBEq, Nat.reduceMul, Nat.reduceLeDiff, Nat.reduceMod, UInt8.reduceOfNat, Nat.reduceLT, Int.reduceEq, Int.reduceAdd, Int.reduceSub, Int.reduceMul]
              repeat' (first | with_reducible assumption | refine And.intro ?_ ?_ | intro _ | (rw [Ev.xStp_eq]; simp -dsimp -implicitDefEqProofs only [S15, SP15, R15, hLs, impF, CSplit, CBare, CStopE, cmdE_wp, cmK_ok, cmK_error, edC_wp, edK_ok, edK_error, DCatch, Ev.defK, defE_nE, defE_rE, Ev.endK, Ev.xvs, fltV, unStr_rows, strRows_len, strRows_all, List.length_append, List.length_set, Ev.St.giveC, ↓Ev.P, Ev.Q, Bool.cond_true, Bool.cond_false, eq_self, forall_eq_or_imp, implies_true, forall_const, forall_eq, ↓reduceIte, reduceIte, Nat.reduceEqDiff, Nat.reduceAdd, reduceCtorEq, Nat.reduceSub, Int.reduceToNat, Int.reduceLE, Int.reduceLT, Int.reduceNeg, Nat.reduceBEq, Nat.reduceMul, Nat.reduceLeDiff, Nat.reduceMod, UInt8.reduceOfNat, Nat.reduceLT, Int.reduceEq, Int.reduceAdd, Int.reduceSub, Int.reduceMul]))
              all_goals try omega
              refine xLoop_intro (fun m st => ∃ j : Nat, j ≤ X.length ∧ m = X.length - j ∧ st = ⟨[(4, .ptr 0 0), (5, .ptr 1 0), (6, .ptr 3 0), (11, .d (.v (.bool true))), (103, .d (.v (.int .i64 (X.length : Nat)))), (104, .d (.v (.int .i64 (j : Nat))))], 4, [(0, .cells 22 [.d (.v (.slice none 0 0))]), (1, .cells 24 [.d (.v .nilIface)]), (2, .row 9 1 (strRows (fedT X (min j (X.length - 1))))), (3, .cells 87 [.own 2, .d (.v (.int .i64 c)), .d (.sl (strRows L)), .d (.v (.int .i64 (L.length : Nat)))])]⟩) X.length [0, 1, 2, 3] ?_ ?_ ?_
              · simp -dsimp -implicitDefEqProofs only [↓Ev.xStp_eq, ↓Ev.P, Ev.Q, Bool.cond_true, Bool.cond_false, eq_self, forall_eq_or_imp, implies_true, forall_const, forall_eq, ↓reduceIte, reduceIte, Nat.reduceEqDiff, Nat.reduceAdd, reduceCtorEq, Nat.reduceSub, Int.reduceToNat, Int.reduceLE, Int.reduceLT, Int.reduceNeg, Nat.reduceBEq, Nat.reduceMul, Nat.reduceLeDiff, Nat.reduceMod, UInt8.reduceOfNat, Nat.reduceLT, Int.reduceEq, Int.reduceAdd, Int.reduceSub, Int.reduceMul]
              · simp -dsimp -implicitDefEqProofs only [strRows_len, ↓Ev.xStp_eq, ↓Ev.P, Ev.Q, Bool.cond_true, Bool.cond_false, eq_self, forall_eq_or_imp, implies_true, forall_const, forall_eq, ↓reduceIte, reduceIte, Nat.reduceEqDiff, Nat.reduceAdd, reduceCtorEq, Nat.reduceSub, Int.reduceToNat, Int.reduceLE, Int.reduceLT, Int.reduceNeg, Nat.reduceBEq, Nat.reduceMul, Nat.reduceLeDiff, Nat.reduceMod, UInt8.reduceOfNat, Nat.reduceLT, Int.reduceEq, Int.reduceAdd, Int.reduceSub, Int.reduceMul]
                refine ⟨0, by omega, by omega, ?_⟩
                rw [Nat.zero_min, fed_zero]
                all_goals rfl
              · rintro m st ⟨j, hj, rfl, rfl⟩
                by_cases hjl : j < X.length
                · have hj3 : (j : Int) < (X.length : Int) := by omega
                  by_cases hjm : j < X.length - 1
                  · have hj4 : (j : Int) < (X.length : Int) - 1 := by omega
                    rw [Nat.min_eq_left (by omega)]
                    have hg := strRows_get (l := fedT X j) (i := j) (by rw [fed_len]; exact hjl)
                    rw [fed_get hjl] at hg
                    have hg2 : (strRows (fedT X j)).getD j [] = [.v (.string ⟨(X.getD j []).toArray⟩)] := by rw [List.getD_eq_getElem?_getD, hg]; rfl
                    have hset := fed_rows hjl
                    have hxz := hX _ (getD_in hjl)
                    have hfl := fed_len X j
                    generalize X.getD j [] = w at hg hg2 hset hxz
                    simp -dsimp -implicitDefEqProofs only [S15, SP15, R15, hj3, hg, hg2, hset, hfl, hj4, impF, CSplit, CBare, CStopE, cmdE_wp, cmK_ok, cmK_error, edC_wp, edK_ok, edK_error, DCatch, Ev.defK, defE_nE, defE_rE, Ev.endK, Ev.xvs, fltV, unStr_rows, strRows_len, strRows_all, List.length_append, List.length_set, Ev.St.giveC, ↓Ev.P, Ev.Q, Bool.cond_true, Bool.cond_false, eq_self, forall_eq_or_imp, implies_true, forall_const, forall_eq, ↓reduceIte, reduceIte, Nat.reduceEqDiff, Nat.reduceAdd, reduceCtorEq, Nat.reduceSub, Int.reduceToNat, Int.reduceLE, Int.reduceLT, Int.reduceNeg, Nat.reduceBEq, Nat.reduceMul, Nat.reduceLeDiff, Nat.reduceMod, UInt8.reduceOfNat, Nat.reduceLT, Int.reduceEq, Int.reduceAdd, Int.reduceSub, Int.reduceMul]
                    repeat' (first | with_reducible assumption | refine And.intro ?_ ?_ | intro _ | (rw [Ev.xStp_eq]; simp -dsimp -implicitDefEqProofs only [S15, SP15, R15, hj3, hg, hg2, hset, hfl, hj4, impF, CSplit, CBare, CStopE, cmdE_wp, cmK_ok, cmK_error, edC_wp, edK_ok, edK_error, DCatch, Ev.defK, defE_nE, defE_rE, Ev.endK, Ev.xvs, fltV, unStr_rows, strRows_len, strRows_all, List.length_append, List.length_set, Ev.St.giveC, ↓Ev.P, Ev.Q, Bool.cond_true, Bool.cond_false, eq_self, forall_eq_or_imp, implies_true, forall_const, forall_eq, ↓reduceIte, reduceIte, Nat.reduceEqDiff, Nat.reduceAdd, reduceCtorEq, Nat.reduceSub, Int.reduceToNat, Int.reduceLE, Int.reduceLT, Int.reduceNeg, Nat.reduceBEq, Nat.reduceMul, Nat.reduceLeDiff, Nat.reduceMod, UInt8.reduceOfNat, Nat.reduceLT, Int.reduceEq, Int.reduceAdd, Int.reduceSub, Int.reduceMul]))
                    all_goals try omega
                    refine xAgain_intro (X.length - (j + 1)) [0, 1, 2, 3] (by omega) (by simp -dsimp -implicitDefEqProofs only [↓Ev.xStp_eq, ↓Ev.P, Ev.Q, Bool.cond_true, Bool.cond_false, eq_self, forall_eq_or_imp, implies_true, forall_const, forall_eq, ↓reduceIte, reduceIte, Nat.reduceEqDiff, Nat.reduceAdd, reduceCtorEq, Nat.reduceSub, Int.reduceToNat, Int.reduceLE, Int.reduceLT, Int.reduceNeg, Nat.reduceBEq, Nat.reduceMul, Nat.reduceLeDiff, Nat.reduceMod, UInt8.reduceOfNat, Nat.reduceLT, Int.reduceEq, Int.reduceAdd, Int.reduceSub, Int.reduceMul]) ⟨j + 1, by omega, rfl, ?_⟩
                    rw [Nat.min_eq_left (by omega)]
                    simp -dsimp -implicitDefEqProofs only [↓Ev.xStp_eq, ↓Ev.P, Ev.Q, Bool.cond_true, Bool.cond_false, eq_self, forall_eq_or_imp, implies_true, forall_const, forall_eq, ↓reduceIte, reduceIte, Nat.reduceEqDiff, Nat.reduceAdd, reduceCtorEq, Nat.reduceSub, Int.reduceToNat, Int.reduceLE, Int.reduceLT, Int.reduceNeg, Nat.reduceBEq, Nat.reduceMul, Nat.reduceLeDiff, Nat.reduceMod, UInt8.reduceOfNat, Nat.reduceLT, Int.reduceEq, Int.reduceAdd, Int.reduceSub, Int.reduceMul]
                    all_goals rfl
                  · have hj4 : ¬ (j : Int) < (X.length : Int) - 1 := by omega
                    rw [Nat.min_eq_right (by omega)]
                    have hfl := fed_len X (X.length - 1)
                    simp -dsimp -implicitDefEqProofs only [S15, SP15, R15, hj3, hj4, hfl, impF, CSplit, CBare, CStopE, cmdE_wp, cmK_ok, cmK_error, edC_wp, edK_ok, edK_error, DCatch, Ev.defK, defE_nE, defE_rE, Ev.endK, Ev.xvs, fltV, unStr_rows, strRows_len, strRows_all, List.length_append, List.length_set, Ev.St.giveC, ↓Ev.P, Ev.Q, Bool.cond_true, Bool.cond_false, eq_self, forall_eq_or_imp, implies_true, forall_const, forall_eq, ↓reduceIte, reduceIte, Nat.reduceEqDiff, Nat.reduceAdd, reduceCtorEq, Nat.reduceSub, Int.reduceToNat, Int.reduceLE, Int.reduceLT, Int.reduceNeg, Nat.reduceBEq, Nat.reduceMul, Nat.reduceLeDiff, Nat.reduceMod, UInt8.reduceOfNat, Nat.reduceLT, Int.reduceEq, Int.reduceAdd, Int.reduceSub, Int.reduceMul]
                    repeat' (first | with_reducible assumption | refine And.intro ?_ ?_ | intro _ | (rw [Ev.xStp_eq]; simp -dsimp -implicitDefEqProofs only [S15, SP15, R15, hj3, hj4, hfl, impF, CSplit, CBare, CStopE, cmdE_wp, cmK_ok, cmK_error, edC_wp, edK_ok, edK_error, DCatch, Ev.defK, defE_nE, defE_rE, Ev.endK, Ev.xvs, fltV, unStr_rows, strRows_len, strRows_all, List.length_append, List.length_set, Ev.St.giveC, ↓Ev.P, Ev.Q, Bool.cond_true, Bool.cond_false, eq_self, forall_eq_or_imp, implies_true, forall_const, forall_eq, ↓reduceIte, reduceIte, Nat.reduceEqDiff, Nat.reduceAdd, reduceCtorEq, Nat.reduceSub, Int.reduceToNat, Int.reduceLE, Int.reduceLT, Int.reduceNeg, Nat.reduceBEq, Nat.reduceMul, Nat.reduceLeDiff, Nat.reduceMod, UInt8.reduceOfNat, Nat.reduceLT, Int.reduceEq, Int.reduceAdd, Int.reduceSub, Int.reduceMul]))
                    all_goals try omega
                    refine xAgain_intro (X.length - (j + 1)) [0, 1, 2, 3] (by omega) (by simp -dsimp -implicitDefEqProofs only [↓Ev.xStp_eq, ↓Ev.P, Ev.Q, Bool.cond_true, Bool.cond_false, eq_self, forall_eq_or_imp, implies_true, forall_const, forall_eq, ↓reduceIte, reduceIte, Nat.reduceEqDiff, Nat.reduceAdd, reduceCtorEq, Nat.reduceSub, Int.reduceToNat, Int.reduceLE, Int.reduceLT, Int.reduceNeg, Nat.reduceBEq, Nat.reduceMul, Nat.reduceLeDiff, Nat.reduceMod, UInt8.reduceOfNat, Nat.reduceLT, Int.reduceEq, Int.reduceAdd, Int.reduceSub, Int.reduceMul]) ⟨j + 1, by omega, rfl, ?_⟩
                    rw [Nat.min_eq_right (by omega)]
                    simp -dsimp -implicitDefEqProofs only [↓Ev.xStp_eq, ↓Ev.P, Ev.Q, Bool.cond_true, Bool.cond_false, eq_self, forall_eq_or_imp, implies_true, forall_const, forall_eq, ↓reduceIte, reduceIte, Nat.reduceEqDiff, Nat.reduceAdd, reduceCtorEq, Nat.reduceSub, Int.reduceToNat, Int.reduceLE, Int.reduceLT, Int.reduceNeg, Nat.reduceBEq, Nat.reduceMul, Nat.reduceLeDiff, Nat.reduceMod, UInt8.reduceOfNat, Nat.reduceLT, Int.reduceEq, Int.reduceAdd, Int.reduceSub, Int.reduceMul]
                    all_goals rfl
                · have hj3 : ¬ (j : Int) < (X.length : Int) := by omega
                  rw [Nat.min_eq_right (by omega)]
                  have hfl := fed_len X (X.length - 1)
                  simp only [fedM, if_true, Bool.false_eq_true, if_false] at hk
                  simp -dsimp -implicitDefEqProofs only [S15, SP15, R15, hj3, hfl, impF, CSplit, CBare, CStopE, cmdE_wp, cmK_ok, cmK_error, edC_wp, edK_ok, edK_error, DCatch, Ev.defK, defE_nE, defE_rE, Ev.endK, Ev.xvs, fltV, unStr_rows, strRows_len, strRows_all, List.length_append, List.length_set, Ev.St.giveC, ↓Ev.P, Ev.Q, Bool.cond_true, Bool.cond_false, eq_self, forall_eq_or_imp, implies_true, forall_const, forall_eq, ↓reduceIte, reduceIte, Nat.reduceEqDiff, Nat.reduceAdd, reduceCtorEq, Nat.reduceSub, Int.reduceToNat, Int.reduceLE, Int.reduceLT, Int.reduceNeg, Nat.reduceBEq, Nat.reduceMul, Nat.reduceLeDiff, Nat.reduceMod, UInt8.reduceOfNat, Nat.reduceLT, Int.reduceEq, Int.reduceAdd, Int.reduceSub, Int.reduceMul]
                  repeat' (first | with_reducible assumption | refine And.intro ?_ ?_ | intro _ | (rw [Ev.xStp_eq]; simp -dsimp -implicitDefEqProofs only [S15, SP15, R15, hj3, hfl, impF, CSplit, CBare, CStopE, cmdE_wp, cmK_ok, cmK_error, edC_wp, edK_ok, edK_error, DCatch, Ev.defK, defE_nE, defE_rE, Ev.endK, Ev.xvs, fltV, unStr_rows, strRows_len, strRows_all, List.length_append, List.length_set, Ev.St.giveC, ↓Ev.P, Ev.Q, Bool.cond_true, Bool.cond_false, eq_self, forall_eq_or_imp, implies_true, forall_const, forall_eq, ↓reduceIte, reduceIte, Nat.reduceEqDiff, Nat.reduceAdd, reduceCtorEq, Nat.reduceSub, Int.reduceToNat, Int.reduceLE, Int.reduceLT, Int.reduceNeg, Nat.reduceBEq, Nat.reduceMul, Nat.reduceLeDiff, Nat.reduceMod, UInt8.reduceOfNat, Nat.reduceLT, Int.reduceEq, Int.reduceAdd, Int.reduceSub, Int.reduceMul]))
                  all_goals try omega
                  all_goals exact hk
end Go.Proofs.YtlghobefhmpfkaaGreatDoor
set_option linter.unusedVariables false
namespace Go.Proofs.YtlghobefhmpfkaaGreatDoor
open Go Go.Ev
set_option maxRecDepth 100000
end Go.Proofs.YtlghobefhmpfkaaGreatDoor
namespace Go.Proofs.YtlghobefhmpfkaaGreatDoor
end Go.Proofs.YtlghobefhmpfkaaGreatDoor
set_option linter.unusedVariables false
set_option linter.unusedSimpArgs false
namespace Go.Proofs.YtlghobefhmpfkaaGreatDoor
open Go Go.Ev
set_option maxRecDepth 100000
variable {G : World → Prop}
end Go.Proofs.YtlghobefhmpfkaaGreatDoor
set_option linter.unusedVariables false
namespace Go.Proofs.YtlghobefhmpfkaaGreatDoor
open Go Go.Ev
set_option maxRecDepth 100000
def A51 : Ann := ⟨fun r i => if r = 4 ∧ i = 0 then 7 else 0, fun _ => none, fun r => if r = 1 then some (false, [0, 1, 5, 6, 7]) else if r = 3 then some (false, [8]) else if r = 7 then some (false, [5, 9, 11]) else if r = 8 then some (false, [9, 11, 12]) else if r = 10 then some (false, [9, 11, 12]) else if r = 11 then some (false, [9, 11]) else if r = 12 then some (false, [9, 11, 12]) else if r = 13 then some (false, [9, 11, 12]) else if r = 15 then some (false, [5, 9]) else if r = 17 then some (false, [5, 9, 13]) else if r = 20 then some (false, [9]) else none, fun r => if r = 7 then [5, 6, 7, 9] else []⟩
def S51 : SCode :=
  (.seq (.ops [⟨none, (some 5), .bx 5 22 1 (.s 2), false⟩,
    ⟨none, (some 6), .mv 6 (.k (Value.string ⟨#[]⟩)), false⟩,
    ⟨none, (some 7), .mv 7 (.k (Value.int .i64 0)), false⟩])
  (.seq (.seq (.seq (.keep [0, 1, 5, 6, 7]) (.ops [⟨none, (some 16), .mv 16 (.s 0), false⟩,
    ⟨none, (some 17), .mv 17 (.s 1), false⟩,
    ⟨none, (some 18), .len 18 (.s 17), false⟩,
    ⟨none, (some 19), .ld 19 false 1 (.s 5), false⟩,
    ⟨none, (some 20), .len 20 (.s 19), false⟩,
    ⟨none, (some 21), .call (some 21) 102 false [(.s 16), (.s 18), (.s 20)], false⟩,
    ⟨none, (some 8), .mv 8 (.s 21), false⟩]))
  (.seq (.ops [⟨none, (some 22), .mv 22 (.s 8), false⟩,
    ⟨none, (some 23), .bin 23 .neq (.s 22) (.k (Value.int .i64 0)), false⟩])
  (.cond (.s 23) (.seq (.seq (.keep [8]) (.ops [⟨none, (some 24), .mv 24 (.s 8), false⟩,
    ⟨none, (some 6), .mv 6 (.k (Value.string ⟨#[]⟩)), false⟩,
    ⟨none, (some 7), .mv 7 (.s 24), false⟩]))
  .ret) .skip)))
  (.seq (.ops [⟨none, (some 9), .alb 9 117 5, false⟩])
  (.seq (.seq (.ops [⟨none, (some 25), .mv 25 (.s 0), false⟩,
    ⟨none, (some 26), .call (some 26) 103 false [(.s 25)], false⟩])
  (.block 0 (.each (.s 26) [27, 28] [5, 6, 7, 9] (.ops [⟨none, (some 11), .al 11 94 [(Value.int .i64 0), (Value.int .i64 0), (Value.int .i64 0), (Value.int .i64 0)], false⟩,
    ⟨none, none, .st true 4 (.s 11) (.s 28), false⟩]) (.block 1 (.seq (.seq (.keep [5, 9, 11]) (.ops [⟨none, (some 29), .ld 29 false 1 (.s 5), false⟩,
    ⟨none, (some 30), .fa 30 2 (.s 11), false⟩,
    ⟨none, (some 31), .ld 31 false 1 (.s 30), false⟩,
    ⟨none, (some 32), .fa 32 2 (.s 11), false⟩,
    ⟨none, (some 33), .ld 33 false 1 (.s 32), false⟩,
    ⟨none, (some 34), .fa 34 3 (.s 11), false⟩,
    ⟨none, (some 35), .ld 35 false 1 (.s 34), false⟩,
    ⟨none, (some 36), .binc 36 .add (.s 33) (.s 35), false⟩,
    ⟨none, (some 37), .slr 37 1 (.s 29) (some (.s 31)) (some (.s 36)), false⟩,
    ⟨none, (some 12), .mv 12 (.s 37), true⟩]))
  (.block 2 (.seq (.seq (.keep [9, 11, 12]) (.ops [⟨none, (some 48), .fa 48 3 (.s 11), false⟩,
    ⟨none, (some 49), .ld 49 false 1 (.s 48), false⟩,
    ⟨none, (some 50), .bin 50 .eql (.s 49) (.k (Value.int .i64 0)), false⟩,
    ⟨none, (some 47), .mv 47 (.s 50), false⟩]))
  (.cond (.s 47) (.seq (.keep [9, 11]) (.ops [⟨none, (some 51), .fa 51 0 (.s 11), false⟩,
    ⟨none, (some 52), .ld 52 false 1 (.s 51), false⟩,
    ⟨none, (some 53), .fa 53 1 (.s 11), false⟩,
    ⟨none, (some 54), .ld 54 false 1 (.s 53), false⟩,
    ⟨none, (some 55), .call (some 55) 104 false [(.s 52), (.s 54)], false⟩,
    ⟨none, (some 56), .bin 56 .add (.s 55) (.k (Value.string ⟨#[100, 10]⟩)), false⟩,
    ⟨none, (some 57), .call (some 57) 67 false [(.s 9), (.s 56)], false⟩])) (.seq (.seq (.keep [9, 11, 12]) (.ops [⟨none, (some 59), .fa 59 1 (.s 11), false⟩,
    ⟨none, (some 60), .ld 60 false 1 (.s 59), false⟩,
    ⟨none, (some 61), .bin 61 .eql (.s 60) (.k (Value.int .i64 0)), false⟩,
    ⟨none, (some 58), .mv 58 (.s 61), false⟩]))
  (.cond (.s 58) (.seq (.seq (.keep [9, 11, 12]) (.ops [⟨none, (some 62), .fa 62 0 (.s 11), false⟩,
    ⟨none, (some 63), .ld 63 false 1 (.s 62), false⟩,
    ⟨none, (some 64), .call (some 64) 105 false [(.s 63)], false⟩,
    ⟨none, (some 65), .bin 65 .add (.s 64) (.k (Value.string ⟨#[97, 10]⟩)), false⟩,
    ⟨none, (some 66), .call (some 66) 67 false [(.s 9), (.s 65)], false⟩]))
  (.ops [⟨none, (some 67), .mv 67 (.s 12), false⟩,
    ⟨none, (some 68), .call (some 68) 106 false [(.s 9), (.s 67)], false⟩])) (.seq (.seq (.keep [9, 11, 12]) (.ops [⟨none, (some 38), .fa 38 0 (.s 11), false⟩,
    ⟨none, (some 39), .ld 39 false 1 (.s 38), false⟩,
    ⟨none, (some 40), .fa 40 1 (.s 11), false⟩,
    ⟨none, (some 41), .ld 41 false 1 (.s 40), false⟩,
    ⟨none, (some 42), .call (some 42) 104 false [(.s 39), (.s 41)], false⟩,
    ⟨none, (some 43), .bin 43 .add (.s 42) (.k (Value.string ⟨#[99, 10]⟩)), false⟩,
    ⟨none, (some 44), .call (some 44) 67 false [(.s 9), (.s 43)], false⟩]))
  (.ops [⟨none, (some 45), .mv 45 (.s 12), false⟩,
    ⟨none, (some 46), .call (some 46) 106 false [(.s 9), (.s 45)], false⟩]))))))))))))
  (.seq (.seq (.seq (.keep [5, 9]) (.ops [⟨none, (some 69), .ld 69 false 1 (.s 5), false⟩,
    ⟨none, (some 70), .len 70 (.s 69), false⟩,
    ⟨none, (some 13), .mv 13 (.s 70), false⟩]))
  (.seq (.ops [⟨none, (some 71), .mv 71 (.s 13), false⟩,
    ⟨none, (some 72), .bin 72 .gtr (.s 71) (.k (Value.int .i64 0)), false⟩])
  (.cond (.s 72) (.seq (.seq (.keep [5, 9, 13]) (.ops [⟨none, (some 74), .ld 74 false 1 (.s 5), false⟩,
    ⟨none, (some 75), .mv 75 (.s 13), false⟩,
    ⟨none, (some 76), .binc 76 .sub (.s 75) (.k (Value.int .i64 1)), false⟩,
    ⟨none, (some 77), .ia 77 1 (.s 74) (.s 76), false⟩,
    ⟨none, (some 78), .ld 78 false 1 (.s 77), false⟩,
    ⟨none, (some 79), .call (some 79) 18 false [(.s 78)], false⟩,
    ⟨none, (some 73), .mv 73 (.s 79), false⟩,
    ⟨none, (some 80), .ex 80 (.s 73) 0, false⟩,
    ⟨none, (some 81), .ex 81 (.s 73) 1, false⟩,
    ⟨none, (some 14), .mv 14 (.s 80), true⟩,
    ⟨none, (some 15), .mv 15 (.s 81), false⟩]))
  (.seq (.ops [⟨none, (some 82), .mv 82 (.s 15), false⟩,
    ⟨none, (some 83), .not 83 (.s 82), false⟩])
  (.cond (.s 83) (.ops [⟨none, (some 84), .call (some 84) 67 false [(.s 9), (.k (Value.string ⟨#[92, 32, 78, 111, 32, 110, 101, 119, 108, 105, 110, 101, 32, 97, 116, 32, 101, 110, 100, 32, 111, 102, 32, 102, 105, 108, 101, 10]⟩))], false⟩]) .skip))) .skip)))
  (.seq (.seq (.keep [9]) (.ops [⟨none, (some 85), .call (some 85) 70 false [(.s 9)], false⟩,
    ⟨none, (some 6), .mv 6 (.s 85), false⟩,
    ⟨none, (some 7), .mv 7 (.k (Value.int .i64 0)), false⟩]))
  .ret))))))
theorem cc51 : (Tryz.f51.body).bind (cc Tryz.prog Tryz.f51.ntmps A51) = some S51 := by kernel_rfl
def R51 : List RR := [.sl 6, .sl 7]
theorem cr51 : Tryz.f51.results.toList.map (crr Tryz.prog) = R51.map some := by kernel_rfl
theorem nm51 : (Tryz.f51.name == "runtime.NumGoroutine") = false := by kernel_rfl
theorem fn51 : Tryz.prog.funcs[51]? = some Tryz.f51 := by kernel_rfl
theorem bd51 : ∃ b, Tryz.f51.body = some b ∧ cc Tryz.prog Tryz.f51.ntmps A51 b = some S51 := Option.bind_eq_some_iff.1 cc51
theorem sd51 {G : World → Prop} {T : FuncId → Contract} {C : Contract} (hT : ∀ f, Sound G Tryz.prog f (T f)) (hl : C.lawful) (hC : ∀ args st K, C.wp args st K → args.length ≤ 86 ∧ ∃ os op, xv T st.n S51 (st0 args st) (retK R51 st.n os K) (panK st.n op K)) (hit : SoundIt G Tryz.prog 51 C.it := by exact SoundIt.none) : Sound G Tryz.prog 51 C := by
  obtain ⟨b, hb, hc⟩ := bd51
  rw [xv_eq] at hC
  exact sound_of_ev mo fn51 hb nm51 hc cr51 hT hl hit hC
def A106 : Ann := ⟨fun _ _ => 0, fun _ => none, fun r => if r = 1 then some (false, [0, 1, 4]) else if r = 3 then some (false, [0, 4, 9, 10, 11]) else if r = 6 then some (false, [0, 6, 9, 10, 11]) else if r = 7 then some (false, [0, 7, 9, 10, 11]) else if r = 10 then some (false, [0, 4, 7, 9, 10, 11]) else none, fun r => if r = 2 then [0, 4, 9, 10, 11] else []⟩
def S106 : SCode :=
  (.seq (.ops [⟨none, (some 4), .mv 4 (.k (Value.bool false)), false⟩])
  (.seq (.seq (.seq (.keep [0, 1, 4]) (.ops [⟨none, (some 9), .mv 9 (.s 1), false⟩,
    ⟨none, (some 10), .len 10 (.s 9), false⟩,
    ⟨none, (some 11), .mv 11 (.k (Value.int .i64 0)), false⟩]))
  (.block 0 (.loop [0, 4, 9, 10, 11] (.seq (.ops [⟨none, (some 12), .bin 12 .lss (.s 11) (.s 10), false⟩])
  (.seq (.cond (.s 12) .skip (.exit 0))
  (.seq (.block 1 (.seq (.seq (.keep [0, 4, 9, 10, 11]) (.ops [⟨none, (some 13), .ia 13 1 (.s 9) (.s 11), false⟩,
    ⟨none, (some 14), .ld 14 false 1 (.s 13), false⟩,
    ⟨none, (some 6), .mv 6 (.s 14), false⟩]))
  (.seq (.seq (.ops [⟨none, (some 15), .mv 15 (.s 4), false⟩])
  (.cond (.s 15) (.ops [⟨none, (some 16), .mv 16 (.s 0), false⟩,
    ⟨none, (some 17), .call (some 17) 67 false [(.s 16), (.k (Value.string ⟨#[97, 10]⟩))], false⟩]) .skip))
  (.seq (.seq (.keep [0, 6, 9, 10, 11]) (.ops [⟨none, (some 19), .mv 19 (.s 6), false⟩,
    ⟨none, (some 20), .call (some 20) 18 false [(.s 19)], false⟩,
    ⟨none, (some 18), .mv 18 (.s 20), false⟩,
    ⟨none, (some 21), .ex 21 (.s 18) 0, false⟩,
    ⟨none, (some 22), .ex 22 (.s 18) 1, false⟩,
    ⟨none, (some 7), .mv 7 (.s 21), false⟩,
    ⟨none, (some 8), .mv 8 (.s 22), false⟩]))
  (.seq (.seq (.keep [0, 7, 9, 10, 11]) (.ops [⟨none, (some 23), .mv 23 (.s 7), false⟩,
    ⟨none, (some 24), .bin 24 .eql (.s 23) (.k (Value.string ⟨#[46]⟩)), false⟩,
    ⟨none, (some 4), .mv 4 (.s 24), false⟩]))
  (.seq (.ops [⟨none, (some 25), .mv 25 (.s 4), false⟩])
  (.cond (.s 25) (.ops [⟨none, (some 26), .mv 26 (.s 0), false⟩,
    ⟨none, (some 27), .call (some 27) 67 false [(.s 26), (.k (Value.string ⟨#[46, 46, 10, 46, 10, 115, 47, 46, 47, 47, 10]⟩))], false⟩]) (.seq (.keep [0, 4, 7, 9, 10, 11]) (.ops [⟨none, (some 28), .mv 28 (.s 0), false⟩,
    ⟨none, (some 29), .mv 29 (.s 7), false⟩,
    ⟨none, (some 30), .bin 30 .add (.s 29) (.k (Value.string ⟨#[10]⟩)), false⟩,
    ⟨none, (some 31), .call (some 31) 67 false [(.s 28), (.s 30)], false⟩])))))))))
  (.ops [⟨none, (some 32), .binc 32 .add (.s 11) (.k (Value.int .i64 1)), false⟩,
    ⟨none, (some 11), .mv 11 (.s 32), false⟩])))))))
  (.seq (.ops [⟨none, (some 33), .mv 33 (.s 4), false⟩,
    ⟨none, (some 34), .not 34 (.s 33), false⟩])
  (.cond (.s 34) (.ops [⟨none, (some 35), .mv 35 (.s 0), false⟩,
    ⟨none, (some 36), .call (some 36) 67 false [(.s 35), (.k (Value.string ⟨#[46, 10]⟩))], false⟩]) .skip))))
theorem cc106 : (Tryz.f106.body).bind (cc Tryz.prog Tryz.f106.ntmps A106) = some S106 := by kernel_rfl
def R106 : List RR := []
theorem cr106 : Tryz.f106.results.toList.map (crr Tryz.prog) = R106.map some := by kernel_rfl
theorem nm106 : (Tryz.f106.name == "runtime.NumGoroutine") = false := by kernel_rfl
theorem fn106 : Tryz.prog.funcs[106]? = some Tryz.f106 := by kernel_rfl
theorem bd106 : ∃ b, Tryz.f106.body = some b ∧ cc Tryz.prog Tryz.f106.ntmps A106 b = some S106 := Option.bind_eq_some_iff.1 cc106
theorem sd106 {G : World → Prop} {T : FuncId → Contract} {C : Contract} (hT : ∀ f, Sound G Tryz.prog f (T f)) (hl : C.lawful) (hC : ∀ args st K, C.wp args st K → args.length ≤ 37 ∧ ∃ os op, xv T st.n S106 (st0 args st) (retK R106 st.n os K) (panK st.n op K)) (hit : SoundIt G Tryz.prog 106 C.it := by exact SoundIt.none) : Sound G Tryz.prog 106 C := by
  obtain ⟨b, hb, hc⟩ := bd106
  rw [xv_eq] at hC
  exact sound_of_ev mo fn106 hb nm106 hc cr106 hT hl hit hC
def A104 : Ann := ⟨fun _ _ => 0, fun _ => none, fun r => if r = 2 then some (false, [0]) else if r = 3 then some (false, [0, 1]) else none, fun _ => []⟩
def S104 : SCode :=
  (.seq (.ops [⟨none, (some 4), .mv 4 (.k (Value.string ⟨#[]⟩)), false⟩])
  (.seq (.seq (.ops [⟨none, (some 5), .mv 5 (.s 1), false⟩,
    ⟨none, (some 6), .bin 6 .eql (.s 5) (.k (Value.int .i64 1)), false⟩])
  (.cond (.s 6) (.seq (.seq (.keep [0]) (.ops [⟨none, (some 7), .mv 7 (.s 0), false⟩,
    ⟨none, (some 8), .binc 8 .add (.s 7) (.k (Value.int .i64 1)), false⟩,
    ⟨none, (some 9), .call (some 9) 105 false [(.s 8)], false⟩,
    ⟨none, (some 4), .mv 4 (.s 9), false⟩]))
  .ret) .skip))
  (.seq (.seq (.keep [0, 1]) (.ops [⟨none, (some 10), .mv 10 (.s 0), false⟩,
    ⟨none, (some 11), .binc 11 .add (.s 10) (.k (Value.int .i64 1)), false⟩,
    ⟨none, (some 12), .call (some 12) 105 false [(.s 11)], false⟩,
    ⟨none, (some 13), .bin 13 .add (.s 12) (.k (Value.string ⟨#[44]⟩)), false⟩,
    ⟨none, (some 14), .mv 14 (.s 0), false⟩,
    ⟨none, (some 15), .mv 15 (.s 1), false⟩,
    ⟨none, (some 16), .binc 16 .add (.s 14) (.s 15), false⟩,
    ⟨none, (some 17), .call (some 17) 105 false [(.s 16)], false⟩,
    ⟨none, (some 18), .bin 18 .add (.s 13) (.s 17), false⟩,
    ⟨none, (some 4), .mv 4 (.s 18), true⟩]))
  .ret)))
theorem cc104 : (Tryz.f104.body).bind (cc Tryz.prog Tryz.f104.ntmps A104) = some S104 := by kernel_rfl
def R104 : List RR := [.sl 4]
theorem cr104 : Tryz.f104.results.toList.map (crr Tryz.prog) = R104.map some := by kernel_rfl
theorem nm104 : (Tryz.f104.name == "runtime.NumGoroutine") = false := by kernel_rfl
theorem fn104 : Tryz.prog.funcs[104]? = some Tryz.f104 := by kernel_rfl
theorem bd104 : ∃ b, Tryz.f104.body = some b ∧ cc Tryz.prog Tryz.f104.ntmps A104 b = some S104 := Option.bind_eq_some_iff.1 cc104
theorem sd104 {G : World → Prop} {T : FuncId → Contract} {C : Contract} (hT : ∀ f, Sound G Tryz.prog f (T f)) (hl : C.lawful) (hC : ∀ args st K, C.wp args st K → args.length ≤ 19 ∧ ∃ os op, xv T st.n S104 (st0 args st) (retK R104 st.n os K) (panK st.n op K)) (hit : SoundIt G Tryz.prog 104 C.it := by exact SoundIt.none) : Sound G Tryz.prog 104 C := by
  obtain ⟨b, hb, hc⟩ := bd104
  rw [xv_eq] at hC
  exact sound_of_ev mo fn104 hb nm104 hc cr104 hT hl hit hC
def A103 : Ann := ⟨fun _ _ => 0, fun _ => none, fun _ => none, fun _ => []⟩
def S103 : SCode :=
  (.seq (.ops [⟨none, (some 1), .bx 1 95 1 (.s 0), false⟩,
    ⟨none, (some 2), .mv 2 (.k Value.nilFunc), false⟩])
  (.seq (.ops [⟨none, (some 3), .mf 3 154 [(.s 1)], false⟩,
    ⟨none, (some 2), .mv 2 (.s 3), false⟩])
  .ret))
theorem cc103 : (Tryz.f103.body).bind (cc Tryz.prog Tryz.f103.ntmps A103) = some S103 := by kernel_rfl
def R103 : List RR := [.sl 2]
theorem cr103 : Tryz.f103.results.toList.map (crr Tryz.prog) = R103.map some := by kernel_rfl
theorem nm103 : (Tryz.f103.name == "runtime.NumGoroutine") = false := by kernel_rfl
theorem fn103 : Tryz.prog.funcs[103]? = some Tryz.f103 := by kernel_rfl
theorem bd103 : ∃ b, Tryz.f103.body = some b ∧ cc Tryz.prog Tryz.f103.ntmps A103 b = some S103 := Option.bind_eq_some_iff.1 cc103
theorem sd103 {G : World → Prop} {T : FuncId → Contract} {C : Contract} (hT : ∀ f, Sound G Tryz.prog f (T f)) (hl : C.lawful) (hC : ∀ args st K, C.wp args st K → args.length ≤ 4 ∧ ∃ os op, xv T st.n S103 (st0 args st) (retK R103 st.n os K) (panK st.n op K)) (hit : SoundIt G Tryz.prog 103 C.it := by exact SoundIt.none) : Sound G Tryz.prog 103 C := by
  obtain ⟨b, hb, hc⟩ := bd103
  rw [xv_eq] at hC
  exact sound_of_ev mo fn103 hb nm103 hc cr103 hT hl hit hC
def A154 : Ann := ⟨fun _ _ => 0, fun _ => none, fun r => if r = 2 then some (false, [0, 1, 3]) else if r = 3 then some (false, [0, 1, 3]) else none, fun r => if r = 1 then [0, 1, 3] else []⟩
def S154 : SCode :=
  (.seq (.ops [⟨none, (some 4), .ld 4 false 1 (.s 1), false⟩,
    ⟨none, (some 5), .len 5 (.s 4), false⟩,
    ⟨none, (some 6), .binc 6 .sub (.s 5) (.k (Value.int .i64 1)), false⟩,
    ⟨none, (some 3), .mv 3 (.s 6), false⟩])
  (.block 0 (.loop [0, 1, 3] (.seq (.seq (.ops [⟨none, (some 7), .mv 7 (.s 3), false⟩,
    ⟨none, (some 8), .bin 8 .geq (.s 7) (.k (Value.int .i64 0)), false⟩])
  (.cond (.s 8) .skip (.exit 0)))
  (.seq (.block 1 (.seq (.seq (.keep [0, 1, 3]) (.ops [⟨none, (some 11), .mv 11 (.s 0), false⟩,
    ⟨none, (some 12), .mv 12 (.s 3), false⟩,
    ⟨none, (some 13), .ld 13 false 1 (.s 1), false⟩,
    ⟨none, (some 14), .mv 14 (.s 3), false⟩,
    ⟨none, (some 15), .ia 15 4 (.s 13) (.s 14), false⟩,
    ⟨none, (some 16), .ld 16 true 4 (.s 15), false⟩,
    ⟨none, (some 17), .callv (some 17) false (.s 11) [(.s 12), (.s 16)], false⟩,
    ⟨none, (some 18), .not 18 (.s 17), false⟩]))
  (.cond (.s 18) .ret .skip)))
  (.seq (.keep [0, 1, 3]) (.ops [⟨none, (some 9), .mv 9 (.s 3), false⟩,
    ⟨none, (some 10), .binc 10 .sub (.s 9) (.k (Value.int .i64 1)), false⟩,
    ⟨none, (some 3), .mv 3 (.s 10), false⟩])))))))
theorem cc154 : (Tryz.f154.body).bind (cc Tryz.prog Tryz.f154.ntmps A154) = some S154 := by kernel_rfl
theorem nm154 : (Tryz.f154.name == "runtime.NumGoroutine") = false := by kernel_rfl
theorem fn154 : Tryz.prog.funcs[154]? = some Tryz.f154 := by kernel_rfl
theorem bd154 : ∃ b, Tryz.f154.body = some b ∧ cc Tryz.prog Tryz.f154.ntmps A154 b = some S154 := Option.bind_eq_some_iff.1 cc154
end Go.Proofs.YtlghobefhmpfkaaGreatDoor
set_option linter.unusedVariables false
set_option linter.unusedSimpArgs false
namespace Go.Proofs.YtlghobefhmpfkaaGreatDoor
open Go Go.Ev
set_option maxRecDepth 100000
variable {G : World → Prop}
abbrev dotT : List UInt8 := [46, 46, 10, 46, 10, 115, 47, 46, 47, 47, 10]
def edOne (e : Bool) (s : List UInt8) : List UInt8 := (if e = true then [97, 10] else []) ++ (if (bareS s).1 = [46] then dotT else (bareS s).1 ++ [10])
def edF (acc : List UInt8 × Bool) (s : List UInt8) : List UInt8 × Bool := (acc.1 ++ edOne acc.2 s, decide ((bareS s).1 = [46]))
def edSt (l : List (List UInt8)) : List UInt8 × Bool := l.foldl edF ([], false)
def edPut (l : List (List UInt8)) : List UInt8 := (edSt l).1 ++ (if (edSt l).2 = true then [] else [46, 10])
theorem edS_snoc {l : List (List UInt8)} {i : Nat} (h : i < l.length) : edSt (l.take (i + 1)) = edF (edSt (l.take i)) (l.getD i []) := by
  rw [edSt, List.take_succ_eq_append_getElem h, List.foldl_append]
  simp [edSt, List.getD_eq_getElem?_getD, List.getElem?_eq_getElem h]
theorem edFold_le : ∀ (r : List (List UInt8)) (a : List UInt8 × Bool), a.1.length ≤ (r.foldl edF a).1.length
  | [], a => Nat.le_refl _
  | s :: r, a => by
    refine Nat.le_trans ?_ (edFold_le r _)
    simp [edF]
theorem edS_le (l : List (List UInt8)) (i : Nat) : (edSt (l.take i)).1.length ≤ (edSt l).1.length := by
  conv => rhs; rw [← List.take_append_drop i l, edSt, List.foldl_append]
  exact edFold_le _ _
theorem edPut_le (l : List (List UInt8)) : (edSt l).1.length ≤ (edPut l).length := by unfold edPut; simp
def gPut : List SV → Nat → Nat → List UInt8 → Option (Prop × SV × List UInt8)
  | [.d (.sl rows)], t, u, bs => (unStr rows).bind fun l => if bldT t = true ∧ u = 5 then
      some ((bs.length + (edPut l).length ≤ 140737488355328) ∧ l.length ≤ 1099511627776 ∧ ∀ x ∈ l, x.length ≤ 1099511627776, .tup [], bs ++ edPut l) else none
  | _, _, _, _ => none
set_option maxHeartbeats 1000000 in
theorem s106 : Sound G Tryz.prog 106 (bldC gPut) := by
  refine sd106 (T := tabT [(18, CBare), (67, bldC gWS)]) (tab_cons s18 (tab_cons sWS tab_nil)) (bldC_lawful _) (bld_hX fun zs t u bs p x bs' K hg hp hk => ?_)
  unfold gPut at hg
  split at hg
  · obtain ⟨l, hl, hg2⟩ := Option.bind_eq_some_iff.1 hg
    obtain ⟨⟨ht, rfl⟩, hg3⟩ := Option.ite_none_right_eq_some.1 hg2
    simp only [Option.some.injEq, Prod.mk.injEq] at hg3
    obtain ⟨rfl, rfl, rfl⟩ := hg3
    rw [unStr_eq hl] at *
    refine ⟨Nat.le_of_ble_eq_true rfl, ?_⟩
    obtain ⟨hp1, hl1, hlx⟩ := hp
    have h3 := edPut_le l
    simp -dsimp -implicitDefEqProofs only [S106, R106, strRows_len, ↓Ev.xStp_eq, ↓Ev.P, Ev.Q, Bool.cond_true, Bool.cond_false, eq_self, forall_eq_or_imp, implies_true, forall_const, forall_eq, ↓reduceIte, reduceIte, Nat.reduceEqDiff, Nat.reduceAdd, reduceCtorEq, Nat.reduceSub, Int.reduceToNat, Int.reduceLE, Int.reduceLT, Int.reduceNeg, Nat.reduceBEq, Nat.reduceMul, Nat.reduceLeDiff, Nat.reduceMod, UInt8.reduceOfNat, Nat.reduceLT, Int.reduceEq, Int.reduceAdd, Int.reduceSub, Int.reduceMul]
    refine xLoop_intro (fun k st => ∃ (i : Nat), i ≤ l.length ∧ k = l.length - i ∧
      st = ⟨[(0, .ptr 0 0), (4, .d (.v (.bool (edSt (l.take i)).2))), (9, .d (.sl (strRows l))), (10, .d (.v (.int .i64 l.length))), (11, .d (.v (.int .i64 i)))], 1, [(0, .bld t 5 (bs ++ (edSt (l.take i)).1))]⟩) l.length [0] ?_ ?_ ?_
    · simp -dsimp -implicitDefEqProofs only [↓Ev.xStp_eq, ↓Ev.P, Ev.Q, Bool.cond_true, Bool.cond_false, eq_self, forall_eq_or_imp, implies_true, forall_const, forall_eq, ↓reduceIte, reduceIte, Nat.reduceEqDiff, Nat.reduceAdd, reduceCtorEq, Nat.reduceSub, Int.reduceToNat, Int.reduceLE, Int.reduceLT, Int.reduceNeg, Nat.reduceBEq, Nat.reduceMul, Nat.reduceLeDiff, Nat.reduceMod, UInt8.reduceOfNat, Nat.reduceLT, Int.reduceEq, Int.reduceAdd, Int.reduceSub, Int.reduceMul]
    · simp -dsimp -implicitDefEqProofs only [↓Ev.xStp_eq, ↓Ev.P, Ev.Q, Bool.cond_true, Bool.cond_false, eq_self, forall_eq_or_imp, implies_true, forall_const, forall_eq, ↓reduceIte, reduceIte, Nat.reduceEqDiff, Nat.reduceAdd, reduceCtorEq, Nat.reduceSub, Int.reduceToNat, Int.reduceLE, Int.reduceLT, Int.reduceNeg, Nat.reduceBEq, Nat.reduceMul, Nat.reduceLeDiff, Nat.reduceMod, UInt8.reduceOfNat, Nat.reduceLT, Int.reduceEq, Int.reduceAdd, Int.reduceSub, Int.reduceMul]
      exact ⟨0, by omega, by omega, by simp [edSt]⟩
    · rintro k st ⟨i, hi, hk2, rfl⟩
      by_cases hil : i < l.length
      · have hi3 : (i : Int) < l.length := by omega
        have hx := hlx (l.getD i []) (by simp [List.getD_eq_getElem?_getD, List.getElem?_eq_getElem hil])
        have hg := strRows_get hil
        have hsn := edS_snoc hil
        have hle := edS_le l (i + 1)
        rw [hsn] at hle
        have hb := bare_split (l.getD i [])
        generalize l.getD i [] = x at hg hsn hle hx hb
        generalize edSt (l.take i) = acc at hsn hle ⊢
        obtain ⟨tt, e⟩ := acc
        simp only [edF, edOne, List.length_append] at hle
        rcases hbx : bareS x with ⟨y, f⟩
        rw [hbx] at hle hb
        simp only at hle hb
        by_cases hy : y = [46]
        · cases e <;>
          · simp only [hy, if_true, List.length_cons, List.length_nil, Bool.false_eq_true, if_false] at hle
            simp -dsimp -implicitDefEqProofs only [hg, hi3, hbx, hy, ht, gWS, CBare, List.length_append, ↓Ev.xStp_eq, ↓Ev.P, Ev.Q, Bool.cond_true, Bool.cond_false, eq_self, forall_eq_or_imp, implies_true, forall_const, forall_eq, ↓reduceIte, reduceIte, Nat.reduceEqDiff, Nat.reduceAdd, reduceCtorEq, Nat.reduceSub, Int.reduceToNat, Int.reduceLE, Int.reduceLT, Int.reduceNeg, Nat.reduceBEq, Nat.reduceMul, Nat.reduceLeDiff, Nat.reduceMod, UInt8.reduceOfNat, Nat.reduceLT, Int.reduceEq, Int.reduceAdd, Int.reduceSub, Int.reduceMul]
            repeat' (first | with_reducible assumption | refine And.intro ?_ ?_ | intro _)
            all_goals try omega
            refine xAgain_intro (l.length - (i + 1)) [0] (by omega) (by simp -dsimp -implicitDefEqProofs only [↓Ev.xStp_eq, ↓Ev.P, Ev.Q, Bool.cond_true, Bool.cond_false, eq_self, forall_eq_or_imp, implies_true, forall_const, forall_eq, ↓reduceIte, reduceIte, Nat.reduceEqDiff, Nat.reduceAdd, reduceCtorEq, Nat.reduceSub, Int.reduceToNat, Int.reduceLE, Int.reduceLT, Int.reduceNeg, Nat.reduceBEq, Nat.reduceMul, Nat.reduceLeDiff, Nat.reduceMod, UInt8.reduceOfNat, Nat.reduceLT, Int.reduceEq, Int.reduceAdd, Int.reduceSub, Int.reduceMul]) ⟨i + 1, by omega, rfl, ?_⟩
            rw [hsn]
            simp -dsimp -implicitDefEqProofs only [↓Ev.xStp_eq, ↓Ev.P, Ev.Q, Bool.cond_true, Bool.cond_false, eq_self, forall_eq_or_imp, implies_true, forall_const, forall_eq, ↓reduceIte, reduceIte, Nat.reduceEqDiff, Nat.reduceAdd, reduceCtorEq, Nat.reduceSub, Int.reduceToNat, Int.reduceLE, Int.reduceLT, Int.reduceNeg, Nat.reduceBEq, Nat.reduceMul, Nat.reduceLeDiff, Nat.reduceMod, UInt8.reduceOfNat, Nat.reduceLT, Int.reduceEq, Int.reduceAdd, Int.reduceSub, Int.reduceMul]
            simp [edF, edOne, hbx, hy]
        · cases e <;>
          · simp only [hy, if_true, List.length_cons, List.length_nil, Bool.false_eq_true, if_false, List.length_append] at hle
            simp -dsimp -implicitDefEqProofs only [hg, hi3, hbx, hy, ht, gWS, CBare, List.length_append, ↓Ev.xStp_eq, ↓Ev.P, Ev.Q, Bool.cond_true, Bool.cond_false, eq_self, forall_eq_or_imp, implies_true, forall_const, forall_eq, ↓reduceIte, reduceIte, Nat.reduceEqDiff, Nat.reduceAdd, reduceCtorEq, Nat.reduceSub, Int.reduceToNat, Int.reduceLE, Int.reduceLT, Int.reduceNeg, Nat.reduceBEq, Nat.reduceMul, Nat.reduceLeDiff, Nat.reduceMod, UInt8.reduceOfNat, Nat.reduceLT, Int.reduceEq, Int.reduceAdd, Int.reduceSub, Int.reduceMul]
            repeat' (first | with_reducible assumption | refine And.intro ?_ ?_ | intro _)
            all_goals try omega
            refine xAgain_intro (l.length - (i + 1)) [0] (by omega) (by simp -dsimp -implicitDefEqProofs only [↓Ev.xStp_eq, ↓Ev.P, Ev.Q, Bool.cond_true, Bool.cond_false, eq_self, forall_eq_or_imp, implies_true, forall_const, forall_eq, ↓reduceIte, reduceIte, Nat.reduceEqDiff, Nat.reduceAdd, reduceCtorEq, Nat.reduceSub, Int.reduceToNat, Int.reduceLE, Int.reduceLT, Int.reduceNeg, Nat.reduceBEq, Nat.reduceMul, Nat.reduceLeDiff, Nat.reduceMod, UInt8.reduceOfNat, Nat.reduceLT, Int.reduceEq, Int.reduceAdd, Int.reduceSub, Int.reduceMul]) ⟨i + 1, by omega, rfl, ?_⟩
            rw [hsn]
            simp -dsimp -implicitDefEqProofs only [↓Ev.xStp_eq, ↓Ev.P, Ev.Q, Bool.cond_true, Bool.cond_false, eq_self, forall_eq_or_imp, implies_true, forall_const, forall_eq, ↓reduceIte, reduceIte, Nat.reduceEqDiff, Nat.reduceAdd, reduceCtorEq, Nat.reduceSub, Int.reduceToNat, Int.reduceLE, Int.reduceLT, Int.reduceNeg, Nat.reduceBEq, Nat.reduceMul, Nat.reduceLeDiff, Nat.reduceMod, UInt8.reduceOfNat, Nat.reduceLT, Int.reduceEq, Int.reduceAdd, Int.reduceSub, Int.reduceMul]
            simp [edF, edOne, hbx, hy]
      · have hi3 : ¬ (i : Int) < l.length := by omega
        rw [List.take_of_length_le (by omega)]
        unfold edPut at hk hp1
        cases he : (edSt l).2 <;> rw [he] at hk hp1 <;> simp only [Bool.false_eq_true, if_false, if_true, List.length_append, List.length_cons, List.length_nil] at hk hp1
        · simp -dsimp -implicitDefEqProofs only [hi3, he, ht, gWS, List.length_append, ↓Ev.xStp_eq, ↓Ev.P, Ev.Q, Bool.cond_true, Bool.cond_false, eq_self, forall_eq_or_imp, implies_true, forall_const, forall_eq, ↓reduceIte, reduceIte, Nat.reduceEqDiff, Nat.reduceAdd, reduceCtorEq, Nat.reduceSub, Int.reduceToNat, Int.reduceLE, Int.reduceLT, Int.reduceNeg, Nat.reduceBEq, Nat.reduceMul, Nat.reduceLeDiff, Nat.reduceMod, UInt8.reduceOfNat, Nat.reduceLT, Int.reduceEq, Int.reduceAdd, Int.reduceSub, Int.reduceMul]
          exact ⟨by omega, by simpa using hk⟩
        · simp -dsimp -implicitDefEqProofs only [hi3, he, ht, gWS, List.length_append, ↓Ev.xStp_eq, ↓Ev.P, Ev.Q, Bool.cond_true, Bool.cond_false, eq_self, forall_eq_or_imp, implies_true, forall_const, forall_eq, ↓reduceIte, reduceIte, Nat.reduceEqDiff, Nat.reduceAdd, reduceCtorEq, Nat.reduceSub, Int.reduceToNat, Int.reduceLE, Int.reduceLT, Int.reduceNeg, Nat.reduceBEq, Nat.reduceMul, Nat.reduceLeDiff, Nat.reduceMod, UInt8.reduceOfNat, Nat.reduceLT, Int.reduceEq, Int.reduceAdd, Int.reduceSub, Int.reduceMul]
          simpa using hk
  · cases hg
theorem s104 (hG : ∀ w, G w → Pow10 w) : Sound G Tryz.prog 104 CSpan := by
  refine sd104 (T := tabT [(105, CItoa)]) (tab_cons (s105 hG) tab_nil) (pureC_lawful _) (pure_hX fun args p x K h hp hk => ?_)
  split at h <;> simp only [Option.some.injEq, Prod.mk.injEq, reduceCtorEq] at h
  obtain ⟨rfl, rfl⟩ := h
  refine ⟨Nat.le_of_ble_eq_true rfl, ?_⟩
  rename_i a n
  have h1 := itoa_len (n := a + 1) (by omega)
  have h2 := itoa_len (n := a + n) (by omega)
  simp -dsimp -implicitDefEqProofs only [S104, R104, CItoa, List.length_append, ↓Ev.xStp_eq, ↓Ev.P, Ev.Q, Bool.cond_true, Bool.cond_false, eq_self, forall_eq_or_imp, implies_true, forall_const, forall_eq, ↓reduceIte, reduceIte, Nat.reduceEqDiff, Nat.reduceAdd, reduceCtorEq, Nat.reduceSub, Int.reduceToNat, Int.reduceLE, Int.reduceLT, Int.reduceNeg, Nat.reduceBEq, Nat.reduceMul, Nat.reduceLeDiff, Nat.reduceMod, UInt8.reduceOfNat, Nat.reduceLT, Int.reduceEq, Int.reduceAdd, Int.reduceSub, Int.reduceMul]
  by_cases hn : n = 1
  · rw [spanT, if_pos hn] at hk
    repeat' (first | with_reducible assumption | refine And.intro ?_ ?_ | intro _)
    all_goals first | omega | exact hk
  · rw [spanT, if_neg hn] at hk
    repeat' (first | with_reducible assumption | refine And.intro ?_ ?_ | intro _)
    all_goals first | omega | exact hk
def backXs (rows : List (List D)) : List (List SV) := (List.range rows.length).map fun (k : Nat) => [.d (.v (.int .i64 ((rows.length : Int) - 1 - k))), .agg ((rows.getD (rows.length - 1 - k) []).map .d)]
def backIt (sz : Nat) : List D → Option (Prop × List (List SV))
  | [.pt [.sl rows]] => some (rows.length ≤ 1099511627776 ∧ ∀ r ∈ rows, r.length = sz, backXs rows)
  | _ => none
theorem backXs_len (rows : List (List D)) : (backXs rows).length = rows.length := by simp [backXs]
theorem backXs_get {rows : List (List D)} {k : Nat} (h : k < rows.length) : (backXs rows)[k]? = some [.d (.v (.int .i64 ((rows.length : Int) - 1 - k))), .agg ((rows.getD (rows.length - 1 - k) []).map .d)] := by
  simp [backXs, h]
def CBackIt (sz : Nat) : Contract := ⟨fun _ _ _ => False, fun _ => none, backIt sz⟩
def CBackF (t f : Nat) : Contract := stC fun args st => match args, st with
  | [.d (.sl rows)], ⟨0, []⟩ => some (True, .fn f [.ptr 0 0], ⟨1, [(0, .cells t [.d (.sl rows)])]⟩)
  | _, _ => none
theorem s103 : Sound G Tryz.prog 103 (CBackF 95 154) := by
  refine sd103 (T := tabT []) tab_nil (stC_lawful _) (st_hX fun args st p x st' K h hp hk => ?_)
  split at h <;> simp only [Option.some.injEq, Prod.mk.injEq, reduceCtorEq] at h
  obtain ⟨rfl, rfl, rfl⟩ := h
  refine ⟨Nat.le_of_ble_eq_true rfl, [0], ?_⟩
  simp -dsimp -implicitDefEqProofs only [S103, R103, ↓Ev.xStp_eq, ↓Ev.P, Ev.Q, Bool.cond_true, Bool.cond_false, eq_self, forall_eq_or_imp, implies_true, forall_const, forall_eq, ↓reduceIte, reduceIte, Nat.reduceEqDiff, Nat.reduceAdd, reduceCtorEq, Nat.reduceSub, Int.reduceToNat, Int.reduceLE, Int.reduceLT, Int.reduceNeg, Nat.reduceBEq, Nat.reduceMul, Nat.reduceLeDiff, Nat.reduceMod, UInt8.reduceOfNat, Nat.reduceLT, Int.reduceEq, Int.reduceAdd, Int.reduceSub, Int.reduceMul]
  exact hk
theorem it154 : Sound G Tryz.prog 154 (CBackIt 4) := by
  obtain ⟨b, hb, hc⟩ := bd154
  refine ⟨fun _ _ _ _ h => (nomatch h), fun _ _ _ _ _ _ _ _ h => h.elim, soundIt_of_itv (T := tabT []) fn154 hb nm154 hc (by simp only [Tryz.f154, Option.some.injEq] at hb; subst hb; kernel_rfl) (by kernel_rfl) fun cs p xs h hp => ?_⟩
  simp only [CBackIt, backIt] at h
  split at h <;> simp only [Option.some.injEq, Prod.mk.injEq, reduceCtorEq] at h
  obtain ⟨rfl, rfl⟩ := h
  rename_i rows
  obtain ⟨h1, h2⟩ := hp
  refine ⟨Nat.le_of_ble_eq_true rfl, ?_⟩
  rw [backXs_len]
  simp -dsimp -implicitDefEqProofs only [S154, itv, itOps, itK, itKs, niO, isTk, isPV, ↓Ev.xStp_eq, ↓Ev.P, Ev.Q, Bool.cond_true, Bool.cond_false, eq_self, forall_eq_or_imp, implies_true, forall_const, forall_eq, ↓reduceIte, reduceIte, Nat.reduceEqDiff, Nat.reduceAdd, reduceCtorEq, Nat.reduceSub, Int.reduceToNat, Int.reduceLE, Int.reduceLT, Int.reduceNeg, Nat.reduceBEq, Nat.reduceMul, Nat.reduceLeDiff, Nat.reduceMod, UInt8.reduceOfNat, Nat.reduceLT, Int.reduceEq, Int.reduceAdd, Int.reduceSub, Int.reduceMul]
  refine ⟨by omega, ?_⟩
  refine itLoop_intro (fun n st md => ∃ k : Nat, k ≤ rows.length ∧ md = some k ∧ n = rows.length - k ∧ st = ⟨[(0, .any), (1, .d (.pt [.sl rows])), (3, .d (.v (.int .i64 ((rows.length : Int) - 1 - k))))], 0, []⟩) rows.length ?_ ?_
  · simp -dsimp -implicitDefEqProofs only [↓Ev.xStp_eq, ↓Ev.P, Ev.Q, Bool.cond_true, Bool.cond_false, eq_self, forall_eq_or_imp, implies_true, forall_const, forall_eq, ↓reduceIte, reduceIte, Nat.reduceEqDiff, Nat.reduceAdd, reduceCtorEq, Nat.reduceSub, Int.reduceToNat, Int.reduceLE, Int.reduceLT, Int.reduceNeg, Nat.reduceBEq, Nat.reduceMul, Nat.reduceLeDiff, Nat.reduceMod, UInt8.reduceOfNat, Nat.reduceLT, Int.reduceEq, Int.reduceAdd, Int.reduceSub, Int.reduceMul]
    exact ⟨0, by omega, rfl, by omega, by simp⟩
  · rintro n st md ⟨k, hk, rfl, hn, rfl⟩
    by_cases hkl : k < rows.length
    · have hi : (0 : Int) ≤ (rows.length : Int) - 1 - k := by omega
      have hj : ((rows.length : Int) - 1 - k).toNat = rows.length - 1 - k := by omega
      have hl : rows.length - 1 - k < rows.length := by omega
      have hx := backXs_get hkl
      have hr : rows[rows.length - 1 - k]? = some (rows.getD (rows.length - 1 - k) []) := by simp [List.getD_eq_getElem?_getD, List.getElem?_eq_getElem hl]
      have h4 : (rows.getD (rows.length - 1 - k) []).length = 4 := h2 _ (by rw [List.getD_eq_getElem?_getD, List.getElem?_eq_getElem hl]; exact List.getElem_mem hl)
      have ht : (rows.getD (rows.length - 1 - k) []).take 4 = rows.getD (rows.length - 1 - k) [] := List.take_of_length_le (by omega)
      simp -dsimp -implicitDefEqProofs only [itv, itOps, itK, itKs, niO, isTk, isPV, hi, hj, hr, h4, ht, hx, ↓Ev.xStp_eq, ↓Ev.P, Ev.Q, Bool.cond_true, Bool.cond_false, eq_self, forall_eq_or_imp, implies_true, forall_const, forall_eq, ↓reduceIte, reduceIte, Nat.reduceEqDiff, Nat.reduceAdd, reduceCtorEq, Nat.reduceSub, Int.reduceToNat, Int.reduceLE, Int.reduceLT, Int.reduceNeg, Nat.reduceBEq, Nat.reduceMul, Nat.reduceLeDiff, Nat.reduceMod, UInt8.reduceOfNat, Nat.reduceLT, Int.reduceEq, Int.reduceAdd, Int.reduceSub, Int.reduceMul]
      refine ⟨⟨by omega, itAgain_intro (rows.length - (k + 1)) (by simp) (by omega) ⟨k + 1, by omega, rfl, rfl, ?_⟩⟩, .inr rfl⟩
      simp -dsimp -implicitDefEqProofs only [↓Ev.xStp_eq, ↓Ev.P, Ev.Q, Bool.cond_true, Bool.cond_false, eq_self, forall_eq_or_imp, implies_true, forall_const, forall_eq, ↓reduceIte, reduceIte, Nat.reduceEqDiff, Nat.reduceAdd, reduceCtorEq, Nat.reduceSub, Int.reduceToNat, Int.reduceLE, Int.reduceLT, Int.reduceNeg, Nat.reduceBEq, Nat.reduceMul, Nat.reduceLeDiff, Nat.reduceMod, UInt8.reduceOfNat, Nat.reduceLT, Int.reduceEq, Int.reduceAdd, Int.reduceSub, Int.reduceMul]
      rw [show (rows.length : Int) - 1 - k - 1 = (rows.length : Int) - 1 - ((k + 1 : Nat) : Int) by omega]
    · have hi : ¬ (0 : Int) ≤ (rows.length : Int) - 1 - k := by omega
      simp -dsimp -implicitDefEqProofs only [itv, itOps, itK, itKs, niO, isTk, isPV, hi, ↓Ev.xStp_eq, ↓Ev.P, Ev.Q, Bool.cond_true, Bool.cond_false, eq_self, forall_eq_or_imp, implies_true, forall_const, forall_eq, ↓reduceIte, reduceIte, Nat.reduceEqDiff, Nat.reduceAdd, reduceCtorEq, Nat.reduceSub, Int.reduceToNat, Int.reduceLE, Int.reduceLT, Int.reduceNeg, Nat.reduceBEq, Nat.reduceMul, Nat.reduceLeDiff, Nat.reduceMod, UInt8.reduceOfNat, Nat.reduceLT, Int.reduceEq, Int.reduceAdd, Int.reduceSub, Int.reduceMul]
      exact .inl (by rw [show k = rows.length by omega])
def edCt (b : List (List UInt8)) (c : Q4) : List UInt8 :=
  if c.2.2.2 = 0 then spanT c.1 c.2.1 ++ [100, 10] else if c.2.1 = 0 then Lib.itoa c.1 ++ [97, 10] ++ edPut (part b c.2.2.1.toNat c.2.2.2.toNat) else spanT c.1 c.2.1 ++ [99, 10] ++ edPut (part b c.2.2.1.toNat c.2.2.2.toNat)
def edT (b : List (List UInt8)) (l : List Q4) : List UInt8 := l.reverse.flatMap (edCt b)
def edTk (b : List (List UInt8)) (l : List Q4) (k : Nat) : List UInt8 := (l.reverse.take k).flatMap (edCt b)
def edEnd (b : List (List UInt8)) : List UInt8 := if 0 < b.length ∧ (bareS (b.getD (b.length - 1) [])).2 = false then markT else []
theorem edTk_snoc {b : List (List UInt8)} {l : List Q4} {k : Nat} (h : k < l.length) : edTk b l (k + 1) = edTk b l k ++ edCt b (l.getD (l.length - 1 - k) (0, 0, 0, 0)) := by
  have hk : k < l.reverse.length := by simpa using h
  rw [edTk, List.take_succ_eq_append_getElem hk, List.flatMap_append]
  have hl : l.length - 1 - k < l.length := by omega
  simp [edTk, List.getElem_reverse, List.getD_eq_getElem?_getD, List.getElem?_eq_getElem hl]
theorem edTk_le (b : List (List UInt8)) (l : List Q4) (k : Nat) : (edTk b l k).length ≤ (edT b l).length := by
  conv => rhs; rw [edT, ← List.take_append_drop k l.reverse, List.flatMap_append, List.length_append]
  exact Nat.le_add_right _ _
theorem edTk_all {b : List (List UInt8)} {l : List Q4} {k : Nat} (h : l.length ≤ k) : edTk b l k = edT b l := by
  rw [edTk, edT, List.take_of_length_le (by simpa using h)]
def CEd : Contract := pureC fun args => match args with
  | [.d (.sl rows), .d (.sl a), .d (.sl b)] => (unQ4 rows).bind fun l => (unStr a).bind fun x => (unStr b).map fun y =>
      ((l.length ≤ 1099511627776 ∧ x.length ≤ 1099511627776 ∧ y.length ≤ 1099511627776) ∧ (∀ s ∈ y, s.length ≤ 1099511627776) ∧ (chk l x.length y.length = 0 → (edT y l).length ≤ 70368744177664),
        .tup [.d (.v (str (if chk l x.length y.length = 0 then edT y l ++ edEnd y else []))), .d (.v (.int .i64 (chk l x.length y.length)))])
  | _ => none
end Go.Proofs.YtlghobefhmpfkaaGreatDoor
set_option linter.unusedVariables false
set_option linter.unusedSimpArgs false
namespace Go.Proofs.YtlghobefhmpfkaaGreatDoor
open Go Go.Ev
set_option maxRecDepth 100000
variable {G : World → Prop}
set_option maxHeartbeats 4000000 in
theorem s51 (hG : ∀ w, G w → Pow10 w) : Sound G Tryz.prog 51 CEd := by
  refine sd51 (T := tabT [(102, CCheck), (105, CItoa), (104, CSpan), (106, bldC gPut), (18, CBare), (67, bldC gWS), (70, strC 5), (103, CBackF 95 154), (154, CBackIt 4)])
    (tab_cons s102 (tab_cons (s105 hG) (tab_cons (s104 hG) (tab_cons s106 (tab_cons s18 (tab_cons sWS (tab_cons sST (tab_cons s103 (tab_cons it154 tab_nil))))))))) (pureC_lawful _) (pure_hX fun args p x K h hp hk => ?_)
  split at h <;> simp only [Option.bind_eq_some_iff, Option.map_eq_some_iff, Prod.mk.injEq, reduceCtorEq] at h
  obtain ⟨l, hl, a, ha, b, hb, rfl, rfl⟩ := h
  rw [unQ4_eq hl, unStr_eq ha, unStr_eq hb] at *
  obtain ⟨⟨h1, h2, h3⟩, h4, h6⟩ := hp
  refine ⟨Nat.le_of_ble_eq_true rfl, ?_⟩
  rcases chk_zero l a.length b.length with hz | hz
  · have hall := chk_all hz
    have hlen := h6 hz
    rw [if_pos hz, hz] at hk
    simp -dsimp -implicitDefEqProofs only [S51, R51, CCheck, CBackF, unQ4_rows, strRows_len, q4Rows_len, hz, ↓Ev.xStp_eq, ↓Ev.P, Ev.Q, Bool.cond_true, Bool.cond_false, eq_self, forall_eq_or_imp, implies_true, forall_const, forall_eq, ↓reduceIte, reduceIte, Nat.reduceEqDiff, Nat.reduceAdd, reduceCtorEq, Nat.reduceSub, Int.reduceToNat, Int.reduceLE, Int.reduceLT, Int.reduceNeg, Nat.reduceBEq, Nat.reduceMul, Nat.reduceLeDiff, Nat.reduceMod, UInt8.reduceOfNat, Nat.reduceLT, Int.reduceEq, Int.reduceAdd, Int.reduceSub, Int.reduceMul]
    refine ⟨by omega, ?_⟩
    refine xEach_intro (fun i s => i ≤ l.length ∧ s = ⟨2, [(0, .cells 22 [.d (.sl (strRows b))]), (1, .bld 117 5 (edTk b l i))]⟩) [0, 1] rfl rfl ?_ ?_ ?_ ?_ ?_
    · exact ⟨by rw [q4Rows_len]; omega, by rw [q4Rows_all]; trivial⟩
    · simp -dsimp -implicitDefEqProofs only [↓Ev.xStp_eq, ↓Ev.P, Ev.Q, Bool.cond_true, Bool.cond_false, eq_self, forall_eq_or_imp, implies_true, forall_const, forall_eq, ↓reduceIte, reduceIte, Nat.reduceEqDiff, Nat.reduceAdd, reduceCtorEq, Nat.reduceSub, Int.reduceToNat, Int.reduceLE, Int.reduceLT, Int.reduceNeg, Nat.reduceBEq, Nat.reduceMul, Nat.reduceLeDiff, Nat.reduceMod, UInt8.reduceOfNat, Nat.reduceLT, Int.reduceEq, Int.reduceAdd, Int.reduceSub, Int.reduceMul]
    · exact ⟨by omega, by simp -dsimp -implicitDefEqProofs only [↓Ev.xStp_eq, ↓Ev.P, Ev.Q, Bool.cond_true, Bool.cond_false, eq_self, forall_eq_or_imp, implies_true, forall_const, forall_eq, ↓reduceIte, reduceIte, Nat.reduceEqDiff, Nat.reduceAdd, reduceCtorEq, Nat.reduceSub, Int.reduceToNat, Int.reduceLE, Int.reduceLT, Int.reduceNeg, Nat.reduceBEq, Nat.reduceMul, Nat.reduceLeDiff, Nat.reduceMod, UInt8.reduceOfNat, Nat.reduceLT, Int.reduceEq, Int.reduceAdd, Int.reduceSub, Int.reduceMul]; rfl⟩
    · rintro i s x ⟨hi, rfl⟩ hx
      have hil : i < l.length := by
        have := (List.getElem?_eq_some_iff.1 hx).1
        rwa [backXs_len, q4Rows_len] at this
      rw [backXs_get (by rw [q4Rows_len]; exact hil), q4Rows_len] at hx
      simp only [Option.some.injEq] at hx
      subst hx
      refine ⟨rfl, ?_⟩
      have hlt : l.length - 1 - i < l.length := by omega
      have hg := q4Rows_get hlt
      have hg2 : (q4Rows l).getD (l.length - 1 - i) [] = q4Row (l.getD (l.length - 1 - i) (0, 0, 0, 0)) := by rw [List.getD_eq_getElem?_getD, hg]; rfl
      have hsn := edTk_snoc (b := b) hil
      have hle := edTk_le b l (i + 1)
      obtain ⟨⟨b1, b2, b3, b4, b5⟩, b6, b7⟩ := hall _ (q4_mem hlt)
      rw [hsn, List.length_append] at hle
      rw [hg2]
      generalize l.getD (l.length - 1 - i) (0, 0, 0, 0) = c at hsn hle b1 b2 b3 b4 b5 b6 b7 ⊢
      obtain ⟨A, AN, B, BN⟩ := c
      simp only at b1 b2 b3 b4 b5 b6 b7
      unfold edCt at hle hsn
      simp only at hle hsn
      obtain ⟨B, rfl⟩ := Int.eq_ofNat_of_zero_le b3.1
      obtain ⟨BN, rfl⟩ := Int.eq_ofNat_of_zero_le b4.1
      have pB := part_len b B BN
      have mB : ∀ x ∈ part b B BN, x.length ≤ 1099511627776 := fun x hx => h4 x (mem_part hx)
      have g1 := itoa_len (n := A) (by omega)
      have g2 := span_len (a := A) (n := AN) (by omega)
      simp only [Int.toNat_natCast] at hle hsn
      by_cases hzB : (BN : Int) = 0
      · rw [if_pos hzB] at hle hsn
        simp only [List.length_append, List.length_cons, List.length_nil] at hle
        simp -dsimp -implicitDefEqProofs only [CItoa, CSpan, gPut, gWS, bldT, unStr_rows, q4Row, part_rows, strRows_len, strRows_all, List.length_append, Ev.St.giveC, hzB, ↓Ev.P, Ev.Q, Bool.cond_true, Bool.cond_false, eq_self, forall_eq_or_imp, implies_true, forall_const, forall_eq, ↓reduceIte, reduceIte, Nat.reduceEqDiff, Nat.reduceAdd, reduceCtorEq, Nat.reduceSub, Int.reduceToNat, Int.reduceLE, Int.reduceLT, Int.reduceNeg, Nat.reduceBEq, Nat.reduceMul, Nat.reduceLeDiff, Nat.reduceMod, UInt8.reduceOfNat, Nat.reduceLT, Int.reduceEq, Int.reduceAdd, Int.reduceSub, Int.reduceMul]
        repeat' (first | with_reducible assumption | refine And.intro ?_ ?_ | intro _ | (rw [Ev.xStp_eq]; simp -dsimp -implicitDefEqProofs only [CItoa, CSpan, gPut, gWS, bldT, unStr_rows, q4Row, part_rows, strRows_len, strRows_all, List.length_append, Ev.St.giveC, hzB, ↓Ev.P, Ev.Q, Bool.cond_true, Bool.cond_false, eq_self, forall_eq_or_imp, implies_true, forall_const, forall_eq, ↓reduceIte, reduceIte, Nat.reduceEqDiff, Nat.reduceAdd, reduceCtorEq, Nat.reduceSub, Int.reduceToNat, Int.reduceLE, Int.reduceLT, Int.reduceNeg, Nat.reduceBEq, Nat.reduceMul, Nat.reduceLeDiff, Nat.reduceMod, UInt8.reduceOfNat, Nat.reduceLT, Int.reduceEq, Int.reduceAdd, Int.reduceSub, Int.reduceMul]))
        all_goals try omega
        refine xOnce_intro [0, 1] (by simp -dsimp -implicitDefEqProofs only [↓Ev.xStp_eq, ↓Ev.P, Ev.Q, Bool.cond_true, Bool.cond_false, eq_self, forall_eq_or_imp, implies_true, forall_const, forall_eq, ↓reduceIte, reduceIte, Nat.reduceEqDiff, Nat.reduceAdd, reduceCtorEq, Nat.reduceSub, Int.reduceToNat, Int.reduceLE, Int.reduceLT, Int.reduceNeg, Nat.reduceBEq, Nat.reduceMul, Nat.reduceLeDiff, Nat.reduceMod, UInt8.reduceOfNat, Nat.reduceLT, Int.reduceEq, Int.reduceAdd, Int.reduceSub, Int.reduceMul]) ⟨by omega, ?_⟩
        rw [hsn]
        simp -dsimp -implicitDefEqProofs only [List.append_assoc, ↓Ev.xStp_eq, ↓Ev.P, Ev.Q, Bool.cond_true, Bool.cond_false, eq_self, forall_eq_or_imp, implies_true, forall_const, forall_eq, ↓reduceIte, reduceIte, Nat.reduceEqDiff, Nat.reduceAdd, reduceCtorEq, Nat.reduceSub, Int.reduceToNat, Int.reduceLE, Int.reduceLT, Int.reduceNeg, Nat.reduceBEq, Nat.reduceMul, Nat.reduceLeDiff, Nat.reduceMod, UInt8.reduceOfNat, Nat.reduceLT, Int.reduceEq, Int.reduceAdd, Int.reduceSub, Int.reduceMul]
      · rw [if_neg hzB] at hle hsn
        by_cases hzA : AN = 0
        · rw [if_pos hzA] at hle hsn
          simp only [List.length_append, List.length_cons, List.length_nil] at hle
          simp -dsimp -implicitDefEqProofs only [CItoa, CSpan, gPut, gWS, bldT, unStr_rows, q4Row, part_rows, strRows_len, strRows_all, List.length_append, Ev.St.giveC, hzB, hzA, ↓Ev.P, Ev.Q, Bool.cond_true, Bool.cond_false, eq_self, forall_eq_or_imp, implies_true, forall_const, forall_eq, ↓reduceIte, reduceIte, Nat.reduceEqDiff, Nat.reduceAdd, reduceCtorEq, Nat.reduceSub, Int.reduceToNat, Int.reduceLE, Int.reduceLT, Int.reduceNeg, Nat.reduceBEq, Nat.reduceMul, Nat.reduceLeDiff, Nat.reduceMod, UInt8.reduceOfNat, Nat.reduceLT, Int.reduceEq, Int.reduceAdd, Int.reduceSub, Int.reduceMul]
          repeat' (first | with_reducible assumption | refine And.intro ?_ ?_ | intro _ | (rw [Ev.xStp_eq]; simp -dsimp -implicitDefEqProofs only [CItoa, CSpan, gPut, gWS, bldT, unStr_rows, q4Row, part_rows, strRows_len, strRows_all, List.length_append, Ev.St.giveC, hzB, hzA, ↓Ev.P, Ev.Q, Bool.cond_true, Bool.cond_false, eq_self, forall_eq_or_imp, implies_true, forall_const, forall_eq, ↓reduceIte, reduceIte, Nat.reduceEqDiff, Nat.reduceAdd, reduceCtorEq, Nat.reduceSub, Int.reduceToNat, Int.reduceLE, Int.reduceLT, Int.reduceNeg, Nat.reduceBEq, Nat.reduceMul, Nat.reduceLeDiff, Nat.reduceMod, UInt8.reduceOfNat, Nat.reduceLT, Int.reduceEq, Int.reduceAdd, Int.reduceSub, Int.reduceMul]))
          all_goals try omega
          refine xOnce_intro [0, 1] (by simp -dsimp -implicitDefEqProofs only [↓Ev.xStp_eq, ↓Ev.P, Ev.Q, Bool.cond_true, Bool.cond_false, eq_self, forall_eq_or_imp, implies_true, forall_const, forall_eq, ↓reduceIte, reduceIte, Nat.reduceEqDiff, Nat.reduceAdd, reduceCtorEq, Nat.reduceSub, Int.reduceToNat, Int.reduceLE, Int.reduceLT, Int.reduceNeg, Nat.reduceBEq, Nat.reduceMul, Nat.reduceLeDiff, Nat.reduceMod, UInt8.reduceOfNat, Nat.reduceLT, Int.reduceEq, Int.reduceAdd, Int.reduceSub, Int.reduceMul]) ⟨by omega, ?_⟩
          rw [hsn]
          simp -dsimp -implicitDefEqProofs only [List.append_assoc, ↓Ev.xStp_eq, ↓Ev.P, Ev.Q, Bool.cond_true, Bool.cond_false, eq_self, forall_eq_or_imp, implies_true, forall_const, forall_eq, ↓reduceIte, reduceIte, Nat.reduceEqDiff, Nat.reduceAdd, reduceCtorEq, Nat.reduceSub, Int.reduceToNat, Int.reduceLE, Int.reduceLT, Int.reduceNeg, Nat.reduceBEq, Nat.reduceMul, Nat.reduceLeDiff, Nat.reduceMod, UInt8.reduceOfNat, Nat.reduceLT, Int.reduceEq, Int.reduceAdd, Int.reduceSub, Int.reduceMul]
        · rw [if_neg hzA] at hle hsn
          simp only [List.length_append, List.length_cons, List.length_nil] at hle
          simp -dsimp -implicitDefEqProofs only [CItoa, CSpan, gPut, gWS, bldT, unStr_rows, q4Row, part_rows, strRows_len, strRows_all, List.length_append, Ev.St.giveC, hzB, hzA, ↓Ev.P, Ev.Q, Bool.cond_true, Bool.cond_false, eq_self, forall_eq_or_imp, implies_true, forall_const, forall_eq, ↓reduceIte, reduceIte, Nat.reduceEqDiff, Nat.reduceAdd, reduceCtorEq, Nat.reduceSub, Int.reduceToNat, Int.reduceLE, Int.reduceLT, Int.reduceNeg, Nat.reduceBEq, Nat.reduceMul, Nat.reduceLeDiff, Nat.reduceMod, UInt8.reduceOfNat, Nat.reduceLT, Int.reduceEq, Int.reduceAdd, Int.reduceSub, Int.reduceMul]
          repeat' (first | with_reducible assumption | refine And.intro ?_ ?_ | intro _ | (rw [Ev.xStp_eq]; simp -dsimp -implicitDefEqProofs only [CItoa, CSpan, gPut, gWS, bldT, unStr_rows, q4Row, part_rows, strRows_len, strRows_all, List.length_append, Ev.St.giveC, hzB, hzA, ↓Ev.P, Ev.Q, Bool.cond_true, Bool.cond_false, eq_self, forall_eq_or_imp, implies_true, forall_const, forall_eq, ↓reduceIte, reduceIte, Nat.reduceEqDiff, Nat.reduceAdd, reduceCtorEq, Nat.reduceSub, Int.reduceToNat, Int.reduceLE, Int.reduceLT, Int.reduceNeg, Nat.reduceBEq, Nat.reduceMul, Nat.reduceLeDiff, Nat.reduceMod, UInt8.reduceOfNat, Nat.reduceLT, Int.reduceEq, Int.reduceAdd, Int.reduceSub, Int.reduceMul]))
          all_goals try omega
          refine xOnce_intro [0, 1] (by simp -dsimp -implicitDefEqProofs only [↓Ev.xStp_eq, ↓Ev.P, Ev.Q, Bool.cond_true, Bool.cond_false, eq_self, forall_eq_or_imp, implies_true, forall_const, forall_eq, ↓reduceIte, reduceIte, Nat.reduceEqDiff, Nat.reduceAdd, reduceCtorEq, Nat.reduceSub, Int.reduceToNat, Int.reduceLE, Int.reduceLT, Int.reduceNeg, Nat.reduceBEq, Nat.reduceMul, Nat.reduceLeDiff, Nat.reduceMod, UInt8.reduceOfNat, Nat.reduceLT, Int.reduceEq, Int.reduceAdd, Int.reduceSub, Int.reduceMul]) ⟨by omega, ?_⟩
          rw [hsn]
          simp -dsimp -implicitDefEqProofs only [List.append_assoc, ↓Ev.xStp_eq, ↓Ev.P, Ev.Q, Bool.cond_true, Bool.cond_false, eq_self, forall_eq_or_imp, implies_true, forall_const, forall_eq, ↓reduceIte, reduceIte, Nat.reduceEqDiff, Nat.reduceAdd, reduceCtorEq, Nat.reduceSub, Int.reduceToNat, Int.reduceLE, Int.reduceLT, Int.reduceNeg, Nat.reduceBEq, Nat.reduceMul, Nat.reduceLeDiff, Nat.reduceMod, UInt8.reduceOfNat, Nat.reduceLT, Int.reduceEq, Int.reduceAdd, Int.reduceSub, Int.reduceMul]
    · rintro s ⟨hi, rfl⟩
      rw [edTk_all (by rw [backXs_len, q4Rows_len]; omega)]
      by_cases hbl : 0 < b.length
      · have hbl' : (0 : Int) < b.length := by omega
        have hgb := strRows_get (l := b) (i := b.length - 1) (by omega)
        have hmx := h4 _ (mem_get (l := b) (i := b.length - 1) (by omega))
        rw [edEnd] at hk
        generalize b.getD (b.length - 1) [] = x at hgb hmx hk
        rcases hbx : bareS x with ⟨y, f⟩
        rw [hbx] at hk
        cases f with
        | true =>
          rw [if_neg (by simp), List.append_nil] at hk
          simp -dsimp -implicitDefEqProofs only [hbl', strRows_len, ↓Ev.P, Ev.Q, Bool.cond_true, Bool.cond_false, eq_self, forall_eq_or_imp, implies_true, forall_const, forall_eq, ↓reduceIte, reduceIte, Nat.reduceEqDiff, Nat.reduceAdd, reduceCtorEq, Nat.reduceSub, Int.reduceToNat, Int.reduceLE, Int.reduceLT, Int.reduceNeg, Nat.reduceBEq, Nat.reduceMul, Nat.reduceLeDiff, Nat.reduceMod, UInt8.reduceOfNat, Nat.reduceLT, Int.reduceEq, Int.reduceAdd, Int.reduceSub, Int.reduceMul]
          repeat' (first | with_reducible assumption | refine And.intro ?_ ?_ | intro _ | (rw [Ev.xStp_eq]; simp -dsimp -implicitDefEqProofs only [CBare, gWS, bldT, hgb, hbx, hbl', List.length_append, strRows_len, ↓Ev.P, Ev.Q, Bool.cond_true, Bool.cond_false, eq_self, forall_eq_or_imp, implies_true, forall_const, forall_eq, ↓reduceIte, reduceIte, Nat.reduceEqDiff, Nat.reduceAdd, reduceCtorEq, Nat.reduceSub, Int.reduceToNat, Int.reduceLE, Int.reduceLT, Int.reduceNeg, Nat.reduceBEq, Nat.reduceMul, Nat.reduceLeDiff, Nat.reduceMod, UInt8.reduceOfNat, Nat.reduceLT, Int.reduceEq, Int.reduceAdd, Int.reduceSub, Int.reduceMul]))
          all_goals first | omega | exact hk
        | false =>
          rw [if_pos ⟨hbl, rfl⟩] at hk
          simp -dsimp -implicitDefEqProofs only [hbl', strRows_len, ↓Ev.P, Ev.Q, Bool.cond_true, Bool.cond_false, eq_self, forall_eq_or_imp, implies_true, forall_const, forall_eq, ↓reduceIte, reduceIte, Nat.reduceEqDiff, Nat.reduceAdd, reduceCtorEq, Nat.reduceSub, Int.reduceToNat, Int.reduceLE, Int.reduceLT, Int.reduceNeg, Nat.reduceBEq, Nat.reduceMul, Nat.reduceLeDiff, Nat.reduceMod, UInt8.reduceOfNat, Nat.reduceLT, Int.reduceEq, Int.reduceAdd, Int.reduceSub, Int.reduceMul]
          repeat' (first | with_reducible assumption | refine And.intro ?_ ?_ | intro _ | (rw [Ev.xStp_eq]; simp -dsimp -implicitDefEqProofs only [CBare, gWS, bldT, hgb, hbx, hbl', List.length_append, strRows_len, ↓Ev.P, Ev.Q, Bool.cond_true, Bool.cond_false, eq_self, forall_eq_or_imp, implies_true, forall_const, forall_eq, ↓reduceIte, reduceIte, Nat.reduceEqDiff, Nat.reduceAdd, reduceCtorEq, Nat.reduceSub, Int.reduceToNat, Int.reduceLE, Int.reduceLT, Int.reduceNeg, Nat.reduceBEq, Nat.reduceMul, Nat.reduceLeDiff, Nat.reduceMod, UInt8.reduceOfNat, Nat.reduceLT, Int.reduceEq, Int.reduceAdd, Int.reduceSub, Int.reduceMul]))
          all_goals first | omega | exact hk
      · have hbl' : ¬ (0 : Int) < b.length := by omega
        rw [edEnd, if_neg (fun h => hbl h.1), List.append_nil] at hk
        simp -dsimp -implicitDefEqProofs only [hbl', strRows_len, ↓Ev.P, Ev.Q, Bool.cond_true, Bool.cond_false, eq_self, forall_eq_or_imp, implies_true, forall_const, forall_eq, ↓reduceIte, reduceIte, Nat.reduceEqDiff, Nat.reduceAdd, reduceCtorEq, Nat.reduceSub, Int.reduceToNat, Int.reduceLE, Int.reduceLT, Int.reduceNeg, Nat.reduceBEq, Nat.reduceMul, Nat.reduceLeDiff, Nat.reduceMod, UInt8.reduceOfNat, Nat.reduceLT, Int.reduceEq, Int.reduceAdd, Int.reduceSub, Int.reduceMul]
        repeat' (first | with_reducible assumption | refine And.intro ?_ ?_ | intro _ | (rw [Ev.xStp_eq]; simp -dsimp -implicitDefEqProofs only [hbl', List.length_append, strRows_len, ↓Ev.P, Ev.Q, Bool.cond_true, Bool.cond_false, eq_self, forall_eq_or_imp, implies_true, forall_const, forall_eq, ↓reduceIte, reduceIte, Nat.reduceEqDiff, Nat.reduceAdd, reduceCtorEq, Nat.reduceSub, Int.reduceToNat, Int.reduceLE, Int.reduceLT, Int.reduceNeg, Nat.reduceBEq, Nat.reduceMul, Nat.reduceLeDiff, Nat.reduceMod, UInt8.reduceOfNat, Nat.reduceLT, Int.reduceEq, Int.reduceAdd, Int.reduceSub, Int.reduceMul]))
        all_goals first | omega | exact hk | (exfalso; omega)
  · have hz' : ¬ (50 : Int) = 0 := by omega
    rw [if_neg (by rw [hz]; exact hz'), hz] at hk
    simp -dsimp -implicitDefEqProofs only [S51, R51, CCheck, unQ4_rows, strRows_len, q4Rows_len, hz, hz', ↓Ev.xStp_eq, ↓Ev.P, Ev.Q, Bool.cond_true, Bool.cond_false, eq_self, forall_eq_or_imp, implies_true, forall_const, forall_eq, ↓reduceIte, reduceIte, Nat.reduceEqDiff, Nat.reduceAdd, reduceCtorEq, Nat.reduceSub, Int.reduceToNat, Int.reduceLE, Int.reduceLT, Int.reduceNeg, Nat.reduceBEq, Nat.reduceMul, Nat.reduceLeDiff, Nat.reduceMod, UInt8.reduceOfNat, Nat.reduceLT, Int.reduceEq, Int.reduceAdd, Int.reduceSub, Int.reduceMul]
    exact ⟨by omega, hk⟩
end Go.Proofs.YtlghobefhmpfkaaGreatDoor
set_option linter.unusedVariables false
set_option linter.unusedSimpArgs false
namespace Go.Proofs.YtlghobefhmpfkaaGreatDoor
open Go Go.Ev Go.Rcs
set_option maxRecDepth 100000
variable {G : World → Prop}
theorem works_run : edN [50, 44, 51, 99, 10, 46, 46, 10, 46, 10, 115, 47, 46, 47, 47, 10] [[49, 10], [50, 10], [51, 10]] = .ok [[49, 10], [46, 10]] := by kernel_rfl
theorem works_chk : chk [(1, 2, 1, 1)] 3 2 = 0 := by kernel_rfl
theorem works_txt : edT [[49, 10], [46, 10]] [(1, 2, 1, 1)] ++ edEnd [[49, 10], [46, 10]] = [50, 44, 51, 99, 10, 46, 46, 10, 46, 10, 115, 47, 46, 47, 47, 10] := by kernel_rfl
theorem works_chk2 : chk [(1, 2, 1, 1)] ((3 : Nat) : Int) ((2 : Nat) : Int) = 0 := works_chk
theorem works_len : (edT [[49, 10], [46, 10]] [(1, 2, 1, 1)]).length ≤ 70368744177664 := by
  have h : (edT [[49, 10], [46, 10]] [(1, 2, 1, 1)]).length = 16 := by kernel_rfl
  omega
def CWork13 : Contract := pureC fun args => match args with
  | [] => some (True, .d (.v (.bool true)))
  | _ => none
set_option maxHeartbeats 4000000 in
theorem s17 (hP : ∀ w, G w → Pow10 w) (hE : ∀ w, G w → ErrR w) : Sound G Tryz.prog 17 CWork13 := by
  refine sd17 (T := tabT [(51, CEd), (15, CRunP), (14, CSame)]) (tab_cons (s51 hP) (tab_cons (s15 hE) (tab_cons s14 tab_nil))) (pureC_lawful _) (pure_hX fun args p x K h hp hk => ?_)
  split at h <;> simp only [Option.some.injEq, Prod.mk.injEq, reduceCtorEq] at h
  obtain ⟨rfl, rfl⟩ := h
  refine ⟨Nat.le_of_ble_eq_true rfl, ?_⟩
  have q1 : unQ4 [[.v (.int .i64 1), .v (.int .i64 2), .v (.int .i64 1), .v (.int .i64 1)]] = some [(1, 2, 1, 1)] := by rfl
  have q2 : unStr [[.v (.string ⟨#[49, 10]⟩)], [.v (.string ⟨#[50, 10]⟩)], [.v (.string ⟨#[51, 10]⟩)]] = some [[49, 10], [50, 10], [51, 10]] := by rfl
  have q3 : unStr [[.v (.string ⟨#[49, 10]⟩)], [.v (.string ⟨#[46, 10]⟩)]] = some [[49, 10], [46, 10]] := by rfl
  have q4 : (#[50, 44, 51, 99, 10, 46, 46, 10, 46, 10, 115, 47, 46, 47, 47, 10] : Array UInt8).toList = [50, 44, 51, 99, 10, 46, 46, 10, 46, 10, 115, 47, 46, 47, 47, 10] := by rfl
  have q5 : strRows [[49, 10], [46, 10]] = [[.v (.string ⟨#[49, 10]⟩)], [.v (.string ⟨#[46, 10]⟩)]] := by rfl
  simp -dsimp -implicitDefEqProofs only [S17, R17, CEd, CRunP, CSame, q1, q2, q3, q4, q5, works_chk, works_chk2, works_len, works_txt, works_run, runE2, Ev.St.giveC, ↓Ev.P, Ev.Q, Bool.cond_true, Bool.cond_false, eq_self, forall_eq_or_imp, implies_true, forall_const, forall_eq, ↓reduceIte, reduceIte, Nat.reduceEqDiff, Nat.reduceAdd, reduceCtorEq, Nat.reduceSub, Int.reduceToNat, Int.reduceLE, Int.reduceLT, Int.reduceNeg, Nat.reduceBEq, Nat.reduceMul, Nat.reduceLeDiff, Nat.reduceMod, UInt8.reduceOfNat, Nat.reduceLT, Int.reduceEq, Int.reduceAdd, Int.reduceSub, Int.reduceMul]
  repeat' (first | with_reducible assumption | refine And.intro ?_ ?_ | intro _ | (rw [Ev.xStp_eq]; simp -dsimp -implicitDefEqProofs only [CEd, CRunP, CSame, q1, q2, q3, q4, q5, works_chk, works_chk2, works_len, works_txt, works_run, runE2, Ev.St.giveC, ↓Ev.P, Ev.Q, Bool.cond_true, Bool.cond_false, eq_self, forall_eq_or_imp, implies_true, forall_const, forall_eq, ↓reduceIte, reduceIte, Nat.reduceEqDiff, Nat.reduceAdd, reduceCtorEq, Nat.reduceSub, Int.reduceToNat, Int.reduceLE, Int.reduceLT, Int.reduceNeg, Nat.reduceBEq, Nat.reduceMul, Nat.reduceLeDiff, Nat.reduceMod, UInt8.reduceOfNat, Nat.reduceLT, Int.reduceEq, Int.reduceAdd, Int.reduceSub, Int.reduceMul]))
  all_goals try omega
  all_goals first | exact hk | (intro s hs; simp at hs; rcases hs with rfl | rfl | rfl <;> decide) | decide
end Go.Proofs.YtlghobefhmpfkaaGreatDoor
set_option linter.unusedVariables false
set_option linter.unusedSimpArgs false
namespace Go.Proofs.YtlghobefhmpfkaaGreatDoor
open Go.RowKit Go.Extern.Stop Go.Stop Go.Extern Go
def ErrT (w : World) : Prop := w.cell? ⟨0, 0, none⟩ = some (.iface 199 (.agg #[.pointer (some ⟨9, 24, none⟩)]))
theorem rlm (z : Sem Value) (f : TypeId → Addr → Nat → Nat → Sem Value) (v : Value) :
    ReflectliteValue.method z f #[v] = (do match ← ReflectliteValue.parts v with | none => z | some (t, a, fl) => f t a fl (fl % 32)) := rfl
theorem rls (v x : Value) : ReflectliteValue.set #[v, x] = (do
    let (some (dst, a, fl), some (src, b, _)) := (← ReflectliteValue.parts v, ← ReflectliteValue.parts x)
      | unsupported (.noEntry "extern/(internal/reflectlite.Value).Set.zeroValue")
    if fl / ReflectliteValue.flagAddr % 2 == 0 then unsupported (.noEntry "extern/(internal/reflectlite.Value).Set.unaddressable")
    let val ← loadVar src b
    if ← Rtype.directlyAssignable dst src then storeVar dst a val
    else if ← Rtype.implements dst src then
      if (← Rtype.kind src) == 20 then
        match val with
        | .nilIface => unsupported (.noEntry "extern/reflectlite: a nil value of one interface type handed on as a value of another")
        | _ => storeVar dst a val
      else storeVar dst a (.iface src val)
    else panicString ("reflectlite.Set: value of type " ++ (← Rtype.spelt src) ++ " is not assignable to type " ++ (← Rtype.spelt dst))
    pure (.tuple #[])) := rfl
theorem mKind (h : Value) (w : World) : (Go.method 423 199 (.agg #[h]) "Kind").run Tryz.prog w = .ok (249, h) w := by kernel_rfl
theorem mElem (h : Value) (w : World) : (Go.method 423 199 (.agg #[h]) "Elem").run Tryz.prog w = .ok (262, .agg #[h]) w := by kernel_rfl
theorem mImplements (h : Value) (w : World) : (Go.method 423 199 (.agg #[h]) "Implements").run Tryz.prog w = .ok (263, .agg #[h]) w := by kernel_rfl
theorem mAssignableTo (h : Value) (w : World) : (Go.method 423 199 (.agg #[h]) "AssignableTo").run Tryz.prog w = .ok (260, .agg #[h]) w := by kernel_rfl
theorem valueOfP_flt (t : Addr) (w : World) : (ReflectliteValue.unpack (.iface 81 (.pointer (some t)))).run Tryz.prog w
    = .ok (.agg #[.pointer (some ⟨9, 81, none⟩), .pointer (some ⟨w.heap.size, 0, none⟩), .int .u64 150]) (w.alloc (.cells #[.pointer (some t)] 81)) := by kernel_rfl
theorem typeP_flt (t : Addr) (w : World) : (ReflectliteValue.methodAny (ReflectliteValue.valueError "reflectlite.Value.Type" 0) (fun t _ _ _ => ReflectliteType.toType t) #[.agg #[.pointer (some ⟨9, 81, none⟩), .pointer (some t), .int .u64 150]]).run Tryz.prog w
    = .ok (.iface 199 (.agg #[.pointer (some ⟨9, 81, none⟩)])) w := by kernel_rfl
theorem kindP_flt (w : World) : ((ReflectliteType.abiMethod fun t => (fun a : Nat => Value.int IntKind.u8 (a : Int)) <$> Rtype.kind t) #[.pointer (some ⟨9, 81, none⟩)]).run Tryz.prog w = .ok (.int .u8 22) w := by kernel_rfl
theorem kindE_flt (w : World) : ((ReflectliteType.abiMethod fun t => (fun a : Nat => Value.int IntKind.u8 (a : Int)) <$> Rtype.kind t) #[.pointer (some ⟨9, 79, none⟩)]).run Tryz.prog w = .ok (.int .u8 22) w := by kernel_rfl
theorem partsP_flt (a : Addr) (w : World) : (ReflectliteValue.parts (.agg #[.pointer (some ⟨9, 81, none⟩), .pointer (some a), .int .u64 150])).run Tryz.prog w = .ok (some (81, a, 150)) w := by kernel_rfl
theorem isNilP_flt (a p : Addr) (W : World) (ha : W.cell? a = some (.pointer (some p))) :
    (ReflectliteValue.method (ReflectliteValue.valueError "reflectlite.Value.IsNil" 0) ReflectliteValue.isNil #[.agg #[.pointer (some ⟨9, 81, none⟩), .pointer (some a), .int .u64 150]]).run Tryz.prog W = .ok (.bool false) W := by
  rw [rlm]
  simp only [Sem.run_bind, partsP_flt, Result.andThen]
  simp [ReflectliteValue.isNil, loadVar, isAgg, underlying, Tryz.underlying81, ha, Result.andThen]
theorem elemP_flt (w : World) : (ReflectliteType.method ReflectliteType.elem #[.agg #[.pointer (some ⟨9, 81, none⟩)]]).run Tryz.prog w = .ok (.iface 199 (.agg #[.pointer (some ⟨9, 79, none⟩)])) w := by kernel_rfl
theorem implE_flt (w : World) : (ReflectliteType.relation "Implements" ReflectliteType.implements_ #[.agg #[.pointer (some ⟨9, 79, none⟩)], .iface 199 (.agg #[.pointer (some ⟨9, 24, none⟩)])]).run Tryz.prog w = .ok (.bool true) w := by kernel_rfl
theorem typeOf_flt (v : Value) (w : World) : (ReflectliteType.typeOf #[.iface 79 v]).run Tryz.prog w = .ok (.iface 199 (.agg #[.pointer (some ⟨9, 79, none⟩)])) w := by kernel_rfl
theorem assign_flt (w : World) : (ReflectliteType.relation "AssignableTo" ReflectliteType.assignableTo #[.agg #[.pointer (some ⟨9, 79, none⟩)], .iface 199 (.agg #[.pointer (some ⟨9, 79, none⟩)])]).run Tryz.prog w = .ok (.bool true) w := by kernel_rfl
theorem valueOf_flt (e : Addr) (w : World) : (ReflectliteValue.unpack (.iface 79 (.pointer (some e)))).run Tryz.prog w
    = .ok (.agg #[.pointer (some ⟨9, 79, none⟩), .pointer (some ⟨w.heap.size, 0, none⟩), .int .u64 150]) (w.alloc (.cells #[(.pointer (some e))] 79)) := by kernel_rfl
theorem elemOf_flt (w : World) : (Rtype.elem? 81).run Tryz.prog w = .ok (some 79) w := by kernel_rfl
theorem mkE_flt (p : Addr) (w : World) : (ReflectliteValue.mk 79 p ReflectliteValue.flagAddr).run Tryz.prog w = .ok (.agg #[.pointer (some ⟨9, 79, none⟩), .pointer (some p), .int .u64 406]) w := by kernel_rfl
theorem elemV_flt (a p : Addr) (W : World) (ha : W.cell? a = some (.pointer (some p))) :
    (ReflectliteValue.method (ReflectliteValue.valueError "reflectlite.Value.Elem" 0) ReflectliteValue.elem #[.agg #[.pointer (some ⟨9, 81, none⟩), .pointer (some a), .int .u64 150]]).run Tryz.prog W
      = .ok (.agg #[.pointer (some ⟨9, 79, none⟩), .pointer (some p), .int .u64 406]) W := by
  rw [rlm]
  simp only [Sem.run_bind, partsP_flt, Result.andThen]
  simp [ReflectliteValue.elem, loadVar, isAgg, underlying, Tryz.underlying81, ha, Result.andThen, elemOf_flt, mkE_flt]
theorem partsA_flt (a : Addr) (w : World) : (ReflectliteValue.parts (.agg #[.pointer (some ⟨9, 79, none⟩), .pointer (some a), .int .u64 406])).run Tryz.prog w = .ok (some (79, a, 406)) w := by kernel_rfl
theorem partsB_flt (a : Addr) (w : World) : (ReflectliteValue.parts (.agg #[.pointer (some ⟨9, 79, none⟩), .pointer (some a), .int .u64 150])).run Tryz.prog w = .ok (some (79, a, 150)) w := by kernel_rfl
theorem direct_flt (w : World) : (Rtype.directlyAssignable 79 79).run Tryz.prog w = .ok true w := by kernel_rfl
theorem set_flt (ta b : Addr) (e : Addr) (old : Value) (W : World) (hb : W.cell? b = some (.pointer (some e))) (ht : W.cell? ta = some old) (hf : W.frozen? ta = false) :
    (ReflectliteValue.set #[.agg #[.pointer (some ⟨9, 79, none⟩), .pointer (some ta), .int .u64 406], .agg #[.pointer (some ⟨9, 79, none⟩), .pointer (some b), .int .u64 150]]).run Tryz.prog W
      = .ok (.tuple #[]) (W.setCell ta (.pointer (some e))) := by
  rw [rls]
  simp only [Sem.run_bind, partsA_flt, partsB_flt, Result.andThen]
  simp [ReflectliteValue.flagAddr, loadVar, isAgg, underlying, Tryz.underlying79, hb, Result.andThen, direct_flt, storeVar, Value.cells, storeCells, Addr.add]
  rw [run_store Tryz.prog W ta _ _ (by rfl)]
  simp [ht, hf]
set_option maxHeartbeats 4000000 in
theorem asHit_flt (e : Addr) (t : Addr) (old : Value) (w : World) (hg : ErrT w) (ht0 : w.cell? t = some old) (hf0 : w.frozen? t = false) :
    Calls Tryz.prog 45 #[.iface 79 (.pointer (some e)), .iface 81 (.pointer (some t))] w fun ev w' => ev = .returned (.bool true) ∧ w' = ((((w.alloc (.cells #[.pointer (some t)] 81)).alloc (.cells #[.pointer (some ⟨9, 81, none⟩), .pointer (some ⟨w.heap.size, 0, none⟩), .int .u64 150] 142)).alloc (.cells #[.pointer (some ⟨9, 81, none⟩), .pointer (some ⟨w.heap.size, 0, none⟩), .int .u64 150] 142)).alloc (.cells #[(.pointer (some e))] 79)).setCell t (.pointer (some e)) := by
  have h6 := @run_callFunc_extern Tryz.prog 91 _ (fun args => ReflectliteValue.unpack (args.getD 0 (.tuple #[]))) Tryz.func91 (by kernel_rfl) (by kernel_rfl) (by kernel_rfl) (by kernel_rfl)
  have h7 := @run_callFunc_extern Tryz.prog 92 _ (ReflectliteValue.methodAny (ReflectliteValue.valueError "reflectlite.Value.Type" 0) (fun t _ _ _ => ReflectliteType.toType t)) Tryz.func92 (by kernel_rfl) (by kernel_rfl) (by kernel_rfl) (by kernel_rfl)
  have h8 := @run_callFunc_extern Tryz.prog 93 _ (ReflectliteValue.method (ReflectliteValue.valueError "reflectlite.Value.IsNil" 0) ReflectliteValue.isNil) Tryz.func93 (by kernel_rfl) (by kernel_rfl) (by kernel_rfl) (by kernel_rfl)
  have h27 := @run_callFunc_extern Tryz.prog 249 _ (ReflectliteType.abiMethod fun t => do pure (.int .u8 (← Rtype.kind t))) Tryz.func249 (by kernel_rfl) (by kernel_rfl) (by kernel_rfl) (by kernel_rfl)
  have h37 := @run_callFunc_extern Tryz.prog 262 _ (ReflectliteType.method ReflectliteType.elem) Tryz.func262 (by kernel_rfl) (by kernel_rfl) (by kernel_rfl) (by kernel_rfl)
  have h38 := @run_callFunc_extern Tryz.prog 263 _ (ReflectliteType.relation "Implements" ReflectliteType.implements_) Tryz.func263 (by kernel_rfl) (by kernel_rfl) (by kernel_rfl) (by kernel_rfl)
  have h10 := @run_callFunc_extern Tryz.prog 150 _ ReflectliteType.typeOf Tryz.func150 (by kernel_rfl) (by kernel_rfl) (by kernel_rfl) (by kernel_rfl)
  have h35 := @run_callFunc_extern Tryz.prog 260 _ (ReflectliteType.relation "AssignableTo" ReflectliteType.assignableTo) Tryz.func260 (by kernel_rfl) (by kernel_rfl) (by kernel_rfl) (by kernel_rfl)
  have h11 := @run_callFunc_extern Tryz.prog 151 _ (ReflectliteValue.method (ReflectliteValue.valueError "reflectlite.Value.Elem" 0) ReflectliteValue.elem) Tryz.func151 (by kernel_rfl) (by kernel_rfl) (by kernel_rfl) (by kernel_rfl)
  have h12 := @run_callFunc_extern Tryz.prog 152 _ ReflectliteValue.set Tryz.func152 (by kernel_rfl) (by kernel_rfl) (by kernel_rfl) (by kernel_rfl)
  have f6 := valueOfP_flt
  have f7 := typeP_flt
  have tO := typeOf_flt
  have a25 := assign_flt
  have v25 := valueOf_flt
  have mA := mAssignableTo
  have mK := mKind
  have mE := mElem
  have mI := mImplements
  have k27 := kindP_flt
  have k25 := kindE_flt
  have e27 := elemP_flt
  have i25 := implE_flt
  have n8 := isNilP_flt ⟨w.heap.size, 0, none⟩ t ((w.alloc (.cells #[.pointer (some t)] 81)).alloc (.cells #[.pointer (some ⟨9, 81, none⟩), .pointer (some ⟨w.heap.size, 0, none⟩), .int .u64 150] 142)) (by simp)
  unfold ErrT at hg
  have hlt : 0 < w.heap.size := by
    rcases Nat.eq_zero_or_pos w.heap.size with h0 | h
    · simp [World.cell?, h0] at hg
    · exact h
  have hg2 : ((w.alloc (.cells #[.pointer (some t)] 81)).alloc (.cells #[.pointer (some ⟨9, 81, none⟩), .pointer (some ⟨w.heap.size, 0, none⟩), .int .u64 150] 142)).cell? ⟨0, 0, none⟩ = some (.iface 199 (.agg #[.pointer (some ⟨9, 24, none⟩)])) := by
    rw [World.cell?_alloc_lt _ _ ⟨0, 0, none⟩ (by simp), World.cell?_alloc_lt _ _ ⟨0, 0, none⟩ hlt]; exact hg
  have htl : t.block < w.heap.size := by
    rcases Nat.lt_or_ge t.block w.heap.size with h | h
    · exact h
    · simp [World.cell?, Array.getElem?_eq_none h] at ht0
  have el := elemV_flt ⟨w.heap.size, 0, none⟩ t (((w.alloc (.cells #[.pointer (some t)] 81)).alloc (.cells #[.pointer (some ⟨9, 81, none⟩), .pointer (some ⟨w.heap.size, 0, none⟩), .int .u64 150] 142)).alloc (.cells #[.pointer (some ⟨9, 81, none⟩), .pointer (some ⟨w.heap.size, 0, none⟩), .int .u64 150] 142)) (by rw [World.cell?_alloc_lt _ _ ⟨w.heap.size, 0, none⟩ (by simp; omega)]; simp)
  have st := set_flt t ⟨w.heap.size + 1 + 1 + 1, 0, none⟩ e old ((((w.alloc (.cells #[.pointer (some t)] 81)).alloc (.cells #[.pointer (some ⟨9, 81, none⟩), .pointer (some ⟨w.heap.size, 0, none⟩), .int .u64 150] 142)).alloc (.cells #[.pointer (some ⟨9, 81, none⟩), .pointer (some ⟨w.heap.size, 0, none⟩), .int .u64 150] 142)).alloc (.cells #[(.pointer (some e))] 79))
    (by rw [World.cell?_alloc_at _ _ _ _ (by simp)]; rfl)
    (by rw [World.cell?_alloc_lt _ _ t (by simp; omega), World.cell?_alloc_lt _ _ t (by simp; omega), World.cell?_alloc_lt _ _ t (by simp; omega), World.cell?_alloc_lt _ _ t htl]; exact ht0)
    (by rw [World.frozen?_alloc_old _ _ t (by simp; omega), World.frozen?_alloc_old _ _ t (by simp; omega), World.frozen?_alloc_old _ _ t (by simp; omega), World.frozen?_alloc_old _ _ t (Nat.ne_of_lt htl)]; exact hf0)
  go_enter Tryz.func45, Tryz.ntmps45
  go_wp2
  refine wp_loop_rounds 1 ?_
  rw [rounds_succ]
  go_wp2
  go_ret
  exact ⟨rfl, rfl⟩
theorem valueOfP_errno (t : Addr) (w : World) : (ReflectliteValue.unpack (.iface 84 (.pointer (some t)))).run Tryz.prog w
    = .ok (.agg #[.pointer (some ⟨9, 84, none⟩), .pointer (some ⟨w.heap.size, 0, none⟩), .int .u64 150]) (w.alloc (.cells #[.pointer (some t)] 84)) := by kernel_rfl
theorem typeP_errno (t : Addr) (w : World) : (ReflectliteValue.methodAny (ReflectliteValue.valueError "reflectlite.Value.Type" 0) (fun t _ _ _ => ReflectliteType.toType t) #[.agg #[.pointer (some ⟨9, 84, none⟩), .pointer (some t), .int .u64 150]]).run Tryz.prog w
    = .ok (.iface 199 (.agg #[.pointer (some ⟨9, 84, none⟩)])) w := by kernel_rfl
theorem kindP_errno (w : World) : ((ReflectliteType.abiMethod fun t => (fun a : Nat => Value.int IntKind.u8 (a : Int)) <$> Rtype.kind t) #[.pointer (some ⟨9, 84, none⟩)]).run Tryz.prog w = .ok (.int .u8 22) w := by kernel_rfl
theorem kindE_errno (w : World) : ((ReflectliteType.abiMethod fun t => (fun a : Nat => Value.int IntKind.u8 (a : Int)) <$> Rtype.kind t) #[.pointer (some ⟨9, 27, none⟩)]).run Tryz.prog w = .ok (.int .u8 2) w := by kernel_rfl
theorem partsP_errno (a : Addr) (w : World) : (ReflectliteValue.parts (.agg #[.pointer (some ⟨9, 84, none⟩), .pointer (some a), .int .u64 150])).run Tryz.prog w = .ok (some (84, a, 150)) w := by kernel_rfl
theorem isNilP_errno (a p : Addr) (W : World) (ha : W.cell? a = some (.pointer (some p))) :
    (ReflectliteValue.method (ReflectliteValue.valueError "reflectlite.Value.IsNil" 0) ReflectliteValue.isNil #[.agg #[.pointer (some ⟨9, 84, none⟩), .pointer (some a), .int .u64 150]]).run Tryz.prog W = .ok (.bool false) W := by
  rw [rlm]
  simp only [Sem.run_bind, partsP_errno, Result.andThen]
  simp [ReflectliteValue.isNil, loadVar, isAgg, underlying, Tryz.underlying84, ha, Result.andThen]
theorem elemP_errno (w : World) : (ReflectliteType.method ReflectliteType.elem #[.agg #[.pointer (some ⟨9, 84, none⟩)]]).run Tryz.prog w = .ok (.iface 199 (.agg #[.pointer (some ⟨9, 27, none⟩)])) w := by kernel_rfl
theorem implE_errno (w : World) : (ReflectliteType.relation "Implements" ReflectliteType.implements_ #[.agg #[.pointer (some ⟨9, 27, none⟩)], .iface 199 (.agg #[.pointer (some ⟨9, 24, none⟩)])]).run Tryz.prog w = .ok (.bool true) w := by kernel_rfl
theorem typeOf_errno (v : Value) (w : World) : (ReflectliteType.typeOf #[.iface 27 v]).run Tryz.prog w = .ok (.iface 199 (.agg #[.pointer (some ⟨9, 27, none⟩)])) w := by kernel_rfl
theorem assign_errno (w : World) : (ReflectliteType.relation "AssignableTo" ReflectliteType.assignableTo #[.agg #[.pointer (some ⟨9, 27, none⟩)], .iface 199 (.agg #[.pointer (some ⟨9, 27, none⟩)])]).run Tryz.prog w = .ok (.bool true) w := by kernel_rfl
theorem valueOf_errno (e : Int) (w : World) : (ReflectliteValue.unpack (.iface 27 (.int .i64 e))).run Tryz.prog w
    = .ok (.agg #[.pointer (some ⟨9, 27, none⟩), .pointer (some ⟨w.heap.size, 0, none⟩), .int .u64 130]) (w.alloc (.cells #[(.int .i64 e)] 27)) := by kernel_rfl
theorem elemOf_errno (w : World) : (Rtype.elem? 84).run Tryz.prog w = .ok (some 27) w := by kernel_rfl
theorem mkE_errno (p : Addr) (w : World) : (ReflectliteValue.mk 27 p ReflectliteValue.flagAddr).run Tryz.prog w = .ok (.agg #[.pointer (some ⟨9, 27, none⟩), .pointer (some p), .int .u64 386]) w := by kernel_rfl
theorem elemV_errno (a p : Addr) (W : World) (ha : W.cell? a = some (.pointer (some p))) :
    (ReflectliteValue.method (ReflectliteValue.valueError "reflectlite.Value.Elem" 0) ReflectliteValue.elem #[.agg #[.pointer (some ⟨9, 84, none⟩), .pointer (some a), .int .u64 150]]).run Tryz.prog W
      = .ok (.agg #[.pointer (some ⟨9, 27, none⟩), .pointer (some p), .int .u64 386]) W := by
  rw [rlm]
  simp only [Sem.run_bind, partsP_errno, Result.andThen]
  simp [ReflectliteValue.elem, loadVar, isAgg, underlying, Tryz.underlying84, ha, Result.andThen, elemOf_errno, mkE_errno]
theorem partsA_errno (a : Addr) (w : World) : (ReflectliteValue.parts (.agg #[.pointer (some ⟨9, 27, none⟩), .pointer (some a), .int .u64 386])).run Tryz.prog w = .ok (some (27, a, 386)) w := by kernel_rfl
theorem partsB_errno (a : Addr) (w : World) : (ReflectliteValue.parts (.agg #[.pointer (some ⟨9, 27, none⟩), .pointer (some a), .int .u64 130])).run Tryz.prog w = .ok (some (27, a, 130)) w := by kernel_rfl
theorem direct_errno (w : World) : (Rtype.directlyAssignable 27 27).run Tryz.prog w = .ok true w := by kernel_rfl
theorem set_errno (ta b : Addr) (e : Int) (old : Value) (W : World) (hb : W.cell? b = some (.int .i64 e)) (ht : W.cell? ta = some old) (hf : W.frozen? ta = false) :
    (ReflectliteValue.set #[.agg #[.pointer (some ⟨9, 27, none⟩), .pointer (some ta), .int .u64 386], .agg #[.pointer (some ⟨9, 27, none⟩), .pointer (some b), .int .u64 130]]).run Tryz.prog W
      = .ok (.tuple #[]) (W.setCell ta (.int .i64 e)) := by
  rw [rls]
  simp only [Sem.run_bind, partsA_errno, partsB_errno, Result.andThen]
  simp [ReflectliteValue.flagAddr, loadVar, isAgg, underlying, Tryz.underlying27, hb, Result.andThen, direct_errno, storeVar, Value.cells, storeCells, Addr.add]
  rw [run_store Tryz.prog W ta _ _ (by rfl)]
  simp [ht, hf]
set_option maxHeartbeats 4000000 in
theorem asHit_errno (e : Int) (t : Addr) (old : Value) (w : World) (hg : ErrT w) (ht0 : w.cell? t = some old) (hf0 : w.frozen? t = false) :
    Calls Tryz.prog 45 #[.iface 27 (.int .i64 e), .iface 84 (.pointer (some t))] w fun ev w' => ev = .returned (.bool true) ∧ w' = ((((w.alloc (.cells #[.pointer (some t)] 84)).alloc (.cells #[.pointer (some ⟨9, 84, none⟩), .pointer (some ⟨w.heap.size, 0, none⟩), .int .u64 150] 142)).alloc (.cells #[.pointer (some ⟨9, 84, none⟩), .pointer (some ⟨w.heap.size, 0, none⟩), .int .u64 150] 142)).alloc (.cells #[(.int .i64 e)] 27)).setCell t (.int .i64 e) := by
  have h6 := @run_callFunc_extern Tryz.prog 91 _ (fun args => ReflectliteValue.unpack (args.getD 0 (.tuple #[]))) Tryz.func91 (by kernel_rfl) (by kernel_rfl) (by kernel_rfl) (by kernel_rfl)
  have h7 := @run_callFunc_extern Tryz.prog 92 _ (ReflectliteValue.methodAny (ReflectliteValue.valueError "reflectlite.Value.Type" 0) (fun t _ _ _ => ReflectliteType.toType t)) Tryz.func92 (by kernel_rfl) (by kernel_rfl) (by kernel_rfl) (by kernel_rfl)
  have h8 := @run_callFunc_extern Tryz.prog 93 _ (ReflectliteValue.method (ReflectliteValue.valueError "reflectlite.Value.IsNil" 0) ReflectliteValue.isNil) Tryz.func93 (by kernel_rfl) (by kernel_rfl) (by kernel_rfl) (by kernel_rfl)
  have h27 := @run_callFunc_extern Tryz.prog 249 _ (ReflectliteType.abiMethod fun t => do pure (.int .u8 (← Rtype.kind t))) Tryz.func249 (by kernel_rfl) (by kernel_rfl) (by kernel_rfl) (by kernel_rfl)
  have h37 := @run_callFunc_extern Tryz.prog 262 _ (ReflectliteType.method ReflectliteType.elem) Tryz.func262 (by kernel_rfl) (by kernel_rfl) (by kernel_rfl) (by kernel_rfl)
  have h38 := @run_callFunc_extern Tryz.prog 263 _ (ReflectliteType.relation "Implements" ReflectliteType.implements_) Tryz.func263 (by kernel_rfl) (by kernel_rfl) (by kernel_rfl) (by kernel_rfl)
  have h10 := @run_callFunc_extern Tryz.prog 150 _ ReflectliteType.typeOf Tryz.func150 (by kernel_rfl) (by kernel_rfl) (by kernel_rfl) (by kernel_rfl)
  have h35 := @run_callFunc_extern Tryz.prog 260 _ (ReflectliteType.relation "AssignableTo" ReflectliteType.assignableTo) Tryz.func260 (by kernel_rfl) (by kernel_rfl) (by kernel_rfl) (by kernel_rfl)
  have h11 := @run_callFunc_extern Tryz.prog 151 _ (ReflectliteValue.method (ReflectliteValue.valueError "reflectlite.Value.Elem" 0) ReflectliteValue.elem) Tryz.func151 (by kernel_rfl) (by kernel_rfl) (by kernel_rfl) (by kernel_rfl)
  have h12 := @run_callFunc_extern Tryz.prog 152 _ ReflectliteValue.set Tryz.func152 (by kernel_rfl) (by kernel_rfl) (by kernel_rfl) (by kernel_rfl)
  have f6 := valueOfP_errno
  have f7 := typeP_errno
  have tO := typeOf_errno
  have a25 := assign_errno
  have v25 := valueOf_errno
  have mA := mAssignableTo
  have mK := mKind
  have mE := mElem
  have mI := mImplements
  have k27 := kindP_errno
  have k25 := kindE_errno
  have e27 := elemP_errno
  have i25 := implE_errno
  have n8 := isNilP_errno ⟨w.heap.size, 0, none⟩ t ((w.alloc (.cells #[.pointer (some t)] 84)).alloc (.cells #[.pointer (some ⟨9, 84, none⟩), .pointer (some ⟨w.heap.size, 0, none⟩), .int .u64 150] 142)) (by simp)
  unfold ErrT at hg
  have hlt : 0 < w.heap.size := by
    rcases Nat.eq_zero_or_pos w.heap.size with h0 | h
    · simp [World.cell?, h0] at hg
    · exact h
  have hg2 : ((w.alloc (.cells #[.pointer (some t)] 84)).alloc (.cells #[.pointer (some ⟨9, 84, none⟩), .pointer (some ⟨w.heap.size, 0, none⟩), .int .u64 150] 142)).cell? ⟨0, 0, none⟩ = some (.iface 199 (.agg #[.pointer (some ⟨9, 24, none⟩)])) := by
    rw [World.cell?_alloc_lt _ _ ⟨0, 0, none⟩ (by simp), World.cell?_alloc_lt _ _ ⟨0, 0, none⟩ hlt]; exact hg
  have htl : t.block < w.heap.size := by
    rcases Nat.lt_or_ge t.block w.heap.size with h | h
    · exact h
    · simp [World.cell?, Array.getElem?_eq_none h] at ht0
  have el := elemV_errno ⟨w.heap.size, 0, none⟩ t (((w.alloc (.cells #[.pointer (some t)] 84)).alloc (.cells #[.pointer (some ⟨9, 84, none⟩), .pointer (some ⟨w.heap.size, 0, none⟩), .int .u64 150] 142)).alloc (.cells #[.pointer (some ⟨9, 84, none⟩), .pointer (some ⟨w.heap.size, 0, none⟩), .int .u64 150] 142)) (by rw [World.cell?_alloc_lt _ _ ⟨w.heap.size, 0, none⟩ (by simp; omega)]; simp)
  have st := set_errno t ⟨w.heap.size + 1 + 1 + 1, 0, none⟩ e old ((((w.alloc (.cells #[.pointer (some t)] 84)).alloc (.cells #[.pointer (some ⟨9, 84, none⟩), .pointer (some ⟨w.heap.size, 0, none⟩), .int .u64 150] 142)).alloc (.cells #[.pointer (some ⟨9, 84, none⟩), .pointer (some ⟨w.heap.size, 0, none⟩), .int .u64 150] 142)).alloc (.cells #[(.int .i64 e)] 27))
    (by rw [World.cell?_alloc_at _ _ _ _ (by simp)]; rfl)
    (by rw [World.cell?_alloc_lt _ _ t (by simp; omega), World.cell?_alloc_lt _ _ t (by simp; omega), World.cell?_alloc_lt _ _ t (by simp; omega), World.cell?_alloc_lt _ _ t htl]; exact ht0)
    (by rw [World.frozen?_alloc_old _ _ t (by simp; omega), World.frozen?_alloc_old _ _ t (by simp; omega), World.frozen?_alloc_old _ _ t (by simp; omega), World.frozen?_alloc_old _ _ t (Nat.ne_of_lt htl)]; exact hf0)
  go_enter Tryz.func45, Tryz.ntmps45
  go_wp2
  refine wp_loop_rounds 1 ?_
  rw [rounds_succ]
  go_wp2
  go_ret
  exact ⟨rfl, rfl⟩
end Go.Proofs.YtlghobefhmpfkaaGreatDoor
set_option linter.unusedVariables false
set_option linter.unusedSimpArgs false
namespace Go.Proofs.YtlghobefhmpfkaaGreatDoor
open Go.RowKit Go.Extern.Stop Go.Stop Go.Extern Go
set_option maxRecDepth 100000
structure AsLeft (w w' : World) (t : Addr) (v : Value) : Prop where
  cell : w'.cell? t = some v
  old : ∀ a : Addr, a.block < w.heap.size → a.block ≠ t.block → w'.cell? a = w.cell? a
  size : w.heap.size ≤ w'.heap.size
  frozen : ∀ a : Addr, a.block < w.heap.size → w'.frozen? a = w.frozen? a
  below : ∀ B, B ≤ t.block → Below B w w'
theorem asLeft_of {w : World} {t : Addr} {old v : Value} (ht : w.cell? t = some old) (o1 o2 o3 o4 : Obj) : AsLeft w (((((w.alloc o1).alloc o2).alloc o3).alloc o4).setCell t v) t v := by
  have hl : t.block < w.heap.size := Ev.cell_lt ht
  have hb : Below w.heap.size w ((((w.alloc o1).alloc o2).alloc o3).alloc o4) := ((((Below.refl _ w).alloc (Nat.le_refl _) o1).alloc (by simp) o2).alloc (by simp; omega) o3).alloc (by simp; omega) o4
  have ht4 : ((((w.alloc o1).alloc o2).alloc o3).alloc o4).cell? t = some old := by rw [hb.cell hl]; exact ht
  refine ⟨?_, fun a ha hne => ?_, ?_, fun a ha => ?_, fun B hB => ((hb.mono (by omega)).setCell hB v)⟩
  · exact World.cell?_setCell_same _ _ _ ht4
  · have h2 : (((((w.alloc o1).alloc o2).alloc o3).alloc o4).setCell t v).heap[a.block]? = ((((w.alloc o1).alloc o2).alloc o3).alloc o4).heap[a.block]? := Below.heap_setCell _ _ _ _ hne
    rw [World.cell?_of_block h2, hb.cell ha]
  · simp; omega
  · rw [World.frozen?_setCell, hb.frozen ha]
theorem asF (e t : Addr) (old : Value) (w : World) (hg : ErrT w) (ht0 : w.cell? t = some old) (hf0 : w.frozen? t = false) :
    Calls Tryz.prog 45 #[.iface 79 (.pointer (some e)), .iface 81 (.pointer (some t))] w fun ev w' => ev = .returned (.bool true) ∧ AsLeft w w' t (.pointer (some e)) := by
  refine (asHit_flt e t old w hg ht0 hf0).mono ?_
  rintro ev w' ⟨rfl, rfl⟩
  exact ⟨rfl, asLeft_of ht0 _ _ _ _⟩
theorem asE (e : Int) (t : Addr) (old : Value) (w : World) (hg : ErrT w) (ht0 : w.cell? t = some old) (hf0 : w.frozen? t = false) :
    Calls Tryz.prog 45 #[.iface 27 (.int .i64 e), .iface 84 (.pointer (some t))] w fun ev w' => ev = .returned (.bool true) ∧ AsLeft w w' t (.int .i64 e) := by
  refine (asHit_errno e t old w hg ht0 hf0).mono ?_
  rintro ev w' ⟨rfl, rfl⟩
  exact ⟨rfl, asLeft_of ht0 _ _ _ _⟩
theorem results_pair {P : Program} {fn : Func} {t : Tmp} {ty : TypeId} (h : fn.results = #[.cell t ty]) (tmps : Array Value) (w : World) {b : Nat} {x y : Value} (hp : Ev.ldT P ty = some (true, 2))
    (ht : tmps.getD t undef = .pointer (some ⟨b, 0, none⟩)) (h0 : w.cell? ⟨b, 0, none⟩ = some x) (h1 : w.cell? ⟨b, 1, none⟩ = some y) : (results fn tmps).run P w = .ok (.agg #[x, y]) w := by
  have hv := Ev.run_ld_agg (w := w) hp (ad := ⟨b, 0, none⟩) (vs := [x, y]) rfl (fun j v hj => by
    match j, hj with
    | 0, hj => simp at hj; subst hj; exact h0
    | 1, hj => simp at hj; subst hj; exact h1
    | j + 2, hj => simp at hj)
  rw [Ev.results_eq, h]
  simp [Ev.rrRun, ht, asAddr, hv]
theorem ld53 : Ev.ldT Tryz.prog 29 = some (true, 2) := by kernel_rfl
theorem seen_nil (w : World) : Calls Tryz.prog 13 #[.nilIface] w fun ev w' => ev = .returned (.agg #[.int .i64 0, .int .i64 0]) ∧ Below w.heap.size w w' := by
  go_enter Tryz.func13, Tryz.ntmps13
  go_wp2
  (try simp only [Exit.inBlock, Exit.then])
  refine bodyPost_ret (results_pair (b := w.heap.size) (x := .int .i64 0) (y := .int .i64 0) rfl _ _ ld53 rfl (by simp) (by simp)) rfl ⟨rfl, (Below.refl _ _).alloc (Nat.le_refl _) _⟩
theorem ErrT.pos {w : World} (h : ErrT w) : 0 < w.heap.size := by
  unfold ErrT at h
  exact Ev.cell_lt h
theorem ErrT.below {w w' : World} (h : ErrT w) (hb : Below w.heap.size w w') : ErrT w' := by
  have := h.pos
  unfold ErrT at h ⊢
  rw [hb.cell this]; exact h
set_option maxHeartbeats 4000000 in
theorem seen_flt (p : Addr) (at_ e : Int) (w : World) (hg : ErrT w) (h0 : w.cell? p = some (.int .i64 at_)) (h1 : w.cell? (p.add 1) = some (.iface 27 (.int .i64 e))) :
    Calls Tryz.prog 13 #[.iface 79 (.pointer (some p))] w fun ev w' => ev = .returned (.agg #[.int .i64 at_, .int .i64 e]) ∧ Below w.heap.size w w' := by
  have hpl := Ev.cell_lt h0
  have hpa : (p.add 1).block = p.block := by unfold Addr.add; split <;> rfl
  have hp0 := hg.pos
  have bA : Below w.heap.size w (((w.alloc (.cells #[.int .i64 0, .int .i64 0] 29)).alloc (.cells #[.pointer none] 79)).alloc (.cells #[.int .i64 0] 27)) := (((Below.refl _ _).alloc (Nat.le_refl _) _).alloc (by simp) _).alloc (by simp; omega) _
  obtain ⟨W, hW⟩ : ∃ W, (((w.alloc (.cells #[.int .i64 0, .int .i64 0] 29)).alloc (.cells #[.pointer none] 79)).alloc (.cells #[.int .i64 0] 27)) = W := ⟨_, rfl⟩
  have sA : W.heap.size = w.heap.size + 3 := by rw [← hW]; simp
  have cA0 : W.cell? ⟨w.heap.size, 0, none⟩ = some (.int .i64 0) := by rw [← hW, World.cell?_alloc_lt _ _ _ (by simp <;> omega), World.cell?_alloc_lt _ _ _ (by simp <;> omega), World.cell?_alloc_at _ _ _ _ (by simp)]; rfl
  have cA1 : W.cell? ⟨w.heap.size, 1, none⟩ = some (.int .i64 0) := by rw [← hW, World.cell?_alloc_lt _ _ _ (by simp <;> omega), World.cell?_alloc_lt _ _ _ (by simp <;> omega), World.cell?_alloc_at _ _ _ _ (by simp)]; rfl
  have cA2 : W.cell? ⟨w.heap.size + 1, 0, none⟩ = some (.pointer none) := by rw [← hW, World.cell?_alloc_lt _ _ _ (by simp <;> omega), World.cell?_alloc_at _ _ _ _ (by simp)]; rfl
  have cA3 : W.cell? ⟨w.heap.size + 1 + 1, 0, none⟩ = some (.int .i64 0) := by rw [← hW, World.cell?_alloc_at _ _ _ _ (by simp)]; rfl
  have fA0 : W.frozen? ⟨w.heap.size, 0, none⟩ = false := by rw [← hW, World.frozen?_alloc_old _ _ _ (by simp <;> omega), World.frozen?_alloc_old _ _ _ (by simp <;> omega), World.frozen?_alloc_at _ _ _ _ (by simp)]
  have fA1 : W.frozen? ⟨w.heap.size, 1, none⟩ = false := by rw [← hW, World.frozen?_alloc_old _ _ _ (by simp <;> omega), World.frozen?_alloc_old _ _ _ (by simp <;> omega), World.frozen?_alloc_at _ _ _ _ (by simp)]
  have fA2 : W.frozen? ⟨w.heap.size + 1, 0, none⟩ = false := by rw [← hW, World.frozen?_alloc_old _ _ _ (by simp <;> omega), World.frozen?_alloc_at _ _ _ _ (by simp)]
  have fA3 : W.frozen? ⟨w.heap.size + 1 + 1, 0, none⟩ = false := by rw [← hW, World.frozen?_alloc_at _ _ _ _ (by simp)]
  rw [hW] at bA
  have gA : ErrT W := hg.below bA
  go_enter Tryz.func13, Tryz.ntmps13
  go_wp2_with (go_at_call 45; rw [hW])
  refine (asF p ⟨w.heap.size + 1, 0, none⟩ (.pointer none) W gA cA2 fA2).mono ?_
  rintro ev W1 ⟨rfl, hL⟩
  have hWs : w.heap.size ≤ W.heap.size := by omega
  have b1 : Below w.heap.size W W1 := hL.below _ (by simp)
  have bW1 : Below w.heap.size w W1 := bA.trans b1
  have s1 : W.heap.size ≤ W1.heap.size := hL.size
  have g1 : ErrT W1 := hg.below bW1
  have cB2 : W1.cell? ⟨w.heap.size + 1, 0, none⟩ = some (.pointer (some p)) := hL.cell
  have cB0 : W1.cell? ⟨w.heap.size, 0, none⟩ = some (.int .i64 0) := by rw [hL.old _ (by show w.heap.size < W.heap.size; omega) (by show w.heap.size ≠ w.heap.size + 1; omega)]; exact cA0
  have cB1 : W1.cell? ⟨w.heap.size, 1, none⟩ = some (.int .i64 0) := by rw [hL.old _ (by show w.heap.size < W.heap.size; omega) (by show w.heap.size ≠ w.heap.size + 1; omega)]; exact cA1
  have cB3 : W1.cell? ⟨w.heap.size + 1 + 1, 0, none⟩ = some (.int .i64 0) := by rw [hL.old _ (by show w.heap.size + 1 + 1 < W.heap.size; omega) (by show w.heap.size + 1 + 1 ≠ w.heap.size + 1; omega)]; exact cA3
  have fB0 : W1.frozen? ⟨w.heap.size, 0, none⟩ = false := by rw [hL.frozen _ (by show w.heap.size < W.heap.size; omega)]; exact fA0
  have fB1 : W1.frozen? ⟨w.heap.size, 1, none⟩ = false := by rw [hL.frozen _ (by show w.heap.size < W.heap.size; omega)]; exact fA1
  have fB3 : W1.frozen? ⟨w.heap.size + 1 + 1, 0, none⟩ = false := by rw [hL.frozen _ (by show w.heap.size + 1 + 1 < W.heap.size; omega)]; exact fA3
  have cp0 : W1.cell? p = some (.int .i64 at_) := by rw [bW1.cell hpl]; exact h0
  have cp1 : W1.cell? ⟨p.block, p.off + 1, none⟩ = some (.iface 27 (.int .i64 e)) := by rw [show (⟨p.block, p.off + 1, none⟩ : Addr) = p.add 1 from rfl, bW1.cell (by rw [hpa]; exact hpl)]; exact h1
  clear hL
  go_wp2_with (go_at_call 45; refine (asE e ⟨w.heap.size + 1 + 1, 0, none⟩ (.int .i64 0) W1 g1 cB3 fB3).mono ?_)
  rintro ev W2 ⟨rfl, hL⟩
  have b2 : Below w.heap.size W1 W2 := hL.below _ (by simp <;> omega)
  have bW2 : Below w.heap.size w W2 := bW1.trans b2
  have cC2 : W2.cell? ⟨w.heap.size + 1, 0, none⟩ = some (.pointer (some p)) := by rw [hL.old _ (by show w.heap.size + 1 < W1.heap.size; omega) (by show w.heap.size + 1 ≠ w.heap.size + 1 + 1; omega)]; exact cB2
  have cC3 : W2.cell? ⟨w.heap.size + 1 + 1, 0, none⟩ = some (.int .i64 e) := hL.cell
  have cC0 : W2.cell? ⟨w.heap.size, 0, none⟩ = some (.int .i64 0) := by rw [hL.old _ (by show w.heap.size < W1.heap.size; omega) (by show w.heap.size ≠ w.heap.size + 1 + 1; omega)]; exact cB0
  have cC1 : W2.cell? ⟨w.heap.size, 1, none⟩ = some (.int .i64 0) := by rw [hL.old _ (by show w.heap.size < W1.heap.size; omega) (by show w.heap.size ≠ w.heap.size + 1 + 1; omega)]; exact cB1
  have fC0 : W2.frozen? ⟨w.heap.size, 0, none⟩ = false := by rw [hL.frozen _ (by show w.heap.size < W1.heap.size; omega)]; exact fB0
  have fC1 : W2.frozen? ⟨w.heap.size, 1, none⟩ = false := by rw [hL.frozen _ (by show w.heap.size < W1.heap.size; omega)]; exact fB1
  have cq0 : W2.cell? p = some (.int .i64 at_) := by rw [bW2.cell hpl]; exact h0
  clear hL
  have hadd : p.add 0 = p := rfl
  go_wp2
  go_region
  go_wp2
  (try simp only [Exit.inBlock, Exit.then])
  refine bodyPost_ret (results_pair (b := w.heap.size) (x := .int .i64 at_) (y := .int .i64 e) rfl _ _ ld53 rfl ?_ ?_) rfl ⟨rfl, ((bW2.setCell (Nat.le_refl _) _).setCell (Nat.le_refl _) _).drew⟩
  · show ((W2.setCell _ _).setCell _ _).cell? _ = _
    rw [World.cell?_setCell_other _ _ _ _ (by simp), World.cell?_setCell_same _ _ _ cC0]
  · show ((W2.setCell _ _).setCell _ _).cell? _ = _
    rw [World.cell?_setCell_same _ _ _ (by rw [World.cell?_setCell_other _ _ _ _ (by simp)]; exact cC1)]
open Go.Ev in
def CSeen : Contract := pureC fun args => match args with
  | [.d (.v .nilIface)] => some (True, .agg [.d (.v (.int .i64 0)), .d (.v (.int .i64 0))])
  | [.d (.ifc t (.pt [.v (.int .i64 at_), .ifc u (.v (.int .i64 e))]))] => some (t = 79 ∧ u = 27, .agg [.d (.v (.int .i64 at_)), .d (.v (.int .i64 e))])
  | _ => none
open Go.Ev in
theorem sSeen {G : World → Prop} (hG : ∀ w, G w → ErrT w) : Sound G Tryz.prog 13 CSeen := by
  refine sound_lib ⟨Tryz.f13, by kernel_rfl, by kernel_rfl, by kernel_rfl⟩ fun args p x h hp => ?_
  split at h <;> simp only [Option.some.injEq, Prod.mk.injEq, reduceCtorEq] at h
  · obtain ⟨rfl, rfl⟩ := h
    refine ⟨.agg #[.int .i64 0, .int .i64 0], fun m n c => by simp [Cn, CnL, Rd, Value.oneCell'], fun w hw m c vs hc hv => ?_⟩
    match vs, hv with
    | [a], hv =>
      simp only [CnL, and_true] at hv
      rw [of_v hv]
      exact seen_nil w
    | [], hv => simp [CnL] at hv
    | _ :: _ :: _, hv => simp [CnL] at hv
  · obtain ⟨rfl, rfl⟩ := h
    rename_i t at_ u e
    obtain ⟨rfl, rfl⟩ := hp
    refine ⟨.agg #[.int .i64 at_, .int .i64 e], fun m n c => by simp [Cn, CnL, Rd, Value.oneCell'], fun w hw m c vs hc hv => ?_⟩
    match vs, hv with
    | [a], hv =>
      simp only [CnL, and_true, Cn, Rd, RdCells] at hv
      obtain ⟨z, rfl, ad, rfl, ⟨u1, h1, rfl, _⟩, ⟨u2, h2, z2, rfl, rfl, _⟩⟩ := hv
      exact seen_flt ad at_ e w (hG w hw) (hc _ _ h1) (hc _ _ h2)
    | [], hv => simp [CnL] at hv
    | _ :: _ :: _, hv => simp [CnL] at hv
end Go.Proofs.YtlghobefhmpfkaaGreatDoor
set_option linter.unusedVariables false
set_option linter.unusedSimpArgs false
namespace Go.Proofs.YtlghobefhmpfkaaGreatDoor
open Go Go.Ev Go.Rcs
set_option maxRecDepth 100000
variable {G : World → Prop}
theorem bare_of_no {s : List UInt8} (h : ¬ s.getLast? = some 10) : bareS s = (s, false) := by rw [bareS, if_neg h]
theorem bare_feed (s : List UInt8) : (bareS (s ++ [10])).1 = s := by simp [bareS]
def noFeed (B : List (List UInt8)) : Prop := ∀ s ∈ B, ¬ s.getLast? = some 10
theorem bareT_no {B : List (List UInt8)} (h : noFeed B) : bareT B = B := by
  unfold bareT
  conv => rhs; rw [← List.map_id B]
  exact List.map_congr_left fun s hs => by rw [bare_of_no (h s hs)]; rfl
theorem bareT_feed (B : List (List UInt8)) : bareT (B.map (· ++ [10])) = B := by
  rw [bareT, List.map_map]
  conv => rhs; rw [← List.map_id B]
  exact List.map_congr_left fun s _ => bare_feed s
theorem edN_feed {B : List (List UInt8)} (h : noFeed B) (s : List UInt8) : edN s (B.map (· ++ [10])) = edN s B := by
  unfold edN
  rw [bareT_no h, bareT_feed]
theorem edN_nil {B : List (List UInt8)} (h : noFeed B) : edN [] B = .ok (B.map (· ++ [10])) := by
  have e : edN [] B = .ok (fedE (bareT B, false)) := by rfl
  rw [e, bareT_no h]
  simp [fedE, fedM, fedT]
theorem last_getE {w : List UInt8} (h : ¬ w = []) : w.getLast? = some (w.getD (w.length - 1) 0) := by
  have hp : 0 < w.length := List.length_pos_iff.2 h
  rw [List.getLast?_eq_getElem?, List.getD_eq_getElem?_getD, List.getElem?_eq_getElem (by omega)]; rfl
theorem noFeed_snoc {B : List (List UInt8)} {w : List UInt8} (h : noFeed B) (hw : ¬ w.getLast? = some 10) : noFeed (B ++ [w]) := by
  intro s hs
  rcases List.mem_append.1 hs with h1 | h1
  · exact h s h1
  · rw [List.mem_singleton.1 h1]; exact hw
end Go.Proofs.YtlghobefhmpfkaaGreatDoor
