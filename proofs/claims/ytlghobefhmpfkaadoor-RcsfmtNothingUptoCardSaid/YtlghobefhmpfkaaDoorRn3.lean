/- RcsfmtNothing: no commands leave right lines as they are, and one command that takes all lines out, or puts all lines of a text in, does just that, for all arguments that the statement names. Part 3 of 4. -/
import Derived.RecoverIn
import Derived.Test.YtlghobefhmpfkaaDoorProg
import Derived.Shelf.Strings.Builder1
import Derived.Shelf.Strings.Builder2
import Derived.Shelf.Strings.OnBuilder
import Derived.Shelf.Strings.BuilderF
import Derived.Shelf.Utf8.RuneCount
import Derived.Shelf.Strconv.Atoi
import Derived.Shelf.Strconv.Itoa0
import Derived.Shelf.Strconv.Itoa1
import Derived.Shelf.LaysM
import Derived.Shelf.Strconv.Itoa2
import Derived.Shelf.Strconv.Itoa3
import Derived.Shelf.Strconv.AtoiErrFast
import Derived.Shelf.Strconv.ParseIntEmpty
import Derived.Shelf.Strconv.AtoiFail
import Derived.Shelf.Strconv.Clone
import Derived.Shelf.Strconv.SyntaxError
import Derived.Shelf.LaysC
import Derived.Shelf.Strconv.ToError
import Derived.Shelf.Strconv.Lower
import Derived.Shelf.Strconv.ParseUint10
import Derived.Shelf.Strconv.ParseUint10Empty
import Derived.Shelf.Strconv.ParseUint10Any
import Derived.Shelf.Strconv.ParseInt10
import Derived.Shelf.Strconv.AtoiLong
import Derived.Shelf.Strconv.AtoiInnerAll
import Derived.Shelf.Strconv.RangeError
import Derived.Shelf.Strconv.ToErrorRange
import Derived.Shelf.Strconv.AtoiAll
import Derived.Shelf.Strconv.ErrVarAll
import Derived.Shelf.Strings.Search1
import Derived.Shelf.Strings.Search2
import Derived.Shelf.Strings.Search3
import Derived.Shelf.Strings.Cut
import Derived.Shelf.Strings.Count
import Derived.Shelf.Strings.Shaped
import Derived.Shelf.Strings.Prefix
import Derived.Shelf.Strings.Split
import Derived.Shelf.Unicode.Decode
import Derived.Shelf.Strings.RuneCount
import Derived.Shelf.Strings.Explode
import Derived.Shelf.Unicode.DecodeSlow
import Derived.Shelf.Unicode.DecodeAny
import Derived.Lib.ItoaLen
import Derived.Lib.Strings
import Derived.Lib.Slices
import Derived.Lib.Walk
import Derived.Lib.Builder
import Derived.Lib.UnsafeStr
import Derived.WalkKit
import Derived.Laws.Externs
import Derived.SliceStrings
import Derived.Lib.LaidTab
import Derived.Below
import Derived.ChangeSame
import Derived.ProofKit
import Derived.OpenShut
import Derived.Test.YtlghobefhmpfkaaDoorRows
import Derived.Deep.Slices
import Derived.Deep.Fields
import Derived.Lib.IndexBytes
import Derived.Lib.AtoiErrMem
import Derived.Test.YtlghobefhmpfkaaDoorRn1
import Derived.Test.YtlghobefhmpfkaaDoorRn2
/- Functions that defer, ahead of all else, a closure that recovers. -/
set_option linter.unusedVariables false
set_option linter.unusedSimpArgs false
namespace Go.Ev
open Go
section
variable {G : World → Prop} {P : Program} {T : FuncId → Contract}
/-- What a deferred closure does to the store that its variables stand in: none: while its caller returns; some: behind a panic with that value, from which it recovers. -/
abbrev DCon := Option SV → List SV → Store → (Store → Prop) → Prop
def SoundD (G : World → Prop) (P : Program) (f : FuncId) (D : DCon) : Prop :=
  ∀ (H : Hd G) (w : World) (m : Nat → Value) (B : Nat → Nat → Prop) (s : Store) (caps : List SV) (vs : List Value), SOk H w m B s → CnL m s.n (vw H w B s.ob) caps vs → HasBody P f ∧
    (∀ K, D none caps s K → CallsDIn Fence.wide 0 P f vs.toArray .returning w fun e u w' => (∃ v, e = .returned v) ∧ u = .returning ∧ ∃ m' B' s', K s' ∧ SOk H w' m' B' s' ∧ Since w m B s w' m' B' s') ∧
    (∀ x v K, Cn m s.n (vw H w B s.ob) x v → D (some x) caps s K → CallsDIn Fence.wide 0 P f vs.toArray (.panicking [{ v := v, recovered := false }]) w fun e u w' => (∃ v, e = .returned v) ∧ u = .panicking [{ v := v, recovered := true }] ∧ ∃ m' B' s', K s' ∧ SOk H w' m' B' s' ∧ Since w m B s w' m' B' s')

variable {H : Hd G} {N : Nat} {w0 : World} {m0 : Nat → Value} {B0 : Nat → Nat → Prop} {s0 : Store}
theorem SOk.cast {H H' : Hd G} {w : World} {m : Nat → Value} {B : Nat → Nat → Prop} {s : Store} (h : SOk H w m B s) (e : H.hid = H'.hid) : SOk H' w m B s := by
  obtain ⟨hid, gb, sub, st, lo, df⟩ := H
  obtain ⟨hid', gb', sub', st', lo', df'⟩ := H'
  simp only at e; subst e
  exact ⟨h.obs, h.lt, h.sep, h.blk, h.hid, h.gw, h.seph⟩

/-- The answer, out of a state: what every way out ends with. -/
def endK (rs : List RR) (n0 : Nat) (os : List Nat) (K : Out → Store → Prop) (st : St) : Prop := need (rrL st rs) fun l => outK n0 os .ret K l st
theorem end_ok {fn : Func} {rs : List RR} (hr : fn.results.toList.map (crr P) = rs.map some) {os : List Nat} {K : Out → Store → Prop} {H1 : Hd G} (hlo : H1.lo = w0.heap.size) (hdf : H1.df = []) {M : List Deferred} {a : Act} {w : World} {m : Nat → Value} {B : Nat → Nat → Prop} {st : St}
    (hsz : a.tmps.size = N) (hM : Marks0 H1 w B st.ob M) (hsl : SlOk m st.n (vw H1 w B st.ob) a st) (hO : SOk H1 w m B st.store) (hS : Since w0 m0 B0 s0 w m B st.store) (hk : endK rs s0.n os K st) :
    LeavesInM Fence.wide 0 P fn a.tmps (fun e w' => ∃ m' B' s' out, K out s' ∧ SOk H1 w' m' B' s' ∧ Since w0 m0 B0 s0 w' m' B' s' ∧ OutOk m' s'.n (vw H1 w' B' s'.ob) out e) M .returning w := by
  have e0 : M = M ++ H1.df := by rw [hdf, List.append_nil]
  rw [e0]
  refine leave_ok (H := H1) (by simp) hlo _ _ hM hO hS fun w2 z1 z2 z3 => ?_
  rw [hdf]
  show LeavesIn Fence.wide 0 P fn a.tmps _ [] .returning w2
  have k4 : Sat H1 N w2 m B { a with defers := [] } st := ⟨hsz, Marks.nil hdf _ _ _, fun k => Cn_mono (Nat.le_refl _) (fun _ _ => rfl) z3 _ _ (hsl k), z1⟩
  unfold endK at hk
  cases el : rrL st rs with
  | none => rw [el] at hk; exact hk.elim
  | some l =>
    rw [el] at hk
    obtain ⟨us, h1, h2⟩ := rrL_ok k4 hr el
    obtain ⟨m2, B2, s2, x, q1, q2, q3, ys, q4, rfl⟩ := out_ok k4 z2 h2 hk
    refine ⟨_, ?_, m2, B2, s2, _, q1, q2, q3, retV_ok q4⟩
    rw [results_eq, Array.mapM_eq_mapM_toList]
    simp only [Sem.run_bind, Sem.run_map]
    rw [h1]
    rfl

theorem leavesM_mono {F : Fence} {n : Nat} {fn : Func} {tmps : Array Value} {R R' : Ending → World → Prop} (hR : ∀ e w, R e w → R' e w) : ∀ (L : List Deferred) (u : FrameMode) (w : World), LeavesInM F n P fn tmps R L u w → LeavesInM F n P fn tmps R' L u w
  | [], .returning, w, h => by
    obtain ⟨v, h1, h2⟩ := (show LeavesIn F n P fn tmps R [] .returning w from h)
    exact (show LeavesIn F n P fn tmps R' [] .returning w from ⟨v, h1, hR _ _ h2⟩)
  | [], .panicking ch, w, h => hR _ _ h
  | [], .run, w, h => h
  | d :: ds, u, w, h => by
    refine ⟨h.1, ?_⟩
    rcases h.2 with ⟨r, w', h1, h2, h3⟩ | ⟨h1, fv, cap, f, args, h2, h3, h4, h5⟩
    · exact .inl ⟨r, w', h1, h2, leavesM_mono hR ds _ _ h3⟩
    · refine .inr ⟨h1, fv, cap, f, args, h2, h3, h4, h5.mono ?_⟩
      rintro e u' w' hh
      cases e with
      | returned _ => exact leavesM_mono hR ds _ _ hh
      | panicked _ => exact leavesM_mono hR ds _ _ hh
      | outgrown => exact hR _ _ hh

/-- Behind the deferred call. -/
def defK (D : DCon) (rs : List RR) (n0 : Nat) (os : List Nat) (K : Out → Store → Prop) (x : Option SV) (caps : List SV) (st : St) : Prop :=
  D x caps st.store fun s => endK rs n0 os K ⟨st.sl, s.n, s.ob⟩
/-- How the code behind the deferring statement ends. -/
def defE (D : DCon) (rs : List RR) (n0 : Nat) (os : List Nat) (K : Out → Store → Prop) (caps : List SV) : Ex → St → Prop
  | .exit _, _ => False
  | _, st => defK D rs n0 os K none caps st

/-- One code behind another. -/
def seqs : List Code → Code → Code
  | [], c => c
  | b :: l, c => .seq b (seqs l c)
def evs (T : FuncId → Contract) (n0 : Nat) (Kr : St → Prop) : List SCode → (St → Prop) → St → Prop
  | [], K, st => K st
  | s :: l, K, st => ev T n0 s st (fun e st1 => match e with
    | .normal => evs T n0 Kr l K st1
    | .ret => Kr st1
    | .exit _ => False) noP
theorem pre_ok (hm : P.follows .mixedOrders = true) (hT : ∀ f, Sound G P f (T f)) {A : Ann} (hdf : H.df = []) (hlo : H.lo ≤ w0.heap.size) {c : Code} {Q : Exit → Act → World → Prop} {Kr K : St → Prop}
    (hnext : ∀ a w m B st, Sat H N w m B a st → Since w0 m0 B0 s0 w m B st.store → K st → c.wpIn Fence.wide 0 P Q a w) (hret : ∀ a w m B st, Sat H N w m B a st → Since w0 m0 B0 s0 w m B st.store → Kr st → Q .ret a w) :
    ∀ (bs : List Code) (ss : List SCode), bs.map (cc P N A) = ss.map some → ∀ a w m B st, Sat H N w m B a st → Since w0 m0 B0 s0 w m B st.store → evs T s0.n Kr ss K st → (seqs bs c).wpIn Fence.wide 0 P Q a w
  | [], [], _, a, w, m, B, st, h, hS, he => hnext a w m B st h hS he
  | b :: bs, s :: ss, hc, a, w, m, B, st, h, hS, he => by
    simp only [List.map_cons, List.cons.injEq] at hc
    refine wpIn_seq (wpIn_mono (ev_ok (H := H) hm hT b Fence.wide (.inl rfl) s hc.1 (.inl ⟨rfl, hdf⟩) _ _ w0 m0 B0 s0 a w m B st hlo h hS he) ?_)
    intro e a1 w1 hle
    cases e with
    | exit _ => obtain ⟨_, _, _, k1, _⟩ := hle; exact k1.elim
    | ret => obtain ⟨m1, B1, st1, k1, k2, k3⟩ := hle; exact hret a1 w1 m1 B1 st1 k2 k3 k1
    | goto l => exact hle.elim
    | outgrown => exact hle.elim
    | panic ch => obtain ⟨_, _, _, _, _, _, k1, _⟩ := hle; exact k1.elim
    | normal => obtain ⟨m1, B1, st1, k1, k2, k3⟩ := hle; exact pre_ok hm hT hdf hlo hnext hret bs ss hc.2 a1 w1 m1 B1 st1 k2 k3 k1
  | [], _ :: _, hc, _, _, _, _, _, _, _, _ => by simp at hc
  | _ :: _, [], hc, _, _, _, _, _, _, _, _ => by simp at hc

theorem sound_of_evD {f : FuncId} {fn : Func} {bs : List Code} {bR : Code} {id : Nat} {o1 o2 : Oper} {ss : List SCode} {sR : SCode} {rs : List RR} (hm : P.follows .mixedOrders = true) (hf : P.funcs[f]? = some fn) (hb : fn.body = some (seqs bs (.seq (.region id #[o1, o2] false) bR))) (hn : (fn.name == "runtime.NumGoroutine") = false)
    {A : Ann} (hcA : bs.map (cc P fn.ntmps A) = ss.map some) (hcR : cc P fn.ntmps A bR = some sR) (hflat : flat bR = true) (hr : fn.results.toList.map (crr P) = rs.map some)
    {t : Nat} {fd : FuncId} {rcs : List Rv} {ts : Array TypeId} (h1 : cop P fn.ntmps 0 o1 = some (.mf t fd rcs)) (h1g : o1.guard = none) (h1n : ∀ c, o1.op ≠ .defer c) (h2 : o2.op = .defer { callee := .value (.tmp t), args := #[], argTypes := ts }) (h2d : o2.dst = none) (h2g : o2.guard = none)
    (hT : ∀ f, Sound G P f (T f)) {D : DCon} (hD : SoundD G P fd D) {C : Contract} (hl : C.lawful) (hit : SoundIt G P f C.it)
    (hC : ∀ args st K, C.wp args st K → args.length ≤ fn.ntmps ∧ ∃ os, evs T st.n (endK rs st.n os K) ss (fun st1 =>
      ev T st1.n sR (st1.put t (.fn fd (rcs.map fun x => x.get st1))) (defE D rs st.n os K (rcs.map fun x => x.get st1)) (fun x s => defK D rs st.n os K (some x) (rcs.map fun x => x.get st1) s)) (st0 args st)) : Sound G P f C := by
  refine ⟨hl, ?_, hit⟩
  intro H w m B s1 args vs K hK hO ha
  obtain ⟨hlen, os, he⟩ := hC args s1 K hK
  refine ⟨⟨fn, hf, by rw [hb]; rfl, hn⟩, ?_⟩
  let H1 : Hd G := { H with lo := w.heap.size, df := [] }
  have hO1 : SOk H1 w m B s1 := hO.cast (H' := H1) rfl
  refine (callsIn_wide (n := 0)).1 (callsIn_of_wp_marks hf hb trivial ?_)
  have hSat : Sat H1 fn.ntmps w m B { tmps := vs.toArray ++ Array.replicate (fn.ntmps - vs.toArray.size) undef, defers := [] } (st0 args s1) := by
    have hvl := CnL_length ha
    refine ⟨by simp; omega, Marks.nil rfl _ _ _, fun k => ?_, hO1⟩
    simp only [St.get, st0, slots0_lk, Nat.zero_le, if_true, Nat.sub_zero]
    cases e : args[k]? with
    | none => simp [Cn]
    | some x =>
      obtain ⟨v, hv, hx⟩ := CnL_get ha e
      have hk : k < vs.length := (List.getElem?_eq_some_iff.1 hv).1
      have : (vs.toArray ++ Array.replicate (fn.ntmps - vs.toArray.size) undef).getD k undef = v := by
        rw [Array.getD_eq_getD_getElem?, Array.getElem?_append_left (by simpa using hk)]
        simp [hv]
      rw [this]; exact hx
  refine pre_ok (H := H1) hm hT rfl (Nat.le_refl _) ?_ ?_ bs ss hcA _ w m B _ hSat (Since.refl _ _ _ _) he
  · intro a1 w1 m1 B1 st1 k2 k3 k1
    refine wpIn_seq (wpIn_region ?_)
    have hw1 : Region.wanted o1 (yielded #[o1, o2] a1.tmps) = true := by simp [Region.wanted, h1g]
    show wpOpsIn _ _ _ _ _ [0, 1] a1 w1
    simp only [wpOpsIn, List.getElem?_toArray, List.getElem?_cons_zero, hw1, if_true]
    have hX : ∀ o, o ∈ mods (.mf t fd rcs) st1 → ∀ y b, lk st1.ob o = some y → y.has = true → B1 o b → (fun _ : Nat => True) b := fun _ _ _ _ _ _ _ => trivial
    have hop := cop_ok (P := P) (K := fun st2 => st2 = st1.put t (.fn fd (rcs.map fun x => x.get st1))) (Kp := noP) hT h1 k2 hX (by simp only [step])
    refine opIn_of_op (.inl rfl) h1n (hop _ _ ?_ (fun ch a' w' hp => by obtain ⟨_, _, _, _, _, _, q, _⟩ := hp; exact q.elim))
    rintro a2 w2 ⟨m2, B2, st2, rfl, j2, j3⟩ _
    have hw2 : Region.wanted o2 (yielded #[o1, o2] a2.tmps) = true := by simp [Region.wanted, h2g]
    simp only [List.getElem?_cons_succ, List.getElem?_cons_zero, hw2, if_true]
    have hcl := j2.slots t
    rw [St.get_put] at hcl
    simp only [if_true, Cn] at hcl
    obtain ⟨ca, ec, hca⟩ := hcl
    obtain ⟨M, em, hM⟩ := j2.defers
    have em2 : a2.defers = M := by rw [em]; exact List.append_nil _
    have hrun : (o2.semAt Fence.wide.round a2.eval).run P w2 = .ok (.defer { target := .fn (.func fd) ca, args := #[] }) w2 := by
      have : o2.semAt Fence.wide.round a2.eval = execOp a2.eval o2 := rfl
      rw [this]
      simp [execOp, h2, resolve, Act.eval, ec, Deferred.ofValue]
    refine ⟨fun _ _ => trivial, ?_⟩
    rw [hrun]
    simp only [Oper.uponIn, wpOpsIn, h2d, Act.put]
    -- the code behind
    let d : Deferred := { target := .fn (.func fd) ca, args := #[] }
    let H2 : Hd G := { H with lo := w2.heap.size, df := d :: M }
    have hS2 : Since w m B s1 w2 m2 B2 (st1.put t (.fn fd (rcs.map fun x => x.get st1))).store := k3.trans j3
    have hSat2 : Sat H2 fn.ntmps w2 m2 B2 { tmps := a2.tmps, defers := d :: a2.defers } (st1.put t (.fn fd (rcs.map fun x => x.get st1))) :=
      ⟨j2.size, ⟨[], by rw [em2]; rfl, .nil, fun _ h => by cases h⟩, j2.slots, j2.store.cast (H' := H2) rfl⟩
    have hwp2 := ev_ok (H := H2) hm hT bR Fence.wide (.inl rfl) sR hcR (.inr hflat) _ _ w2 m2 B2 (st1.put t (.fn fd (rcs.map fun x => x.get st1))).store _ w2 m2 B2 _ (Nat.le_refl _) hSat2 (Since.refl _ _ _ _) k1
    refine wpIn_mono hwp2 ?_
    -- the deferred call, then the marks of the code ahead
    have fin : ∀ (x : Option SV) (u : FrameMode) (a' : Act) (w' : World) (m' : Nat → Value) (B' : Nat → Nat → Prop) (st' : St), Sat H2 fn.ntmps w' m' B' a' st' → Since w2 m2 B2 (st1.put t (.fn fd (rcs.map fun x => x.get st1))).store w' m' B' st'.store →
        (x = none ∧ u = .returning ∨ ∃ y v, x = some y ∧ u = .panicking [{ v := v, recovered := false }] ∧ Cn m' st'.n (vw H2 w' B' st'.ob) y v) → defK D rs s1.n os K x (rcs.map fun x => x.get st1) st' →
        LeavesInM Fence.wide 0 P fn a'.tmps (fun e w' => ∃ m' B' s' out, K out s' ∧ SOk H w' m' B' s' ∧ Since w m B s1 w' m' B' s' ∧ OutOk m' s'.n (vw H w' B' s'.ob) out e) a'.defers u w' := by
      intro x u a' w' m' B' st' hs hSj hu hd
      obtain ⟨M2, e2, hM2⟩ := hs.defers
      have hur : u ≠ .run := by rcases hu with ⟨_, rfl⟩ | ⟨_, _, _, rfl, _⟩ <;> simp
      rw [e2]
      refine leave_ok (H := H2) hur rfl _ _ hM2 hs.store hSj fun w3 z1 z2 z3 => ?_
      show LeavesInM _ _ _ _ _ _ (d :: M) u w3
      have hca3 : CnL m' st'.n (vw H2 w3 B' st'.ob) (rcs.map fun x => x.get st1) ca.toList :=
        z2.cnL (H := H2) _ _ (show CnL m2 (st1.put t (.fn fd (rcs.map fun x => x.get st1))).n (vw H2 w2 B2 (st1.put t (.fn fd (rcs.map fun x => x.get st1))).ob) _ _ from hca)
      obtain ⟨⟨fnd, hfd, hbd, hnd⟩, hD1, hD2⟩ := hD H2 w3 m' B' st'.store _ _ z1 hca3
      have hM3 : Marks0 H1 w3 B' st'.ob M := Marks0.since (s := (st1.put t (.fn fd (rcs.map fun x => x.get st1))).store) (s1 := st'.store) hM z2
      have cont : ∀ w4 m4 B4 (s4 : Store), SOk H2 w4 m4 B4 s4 → Since w3 m' B' st'.store w4 m4 B4 s4 → endK rs s1.n os K ⟨st'.sl, s4.n, s4.ob⟩ →
          LeavesInM Fence.wide 0 P fn a'.tmps (fun e w' => ∃ m' B' s' out, K out s' ∧ SOk H w' m' B' s' ∧ Since w m B s1 w' m' B' s' ∧ OutOk m' s'.n (vw H w' B' s'.ob) out e) M .returning w4 := fun w4 m4 B4 s4 q1 q2 q3 => by
        have hsl : SlOk m4 s4.n (vw H1 w4 B4 s4.ob) a' ⟨st'.sl, s4.n, s4.ob⟩ := SlOk.since (s := st'.store) (s1 := s4) q2 (fun k => Cn_mono (Nat.le_refl _) (fun _ _ => rfl) z3 _ _ (hs.slots k))
        have := end_ok (w0 := w) (m0 := m) (B0 := B) (s0 := s1) (st := ⟨st'.sl, s4.n, s4.ob⟩) hr (H1 := H1) rfl rfl hs.size (Marks0.since (s := st'.store) (s1 := s4) hM3 q2) hsl (q1.cast (H' := H1) rfl) ((hS2.trans z2).trans q2) q3
        refine leavesM_mono ?_ M .returning w4 this
        rintro e w' ⟨m', B', s', out, r1, r2, r3, r4⟩
        exact ⟨m', B', s', out, r1, r2.cast (H' := H) rfl, r3, r4⟩
      refine ⟨hur, .inr ⟨fun h => by simp [Fence.wide] at h, _, ca, fd, #[] ++ ca, rfl, ?_, fun _ _ => trivial, ?_⟩⟩
      · simp only [d, invoke, callFunc, Sem.run_bind, Sem.run_pure, run_program, Result.andThen_ok, hfd, hbd, hnd, Bool.false_eq_true, if_false]
      · rw [Array.empty_append]
        rcases hu with ⟨rfl, rfl⟩ | ⟨y, v, rfl, rfl, hv⟩
        · have := hD1 _ hd
          rw [Array.toArray_toList] at this
          refine this.mono ?_
          rintro e u' w4 ⟨⟨v, rfl⟩, rfl, m4, B4, s4, q1, q2, q3⟩
          exact cont w4 m4 B4 s4 q2 q3 q1
        · have := hD2 y v _ (Cn_mono (Nat.le_refl _) (fun _ _ => rfl) z3 _ _ hv) hd
          rw [Array.toArray_toList] at this
          refine this.mono ?_
          rintro e u' w4 ⟨⟨v', rfl⟩, rfl, m4, B4, s4, q1, q2, q3⟩
          exact cont w4 m4 B4 s4 q2 q3 q1
    intro e a' w' hle
    cases e with
    | exit _ => obtain ⟨_, _, _, k1, _⟩ := hle; exact k1.elim
    | goto l => exact hle.elim
    | outgrown => exact hle.elim
    | normal =>
      obtain ⟨m', B', st', r1, r2, r3⟩ := hle
      exact fin none .returning a' w' m' B' st' r2 r3 (.inl ⟨rfl, rfl⟩) r1
    | ret =>
      obtain ⟨m', B', st', r1, r2, r3⟩ := hle
      exact fin none .returning a' w' m' B' st' r2 r3 (.inl ⟨rfl, rfl⟩) r1
    | panic ch =>
      obtain ⟨v, x, m', B', st', rfl, r1, r2, r3, r4⟩ := hle
      exact fin (some x) (.panicking [{ v := v, recovered := false }]) a' w' m' B' st' r2 r3 (.inr ⟨x, v, rfl, rfl, r4⟩) r1
  · -- a return ahead of it
    intro a1 w1 m1 B1 st1 k2 k3 k1
    obtain ⟨M, em, hM⟩ := k2.defers
    have em2 : a1.defers = M := by rw [em]; exact List.append_nil _
    show LeavesInM _ _ _ _ _ _ a1.defers _ _
    rw [em2]
    refine leavesM_mono ?_ M .returning w1 (end_ok (w0 := w) (m0 := m) (B0 := B) (s0 := s1) hr (H1 := H1) rfl rfl k2.size hM k2.slots k2.store k3 k1)
    rintro e w' ⟨m', B', s', out, r1, r2, r3, r4⟩
    exact ⟨m', B', s', out, r1, r2.cast (H' := H) rfl, r3, r4⟩
/-- A body, at the statement that defers. -/
def dfOp : Oper → Bool := fun o => match o.op with
  | .defer _ => true
  | _ => false
def splitD : Code → Option (List Code × Nat × Oper × Oper × Code)
  | .seq x y => match x with
    | .region id ops false => match ops.toList with
      | [o1, o2] => if dfOp o2 = true then some ([], id, o1, o2, y) else (splitD y).map fun p => (x :: p.1, p.2)
      | _ => (splitD y).map fun p => (x :: p.1, p.2)
    | x => (splitD y).map fun p => (x :: p.1, p.2)
  | _ => none
theorem splitD_eq : ∀ (c : Code) {bs : List Code} {id : Nat} {o1 o2 : Oper} {r : Code}, splitD c = some (bs, id, o1, o2, r) → c = seqs bs (.seq (.region id #[o1, o2] false) r)
  | .seq x y, bs, id, o1, o2, r, h => by
    have go : (splitD y).map (fun p => (x :: p.1, p.2)) = some (bs, id, o1, o2, r) → Code.seq x y = seqs bs (.seq (.region id #[o1, o2] false) r) := fun h => by
      obtain ⟨⟨bs', q⟩, h1, h2⟩ := Option.map_eq_some_iff.1 h
      simp only [Prod.mk.injEq] at h2
      obtain ⟨rfl, rfl⟩ := h2
      rw [splitD_eq y h1]; rfl
    simp only [splitD] at h
    split at h
    · rename_i id' ops
      split at h
      · rename_i p1 p2 e
        split at h
        · simp only [Option.some.injEq, Prod.mk.injEq] at h
          obtain ⟨rfl, rfl, rfl, rfl, rfl⟩ := h
          have : ops = #[p1, p2] := by rw [← Array.toArray_toList (xs := ops), e]
          rw [this]; rfl
        · exact go h
      · exact go h
    · exact go h
  | .skip, _, _, _, _, _, h => by cases h
  | .region .., _, _, _, _, _, h => by cases h
  | .cond .., _, _, _, _, _, h => by cases h
  | .block .., _, _, _, _, _, h => by cases h
  | .loop .., _, _, _, _, _, h => by cases h
  | .exit .., _, _, _, _, _, h => by cases h
  | .ret, _, _, _, _, _, h => by cases h
  | .rangeFunc .., _, _, _, _, _, h => by cases h
  | .scope .., _, _, _, _, _, h => by cases h
  | .label .., _, _, _, _, _, h => by cases h
  | .goto .., _, _, _, _, _, h => by cases h
  | .refuse .., _, _, _, _, _, h => by cases h
def okD (o1 o2 : Oper) (t : Nat) : Bool := o1.guard.isNone && o2.guard.isNone && o2.dst.isNone && !dfOp o1 && (match o2.op with
  | .defer c => (match c.callee with
    | .value (.tmp t') => t' == t
    | _ => false) && c.args.isEmpty
  | _ => false)
def ccD (P : Program) (N : Nat) (A : Ann) (c : Code) : Option (List SCode × SCode × Nat × FuncId × List Rv) :=
  (splitD c).bind fun p => (p.1.mapM (cc P N A)).bind fun ss => (cc P N A p.2.2.2.2).bind fun sR => match cop P N 0 p.2.2.1 with
    | some (.mf t fd rcs) => if okD p.2.2.1 p.2.2.2.1 t = true ∧ flat p.2.2.2.2 = true then some (ss, sR, t, fd, rcs) else none
    | _ => none
theorem mapM_map {α β : Type} {f : α → Option β} : ∀ {l : List α} {r : List β}, l.mapM f = some r → l.map f = r.map some
  | [], r, h => by simp at h; subst h; rfl
  | a :: l, r, h => by
    simp only [List.mapM_cons, Option.bind_eq_bind, Option.bind_eq_some_iff, Option.pure_def, Option.some.injEq] at h
    obtain ⟨b, h1, bs, h2, rfl⟩ := h
    simp [h1, mapM_map h2]
theorem sound_of_ccD {f : FuncId} {fn : Func} {b : Code} {ss : List SCode} {sR : SCode} {rs : List RR} {t : Nat} {fd : FuncId} {rcs : List Rv} (hm : P.follows .mixedOrders = true) (hf : P.funcs[f]? = some fn) (hb : fn.body = some b) (hn : (fn.name == "runtime.NumGoroutine") = false)
    {A : Ann} (hc : ccD P fn.ntmps A b = some (ss, sR, t, fd, rcs)) (hr : fn.results.toList.map (crr P) = rs.map some)
    (hT : ∀ f, Sound G P f (T f)) {D : DCon} (hD : SoundD G P fd D) {C : Contract} (hl : C.lawful) (hit : SoundIt G P f C.it)
    (hC : ∀ args st K, C.wp args st K → args.length ≤ fn.ntmps ∧ ∃ os, evs T st.n (endK rs st.n os K) ss (fun st1 =>
      ev T st1.n sR (st1.put t (.fn fd (rcs.map fun x => x.get st1))) (defE D rs st.n os K (rcs.map fun x => x.get st1)) (fun x s => defK D rs st.n os K (some x) (rcs.map fun x => x.get st1) s)) (st0 args st)) : Sound G P f C := by
  unfold ccD at hc
  obtain ⟨⟨bs, id, o1, o2, r⟩, h1, hc⟩ := Option.bind_eq_some_iff.1 hc
  obtain ⟨ss', h2, hc⟩ := Option.bind_eq_some_iff.1 hc
  obtain ⟨sR', h3, hc⟩ := Option.bind_eq_some_iff.1 hc
  simp only at h2 h3 hc
  split at hc
  · rename_i t' fd' rcs' h4
    obtain ⟨⟨h5, h6⟩, h7⟩ := Option.ite_none_right_eq_some.1 hc
    simp only [Option.some.injEq, Prod.mk.injEq] at h7
    obtain ⟨rfl, rfl, rfl, rfl, rfl⟩ := h7
    simp only [okD, Bool.and_eq_true, Option.isNone_iff_eq_none, Bool.not_eq_true'] at h5
    obtain ⟨⟨⟨⟨g1, g2⟩, g3⟩, g4⟩, g5⟩ := h5
    split at g5
    · rename_i c ec
      obtain ⟨callee, args, ats⟩ := c
      simp only [Bool.and_eq_true] at g5
      obtain ⟨g6, g7⟩ := g5
      split at g6
      · rename_i t1 t2
        have e3 : t2 = t' := by simpa using g6
        subst e3
        have e4 : args = #[] := by simpa using g7
        subst e4
        exact sound_of_evD hm hf (by rw [hb, splitD_eq b h1]) hn (mapM_map h2) h3 h6 hr h4 g1 (fun c e => by simp [dfOp, e] at g4) ec g3 g2 hT hD hl hit hC
      · cases g6
    · cases g5
  · cases hc
/-- The same, sealed. -/
def xvs (T : FuncId → Contract) (n0 : Nat) (Kr : St → Prop) : List SCode → (St → Prop) → St → Prop
  | [], K, st => K st
  | s :: l, K, st => xv T n0 s st (fun e st1 => match e with
    | .normal => xvs T n0 Kr l K st1
    | .ret => Kr st1
    | .exit _ => False) noP
theorem xvs_eq : @xvs = @evs := by
  funext T n0 Kr l K st
  induction l generalizing st with
  | nil => rfl
  | cons s l ih =>
    simp only [xvs, evs]
    rw [xv_eq]
    congr 1
    funext e st1
    cases e
    · exact ih st1
    · rfl
    · rfl
end
end Go.Ev
/- The compiled code of functions, by program (gen.py): each theorem says that the loaded program compiles to it. -/
set_option linter.unusedVariables false
namespace Go.Proofs.YtlghobefhmpfkaaDoor
open Go Go.Ev
set_option maxRecDepth 100000
theorem mo : Tryd.prog.follows .mixedOrders = true := by kernel_rfl

/-! 7: redline/redlineref01.SameStrings -/
def A7 : Ann := ⟨fun _ _ => 0, fun r => if r = 6 then some ([], [(0, some true), (1, some true), (2, some true), (4, some true), (5, some true), (6, some true), (3, none), (7, none), (8, some true)]) else none, fun r => if r = 1 then some (false, [0, 1]) else if r = 4 then some (false, [0, 1, 5]) else if r = 5 then some (false, [0, 1, 5]) else if r = 6 then some (false, [0, 1, 5]) else none, fun r => if r = 4 then [0, 1, 5] else []⟩
def S7 : SCode :=
  (.seq (.ops [⟨none, (some 4), .mv 4 (.k (Value.bool false)), false⟩])
  (.seq (.seq (.seq (.keep [0, 1]) (.ops [⟨none, (some 6), .mv 6 (.s 0), false⟩,
    ⟨none, (some 7), .len 7 (.s 6), false⟩,
    ⟨none, (some 8), .mv 8 (.s 1), false⟩,
    ⟨none, (some 9), .len 9 (.s 8), false⟩,
    ⟨none, (some 10), .bin 10 .neq (.s 7) (.s 9), false⟩]))
  (.cond (.s 10) (.seq (.ops [⟨none, (some 4), .mv 4 (.k (Value.bool false)), false⟩])
  .ret) .skip))
  (.seq (.seq (.ops [⟨none, (some 5), .mv 5 (.k (Value.int .i64 0)), false⟩])
  (.block 0 (.loop [0, 1, 5] (.seq (.seq (.seq (.keep [0, 1, 5]) (.ops [⟨none, (some 11), .mv 11 (.s 5), false⟩,
    ⟨none, (some 12), .mv 12 (.s 0), false⟩,
    ⟨none, (some 13), .len 13 (.s 12), false⟩,
    ⟨none, (some 14), .bin 14 .lss (.s 11) (.s 13), false⟩]))
  (.cond (.s 14) .skip (.exit 0)))
  (.seq (.block 1 (.seq (.seq (.keep [0, 1, 5]) (.dr [] [(false, true, ⟨none, (some 17), .mv 17 (.s 0), false⟩),
    (false, true, ⟨none, (some 18), .mv 18 (.s 5), false⟩),
    (false, true, ⟨none, (some 19), .ia 19 1 (.s 17) (.s 18), false⟩),
    (false, true, ⟨none, (some 21), .mv 21 (.s 1), false⟩),
    (false, true, ⟨none, (some 22), .mv 22 (.s 5), false⟩),
    (false, true, ⟨none, (some 23), .ia 23 1 (.s 21) (.s 22), false⟩),
    (true, true, ⟨none, (some 20), .ld 20 false 1 (.s 19), false⟩),
    (true, true, ⟨none, (some 24), .ld 24 false 1 (.s 23), false⟩),
    (false, true, ⟨none, (some 25), .bin 25 .neq (.s 20) (.s 24), false⟩)]))
  (.cond (.s 25) (.seq (.ops [⟨none, (some 4), .mv 4 (.k (Value.bool false)), false⟩])
  .ret) .skip)))
  (.seq (.keep [0, 1, 5]) (.ops [⟨none, (some 15), .mv 15 (.s 5), false⟩,
    ⟨none, (some 16), .binc 16 .add (.s 15) (.k (Value.int .i64 1)), false⟩,
    ⟨none, (some 5), .mv 5 (.s 16), false⟩])))))))
  (.seq (.ops [⟨none, (some 4), .mv 4 (.k (Value.bool true)), false⟩])
  .ret))))
theorem cc7 : (Tryd.f7.body).bind (cc Tryd.prog Tryd.f7.ntmps A7) = some S7 := by kernel_rfl
def R7 : List RR := [.sl 4]
theorem cr7 : Tryd.f7.results.toList.map (crr Tryd.prog) = R7.map some := by kernel_rfl
theorem nm7 : (Tryd.f7.name == "runtime.NumGoroutine") = false := by kernel_rfl
theorem fn7 : Tryd.prog.funcs[7]? = some Tryd.f7 := by kernel_rfl
theorem bd7 : ∃ b, Tryd.f7.body = some b ∧ cc Tryd.prog Tryd.f7.ntmps A7 b = some S7 := Option.bind_eq_some_iff.1 cc7
theorem sd7 {G : World → Prop} {T : FuncId → Contract} {C : Contract} (hT : ∀ f, Sound G Tryd.prog f (T f)) (hl : C.lawful) (hC : ∀ args st K, C.wp args st K → args.length ≤ 26 ∧ ∃ os op, xv T st.n S7 (st0 args st) (retK R7 st.n os K) (panK st.n op K)) (hit : SoundIt G Tryd.prog 7 C.it := by exact SoundIt.none) : Sound G Tryd.prog 7 C := by
  obtain ⟨b, hb, hc⟩ := bd7
  rw [xv_eq] at hC
  exact sound_of_ev mo fn7 hb nm7 hc cr7 hT hl hit hC

/-! 20: redline/num.Text -/
def A20 : Ann := ⟨fun _ _ => 0, fun _ => none, fun r => if r = 1 then some (false, [0]) else none, fun _ => []⟩
def S20 : SCode :=
  (.seq (.ops [⟨none, (some 2), .mv 2 (.k (Value.string ⟨#[]⟩)), false⟩])
  (.seq (.seq (.keep [0]) (.ops [⟨none, (some 3), .mv 3 (.s 0), false⟩,
    ⟨none, (some 4), .call (some 4) 32 false [(.s 3)], false⟩,
    ⟨none, (some 2), .mv 2 (.s 4), false⟩]))
  .ret))
theorem cc20 : (Tryd.f20.body).bind (cc Tryd.prog Tryd.f20.ntmps A20) = some S20 := by kernel_rfl
def R20 : List RR := [.sl 2]
theorem cr20 : Tryd.f20.results.toList.map (crr Tryd.prog) = R20.map some := by kernel_rfl
theorem nm20 : (Tryd.f20.name == "runtime.NumGoroutine") = false := by kernel_rfl
theorem fn20 : Tryd.prog.funcs[20]? = some Tryd.f20 := by kernel_rfl
theorem bd20 : ∃ b, Tryd.f20.body = some b ∧ cc Tryd.prog Tryd.f20.ntmps A20 b = some S20 := Option.bind_eq_some_iff.1 cc20
theorem sd20 {G : World → Prop} {T : FuncId → Contract} {C : Contract} (hT : ∀ f, Sound G Tryd.prog f (T f)) (hl : C.lawful) (hC : ∀ args st K, C.wp args st K → args.length ≤ 5 ∧ ∃ os op, xv T st.n S20 (st0 args st) (retK R20 st.n os K) (panK st.n op K)) (hit : SoundIt G Tryd.prog 20 C.it := by exact SoundIt.none) : Sound G Tryd.prog 20 C := by
  obtain ⟨b, hb, hc⟩ := bd20
  rw [xv_eq] at hC
  exact sound_of_ev mo fn20 hb nm20 hc cr20 hT hl hit hC

/-! 8: redline/redlineref01.Text -/
def A8 : Ann := ⟨fun _ _ => 0, fun _ => none, fun r => if r = 2 then some (false, [0]) else if r = 3 then some (false, [0]) else none, fun _ => []⟩
def S8 : SCode :=
  (.seq (.ops [⟨none, (some 2), .mv 2 (.k (Value.string ⟨#[]⟩)), false⟩])
  (.seq (.seq (.ops [⟨none, (some 3), .mv 3 (.s 0), false⟩,
    ⟨none, (some 4), .bin 4 .lss (.s 3) (.k (Value.int .i64 0)), false⟩])
  (.cond (.s 4) (.seq (.seq (.keep [0]) (.ops [⟨none, (some 5), .mv 5 (.s 0), false⟩,
    ⟨none, (some 6), .cvi 6 .u64 (.s 5), false⟩,
    ⟨none, (some 7), .neg 7 (.s 6), false⟩,
    ⟨none, (some 8), .call (some 8) 17 false [(.s 7)], false⟩,
    ⟨none, (some 9), .bin 9 .add (.k (Value.string ⟨#[45]⟩)) (.s 8), false⟩,
    ⟨none, (some 2), .mv 2 (.s 9), false⟩]))
  .ret) .skip))
  (.seq (.seq (.keep [0]) (.ops [⟨none, (some 10), .mv 10 (.s 0), false⟩,
    ⟨none, (some 11), .cvi 11 .u64 (.s 10), false⟩,
    ⟨none, (some 12), .call (some 12) 17 false [(.s 11)], false⟩,
    ⟨none, (some 2), .mv 2 (.s 12), false⟩]))
  .ret)))
theorem cc8 : (Tryd.f8.body).bind (cc Tryd.prog Tryd.f8.ntmps A8) = some S8 := by kernel_rfl
def R8 : List RR := [.sl 2]
theorem cr8 : Tryd.f8.results.toList.map (crr Tryd.prog) = R8.map some := by kernel_rfl
theorem nm8 : (Tryd.f8.name == "runtime.NumGoroutine") = false := by kernel_rfl
theorem fn8 : Tryd.prog.funcs[8]? = some Tryd.f8 := by kernel_rfl
theorem bd8 : ∃ b, Tryd.f8.body = some b ∧ cc Tryd.prog Tryd.f8.ntmps A8 b = some S8 := Option.bind_eq_some_iff.1 cc8
theorem sd8 {G : World → Prop} {T : FuncId → Contract} {C : Contract} (hT : ∀ f, Sound G Tryd.prog f (T f)) (hl : C.lawful) (hC : ∀ args st K, C.wp args st K → args.length ≤ 13 ∧ ∃ os op, xv T st.n S8 (st0 args st) (retK R8 st.n os K) (panK st.n op K)) (hit : SoundIt G Tryd.prog 8 C.it := by exact SoundIt.none) : Sound G Tryd.prog 8 C := by
  obtain ⟨b, hb, hc⟩ := bd8
  rw [xv_eq] at hC
  exact sound_of_ev mo fn8 hb nm8 hc cr8 hT hl hit hC

/-! 17: redline/redlineref01.digits -/
def A17 : Ann := ⟨fun _ _ => 0, fun _ => none, fun r => if r = 1 then some (false, [0]) else if r = 2 then some (false, [0, 3]) else if r = 4 then some (false, [0, 3]) else if r = 5 then some (false, [0, 3]) else none, fun r => if r = 3 then [0, 3] else []⟩
def S17 : SCode :=
  (.seq (.ops [⟨none, (some 2), .mv 2 (.k (Value.string ⟨#[]⟩)), false⟩])
  (.seq (.seq (.keep [0]) (.ops [⟨none, (some 4), .mv 4 (.s 0), false⟩,
    ⟨none, (some 5), .bin 5 .rem (.s 4) (.k (Value.int .u64 10)), false⟩,
    ⟨none, (some 6), .bin 6 .add (.k (Value.int .u64 48)) (.s 5), false⟩,
    ⟨none, (some 7), .cvi 7 .u8 (.s 6), false⟩,
    ⟨none, (some 8), .bs 8 5 1 [(.s 7)], false⟩,
    ⟨none, (some 9), .b2s 9 (.s 8), false⟩,
    ⟨none, (some 3), .mv 3 (.s 9), false⟩]))
  (.seq (.seq (.seq (.keep [0, 3]) (.ops [⟨none, (some 10), .mv 10 (.s 0), false⟩,
    ⟨none, (some 11), .bin 11 .quo (.s 10) (.k (Value.int .u64 10)), false⟩,
    ⟨none, (some 0), .mv 0 (.s 11), false⟩]))
  (.block 0 (.loop [0, 3] (.seq (.seq (.ops [⟨none, (some 12), .mv 12 (.s 0), false⟩,
    ⟨none, (some 13), .bin 13 .gtr (.s 12) (.k (Value.int .u64 0)), false⟩])
  (.cond (.s 13) .skip (.exit 0)))
  (.seq (.block 1 (.seq (.keep [0, 3]) (.ops [⟨none, (some 16), .mv 16 (.s 0), false⟩,
    ⟨none, (some 17), .bin 17 .rem (.s 16) (.k (Value.int .u64 10)), false⟩,
    ⟨none, (some 18), .bin 18 .add (.k (Value.int .u64 48)) (.s 17), false⟩,
    ⟨none, (some 19), .cvi 19 .u8 (.s 18), false⟩,
    ⟨none, (some 20), .bs 20 5 1 [(.s 19)], false⟩,
    ⟨none, (some 21), .b2s 21 (.s 20), false⟩,
    ⟨none, (some 22), .mv 22 (.s 3), false⟩,
    ⟨none, (some 23), .bin 23 .add (.s 21) (.s 22), false⟩,
    ⟨none, (some 3), .mv 3 (.s 23), false⟩])))
  (.seq (.keep [0, 3]) (.ops [⟨none, (some 14), .mv 14 (.s 0), false⟩,
    ⟨none, (some 15), .bin 15 .quo (.s 14) (.k (Value.int .u64 10)), false⟩,
    ⟨none, (some 0), .mv 0 (.s 15), false⟩])))))))
  (.seq (.ops [⟨none, (some 24), .mv 24 (.s 3), false⟩,
    ⟨none, (some 2), .mv 2 (.s 24), false⟩])
  .ret))))
theorem cc17 : (Tryd.f17.body).bind (cc Tryd.prog Tryd.f17.ntmps A17) = some S17 := by kernel_rfl
def R17 : List RR := [.sl 2]
theorem cr17 : Tryd.f17.results.toList.map (crr Tryd.prog) = R17.map some := by kernel_rfl
theorem nm17 : (Tryd.f17.name == "runtime.NumGoroutine") = false := by kernel_rfl
theorem fn17 : Tryd.prog.funcs[17]? = some Tryd.f17 := by kernel_rfl
theorem bd17 : ∃ b, Tryd.f17.body = some b ∧ cc Tryd.prog Tryd.f17.ntmps A17 b = some S17 := Option.bind_eq_some_iff.1 cc17
theorem sd17 {G : World → Prop} {T : FuncId → Contract} {C : Contract} (hT : ∀ f, Sound G Tryd.prog f (T f)) (hl : C.lawful) (hC : ∀ args st K, C.wp args st K → args.length ≤ 25 ∧ ∃ os op, xv T st.n S17 (st0 args st) (retK R17 st.n os K) (panK st.n op K)) (hit : SoundIt G Tryd.prog 17 C.it := by exact SoundIt.none) : Sound G Tryd.prog 17 C := by
  obtain ⟨b, hb, hc⟩ := bd17
  rw [xv_eq] at hC
  exact sound_of_ev mo fn17 hb nm17 hc cr17 hT hl hit hC

/-! 18: redline/edits.Check -/
def A18 : Ann := ⟨fun r i => if r = 5 ∧ i = 7 then 1 else if r = 5 ∧ i = 13 then 1 else if r = 5 ∧ i = 19 then 1 else 0, fun r => if r = 10 then some ([], [(0, some true), (2, some true), (5, some true), (7, some true), (1, some true), (3, some true), (4, some true), (10, some true), (6, none), (8, none), (9, some true), (11, some true)]) else none, fun r => if r = 2 then some (false, [0, 1, 2, 7, 8]) else if r = 4 then some (false, [1, 2, 7, 8, 12, 13, 14]) else if r = 5 then some (false, [1, 2, 7, 8, 9, 10, 12, 13, 14]) else if r = 7 then some (false, [1, 2, 7, 8, 9, 10, 12, 13, 14]) else if r = 8 then some (false, [1, 2, 8, 9, 10, 11, 12, 13, 14]) else if r = 10 then some (false, [1, 2, 10, 12, 13, 14]) else if r = 12 then some (false, [1, 2, 7, 8]) else none, fun r => if r = 3 then [1, 2, 7, 8, 12, 13, 14] else []⟩
def S18 : SCode :=
  (.seq (.ops [⟨none, (some 6), .mv 6 (.k (Value.int .i64 0)), false⟩])
  (.seq (.ops [⟨none, (some 7), .mv 7 (.k (Value.int .i64 0)), false⟩,
    ⟨none, (some 8), .mv 8 (.k (Value.int .i64 0)), false⟩])
  (.seq (.seq (.seq (.keep [0, 1, 2, 7, 8]) (.ops [⟨none, (some 12), .mv 12 (.s 0), false⟩,
    ⟨none, (some 13), .len 13 (.s 12), false⟩,
    ⟨none, (some 14), .mv 14 (.k (Value.int .i64 0)), false⟩]))
  (.block 0 (.loop [1, 2, 7, 8, 12, 13, 14] (.seq (.ops [⟨none, (some 15), .bin 15 .lss (.s 14) (.s 13), false⟩])
  (.seq (.cond (.s 15) .skip (.exit 0))
  (.seq (.block 1 (.seq (.seq (.keep [1, 2, 7, 8, 12, 13, 14]) (.ops [⟨none, (some 16), .mv 16 (.s 14), false⟩,
    ⟨none, (some 17), .ia 17 4 (.s 12) (.s 14), false⟩,
    ⟨none, (some 18), .ld 18 true 4 (.s 17), false⟩,
    ⟨none, (some 10), .al 10 35 [(Value.int .i64 0), (Value.int .i64 0), (Value.int .i64 0), (Value.int .i64 0)], false⟩,
    ⟨none, (some 9), .mv 9 (.s 16), false⟩,
    ⟨none, none, .st true 4 (.s 10) (.s 18), false⟩]))
  (.seq (.seq (.seq (.keep [1, 2, 7, 8, 9, 10, 12, 13, 14]) (.ops [⟨none, (some 19), .fa 19 0 (.s 10), false⟩,
    ⟨none, (some 20), .ld 20 false 1 (.s 19), false⟩,
    ⟨none, (some 21), .call (some 21) 30 false [(.s 20)], false⟩,
    ⟨none, (some 22), .not 22 (.s 21), false⟩,
    ⟨none, (some 23), .mv 23 (.s 22), false⟩,
    ⟨(some (23, false)), (some 24), .fa 24 1 (.s 10), false⟩,
    ⟨(some (23, false)), (some 25), .ld 25 false 1 (.s 24), false⟩,
    ⟨(some (23, false)), (some 26), .call (some 26) 30 true [(.s 25)], false⟩,
    ⟨(some (23, false)), (some 27), .not 27 (.s 26), false⟩,
    ⟨none, (some 28), .pk 28 (.s 23) (.k (Value.bool true)) (.s 27), true⟩,
    ⟨none, (some 29), .mv 29 (.s 28), false⟩,
    ⟨(some (29, false)), (some 30), .fa 30 2 (.s 10), false⟩,
    ⟨(some (29, false)), (some 31), .ld 31 false 1 (.s 30), false⟩,
    ⟨(some (29, false)), (some 32), .call (some 32) 30 true [(.s 31)], false⟩,
    ⟨(some (29, false)), (some 33), .not 33 (.s 32), false⟩,
    ⟨none, (some 34), .pk 34 (.s 29) (.k (Value.bool true)) (.s 33), false⟩,
    ⟨none, (some 35), .mv 35 (.s 34), false⟩,
    ⟨(some (35, false)), (some 36), .fa 36 3 (.s 10), false⟩,
    ⟨(some (35, false)), (some 37), .ld 37 false 1 (.s 36), false⟩,
    ⟨(some (35, false)), (some 38), .call (some 38) 30 true [(.s 37)], true⟩,
    ⟨(some (35, false)), (some 39), .not 39 (.s 38), false⟩,
    ⟨none, (some 40), .pk 40 (.s 35) (.k (Value.bool true)) (.s 39), false⟩,
    ⟨none, (some 41), .mv 41 (.s 40), false⟩,
    ⟨(some (41, false)), (some 42), .fa 42 1 (.s 10), false⟩,
    ⟨(some (41, false)), (some 43), .ld 43 false 1 (.s 42), false⟩,
    ⟨(some (41, false)), (some 44), .bin 44 .eql (.s 43) (.k (Value.int .i64 0)), false⟩,
    ⟨(some (41, false)), (some 45), .mv 45 (.s 44), false⟩,
    ⟨(some (45, true)), (some 46), .fa 46 3 (.s 10), false⟩,
    ⟨(some (45, true)), (some 47), .ld 47 false 1 (.s 46), false⟩,
    ⟨(some (45, true)), (some 48), .bin 48 .eql (.s 47) (.k (Value.int .i64 0)), true⟩,
    ⟨(some (41, false)), (some 49), .pk 49 (.s 45) (.s 48) (.k (Value.bool false)), false⟩,
    ⟨none, (some 50), .pk 50 (.s 41) (.k (Value.bool true)) (.s 49), false⟩]))
  (.cond (.s 50) (.seq (.ops [⟨none, (some 6), .mv 6 (.k (Value.int .i64 50)), false⟩])
  .ret) .skip))
  (.seq (.seq (.keep [1, 2, 7, 8, 9, 10, 12, 13, 14]) (.ops [⟨none, (some 51), .fa 51 0 (.s 10), false⟩,
    ⟨none, (some 52), .ld 52 false 1 (.s 51), false⟩,
    ⟨none, (some 53), .mv 53 (.s 7), false⟩,
    ⟨none, (some 54), .binc 54 .sub (.s 52) (.s 53), false⟩,
    ⟨none, (some 11), .mv 11 (.s 54), false⟩]))
  (.seq (.seq (.seq (.keep [1, 2, 8, 9, 10, 11, 12, 13, 14]) (.ops [⟨none, (some 55), .mv 55 (.s 11), false⟩,
    ⟨none, (some 56), .bin 56 .lss (.s 55) (.k (Value.int .i64 0)), false⟩,
    ⟨none, (some 57), .mv 57 (.s 56), false⟩,
    ⟨(some (57, false)), (some 58), .mv 58 (.s 9), false⟩,
    ⟨(some (57, false)), (some 59), .bin 59 .gtr (.s 58) (.k (Value.int .i64 0)), false⟩,
    ⟨(some (57, false)), (some 60), .mv 60 (.s 59), false⟩,
    ⟨(some (60, true)), (some 61), .mv 61 (.s 11), false⟩,
    ⟨(some (60, true)), (some 62), .bin 62 .eql (.s 61) (.k (Value.int .i64 0)), false⟩,
    ⟨(some (57, false)), (some 63), .pk 63 (.s 60) (.s 62) (.k (Value.bool false)), false⟩,
    ⟨none, (some 64), .pk 64 (.s 57) (.k (Value.bool true)) (.s 63), true⟩,
    ⟨none, (some 65), .mv 65 (.s 64), false⟩,
    ⟨(some (65, false)), (some 66), .mv 66 (.s 11), false⟩,
    ⟨(some (65, false)), (some 67), .fa 67 2 (.s 10), false⟩,
    ⟨(some (65, false)), (some 68), .ld 68 false 1 (.s 67), false⟩,
    ⟨(some (65, false)), (some 69), .mv 69 (.s 8), false⟩,
    ⟨(some (65, false)), (some 70), .binc 70 .sub (.s 68) (.s 69), false⟩,
    ⟨(some (65, false)), (some 71), .bin 71 .neq (.s 66) (.s 70), false⟩,
    ⟨none, (some 72), .pk 72 (.s 65) (.k (Value.bool true)) (.s 71), false⟩]))
  (.cond (.s 72) (.seq (.ops [⟨none, (some 6), .mv 6 (.k (Value.int .i64 50)), false⟩])
  .ret) .skip))
  (.seq (.keep [1, 2, 10, 12, 13, 14]) (.dr [] [(false, true, ⟨none, (some 73), .fa 73 0 (.s 10), false⟩),
    (false, true, ⟨none, (some 75), .fa 75 1 (.s 10), false⟩),
    (false, true, ⟨none, (some 78), .fa 78 2 (.s 10), false⟩),
    (false, true, ⟨none, (some 80), .fa 80 3 (.s 10), false⟩),
    (false, true, ⟨none, (some 74), .ld 74 false 1 (.s 73), false⟩),
    (false, true, ⟨none, (some 76), .ld 76 false 1 (.s 75), false⟩),
    (false, true, ⟨none, (some 77), .binc 77 .add (.s 74) (.s 76), false⟩),
    (false, true, ⟨none, (some 7), .mv 7 (.s 77), false⟩),
    (true, true, ⟨none, (some 79), .ld 79 false 1 (.s 78), false⟩),
    (true, true, ⟨none, (some 81), .ld 81 false 1 (.s 80), false⟩),
    (false, true, ⟨none, (some 82), .binc 82 .add (.s 79) (.s 81), true⟩),
    (false, true, ⟨none, (some 8), .mv 8 (.s 82), false⟩)])))))))
  (.ops [⟨none, (some 83), .binc 83 .add (.s 14) (.k (Value.int .i64 1)), false⟩,
    ⟨none, (some 14), .mv 14 (.s 83), false⟩])))))))
  (.seq (.seq (.seq (.keep [1, 2, 7, 8]) (.ops [⟨none, (some 84), .mv 84 (.s 7), false⟩,
    ⟨none, (some 85), .mv 85 (.s 1), false⟩,
    ⟨none, (some 86), .bin 86 .gtr (.s 84) (.s 85), false⟩,
    ⟨none, (some 87), .mv 87 (.s 86), false⟩,
    ⟨(some (87, false)), (some 88), .mv 88 (.s 8), false⟩,
    ⟨(some (87, false)), (some 89), .mv 89 (.s 2), false⟩,
    ⟨(some (87, false)), (some 90), .bin 90 .gtr (.s 88) (.s 89), false⟩,
    ⟨none, (some 91), .pk 91 (.s 87) (.k (Value.bool true)) (.s 90), false⟩,
    ⟨none, (some 92), .mv 92 (.s 91), false⟩,
    ⟨(some (92, false)), (some 93), .mv 93 (.s 1), true⟩,
    ⟨(some (92, false)), (some 94), .mv 94 (.s 7), false⟩,
    ⟨(some (92, false)), (some 95), .binc 95 .sub (.s 93) (.s 94), false⟩,
    ⟨(some (92, false)), (some 96), .mv 96 (.s 2), false⟩,
    ⟨(some (92, false)), (some 97), .mv 97 (.s 8), false⟩,
    ⟨(some (92, false)), (some 98), .binc 98 .sub (.s 96) (.s 97), false⟩,
    ⟨(some (92, false)), (some 99), .bin 99 .neq (.s 95) (.s 98), false⟩,
    ⟨none, (some 100), .pk 100 (.s 92) (.k (Value.bool true)) (.s 99), false⟩]))
  (.cond (.s 100) (.seq (.ops [⟨none, (some 6), .mv 6 (.k (Value.int .i64 50)), false⟩])
  .ret) .skip))
  (.seq (.ops [⟨none, (some 6), .mv 6 (.k (Value.int .i64 0)), false⟩])
  .ret)))))
theorem cc18 : (Tryd.f18.body).bind (cc Tryd.prog Tryd.f18.ntmps A18) = some S18 := by kernel_rfl
def R18 : List RR := [.sl 6]
theorem cr18 : Tryd.f18.results.toList.map (crr Tryd.prog) = R18.map some := by kernel_rfl
theorem nm18 : (Tryd.f18.name == "runtime.NumGoroutine") = false := by kernel_rfl
theorem fn18 : Tryd.prog.funcs[18]? = some Tryd.f18 := by kernel_rfl
theorem bd18 : ∃ b, Tryd.f18.body = some b ∧ cc Tryd.prog Tryd.f18.ntmps A18 b = some S18 := Option.bind_eq_some_iff.1 cc18
theorem sd18 {G : World → Prop} {T : FuncId → Contract} {C : Contract} (hT : ∀ f, Sound G Tryd.prog f (T f)) (hl : C.lawful) (hC : ∀ args st K, C.wp args st K → args.length ≤ 101 ∧ ∃ os op, xv T st.n S18 (st0 args st) (retK R18 st.n os K) (panK st.n op K)) (hit : SoundIt G Tryd.prog 18 C.it := by exact SoundIt.none) : Sound G Tryd.prog 18 C := by
  obtain ⟨b, hb, hc⟩ := bd18
  rw [xv_eq] at hC
  exact sound_of_ev mo fn18 hb nm18 hc cr18 hT hl hit hC

/-! 30: redline/edits.count -/
def A30 : Ann := ⟨fun _ _ => 0, fun _ => none, fun r => if r = 1 then some (false, [0]) else none, fun _ => []⟩
def S30 : SCode :=
  (.seq (.ops [⟨none, (some 2), .mv 2 (.k (Value.bool false)), false⟩])
  (.seq (.seq (.keep [0]) (.ops [⟨none, (some 3), .mv 3 (.s 0), false⟩,
    ⟨none, (some 4), .bin 4 .geq (.s 3) (.k (Value.int .i64 0)), false⟩,
    ⟨none, (some 5), .mv 5 (.s 4), false⟩,
    ⟨(some (5, true)), (some 6), .mv 6 (.s 0), false⟩,
    ⟨(some (5, true)), (some 7), .bin 7 .leq (.s 6) (.k (Value.int .i64 2147483647)), false⟩,
    ⟨none, (some 8), .pk 8 (.s 5) (.s 7) (.k (Value.bool false)), false⟩,
    ⟨none, (some 2), .mv 2 (.s 8), false⟩]))
  .ret))
theorem cc30 : (Tryd.f30.body).bind (cc Tryd.prog Tryd.f30.ntmps A30) = some S30 := by kernel_rfl
def R30 : List RR := [.sl 2]
theorem cr30 : Tryd.f30.results.toList.map (crr Tryd.prog) = R30.map some := by kernel_rfl
theorem nm30 : (Tryd.f30.name == "runtime.NumGoroutine") = false := by kernel_rfl
theorem fn30 : Tryd.prog.funcs[30]? = some Tryd.f30 := by kernel_rfl
theorem bd30 : ∃ b, Tryd.f30.body = some b ∧ cc Tryd.prog Tryd.f30.ntmps A30 b = some S30 := Option.bind_eq_some_iff.1 cc30
theorem sd30 {G : World → Prop} {T : FuncId → Contract} {C : Contract} (hT : ∀ f, Sound G Tryd.prog f (T f)) (hl : C.lawful) (hC : ∀ args st K, C.wp args st K → args.length ≤ 9 ∧ ∃ os op, xv T st.n S30 (st0 args st) (retK R30 st.n os K) (panK st.n op K)) (hit : SoundIt G Tryd.prog 30 C.it := by exact SoundIt.none) : Sound G Tryd.prog 30 C := by
  obtain ⟨b, hb, hc⟩ := bd30
  rw [xv_eq] at hC
  exact sound_of_ev mo fn30 hb nm30 hc cr30 hT hl hit hC

/-! 24: redline/lines.Bare -/
def A24 : Ann := ⟨fun _ _ => 0, fun _ => none, fun r => if r = 1 then some (false, [0]) else none, fun _ => []⟩
def S24 : SCode :=
  (.seq (.ops [⟨none, (some 2), .mv 2 (.k (Value.string ⟨#[]⟩)), false⟩,
    ⟨none, (some 3), .mv 3 (.k (Value.bool false)), false⟩])
  (.seq (.seq (.keep [0]) (.ops [⟨none, (some 4), .mv 4 (.s 0), false⟩,
    ⟨none, (some 5), .call (some 5) 36 false [(.s 4), (.k (Value.string ⟨#[10]⟩))], false⟩,
    ⟨none, (some 6), .ex 6 (.s 5) 0, false⟩,
    ⟨none, (some 7), .ex 7 (.s 5) 1, false⟩,
    ⟨none, (some 2), .mv 2 (.s 6), false⟩,
    ⟨none, (some 3), .mv 3 (.s 7), false⟩]))
  .ret))
theorem cc24 : (Tryd.f24.body).bind (cc Tryd.prog Tryd.f24.ntmps A24) = some S24 := by kernel_rfl
def R24 : List RR := [.sl 2, .sl 3]
theorem cr24 : Tryd.f24.results.toList.map (crr Tryd.prog) = R24.map some := by kernel_rfl
theorem nm24 : (Tryd.f24.name == "runtime.NumGoroutine") = false := by kernel_rfl
theorem fn24 : Tryd.prog.funcs[24]? = some Tryd.f24 := by kernel_rfl
theorem bd24 : ∃ b, Tryd.f24.body = some b ∧ cc Tryd.prog Tryd.f24.ntmps A24 b = some S24 := Option.bind_eq_some_iff.1 cc24
theorem sd24 {G : World → Prop} {T : FuncId → Contract} {C : Contract} (hT : ∀ f, Sound G Tryd.prog f (T f)) (hl : C.lawful) (hC : ∀ args st K, C.wp args st K → args.length ≤ 8 ∧ ∃ os op, xv T st.n S24 (st0 args st) (retK R24 st.n os K) (panK st.n op K)) (hit : SoundIt G Tryd.prog 24 C.it := by exact SoundIt.none) : Sound G Tryd.prog 24 C := by
  obtain ⟨b, hb, hc⟩ := bd24
  rw [xv_eq] at hC
  exact sound_of_ev mo fn24 hb nm24 hc cr24 hT hl hit hC

/-! 36: strings.CutSuffix -/
def A36 : Ann := ⟨fun _ _ => 0, fun _ => none, fun r => if r = 1 then some (false, [0, 1]) else none, fun _ => []⟩
def S36 : SCode :=
  (.seq (.ops [⟨none, (some 4), .mv 4 (.k (Value.string ⟨#[]⟩)), false⟩,
    ⟨none, (some 5), .mv 5 (.k (Value.bool false)), false⟩])
  (.seq (.seq (.keep [0, 1]) (.ops [⟨none, (some 6), .mv 6 (.s 0), false⟩,
    ⟨none, (some 7), .mv 7 (.s 1), false⟩,
    ⟨none, (some 8), .call (some 8) 47 false [(.s 6), (.s 7)], false⟩,
    ⟨none, (some 9), .ex 9 (.s 8) 0, false⟩,
    ⟨none, (some 10), .ex 10 (.s 8) 1, false⟩,
    ⟨none, (some 4), .mv 4 (.s 9), false⟩,
    ⟨none, (some 5), .mv 5 (.s 10), false⟩]))
  .ret))
theorem cc36 : (Tryd.f36.body).bind (cc Tryd.prog Tryd.f36.ntmps A36) = some S36 := by kernel_rfl
def R36 : List RR := [.sl 4, .sl 5]
theorem cr36 : Tryd.f36.results.toList.map (crr Tryd.prog) = R36.map some := by kernel_rfl
theorem nm36 : (Tryd.f36.name == "runtime.NumGoroutine") = false := by kernel_rfl
theorem fn36 : Tryd.prog.funcs[36]? = some Tryd.f36 := by kernel_rfl
theorem bd36 : ∃ b, Tryd.f36.body = some b ∧ cc Tryd.prog Tryd.f36.ntmps A36 b = some S36 := Option.bind_eq_some_iff.1 cc36
theorem sd36 {G : World → Prop} {T : FuncId → Contract} {C : Contract} (hT : ∀ f, Sound G Tryd.prog f (T f)) (hl : C.lawful) (hC : ∀ args st K, C.wp args st K → args.length ≤ 11 ∧ ∃ os op, xv T st.n S36 (st0 args st) (retK R36 st.n os K) (panK st.n op K)) (hit : SoundIt G Tryd.prog 36 C.it := by exact SoundIt.none) : Sound G Tryd.prog 36 C := by
  obtain ⟨b, hb, hc⟩ := bd36
  rw [xv_eq] at hC
  exact sound_of_ev mo fn36 hb nm36 hc cr36 hT hl hit hC

/-! 47: internal/stringslite.CutSuffix -/
def A47 : Ann := ⟨fun _ _ => 0, fun _ => none, fun r => if r = 1 then some (false, [0, 1]) else if r = 2 then some (false, [0]) else if r = 3 then some (false, [0, 1]) else none, fun _ => []⟩
def S47 : SCode :=
  (.seq (.ops [⟨none, (some 4), .mv 4 (.k (Value.string ⟨#[]⟩)), false⟩,
    ⟨none, (some 5), .mv 5 (.k (Value.bool false)), false⟩])
  (.seq (.seq (.seq (.keep [0, 1]) (.ops [⟨none, (some 6), .mv 6 (.s 0), false⟩,
    ⟨none, (some 7), .mv 7 (.s 1), false⟩,
    ⟨none, (some 8), .call (some 8) 39 false [(.s 6), (.s 7)], false⟩,
    ⟨none, (some 9), .not 9 (.s 8), false⟩]))
  (.cond (.s 9) (.seq (.seq (.keep [0]) (.ops [⟨none, (some 10), .mv 10 (.s 0), false⟩,
    ⟨none, (some 4), .mv 4 (.s 10), false⟩,
    ⟨none, (some 5), .mv 5 (.k (Value.bool false)), false⟩]))
  .ret) .skip))
  (.seq (.seq (.keep [0, 1]) (.ops [⟨none, (some 11), .mv 11 (.s 0), false⟩,
    ⟨none, (some 12), .mv 12 (.s 0), false⟩,
    ⟨none, (some 13), .lens 13 (.s 12), false⟩,
    ⟨none, (some 14), .mv 14 (.s 1), false⟩,
    ⟨none, (some 15), .lens 15 (.s 14), false⟩,
    ⟨none, (some 16), .binc 16 .sub (.s 13) (.s 15), false⟩,
    ⟨none, (some 17), .sls 17 (.s 11) none (some (.s 16)), false⟩,
    ⟨none, (some 4), .mv 4 (.s 17), false⟩,
    ⟨none, (some 5), .mv 5 (.k (Value.bool true)), false⟩]))
  .ret)))
theorem cc47 : (Tryd.f47.body).bind (cc Tryd.prog Tryd.f47.ntmps A47) = some S47 := by kernel_rfl
def R47 : List RR := [.sl 4, .sl 5]
theorem cr47 : Tryd.f47.results.toList.map (crr Tryd.prog) = R47.map some := by kernel_rfl
theorem nm47 : (Tryd.f47.name == "runtime.NumGoroutine") = false := by kernel_rfl
theorem fn47 : Tryd.prog.funcs[47]? = some Tryd.f47 := by kernel_rfl
theorem bd47 : ∃ b, Tryd.f47.body = some b ∧ cc Tryd.prog Tryd.f47.ntmps A47 b = some S47 := Option.bind_eq_some_iff.1 cc47
theorem sd47 {G : World → Prop} {T : FuncId → Contract} {C : Contract} (hT : ∀ f, Sound G Tryd.prog f (T f)) (hl : C.lawful) (hC : ∀ args st K, C.wp args st K → args.length ≤ 18 ∧ ∃ os op, xv T st.n S47 (st0 args st) (retK R47 st.n os K) (panK st.n op K)) (hit : SoundIt G Tryd.prog 47 C.it := by exact SoundIt.none) : Sound G Tryd.prog 47 C := by
  obtain ⟨b, hb, hc⟩ := bd47
  rw [xv_eq] at hC
  exact sound_of_ev mo fn47 hb nm47 hc cr47 hT hl hit hC

/-! 39: internal/stringslite.HasSuffix -/
def A39 : Ann := ⟨fun r i => if r = 1 ∧ i = 8 then 1 else if r = 1 ∧ i = 10 then 1 else 0, fun _ => none, fun r => if r = 1 then some (false, [0, 1]) else none, fun _ => []⟩
def S39 : SCode :=
  (.seq (.ops [⟨none, (some 4), .mv 4 (.k (Value.bool false)), false⟩])
  (.seq (.seq (.keep [0, 1]) (.ops [⟨none, (some 5), .mv 5 (.s 0), false⟩,
    ⟨none, (some 6), .lens 6 (.s 5), false⟩,
    ⟨none, (some 7), .mv 7 (.s 1), false⟩,
    ⟨none, (some 8), .lens 8 (.s 7), false⟩,
    ⟨none, (some 9), .bin 9 .geq (.s 6) (.s 8), false⟩,
    ⟨none, (some 10), .mv 10 (.s 9), false⟩,
    ⟨(some (10, true)), (some 11), .mv 11 (.s 0), false⟩,
    ⟨(some (10, true)), (some 12), .mv 12 (.s 0), false⟩,
    ⟨(some (10, true)), (some 13), .lens 13 (.s 12), false⟩,
    ⟨(some (10, true)), (some 14), .mv 14 (.s 1), true⟩,
    ⟨(some (10, true)), (some 15), .lens 15 (.s 14), false⟩,
    ⟨(some (10, true)), (some 16), .binc 16 .sub (.s 13) (.s 15), false⟩,
    ⟨(some (10, true)), (some 17), .sls 17 (.s 11) (some (.s 16)) none, false⟩,
    ⟨(some (10, true)), (some 18), .mv 18 (.s 1), false⟩,
    ⟨(some (10, true)), (some 19), .bin 19 .eql (.s 17) (.s 18), false⟩,
    ⟨none, (some 20), .pk 20 (.s 10) (.s 19) (.k (Value.bool false)), false⟩,
    ⟨none, (some 4), .mv 4 (.s 20), false⟩]))
  .ret))
theorem cc39 : (Tryd.f39.body).bind (cc Tryd.prog Tryd.f39.ntmps A39) = some S39 := by kernel_rfl
def R39 : List RR := [.sl 4]
theorem cr39 : Tryd.f39.results.toList.map (crr Tryd.prog) = R39.map some := by kernel_rfl
theorem nm39 : (Tryd.f39.name == "runtime.NumGoroutine") = false := by kernel_rfl
theorem fn39 : Tryd.prog.funcs[39]? = some Tryd.f39 := by kernel_rfl
theorem bd39 : ∃ b, Tryd.f39.body = some b ∧ cc Tryd.prog Tryd.f39.ntmps A39 b = some S39 := Option.bind_eq_some_iff.1 cc39
theorem sd39 {G : World → Prop} {T : FuncId → Contract} {C : Contract} (hT : ∀ f, Sound G Tryd.prog f (T f)) (hl : C.lawful) (hC : ∀ args st K, C.wp args st K → args.length ≤ 21 ∧ ∃ os op, xv T st.n S39 (st0 args st) (retK R39 st.n os K) (panK st.n op K)) (hit : SoundIt G Tryd.prog 39 C.it := by exact SoundIt.none) : Sound G Tryd.prog 39 C := by
  obtain ⟨b, hb, hc⟩ := bd39
  rw [xv_eq] at hC
  exact sound_of_ev mo fn39 hb nm39 hc cr39 hT hl hit hC

end Go.Proofs.YtlghobefhmpfkaaDoor
/-
  DERIVED: THE SHELF's CONTRACTS AT THIS DUMP, IN PLAIN WORDS (tools/lay-plain.mjs out of 'TrydShelfPart.lean', which tools/lay-shelf.mjs wrote): THE SAME DECLARATIONS UNDER THE SAME NAMES: 'import', 'namespace', 'open', 'def', 'theorem' AND NOTHING ELSE: no command of the shelf's: FOR A HAND-IN. Each laying: the table of numbers ('.._ren') and one theorem, a field a fact of the dump's own or the kernel's comparison; each contract: ONE APPLICATION.
-/
namespace Go.Proofs
open Go.Shelf
def Tryd.laysM171_ren : Go.Shelf.Ren := ⟨fun | 171 => 32 | 243 => 42 | 246 => 54 | 283 => 64 | 284 => 65 | 285 => 66 | 286 => 67 | 129 => 72 | 317 => 71 | 318 => 73 | 319 => 74 | 320 => 75 | 337 => 78 | 338 => 79 | n => n, fun | 3 => 3 | 9 => 9 | 2 => 2 | 4 => 4 | 171 => 99 | 0 => 0 | 53 => 52 | 37 => 55 | 5 => 5 | 173 => 102 | 212 => 115 | 51 => 96 | 20 => 20 | 213 => 116 | 46 => 87 | 232 => 124 | 233 => 125 | n => n, fun | 17 => 5 | 18 => 6 | 19 => 7 | n => n⟩
theorem Tryd.laysM171 : Go.Proofs.LaysM.n171 Tryd.prog Tryd.laysM171_ren := {
  mixed := by kernel_rfl
  f129 := Tryd.func72.trans (congrArg some (by kernel_rfl))
  f171 := Tryd.func32.trans (congrArg some (by kernel_rfl))
  f243 := Tryd.func42.trans (congrArg some (by kernel_rfl))
  f246 := Tryd.func54.trans (congrArg some (by kernel_rfl))
  f283 := Tryd.func64.trans (congrArg some (by kernel_rfl))
  f284 := Tryd.func65.trans (congrArg some (by kernel_rfl))
  f285 := Tryd.func66.trans (congrArg some (by kernel_rfl))
  f286 := Tryd.func67.trans (congrArg some (by kernel_rfl))
  f317 := Tryd.func71.trans (congrArg some (by kernel_rfl))
  f318 := Tryd.func73.trans (congrArg some (by kernel_rfl))
  f319 := Tryd.func74.trans (congrArg some (by kernel_rfl))
  f320 := Tryd.func75.trans (congrArg some (by kernel_rfl))
  f337 := Tryd.func78.trans (congrArg some (by kernel_rfl))
  f338 := Tryd.func79.trans (congrArg some (by kernel_rfl))
  t0 := Tryd.underlying0
  a0 := Tryd.isAgg0
  z0 := Tryd.sizeOf0
  v0 := Tryd.zeroValue0
  t2 := Tryd.underlying2
  a2 := Tryd.isAgg2
  z2 := Tryd.sizeOf2
  v2 := Tryd.zeroValue2
  t3 := Tryd.underlying3
  a3 := Tryd.isAgg3
  z3 := Tryd.sizeOf3
  v3 := Tryd.zeroValue3
  t4 := Tryd.underlying4
  a4 := Tryd.isAgg4
  z4 := Tryd.sizeOf4
  v4 := Tryd.zeroValue4
  t5 := Tryd.underlying5
  a5 := Tryd.isAgg5
  z5 := Tryd.sizeOf5
  v5 := Tryd.zeroValue5
  t9 := Tryd.underlying9
  a9 := Tryd.isAgg9
  z9 := Tryd.sizeOf9
  v9 := Tryd.zeroValue9
  t20 := Tryd.underlying20
  a20 := Tryd.isAgg20
  z20 := Tryd.sizeOf20
  v20 := Tryd.zeroValue20
  t37 := Tryd.underlying55
  a37 := Tryd.isAgg55
  z37 := Tryd.sizeOf55
  v37 := Tryd.zeroValue55
  t46 := Tryd.underlying87
  a46 := Tryd.isAgg87
  z46 := Tryd.sizeOf87
  v46 := Tryd.zeroValue87
  t51 := Tryd.underlying96
  a51 := Tryd.isAgg96
  z51 := Tryd.sizeOf96
  v51 := Tryd.zeroValue96
  t53 := Tryd.underlying52
  a53 := Tryd.isAgg52
  z53 := Tryd.sizeOf52
  v53 := Tryd.zeroValue52
  t171 := Tryd.underlying99
  a171 := Tryd.isAgg99
  z171 := Tryd.sizeOf99
  v171 := Tryd.zeroValue99
  t173 := Tryd.underlying102
  a173 := Tryd.isAgg102
  z173 := Tryd.sizeOf102
  v173 := Tryd.zeroValue102
  t212 := Tryd.underlying115
  a212 := Tryd.isAgg115
  z212 := Tryd.sizeOf115
  v212 := Tryd.zeroValue115
  t213 := Tryd.underlying116
  a213 := Tryd.isAgg116
  z213 := Tryd.sizeOf116
  t232 := Tryd.underlying124
  a232 := Tryd.isAgg124
  z232 := Tryd.sizeOf124
  v232 := Tryd.zeroValue124
  t233 := Tryd.underlying125
  a233 := Tryd.isAgg125
  z233 := Tryd.sizeOf125
  v233 := Tryd.zeroValue125
  g17 := by kernel_rfl
  g18 := by kernel_rfl
  g19 := by kernel_rfl
  i0 := by kernel_rfl
  i2 := by kernel_rfl
  i3 := by kernel_rfl
  i4 := by kernel_rfl
  i5 := by kernel_rfl
  i9 := by kernel_rfl
  i20 := by kernel_rfl
  i37 := by kernel_rfl
  i46 := by kernel_rfl
  i51 := by kernel_rfl
  i53 := by kernel_rfl
  i171 := by kernel_rfl
  i173 := by kernel_rfl
  i212 := by kernel_rfl
  i232 := by kernel_rfl
  i233 := by kernel_rfl
  m17 := by kernel_rfl
  m18 := by kernel_rfl
  m19 := by kernel_rfl }
open Go.RowKit Go.Sort Go.Lib in
/-- strconv.Itoa: "Itoa is equivalent to FormatInt(int64(i), 10).": i's DECIMAL NUMERAL ('Lib.itoa': a '-' where i is negative, then the digits), FOR EVERY int. The world behind the call: the world before it, new blocks behind the heap (the library's 'var a [24]byte'), draws. (LAID: no walk: one application.) -/
theorem Tryd.strconv_Itoa (n : Int) (h0 : -9223372036854775808 ≤ n) (h1 : n ≤ 9223372036854775807) (w : World) (htab : Lib.TabIs Tryd.prog w "internal/strconv.uint64pow10" .u64 Lib.pow10Tab) :
    Calls Tryd.prog 32 #[.int .i64 n] w fun e w' => e = .returned (.string ⟨(Lib.itoa n).toArray⟩) ∧ ∃ k os, w' = grow (w.drewN k) os := Any.strconv_Itoa Tryd.laysM171 n h0 h1 w htab
end Go.Proofs
set_option linter.unusedVariables false
set_option linter.unusedSimpArgs false
namespace Go.Proofs.YtlghobefhmpfkaaDoor
open Go Go.Ev
set_option maxRecDepth 100000
variable {G : World → Prop}
/-- The variables that strconv.Itoa reads. -/
def Pow10 (w : World) : Prop := Lib.TabIs Tryd.prog w "internal/strconv.uint64pow10" .u64 Lib.pow10Tab
def CItoa : Contract := pureC fun args => match args with
  | [.d (.v (.int .i64 n))] => some (-9223372036854775808 ≤ n ∧ n ≤ 9223372036854775807, .d (.v (str (Lib.itoa n))))
  | _ => none
theorem sItoa (hG : ∀ w, G w → Pow10 w) : Sound G Tryd.prog 32 CItoa := by
  refine sound_lib ⟨Tryd.f32, by kernel_rfl, by kernel_rfl, by kernel_rfl⟩ fun args p x h hp => ?_
  split at h <;> simp only [Option.some.injEq, Prod.mk.injEq, reduceCtorEq] at h
  obtain ⟨rfl, rfl⟩ := h
  refine ⟨_, fun m n c => ⟨rfl, rfl⟩, fun w hw m c vs hc hv => ?_⟩
  match vs, hv with
  | [a], hv =>
    simp only [CnL, and_true] at hv
    rw [of_v hv]
    refine (Tryd.strconv_Itoa _ hp.1 hp.2 w (hG w hw)).mono ?_
    rintro e w' ⟨rfl, k, os, rfl⟩
    refine ⟨rfl, ⟨rfl, rfl, rfl, ?_, fun b hb => ?_⟩⟩
    · simp [«Sort».grow, World.drewN]
    · simp [«Sort».grow, World.drewN, Array.getElem?_append_left hb]
  | [], hv => simp [CnL] at hv
  | _ :: _ :: _, hv => simp [CnL] at hv
theorem itoa_len {n : Int} (h : -9223372036854775808 ≤ n ∧ n ≤ 9223372036854775807) : (Lib.itoa n).length ≤ 21 := Lib.itoa_length_le n h.1 h.2
theorem s20 (hG : ∀ w, G w → Pow10 w) : Sound G Tryd.prog 20 CItoa := by
  refine sd20 (T := tabT [(32, CItoa)]) (tab_cons (sItoa hG) tab_nil) (pureC_lawful _) (pure_hX fun args p x K h hp hk => ?_)
  split at h <;> simp only [Option.some.injEq, Prod.mk.injEq, reduceCtorEq] at h
  obtain ⟨rfl, rfl⟩ := h
  refine ⟨Nat.le_of_ble_eq_true rfl, ?_⟩
  simp -dsimp -implicitDefEqProofs only [S20, R20, CItoa, ↓Ev.xStp_eq, ↓Ev.P, Ev.Q, Bool.cond_true, Bool.cond_false, eq_self, forall_eq_or_imp, implies_true, forall_const, forall_eq, ↓reduceIte, reduceIte, Nat.reduceEqDiff, Nat.reduceAdd, reduceCtorEq, Nat.reduceSub, Int.reduceToNat, Int.reduceLE, Int.reduceLT, Int.reduceNeg, Nat.reduceBEq, Nat.reduceMul, Nat.reduceLeDiff, Nat.reduceMod, UInt8.reduceOfNat, Nat.reduceLT, Int.reduceEq, Int.reduceAdd, Int.reduceSub, Int.reduceMul]
  exact ⟨hp, hk⟩
def C17 : Contract := pureC fun args => match args with
  | [.d (.v (.int .u64 u))] => some (0 ≤ u ∧ u < 18446744073709551616, .d (.v (str (Lib.decDigits u.toNat))))
  | _ => none
theorem dig1 (u : Nat) : IntKind.u8.wrap (IntKind.u64.wrap (48 + ((u : Int)).tmod 10)) = ((48 + u % 10 : Nat) : Int) := by
  have : ((u : Int)).tmod 10 = ((u % 10 : Nat) : Int) := by rw [Int.tmod_eq_emod_of_nonneg (by omega)]; omega
  rw [this]
  simp only [IntKind.wrap, IntKind.bits, IntKind.signed]
  simp
  omega
theorem dig2 (u : Nat) (h : u < 18446744073709551616) : IntKind.u64.wrap (((u : Int)).tdiv 10) = ((u / 10 : Nat) : Int) := by
  have : ((u : Int)).tdiv 10 = ((u / 10 : Nat) : Int) := by rw [Int.tdiv_eq_ediv_of_nonneg (by omega)]; omega
  rw [this]
  simp only [IntKind.wrap, IntKind.bits, IntKind.signed]
  simp
  omega
theorem dec_big {u : Nat} (h : ¬ u < 10) : Lib.decDigits u = Lib.decDigits (u / 10) ++ [UInt8.ofNat (48 + u % 10)] := by rw [Lib.decDigits, dif_neg h]
theorem dec_small {u : Nat} (h : u < 10) : Lib.decDigits u = [UInt8.ofNat (48 + u % 10)] := by rw [Lib.decDigits, dif_pos h, Nat.mod_eq_of_lt h]
theorem s17 : Sound G Tryd.prog 17 C17 := by
  refine sd17 (T := tabT []) tab_nil (pureC_lawful _) (pure_hX fun args p x K h hp hk => ?_)
  split at h <;> simp only [Option.some.injEq, Prod.mk.injEq, reduceCtorEq] at h
  obtain ⟨rfl, rfl⟩ := h
  refine ⟨Nat.le_of_ble_eq_true rfl, ?_⟩
  rename_i u
  obtain ⟨u, rfl⟩ := Int.eq_ofNat_of_zero_le hp.1
  have hu : u < 18446744073709551616 := by omega
  simp only [Int.toNat_natCast] at hk
  simp -dsimp -implicitDefEqProofs only [S17, R17, dig1, dig2 u hu, ↓Ev.xStp_eq, ↓Ev.P, Ev.Q, Bool.cond_true, Bool.cond_false, eq_self, forall_eq_or_imp, implies_true, forall_const, forall_eq, ↓reduceIte, reduceIte, Nat.reduceEqDiff, Nat.reduceAdd, reduceCtorEq, Nat.reduceSub, Int.reduceToNat, Int.reduceLE, Int.reduceLT, Int.reduceNeg, Nat.reduceBEq, Nat.reduceMul, Nat.reduceLeDiff, Nat.reduceMod, UInt8.reduceOfNat, Nat.reduceLT, Int.reduceEq, Int.reduceAdd, Int.reduceSub, Int.reduceMul]
  have hlen : ∀ u : Nat, u < 18446744073709551616 → (Lib.decDigits u).length ≤ 21 := fun u h => by
    rw [Lib.decDigits_length]; have := Lib.nDigits_le20 u h; omega
  refine xLoop_intro (fun n st => ∃ (k : Nat) (s : List UInt8), n = k ∧ k < 18446744073709551616 ∧ (Lib.decDigits u = if k = 0 then s else Lib.decDigits k ++ s) ∧
      st = ⟨[(0, .d (.v (.int .u64 k))), (3, .d (.v (.string ⟨s.toArray⟩)))], 0, []⟩) (u / 10) [] ?_ ?_ ?_
  · simp -dsimp -implicitDefEqProofs only [↓Ev.xStp_eq, ↓Ev.P, Ev.Q, Bool.cond_true, Bool.cond_false, eq_self, forall_eq_or_imp, implies_true, forall_const, forall_eq, ↓reduceIte, reduceIte, Nat.reduceEqDiff, Nat.reduceAdd, reduceCtorEq, Nat.reduceSub, Int.reduceToNat, Int.reduceLE, Int.reduceLT, Int.reduceNeg, Nat.reduceBEq, Nat.reduceMul, Nat.reduceLeDiff, Nat.reduceMod, UInt8.reduceOfNat, Nat.reduceLT, Int.reduceEq, Int.reduceAdd, Int.reduceSub, Int.reduceMul]
  · simp -dsimp -implicitDefEqProofs only [↓Ev.xStp_eq, ↓Ev.P, Ev.Q, Bool.cond_true, Bool.cond_false, eq_self, forall_eq_or_imp, implies_true, forall_const, forall_eq, ↓reduceIte, reduceIte, Nat.reduceEqDiff, Nat.reduceAdd, reduceCtorEq, Nat.reduceSub, Int.reduceToNat, Int.reduceLE, Int.reduceLT, Int.reduceNeg, Nat.reduceBEq, Nat.reduceMul, Nat.reduceLeDiff, Nat.reduceMod, UInt8.reduceOfNat, Nat.reduceLT, Int.reduceEq, Int.reduceAdd, Int.reduceSub, Int.reduceMul]
    refine ⟨u / 10, _, rfl, by omega, ?_, rfl⟩
    by_cases h : u < 10
    · rw [if_pos (by omega), dec_small h]
    · rw [if_neg (by omega), dec_big h]
  · rintro n st ⟨k, s, hn, hk2, hd, rfl⟩
    simp -dsimp -implicitDefEqProofs only [dig1, dig2 k hk2, ↓Ev.xStp_eq, ↓Ev.P, Ev.Q, Bool.cond_true, Bool.cond_false, eq_self, forall_eq_or_imp, implies_true, forall_const, forall_eq, ↓reduceIte, reduceIte, Nat.reduceEqDiff, Nat.reduceAdd, reduceCtorEq, Nat.reduceSub, Int.reduceToNat, Int.reduceLE, Int.reduceLT, Int.reduceNeg, Nat.reduceBEq, Nat.reduceMul, Nat.reduceLeDiff, Nat.reduceMod, UInt8.reduceOfNat, Nat.reduceLT, Int.reduceEq, Int.reduceAdd, Int.reduceSub, Int.reduceMul]
    repeat' (first | with_reducible assumption | refine And.intro ?_ ?_ | intro _)
    · rename_i h
      have hl := congrArg List.length hd
      rw [if_neg (by omega), List.length_append] at hl
      have := hlen u hu
      omega
    · rename_i h
      refine xAgain_intro (k / 10) [] (by omega) (by simp -dsimp -implicitDefEqProofs only [↓Ev.xStp_eq, ↓Ev.P, Ev.Q, Bool.cond_true, Bool.cond_false, eq_self, forall_eq_or_imp, implies_true, forall_const, forall_eq, ↓reduceIte, reduceIte, Nat.reduceEqDiff, Nat.reduceAdd, reduceCtorEq, Nat.reduceSub, Int.reduceToNat, Int.reduceLE, Int.reduceLT, Int.reduceNeg, Nat.reduceBEq, Nat.reduceMul, Nat.reduceLeDiff, Nat.reduceMod, UInt8.reduceOfNat, Nat.reduceLT, Int.reduceEq, Int.reduceAdd, Int.reduceSub, Int.reduceMul]) ⟨k / 10, UInt8.ofNat (48 + k % 10) :: s, rfl, by omega, ?_, ?_⟩
      rotate_left
      · simp -dsimp -implicitDefEqProofs only [↓Ev.xStp_eq, ↓Ev.P, Ev.Q, Bool.cond_true, Bool.cond_false, eq_self, forall_eq_or_imp, implies_true, forall_const, forall_eq, ↓reduceIte, reduceIte, Nat.reduceEqDiff, Nat.reduceAdd, reduceCtorEq, Nat.reduceSub, Int.reduceToNat, Int.reduceLE, Int.reduceLT, Int.reduceNeg, Nat.reduceBEq, Nat.reduceMul, Nat.reduceLeDiff, Nat.reduceMod, UInt8.reduceOfNat, Nat.reduceLT, Int.reduceEq, Int.reduceAdd, Int.reduceSub, Int.reduceMul]
      rw [hd, if_neg (by omega)]
      by_cases h : k < 10
      · rw [if_pos (by omega), dec_small h]; rfl
      · rw [if_neg (by omega), dec_big h]; simp
    · rename_i h
      rw [if_pos (by omega)] at hd
      rw [hd] at hk; exact hk
theorem s8 : Sound G Tryd.prog 8 CItoa := by
  refine sd8 (T := tabT [(17, C17)]) (tab_cons s17 tab_nil) (pureC_lawful _) (pure_hX fun args p x K h hp hk => ?_)
  split at h <;> simp only [Option.some.injEq, Prod.mk.injEq, reduceCtorEq] at h
  obtain ⟨rfl, rfl⟩ := h
  refine ⟨Nat.le_of_ble_eq_true rfl, ?_⟩
  rename_i n
  have hlen : ∀ u : Nat, u < 18446744073709551616 → (Lib.decDigits u).length ≤ 21 := fun u h => by
    rw [Lib.decDigits_length]; have := Lib.nDigits_le20 u h; omega
  by_cases h0 : n < 0
  · have e1 : IntKind.u64.wrap (0 - IntKind.u64.wrap n) = ((n.natAbs : Nat) : Int) := by
      simp only [IntKind.wrap, IntKind.bits, IntKind.signed]
      simp
      omega
    rw [show Lib.itoa n = 45 :: Lib.decDigits n.natAbs by rw [Lib.itoa, if_pos h0]] at hk
    have := hlen n.natAbs (by omega)
    simp -dsimp -implicitDefEqProofs only [S8, R8, C17, e1, h0, ↓Ev.xStp_eq, ↓Ev.P, Ev.Q, Bool.cond_true, Bool.cond_false, eq_self, forall_eq_or_imp, implies_true, forall_const, forall_eq, ↓reduceIte, reduceIte, Nat.reduceEqDiff, Nat.reduceAdd, reduceCtorEq, Nat.reduceSub, Int.reduceToNat, Int.reduceLE, Int.reduceLT, Int.reduceNeg, Nat.reduceBEq, Nat.reduceMul, Nat.reduceLeDiff, Nat.reduceMod, UInt8.reduceOfNat, Nat.reduceLT, Int.reduceEq, Int.reduceAdd, Int.reduceSub, Int.reduceMul]
    repeat' (first | with_reducible assumption | refine And.intro ?_ ?_ | intro _)
    all_goals first | omega | exact hk
  · have e1 : IntKind.u64.wrap n = ((n.toNat : Nat) : Int) := by
      simp only [IntKind.wrap, IntKind.bits, IntKind.signed]
      simp
      omega
    rw [show Lib.itoa n = Lib.decDigits n.toNat by rw [Lib.itoa, if_neg h0]] at hk
    simp -dsimp -implicitDefEqProofs only [S8, R8, C17, e1, h0, ↓Ev.xStp_eq, ↓Ev.P, Ev.Q, Bool.cond_true, Bool.cond_false, eq_self, forall_eq_or_imp, implies_true, forall_const, forall_eq, ↓reduceIte, reduceIte, Nat.reduceEqDiff, Nat.reduceAdd, reduceCtorEq, Nat.reduceSub, Int.reduceToNat, Int.reduceLE, Int.reduceLT, Int.reduceNeg, Nat.reduceBEq, Nat.reduceMul, Nat.reduceLeDiff, Nat.reduceMod, UInt8.reduceOfNat, Nat.reduceLT, Int.reduceEq, Int.reduceAdd, Int.reduceSub, Int.reduceMul]
    repeat' (first | with_reducible assumption | refine And.intro ?_ ?_ | intro _)
    all_goals first | omega | exact hk
end Go.Proofs.YtlghobefhmpfkaaDoor
set_option linter.unusedVariables false
set_option linter.unusedSimpArgs false
namespace Go.Ev
open Go
/-! Rows of texts. -/
def strRows (l : List (List UInt8)) : List (List D) := l.map fun s => [.v (.string ⟨s.toArray⟩)]
theorem strRows_len (l : List (List UInt8)) : (strRows l).length = l.length := by simp [strRows]
theorem strRows_get {l : List (List UInt8)} {i : Nat} (h : i < l.length) : (strRows l)[i]? = some [.v (.string ⟨(l.getD i []).toArray⟩)] := by
  simp [strRows, List.getD_eq_getElem?_getD, List.getElem?_eq_getElem h]
theorem strRows_all (l : List (List UInt8)) : (∀ r ∈ strRows l, r.length = 1) = True := by
  simp only [strRows, List.mem_map, eq_iff_iff, iff_true]
  rintro r ⟨s, _, rfl⟩; rfl
theorem strRows_sub (l : List (List UInt8)) (a b : Nat) : ((strRows l).take a).drop b = strRows ((l.take a).drop b) := by simp [strRows, List.map_take, List.map_drop]
def unStr : List (List D) → Option (List (List UInt8))
  | [] => some []
  | [.v (.string s)] :: r => (unStr r).map (s.data.toList :: ·)
  | _ :: _ => none
theorem unStr_rows : ∀ l : List (List UInt8), unStr (strRows l) = some l
  | [] => rfl
  | s :: l => by
    have h := unStr_rows l
    unfold strRows at h
    simp [strRows, unStr, h]
theorem unStr_eq : ∀ {rows : List (List D)} {l : List (List UInt8)}, unStr rows = some l → rows = strRows l
  | [], l, h => by simp only [unStr, Option.some.injEq] at h; subst h; rfl
  | r :: rs, l, h => by
    unfold unStr at h
    split at h
    · rename_i e; cases e
    · rename_i s r' e
      simp only [List.cons.injEq] at e
      obtain ⟨rfl, rfl⟩ := e
      obtain ⟨m, h1, rfl⟩ := Option.map_eq_some_iff.1 h
      rw [unStr_eq h1]
      simp [strRows]
    · cases h
/-! Rows of four ints. -/
def q4Row (c : Int × Int × Int × Int) : List D := [.v (.int .i64 c.1), .v (.int .i64 c.2.1), .v (.int .i64 c.2.2.1), .v (.int .i64 c.2.2.2)]
def q4Rows (l : List (Int × Int × Int × Int)) : List (List D) := l.map q4Row
theorem q4Rows_len (l : List (Int × Int × Int × Int)) : (q4Rows l).length = l.length := by simp [q4Rows]
theorem q4Rows_get {l : List (Int × Int × Int × Int)} {i : Nat} (h : i < l.length) : (q4Rows l)[i]? = some (q4Row (l.getD i (0, 0, 0, 0))) := by
  simp [q4Rows, List.getD_eq_getElem?_getD, List.getElem?_eq_getElem h]
theorem q4Rows_all (l : List (Int × Int × Int × Int)) : (∀ r ∈ q4Rows l, r.length = 4) = True := by
  simp only [q4Rows, List.mem_map, eq_iff_iff, iff_true]
  rintro r ⟨s, _, rfl⟩; rfl
def unQ4 : List (List D) → Option (List (Int × Int × Int × Int))
  | [] => some []
  | [.v (.int .i64 a), .v (.int .i64 b), .v (.int .i64 c), .v (.int .i64 d)] :: r => (unQ4 r).map ((a, b, c, d) :: ·)
  | _ :: _ => none
theorem unQ4_rows : ∀ l : List (Int × Int × Int × Int), unQ4 (q4Rows l) = some l
  | [] => rfl
  | (a, b, c, d) :: l => by
    have h := unQ4_rows l
    unfold q4Rows at h
    simp [q4Rows, q4Row, unQ4, h]
theorem unQ4_eq : ∀ {rows : List (List D)} {l : List (Int × Int × Int × Int)}, unQ4 rows = some l → rows = q4Rows l
  | [], l, h => by simp only [unQ4, Option.some.injEq] at h; subst h; rfl
  | r :: rs, l, h => by
    unfold unQ4 at h
    split at h
    · rename_i e; cases e
    · rename_i a b c d r' e
      simp only [List.cons.injEq] at e
      obtain ⟨rfl, rfl⟩ := e
      obtain ⟨m, h1, rfl⟩ := Option.map_eq_some_iff.1 h
      rw [unQ4_eq h1]
      simp [q4Rows, q4Row]
    · cases h
end Go.Ev
namespace Go.Proofs.YtlghobefhmpfkaaDoor
open Go Go.Ev
set_option maxRecDepth 100000
variable {G : World → Prop}
/-- A line without its line feed. -/
def bareS (s : List UInt8) : List UInt8 × Bool := if s.getLast? = some 10 then (s.dropLast, true) else (s, false)
def CBare : Contract := pureC fun args => match args with
  | [.d (.v (.string s))] => some (s.size ≤ 1099511627776, .tup [.d (.v (str (bareS s.data.toList).1)), .d (.v (.bool (bareS s.data.toList).2))])
  | _ => none
def hasSuf (s p : List UInt8) : Bool := decide ((p.length : Int) ≤ (s.length : Int)) && decide (s.drop (s.length - p.length) = p)
def CSuf : Contract := pureC fun args => match args with
  | [.d (.v (.string s)), .d (.v (.string p))] => some (s.size ≤ 1099511627776 ∧ p.size ≤ 1099511627776, .d (.v (.bool (hasSuf s.data.toList p.data.toList))))
  | _ => none
theorem s39 : Sound G Tryd.prog 39 CSuf := by
  refine sd39 (T := tabT []) tab_nil (pureC_lawful _) (pure_hX fun args p x K h hp hk => ?_)
  split at h <;> simp only [Option.some.injEq, Prod.mk.injEq, reduceCtorEq] at h
  obtain ⟨rfl, rfl⟩ := h
  refine ⟨Nat.le_of_ble_eq_true rfl, ?_⟩
  rename_i s p
  obtain ⟨s, rfl⟩ := ex_str s
  obtain ⟨p, rfl⟩ := ex_str p
  simp only [sem_str] at hk hp
  simp -dsimp -implicitDefEqProofs only [S39, R39, ↓Ev.xStp_eq, ↓Ev.P, Ev.Q, Bool.cond_true, Bool.cond_false, eq_self, forall_eq_or_imp, implies_true, forall_const, forall_eq, ↓reduceIte, reduceIte, Nat.reduceEqDiff, Nat.reduceAdd, reduceCtorEq, Nat.reduceSub, Int.reduceToNat, Int.reduceLE, Int.reduceLT, Int.reduceNeg, Nat.reduceBEq, Nat.reduceMul, Nat.reduceLeDiff, Nat.reduceMod, UInt8.reduceOfNat, Nat.reduceLT, Int.reduceEq, Int.reduceAdd, Int.reduceSub, Int.reduceMul]
  repeat' (first | with_reducible assumption | refine And.intro ?_ ?_ | intro _)
  all_goals first | omega | exact hk
def CCutS : Contract := pureC fun args => match args with
  | [.d (.v (.string s)), .d (.v (.string p))] => some (s.size ≤ 1099511627776 ∧ p.size ≤ 1099511627776, .tup [.d (.v (str (if hasSuf s.data.toList p.data.toList then s.data.toList.take (s.data.toList.length - p.data.toList.length) else s.data.toList))), .d (.v (.bool (hasSuf s.data.toList p.data.toList)))])
  | _ => none
theorem s47 : Sound G Tryd.prog 47 CCutS := by
  refine sd47 (T := tabT [(39, CSuf)]) (tab_cons s39 tab_nil) (pureC_lawful _) (pure_hX fun args p x K h hp hk => ?_)
  split at h <;> simp only [Option.some.injEq, Prod.mk.injEq, reduceCtorEq] at h
  obtain ⟨rfl, rfl⟩ := h
  refine ⟨Nat.le_of_ble_eq_true rfl, ?_⟩
  rename_i s p
  obtain ⟨s, rfl⟩ := ex_str s
  obtain ⟨p, rfl⟩ := ex_str p
  simp only [sem_str] at hk hp
  simp -dsimp -implicitDefEqProofs only [S47, R47, CSuf, ↓Ev.xStp_eq, ↓Ev.P, Ev.Q, Bool.cond_true, Bool.cond_false, eq_self, forall_eq_or_imp, implies_true, forall_const, forall_eq, ↓reduceIte, reduceIte, Nat.reduceEqDiff, Nat.reduceAdd, reduceCtorEq, Nat.reduceSub, Int.reduceToNat, Int.reduceLE, Int.reduceLT, Int.reduceNeg, Nat.reduceBEq, Nat.reduceMul, Nat.reduceLeDiff, Nat.reduceMod, UInt8.reduceOfNat, Nat.reduceLT, Int.reduceEq, Int.reduceAdd, Int.reduceSub, Int.reduceMul]
  refine ⟨hp, fun h => ?_, fun h => ?_⟩
  · rw [h] at hk; exact hk
  · have : p.length ≤ s.length := by simp only [hasSuf, Bool.and_eq_true, decide_eq_true_eq] at h; omega
    rw [h] at hk
    repeat' (first | with_reducible assumption | refine And.intro ?_ ?_ | intro _)
    all_goals first | omega | exact hk
theorem s36 : Sound G Tryd.prog 36 CCutS := by
  refine sd36 (T := tabT [(47, CCutS)]) (tab_cons s47 tab_nil) (pureC_lawful _) (pure_hX fun args p x K h hp hk => ?_)
  split at h <;> simp only [Option.some.injEq, Prod.mk.injEq, reduceCtorEq] at h
  obtain ⟨rfl, rfl⟩ := h
  refine ⟨Nat.le_of_ble_eq_true rfl, ?_⟩
  simp -dsimp -implicitDefEqProofs only [S36, R36, CCutS, ↓Ev.xStp_eq, ↓Ev.P, Ev.Q, Bool.cond_true, Bool.cond_false, eq_self, forall_eq_or_imp, implies_true, forall_const, forall_eq, ↓reduceIte, reduceIte, Nat.reduceEqDiff, Nat.reduceAdd, reduceCtorEq, Nat.reduceSub, Int.reduceToNat, Int.reduceLE, Int.reduceLT, Int.reduceNeg, Nat.reduceBEq, Nat.reduceMul, Nat.reduceLeDiff, Nat.reduceMod, UInt8.reduceOfNat, Nat.reduceLT, Int.reduceEq, Int.reduceAdd, Int.reduceSub, Int.reduceMul]
  exact ⟨hp, hk⟩
theorem suf10 (s : List UInt8) : hasSuf s [10] = (bareS s).2 ∧ (if hasSuf s [10] then s.take (s.length - 1) else s) = (bareS s).1 := by
  rcases List.eq_nil_or_concat s with rfl | ⟨m, c, rfl⟩
  · exact ⟨rfl, rfl⟩
  · rw [List.concat_eq_append]
    have e : hasSuf (m ++ [c]) [10] = decide (c = 10) := by
      unfold hasSuf
      have h1 : decide ((([10] : List UInt8).length : Int) ≤ ((m ++ [c]).length : Int)) = true := by simp; omega
      have h2 : (m ++ [c]).drop ((m ++ [c]).length - ([10] : List UInt8).length) = [c] := by simp
      rw [h1, h2]; simp
    rw [e]
    unfold bareS
    by_cases h : c = 10
    · subst h; simp
    · simp [h]
theorem s24 : Sound G Tryd.prog 24 CBare := by
  refine sd24 (T := tabT [(36, CCutS)]) (tab_cons s36 tab_nil) (pureC_lawful _) (pure_hX fun args p x K h hp hk => ?_)
  split at h <;> simp only [Option.some.injEq, Prod.mk.injEq, reduceCtorEq] at h
  obtain ⟨rfl, rfl⟩ := h
  refine ⟨Nat.le_of_ble_eq_true rfl, ?_⟩
  rename_i s
  obtain ⟨s, rfl⟩ := ex_str s
  simp only [sem_str] at hk hp
  obtain ⟨h1, h2⟩ := suf10 s
  rw [← h1, ← h2] at hk
  simp -dsimp -implicitDefEqProofs only [S24, R24, CCutS, ↓Ev.xStp_eq, ↓Ev.P, Ev.Q, Bool.cond_true, Bool.cond_false, eq_self, forall_eq_or_imp, implies_true, forall_const, forall_eq, ↓reduceIte, reduceIte, Nat.reduceEqDiff, Nat.reduceAdd, reduceCtorEq, Nat.reduceSub, Int.reduceToNat, Int.reduceLE, Int.reduceLT, Int.reduceNeg, Nat.reduceBEq, Nat.reduceMul, Nat.reduceLeDiff, Nat.reduceMod, UInt8.reduceOfNat, Nat.reduceLT, Int.reduceEq, Int.reduceAdd, Int.reduceSub, Int.reduceMul]
  exact ⟨hp, hk⟩
theorem bare_get (s : List UInt8) : (bareS s).2 = (decide (0 < s.length) && decide ((s.getD (s.length - 1) 0) = 10)) ∧ (bareS s).1 = if (bareS s).2 then s.take (s.length - 1) else s := by
  rcases List.eq_nil_or_concat s with rfl | ⟨m, c, rfl⟩
  · exact ⟨rfl, rfl⟩
  · rw [List.concat_eq_append]
    unfold bareS
    by_cases h : c = 10
    · subst h; simp
    · simp [h]
end Go.Proofs.YtlghobefhmpfkaaDoor
/- (*strings.Builder).copyCheck: its first cell holds its own address. -/
set_option linter.unusedVariables false
set_option linter.unusedSimpArgs false
namespace Go.Proofs.YtlghobefhmpfkaaDoor
open Go Go.Ev Go.RowKit
/-- The types that are Builders: the library's, and structs that are one. -/
def bldT (t : Nat) : Bool := t == 57
theorem szB : (Tryd.prog.info? 57).map (·.size) = some 2 := by kernel_rfl
theorem ubB : Tryd.prog.underlying 54 = some (.pointer 57) := by kernel_rfl
theorem ubU : Tryd.prog.underlying 79 = some .unsafePointer := by kernel_rfl
theorem lies0 : liesAt Tryd.prog Tryd.prog.depth 57 (2 / Tryd.prog.cellsOf 57) 0 57 1 = true := by kernel_rfl
set_option maxRecDepth 100000 in
theorem lies (t : Nat) (h : bldT t = true) : liesAt Tryd.prog Tryd.prog.depth t (2 / Tryd.prog.cellsOf t) 0 57 1 = true := by
  by_cases e0 : t = 57
  · subst e0; exact lies0
  exfalso; simp only [bldT, Bool.or_eq_true, beq_iff_eq] at h; omega
set_option maxHeartbeats 1000000 in
set_option maxRecDepth 100000 in
theorem cc_used (b : Nat) (w : World) (h0 : w.cell? ⟨b, 0, none⟩ = some (.pointer (some ⟨b, 0, none⟩))) :
    Calls Tryd.prog 31 #[.pointer (some ⟨b, 0, none⟩)] w fun e w' => e = .returned (.tuple #[]) ∧ w' = w := by
  obtain ⟨j, hj, _⟩ := Option.map_eq_some_iff.1 szB
  go_enter Tryd.func31, Tryd.ntmps31
  go_wp2
  rw [Lib.run_neq_ptr_same w _ ubB hj]
  go_wp2
  go_end0
  exact ⟨rfl, rfl⟩
set_option maxHeartbeats 1000000 in
set_option maxRecDepth 100000 in
theorem cc_fresh (t b : Nat) (ht : bldT t = true) (w : World) (h0 : w.cell? ⟨b, 0, none⟩ = some (.pointer none)) (hsh : w.shape? b = some (t, 2)) (hfz : w.frozen? ⟨b, 0, none⟩ = false) :
    Calls Tryd.prog 31 #[.pointer (some ⟨b, 0, none⟩)] w fun e w' => e = .returned (.tuple #[]) ∧ w' = w.setCell ⟨b, 0, none⟩ (.pointer (some ⟨b, 0, none⟩)) := by
  obtain ⟨j, hj, hjs⟩ := Option.map_eq_some_iff.1 szB
  go_enter Tryd.func31, Tryd.ntmps31
  go_wp2
  rw [Lib.run_to_unsafe w ⟨b, 0, none⟩ ubB ubU hj (by rw [hjs]; decide) hsh (Nat.zero_lt_succ 1)]
  simp only [Result.andThen]
  rw [Oper.upon_value]
  go_wp2
  rw [run_callFunc_extern Tryd.func41 (by kernel_rfl) (by kernel_rfl) (by kernel_rfl) (e := Extern.AbiNoEscape.same) (by kernel_rfl)]
  rw [Lib.run_noEscape]
  simp only [Result.andThen]
  rw [Oper.upon_value]
  go_wp2
  rw [Lib.run_from_unsafe w ⟨b, 0, none⟩ ubU ubB hj hsh (lies t ht)]
  simp only [Result.andThen]
  rw [Oper.upon_value]
  go_wp2
  go_end0
  exact ⟨rfl, rfl⟩
theorem cc_at {t u b : Nat} {p v : Value} {bs : List UInt8} (ht : bldT t = true) {w : World} (h : BldAt w t u b p v bs) :
    Calls Tryd.prog 31 #[.pointer (some ⟨b, 0, none⟩)] w fun e w' => e = .returned (.tuple #[]) ∧ BldTo w w' t u b v bs ∧ BldAt w' t u b (.pointer (some ⟨b, 0, none⟩)) v bs := by
  have hc : w.cell? ⟨b, 0, none⟩ = some p := by rw [Lib.cell_of_heap h.blk]; rfl
  rcases h.ptr with rfl | rfl
  · have hu := h.used rfl
    refine (cc_fresh t b ht w hc (by simp [World.shape?, h.blk]) (Lib.frozen_of_heap h.blk 0)).mono ?_
    rintro e w' ⟨rfl, rfl⟩
    refine ⟨rfl, hu, ?_⟩
    have hlt : b < w.heap.size := (Array.getElem?_eq_some_iff.1 h.blk).1
    obtain ⟨p', v', k, _⟩ := hu.is
    have hb : (w.setCell ⟨b, 0, none⟩ (.pointer (some ⟨b, 0, none⟩))).heap[b]? = some (.cells #[.pointer (some ⟨b, 0, none⟩), v] t (0, 0)) := by
      simp [World.setCell, Array.getElem?_modify, h.blk]
    have := k.blk
    rw [hb] at this
    simp only [Option.some.injEq, Obj.cells.injEq] at this
    obtain ⟨h1, _⟩ := this
    have h2 : v' = v := by simpa using (congrArg (fun a : Array Value => a.getD 1 undef) h1).symm
    subst h2
    exact ⟨hb, .inr rfl, k.own, k.ne⟩
  · refine (cc_used b w hc).mono ?_
    rintro e w' ⟨rfl, rfl⟩
    exact ⟨rfl, ⟨rfl, rfl, rfl, Nat.le_refl _, fun _ _ _ _ => rfl, ⟨_, v, h, .inl rfl⟩⟩, h⟩
end Go.Proofs.YtlghobefhmpfkaaDoor
/- (*strings.Builder).WriteString. -/
set_option linter.unusedVariables false
set_option linter.unusedSimpArgs false
namespace Go.Proofs.YtlghobefhmpfkaaDoor
open Go Go.Ev Go.RowKit
theorem ubyte2 : Tryd.prog.underlying 55 = some (.slice 5) := by kernel_rfl
theorem ustr2 : Tryd.prog.underlying 9 = some .string := by kernel_rfl
theorem infB2 : (Tryd.prog.info? 5).map (fun i => (i.zero, i.size, i.bytes)) = some (some (.int .u8 0), 1, 1) := by kernel_rfl
set_option maxHeartbeats 2000000 in
set_option maxRecDepth 100000 in
theorem ws_at {t b : Nat} {p v : Value} {bs : List UInt8} (ht : bldT t = true) {w : World} (h : BldAt w t 5 b p v bs) (s : ByteArray) (hlen : bs.length + s.size ≤ 140737488355328) :
    Calls Tryd.prog 19 #[.pointer (some ⟨b, 0, none⟩), .string s] w fun e w' => e = .returned (.tuple #[.int .i64 s.size, .nilIface]) ∧ BldTo w w' t 5 b v (bs ++ s.data.toList) := by
  obtain ⟨i0, hi, hz0, hz1, hz2⟩ := info_parts infB2
  go_enter Tryd.func19, Tryd.ntmps19
  go_wp2_with (go_at_call 31; refine (cc_at ht h).mono ?_)
  rintro e w1 ⟨rfl, hb1, h1⟩
  have c0 : w1.cell? ⟨b, 0, none⟩ = some (.pointer (some ⟨b, 0, none⟩)) := by rw [Lib.cell_of_heap h1.blk]; rfl
  have c1 : w1.cell? ⟨b, 1, none⟩ = some v := by rw [Lib.cell_of_heap h1.blk]; rfl
  go_wp2_with (at_builtin; refine wpList_app_str (t := 55) (u := 9) rfl rfl ubyte2 ustr2 hi hz0 hz1 hz2 rfl h1.own (s := s) rfl hlen ?_)
  intro v' w2 hown' hgrow hv
  have hlt : b < w1.heap.size := (Array.getElem?_eq_some_iff.1 h1.blk).1
  have hb2 : w2.heap[b]? = some (.cells #[.pointer (some ⟨b, 0, none⟩), v] t (0, 0)) := by
    rw [hgrow.block b hlt (fun e => h1.ne e.symm)]
    exact h1.blk
  have d0 : w2.cell? ⟨b, 0, none⟩ = some (.pointer (some ⟨b, 0, none⟩)) := by rw [Lib.cell_of_heap hb2]; rfl
  have d1 : w2.cell? ⟨b, 1, none⟩ = some v := by rw [Lib.cell_of_heap hb2]; rfl
  have f1 : w2.frozen? ⟨b, 1, none⟩ = false := Lib.frozen_of_heap hb2 1
  have hfin := BldAt.wrote hb1 h1 (bs' := bs ++ s.data.toList) (by rw [byteVals_str]; simpa using hown') hgrow hv
  obtain ⟨ao, n', cap, rfl⟩ : ∃ ao n' cap, v' = .slice ao n' cap := by
    rcases hown'.2 with ⟨hv, _⟩ | ⟨g, cap, cur, hv, _⟩
    · exact ⟨_, _, _, hv⟩
    · exact ⟨_, _, _, hv⟩
  go_wp2
  go_ret2
  exact ⟨rfl, hfin⟩
/-- A text is written. -/
def gWS : List SV → Nat → Nat → List UInt8 → Option (Prop × SV × List UInt8)
  | [.d (.v (.string s))], t, u, bs => if bldT t = true ∧ u = 5 then some (bs.length + s.size ≤ 140737488355328, .tup [.d (.v (.int .i64 s.size)), .d (.v .nilIface)], bs ++ s.data.toList) else none
  | _, _, _, _ => none
theorem sWS {G : World → Prop} : Sound G Tryd.prog 19 (bldC gWS) := by
  refine bld_sound ⟨Tryd.f19, by kernel_rfl, by kernel_rfl, by kernel_rfl⟩ ?_
  intro args t u bs p x bs' hg hp w b q v hb c m vs hc ha
  unfold gWS at hg
  split at hg
  · obtain ⟨⟨h1, rfl⟩, hg2⟩ := Option.ite_none_right_eq_some.1 hg
    simp only [Option.some.injEq, Prod.mk.injEq] at hg2
    obtain ⟨rfl, rfl, rfl⟩ := hg2
    match vs, ha with
    | [y], ha =>
      simp only [CnL, and_true] at ha
      rw [of_v ha]
      exact ⟨_, fun m n c => by simp only [Cn]; exact ⟨_, rfl, by simp only [CnL, Cn, and_true]; exact ⟨⟨rfl, rfl⟩, ⟨rfl, rfl⟩⟩⟩, ws_at h1 hb _ hp⟩
    | [], ha => simp [CnL] at ha
    | _ :: _ :: _, ha => simp [CnL] at ha
  · simp only [reduceCtorEq] at hg
end Go.Proofs.YtlghobefhmpfkaaDoor
set_option linter.unusedVariables false
set_option linter.unusedSimpArgs false
namespace Go.Proofs.YtlghobefhmpfkaaDoor
open Go Go.Ev
set_option maxRecDepth 100000
variable {G : World → Prop}
def cntB (n : Int) : Bool := decide (0 ≤ n) && decide (n ≤ 2147483647)
def CCount : Contract := pureC fun args => match args with
  | [.d (.v (.int .i64 n))] => some (True, .d (.v (.bool (cntB n))))
  | _ => none
theorem s30 : Sound G Tryd.prog 30 CCount := by
  refine sd30 (T := tabT []) tab_nil (pureC_lawful _) (pure_hX fun args p x K h hp hk => ?_)
  split at h <;> simp only [Option.some.injEq, Prod.mk.injEq, reduceCtorEq] at h
  obtain ⟨rfl, rfl⟩ := h
  refine ⟨Nat.le_of_ble_eq_true rfl, ?_⟩
  simp -dsimp -implicitDefEqProofs only [S30, R30, ↓Ev.xStp_eq, ↓Ev.P, Ev.Q, Bool.cond_true, Bool.cond_false, eq_self, forall_eq_or_imp, implies_true, forall_const, forall_eq, ↓reduceIte, reduceIte, Nat.reduceEqDiff, Nat.reduceAdd, reduceCtorEq, Nat.reduceSub, Int.reduceToNat, Int.reduceLE, Int.reduceLT, Int.reduceNeg, Nat.reduceBEq, Nat.reduceMul, Nat.reduceLeDiff, Nat.reduceMod, UInt8.reduceOfNat, Nat.reduceLT, Int.reduceEq, Int.reduceAdd, Int.reduceSub, Int.reduceMul]
  exact hk
/-- A range. -/
def spanT (at_ n : Int) : List UInt8 := if n = 1 then Lib.itoa (at_ + 1) else Lib.itoa (at_ + 1) ++ [44] ++ Lib.itoa (at_ + n)
def CSpan : Contract := pureC fun args => match args with
  | [.d (.v (.int .i64 a)), .d (.v (.int .i64 n))] => some ((0 ≤ a ∧ a ≤ 4294967296) ∧ (0 ≤ n ∧ n ≤ 4294967296), .d (.v (str (spanT a n))))
  | _ => none
theorem span_len {a n : Int} (h : (0 ≤ a ∧ a ≤ 4294967296) ∧ (0 ≤ n ∧ n ≤ 4294967296)) : (spanT a n).length ≤ 43 := by
  have h1 := itoa_len (n := a + 1) (by omega)
  have h2 := itoa_len (n := a + n) (by omega)
  unfold spanT
  split
  · omega
  · simp only [List.length_append, List.length_cons, List.length_nil]; omega
/-- The line that says that a line feed is missing. -/
abbrev markT : List UInt8 := [92, 32, 78, 111, 32, 110, 101, 119, 108, 105, 110, 101, 32, 97, 116, 32, 101, 110, 100, 32, 111, 102, 32, 102, 105, 108, 101, 10]
def lineT (ahead s : List UInt8) : List UInt8 := if (bareS s).2 then ahead ++ s else ahead ++ s ++ [10] ++ markT
def CLine : Contract := pureC fun args => match args with
  | [.d (.v (.string a)), .d (.v (.string s))] => some (a.size ≤ 1099511627776 ∧ s.size ≤ 1099511627776, .d (.v (str (lineT a.data.toList s.data.toList))))
  | _ => none
end Go.Proofs.YtlghobefhmpfkaaDoor
set_option linter.unusedVariables false
set_option linter.unusedSimpArgs false
namespace Go.Proofs.YtlghobefhmpfkaaDoor
open Go Go.Ev
set_option maxRecDepth 100000
variable {G : World → Prop}
abbrev Q4 := Int × Int × Int × Int
/-- What is wrong with one change by itself. -/
def badC (c : Q4) : Prop := ((((cntB c.1 = false ∨ cntB c.2.1 = false) ∨ cntB c.2.2.1 = false) ∨ cntB c.2.2.2 = false) ∨ (c.2.1 = 0 ∧ c.2.2.2 = 0))
def outC (f : Bool) (a b : Int) (c : Q4) : Prop := (c.1 - a < 0 ∨ (f = false ∧ c.1 - a = 0)) ∨ ¬ c.1 - a = c.2.2.1 - b
instance (c : Q4) : Decidable (badC c) := by unfold badC; infer_instance
instance (f : Bool) (a b : Int) (c : Q4) : Decidable (outC f a b c) := by unfold outC; infer_instance
def chkL : Bool → Int → Int → List Q4 → Option (Int × Int)
  | _, a, b, [] => some (a, b)
  | f, a, b, c :: r => if badC c then none else if outC f a b c then none else chkL false (c.1 + c.2.1) (c.2.2.1 + c.2.2.2) r
def chk (l : List Q4) (n m : Int) : Int := match chkL true 0 0 l with
  | none => 50
  | some (a, b) => if (n < a ∨ m < b) ∨ ¬ n - a = m - b then 50 else 0
theorem chk_none {l : List Q4} {n m : Int} (h : chkL true 0 0 l = none) : chk l n m = 50 := by rw [chk, h]
theorem chk_some {l : List Q4} {n m a b : Int} (h : chkL true 0 0 l = some (a, b)) : chk l n m = if (n < a ∨ m < b) ∨ ¬ n - a = m - b then 50 else 0 := by rw [chk, h]
theorem q4_drop {l : List Q4} {i : Nat} (h : i < l.length) : l.drop i = l.getD i (0, 0, 0, 0) :: l.drop (i + 1) := by
  rw [List.drop_eq_getElem_cons h]; simp [List.getD_eq_getElem?_getD, List.getElem?_eq_getElem h]
theorem cnt_in {n : Int} (h : ¬ cntB n = false) : 0 ≤ n ∧ n ≤ 2147483647 := by simpa [cntB] using h
theorem okC {c : Q4} (h : ¬ badC c) : (0 ≤ c.1 ∧ c.1 ≤ 2147483647) ∧ (0 ≤ c.2.1 ∧ c.2.1 ≤ 2147483647) ∧ (0 ≤ c.2.2.1 ∧ c.2.2.1 ≤ 2147483647) ∧ (0 ≤ c.2.2.2 ∧ c.2.2.2 ≤ 2147483647) ∧ ¬ (c.2.1 = 0 ∧ c.2.2.2 = 0) :=
  ⟨cnt_in fun e => h (.inl (.inl (.inl (.inl e)))), cnt_in fun e => h (.inl (.inl (.inl (.inr e)))), cnt_in fun e => h (.inl (.inl (.inr e))), cnt_in fun e => h (.inl (.inr e)), fun e => h (.inr e)⟩
theorem cnt4 {A AN B BN : Int} {Z : Prop} (h : (((cntB A = true ∧ cntB AN = true) ∧ cntB B = true) ∧ cntB BN = true) ∧ Z) : (0 ≤ A ∧ A ≤ 2147483647) ∧ (0 ≤ AN ∧ AN ≤ 2147483647) ∧ (0 ≤ B ∧ B ≤ 2147483647) ∧ (0 ≤ BN ∧ BN ≤ 2147483647) := by
  have k : ∀ n, cntB n = true → 0 ≤ n ∧ n ≤ 2147483647 := fun n h => by simpa [cntB] using h
  exact ⟨k _ h.1.1.1.1, k _ h.1.1.1.2, k _ h.1.1.2, k _ h.1.2⟩
theorem good4 {A AN B BN : Int} (h : (((cntB A = true ∧ cntB AN = true) ∧ cntB B = true) ∧ cntB BN = true) ∧ (¬ AN = 0 ∨ ¬ BN = 0)) : ¬ badC (A, AN, B, BN) := by
  rintro ((((e | e) | e) | e) | e)
  · rw [h.1.1.1.1] at e; cases e
  · rw [h.1.1.1.2] at e; cases e
  · rw [h.1.1.2] at e; cases e
  · rw [h.1.2] at e; cases e
  · exact h.2.elim (fun k => k e.1) fun k => k e.2
theorem chkL_bad {f : Bool} {a b : Int} {c : Q4} {r : List Q4} (h : badC c) : chkL f a b (c :: r) = none := by rw [chkL, if_pos h]
theorem chkL_out {f : Bool} {a b : Int} {c : Q4} {r : List Q4} (h : ¬ badC c) (h2 : outC f a b c) : chkL f a b (c :: r) = none := by rw [chkL, if_neg h, if_pos h2]
theorem chkL_in {f : Bool} {a b : Int} {c : Q4} {r : List Q4} (h : ¬ badC c) (h2 : ¬ outC f a b c) : chkL f a b (c :: r) = chkL false (c.1 + c.2.1) (c.2.2.1 + c.2.2.2) r := by rw [chkL, if_neg h, if_neg h2]
def CCheck : Contract := pureC fun args => match args with
  | [.d (.sl rows), .d (.v (.int .i64 n)), .d (.v (.int .i64 m))] => (unQ4 rows).map fun l => (l.length ≤ 1099511627776 ∧ (0 ≤ n ∧ n ≤ 1099511627776) ∧ (0 ≤ m ∧ m ≤ 1099511627776), .d (.v (.int .i64 (chk l n m))))
  | _ => none
theorem s18 : Sound G Tryd.prog 18 CCheck := by
  refine sd18 (T := tabT [(30, CCount)]) (tab_cons s30 tab_nil) (pureC_lawful _) (pure_hX fun args p x K h hp hk => ?_)
  split at h <;> simp only [Option.map_eq_some_iff, Prod.mk.injEq, reduceCtorEq] at h
  obtain ⟨l, hl, rfl, rfl⟩ := h
  rw [unQ4_eq hl] at *
  refine ⟨Nat.le_of_ble_eq_true rfl, ?_⟩
  rename_i n m
  obtain ⟨hl1, hn, hm⟩ := hp
  simp -dsimp -implicitDefEqProofs only [S18, R18, q4Rows_len, ↓Ev.xStp_eq, ↓Ev.P, Ev.Q, Bool.cond_true, Bool.cond_false, eq_self, forall_eq_or_imp, implies_true, forall_const, forall_eq, ↓reduceIte, reduceIte, Nat.reduceEqDiff, Nat.reduceAdd, reduceCtorEq, Nat.reduceSub, Int.reduceToNat, Int.reduceLE, Int.reduceLT, Int.reduceNeg, Nat.reduceBEq, Nat.reduceMul, Nat.reduceLeDiff, Nat.reduceMod, UInt8.reduceOfNat, Nat.reduceLT, Int.reduceEq, Int.reduceAdd, Int.reduceSub, Int.reduceMul]
  refine xLoop_intro (fun k st => ∃ (i : Nat) (a b : Int), i ≤ l.length ∧ k = l.length - i ∧ chkL (decide (i = 0)) a b (l.drop i) = chkL true 0 0 l ∧ (0 ≤ a ∧ a ≤ 4294967294) ∧ (0 ≤ b ∧ b ≤ 4294967294) ∧
      st = ⟨[(1, .d (.v (.int .i64 n))), (2, .d (.v (.int .i64 m))), (7, .d (.v (.int .i64 a))), (8, .d (.v (.int .i64 b))), (12, .d (.sl (q4Rows l))), (13, .d (.v (.int .i64 l.length))), (14, .d (.v (.int .i64 i)))], 0, []⟩) l.length [] ?_ ?_ ?_
  · simp -dsimp -implicitDefEqProofs only [↓Ev.xStp_eq, ↓Ev.P, Ev.Q, Bool.cond_true, Bool.cond_false, eq_self, forall_eq_or_imp, implies_true, forall_const, forall_eq, ↓reduceIte, reduceIte, Nat.reduceEqDiff, Nat.reduceAdd, reduceCtorEq, Nat.reduceSub, Int.reduceToNat, Int.reduceLE, Int.reduceLT, Int.reduceNeg, Nat.reduceBEq, Nat.reduceMul, Nat.reduceLeDiff, Nat.reduceMod, UInt8.reduceOfNat, Nat.reduceLT, Int.reduceEq, Int.reduceAdd, Int.reduceSub, Int.reduceMul]
  · simp -dsimp -implicitDefEqProofs only [↓Ev.xStp_eq, ↓Ev.P, Ev.Q, Bool.cond_true, Bool.cond_false, eq_self, forall_eq_or_imp, implies_true, forall_const, forall_eq, ↓reduceIte, reduceIte, Nat.reduceEqDiff, Nat.reduceAdd, reduceCtorEq, Nat.reduceSub, Int.reduceToNat, Int.reduceLE, Int.reduceLT, Int.reduceNeg, Nat.reduceBEq, Nat.reduceMul, Nat.reduceLeDiff, Nat.reduceMod, UInt8.reduceOfNat, Nat.reduceLT, Int.reduceEq, Int.reduceAdd, Int.reduceSub, Int.reduceMul]
    exact ⟨0, 0, 0, by omega, by omega, rfl, by omega, by omega, rfl⟩
  · rintro k st ⟨i, a, b, hi, hk2, hc, ha, hb, rfl⟩
    by_cases hil : i < l.length
    · have hg := q4Rows_get hil
      have hd := q4_drop hil
      generalize l.getD i (0, 0, 0, 0) = c at hg hd
      obtain ⟨A, AN, B, BN⟩ := c
      have hi3 : (i : Int) < l.length := by omega
      simp -dsimp -implicitDefEqProofs only [hi3, ↓Ev.P, Ev.Q, Bool.cond_true, Bool.cond_false, eq_self, forall_eq_or_imp, implies_true, forall_const, forall_eq, ↓reduceIte, reduceIte, Nat.reduceEqDiff, Nat.reduceAdd, reduceCtorEq, Nat.reduceSub, Int.reduceToNat, Int.reduceLE, Int.reduceLT, Int.reduceNeg, Nat.reduceBEq, Nat.reduceMul, Nat.reduceLeDiff, Nat.reduceMod, UInt8.reduceOfNat, Nat.reduceLT, Int.reduceEq, Int.reduceAdd, Int.reduceSub, Int.reduceMul]
      repeat' (first | with_reducible assumption | refine And.intro ?_ ?_ | intro _ | (rw [Ev.xStp_eq]; simp -dsimp -implicitDefEqProofs only [hg, q4Row, CCount, ↓Ev.P, Ev.Q, Bool.cond_true, Bool.cond_false, eq_self, forall_eq_or_imp, implies_true, forall_const, forall_eq, ↓reduceIte, reduceIte, Nat.reduceEqDiff, Nat.reduceAdd, reduceCtorEq, Nat.reduceSub, Int.reduceToNat, Int.reduceLE, Int.reduceLT, Int.reduceNeg, Nat.reduceBEq, Nat.reduceMul, Nat.reduceLeDiff, Nat.reduceMod, UInt8.reduceOfNat, Nat.reduceLT, Int.reduceEq, Int.reduceAdd, Int.reduceSub, Int.reduceMul]))
      all_goals try omega
      all_goals try (have hq := cnt4 (by assumption); omega)
      · rename_i h
        rw [hd, chkL_bad (show badC (A, AN, B, BN) from h)] at hc
        rw [chk_none hc.symm] at hk; exact hk
      · rename_i h h2
        rw [hd, chkL_out (good4 h) ?_] at hc
        · rw [chk_none hc.symm] at hk; exact hk
        · rcases h2 with (h2 | h2) | h2
          · exact .inl (.inl h2)
          · exact .inl (.inr ⟨by simp; omega, h2.2⟩)
          · exact .inr h2
      · rename_i h h2
        have hq := cnt4 h
        refine xAgain_intro (l.length - (i + 1)) [] (by omega) (by simp -dsimp -implicitDefEqProofs only [↓Ev.xStp_eq, ↓Ev.P, Ev.Q, Bool.cond_true, Bool.cond_false, eq_self, forall_eq_or_imp, implies_true, forall_const, forall_eq, ↓reduceIte, reduceIte, Nat.reduceEqDiff, Nat.reduceAdd, reduceCtorEq, Nat.reduceSub, Int.reduceToNat, Int.reduceLE, Int.reduceLT, Int.reduceNeg, Nat.reduceBEq, Nat.reduceMul, Nat.reduceLeDiff, Nat.reduceMod, UInt8.reduceOfNat, Nat.reduceLT, Int.reduceEq, Int.reduceAdd, Int.reduceSub, Int.reduceMul]) ⟨i + 1, A + AN, B + BN, by omega, rfl, ?_, by omega, by omega, ?_⟩
        · rw [← hc, hd, chkL_in (good4 h) ?_]
          · simp
          · rintro ((k | k) | k)
            · exact h2.1.1 k
            · obtain ⟨k1, k2⟩ := k
              simp only [decide_eq_false_iff_not] at k1
              exact h2.1.2.elim (fun e => e (by omega)) fun e => e k2
            · exact k h2.2
        · simp -dsimp -implicitDefEqProofs only [↓Ev.xStp_eq, ↓Ev.P, Ev.Q, Bool.cond_true, Bool.cond_false, eq_self, forall_eq_or_imp, implies_true, forall_const, forall_eq, ↓reduceIte, reduceIte, Nat.reduceEqDiff, Nat.reduceAdd, reduceCtorEq, Nat.reduceSub, Int.reduceToNat, Int.reduceLE, Int.reduceLT, Int.reduceNeg, Nat.reduceBEq, Nat.reduceMul, Nat.reduceLeDiff, Nat.reduceMod, UInt8.reduceOfNat, Nat.reduceLT, Int.reduceEq, Int.reduceAdd, Int.reduceSub, Int.reduceMul]
          rfl
    · have hi3 : ¬ (i : Int) < l.length := by omega
      simp -dsimp -implicitDefEqProofs only [hi3, ↓Ev.P, Ev.Q, Bool.cond_true, Bool.cond_false, eq_self, forall_eq_or_imp, implies_true, forall_const, forall_eq, ↓reduceIte, reduceIte, Nat.reduceEqDiff, Nat.reduceAdd, reduceCtorEq, Nat.reduceSub, Int.reduceToNat, Int.reduceLE, Int.reduceLT, Int.reduceNeg, Nat.reduceBEq, Nat.reduceMul, Nat.reduceLeDiff, Nat.reduceMod, UInt8.reduceOfNat, Nat.reduceLT, Int.reduceEq, Int.reduceAdd, Int.reduceSub, Int.reduceMul]
      repeat' (first | with_reducible assumption | refine And.intro ?_ ?_ | intro _ | (rw [Ev.xStp_eq]; simp -dsimp -implicitDefEqProofs only [↓Ev.P, Ev.Q, Bool.cond_true, Bool.cond_false, eq_self, forall_eq_or_imp, implies_true, forall_const, forall_eq, ↓reduceIte, reduceIte, Nat.reduceEqDiff, Nat.reduceAdd, reduceCtorEq, Nat.reduceSub, Int.reduceToNat, Int.reduceLE, Int.reduceLT, Int.reduceNeg, Nat.reduceBEq, Nat.reduceMul, Nat.reduceLeDiff, Nat.reduceMod, UInt8.reduceOfNat, Nat.reduceLT, Int.reduceEq, Int.reduceAdd, Int.reduceSub, Int.reduceMul]))
      all_goals try omega
      all_goals
        rename_i h
        rw [List.drop_of_length_le (by omega), chkL] at hc
        rw [chk_some hc.symm] at hk
      · rw [if_pos h] at hk; exact hk
      · rw [if_neg (by rintro ((k | k) | k); exact h.1.1 k; exact h.1.2 k; exact k h.2)] at hk; exact hk
end Go.Proofs.YtlghobefhmpfkaaDoor
set_option linter.unusedVariables false
set_option linter.unusedSimpArgs false
namespace Go.Proofs.YtlghobefhmpfkaaDoor
open Go Go.Ev
set_option maxRecDepth 100000
variable {G : World → Prop}
theorem bad_sum {A AN B BN : Int} (h : (((cntB A = false ∨ cntB AN = false) ∨ cntB B = false) ∨ cntB BN = false) ∨ AN + BN = 0) : badC (A, AN, B, BN) := by
  by_cases k : (((cntB A = false ∨ cntB AN = false) ∨ cntB B = false) ∨ cntB BN = false)
  · rcases k with ((k | k) | k) | k
    · exact .inl (.inl (.inl (.inl k)))
    · exact .inl (.inl (.inl (.inr k)))
    · exact .inl (.inl (.inr k))
    · exact .inl (.inr k)
  · have h2 : AN + BN = 0 := h.elim (fun e => absurd e k) id
    have h3 := cnt_in (n := AN) fun e => k (.inl (.inl (.inr e)))
    have h4 := cnt_in (n := BN) fun e => k (.inr e)
    exact .inr ⟨by simp only; omega, by simp only; omega⟩
end Go.Proofs.YtlghobefhmpfkaaDoor
set_option linter.unusedVariables false
set_option linter.unusedSimpArgs false
namespace Go.Proofs.YtlghobefhmpfkaaDoor
open Go Go.Ev
set_option maxRecDepth 100000
variable {G : World → Prop}
def CSame : Contract := pureC fun args => match args with
  | [.d (.sl a), .d (.sl b)] => (unStr a).bind fun x => (unStr b).map fun y => (x.length ≤ 1099511627776 ∧ y.length ≤ 1099511627776, .d (.v (.bool (decide (x = y)))))
  | _ => none
theorem getD_ext {l m : List (List UInt8)} (h : l.length = m.length) (h2 : ∀ i, i < l.length → l.getD i [] = m.getD i []) : l = m := by
  refine List.ext_getElem h fun i h3 h4 => ?_
  have := h2 i h3
  simpa [List.getD_eq_getElem?_getD, List.getElem?_eq_getElem h3, List.getElem?_eq_getElem h4] using this
theorem s7 : Sound G Tryd.prog 7 CSame := by
  refine sd7 (T := tabT []) tab_nil (pureC_lawful _) (pure_hX fun args p x K h hp hk => ?_)
  split at h <;> simp only [Option.bind_eq_some_iff, Option.map_eq_some_iff, Prod.mk.injEq, reduceCtorEq] at h
  obtain ⟨l, hl, m, hm, rfl, rfl⟩ := h
  rw [unStr_eq hl, unStr_eq hm] at *
  refine ⟨Nat.le_of_ble_eq_true rfl, ?_⟩
  obtain ⟨h1, h2⟩ := hp
  simp -dsimp -implicitDefEqProofs only [S7, R7, strRows_len, ↓Ev.xStp_eq, ↓Ev.P, Ev.Q, Bool.cond_true, Bool.cond_false, eq_self, forall_eq_or_imp, implies_true, forall_const, forall_eq, ↓reduceIte, reduceIte, Nat.reduceEqDiff, Nat.reduceAdd, reduceCtorEq, Nat.reduceSub, Int.reduceToNat, Int.reduceLE, Int.reduceLT, Int.reduceNeg, Nat.reduceBEq, Nat.reduceMul, Nat.reduceLeDiff, Nat.reduceMod, UInt8.reduceOfNat, Nat.reduceLT, Int.reduceEq, Int.reduceAdd, Int.reduceSub, Int.reduceMul]
  refine ⟨fun h => ?_, fun h => ?_⟩
  · rw [decide_eq_false (fun e => h (by rw [e]))] at hk; exact hk
  have hlm : l.length = m.length := by omega
  refine xLoop_intro (fun k st => ∃ (i : Nat), i ≤ l.length ∧ k = l.length - i ∧ (∀ j, j < i → l.getD j [] = m.getD j []) ∧
      st = ⟨[(0, .d (.sl (strRows l))), (1, .d (.sl (strRows m))), (5, .d (.v (.int .i64 i)))], 0, []⟩) l.length [] ?_ ?_ ?_
  · simp -dsimp -implicitDefEqProofs only [↓Ev.xStp_eq, ↓Ev.P, Ev.Q, Bool.cond_true, Bool.cond_false, eq_self, forall_eq_or_imp, implies_true, forall_const, forall_eq, ↓reduceIte, reduceIte, Nat.reduceEqDiff, Nat.reduceAdd, reduceCtorEq, Nat.reduceSub, Int.reduceToNat, Int.reduceLE, Int.reduceLT, Int.reduceNeg, Nat.reduceBEq, Nat.reduceMul, Nat.reduceLeDiff, Nat.reduceMod, UInt8.reduceOfNat, Nat.reduceLT, Int.reduceEq, Int.reduceAdd, Int.reduceSub, Int.reduceMul]
  · simp -dsimp -implicitDefEqProofs only [↓Ev.xStp_eq, ↓Ev.P, Ev.Q, Bool.cond_true, Bool.cond_false, eq_self, forall_eq_or_imp, implies_true, forall_const, forall_eq, ↓reduceIte, reduceIte, Nat.reduceEqDiff, Nat.reduceAdd, reduceCtorEq, Nat.reduceSub, Int.reduceToNat, Int.reduceLE, Int.reduceLT, Int.reduceNeg, Nat.reduceBEq, Nat.reduceMul, Nat.reduceLeDiff, Nat.reduceMod, UInt8.reduceOfNat, Nat.reduceLT, Int.reduceEq, Int.reduceAdd, Int.reduceSub, Int.reduceMul]
    exact ⟨0, by omega, by omega, fun j hj => by omega, rfl⟩
  · rintro k st ⟨i, hi, hk2, hj, rfl⟩
    by_cases hil : i < l.length
    · have hi3 : (i : Int) < l.length := by omega
      simp -dsimp -implicitDefEqProofs only [strRows_get hil, strRows_get (show i < m.length by omega), hi3, strRows_len, ↓Ev.xStp_eq, ↓Ev.P, Ev.Q, Bool.cond_true, Bool.cond_false, eq_self, forall_eq_or_imp, implies_true, forall_const, forall_eq, ↓reduceIte, reduceIte, Nat.reduceEqDiff, Nat.reduceAdd, reduceCtorEq, Nat.reduceSub, Int.reduceToNat, Int.reduceLE, Int.reduceLT, Int.reduceNeg, Nat.reduceBEq, Nat.reduceMul, Nat.reduceLeDiff, Nat.reduceMod, UInt8.reduceOfNat, Nat.reduceLT, Int.reduceEq, Int.reduceAdd, Int.reduceSub, Int.reduceMul]
      repeat' (first | with_reducible assumption | refine And.intro ?_ ?_ | intro _)
      all_goals try omega
      · rename_i h
        rw [decide_eq_false (fun e => h (by rw [e]))] at hk; exact hk
      · rename_i h
        refine xAgain_intro (l.length - (i + 1)) [] (by omega) (by simp -dsimp -implicitDefEqProofs only [↓Ev.xStp_eq, ↓Ev.P, Ev.Q, Bool.cond_true, Bool.cond_false, eq_self, forall_eq_or_imp, implies_true, forall_const, forall_eq, ↓reduceIte, reduceIte, Nat.reduceEqDiff, Nat.reduceAdd, reduceCtorEq, Nat.reduceSub, Int.reduceToNat, Int.reduceLE, Int.reduceLT, Int.reduceNeg, Nat.reduceBEq, Nat.reduceMul, Nat.reduceLeDiff, Nat.reduceMod, UInt8.reduceOfNat, Nat.reduceLT, Int.reduceEq, Int.reduceAdd, Int.reduceSub, Int.reduceMul]) ⟨i + 1, by omega, rfl, fun j hj2 => ?_, ?_⟩
        · by_cases e : j = i
          · rw [e]; exact h
          · exact hj j (by omega)
        · simp -dsimp -implicitDefEqProofs only [↓Ev.xStp_eq, ↓Ev.P, Ev.Q, Bool.cond_true, Bool.cond_false, eq_self, forall_eq_or_imp, implies_true, forall_const, forall_eq, ↓reduceIte, reduceIte, Nat.reduceEqDiff, Nat.reduceAdd, reduceCtorEq, Nat.reduceSub, Int.reduceToNat, Int.reduceLE, Int.reduceLT, Int.reduceNeg, Nat.reduceBEq, Nat.reduceMul, Nat.reduceLeDiff, Nat.reduceMod, UInt8.reduceOfNat, Nat.reduceLT, Int.reduceEq, Int.reduceAdd, Int.reduceSub, Int.reduceMul]
          rfl
    · have hi3 : ¬ (i : Int) < l.length := by omega
      simp -dsimp -implicitDefEqProofs only [hi3, strRows_len, ↓Ev.xStp_eq, ↓Ev.P, Ev.Q, Bool.cond_true, Bool.cond_false, eq_self, forall_eq_or_imp, implies_true, forall_const, forall_eq, ↓reduceIte, reduceIte, Nat.reduceEqDiff, Nat.reduceAdd, reduceCtorEq, Nat.reduceSub, Int.reduceToNat, Int.reduceLE, Int.reduceLT, Int.reduceNeg, Nat.reduceBEq, Nat.reduceMul, Nat.reduceLeDiff, Nat.reduceMod, UInt8.reduceOfNat, Nat.reduceLT, Int.reduceEq, Int.reduceAdd, Int.reduceSub, Int.reduceMul]
      rw [decide_eq_true (getD_ext hlm fun j hj2 => hj j (by omega))] at hk; exact hk
/-- Lines behind a sign. -/
def allT (s : List UInt8) (l : List (List UInt8)) : List UInt8 := l.flatMap (lineT s)
theorem all_snoc (s : List UInt8) (l : List (List UInt8)) (i : Nat) (h : i < l.length) : allT s (l.take (i + 1)) = allT s (l.take i) ++ lineT s (l.getD i []) := by
  rw [allT, List.take_succ_eq_append_getElem h, List.flatMap_append]
  simp [allT, List.getD_eq_getElem?_getD, List.getElem?_eq_getElem h]
theorem all_le (s : List UInt8) (l : List (List UInt8)) (i : Nat) : (allT s (l.take i)).length ≤ (allT s l).length := by
  conv => rhs; rw [← List.take_append_drop i l, allT, List.flatMap_append, List.length_append]
  exact Nat.le_add_right _ _
theorem bare_split (x : List UInt8) : ((bareS x).2 = true → x = (bareS x).1 ++ [10]) ∧ ((bareS x).2 = false → (bareS x).1 = x) := by
  unfold bareS
  split
  · rename_i h
    refine ⟨fun _ => ?_, fun h => by cases h⟩
    rcases List.eq_nil_or_concat x with rfl | ⟨m, c, rfl⟩
    · cases h
    · rw [List.concat_eq_append] at h ⊢
      have : c = 10 := by simpa using h
      subst this; simp
  · exact ⟨fun h => by simp at h, fun _ => rfl⟩
end Go.Proofs.YtlghobefhmpfkaaDoor
set_option linter.unusedVariables false
set_option linter.unusedSimpArgs false
namespace Go.Proofs.YtlghobefhmpfkaaDoor
open Go Go.Ev
set_option maxRecDepth 100000
variable {G : World → Prop}
/-- Some lines from a place on. -/
def part (l : List (List UInt8)) (x n : Nat) : List (List UInt8) := (l.drop x).take n
def headT (A AN B BN : Nat) : List UInt8 := if AN = 0 then Lib.itoa A ++ [97] ++ spanT B BN else if BN = 0 then spanT A AN ++ [100] ++ Lib.itoa B else spanT A AN ++ [99] ++ spanT B BN
def restT (A AN B BN : Nat) (a b : List (List UInt8)) : List UInt8 := [10] ++ allT [60, 32] (part a A AN) ++ (if 0 < AN ∧ 0 < BN then [45, 45, 45, 10] else []) ++ allT [62, 32] (part b B BN)
def changeT (A AN B BN : Nat) (a b : List (List UInt8)) : List UInt8 := headT A AN B BN ++ restT A AN B BN a b
theorem part_snoc (s : List UInt8) (l : List (List UInt8)) (x j : Nat) (h : x + j < l.length) : allT s (part l x (j + 1)) = allT s (part l x j) ++ lineT s (l.getD (x + j) []) := by
  have := all_snoc s (l.drop x) j (by simp; omega)
  rw [part, this, part]
  congr 2
  simp [List.getD_eq_getElem?_getD]
theorem part_le (s : List UInt8) (l : List (List UInt8)) (x j n : Nat) (h : j ≤ n) : (allT s (part l x j)).length ≤ (allT s (part l x n)).length := by
  have := all_le s (part l x n) j
  rwa [part, List.take_take, Nat.min_eq_left h] at this
theorem mem_get {l : List (List UInt8)} {i : Nat} (h : i < l.length) : l.getD i [] ∈ l := by simp [List.getD_eq_getElem?_getD, List.getElem?_eq_getElem h]
theorem head_len {A AN B BN : Nat} (hA : A ≤ 2147483647) (hAN : AN ≤ 2147483647) (hB : B ≤ 2147483647) (hBN : BN ≤ 2147483647) : (headT A AN B BN).length ≤ 90 := by
  have h1 := span_len (a := A) (n := AN) (by omega)
  have h2 := span_len (a := B) (n := BN) (by omega)
  have h3 := itoa_len (n := A) (by omega)
  have h4 := itoa_len (n := B) (by omega)
  unfold headT
  split
  · simp only [List.length_append, List.length_cons, List.length_nil]; omega
  · split <;> simp only [List.length_append, List.length_cons, List.length_nil] <;> omega
end Go.Proofs.YtlghobefhmpfkaaDoor
set_option linter.unusedVariables false
set_option linter.unusedSimpArgs false
namespace Go.Proofs.YtlghobefhmpfkaaDoor
open Go Go.Ev
set_option maxRecDepth 100000
variable {G : World → Prop}
def chT (a b : List (List UInt8)) (c : Q4) : List UInt8 := changeT c.1.toNat c.2.1.toNat c.2.2.1.toNat c.2.2.2.toNat a b
def prntT (l : List Q4) (a b : List (List UInt8)) : List UInt8 := l.flatMap (chT a b)
theorem prnt_snoc {l : List Q4} {i : Nat} (a b : List (List UInt8)) (h : i < l.length) : prntT (l.take (i + 1)) a b = prntT (l.take i) a b ++ chT a b (l.getD i (0, 0, 0, 0)) := by
  rw [prntT, List.take_succ_eq_append_getElem h, List.flatMap_append]
  simp [prntT, List.getD_eq_getElem?_getD, List.getElem?_eq_getElem h]
theorem prnt_le (l : List Q4) (a b : List (List UInt8)) (i : Nat) : (prntT (l.take i) a b).length ≤ (prntT l a b).length := by
  conv => rhs; rw [← List.take_append_drop i l, prntT, List.flatMap_append, List.length_append]
  exact Nat.le_add_right _ _
/-- What holds of a change of a right script. -/
def okQ (x y : Int) (c : Q4) : Prop := ((0 ≤ c.1 ∧ c.1 ≤ 2147483647) ∧ (0 ≤ c.2.1 ∧ c.2.1 ≤ 2147483647) ∧ (0 ≤ c.2.2.1 ∧ c.2.2.1 ≤ 2147483647) ∧ (0 ≤ c.2.2.2 ∧ c.2.2.2 ≤ 2147483647) ∧ ¬ (c.2.1 = 0 ∧ c.2.2.2 = 0)) ∧ c.1 + c.2.1 ≤ x ∧ c.2.2.1 + c.2.2.2 ≤ y
theorem chkL_all : ∀ {l : List Q4} {f : Bool} {a b x y : Int}, chkL f a b l = some (x, y) → (∀ c ∈ l, okQ x y c) ∧ a ≤ x ∧ b ≤ y
  | [], f, a, b, x, y, h => by
    rw [chkL] at h
    cases h
    exact ⟨(fun c hc => by cases hc), Int.le_refl _, Int.le_refl _⟩
  | c :: r, f, a, b, x, y, h => by
    rw [chkL] at h
    split at h
    · cases h
    · rename_i h1
      split at h
      · cases h
      · rename_i h2
        obtain ⟨k1, k2, k3⟩ := chkL_all h
        have ho := okC h1
        have h3 : ¬ c.1 - a < 0 := fun e => h2 (.inl (.inl e))
        have h4 : c.1 - a = c.2.2.1 - b := Decidable.not_not.1 fun e => h2 (.inr e)
        refine ⟨fun z hz => ?_, by omega, by omega⟩
        rcases List.mem_cons.1 hz with rfl | hz
        · exact ⟨ho, k2, k3⟩
        · exact k1 z hz
theorem chk_all {l : List Q4} {n m : Int} (h : chk l n m = 0) : ∀ c ∈ l, okQ n m c := by
  unfold chk at h
  split at h
  · cases h
  · rename_i a b e
    split at h
    · cases h
    · rename_i k
      obtain ⟨k1, _, _⟩ := chkL_all e
      intro c hc
      obtain ⟨q1, q2, q3⟩ := k1 c hc
      have r1 : ¬ n < a := fun e => k (.inl (.inl e))
      have r2 : ¬ m < b := fun e => k (.inl (.inr e))
      exact ⟨q1, by omega, by omega⟩
theorem chk_zero (l : List Q4) (n m : Int) : chk l n m = 0 ∨ chk l n m = 50 := by
  unfold chk
  split
  · exact .inr rfl
  · split
    · exact .inr rfl
    · exact .inl rfl
theorem q4_mem {l : List Q4} {i : Nat} (h : i < l.length) : l.getD i (0, 0, 0, 0) ∈ l := by simp [List.getD_eq_getElem?_getD, List.getElem?_eq_getElem h]
def CPrint : Contract := pureC fun args => match args with
  | [.d (.sl rows), .d (.sl a), .d (.sl b)] => (unQ4 rows).bind fun l => (unStr a).bind fun x => (unStr b).map fun y =>
      ((l.length ≤ 1099511627776 ∧ x.length ≤ 1099511627776 ∧ y.length ≤ 1099511627776) ∧ ((∀ s ∈ x, s.length ≤ 1099511627776) ∧ (∀ s ∈ y, s.length ≤ 1099511627776)) ∧ (chk l x.length y.length = 0 → (prntT l x y).length ≤ 70368744177664),
        .tup [.d (.v (str (if chk l x.length y.length = 0 then prntT l x y else []))), .d (.v (.int .i64 (chk l x.length y.length)))])
  | _ => none
end Go.Proofs.YtlghobefhmpfkaaDoor
/- (*strings.Builder).String. -/
set_option linter.unusedVariables false
set_option linter.unusedSimpArgs false
namespace Go.Proofs.YtlghobefhmpfkaaDoor
open Go Go.Ev Go.RowKit
theorem infB4 : (Tryd.prog.info? 5).map (·.size) = some 1 := by kernel_rfl
theorem uptr4 : Tryd.prog.underlying 76 = some (.pointer 5) := by kernel_rfl
theorem cellsB4 : Tryd.prog.cellsOf 5 = 1 := by kernel_rfl
set_option maxHeartbeats 2000000 in
set_option maxRecDepth 100000 in
theorem st_some {t b g cap : Nat} {p : Value} {l : List UInt8} {cur : Array Value} {w : World} (hbk : w.heap[b]? = some (.cells #[p, .slice (some ⟨g, 0, none⟩) l.length cap] t (0, 0))) (hg : w.heap[g]? = some (.cells cur 5 (0, 0))) (h0 : l ≠ []) (hown : w.ownsRow 0 5 1 (.slice (some ⟨g, 0, none⟩) l.length cap) l.length (byteVals l)) (hnc : l.length ≤ cap) (hcm : cap ≤ maxLen) (hcs : cur.size = cap * 1) :
    Calls Tryd.prog 21 #[.pointer (some ⟨b, 0, none⟩)] w fun e w' => e = .returned (.string ⟨l.toArray⟩) ∧ BldEnd w w' b (.slice (some ⟨g, 0, none⟩) l.length cap) := by
  have hl0 : l.length ≠ 0 := by simpa using h0
  have c1 : w.drew.cell? ⟨b, 1, none⟩ = some (.slice (some ⟨g, 0, none⟩) l.length cap) := by
    have : w.drew.heap[b]? = some (.cells #[p, .slice (some ⟨g, 0, none⟩) l.length cap] t (0, 0)) := hbk
    rw [Lib.cell_of_heap this]; rfl
  have hSD : (Builtin.unsafeSliceData_ #[55] 76 #[.slice (some ⟨g, 0, none⟩) l.length cap]).run Tryd.prog w.drew = .ok (.pointer (some ⟨g, 0, none⟩)) w.drew :=
    Lib.run_unsafeSliceData_row _ _ _ _ _ _ (by omega)
  have hUS : (Builtin.unsafeString_ #[76, 3] 9 #[.pointer (some ⟨g, 0, none⟩), .int .i64 l.length]).run Tryd.prog w.drew = .ok (.string ⟨l.toArray⟩) (w.drew.freeze ⟨g, 0, none⟩ l.length) := by
    refine Lib.run_unsafeString_row w.drew 76 3 9 5 uptr4 cellsB4 g cur.size (by have hg' : w.drew.heap[g]? = some (.cells cur 5 (0, 0)) := hg; simp [World.shape?, hg']) l h0 (by omega) (by unfold maxLen at hcm; omega) ?_
    intro j x hx
    have := hown.cells (g := g) rfl j (.int .u8 x.toNat) (by simp [byteVals, hx])
    exact this
  clear hown hnc hcm hcs
  go_enter Tryd.func21, Tryd.ntmps21
  go_wp2
  go_region
  all_goals (go_wp2; go_ret; exact ⟨rfl, BldEnd.freeze (BldEnd.drew (BldEnd.refl w b _)) rfl _⟩)
theorem us_none (W : World) (q : Option Addr) : (Builtin.unsafeString_ #[76, 3] 9 #[.pointer q, .int .i64 0]).run Tryd.prog W = .ok (.string .empty) W :=
  Lib.run_unsafeString_none W _ _ _ q
set_option maxHeartbeats 2000000 in
set_option maxRecDepth 100000 in
theorem st_nil {t b : Nat} {p : Value} {w : World} (hbk : w.heap[b]? = some (.cells #[p, .slice none 0 0] t (0, 0))) :
    Calls Tryd.prog 21 #[.pointer (some ⟨b, 0, none⟩)] w fun e w' => e = .returned (.string ⟨#[]⟩) ∧ BldEnd w w' b (.slice none 0 0) := by
  have hUS := us_none
  have c1 : w.drew.cell? ⟨b, 1, none⟩ = some (.slice none 0 0) := by
    have : w.drew.heap[b]? = some (.cells #[p, .slice none 0 0] t (0, 0)) := hbk
    rw [Lib.cell_of_heap this]; rfl
  have hSD : (Builtin.unsafeSliceData_ #[55] 76 #[.slice none 0 0]).run Tryd.prog w.drew = .ok (.pointer none) w.drew := rfl
  go_enter Tryd.func21, Tryd.ntmps21
  go_wp2
  go_region
  all_goals (go_wp2; go_ret; exact ⟨rfl, BldEnd.drew (BldEnd.refl w b _)⟩)
set_option maxHeartbeats 2000000 in
set_option maxRecDepth 100000 in
theorem st_noroom {t b g : Nat} {p : Value} {cur : Array Value} {w : World} (hbk : w.heap[b]? = some (.cells #[p, .slice (some ⟨g, 0, none⟩) 0 0] t (0, 0))) (hg : w.heap[g]? = some (.cells cur 5 (0, 0))) :
    Calls Tryd.prog 21 #[.pointer (some ⟨b, 0, none⟩)] w fun e w' => e = .returned (.string ⟨#[]⟩) ∧ BldEnd w w' b (.slice (some ⟨g, 0, none⟩) 0 0) := by
  have hUS := us_none
  have hlt : b < w.heap.size := (Array.getElem?_eq_some_iff.1 hbk).1
  have c1 : w.drew.cell? ⟨b, 1, none⟩ = some (.slice (some ⟨g, 0, none⟩) 0 0) := by
    have : w.drew.heap[b]? = some (.cells #[p, .slice (some ⟨g, 0, none⟩) 0 0] t (0, 0)) := hbk
    rw [Lib.cell_of_heap this]; rfl
  have hSD : (Builtin.unsafeSliceData_ #[55] 76 #[.slice (some ⟨g, 0, none⟩) 0 0]).run Tryd.prog w.drew = .ok (.pointer (some ⟨w.drew.heap.size, 0, none⟩)) (w.drew.alloc (.view ⟨g, 0, none⟩ 5)) :=
    Lib.run_unsafeSliceData_zero w.drew _ _ 5 uptr4 ⟨g, 0, none⟩ 0 (5, cur.size) (by have hg' : w.drew.heap[g]? = some (.cells cur 5 (0, 0)) := hg; simp [World.shape?, hg'])
  have c2 : (w.drew.alloc (.view ⟨g, 0, none⟩ 5)).cell? ⟨b, 1, none⟩ = some (.slice (some ⟨g, 0, none⟩) 0 0) := by
    have : (w.drew.alloc (.view ⟨g, 0, none⟩ 5)).heap[b]? = _ := (Lib.alloc_old w.drew _ b hlt).trans hbk
    rw [Lib.cell_of_heap this]; rfl
  have c3 : (w.alloc (.view ⟨g, 0, none⟩ 5)).drew.cell? ⟨b, 1, none⟩ = some (.slice (some ⟨g, 0, none⟩) 0 0) := c2
  have c0 : w.cell? ⟨b, 1, none⟩ = some (.slice (some ⟨g, 0, none⟩) 0 0) := c1
  go_enter Tryd.func21, Tryd.ntmps21
  go_wp2
  go_region
  all_goals (go_wp2; go_ret; exact ⟨rfl, BldEnd.alloc (BldEnd.drew (BldEnd.refl w b _)) _⟩)
set_option maxHeartbeats 2000000 in
set_option maxRecDepth 100000 in
theorem st_room {t b g cap : Nat} {p : Value} {w : World} (hc0 : cap ≠ 0) (hbk : w.heap[b]? = some (.cells #[p, .slice (some ⟨g, 0, none⟩) 0 cap] t (0, 0))) :
    Calls Tryd.prog 21 #[.pointer (some ⟨b, 0, none⟩)] w fun e w' => e = .returned (.string ⟨#[]⟩) ∧ BldEnd w w' b (.slice (some ⟨g, 0, none⟩) 0 cap) := by
  have hUS := us_none
  have c1 : w.drew.cell? ⟨b, 1, none⟩ = some (.slice (some ⟨g, 0, none⟩) 0 cap) := by
    have : w.drew.heap[b]? = some (.cells #[p, .slice (some ⟨g, 0, none⟩) 0 cap] t (0, 0)) := hbk
    rw [Lib.cell_of_heap this]; rfl
  have hSD : (Builtin.unsafeSliceData_ #[55] 76 #[.slice (some ⟨g, 0, none⟩) 0 cap]).run Tryd.prog w.drew = .ok (.pointer (some ⟨g, 0, none⟩)) w.drew :=
    Lib.run_unsafeSliceData_row _ _ _ _ _ _ hc0
  clear hc0
  go_enter Tryd.func21, Tryd.ntmps21
  go_wp2
  go_region
  all_goals (go_wp2; go_ret; exact ⟨rfl, BldEnd.drew (BldEnd.refl w b _)⟩)
theorem sST {G : World → Prop} : Sound G Tryd.prog 21 (strC 5) := by
  refine str_sound ⟨Tryd.f21, by kernel_rfl, by kernel_rfl, by kernel_rfl⟩ ?_
  rintro w t b p v bs h
  obtain ⟨h1, _, hown, h4⟩ := h
  have hown' := hown
  obtain ⟨g1, g2⟩ := hown
  rcases g2 with ⟨rfl, h0⟩ | ⟨g, cap, cur, rfl, e2, e3, e4, e5, e6, e7⟩
  · have : bs = [] := List.eq_nil_of_length_eq_zero h0
    subst this
    exact st_nil h1
  · cases bs with
    | nil =>
      by_cases hc0 : cap = 0
      · subst hc0; exact st_noroom h1 e3
      · exact st_room hc0 h1
    | cons x r => exact st_some h1 e3 (by simp) hown' e4 e5 e6
end Go.Proofs.YtlghobefhmpfkaaDoor
set_option linter.unusedVariables false
set_option linter.unusedSimpArgs false
namespace Go.Proofs.YtlghobefhmpfkaaDoor
open Go Go.Ev
set_option maxRecDepth 100000
variable {G : World → Prop}
theorem part_rows (a : List (List UInt8)) (A AN : Nat) : ((strRows a).take (A + AN)).drop A = strRows (part a A AN) := by
  rw [strRows_sub, List.drop_take, Nat.add_sub_cancel_left, part]
theorem allT_nil (s : List UInt8) : allT s [] = [] := rfl
theorem part_zero (a : List (List UInt8)) (A : Nat) : part a A 0 = [] := by simp [part]
theorem mem_part {a : List (List UInt8)} {A AN : Nat} {x : List UInt8} (h : x ∈ part a A AN) : x ∈ a := List.mem_of_mem_drop (List.mem_of_mem_take h)
theorem part_len (a : List (List UInt8)) (A AN : Nat) : (part a A AN).length ≤ AN := by unfold part; simp; omega
theorem cons_ne (a b : UInt8) (h : a ≠ b) : ([a] = [b]) = False := by simp [h]
end Go.Proofs.YtlghobefhmpfkaaDoor
set_option linter.unusedVariables false
set_option linter.unusedSimpArgs false
namespace Go.Proofs.YtlghobefhmpfkaaDoor
open Go Go.Ev
set_option maxRecDepth 100000
theorem rdStr {c : Rdr} {a : Addr} : ∀ {l : List (List UInt8)} {k : Nat}, (∀ i, i < l.length → c (a.add (k + i)) (.string ⟨(l.getD i []).toArray⟩)) → RdRows c a 1 k (strRows l)
  | [], k, h => by simp [strRows, RdRows]
  | s :: l, k, h => by
    have h0 := h 0 (by simp)
    have hr : RdRows c a 1 (k + 1) (strRows l) := rdStr fun i hi => by
      have := h (i + 1) (by simp; omega)
      rw [show k + 1 + i = k + (i + 1) by omega]
      simpa using this
    have e : strRows (s :: l) = [.v (.string ⟨s.toArray⟩)] :: strRows l := rfl
    rw [e]
    simp only [RdRows, RdCells, Rd]
    exact ⟨rfl, ⟨⟨_, by simpa using h0, rfl, rfl⟩, trivial⟩, hr⟩
theorem rdQ4 {c : Rdr} {a : Addr} : ∀ {l : List Q4} {k : Nat}, (∀ i, i < l.length → RdCells c a (k + i * 4) (q4Row (l.getD i (0, 0, 0, 0)))) → RdRows c a 4 k (q4Rows l)
  | [], k, h => by simp [q4Rows, RdRows]
  | s :: l, k, h => by
    have h0 := h 0 (by simp)
    have hr : RdRows c a 4 (k + 4) (q4Rows l) := rdQ4 fun i hi => by
      have := h (i + 1) (by simp; omega)
      rw [show k + 4 + i * 4 = k + (i + 1) * 4 by omega]
      simpa using this
    have e : q4Rows (s :: l) = q4Row s :: q4Rows l := rfl
    rw [e]
    simp only [RdRows]
    exact ⟨rfl, by simpa using h0, hr⟩
/-- A laid table's block holds its integers and nothing else. -/
theorem tab_only {P : Program} {W : World} {name : String} {k : IntKind} {zs : List Int} {g : Nat} (h : Lib.TabIs P W name k zs) (hg : P.globalNamed name = some g) {a : Addr} {u : Value} (ha : W.cell? a = some u) (hb : a.block = g) : ∃ z, u = .int k z := by
  unfold Lib.TabIs World.var? at h
  rw [hg] at h
  simp only [Option.bind_some] at h
  unfold World.cell? at ha
  rw [hb] at ha
  split at h
  · rename_i cs t f e
    rw [e] at ha
    simp only [Option.some.injEq] at h
    subst h
    simp only at ha
    split at ha
    · cases ha
    · have hm := Array.mem_of_getElem? ha
      simp only [List.mem_toArray, List.mem_map] at hm
      obtain ⟨z, _, rfl⟩ := hm
      exact ⟨z, rfl⟩
  · cases h
theorem gP10 : Tryd.prog.globalNamed "internal/strconv.uint64pow10" = some (Tryd.prog.globalNamed "internal/strconv.uint64pow10").get! := by kernel_rfl
/-- The table is hidden. -/
noncomputable def HP : Hd Pow10 := ⟨fun b => some b = Tryd.prog.globalNamed "internal/strconv.uint64pow10", fun b => some b = Tryd.prog.globalNamed "internal/strconv.uint64pow10", fun _ h => h, fun w w' h hb => by
  unfold Pow10 Lib.TabIs World.var? at h ⊢
  cases e : Tryd.prog.globalNamed "internal/strconv.uint64pow10" with
  | none => rw [e] at h; cases h
  | some g => rw [e] at h; simp only [Option.bind_some] at h ⊢; rw [hb g (by rw [e])]; exact h, 0, []⟩
theorem HP_no {W : World} (h : Pow10 W) {a : Addr} {u : Value} (ha : W.cell? a = some u) (hu : ∀ z, u ≠ .int .u64 z) : ¬ HP a.block := fun hb => by
  obtain ⟨z, e⟩ := tab_only h hb.symm ha rfl
  exact hu z e
theorem HP_lt {W : World} (h : Pow10 W) {b : Nat} (hb : HP b) : b < W.heap.size := by
  have hb' : some b = Tryd.prog.globalNamed "internal/strconv.uint64pow10" := hb
  unfold Pow10 Lib.TabIs World.var? at h
  rw [← hb'] at h
  simp only [Option.bind_some] at h
  split at h
  · rename_i e
    exact (Array.getElem?_eq_some_iff.1 e).1
  · cases h
end Go.Proofs.YtlghobefhmpfkaaDoor
/- From a law's contract to its row: what a call leaves lies below the heap's end as it lay. -/
set_option linter.unusedVariables false
set_option linter.unusedSimpArgs false
namespace Go.Ev
open Go Go.RowKit Go.WideShapes Go.ChangeShapes

theorem law_calls {G : World → Prop} (H : Hd G) {P : Program} {f : FuncId} {C : Contract} (h : Sound G P f C) {args : List SV} {vs : List Value} {W : World} (hg : G W) (hh : ∀ b, H b → b < W.heap.size) (hw : C.wp args ⟨0, []⟩ fun out s => out = .ret (.d (.v (.bool true))))
    (hvs : CnL (fun _ => undef) 0 (fun a u => W.cell? a = some u ∧ ¬ H a.block) args vs) : Calls P f vs.toArray W fun e W' => e = .returned (.bool true) ∧ Below W.heap.size W W' := by
  obtain ⟨_, hc⟩ := h.2.1 H W (fun _ => undef) (fun _ _ => False) ⟨0, []⟩ args vs _ hw (SOk.empty hh hg _ _)
    (CnL_mono (Nat.le_refl _) (fun _ _ => rfl) (fun a u hau => ⟨hau.1, fun ⟨_, _, h1, _⟩ => by simp [lk] at h1, hau.2⟩) _ _ hvs)
  refine hc.mono ?_
  rintro e W' ⟨m', B', s', out, rfl, hO, hS, hout⟩
  cases e with
  | returned v =>
    simp only [OutOk, Cn, Rd] at hout
    refine ⟨by rw [hout.1], ⟨hS.os, hS.tape, hS.output, hS.size, fun k hk => hS.block k hk fun ⟨_, _, h1, _⟩ => by simp [lk] at h1⟩⟩
  | _ => exact hout.elim

/-- Nothing is hidden, nothing is laid. -/
def noH : Hd (fun _ => True) := ⟨fun _ => False, fun _ => False, fun _ h => h, fun _ _ _ _ => trivial, 0, []⟩
section
variable {H : Type} {enc : TypeId × Value → H} {P : Program}
theorem post_of_below {f : Func} {s : ChangeSpec} {apart fresh handsOn again : Bool} {W W' : World} {args : Array Value} {v : Value} {ds gs : List (DataW H)} {before pa pv : List MemPlace}
    (hW : DataW.Whole enc P f.params.toList s.vars apart W args.toList ds gs before)
    (hres : ∀ (b : Nat) (sp : Nat → Bool) (hd : Bool), DataW.TrodAll enc P W' b sp hd f.resultTypes.toList (v.resultList f.resultTypes.size) (s.fn H (ds ++ gs)).results [])
    (hargs : ∀ sp : Nat → Bool, (∀ p ∈ before, sp p.block = true) → DataW.TrodAll enc P W' 0 sp true f.params.toList args.toList (s.fn H (ds ++ gs)).args pa)
    (hvars : ∀ sp : Nat → Bool, (∀ p ∈ before, sp p.block = true) → DataW.TrodVars enc P W' sp s.vars (s.fn H (ds ++ gs)).vars pv)
    (hps : before = pa ++ pv) (hb : Below W.heap.size W W')
    (hok : ∀ (j : Nat) (t : TypeId) (r : Value), f.resultTypes[j]? = some t → (v.resultList f.resultTypes.size)[j]? = some r → Value.okWide P W' .any 0 t r) :
    s.post enc P f apart fresh handsOn again W args v W' := by
  have hlt : ∀ p ∈ before, p.block < W.heap.size := fun p hp => hW.lt p hp
  have hold : ∀ p ∈ before, (fun b => decide (b < W.heap.size)) p.block = true := fun p hp => by simpa using hlt p hp
  refine ⟨ds, gs, before, [], pa, pv, hW, hres _ _ _, hargs _ hold, hvars _ hold, World.keptBut_mono (fun p hp => ⟨hp, ?_⟩) (hb.frame (· ∈ before)), fun _ => ?_⟩
  · rw [hps, List.mem_append] at hp
    exact Or.inr hp
  · obtain ⟨_, _, _, _, _, hz, hn⟩ := hW
    refine ⟨hok, _, _, ([] ++ pa) ++ pv, ⟨[] ++ pa, pv, trodAll_append (hargs _ (fun _ _ => rfl)) (hres _ _ _), hvars _ (fun _ _ => rfl), rfl, ?_, ?_⟩, ?_⟩
    · intro b off hp
      have hin : MemPlace.cell b off ∈ before := by rw [hps]; simpa using hp
      rw [hb.frozen (hlt _ hin)]
      exact hz b off hin
    · intro ha
      have := hn ha
      rw [hps] at this
      simpa using this
    · intro p hp _
      rw [hps]
      simpa using hp
end
end Go.Ev
set_option linter.unusedVariables false
set_option linter.unusedSimpArgs false
namespace Go.Proofs.YtlghobefhmpfkaaDoor
open Go Go.Ev
open Go.ChangeShapes Go.WideShapes Go.ChangeAt Go.RowKit
set_option maxRecDepth 100000
/-- Shapes of data: what stands in a cell. -/
inductive Sh where
  | int (k : IntKind)
  | str
  | bool
  | sl (fs : List Sh)
mutual
def HasD : D → Sh → Prop
  | .v x, s => match x, s with
    | .int k' z, .int k => k' = k ∧ k ≠ .u64 ∧ (Lit.int k z).wf = true
    | .string _, .str => True
    | .bool _, .bool => True
    | _, _ => False
  | .sl rows, s => match s with
    | .sl fs => HasR rows fs
    | _ => False
  | .pt _, _ => False
  | .ifc _ _, _ => False
def HasL : List D → List Sh → Prop
  | [], fs => fs = []
  | d :: ds, fs => match fs with
    | s :: ss => HasD d s ∧ HasL ds ss
    | [] => False
def HasR : List (List D) → List Sh → Prop
  | [], _ => True
  | r :: rs, fs => HasL r fs ∧ HasR rs fs
end
mutual
def dsz : D → Nat
  | .v x => match x with
    | .string s => s.size + 1
    | _ => 1
  | .sl rows => dszR rows + 1
  | .pt _ => 0
  | .ifc _ _ => 0
def dszL : List D → Nat
  | [] => 0
  | d :: ds => dsz d + dszL ds
def dszR : List (List D) → Nat
  | [] => 0
  | r :: rs => dszL r + dszR rs
end
/-- The shapes of a type's cells. -/
def shF (P : Program) : Nat → TypeId → Option (List Sh)
  | 0, _ => none
  | n + 1, t => match P.underlying t with
    | some (.int k) => if k = .u64 then none else some [.int k]
    | some .string => some [.str]
    | some .bool => some [.bool]
    | some (.slice e) => (shF P n e).bind fun fs => if fs.isEmpty then none else some [.sl fs]
    | some (.struct fs) => if Go.Deep.oneCellFields P fs && P.cellsOf t == fs.size then fs.toList.mapM fun f => (shF P n f.type).bind fun l => match l with
        | [s] => some s
        | _ => none
      else none
    | _ => none

section
variable {H : Type} {enc : TypeId × Value → H} {P : Program} {W : World} {c : Rdr}
theorem has_no64 : ∀ {d : D} {s : Sh} {u : Value}, HasD d s → Rd c d u → ∀ z, u ≠ .int .u64 z
  | .v x, s, u, h, hr, z => by
    simp only [Rd] at hr
    rintro rfl
    rw [← hr.1] at h
    simp only [HasD] at h
    split at h
    · rename_i k' n k e1
      simp only [Value.int.injEq] at e1
      obtain ⟨e1, _⟩ := e1
      exact h.2.1 (h.1.symm.trans e1.symm)
    · rename_i e; cases e
    · rename_i e; cases e
    · exact h
  | .sl rows, s, u, h, hr, z => by
    simp only [Rd] at hr
    obtain ⟨A, cap, e, _⟩ := hr
    rw [e]; intro e2; cases e2
theorem HasL_len : ∀ {ds : List D} {fs : List Sh}, HasL ds fs → ds.length = fs.length
  | [], fs, h => by simp only [HasL] at h; subst h; rfl
  | d :: ds, [], h => by simp [HasL] at h
  | d :: ds, s :: ss, h => by simp only [HasL] at h; simp [HasL_len h.2]
theorem rdCells_of (hc : ∀ a u, W.cell? a = some u → (∀ z, u ≠ .int .u64 z) → c a u) {a : Addr} : ∀ {ds : List D} {fs : List Sh} {cs : List Value} {k : Nat}, RdL c ds cs → HasL ds fs → (∀ j, j < cs.length → W.cell? (a.add (k + j)) = cs[j]?) → RdCells c a k ds
  | [], _, _, _, _, _, _ => by simp [RdCells]
  | d :: ds, [], cs, k, h, hl, hw => by simp [HasL] at hl
  | d :: ds, s :: ss, [], k, h, hl, hw => by simp [RdL] at h
  | d :: ds, s :: ss, u :: cs, k, h, hl, hw => by
    simp only [RdL] at h
    simp only [HasL] at hl
    simp only [RdCells]
    have h0 := hw 0 (by simp)
    simp only [Nat.add_zero, List.getElem?_cons_zero] at h0
    refine ⟨⟨u, hc _ _ h0 (has_no64 hl.1 h.1), h.1⟩, rdCells_of hc (k := k + 1) h.2 hl.2 fun j hj => ?_⟩
    have := hw (j + 1) (by simp; omega)
    rw [show k + 1 + j = k + (j + 1) by omega]
    simpa using this
theorem rdRows_of {a : Addr} {sz : Nat} : ∀ {l : List (List D)} {k : Nat}, (∀ i r, l[i]? = some r → r.length = sz ∧ RdCells c a (k + i * sz) r) → RdRows c a sz k l
  | [], k, h => by simp [RdRows]
  | r :: l, k, h => by
    have h0 := h 0 r rfl
    simp only [RdRows]
    refine ⟨h0.1, by simpa using h0.2, rdRows_of fun i x hx => ?_⟩
    have := h (i + 1) x (by simpa using hx)
    rw [show k + sz + i * sz = k + (i + 1) * sz by rw [Nat.add_mul]; omega]
    exact this
theorem HasR_of : ∀ {l : List (List D)} {fs : List Sh}, (∀ r ∈ l, HasL r fs) → HasR l fs
  | [], _, _ => by simp [HasR]
  | r :: l, fs, h => by simp only [HasR]; exact ⟨h r (by simp), HasR_of fun x hx => h x (by simp [hx])⟩
theorem dszR_le {F : Nat → List D} {X : Nat → DataW H} : ∀ {l : List Nat}, (∀ i ∈ l, dszL (F i) ≤ Rows.uptoBulk (X i)) → dszR (l.map F) ≤ Rows.uptoBulkAll (l.map X)
  | [], _ => by simp [dszR, Rows.uptoBulkAll]
  | i :: l, h => by
    simp only [List.map_cons, dszR, Rows.uptoBulkAll]
    have h0 := h i (by simp)
    have := dszR_le (l := l) fun j hj => h j (by simp [hj])
    omega

open Go.Deep in
theorem openF (hc : ∀ a u, W.cell? a = some u → (∀ z, u ≠ .int .u64 z) → c a u) : ∀ (n : Nat) (t : TypeId) (fs : List Sh), shF P n t = some fs → ∀ (fuel : Nat) (cs : List Value) (x : DataW H × List MemPlace), DataW.trod enc P W 0 (fun _ => true) true fuel t cs = some x →
    ∃ ds, RdL c ds cs ∧ HasL ds fs ∧ dszL ds ≤ Rows.uptoBulk x.1
  | 0, t, fs, h, _, _, _, _ => by simp [shF] at h
  | n + 1, t, fs, h, fuel, cs, x, hx => by
    unfold shF at h
    split at h
    · rename_i k hu
      split at h
      · cases h
      · rename_i hk
        simp only [Option.some.injEq] at h; subst h
        obtain ⟨z, rfl, rfl, hw⟩ := DataW.trod_int hu hx
        exact ⟨[.v (.int k z)], ⟨⟨rfl, rfl⟩, trivial⟩, by simp [HasL, HasD, hk, hw], by simp [dszL, dsz, Rows.uptoBulk]⟩
    · rename_i hu
      simp only [Option.some.injEq] at h; subst h
      obtain ⟨s, rfl, rfl, _⟩ := DataW.trod_string hu hx
      refine ⟨[.v (.string s)], ⟨⟨rfl, rfl⟩, trivial⟩, by simp [HasL, HasD], ?_⟩
      simp [dszL, dsz, Rows.uptoBulk]
    · rename_i hu
      simp only [Option.some.injEq] at h; subst h
      obtain ⟨s, rfl, rfl⟩ := DataW.trod_bool hu hx
      exact ⟨[.v (.bool s)], ⟨⟨rfl, rfl⟩, trivial⟩, by simp [HasL, HasD], by simp [dszL, dsz, Rows.uptoBulk]⟩
    · rename_i e hu
      obtain ⟨gs, hg, h⟩ := Option.bind_eq_some_iff.1 h
      split at h
      · cases h
      · rename_i hne
        simp only [Option.some.injEq] at h; subst h
        rcases open_slice hu hx with ⟨rfl, rfl⟩ | ⟨a, len, cap, mm, n', X, Pl, rfl, _, hl, hm, hz, rfl, hi⟩
        · refine ⟨[.sl []], ⟨?_, trivial⟩, by simp [HasL, HasD, HasR], by simp [dszL, dsz, dszR, Rows.uptoBulk]⟩
          simp only [Rd]
          exact ⟨none, 0, rfl, by simp, by simp, .inl trivial⟩
        · simp only [if_true] at hz
          subst hz
          have hM : maxLen = 9223372036854775807 := by decide
          have each : ∀ i, ∃ ds, i < len → (∃ cs', W.cells? 0 (a.add (i * P.cellsOf e)) (P.cellsOf e) = some cs' ∧ RdL c ds cs') ∧ HasL ds gs ∧ dszL ds ≤ Rows.uptoBulk (X i) := fun i => by
            by_cases hil : i < len
            · obtain ⟨cs', h1, h2⟩ := hi i (by omega)
              obtain ⟨ds, k1, k2, k3⟩ := openF hc n e gs hg n' cs' _ h2
              exact ⟨ds, fun _ => ⟨⟨cs', h1, k1⟩, k2, k3⟩⟩
            · exact ⟨[], fun h => absurd h hil⟩
          let F : Nat → List D := fun i => Classical.choose (each i)
          have hF : ∀ i, i < len → (∃ cs', W.cells? 0 (a.add (i * P.cellsOf e)) (P.cellsOf e) = some cs' ∧ RdL c (F i) cs') ∧ HasL (F i) gs ∧ dszL (F i) ≤ Rows.uptoBulk (X i) := fun i hil => Classical.choose_spec (each i) hil
          refine ⟨[.sl ((List.range len).map F)], ⟨?_, trivial⟩, ?_, ?_⟩
          · simp only [Rd]
            refine ⟨some a, mm, by simp, by simp; omega, by simp; omega, ?_⟩
            by_cases h0 : len = 0
            · left; subst h0; rfl
            · right
              refine ⟨a, P.cellsOf e, rfl, ?_, rdRows_of fun i r hr => ?_⟩
              · obtain ⟨⟨cs', h1, h2⟩, h3, _⟩ := hF 0 (by omega)
                obtain ⟨_, h4, h5⟩ := World.cells?_some h1
                have h6 := RdL_length h2
                have h7 := HasL_len h3
                have h8 : 0 < P.cellsOf e := by
                  rw [← h4, h6, h7]
                  cases gs with
                  | nil => simp at hne
                  | cons _ _ => simp
                have h9 := h5 0 h8
                rw [Nat.zero_mul, List.getElem?_eq_getElem (by omega)] at h9
                have := World.cell?_spot h9
                simpa [Addr.add] using this
              · rw [List.getElem?_map] at hr
                obtain ⟨j, hj, rfl⟩ := Option.map_eq_some_iff.1 hr
                obtain ⟨hil, rfl⟩ := List.getElem?_eq_some_iff.1 hj
                simp only [List.getElem_range] at *
                simp only [List.length_range] at hil
                obtain ⟨⟨cs', h1, h2⟩, h3, _⟩ := hF i hil
                obtain ⟨_, h4, h5⟩ := World.cells?_some h1
                refine ⟨by rw [← RdL_length h2, h4], ?_⟩
                refine rdCells_of hc h2 h3 fun j hj => ?_
                have := h5 j (by omega)
                rw [← this, Nat.zero_add, Go.Deep.add_add]
          · simp only [HasL, HasD, and_true]
            refine HasR_of fun r hr => ?_
            obtain ⟨i, hi', rfl⟩ := List.mem_map.1 hr
            exact (hF i (List.mem_range.1 hi')).2.1
          · have := dszR_le (F := F) (X := X) (l := List.range len) fun i hi' => (hF i (List.mem_range.1 hi')).2.2
            simp only [dszL, dsz, Rows.uptoBulk]
            omega
    · rename_i fl hu
      split at h
      · rename_i hone'
        simp only [Bool.and_eq_true, beq_iff_eq] at hone'
        obtain ⟨hone, hct⟩ := hone'
        obtain ⟨ys, n', hn', rfl, hlen, hyl, hff⟩ := DataW.trod_struct hu hx
        have h0 := h
        clear h
        have key : ∀ (i : Nat) (r : List Field) (ss : List Sh), (∀ j f, r[j]? = some f → fl[i + j]? = some f) → i + r.length = fl.size → (r.mapM fun f => (shF P n f.type).bind fun l => match l with
              | [s] => some s
              | _ => none) = some ss → cs.length = fl.size → ∃ ds, RdL c ds (cs.drop i) ∧ HasL ds ss ∧ dszL ds ≤ Rows.uptoBulkAll ((ys.drop i).map (·.1)) := by
          intro i r
          induction r generalizing i with
          | nil =>
            intro ss hr hl hs hcs
            simp only [List.mapM_nil, Option.pure_def, Option.some.injEq] at hs; subst hs
            simp only [List.length_nil, Nat.add_zero] at hl
            rw [List.drop_of_length_le (by omega)]
            exact ⟨[], trivial, by simp [HasL], by simp [dszL]⟩
          | cons f r ih =>
            intro ss hr hl hs hcs
            simp only [List.mapM_cons, Option.bind_eq_bind, Option.bind_eq_some_iff, Option.pure_def, Option.some.injEq] at hs
            obtain ⟨s, ⟨l1, hl1, hl2⟩, ss', hs', rfl⟩ := hs
            have hl3 : l1 = [s] := by
              split at hl2
              · simp only [Option.some.injEq] at hl2; subst hl2; rfl
              · cases hl2
            subst hl3
            have hfi : fl[i]? = some f := hr 0 f rfl
            obtain ⟨ho, hk⟩ := hone_of hone i f hfi
            have h2 := hff i f hfi
            simp only [List.length_cons] at hl
            have hic : i < cs.length := by omega
            have hiy : i < ys.length := by omega
            rw [ho, hk, List.drop_eq_getElem_cons hic, List.take_succ_cons, List.take_zero, List.getElem?_eq_getElem hiy] at h2
            obtain ⟨ds1, k1, k2, k3⟩ := openF hc n f.type [s] hl1 n' _ _ h2
            obtain ⟨ds2, q1, q2, q3⟩ := ih (i + 1) ss' (fun j g hj => by
              have := hr (j + 1) g (by simpa using hj)
              rwa [show i + (j + 1) = i + 1 + j by omega] at this) (by omega) hs' hcs
            rw [List.drop_eq_getElem_cons hic, List.drop_eq_getElem_cons hiy]
            match ds1, k1, k2 with
            | [d], k1, k2 =>
              refine ⟨d :: ds2, ⟨k1.1, q1⟩, ?_, ?_⟩
              · simp only [HasL, and_true] at k2 ⊢; exact ⟨k2, q2⟩
              · simp only [dszL, List.map_cons, Rows.uptoBulkAll] at k3 ⊢; omega
            | [], k1, k2 => simp [HasL] at k2
            | _ :: _ :: _, k1, k2 => simp [HasL] at k2
        have hcl : cs.length = fl.size := hlen.trans hct
        obtain ⟨ds, k1, k2, k3⟩ := key 0 fl.toList fs (fun j f hj => by simpa using hj) (by simp) h0 hcl
        refine ⟨ds, by simpa using k1, k2, ?_⟩
        simp only [List.drop_zero] at k3
        simp only [Rows.uptoBulk]
        omega
      · cases h
    · cases h
end
end Go.Proofs.YtlghobefhmpfkaaDoor
/- The compiled code of functions, by program (gen.py): each theorem says that the loaded program compiles to it. -/
set_option linter.unusedVariables false
namespace Go.Proofs.YtlghobefhmpfkaaDoor
open Go Go.Ev
set_option maxRecDepth 100000

/-! 6: redline/rcsfmt.Run -/
def A6 : Ann := ⟨fun r i => if r = 21 ∧ i = 13 then 1 else if r = 24 ∧ i = 4 then 1 else 0, fun r => if r = 21 then some ([0, 1, 2, 3, 4, 5, 6, 7, 8, 9, 10, 11, 12, 13, 14, 15], [(0, some true), (1, some true), (2, some true), (3, some true), (5, some true), (6, some true), (7, some true), (8, some true), (9, some true), (10, some true), (11, none), (12, some true), (13, some true), (4, none), (14, some false), (15, some true), (16, some true), (17, some false)]) else if r = 16 then some ([0, 1, 2, 3, 4, 5, 6, 7, 8, 9, 10, 11, 12, 13, 14, 15], [(0, some true), (1, some true), (2, some true), (4, some true), (3, none), (5, none), (6, some true), (7, some true), (8, some true), (9, some false)]) else none, fun r => if r = 1 then some (false, [0, 1]) else if r = 2 then some (false, []) else if r = 3 then some (false, [0, 1]) else if r = 4 then some (false, [1, 6]) else if r = 6 then some (false, [1, 6, 7, 8]) else if r = 7 then some (false, [1, 6, 7, 8]) else if r = 8 then some (false, [1, 6, 7, 8]) else if r = 10 then some (false, [8]) else if r = 11 then some (false, [1, 6, 7, 8, 9]) else if r = 13 then some (false, [8, 11]) else if r = 14 then some (false, [1, 6, 7, 8, 9]) else if r = 15 then some (false, [1, 6, 7, 8, 9]) else if r = 16 then some (false, [1, 6, 7, 8, 9]) else if r = 17 then some (false, [1, 6, 7, 8, 9]) else if r = 18 then some (false, [6]) else if r = 19 then some (false, [1, 6, 7, 8, 9]) else if r = 20 then some (false, [1, 6, 7, 8, 9]) else if r = 21 then some (false, [1, 6, 7, 8, 9]) else if r = 22 then some (false, [1, 6, 7, 8, 9]) else if r = 23 then some (false, [1, 6, 7]) else if r = 24 then some (false, [6, 7]) else if r = 25 then some (false, [6]) else if r = 26 then some (false, [7]) else none, fun r => if r = 6 then [1, 6, 7, 8] else []⟩
def S6_0 : SCode :=
  (.ops [⟨none, (some 4), .mv 4 (.k (Value.slice none 0 0)), false⟩,
    ⟨none, (some 5), .mv 5 (.k Value.nilIface), false⟩])
def S6_1 : SCode :=
  (.seq (.seq (.keep [0, 1]) (.ops [⟨none, (some 12), .mv 12 (.s 0), false⟩,
    ⟨none, (some 13), .lens 13 (.s 12), false⟩,
    ⟨none, (some 14), .bin 14 .gtr (.s 13) (.k (Value.int .i64 1048576)), false⟩]))
  (.cond (.s 14) (.seq (.seq (.keep []) (.ops [⟨none, (some 15), .call (some 15) 12 false [(.k (Value.int .i64 0)), (.k (Value.int .i64 9))], false⟩,
    ⟨none, (some 4), .mv 4 (.k (Value.slice none 0 0)), false⟩,
    ⟨none, (some 5), .mv 5 (.s 15), false⟩]))
  .ret) .skip))
def S6_2 : SCode :=
  (.seq (.keep [0, 1]) (.ops [⟨none, (some 16), .mv 16 (.s 0), false⟩,
    ⟨none, (some 17), .call (some 17) 5 false [(.s 16)], false⟩,
    ⟨none, (some 6), .mv 6 (.s 17), false⟩]))
def S6_3 : SCode :=
  (.seq (.keep [1, 6]) (.ops [⟨none, (some 18), .mv 18 (.s 1), false⟩,
    ⟨none, (some 19), .bd 19 [(Value.slice none 0 0), (Value.slice none 0 0), (Value.int .i64 0), (Value.int .i64 0)] [(0, 1, (.s 18)), (3, 1, (.k (Value.int .i64 (-1))))], false⟩,
    ⟨none, (some 20), .bx 20 43 4 (.s 19), false⟩,
    ⟨none, (some 7), .mv 7 (.s 20), false⟩]))
def S6_4 : SCode :=
  (.seq (.ops [⟨none, (some 8), .mv 8 (.k (Value.int .i64 0)), false⟩])
  (.block 0 (.loop [1, 6, 7, 8] (.seq (.seq (.seq (.keep [1, 6, 7, 8]) (.ops [⟨none, (some 21), .mv 21 (.s 8), false⟩,
    ⟨none, (some 22), .mv 22 (.s 6), false⟩,
    ⟨none, (some 23), .len 23 (.s 22), false⟩,
    ⟨none, (some 24), .bin 24 .lss (.s 21) (.s 23), false⟩]))
  (.cond (.s 24) .skip (.exit 0)))
  (.seq (.block 1 (.seq (.seq (.keep [1, 6, 7, 8]) (.ops [⟨none, (some 28), .mv 28 (.s 6), false⟩,
    ⟨none, (some 29), .mv 29 (.s 8), false⟩,
    ⟨none, (some 30), .ia 30 1 (.s 28) (.s 29), false⟩,
    ⟨none, (some 31), .ld 31 false 1 (.s 30), false⟩,
    ⟨none, (some 32), .call (some 32) 13 false [(.s 31)], false⟩,
    ⟨none, (some 27), .mv 27 (.s 32), false⟩,
    ⟨none, (some 33), .ex 33 (.s 27) 0, false⟩,
    ⟨none, (some 34), .ex 34 (.s 27) 1, false⟩,
    ⟨none, (some 9), .al 9 45 [(Value.int .u8 0), (Value.int .i64 0), (Value.int .i64 0)], false⟩,
    ⟨none, none, .st true 3 (.s 9) (.s 33), true⟩,
    ⟨none, (some 10), .mv 10 (.s 34), false⟩]))
  (.seq (.seq (.ops [⟨none, (some 35), .mv 35 (.s 10), false⟩,
    ⟨none, (some 36), .not 36 (.s 35), false⟩])
  (.cond (.s 36) (.seq (.seq (.keep [8]) (.ops [⟨none, (some 37), .mv 37 (.s 8), false⟩,
    ⟨none, (some 38), .binc 38 .add (.s 37) (.k (Value.int .i64 1)), false⟩,
    ⟨none, (some 39), .call (some 39) 12 false [(.s 38), (.k (Value.int .i64 3))], false⟩,
    ⟨none, (some 4), .mv 4 (.k (Value.slice none 0 0)), false⟩,
    ⟨none, (some 5), .mv 5 (.s 39), false⟩]))
  .ret) .skip))
  (.seq (.seq (.seq (.keep [1, 6, 7, 8, 9]) (.ops [⟨none, (some 40), .mv 40 (.s 7), false⟩,
    ⟨none, (some 41), .ld 41 true 3 (.s 9), false⟩,
    ⟨none, (some 42), .call (some 42) 14 false [(.s 40), (.s 41)], false⟩,
    ⟨none, (some 11), .mv 11 (.s 42), false⟩]))
  (.seq (.ops [⟨none, (some 43), .mv 43 (.s 11), false⟩,
    ⟨none, (some 44), .bin 44 .neq (.s 43) (.k (Value.int .i64 0)), false⟩])
  (.cond (.s 44) (.seq (.seq (.keep [8, 11]) (.ops [⟨none, (some 45), .mv 45 (.s 8), false⟩,
    ⟨none, (some 46), .binc 46 .add (.s 45) (.k (Value.int .i64 1)), false⟩,
    ⟨none, (some 47), .mv 47 (.s 11), false⟩,
    ⟨none, (some 48), .call (some 48) 12 false [(.s 46), (.s 47)], false⟩,
    ⟨none, (some 4), .mv 4 (.k (Value.slice none 0 0)), false⟩,
    ⟨none, (some 5), .mv 5 (.s 48), false⟩]))
  .ret) .skip)))
  (.seq (.seq (.seq (.keep [1, 6, 7, 8, 9]) (.ops [⟨none, (some 49), .fa 49 0 (.s 9), false⟩,
    ⟨none, (some 50), .ld 50 false 1 (.s 49), false⟩,
    ⟨none, (some 51), .bin 51 .eql (.s 50) (.k (Value.int .u8 100)), false⟩]))
  (.cond (.s 51) (.seq (.seq (.keep [1, 6, 7, 8, 9]) (.ops [⟨none, (some 52), .mv 52 (.s 7), false⟩,
    ⟨none, (some 53), .fa 53 1 (.s 9), false⟩,
    ⟨none, (some 54), .ld 54 false 1 (.s 53), false⟩,
    ⟨none, (some 55), .binc 55 .sub (.s 54) (.k (Value.int .i64 1)), false⟩,
    ⟨none, (some 56), .call (some 56) 15 false [(.s 52), (.s 55)], false⟩]))
  (.seq (.seq (.keep [1, 6, 7, 8, 9]) (.dr [0, 1, 2, 3, 4, 5, 6, 7, 8, 9, 10, 11, 12, 13, 14, 15] [(false, true, ⟨none, (some 57), .mv 57 (.s 7), false⟩),
    (false, true, ⟨none, (some 58), .nc 58 (.s 57), false⟩),
    (false, true, ⟨none, (some 59), .fa 59 2 (.s 58), false⟩),
    (false, true, ⟨none, (some 61), .fa 61 2 (.s 9), false⟩),
    (true, true, ⟨none, (some 60), .ld 60 false 1 (.s 59), false⟩),
    (true, true, ⟨none, (some 62), .ld 62 false 1 (.s 61), false⟩),
    (false, true, ⟨none, (some 63), .binc 63 .add (.s 60) (.s 62), false⟩),
    (false, true, ⟨none, (some 64), .nc 64 (.s 57), false⟩),
    (false, true, ⟨none, (some 65), .fa 65 2 (.s 64), false⟩),
    (false, false, ⟨none, none, .st false 1 (.s 65) (.s 63), true⟩)]))
  (.exit 1))) .skip))
  (.seq (.seq (.seq (.keep [1, 6, 7, 8, 9]) (.ops [⟨none, (some 66), .fa 66 2 (.s 9), false⟩,
    ⟨none, (some 67), .ld 67 false 1 (.s 66), false⟩,
    ⟨none, (some 68), .mv 68 (.s 6), false⟩,
    ⟨none, (some 69), .len 69 (.s 68), false⟩,
    ⟨none, (some 70), .binc 70 .sub (.s 69) (.k (Value.int .i64 1)), false⟩,
    ⟨none, (some 71), .mv 71 (.s 8), false⟩,
    ⟨none, (some 72), .binc 72 .sub (.s 70) (.s 71), false⟩,
    ⟨none, (some 73), .bin 73 .gtr (.s 67) (.s 72), false⟩]))
  (.cond (.s 73) (.seq (.seq (.keep [6]) (.ops [⟨none, (some 74), .mv 74 (.s 6), false⟩,
    ⟨none, (some 75), .len 75 (.s 74), false⟩,
    ⟨none, (some 76), .binc 76 .add (.s 75) (.k (Value.int .i64 1)), false⟩,
    ⟨none, (some 77), .call (some 77) 12 false [(.s 76), (.k (Value.int .i64 1))], false⟩,
    ⟨none, (some 4), .mv 4 (.k (Value.slice none 0 0)), false⟩,
    ⟨none, (some 5), .mv 5 (.s 77), false⟩]))
  .ret) .skip))
  (.seq (.seq (.keep [1, 6, 7, 8, 9]) (.ops [⟨none, (some 78), .mv 78 (.s 7), false⟩,
    ⟨none, (some 79), .fa 79 1 (.s 9), false⟩,
    ⟨none, (some 80), .ld 80 false 1 (.s 79), false⟩,
    ⟨none, (some 81), .call (some 81) 15 false [(.s 78), (.s 80)], false⟩]))
  (.seq (.seq (.keep [1, 6, 7, 8, 9]) (.ops [⟨none, (some 82), .mv 82 (.s 7), false⟩,
    ⟨none, (some 83), .fa 83 1 (.s 9), false⟩,
    ⟨none, (some 84), .ld 84 false 1 (.s 83), false⟩,
    ⟨none, (some 85), .nc 85 (.s 82), false⟩,
    ⟨none, (some 86), .fa 86 3 (.s 85), false⟩,
    ⟨none, none, .st false 1 (.s 86) (.s 84), false⟩]))
  (.seq (.seq (.keep [1, 6, 7, 8, 9]) (.dr [0, 1, 2, 3, 4, 5, 6, 7, 8, 9, 10, 11, 12, 13, 14, 15] [(false, true, ⟨none, (some 87), .mv 87 (.s 7), false⟩),
    (false, true, ⟨none, (some 88), .mv 88 (.s 7), false⟩),
    (false, true, ⟨none, (some 89), .nc 89 (.s 88), false⟩),
    (false, true, ⟨none, (some 90), .fa 90 1 (.s 89), false⟩),
    (false, true, ⟨none, (some 92), .mv 92 (.s 6), false⟩),
    (false, true, ⟨none, (some 93), .mv 93 (.s 8), false⟩),
    (false, true, ⟨none, (some 94), .binc 94 .add (.s 93) (.k (Value.int .i64 1)), false⟩),
    (false, true, ⟨none, (some 95), .mv 95 (.s 8), false⟩),
    (false, true, ⟨none, (some 96), .binc 96 .add (.s 95) (.k (Value.int .i64 1)), true⟩),
    (false, true, ⟨none, (some 97), .fa 97 2 (.s 9), false⟩),
    (true, true, ⟨none, (some 98), .ld 98 false 1 (.s 97), false⟩),
    (false, true, ⟨none, (some 99), .binc 99 .add (.s 96) (.s 98), false⟩),
    (false, true, ⟨none, (some 100), .slp 100 1 (.s 92) (some (.s 94)) (some (.s 99)), false⟩),
    (true, true, ⟨none, (some 91), .ld 91 false 1 (.s 90), false⟩),
    (false, false, ⟨none, (some 101), .ap 101 9 1 16 (.s 91) (.s 100), false⟩),
    (false, true, ⟨none, (some 102), .nc 102 (.s 87), false⟩),
    (false, true, ⟨none, (some 103), .fa 103 1 (.s 102), false⟩),
    (false, false, ⟨none, none, .st false 1 (.s 103) (.s 101), false⟩)]))
  (.seq (.keep [1, 6, 7, 8, 9]) (.ops [⟨none, (some 104), .mv 104 (.s 8), false⟩,
    ⟨none, (some 105), .fa 105 2 (.s 9), false⟩,
    ⟨none, (some 106), .ld 106 false 1 (.s 105), false⟩,
    ⟨none, (some 107), .binc 107 .add (.s 104) (.s 106), false⟩,
    ⟨none, (some 8), .mv 8 (.s 107), false⟩])))))))))))
  (.seq (.keep [1, 6, 7, 8]) (.ops [⟨none, (some 25), .mv 25 (.s 8), false⟩,
    ⟨none, (some 26), .binc 26 .add (.s 25) (.k (Value.int .i64 1)), false⟩,
    ⟨none, (some 8), .mv 8 (.s 26), false⟩])))))))
def S6_5 : SCode :=
  (.seq (.keep [1, 6, 7]) (.ops [⟨none, (some 108), .mv 108 (.s 7), false⟩,
    ⟨none, (some 109), .mv 109 (.s 1), false⟩,
    ⟨none, (some 110), .len 110 (.s 109), false⟩,
    ⟨none, (some 111), .call (some 111) 15 false [(.s 108), (.s 110)], false⟩]))
def S6_6 : SCode :=
  (.seq (.seq (.keep [6, 7]) (.ops [⟨none, (some 112), .mv 112 (.s 7), false⟩,
    ⟨none, (some 113), .nc 113 (.s 112), false⟩,
    ⟨none, (some 114), .fa 114 1 (.s 113), false⟩,
    ⟨none, (some 115), .ld 115 false 1 (.s 114), false⟩,
    ⟨none, (some 116), .call (some 116) 16 true [(.s 115)], false⟩,
    ⟨none, (some 117), .bin 117 .neq (.s 116) (.k (Value.int .i64 0)), false⟩]))
  (.cond (.s 117) (.seq (.seq (.keep [6]) (.ops [⟨none, (some 118), .mv 118 (.s 6), false⟩,
    ⟨none, (some 119), .len 119 (.s 118), false⟩,
    ⟨none, (some 120), .binc 120 .add (.s 119) (.k (Value.int .i64 1)), false⟩,
    ⟨none, (some 121), .call (some 121) 12 false [(.s 120), (.k (Value.int .i64 6))], false⟩,
    ⟨none, (some 4), .mv 4 (.k (Value.slice none 0 0)), false⟩,
    ⟨none, (some 5), .mv 5 (.s 121), false⟩]))
  .ret) .skip))
def S6_7 : SCode :=
  (.seq (.keep [7]) (.ops [⟨none, (some 122), .mv 122 (.s 7), false⟩,
    ⟨none, (some 123), .nc 123 (.s 122), false⟩,
    ⟨none, (some 124), .fa 124 1 (.s 123), false⟩,
    ⟨none, (some 125), .ld 125 false 1 (.s 124), false⟩,
    ⟨none, (some 4), .mv 4 (.s 125), false⟩,
    ⟨none, (some 5), .mv 5 (.k Value.nilIface), false⟩]))
def S6r8 : SCode := .ret
def S6r7 : SCode := .seq S6_7 S6r8
def S6r6 : SCode := .seq S6_6 S6r7
def S6r5 : SCode := .seq S6_5 S6r6
def S6r4 : SCode := .seq S6_4 S6r5
def S6r3 : SCode := .seq S6_3 S6r4
def S6r2 : SCode := .seq S6_2 S6r3
def S6r1 : SCode := .seq S6_1 S6r2
def S6 : SCode := .seq S6_0 S6r1
theorem cc6 : (Tryd.f6.body).bind (cc Tryd.prog Tryd.f6.ntmps A6) = some S6 := by kernel_rfl
def R6 : List RR := [.sl 4, .sl 5]
theorem cr6 : Tryd.f6.results.toList.map (crr Tryd.prog) = R6.map some := by kernel_rfl
theorem nm6 : (Tryd.f6.name == "runtime.NumGoroutine") = false := by kernel_rfl
theorem fn6 : Tryd.prog.funcs[6]? = some Tryd.f6 := by kernel_rfl
theorem bd6 : ∃ b, Tryd.f6.body = some b ∧ cc Tryd.prog Tryd.f6.ntmps A6 b = some S6 := Option.bind_eq_some_iff.1 cc6
theorem sd6 {G : World → Prop} {T : FuncId → Contract} {C : Contract} (hT : ∀ f, Sound G Tryd.prog f (T f)) (hl : C.lawful) (hC : ∀ args st K, C.wp args st K → args.length ≤ 126 ∧ ∃ os op, xv T st.n S6 (st0 args st) (retK R6 st.n os K) (panK st.n op K)) (hit : SoundIt G Tryd.prog 6 C.it := by exact SoundIt.none) : Sound G Tryd.prog 6 C := by
  obtain ⟨b, hb, hc⟩ := bd6
  rw [xv_eq] at hC
  exact sound_of_ev mo fn6 hb nm6 hc cr6 hT hl hit hC

/-! 13: redline/rcsfmt.read -/
def A13 : Ann := ⟨fun r i => if r = 9 ∧ i = 10 then 1 else 0, fun _ => none, fun r => if r = 1 then some (false, [0, 2]) else if r = 2 then some (false, [2, 4, 5]) else if r = 3 then some (false, [2]) else if r = 5 then some (false, [2, 4, 6]) else if r = 6 then some (false, [2, 4, 6, 7]) else if r = 7 then some (false, [2, 4, 6, 7, 8, 9, 10]) else if r = 8 then some (false, [2, 4, 7, 8, 10, 11, 12, 13]) else if r = 9 then some (false, [2, 4, 7, 8, 10, 11, 12, 13]) else if r = 10 then some (false, [2, 7, 8, 10]) else none, fun _ => []⟩
def S13 : SCode :=
  (.seq (.ops [⟨none, (some 2), .al 2 45 [(Value.int .u8 0), (Value.int .i64 0), (Value.int .i64 0)], false⟩,
    ⟨none, (some 3), .mv 3 (.k (Value.bool false)), false⟩])
  (.seq (.seq (.keep [0, 2]) (.ops [⟨none, (some 15), .mv 15 (.s 0), false⟩,
    ⟨none, (some 16), .call (some 16) 24 false [(.s 15)], false⟩,
    ⟨none, (some 14), .mv 14 (.s 16), false⟩,
    ⟨none, (some 17), .ex 17 (.s 14) 0, false⟩,
    ⟨none, (some 18), .ex 18 (.s 14) 1, false⟩,
    ⟨none, (some 4), .mv 4 (.s 17), false⟩,
    ⟨none, (some 5), .mv 5 (.s 18), false⟩]))
  (.seq (.seq (.seq (.keep [2, 4, 5]) (.ops [⟨none, (some 19), .mv 19 (.s 5), false⟩,
    ⟨none, (some 20), .not 20 (.s 19), false⟩,
    ⟨none, (some 21), .mv 21 (.s 20), false⟩,
    ⟨(some (21, false)), (some 22), .mv 22 (.s 4), false⟩,
    ⟨(some (21, false)), (some 23), .bin 23 .eql (.s 22) (.k (Value.string ⟨#[]⟩)), false⟩,
    ⟨none, (some 24), .pk 24 (.s 21) (.k (Value.bool true)) (.s 23), false⟩]))
  (.cond (.s 24) (.seq (.seq (.keep [2]) (.ops [⟨none, (some 25), .bd 25 [(Value.int .u8 0), (Value.int .i64 0), (Value.int .i64 0)] [], false⟩,
    ⟨none, none, .st true 3 (.s 2) (.s 25), false⟩,
    ⟨none, (some 3), .mv 3 (.k (Value.bool false)), false⟩]))
  .ret) .skip))
  (.seq (.ops [⟨none, (some 6), .mv 6 (.f 25), false⟩])
  (.seq (.seq (.keep [2, 4, 6]) (.ops [⟨none, (some 26), .mv 26 (.s 4), false⟩,
    ⟨none, (some 27), .ixs 27 (.s 26) (.k (Value.int .i64 0)), false⟩,
    ⟨none, (some 28), .bd 28 [(Value.int .u8 0), (Value.int .i64 0), (Value.int .i64 0)] [(0, 1, (.s 27))], false⟩,
    ⟨none, (some 7), .al 7 45 [(Value.int .u8 0), (Value.int .i64 0), (Value.int .i64 0)], false⟩,
    ⟨none, none, .st true 3 (.s 7) (.s 28), false⟩]))
  (.seq (.seq (.keep [2, 4, 6, 7]) (.ops [⟨none, (some 30), .mv 30 (.s 6), false⟩,
    ⟨none, (some 31), .mv 31 (.s 4), false⟩,
    ⟨none, (some 32), .sls 32 (.s 31) (some (.k (Value.int .i64 1))) none, false⟩,
    ⟨none, (some 33), .callv (some 33) false (.s 30) [(.s 32)], false⟩,
    ⟨none, (some 29), .mv 29 (.s 33), false⟩,
    ⟨none, (some 34), .ex 34 (.s 29) 0, false⟩,
    ⟨none, (some 35), .ex 35 (.s 29) 1, false⟩,
    ⟨none, (some 36), .ex 36 (.s 29) 2, false⟩,
    ⟨none, (some 8), .mv 8 (.s 34), false⟩,
    ⟨none, (some 9), .mv 9 (.s 35), true⟩,
    ⟨none, (some 10), .mv 10 (.s 36), false⟩]))
  (.seq (.seq (.keep [2, 4, 6, 7, 8, 9, 10]) (.ops [⟨none, (some 38), .mv 38 (.s 6), false⟩,
    ⟨none, (some 39), .mv 39 (.s 9), false⟩,
    ⟨none, (some 40), .callv (some 40) false (.s 38) [(.s 39)], false⟩,
    ⟨none, (some 37), .mv 37 (.s 40), false⟩,
    ⟨none, (some 41), .ex 41 (.s 37) 0, false⟩,
    ⟨none, (some 42), .ex 42 (.s 37) 1, false⟩,
    ⟨none, (some 43), .ex 43 (.s 37) 2, false⟩,
    ⟨none, (some 11), .mv 11 (.s 41), false⟩,
    ⟨none, (some 12), .mv 12 (.s 42), false⟩,
    ⟨none, (some 13), .mv 13 (.s 43), true⟩]))
  (.seq (.seq (.keep [2, 4, 7, 8, 10, 11, 12, 13]) (.ops [⟨none, (some 44), .mv 44 (.s 8), false⟩,
    ⟨none, (some 45), .mv 45 (.s 11), false⟩,
    ⟨none, (some 46), .fa 46 1 (.s 7), false⟩,
    ⟨none, none, .st false 1 (.s 46) (.s 44), false⟩,
    ⟨none, (some 47), .fa 47 2 (.s 7), false⟩,
    ⟨none, none, .st false 1 (.s 47) (.s 45), false⟩]))
  (.seq (.seq (.keep [2, 4, 7, 8, 10, 11, 12, 13]) (.ops [⟨none, (some 48), .mv 48 (.s 10), false⟩,
    ⟨none, (some 49), .mv 49 (.s 48), false⟩,
    ⟨(some (49, true)), (some 50), .mv 50 (.s 13), false⟩,
    ⟨none, (some 51), .pk 51 (.s 49) (.s 50) (.k (Value.bool false)), false⟩,
    ⟨none, (some 52), .mv 52 (.s 51), false⟩,
    ⟨(some (52, true)), (some 53), .mv 53 (.s 12), false⟩,
    ⟨(some (52, true)), (some 54), .bin 54 .eql (.s 53) (.k (Value.string ⟨#[]⟩)), false⟩,
    ⟨none, (some 55), .pk 55 (.s 52) (.s 54) (.k (Value.bool false)), false⟩,
    ⟨none, (some 56), .mv 56 (.s 55), false⟩,
    ⟨(some (56, true)), (some 57), .mv 57 (.s 4), true⟩,
    ⟨(some (56, true)), (some 58), .call (some 58) 28 true [(.s 57), (.k (Value.string ⟨#[32]⟩))], false⟩,
    ⟨(some (56, true)), (some 59), .not 59 (.s 58), false⟩,
    ⟨none, (some 60), .pk 60 (.s 56) (.s 59) (.k (Value.bool false)), false⟩,
    ⟨none, (some 61), .mv 61 (.s 60), false⟩,
    ⟨(some (61, true)), (some 62), .mv 62 (.s 11), false⟩,
    ⟨(some (61, true)), (some 63), .bin 63 .gtr (.s 62) (.k (Value.int .i64 0)), false⟩,
    ⟨none, (some 64), .pk 64 (.s 61) (.s 63) (.k (Value.bool false)), false⟩,
    ⟨none, (some 10), .mv 10 (.s 64), false⟩]))
  (.seq (.seq (.keep [2, 7, 8, 10]) (.ops [⟨none, (some 65), .ld 65 true 3 (.s 7), false⟩,
    ⟨none, (some 66), .mv 66 (.s 10), false⟩,
    ⟨none, (some 67), .mv 67 (.s 66), false⟩,
    ⟨(some (67, true)), (some 68), .fa 68 0 (.s 7), false⟩,
    ⟨(some (67, true)), (some 69), .ld 69 false 1 (.s 68), false⟩,
    ⟨(some (67, true)), (some 70), .bin 70 .eql (.s 69) (.k (Value.int .u8 97)), false⟩,
    ⟨(some (67, true)), (some 71), .mv 71 (.s 70), false⟩,
    ⟨(some (71, false)), (some 72), .fa 72 0 (.s 7), false⟩,
    ⟨(some (71, false)), (some 73), .ld 73 false 1 (.s 72), false⟩,
    ⟨(some (71, false)), (some 74), .bin 74 .eql (.s 73) (.k (Value.int .u8 100)), true⟩,
    ⟨(some (71, false)), (some 75), .mv 75 (.s 74), false⟩,
    ⟨(some (75, true)), (some 76), .mv 76 (.s 8), false⟩,
    ⟨(some (75, true)), (some 77), .bin 77 .gtr (.s 76) (.k (Value.int .i64 0)), false⟩,
    ⟨(some (71, false)), (some 78), .pk 78 (.s 75) (.s 77) (.k (Value.bool false)), false⟩,
    ⟨(some (67, true)), (some 79), .pk 79 (.s 71) (.k (Value.bool true)) (.s 78), false⟩,
    ⟨none, (some 80), .pk 80 (.s 67) (.s 79) (.k (Value.bool false)), false⟩,
    ⟨none, none, .st true 3 (.s 2) (.s 65), false⟩,
    ⟨none, (some 3), .mv 3 (.s 80), false⟩]))
  .ret))))))))))
theorem cc13 : (Tryd.f13.body).bind (cc Tryd.prog Tryd.f13.ntmps A13) = some S13 := by kernel_rfl
def R13 : List RR := [.ce 2 true 3, .sl 3]
theorem cr13 : Tryd.f13.results.toList.map (crr Tryd.prog) = R13.map some := by kernel_rfl
theorem nm13 : (Tryd.f13.name == "runtime.NumGoroutine") = false := by kernel_rfl
theorem fn13 : Tryd.prog.funcs[13]? = some Tryd.f13 := by kernel_rfl
theorem bd13 : ∃ b, Tryd.f13.body = some b ∧ cc Tryd.prog Tryd.f13.ntmps A13 b = some S13 := Option.bind_eq_some_iff.1 cc13
theorem sd13 {G : World → Prop} {T : FuncId → Contract} {C : Contract} (hT : ∀ f, Sound G Tryd.prog f (T f)) (hl : C.lawful) (hC : ∀ args st K, C.wp args st K → args.length ≤ 81 ∧ ∃ os op, xv T st.n S13 (st0 args st) (retK R13 st.n os K) (panK st.n op K)) (hit : SoundIt G Tryd.prog 13 C.it := by exact SoundIt.none) : Sound G Tryd.prog 13 C := by
  obtain ⟨b, hb, hc⟩ := bd13
  rw [xv_eq] at hC
  exact sound_of_ev mo fn13 hb nm13 hc cr13 hT hl hit hC

/-! 25: redline/rcsfmt.read$1 -/
def A25 : Ann := ⟨fun _ _ => 0, fun _ => none, fun r => if r = 1 then some (false, [0]) else if r = 2 then some (false, [5, 6]) else if r = 3 then some (false, [6, 8, 9]) else none, fun _ => []⟩
def S25 : SCode :=
  (.seq (.ops [⟨none, (some 2), .mv 2 (.k (Value.int .i64 0)), false⟩,
    ⟨none, (some 3), .mv 3 (.k (Value.string ⟨#[]⟩)), false⟩,
    ⟨none, (some 4), .mv 4 (.k (Value.bool false)), false⟩])
  (.seq (.seq (.keep [0]) (.ops [⟨none, (some 11), .mv 11 (.s 0), false⟩,
    ⟨none, (some 12), .call (some 12) 26 false [(.s 11), (.k (Value.string ⟨#[32]⟩))], false⟩,
    ⟨none, (some 10), .mv 10 (.s 12), false⟩,
    ⟨none, (some 13), .ex 13 (.s 10) 0, false⟩,
    ⟨none, (some 14), .ex 14 (.s 10) 1, false⟩,
    ⟨none, (some 15), .ex 15 (.s 10) 2, false⟩,
    ⟨none, (some 5), .mv 5 (.s 13), false⟩,
    ⟨none, (some 6), .mv 6 (.s 14), false⟩,
    ⟨none, (some 7), .mv 7 (.s 15), false⟩]))
  (.seq (.seq (.keep [5, 6]) (.ops [⟨none, (some 17), .mv 17 (.s 5), false⟩,
    ⟨none, (some 18), .call (some 18) 27 false [(.s 17)], false⟩,
    ⟨none, (some 16), .mv 16 (.s 18), false⟩,
    ⟨none, (some 19), .ex 19 (.s 16) 0, false⟩,
    ⟨none, (some 20), .ex 20 (.s 16) 1, false⟩,
    ⟨none, (some 8), .mv 8 (.s 19), false⟩,
    ⟨none, (some 9), .mv 9 (.s 20), false⟩]))
  (.seq (.seq (.keep [6, 8, 9]) (.ops [⟨none, (some 21), .mv 21 (.s 8), false⟩,
    ⟨none, (some 22), .mv 22 (.s 6), false⟩,
    ⟨none, (some 23), .mv 23 (.s 9), false⟩,
    ⟨none, (some 24), .bin 24 .eql (.s 23) (.k (Value.int .i64 0)), false⟩,
    ⟨none, (some 2), .mv 2 (.s 21), false⟩,
    ⟨none, (some 3), .mv 3 (.s 22), false⟩,
    ⟨none, (some 4), .mv 4 (.s 24), false⟩]))
  .ret))))
theorem cc25 : (Tryd.f25.body).bind (cc Tryd.prog Tryd.f25.ntmps A25) = some S25 := by kernel_rfl
def R25 : List RR := [.sl 2, .sl 3, .sl 4]
theorem cr25 : Tryd.f25.results.toList.map (crr Tryd.prog) = R25.map some := by kernel_rfl
theorem nm25 : (Tryd.f25.name == "runtime.NumGoroutine") = false := by kernel_rfl
theorem fn25 : Tryd.prog.funcs[25]? = some Tryd.f25 := by kernel_rfl
theorem bd25 : ∃ b, Tryd.f25.body = some b ∧ cc Tryd.prog Tryd.f25.ntmps A25 b = some S25 := Option.bind_eq_some_iff.1 cc25
theorem sd25 {G : World → Prop} {T : FuncId → Contract} {C : Contract} (hT : ∀ f, Sound G Tryd.prog f (T f)) (hl : C.lawful) (hC : ∀ args st K, C.wp args st K → args.length ≤ 25 ∧ ∃ os op, xv T st.n S25 (st0 args st) (retK R25 st.n os K) (panK st.n op K)) (hit : SoundIt G Tryd.prog 25 C.it := by exact SoundIt.none) : Sound G Tryd.prog 25 C := by
  obtain ⟨b, hb, hc⟩ := bd25
  rw [xv_eq] at hC
  exact sound_of_ev mo fn25 hb nm25 hc cr25 hT hl hit hC

/-! 12: redline/rcsfmt.fault -/
def A12 : Ann := ⟨fun _ _ => 0, fun _ => none, fun r => if r = 1 then some (false, [0, 1]) else none, fun _ => []⟩
def S12 : SCode :=
  (.seq (.ops [⟨none, (some 4), .mv 4 (.k Value.nilIface), false⟩])
  (.seq (.seq (.keep [0, 1]) (.ops [⟨none, (some 5), .mv 5 (.s 0), false⟩,
    ⟨none, (some 6), .mv 6 (.s 1), false⟩,
    ⟨none, (some 7), .mi 7 31 (.s 6), false⟩,
    ⟨none, (some 8), .bd 8 [(Value.int .i64 0), Value.nilIface] [(0, 1, (.s 5)), (1, 1, (.s 7))], false⟩,
    ⟨none, (some 9), .bx 9 65 2 (.s 8), false⟩,
    ⟨none, (some 10), .mi 10 63 (.s 9), false⟩,
    ⟨none, (some 4), .mv 4 (.s 10), false⟩]))
  .ret))
theorem cc12 : (Tryd.f12.body).bind (cc Tryd.prog Tryd.f12.ntmps A12) = some S12 := by kernel_rfl
def R12 : List RR := [.sl 4]
theorem cr12 : Tryd.f12.results.toList.map (crr Tryd.prog) = R12.map some := by kernel_rfl
theorem nm12 : (Tryd.f12.name == "runtime.NumGoroutine") = false := by kernel_rfl
theorem fn12 : Tryd.prog.funcs[12]? = some Tryd.f12 := by kernel_rfl
theorem bd12 : ∃ b, Tryd.f12.body = some b ∧ cc Tryd.prog Tryd.f12.ntmps A12 b = some S12 := Option.bind_eq_some_iff.1 cc12
theorem sd12 {G : World → Prop} {T : FuncId → Contract} {C : Contract} (hT : ∀ f, Sound G Tryd.prog f (T f)) (hl : C.lawful) (hC : ∀ args st K, C.wp args st K → args.length ≤ 11 ∧ ∃ os op, xv T st.n S12 (st0 args st) (retK R12 st.n os K) (panK st.n op K)) (hit : SoundIt G Tryd.prog 12 C.it := by exact SoundIt.none) : Sound G Tryd.prog 12 C := by
  obtain ⟨b, hb, hc⟩ := bd12
  rw [xv_eq] at hC
  exact sound_of_ev mo fn12 hb nm12 hc cr12 hT hl hit hC

/-! 14: (*redline/rcsfmt.work).allowed -/
def A14 : Ann := ⟨fun r i => if r = 4 ∧ i = 15 then 1 else 0, fun r => if r = 9 then some ([], [(0, some true), (2, some true), (3, some true), (4, some true), (5, none), (6, some true), (1, none), (7, some true)]) else if r = 7 then some ([], [(0, some true), (2, some true), (3, some true), (4, some true), (1, none), (5, none), (6, some true), (7, some true), (8, some true), (10, some true), (11, some true), (12, some true), (9, none), (13, none), (14, some true), (15, some true)]) else if r = 4 then some ([], [(0, some true), (2, some true), (3, some true), (4, some true), (5, none), (6, some true), (1, none), (7, some true), (8, some true), (9, some true), (11, some true), (12, some true), (13, some true), (16, some true), (14, none), (15, some true), (17, none), (18, some true), (19, some true), (10, none), (20, some true), (21, some true)]) else if r = 2 then some ([], [(0, some true), (3, some true), (4, some true), (5, some true), (7, some true), (8, some true), (9, some true), (1, some true), (2, some true), (6, none), (10, none), (11, some true), (12, some true)]) else none, fun r => if r = 1 then some (false, [0, 3]) else if r = 2 then some (false, [0, 3]) else if r = 4 then some (false, [0, 3]) else if r = 7 then some (false, [0, 3]) else if r = 9 then some (false, [0, 3]) else none, fun _ => []⟩
def S14 : SCode :=
  (.seq (.ops [⟨none, (some 3), .bx 3 45 3 (.s 1), false⟩,
    ⟨none, (some 4), .mv 4 (.k (Value.int .i64 0)), false⟩])
  (.seq (.seq (.seq (.keep [0, 3]) (.ops [⟨none, (some 5), .fa 5 0 (.s 3), false⟩,
    ⟨none, (some 6), .ld 6 false 1 (.s 5), false⟩,
    ⟨none, (some 7), .bin 7 .eql (.s 6) (.k (Value.int .u8 100)), false⟩]))
  (.cond (.s 7) (.seq (.seq (.seq (.keep [0, 3]) (.dr [] [(false, true, ⟨none, (some 8), .fa 8 1 (.s 3), false⟩),
    (false, true, ⟨none, (some 11), .mv 11 (.s 0), false⟩),
    (false, true, ⟨none, (some 12), .nc 12 (.s 11), false⟩),
    (false, true, ⟨none, (some 13), .fa 13 2 (.s 12), false⟩),
    (false, true, ⟨none, (some 15), .mv 15 (.s 0), false⟩),
    (false, true, ⟨none, (some 16), .nc 16 (.s 15), false⟩),
    (false, true, ⟨none, (some 17), .fa 17 3 (.s 16), true⟩),
    (false, true, ⟨none, (some 9), .ld 9 false 1 (.s 8), false⟩),
    (false, true, ⟨none, (some 10), .binc 10 .sub (.s 9) (.k (Value.int .i64 1)), false⟩),
    (true, true, ⟨none, (some 14), .ld 14 false 1 (.s 13), false⟩),
    (true, true, ⟨none, (some 18), .ld 18 false 1 (.s 17), false⟩),
    (false, true, ⟨none, (some 19), .mm 19 false (.s 14) [(.s 18)], false⟩),
    (false, true, ⟨none, (some 20), .bin 20 .lss (.s 10) (.s 19), false⟩)]))
  (.cond (.s 20) (.seq (.ops [⟨none, (some 4), .mv 4 (.k (Value.int .i64 121)), false⟩])
  .ret) .skip))
  (.seq (.seq (.seq (.keep [0, 3]) (.dr [] [(false, true, ⟨none, (some 21), .fa 21 1 (.s 3), false⟩),
    (false, true, ⟨none, (some 23), .mv 23 (.s 0), false⟩),
    (false, true, ⟨none, (some 24), .nc 24 (.s 23), false⟩),
    (false, true, ⟨none, (some 25), .fa 25 0 (.s 24), false⟩),
    (true, true, ⟨none, (some 26), .ld 26 false 1 (.s 25), false⟩),
    (false, true, ⟨none, (some 27), .len 27 (.s 26), false⟩),
    (true, true, ⟨none, (some 22), .ld 22 false 1 (.s 21), false⟩),
    (false, true, ⟨none, (some 28), .bin 28 .gtr (.s 22) (.s 27), false⟩),
    (false, true, ⟨none, (some 29), .mv 29 (.s 28), false⟩),
    (false, true, ⟨(some (29, false)), (some 30), .fa 30 2 (.s 3), true⟩),
    (false, true, ⟨(some (29, false)), (some 32), .mv 32 (.s 0), false⟩),
    (false, true, ⟨(some (29, false)), (some 33), .nc 33 (.s 32), false⟩),
    (false, true, ⟨(some (29, false)), (some 34), .fa 34 0 (.s 33), false⟩),
    (false, true, ⟨(some (29, false)), (some 37), .fa 37 1 (.s 3), false⟩),
    (true, true, ⟨(some (29, false)), (some 35), .ld 35 false 1 (.s 34), false⟩),
    (false, true, ⟨(some (29, false)), (some 36), .len 36 (.s 35), false⟩),
    (true, true, ⟨(some (29, false)), (some 38), .ld 38 false 1 (.s 37), false⟩),
    (false, true, ⟨(some (29, false)), (some 39), .binc 39 .sub (.s 36) (.s 38), false⟩),
    (false, true, ⟨(some (29, false)), (some 40), .binc 40 .add (.s 39) (.k (Value.int .i64 1)), true⟩),
    (true, true, ⟨(some (29, false)), (some 31), .ld 31 false 1 (.s 30), false⟩),
    (false, true, ⟨(some (29, false)), (some 41), .bin 41 .gtr (.s 31) (.s 40), false⟩),
    (false, true, ⟨none, (some 42), .pk 42 (.s 29) (.k (Value.bool true)) (.s 41), false⟩)]))
  (.cond (.s 42) (.seq (.ops [⟨none, (some 4), .mv 4 (.k (Value.int .i64 2)), false⟩])
  .ret) .skip))
  (.seq (.ops [⟨none, (some 4), .mv 4 (.k (Value.int .i64 0)), false⟩])
  .ret))) .skip))
  (.seq (.seq (.seq (.keep [0, 3]) (.dr [] [(false, true, ⟨none, (some 43), .fa 43 1 (.s 3), false⟩),
    (false, true, ⟨none, (some 45), .mv 45 (.s 0), false⟩),
    (false, true, ⟨none, (some 46), .nc 46 (.s 45), false⟩),
    (false, true, ⟨none, (some 47), .fa 47 2 (.s 46), false⟩),
    (true, true, ⟨none, (some 44), .ld 44 false 1 (.s 43), false⟩),
    (true, true, ⟨none, (some 48), .ld 48 false 1 (.s 47), false⟩),
    (false, true, ⟨none, (some 49), .bin 49 .lss (.s 44) (.s 48), false⟩),
    (false, true, ⟨none, (some 50), .mv 50 (.s 49), false⟩),
    (false, true, ⟨(some (50, false)), (some 51), .fa 51 1 (.s 3), false⟩),
    (false, true, ⟨(some (50, false)), (some 53), .mv 53 (.s 0), false⟩),
    (false, true, ⟨(some (50, false)), (some 54), .nc 54 (.s 53), false⟩),
    (false, true, ⟨(some (50, false)), (some 55), .fa 55 3 (.s 54), false⟩),
    (true, true, ⟨(some (50, false)), (some 52), .ld 52 false 1 (.s 51), true⟩),
    (true, true, ⟨(some (50, false)), (some 56), .ld 56 false 1 (.s 55), false⟩),
    (false, true, ⟨(some (50, false)), (some 57), .bin 57 .eql (.s 52) (.s 56), false⟩),
    (false, true, ⟨none, (some 58), .pk 58 (.s 50) (.k (Value.bool true)) (.s 57), false⟩)]))
  (.cond (.s 58) (.seq (.ops [⟨none, (some 4), .mv 4 (.k (Value.int .i64 121)), false⟩])
  .ret) .skip))
  (.seq (.seq (.seq (.keep [0, 3]) (.dr [] [(false, true, ⟨none, (some 59), .fa 59 1 (.s 3), false⟩),
    (false, true, ⟨none, (some 61), .mv 61 (.s 0), false⟩),
    (false, true, ⟨none, (some 62), .nc 62 (.s 61), false⟩),
    (false, true, ⟨none, (some 63), .fa 63 0 (.s 62), false⟩),
    (true, true, ⟨none, (some 64), .ld 64 false 1 (.s 63), false⟩),
    (false, true, ⟨none, (some 65), .len 65 (.s 64), false⟩),
    (true, true, ⟨none, (some 60), .ld 60 false 1 (.s 59), false⟩),
    (false, true, ⟨none, (some 66), .bin 66 .gtr (.s 60) (.s 65), false⟩)]))
  (.cond (.s 66) (.seq (.ops [⟨none, (some 4), .mv 4 (.k (Value.int .i64 2)), false⟩])
  .ret) .skip))
  (.seq (.ops [⟨none, (some 4), .mv 4 (.k (Value.int .i64 0)), false⟩])
  .ret)))))
theorem cc14 : (Tryd.f14.body).bind (cc Tryd.prog Tryd.f14.ntmps A14) = some S14 := by kernel_rfl
def R14 : List RR := [.sl 4]
theorem cr14 : Tryd.f14.results.toList.map (crr Tryd.prog) = R14.map some := by kernel_rfl
theorem nm14 : (Tryd.f14.name == "runtime.NumGoroutine") = false := by kernel_rfl
theorem fn14 : Tryd.prog.funcs[14]? = some Tryd.f14 := by kernel_rfl
theorem bd14 : ∃ b, Tryd.f14.body = some b ∧ cc Tryd.prog Tryd.f14.ntmps A14 b = some S14 := Option.bind_eq_some_iff.1 cc14
theorem sd14 {G : World → Prop} {T : FuncId → Contract} {C : Contract} (hT : ∀ f, Sound G Tryd.prog f (T f)) (hl : C.lawful) (hC : ∀ args st K, C.wp args st K → args.length ≤ 67 ∧ ∃ os op, xv T st.n S14 (st0 args st) (retK R14 st.n os K) (panK st.n op K)) (hit : SoundIt G Tryd.prog 14 C.it := by exact SoundIt.none) : Sound G Tryd.prog 14 C := by
  obtain ⟨b, hb, hc⟩ := bd14
  rw [xv_eq] at hC
  exact sound_of_ev mo fn14 hb nm14 hc cr14 hT hl hit hC

/-! 15: (*redline/rcsfmt.work).keep -/
def A15 : Ann := ⟨fun r i => if r = 0 ∧ i = 14 then 1 else 0, fun r => if r = 0 then some ([0, 1, 2, 3, 4, 5, 6, 7, 8, 9, 10, 11, 12, 13, 14, 15], [(0, some true), (1, some true), (2, some true), (3, some true), (5, some true), (6, some true), (7, some true), (9, some true), (10, some true), (11, some true), (13, some true), (4, none), (8, none), (12, none), (14, some true), (15, some false), (16, some true), (17, some true), (18, some false)]) else none, fun r => if r = 1 then some (false, [0, 1]) else none, fun _ => []⟩
def S15 : SCode :=
  (.seq (.dr [0, 1, 2, 3, 4, 5, 6, 7, 8, 9, 10, 11, 12, 13, 14, 15] [(false, true, ⟨none, (some 4), .mv 4 (.s 0), false⟩),
    (false, true, ⟨none, (some 5), .mv 5 (.s 0), false⟩),
    (false, true, ⟨none, (some 6), .nc 6 (.s 5), false⟩),
    (false, true, ⟨none, (some 7), .fa 7 1 (.s 6), false⟩),
    (false, true, ⟨none, (some 9), .mv 9 (.s 0), false⟩),
    (false, true, ⟨none, (some 10), .nc 10 (.s 9), false⟩),
    (false, true, ⟨none, (some 11), .fa 11 0 (.s 10), false⟩),
    (false, true, ⟨none, (some 13), .mv 13 (.s 0), true⟩),
    (false, true, ⟨none, (some 14), .nc 14 (.s 13), false⟩),
    (false, true, ⟨none, (some 15), .fa 15 2 (.s 14), false⟩),
    (false, true, ⟨none, (some 17), .mv 17 (.s 1), false⟩),
    (true, true, ⟨none, (some 8), .ld 8 false 1 (.s 7), false⟩),
    (true, true, ⟨none, (some 12), .ld 12 false 1 (.s 11), false⟩),
    (true, true, ⟨none, (some 16), .ld 16 false 1 (.s 15), false⟩),
    (false, true, ⟨none, (some 18), .slp 18 1 (.s 12) (some (.s 16)) (some (.s 17)), false⟩),
    (false, false, ⟨none, (some 19), .ap 19 9 1 16 (.s 8) (.s 18), false⟩),
    (false, true, ⟨none, (some 20), .nc 20 (.s 4), false⟩),
    (false, true, ⟨none, (some 21), .fa 21 1 (.s 20), false⟩),
    (false, false, ⟨none, none, .st false 1 (.s 21) (.s 19), false⟩)])
  (.seq (.keep [0, 1]) (.ops [⟨none, (some 22), .mv 22 (.s 0), false⟩,
    ⟨none, (some 23), .mv 23 (.s 1), false⟩,
    ⟨none, (some 24), .nc 24 (.s 22), false⟩,
    ⟨none, (some 25), .fa 25 2 (.s 24), false⟩,
    ⟨none, none, .st false 1 (.s 25) (.s 23), false⟩])))
theorem cc15 : (Tryd.f15.body).bind (cc Tryd.prog Tryd.f15.ntmps A15) = some S15 := by kernel_rfl
def R15 : List RR := []
theorem cr15 : Tryd.f15.results.toList.map (crr Tryd.prog) = R15.map some := by kernel_rfl
theorem nm15 : (Tryd.f15.name == "runtime.NumGoroutine") = false := by kernel_rfl
theorem fn15 : Tryd.prog.funcs[15]? = some Tryd.f15 := by kernel_rfl
theorem bd15 : ∃ b, Tryd.f15.body = some b ∧ cc Tryd.prog Tryd.f15.ntmps A15 b = some S15 := Option.bind_eq_some_iff.1 cc15
theorem sd15 {G : World → Prop} {T : FuncId → Contract} {C : Contract} (hT : ∀ f, Sound G Tryd.prog f (T f)) (hl : C.lawful) (hC : ∀ args st K, C.wp args st K → args.length ≤ 26 ∧ ∃ os op, xv T st.n S15 (st0 args st) (retK R15 st.n os K) (panK st.n op K)) (hit : SoundIt G Tryd.prog 15 C.it := by exact SoundIt.none) : Sound G Tryd.prog 15 C := by
  obtain ⟨b, hb, hc⟩ := bd15
  rw [xv_eq] at hC
  exact sound_of_ev mo fn15 hb nm15 hc cr15 hT hl hit hC

/-! 16: redline/lines.Check -/
def A16 : Ann := ⟨fun r i => if r = 6 ∧ i = 8 then 1 else 0, fun _ => none, fun r => if r = 1 then some (false, [0]) else if r = 3 then some (false, [0, 7, 8, 9]) else if r = 4 then some (false, [0, 3, 4, 7, 8, 9]) else if r = 5 then some (false, [0, 3, 4, 5, 7, 8, 9]) else if r = 6 then some (false, [0, 4, 5, 6, 7, 8, 9]) else none, fun r => if r = 2 then [0, 7, 8, 9] else []⟩
def S16 : SCode :=
  (.seq (.ops [⟨none, (some 2), .mv 2 (.k (Value.int .i64 0)), false⟩])
  (.seq (.seq (.seq (.keep [0]) (.ops [⟨none, (some 7), .mv 7 (.s 0), false⟩,
    ⟨none, (some 8), .len 8 (.s 7), false⟩,
    ⟨none, (some 9), .mv 9 (.k (Value.int .i64 0)), false⟩]))
  (.block 0 (.loop [0, 7, 8, 9] (.seq (.ops [⟨none, (some 10), .bin 10 .lss (.s 9) (.s 8), false⟩])
  (.seq (.cond (.s 10) .skip (.exit 0))
  (.seq (.block 1 (.seq (.seq (.keep [0, 7, 8, 9]) (.ops [⟨none, (some 11), .mv 11 (.s 9), false⟩,
    ⟨none, (some 12), .ia 12 1 (.s 7) (.s 9), false⟩,
    ⟨none, (some 13), .ld 13 false 1 (.s 12), false⟩,
    ⟨none, (some 3), .mv 3 (.s 11), false⟩,
    ⟨none, (some 4), .mv 4 (.s 13), false⟩]))
  (.seq (.seq (.keep [0, 3, 4, 7, 8, 9]) (.ops [⟨none, (some 14), .mv 14 (.s 4), false⟩,
    ⟨none, (some 15), .call (some 15) 29 false [(.s 14), (.k (Value.string ⟨#[10]⟩))], false⟩,
    ⟨none, (some 5), .mv 5 (.s 15), false⟩]))
  (.seq (.seq (.keep [0, 3, 4, 5, 7, 8, 9]) (.ops [⟨none, (some 16), .mv 16 (.s 3), false⟩,
    ⟨none, (some 17), .mv 17 (.s 0), false⟩,
    ⟨none, (some 18), .len 18 (.s 17), false⟩,
    ⟨none, (some 19), .binc 19 .sub (.s 18) (.k (Value.int .i64 1)), false⟩,
    ⟨none, (some 20), .bin 20 .eql (.s 16) (.s 19), false⟩,
    ⟨none, (some 6), .mv 6 (.s 20), false⟩]))
  (.seq (.seq (.keep [0, 4, 5, 6, 7, 8, 9]) (.ops [⟨none, (some 21), .mv 21 (.s 4), false⟩,
    ⟨none, (some 22), .bin 22 .eql (.s 21) (.k (Value.string ⟨#[]⟩)), false⟩,
    ⟨none, (some 23), .mv 23 (.s 22), false⟩,
    ⟨(some (23, false)), (some 24), .mv 24 (.s 5), false⟩,
    ⟨(some (23, false)), (some 25), .bin 25 .geq (.s 24) (.k (Value.int .i64 0)), false⟩,
    ⟨(some (23, false)), (some 26), .mv 26 (.s 25), false⟩,
    ⟨(some (26, true)), (some 27), .mv 27 (.s 5), false⟩,
    ⟨(some (26, true)), (some 28), .mv 28 (.s 4), false⟩,
    ⟨(some (26, true)), (some 29), .lens 29 (.s 28), false⟩,
    ⟨(some (26, true)), (some 30), .binc 30 .sub (.s 29) (.k (Value.int .i64 1)), true⟩,
    ⟨(some (26, true)), (some 31), .bin 31 .neq (.s 27) (.s 30), false⟩,
    ⟨(some (23, false)), (some 32), .pk 32 (.s 26) (.s 31) (.k (Value.bool false)), false⟩,
    ⟨none, (some 33), .pk 33 (.s 23) (.k (Value.bool true)) (.s 32), false⟩,
    ⟨none, (some 34), .mv 34 (.s 33), false⟩,
    ⟨(some (34, false)), (some 35), .mv 35 (.s 5), false⟩,
    ⟨(some (34, false)), (some 36), .bin 36 .lss (.s 35) (.k (Value.int .i64 0)), false⟩,
    ⟨(some (34, false)), (some 37), .mv 37 (.s 36), false⟩,
    ⟨(some (37, true)), (some 38), .mv 38 (.s 6), false⟩,
    ⟨(some (37, true)), (some 39), .not 39 (.s 38), false⟩,
    ⟨(some (34, false)), (some 40), .pk 40 (.s 37) (.s 39) (.k (Value.bool false)), true⟩,
    ⟨none, (some 41), .pk 41 (.s 34) (.k (Value.bool true)) (.s 40), false⟩]))
  (.cond (.s 41) (.seq (.ops [⟨none, (some 2), .mv 2 (.k (Value.int .i64 6)), false⟩])
  .ret) .skip))))))
  (.ops [⟨none, (some 42), .binc 42 .add (.s 9) (.k (Value.int .i64 1)), false⟩,
    ⟨none, (some 9), .mv 9 (.s 42), false⟩])))))))
  (.seq (.ops [⟨none, (some 2), .mv 2 (.k (Value.int .i64 0)), false⟩])
  .ret)))
theorem cc16 : (Tryd.f16.body).bind (cc Tryd.prog Tryd.f16.ntmps A16) = some S16 := by kernel_rfl
def R16 : List RR := [.sl 2]
theorem cr16 : Tryd.f16.results.toList.map (crr Tryd.prog) = R16.map some := by kernel_rfl
theorem nm16 : (Tryd.f16.name == "runtime.NumGoroutine") = false := by kernel_rfl
theorem fn16 : Tryd.prog.funcs[16]? = some Tryd.f16 := by kernel_rfl
theorem bd16 : ∃ b, Tryd.f16.body = some b ∧ cc Tryd.prog Tryd.f16.ntmps A16 b = some S16 := Option.bind_eq_some_iff.1 cc16
theorem sd16 {G : World → Prop} {T : FuncId → Contract} {C : Contract} (hT : ∀ f, Sound G Tryd.prog f (T f)) (hl : C.lawful) (hC : ∀ args st K, C.wp args st K → args.length ≤ 43 ∧ ∃ os op, xv T st.n S16 (st0 args st) (retK R16 st.n os K) (panK st.n op K)) (hit : SoundIt G Tryd.prog 16 C.it := by exact SoundIt.none) : Sound G Tryd.prog 16 C := by
  obtain ⟨b, hb, hc⟩ := bd16
  rw [xv_eq] at hC
  exact sound_of_ev mo fn16 hb nm16 hc cr16 hT hl hit hC

/-! 5: redline/lines.Split -/
def A5 : Ann := ⟨fun _ _ => 0, fun _ => none, fun r => if r = 1 then some (false, [0]) else if r = 2 then some (false, [3]) else if r = 3 then some (false, [3]) else none, fun _ => []⟩
def S5 : SCode :=
  (.seq (.ops [⟨none, (some 2), .mv 2 (.k (Value.slice none 0 0)), false⟩])
  (.seq (.seq (.keep [0]) (.ops [⟨none, (some 4), .mv 4 (.s 0), false⟩,
    ⟨none, (some 5), .call (some 5) 11 false [(.s 4), (.k (Value.string ⟨#[10]⟩))], false⟩,
    ⟨none, (some 3), .mv 3 (.s 5), false⟩]))
  (.seq (.seq (.seq (.keep [3]) (.ops [⟨none, (some 6), .mv 6 (.s 3), false⟩,
    ⟨none, (some 7), .mv 7 (.s 3), false⟩,
    ⟨none, (some 8), .len 8 (.s 7), false⟩,
    ⟨none, (some 9), .binc 9 .sub (.s 8) (.k (Value.int .i64 1)), false⟩,
    ⟨none, (some 10), .ia 10 1 (.s 6) (.s 9), false⟩,
    ⟨none, (some 11), .ld 11 false 1 (.s 10), false⟩,
    ⟨none, (some 12), .bin 12 .eql (.s 11) (.k (Value.string ⟨#[]⟩)), false⟩]))
  (.cond (.s 12) (.seq (.keep [3]) (.ops [⟨none, (some 13), .mv 13 (.s 3), false⟩,
    ⟨none, (some 14), .mv 14 (.s 3), false⟩,
    ⟨none, (some 15), .len 15 (.s 14), false⟩,
    ⟨none, (some 16), .binc 16 .sub (.s 15) (.k (Value.int .i64 1)), false⟩,
    ⟨none, (some 17), .slr 17 1 (.s 13) none (some (.s 16)), false⟩,
    ⟨none, (some 3), .mv 3 (.s 17), false⟩])) .skip))
  (.seq (.ops [⟨none, (some 18), .mv 18 (.s 3), false⟩,
    ⟨none, (some 2), .mv 2 (.s 18), false⟩])
  .ret))))
theorem cc5 : (Tryd.f5.body).bind (cc Tryd.prog Tryd.f5.ntmps A5) = some S5 := by kernel_rfl
def R5 : List RR := [.sl 2]
theorem cr5 : Tryd.f5.results.toList.map (crr Tryd.prog) = R5.map some := by kernel_rfl
theorem nm5 : (Tryd.f5.name == "runtime.NumGoroutine") = false := by kernel_rfl
theorem fn5 : Tryd.prog.funcs[5]? = some Tryd.f5 := by kernel_rfl
theorem bd5 : ∃ b, Tryd.f5.body = some b ∧ cc Tryd.prog Tryd.f5.ntmps A5 b = some S5 := Option.bind_eq_some_iff.1 cc5
theorem sd5 {G : World → Prop} {T : FuncId → Contract} {C : Contract} (hT : ∀ f, Sound G Tryd.prog f (T f)) (hl : C.lawful) (hC : ∀ args st K, C.wp args st K → args.length ≤ 19 ∧ ∃ os op, xv T st.n S5 (st0 args st) (retK R5 st.n os K) (panK st.n op K)) (hit : SoundIt G Tryd.prog 5 C.it := by exact SoundIt.none) : Sound G Tryd.prog 5 C := by
  obtain ⟨b, hb, hc⟩ := bd5
  rw [xv_eq] at hC
  exact sound_of_ev mo fn5 hb nm5 hc cr5 hT hl hit hC

/-! 11: strings.SplitAfter -/
def A11 : Ann := ⟨fun _ _ => 0, fun _ => none, fun r => if r = 1 then some (false, [0, 1]) else none, fun _ => []⟩
def S11 : SCode :=
  (.seq (.ops [⟨none, (some 4), .mv 4 (.k (Value.slice none 0 0)), false⟩])
  (.seq (.seq (.keep [0, 1]) (.ops [⟨none, (some 5), .mv 5 (.s 0), false⟩,
    ⟨none, (some 6), .mv 6 (.s 1), false⟩,
    ⟨none, (some 7), .mv 7 (.s 1), false⟩,
    ⟨none, (some 8), .lens 8 (.s 7), false⟩,
    ⟨none, (some 9), .call (some 9) 23 false [(.s 5), (.s 6), (.s 8), (.k (Value.int .i64 (-1)))], false⟩,
    ⟨none, (some 4), .mv 4 (.s 9), false⟩]))
  .ret))
theorem cc11 : (Tryd.f11.body).bind (cc Tryd.prog Tryd.f11.ntmps A11) = some S11 := by kernel_rfl
def R11 : List RR := [.sl 4]
theorem cr11 : Tryd.f11.results.toList.map (crr Tryd.prog) = R11.map some := by kernel_rfl
theorem nm11 : (Tryd.f11.name == "runtime.NumGoroutine") = false := by kernel_rfl
theorem fn11 : Tryd.prog.funcs[11]? = some Tryd.f11 := by kernel_rfl
theorem bd11 : ∃ b, Tryd.f11.body = some b ∧ cc Tryd.prog Tryd.f11.ntmps A11 b = some S11 := Option.bind_eq_some_iff.1 cc11
theorem sd11 {G : World → Prop} {T : FuncId → Contract} {C : Contract} (hT : ∀ f, Sound G Tryd.prog f (T f)) (hl : C.lawful) (hC : ∀ args st K, C.wp args st K → args.length ≤ 10 ∧ ∃ os op, xv T st.n S11 (st0 args st) (retK R11 st.n os K) (panK st.n op K)) (hit : SoundIt G Tryd.prog 11 C.it := by exact SoundIt.none) : Sound G Tryd.prog 11 C := by
  obtain ⟨b, hb, hc⟩ := bd11
  rw [xv_eq] at hC
  exact sound_of_ev mo fn11 hb nm11 hc cr11 hT hl hit hC

/-! 26: strings.Cut -/
def A26 : Ann := ⟨fun _ _ => 0, fun _ => none, fun r => if r = 1 then some (false, [0, 1]) else none, fun _ => []⟩
def S26 : SCode :=
  (.seq (.ops [⟨none, (some 4), .mv 4 (.k (Value.string ⟨#[]⟩)), false⟩,
    ⟨none, (some 5), .mv 5 (.k (Value.string ⟨#[]⟩)), false⟩,
    ⟨none, (some 6), .mv 6 (.k (Value.bool false)), false⟩])
  (.seq (.seq (.keep [0, 1]) (.ops [⟨none, (some 7), .mv 7 (.s 0), false⟩,
    ⟨none, (some 8), .mv 8 (.s 1), false⟩,
    ⟨none, (some 9), .call (some 9) 37 false [(.s 7), (.s 8)], false⟩,
    ⟨none, (some 10), .ex 10 (.s 9) 0, false⟩,
    ⟨none, (some 11), .ex 11 (.s 9) 1, false⟩,
    ⟨none, (some 12), .ex 12 (.s 9) 2, false⟩,
    ⟨none, (some 4), .mv 4 (.s 10), false⟩,
    ⟨none, (some 5), .mv 5 (.s 11), false⟩,
    ⟨none, (some 6), .mv 6 (.s 12), false⟩]))
  .ret))
theorem cc26 : (Tryd.f26.body).bind (cc Tryd.prog Tryd.f26.ntmps A26) = some S26 := by kernel_rfl
def R26 : List RR := [.sl 4, .sl 5, .sl 6]
theorem cr26 : Tryd.f26.results.toList.map (crr Tryd.prog) = R26.map some := by kernel_rfl
theorem nm26 : (Tryd.f26.name == "runtime.NumGoroutine") = false := by kernel_rfl
theorem fn26 : Tryd.prog.funcs[26]? = some Tryd.f26 := by kernel_rfl
theorem bd26 : ∃ b, Tryd.f26.body = some b ∧ cc Tryd.prog Tryd.f26.ntmps A26 b = some S26 := Option.bind_eq_some_iff.1 cc26
theorem sd26 {G : World → Prop} {T : FuncId → Contract} {C : Contract} (hT : ∀ f, Sound G Tryd.prog f (T f)) (hl : C.lawful) (hC : ∀ args st K, C.wp args st K → args.length ≤ 13 ∧ ∃ os op, xv T st.n S26 (st0 args st) (retK R26 st.n os K) (panK st.n op K)) (hit : SoundIt G Tryd.prog 26 C.it := by exact SoundIt.none) : Sound G Tryd.prog 26 C := by
  obtain ⟨b, hb, hc⟩ := bd26
  rw [xv_eq] at hC
  exact sound_of_ev mo fn26 hb nm26 hc cr26 hT hl hit hC

/-! 37: internal/stringslite.Cut -/
def A37 : Ann := ⟨fun _ _ => 0, fun r => if r = 3 then some ([], [(0, some true), (1, some true), (2, some true), (3, some true), (4, some true), (5, some true), (6, some true), (7, some true), (8, some true), (9, some true), (10, some true), (11, some true)]) else none, fun r => if r = 1 then some (false, [0, 1]) else if r = 3 then some (false, [0, 1, 7]) else if r = 4 then some (false, [0]) else none, fun _ => []⟩
def S37 : SCode :=
  (.seq (.ops [⟨none, (some 4), .mv 4 (.k (Value.string ⟨#[]⟩)), false⟩,
    ⟨none, (some 5), .mv 5 (.k (Value.string ⟨#[]⟩)), false⟩,
    ⟨none, (some 6), .mv 6 (.k (Value.bool false)), false⟩])
  (.seq (.seq (.seq (.keep [0, 1]) (.ops [⟨none, (some 8), .mv 8 (.s 0), false⟩,
    ⟨none, (some 9), .mv 9 (.s 1), false⟩,
    ⟨none, (some 10), .call (some 10) 40 false [(.s 8), (.s 9)], false⟩,
    ⟨none, (some 7), .mv 7 (.s 10), false⟩]))
  (.seq (.ops [⟨none, (some 11), .mv 11 (.s 7), false⟩,
    ⟨none, (some 12), .bin 12 .geq (.s 11) (.k (Value.int .i64 0)), false⟩])
  (.cond (.s 12) (.seq (.seq (.keep [0, 1, 7]) (.dr [] [(false, true, ⟨none, (some 13), .mv 13 (.s 0), false⟩),
    (false, true, ⟨none, (some 14), .mv 14 (.s 7), false⟩),
    (false, true, ⟨none, (some 15), .sls 15 (.s 13) none (some (.s 14)), false⟩),
    (false, true, ⟨none, (some 16), .mv 16 (.s 0), false⟩),
    (false, true, ⟨none, (some 17), .mv 17 (.s 7), false⟩),
    (false, true, ⟨none, (some 18), .mv 18 (.s 1), false⟩),
    (false, true, ⟨none, (some 19), .lens 19 (.s 18), false⟩),
    (false, true, ⟨none, (some 20), .binc 20 .add (.s 17) (.s 19), false⟩),
    (false, true, ⟨none, (some 21), .sls 21 (.s 16) (some (.s 20)) none, false⟩),
    (false, true, ⟨none, (some 4), .mv 4 (.s 15), true⟩),
    (false, true, ⟨none, (some 5), .mv 5 (.s 21), false⟩),
    (false, true, ⟨none, (some 6), .mv 6 (.k (Value.bool true)), false⟩)]))
  .ret) .skip)))
  (.seq (.seq (.keep [0]) (.ops [⟨none, (some 22), .mv 22 (.s 0), false⟩,
    ⟨none, (some 4), .mv 4 (.s 22), false⟩,
    ⟨none, (some 5), .mv 5 (.k (Value.string ⟨#[]⟩)), false⟩,
    ⟨none, (some 6), .mv 6 (.k (Value.bool false)), false⟩]))
  .ret)))
theorem cc37 : (Tryd.f37.body).bind (cc Tryd.prog Tryd.f37.ntmps A37) = some S37 := by kernel_rfl
def R37 : List RR := [.sl 4, .sl 5, .sl 6]
theorem cr37 : Tryd.f37.results.toList.map (crr Tryd.prog) = R37.map some := by kernel_rfl
theorem nm37 : (Tryd.f37.name == "runtime.NumGoroutine") = false := by kernel_rfl
theorem fn37 : Tryd.prog.funcs[37]? = some Tryd.f37 := by kernel_rfl
theorem bd37 : ∃ b, Tryd.f37.body = some b ∧ cc Tryd.prog Tryd.f37.ntmps A37 b = some S37 := Option.bind_eq_some_iff.1 cc37
theorem sd37 {G : World → Prop} {T : FuncId → Contract} {C : Contract} (hT : ∀ f, Sound G Tryd.prog f (T f)) (hl : C.lawful) (hC : ∀ args st K, C.wp args st K → args.length ≤ 23 ∧ ∃ os op, xv T st.n S37 (st0 args st) (retK R37 st.n os K) (panK st.n op K)) (hit : SoundIt G Tryd.prog 37 C.it := by exact SoundIt.none) : Sound G Tryd.prog 37 C := by
  obtain ⟨b, hb, hc⟩ := bd37
  rw [xv_eq] at hC
  exact sound_of_ev mo fn37 hb nm37 hc cr37 hT hl hit hC

/-! 28: strings.HasSuffix -/
def A28 : Ann := ⟨fun _ _ => 0, fun _ => none, fun r => if r = 1 then some (false, [0, 1]) else none, fun _ => []⟩
def S28 : SCode :=
  (.seq (.ops [⟨none, (some 4), .mv 4 (.k (Value.bool false)), false⟩])
  (.seq (.seq (.keep [0, 1]) (.ops [⟨none, (some 5), .mv 5 (.s 0), false⟩,
    ⟨none, (some 6), .mv 6 (.s 1), false⟩,
    ⟨none, (some 7), .call (some 7) 39 false [(.s 5), (.s 6)], false⟩,
    ⟨none, (some 4), .mv 4 (.s 7), false⟩]))
  .ret))
theorem cc28 : (Tryd.f28.body).bind (cc Tryd.prog Tryd.f28.ntmps A28) = some S28 := by kernel_rfl
def R28 : List RR := [.sl 4]
theorem cr28 : Tryd.f28.results.toList.map (crr Tryd.prog) = R28.map some := by kernel_rfl
theorem nm28 : (Tryd.f28.name == "runtime.NumGoroutine") = false := by kernel_rfl
theorem fn28 : Tryd.prog.funcs[28]? = some Tryd.f28 := by kernel_rfl
theorem bd28 : ∃ b, Tryd.f28.body = some b ∧ cc Tryd.prog Tryd.f28.ntmps A28 b = some S28 := Option.bind_eq_some_iff.1 cc28
theorem sd28 {G : World → Prop} {T : FuncId → Contract} {C : Contract} (hT : ∀ f, Sound G Tryd.prog f (T f)) (hl : C.lawful) (hC : ∀ args st K, C.wp args st K → args.length ≤ 8 ∧ ∃ os op, xv T st.n S28 (st0 args st) (retK R28 st.n os K) (panK st.n op K)) (hit : SoundIt G Tryd.prog 28 C.it := by exact SoundIt.none) : Sound G Tryd.prog 28 C := by
  obtain ⟨b, hb, hc⟩ := bd28
  rw [xv_eq] at hC
  exact sound_of_ev mo fn28 hb nm28 hc cr28 hT hl hit hC

end Go.Proofs.YtlghobefhmpfkaaDoor
/-
  DERIVED: THE SHELF's CONTRACTS AT THIS DUMP, IN PLAIN WORDS (tools/lay-plain.mjs out of 'TrydShelfPart.lean', which tools/lay-shelf.mjs wrote): THE SAME DECLARATIONS UNDER THE SAME NAMES: 'import', 'namespace', 'open', 'def', 'theorem' AND NOTHING ELSE: no command of the shelf's: FOR A HAND-IN. Each laying: the table of numbers ('.._ren') and one theorem, a field a fact of the dump's own or the kernel's comparison; each contract: ONE APPLICATION.
-/
namespace Go.Proofs
open Go.Shelf
def Tryd.lays219_ren : Go.Shelf.Ren := ⟨fun | 219 => 40 | 217 => 50 | 225 => 51 | 224 => 52 | 267 => 53 | 266 => 62 | 314 => 63 | n => n, fun | 9 => 9 | 3 => 3 | 4 => 4 | 5 => 5 | 46 => 87 | 146 => 97 | 51 => 96 | n => n, fun | 1 => 0 | n => n⟩
theorem Tryd.lays219 : Go.Proofs.Lays.n219 Tryd.prog Tryd.lays219_ren := {
  mixed := by kernel_rfl
  f217 := Tryd.func50.trans (congrArg some (by kernel_rfl))
  f219 := Tryd.func40.trans (congrArg some (by kernel_rfl))
  f224 := Tryd.func52.trans (congrArg some (by kernel_rfl))
  f225 := Tryd.func51.trans (congrArg some (by kernel_rfl))
  f266 := Tryd.func62.trans (congrArg some (by kernel_rfl))
  f267 := Tryd.func53.trans (congrArg some (by kernel_rfl))
  f314 := Tryd.func63.trans (congrArg some (by kernel_rfl))
  t3 := Tryd.underlying3
  a3 := Tryd.isAgg3
  z3 := Tryd.sizeOf3
  v3 := Tryd.zeroValue3
  t4 := Tryd.underlying4
  a4 := Tryd.isAgg4
  z4 := Tryd.sizeOf4
  v4 := Tryd.zeroValue4
  t5 := Tryd.underlying5
  a5 := Tryd.isAgg5
  z5 := Tryd.sizeOf5
  v5 := Tryd.zeroValue5
  t9 := Tryd.underlying9
  a9 := Tryd.isAgg9
  z9 := Tryd.sizeOf9
  v9 := Tryd.zeroValue9
  t46 := Tryd.underlying87
  a46 := Tryd.isAgg87
  z46 := Tryd.sizeOf87
  v46 := Tryd.zeroValue87
  t51 := Tryd.underlying96
  a51 := Tryd.isAgg96
  z51 := Tryd.sizeOf96
  v51 := Tryd.zeroValue96
  t146 := Tryd.underlying97
  a146 := Tryd.isAgg97
  z146 := Tryd.sizeOf97
  v146 := Tryd.zeroValue97
  g1 := by kernel_rfl }
open Go.RowKit Go.Lib in
/-- internal/stringslite.Index (what strings.Index calls) AT A substr OF ONE BYTE c: IT RETURNS 'Lib.indexByte s c'; the world is as it was. (LAID: no walk: one application.) -/
theorem Tryd.stringslite_Index_one (s : ByteArray) (c : UInt8) (w : World) :
    Calls Tryd.prog 40 #[.string s, .string ⟨#[c]⟩] w fun e w' => e = .returned (.int .i64 (Lib.indexByte s.data.toList c)) ∧ w' = w := Any.stringslite_Index_one Tryd.lays219 s c w
def Tryd.lays143_ren : Go.Shelf.Ren := ⟨fun | 143 => 29 | 219 => 40 | 217 => 50 | 225 => 51 | 224 => 52 | 267 => 53 | 266 => 62 | 314 => 63 | n => n, fun | 9 => 9 | 3 => 3 | 4 => 4 | 5 => 5 | 46 => 87 | 146 => 97 | 51 => 96 | n => n, fun | 1 => 0 | n => n⟩
theorem Tryd.lays143 : Go.Proofs.Lays.n143 Tryd.prog Tryd.lays143_ren := {
  mixed := by kernel_rfl
  f143 := Tryd.func29.trans (congrArg some (by kernel_rfl))
  f217 := Tryd.func50.trans (congrArg some (by kernel_rfl))
  f219 := Tryd.func40.trans (congrArg some (by kernel_rfl))
  f224 := Tryd.func52.trans (congrArg some (by kernel_rfl))
  f225 := Tryd.func51.trans (congrArg some (by kernel_rfl))
  f266 := Tryd.func62.trans (congrArg some (by kernel_rfl))
  f267 := Tryd.func53.trans (congrArg some (by kernel_rfl))
  f314 := Tryd.func63.trans (congrArg some (by kernel_rfl))
  t3 := Tryd.underlying3
  a3 := Tryd.isAgg3
  z3 := Tryd.sizeOf3
  v3 := Tryd.zeroValue3
  t4 := Tryd.underlying4
  a4 := Tryd.isAgg4
  z4 := Tryd.sizeOf4
  v4 := Tryd.zeroValue4
  t5 := Tryd.underlying5
  a5 := Tryd.isAgg5
  z5 := Tryd.sizeOf5
  v5 := Tryd.zeroValue5
  t9 := Tryd.underlying9
  a9 := Tryd.isAgg9
  z9 := Tryd.sizeOf9
  v9 := Tryd.zeroValue9
  t46 := Tryd.underlying87
  a46 := Tryd.isAgg87
  z46 := Tryd.sizeOf87
  v46 := Tryd.zeroValue87
  t51 := Tryd.underlying96
  a51 := Tryd.isAgg96
  z51 := Tryd.sizeOf96
  v51 := Tryd.zeroValue96
  t146 := Tryd.underlying97
  a146 := Tryd.isAgg97
  z146 := Tryd.sizeOf97
  v146 := Tryd.zeroValue97
  g1 := by kernel_rfl }
open Go.RowKit Go.Lib in
/-- strings.Index: "Index returns the index of the first instance of substr in s, or -1 if substr is not present in s.": AT A substr OF ONE BYTE c: IT RETURNS 'Lib.indexByte s c'; the world is as it was. (LAID: no walk: one application.) -/
theorem Tryd.strings_Index_one (s : ByteArray) (c : UInt8) (w : World) :
    Calls Tryd.prog 29 #[.string s, .string ⟨#[c]⟩] w fun e w' => e = .returned (.int .i64 (Lib.indexByte s.data.toList c)) ∧ w' = w := Any.strings_Index_one Tryd.lays143 s c w
def Tryd.lays138_ren : Go.Shelf.Ren := ⟨fun | 138 => 35 | 195 => 44 | 218 => 46 | 143 => 29 | 219 => 40 | 217 => 50 | 225 => 51 | 224 => 52 | 267 => 53 | 266 => 62 | 314 => 63 | n => n, fun | 9 => 9 | 3 => 3 | 4 => 4 | 5 => 5 | 0 => 0 | 46 => 87 | 146 => 97 | 51 => 96 | n => n, fun | 1 => 0 | n => n⟩
theorem Tryd.lays138 : Go.Proofs.Lays.n138 Tryd.prog Tryd.lays138_ren := {
  mixed := by kernel_rfl
  f138 := Tryd.func35.trans (congrArg some (by kernel_rfl))
  f143 := Tryd.func29.trans (congrArg some (by kernel_rfl))
  f195 := Tryd.func44.trans (congrArg some (by kernel_rfl))
  f217 := Tryd.func50.trans (congrArg some (by kernel_rfl))
  f218 := Tryd.func46.trans (congrArg some (by kernel_rfl))
  f219 := Tryd.func40.trans (congrArg some (by kernel_rfl))
  f224 := Tryd.func52.trans (congrArg some (by kernel_rfl))
  f225 := Tryd.func51.trans (congrArg some (by kernel_rfl))
  f266 := Tryd.func62.trans (congrArg some (by kernel_rfl))
  f267 := Tryd.func53.trans (congrArg some (by kernel_rfl))
  f314 := Tryd.func63.trans (congrArg some (by kernel_rfl))
  t0 := Tryd.underlying0
  a0 := Tryd.isAgg0
  z0 := Tryd.sizeOf0
  v0 := Tryd.zeroValue0
  t3 := Tryd.underlying3
  a3 := Tryd.isAgg3
  z3 := Tryd.sizeOf3
  v3 := Tryd.zeroValue3
  t4 := Tryd.underlying4
  a4 := Tryd.isAgg4
  z4 := Tryd.sizeOf4
  v4 := Tryd.zeroValue4
  t5 := Tryd.underlying5
  a5 := Tryd.isAgg5
  z5 := Tryd.sizeOf5
  v5 := Tryd.zeroValue5
  t9 := Tryd.underlying9
  a9 := Tryd.isAgg9
  z9 := Tryd.sizeOf9
  v9 := Tryd.zeroValue9
  t46 := Tryd.underlying87
  a46 := Tryd.isAgg87
  z46 := Tryd.sizeOf87
  v46 := Tryd.zeroValue87
  t51 := Tryd.underlying96
  a51 := Tryd.isAgg96
  z51 := Tryd.sizeOf96
  v51 := Tryd.zeroValue96
  t146 := Tryd.underlying97
  a146 := Tryd.isAgg97
  z146 := Tryd.sizeOf97
  v146 := Tryd.zeroValue97
  g1 := by kernel_rfl }
open Go.RowKit Go.Lib in
/-- strings.Count AT A substr OF ONE BYTE ('hp'): "Count counts the number of non-overlapping instances of substr in s.": IT RETURNS 'Lib.countByte s (that byte)'; the world is as it was. ✋ NO CONTRACT HERE YET at an empty substr (utf8.RuneCountInString) or at a longer one (a loop over strings.Index). (LAID: no walk: one application.) -/
theorem Tryd.strings_Count_one (s : ByteArray) (c : UInt8) (w : World) :
    Calls Tryd.prog 35 #[.string s, .string ⟨#[c]⟩] w fun e w' => e = .returned (.int .i64 (Lib.countByte s.data.toList c)) ∧ w' = w := Any.strings_Count_one Tryd.lays138 s c w
def Tryd.lays221_ren : Go.Shelf.Ren := ⟨fun | 221 => 23 | 268 => 34 | 138 => 35 | 143 => 29 | 195 => 44 | 197 => 45 | 218 => 46 | 219 => 40 | 260 => 56 | 217 => 50 | 225 => 51 | 224 => 52 | 267 => 53 | 266 => 62 | 314 => 63 | n => n, fun | 9 => 9 | 3 => 3 | 31 => 23 | 4 => 4 | 0 => 0 | 105 => 82 | 21 => 21 | 5 => 5 | 46 => 87 | 119 => 104 | 139 => 107 | 138 => 106 | 146 => 97 | 51 => 96 | n => n, fun | 1 => 0 | 3 => 1 | 4 => 2 | n => n⟩
theorem Tryd.lays221 : Go.Proofs.Lays.n221 Tryd.prog Tryd.lays221_ren := {
  mixed := by kernel_rfl
  f138 := Tryd.func35.trans (congrArg some (by kernel_rfl))
  f143 := Tryd.func29.trans (congrArg some (by kernel_rfl))
  f195 := Tryd.func44.trans (congrArg some (by kernel_rfl))
  f197 := Tryd.func45.trans (congrArg some (by kernel_rfl))
  f217 := Tryd.func50.trans (congrArg some (by kernel_rfl))
  f218 := Tryd.func46.trans (congrArg some (by kernel_rfl))
  f219 := Tryd.func40.trans (congrArg some (by kernel_rfl))
  f221 := Tryd.func23.trans (congrArg some (by kernel_rfl))
  f224 := Tryd.func52.trans (congrArg some (by kernel_rfl))
  f225 := Tryd.func51.trans (congrArg some (by kernel_rfl))
  f260 := Tryd.func56.trans (congrArg some (by kernel_rfl))
  f266 := Tryd.func62.trans (congrArg some (by kernel_rfl))
  f267 := Tryd.func53.trans (congrArg some (by kernel_rfl))
  f268 := Tryd.func34.trans (congrArg some (by kernel_rfl))
  f314 := Tryd.func63.trans (congrArg some (by kernel_rfl))
  t0 := Tryd.underlying0
  a0 := Tryd.isAgg0
  z0 := Tryd.sizeOf0
  v0 := Tryd.zeroValue0
  t3 := Tryd.underlying3
  a3 := Tryd.isAgg3
  z3 := Tryd.sizeOf3
  v3 := Tryd.zeroValue3
  t4 := Tryd.underlying4
  a4 := Tryd.isAgg4
  z4 := Tryd.sizeOf4
  v4 := Tryd.zeroValue4
  t5 := Tryd.underlying5
  a5 := Tryd.isAgg5
  z5 := Tryd.sizeOf5
  v5 := Tryd.zeroValue5
  t9 := Tryd.underlying9
  a9 := Tryd.isAgg9
  z9 := Tryd.sizeOf9
  v9 := Tryd.zeroValue9
  t21 := Tryd.underlying21
  a21 := Tryd.isAgg21
  z21 := Tryd.sizeOf21
  v21 := Tryd.zeroValue21
  t31 := Tryd.underlying23
  a31 := Tryd.isAgg23
  z31 := Tryd.sizeOf23
  v31 := Tryd.zeroValue23
  t46 := Tryd.underlying87
  a46 := Tryd.isAgg87
  z46 := Tryd.sizeOf87
  v46 := Tryd.zeroValue87
  t51 := Tryd.underlying96
  a51 := Tryd.isAgg96
  z51 := Tryd.sizeOf96
  v51 := Tryd.zeroValue96
  t105 := Tryd.underlying82
  a105 := Tryd.isAgg82
  z105 := Tryd.sizeOf82
  v105 := Tryd.zeroValue82
  t119 := Tryd.underlying104
  a119 := Tryd.isAgg104
  z119 := Tryd.sizeOf104
  t138 := Tryd.underlying106
  a138 := Tryd.isAgg106
  z138 := Tryd.sizeOf106
  v138 := Tryd.zeroValue106
  t139 := Tryd.underlying107
  a139 := Tryd.isAgg107
  z139 := Tryd.sizeOf107
  v139 := Tryd.zeroValue107
  t146 := Tryd.underlying97
  a146 := Tryd.isAgg97
  z146 := Tryd.sizeOf97
  v146 := Tryd.zeroValue97
  g1 := by kernel_rfl
  g3 := by kernel_rfl
  g4 := by kernel_rfl }
open Go.RowKit Go.Lib in
theorem Tryd.strings_genSplit (s sep : ByteArray) (sv : Nat) (n : Int) (N : Nat) (m : Int) (w : World) (hs : s.size < 4294967281) (hm : w.cell? ⟨0, 0, none⟩ = some (.int .i64 m)) (h1 : 1 ≤ sep.size) (hsv : sv ≤ sep.size) (hn0 : n ≠ 0) (hn63 : n ≤ 9223372036854775807) (hN : (N : Int) = min (if n < 0 then (Lib.countB s sep : Int) + 1 else n) ((s.size : Int) + 1)) :
    Calls Tryd.prog 23 #[.string s, .string sep, .int .i64 sv, .int .i64 n] w fun e w' =>
      e = .returned (.slice (some ⟨w.heap.size, 0, none⟩) (Lib.splitB sep sv (N - 1) s).length N) ∧ w' = w.alloc (.cells (Lib.cellsOf (Lib.splitB sep sv (N - 1) s) N) 9) := Any.strings_genSplit Tryd.lays221 (by kernel_rfl) s sep sv n N m w hs hm h1 hsv hn0 hn63 hN
end Go.Proofs
set_option linter.unusedVariables false
set_option linter.unusedSimpArgs false
namespace Go.Proofs.YtlghobefhmpfkaaDoor
open Go Go.Ev
set_option maxRecDepth 100000
variable {G : World → Prop}
/-- A library function whose answer leads to new blocks. -/
theorem sound_lib3 {G : World → Prop} {P : Program} {f : FuncId} {g : List SV → Option (Prop × SV)} (hb : HasBody P f)
    (h : ∀ args p x, g args = some (p, x) → p → ∀ w, G w → ∀ m c vs, (∀ a u, c a u → w.cell? a = some u) → CnL m 0 c args vs → Calls P f vs.toArray w fun e w' => (∃ v, e = .returned v ∧ ∀ m n c', (∀ a u, c a u → c' a u) → (∀ a u, w'.cell? a = some u → w.heap.size ≤ a.block → c' a u) → Cn m n c' x v) ∧ RowKit.Below w.heap.size w w') : Sound G P f (pureC g) := by
  refine ⟨pureC_lawful g, ?_, SoundIt.none⟩
  intro H w m B s args vs K hK hO ha
  rw [pureC_wp] at hK
  obtain ⟨p, h1, rfl, h3, h4⟩ := need_ex hK
  refine ⟨hb, (h args p.1 p.2 h1 h3 w hO.gw m _ vs (fun a u hau => hau.1) ha).mono ?_⟩
  rintro e w' ⟨⟨v, rfl, hv⟩, hB⟩
  have hS : Since w m B ⟨0, []⟩ w' m B ⟨0, []⟩ := ⟨hB.os, hB.tape, hB.output, hB.size, fun b hb _ => hB.block b hb, fun b hb => .inl hb, Nat.le_refl _, fun _ _ => rfl, fun o x b _ h1 h2 h3 => .inl ⟨x, h1, h2, h3⟩⟩
  exact ⟨m, B, ⟨0, []⟩, .ret p.2, h4, SOk.empty (fun b hb => Nat.lt_of_lt_of_le (hO.hid b hb) hB.size) (hO.gs hS) _ _, hS, hv _ _ _ hS.vw fun a u h1 h2 => ⟨h1, fun ⟨o, x, e, _⟩ => by simp [lk] at e, fun hh => by have := hO.hid _ hh; omega⟩⟩
/-- The lines of a text. -/
def lns : List UInt8 → List (List UInt8)
  | [] => []
  | c :: r => if c = 10 then [10] :: lns r else match lns r with
    | [] => [[c]]
    | p :: ps => (c :: p) :: ps
/-- The pieces: a last one is empty where the text is, or ends with a line feed. -/
def pcs : List UInt8 → List (List UInt8)
  | [] => [[]]
  | c :: r => if c = 10 then [10] :: pcs r else match pcs r with
    | [] => [[c]]
    | p :: ps => (c :: p) :: ps
theorem pcs_ne : ∀ l, pcs l ≠ []
  | [] => by simp [pcs]
  | c :: r => by
    simp only [pcs]
    split
    · simp
    · split <;> simp
theorem pcs_lns : ∀ l, pcs l = lns l ++ (if l = [] ∨ l.getLast? = some 10 then [[]] else [])
  | [] => by simp [pcs, lns]
  | c :: r => by
    have h := pcs_lns r
    simp only [pcs, lns]
    by_cases hc : c = 10
    · subst hc
      rw [if_pos rfl, if_pos rfl, h, List.cons_append]
      congr 2
      cases r with
      | nil => simp
      | cons d r => simp [List.getLast?_cons_cons]
    · rw [if_neg hc, if_neg hc]
      cases r with
      | nil => simp [pcs, lns, hc]
      | cons d r =>
        have hn : lns (d :: r) ≠ [] := by
          simp only [lns]
          split
          · simp
          · split <;> simp
        cases hl : lns (d :: r) with
        | nil => exact absurd hl hn
        | cons p ps =>
          rw [h, hl]
          simp [List.getLast?_cons_cons]
theorem pcs_pre (p r : List UInt8) (hp : ∀ c ∈ p, c ≠ 10) : pcs (p ++ 10 :: r) = (p ++ [10]) :: pcs r := by
  induction p with
  | nil => simp [pcs]
  | cons c p ih =>
    have h := ih fun d hd => hp d (List.mem_cons_of_mem _ hd)
    simp only [List.cons_append, pcs, if_neg (hp c (List.mem_cons_self ..)), h]
theorem pcs_no (p : List UInt8) (hp : ∀ c ∈ p, c ≠ 10) : pcs p = [p] := by
  induction p with
  | nil => rfl
  | cons c p ih =>
    have h := ih fun d hd => hp d (List.mem_cons_of_mem _ hd)
    simp only [pcs, if_neg (hp c (List.mem_cons_self ..)), h]
theorem feed_or : ∀ l : List UInt8, (∀ c ∈ l, c ≠ 10) ∨ ∃ p r, l = p ++ 10 :: r ∧ ∀ c ∈ p, c ≠ 10
  | [] => .inl (by simp)
  | c :: l => by
    by_cases hc : c = 10
    · exact .inr ⟨[], l, by rw [hc]; rfl, by simp⟩
    · rcases feed_or l with h | ⟨p, r, rfl, h⟩
      · exact .inl (by simp only [List.mem_cons, forall_eq_or_imp]; exact ⟨hc, h⟩)
      · exact .inr ⟨c :: p, r, rfl, by simp only [List.mem_cons, forall_eq_or_imp]; exact ⟨hc, h⟩⟩
theorem occ_at (l : List UInt8) (i : Nat) : Lib.occAt l [10] i = decide (l[i]? = some 10) := by
  unfold Lib.occAt
  cases h : l.drop i with
  | nil =>
    have := List.drop_eq_nil_iff.1 h
    rw [List.getElem?_eq_none this]; rfl
  | cons c r =>
    have : l[i]? = some c := by rw [← List.head?_drop, h]; rfl
    rw [this]
    by_cases hc : c = 10
    · subst hc; simp [List.isPrefixOf]
    · have : ¬ (10 : UInt8) = c := fun e => hc e.symm
      simp [List.isPrefixOf, hc, this]
theorem index_feed (p r : List UInt8) (hp : ∀ c ∈ p, c ≠ 10) : Lib.index (p ++ 10 :: r) [10] = p.length := by
  refine Lib.index_first (by simp) (by rw [occ_at]; simp) fun j hj => ?_
  rw [occ_at, List.getElem?_append_left hj, List.getElem?_eq_getElem hj]
  simpa using hp _ (List.getElem_mem hj)
theorem splitK_pcs : ∀ (n : Nat) (l : List UInt8), l.count 10 = n → Lib.splitK [10] 1 n l = pcs l
  | 0, l, h => by
    have h2 : ∀ c ∈ l, c ≠ 10 := fun c hc e => by subst e; exact absurd (List.count_pos_iff.2 hc) (by omega)
    rw [pcs_no l h2]; rfl
  | n + 1, l, h => by
    rcases feed_or l with h2 | ⟨p, r, rfl, h2⟩
    · have : l.count 10 = 0 := List.count_eq_zero.2 fun hm => h2 _ hm rfl
      omega
    · have hc : p.count 10 = 0 := List.count_eq_zero.2 fun hm => h2 _ hm rfl
      rw [List.count_append, List.count_cons, hc] at h
      simp only [Lib.splitK, index_feed p r h2]
      have e1 : ((p.length : Int) == -1) = false := by simp
      rw [e1, pcs_pre p r h2]
      simp only [Bool.false_eq_true, if_false, Int.toNat_natCast, List.length_cons, List.length_nil]
      rw [splitK_pcs n _ (by rw [show p ++ 10 :: r = (p ++ [10]) ++ r by simp, List.drop_left' (by simp)]; simpa using h)]
      rw [show p ++ 10 :: r = (p ++ [10]) ++ r by simp, List.take_left' (by simp), List.drop_left' (by simp)]
theorem pcs_len : ∀ l, (pcs l).length = l.count 10 + 1
  | [] => rfl
  | c :: r => by
    have h := pcs_len r
    simp only [pcs]
    by_cases hc : c = 10
    · subst hc; simp [h]
    · rw [if_neg hc, List.count_cons_of_ne (fun e => hc e)]
      cases hp : pcs r with
      | nil => exact absurd hp (pcs_ne r)
      | cons p ps => rw [hp] at h; simpa using h
/-- strings.genSplit behind line feeds: each piece ends with one, but the last. -/
def CGen : Contract := pureC fun args => match args with
  | [.d (.v (.string s)), .d (.v (.string p)), .d (.v (.int .i64 sv)), .d (.v (.int .i64 n))] => some ((s.size ≤ 1099511627 ∧ p.data.toList = [10] ∧ sv = 1 ∧ n = -1), .d (.sl (strRows (pcs s.data.toList))))
  | _ => none
theorem sGen : Sound G Tryd.prog 23 CGen := by
  refine sound_lib3 ⟨Tryd.f23, by kernel_rfl, by kernel_rfl, by kernel_rfl⟩ fun args p x h hp => ?_
  split at h <;> simp only [Option.some.injEq, Prod.mk.injEq, reduceCtorEq] at h
  obtain ⟨rfl, rfl⟩ := h
  rename_i s q sv n
  obtain ⟨h1, h2, rfl, rfl⟩ := hp
  obtain ⟨q', rfl⟩ := ex_str q
  simp only [sem_str] at h2
  subst h2
  intro w hw m c vs hc hv
  match vs, hv with
  | [a, b, d, e], hv =>
    simp only [CnL, and_true] at hv
    obtain ⟨v1, v2, v3, v4⟩ := hv
    rw [of_v v1, of_v v2, of_v v3, of_v v4]
    have hi : ∀ x : ByteArray, Lib.indexB x ⟨#[10]⟩ = Lib.indexByte x.data.toList 10 := fun x => Lib.index_one _ _
    have hcn : Lib.countB s ⟨#[10]⟩ = s.data.toList.count 10 := Lib.count_one _ _
    have hle := Lib.countB_le ⟨#[10]⟩ (Nat.le_refl _) s.size s (Nat.le_refl _)
    have hlen := Lib.splitB_all ⟨#[10]⟩ (Nat.le_refl _) 1 _ s rfl
    have hd := Lib.splitB_data ⟨#[10]⟩ 1 (Lib.countB s ⟨#[10]⟩) s
    rw [show (⟨#[10]⟩ : ByteArray).data.toList = [10] from rfl, splitK_pcs _ _ hcn.symm] at hd
    have hcc := Any.strings_genSplit_core Tryd.lays221 (by kernel_rfl) s ⟨#[10]⟩ 1 (-1) (Lib.countB s ⟨#[10]⟩ + 1) w (by omega) (Nat.le_refl _) (Nat.le_refl _)
      (fun x cs hx => (Tryd.strings_Index_one x 10 _).mono fun e w' ⟨he, hw⟩ => ⟨by rw [he, hi], hw⟩)
      ((Tryd.strings_Count_one s 10 w).mono fun e w' ⟨he, hw⟩ => ⟨by rw [he, hcn]; rfl, hw⟩) (by decide) (by decide) (by rw [if_pos (by decide)]; omega)
    rw [Nat.add_sub_cancel, hlen] at hcc
    have e2 : Lib.cellsOf (Lib.splitB ⟨#[10]⟩ 1 (Lib.countB s ⟨#[10]⟩) s) (Lib.countB s ⟨#[10]⟩ + 1) = ((Lib.splitB ⟨#[10]⟩ 1 (Lib.countB s ⟨#[10]⟩) s).map Value.string).toArray := by rw [← hlen]; exact Lib.cellsOf_full _
    rw [e2] at hcc
    refine hcc.mono ?_
    rintro e w' ⟨rfl, rfl⟩
    have hpl : (pcs s.data.toList).length = Lib.countB s ⟨#[10]⟩ + 1 := by rw [pcs_len, hcn]
    refine ⟨⟨_, rfl, fun m n c' _ h2 => ?_⟩, (RowKit.Below.refl _ _).alloc (Nat.le_refl _) _⟩
    simp only [Cn, Rd]
    refine ⟨_, _, by rw [strRows_len, hpl], by rw [strRows_len, hpl]; exact Nat.le_refl _, by rw [strRows_len, hpl]; omega, .inr ⟨_, 1, rfl, rfl, ?_⟩⟩
    refine rdRows_of fun i r hir => ?_
    have hil : i < (pcs s.data.toList).length := by
      have := (List.getElem?_eq_some_iff.1 hir).1
      rwa [strRows_len] at this
    rw [strRows_get hil] at hir
    obtain rfl := Option.some.inj hir
    have hbl : i < (Lib.splitB ⟨#[10]⟩ 1 (Lib.countB s ⟨#[10]⟩) s).length := by rw [hlen, ← hpl]; exact hil
    refine ⟨rfl, ⟨.string (Lib.splitB ⟨#[10]⟩ 1 (Lib.countB s ⟨#[10]⟩) s)[i], h2 _ _ ?_ ?_, ?_⟩, trivial⟩
    · have hadd : (⟨w.heap.size, 0, none⟩ : Addr).add (0 + i * 1) = ⟨w.heap.size, i, none⟩ := by
        unfold Addr.add
        by_cases hz : i = 0
        · subst hz; rfl
        · rw [if_neg (by omega)]; simp
      rw [hadd, World.cell?_alloc_at _ _ _ _ (by simp)]
      simp [List.getElem?_eq_getElem hbl]
    · have hb : ((⟨w.heap.size, 0, none⟩ : Addr).add (0 + i * 1)).block = w.heap.size := by unfold Addr.add; split <;> rfl
      rw [hb]; exact Nat.le_refl _
    · simp only [Rd, Value.oneCell', and_true]
      have e3 : (pcs s.data.toList).getD i [] = ((Lib.splitB ⟨#[10]⟩ 1 (Lib.countB s ⟨#[10]⟩) s)[i]).data.toList := by
        rw [← hd, List.getD_eq_getElem?_getD, List.getElem?_map, List.getElem?_eq_getElem hbl]; rfl
      rw [e3]
  | [], hv => simp [CnL] at hv
  | [_], hv => simp [CnL] at hv
  | [_, _], hv => simp [CnL] at hv
  | [_, _, _], hv => simp [CnL] at hv
  | _ :: _ :: _ :: _ :: _ :: _, hv => simp [CnL] at hv
/-- strings.SplitAfter, lines.Split. -/
def CAfter : Contract := pureC fun args => match args with
  | [.d (.v (.string s)), .d (.v (.string p))] => some ((s.size ≤ 1099511627 ∧ p.data.toList = [10]), .d (.sl (strRows (pcs s.data.toList))))
  | _ => none
theorem s11 : Sound G Tryd.prog 11 CAfter := by
  refine sd11 (T := tabT [(23, CGen)]) (tab_cons sGen tab_nil) (pureC_lawful _) (pure_hX fun args p x K h hp hk => ?_)
  split at h <;> simp only [Option.some.injEq, Prod.mk.injEq, reduceCtorEq] at h
  obtain ⟨rfl, rfl⟩ := h
  rename_i s q
  obtain ⟨h1, h2⟩ := hp
  obtain ⟨q', rfl⟩ := ex_str q
  simp only [sem_str] at h2
  subst h2
  refine ⟨Nat.le_of_ble_eq_true rfl, ?_⟩
  simp -dsimp -implicitDefEqProofs only [S11, R11, CGen, h1, ↓Ev.xStp_eq, ↓Ev.P, Ev.Q, Bool.cond_true, Bool.cond_false, eq_self, forall_eq_or_imp, implies_true, forall_const, forall_eq, ↓reduceIte, reduceIte, Nat.reduceEqDiff, Nat.reduceAdd, reduceCtorEq, Nat.reduceSub, Int.reduceToNat, Int.reduceLE, Int.reduceLT, Int.reduceNeg, Nat.reduceBEq, Nat.reduceMul, Nat.reduceLeDiff, Nat.reduceMod, UInt8.reduceOfNat, Nat.reduceLT, Int.reduceEq, Int.reduceAdd, Int.reduceSub, Int.reduceMul]
  exact ⟨rfl, hk⟩
def CSplit : Contract := pureC fun args => match args with
  | [.d (.v (.string s))] => some (s.size ≤ 1099511627, .d (.sl (strRows (lns s.data.toList))))
  | _ => none
theorem pcs_last (l : List UInt8) : (pcs l).getD ((pcs l).length - 1) [] = if l = [] ∨ l.getLast? = some 10 then [] else (lns l).getLast?.getD [] := by
  rw [pcs_lns]
  split
  · simp [List.getD_eq_getElem?_getD]
  · rw [List.append_nil, List.getD_eq_getElem?_getD, List.getLast?_eq_getElem?]
theorem lns_ne : ∀ l, ∀ s ∈ lns l, s ≠ []
  | [], s, h => by simp [lns] at h
  | c :: r, s, h => by
    simp only [lns] at h
    split at h
    · rcases List.mem_cons.1 h with rfl | h
      · simp
      · exact lns_ne r s h
    · split at h
      · obtain rfl := List.mem_singleton.1 h; simp
      · rename_i p ps e
        rcases List.mem_cons.1 h with rfl | h
        · simp
        · exact lns_ne r s (by rw [e]; exact List.mem_cons_of_mem _ h)
theorem s5 : Sound G Tryd.prog 5 CSplit := by
  refine sd5 (T := tabT [(11, CAfter)]) (tab_cons s11 tab_nil) (pureC_lawful _) (pure_hX fun args p x K h hp hk => ?_)
  split at h <;> simp only [Option.some.injEq, Prod.mk.injEq, reduceCtorEq] at h
  obtain ⟨rfl, rfl⟩ := h
  rename_i s
  obtain ⟨s, rfl⟩ := ex_str s
  simp only [sem_str] at hp hk
  refine ⟨Nat.le_of_ble_eq_true rfl, ?_⟩
  have hl := pcs_len s
  have hcl := List.count_le_length (a := (10 : UInt8)) (l := s)
  have hg := strRows_get (l := pcs s) (i := (pcs s).length - 1) (by omega)
  have hlast := pcs_last s
  have hL := pcs_lns s
  by_cases hc : s = [] ∨ s.getLast? = some 10
  · rw [if_pos hc] at hlast hL
    rw [hlast] at hg
    have ht : (strRows (pcs s)).take ((pcs s).length - 1) = strRows (lns s) := by rw [hL]; simp [strRows]
    simp -dsimp -implicitDefEqProofs only [S5, R5, CAfter, hp, hg, strRows_len, ↓Ev.xStp_eq, ↓Ev.P, Ev.Q, Bool.cond_true, Bool.cond_false, eq_self, forall_eq_or_imp, implies_true, forall_const, forall_eq, ↓reduceIte, reduceIte, Nat.reduceEqDiff, Nat.reduceAdd, reduceCtorEq, Nat.reduceSub, Int.reduceToNat, Int.reduceLE, Int.reduceLT, Int.reduceNeg, Nat.reduceBEq, Nat.reduceMul, Nat.reduceLeDiff, Nat.reduceMod, UInt8.reduceOfNat, Nat.reduceLT, Int.reduceEq, Int.reduceAdd, Int.reduceSub, Int.reduceMul]
    refine ⟨by omega, by omega, by omega, by omega, by rw [strRows_all]; trivial, ?_⟩
    rw [ht]; exact hk
  · rw [if_neg hc] at hlast hL
    rw [hlast] at hg
    have hne : ¬ (lns s).getLast?.getD [] = [] := by
      cases hq : (lns s).getLast? with
      | none =>
        have h1 := List.getLast?_eq_none_iff.1 hq
        rw [h1, List.append_nil] at hL
        exact absurd hL (pcs_ne s)
      | some x => exact lns_ne s x (List.mem_of_getLast? hq)
    simp -dsimp -implicitDefEqProofs only [S5, R5, CAfter, hp, hg, strRows_len, ↓Ev.xStp_eq, ↓Ev.P, Ev.Q, Bool.cond_true, Bool.cond_false, eq_self, forall_eq_or_imp, implies_true, forall_const, forall_eq, ↓reduceIte, reduceIte, Nat.reduceEqDiff, Nat.reduceAdd, reduceCtorEq, Nat.reduceSub, Int.reduceToNat, Int.reduceLE, Int.reduceLT, Int.reduceNeg, Nat.reduceBEq, Nat.reduceMul, Nat.reduceLeDiff, Nat.reduceMod, UInt8.reduceOfNat, Nat.reduceLT, Int.reduceEq, Int.reduceAdd, Int.reduceSub, Int.reduceMul]
    refine ⟨by omega, by omega, fun h => absurd h hne, fun _ => ?_⟩
    rw [hL, List.append_nil]; exact hk
end Go.Proofs.YtlghobefhmpfkaaDoor
set_option linter.unusedVariables false
set_option linter.unusedSimpArgs false
namespace Go.Proofs.YtlghobefhmpfkaaDoor
open Go Go.Ev
set_option maxRecDepth 100000
variable {G : World → Prop}
theorem indexByte_mem (c : UInt8) : ∀ l : List UInt8, 0 ≤ Lib.indexByte l c ↔ c ∈ l
  | [] => by simp [Lib.indexByte]
  | b :: l => by
    have ih := indexByte_mem c l
    have hge := Lib.indexByte_ge l c
    rw [Lib.indexByte, List.mem_cons, ← ih]
    by_cases h : b = c
    · subst h; simp
    · have h1 : (b == c) = false := by simpa using h
      have h3 : ¬ c = b := fun e => h e.symm
      rw [h1, if_neg (by simp)]
      by_cases h2 : Lib.indexByte l c = -1
      · rw [h2]; simp [h3]
      · have h4 : (Lib.indexByte l c == -1) = false := by simpa using h2
        rw [h4, if_neg (by simp)]
        simp only [h3, false_or]
        omega
theorem u8_ten (x : UInt8) : ((x.toNat : Int) = 10) ↔ x = 10 := ⟨fun h => UInt8.toNat_inj.1 (by show _ = 10; omega), fun h => by rw [h]; rfl⟩
theorem lns_pre (p r : List UInt8) (hp : ∀ c ∈ p, c ≠ 10) : lns (p ++ 10 :: r) = (p ++ [10]) :: lns r := by
  induction p with
  | nil => simp [lns]
  | cons c p ih =>
    have h := ih fun d hd => hp d (List.mem_cons_of_mem _ hd)
    simp only [List.cons_append, lns, if_neg (hp c (List.mem_cons_self ..)), h]
theorem lns_no (p : List UInt8) (hp : ∀ c ∈ p, c ≠ 10) (hn : p ≠ []) : lns p = [p] := by
  induction p with
  | nil => exact absurd rfl hn
  | cons c p ih =>
    by_cases hq : p = []
    · subst hq; simp [lns, hp c (List.mem_cons_self ..)]
    · have h := ih (fun d hd => hp d (List.mem_cons_of_mem _ hd)) hq
      simp only [lns, if_neg (hp c (List.mem_cons_self ..)), h]
theorem lns_len : ∀ l, (lns l).length ≤ l.length
  | [] => by simp [lns]
  | c :: r => by
    have h := lns_len r
    simp only [lns]
    split
    · simpa using h
    · split
      · simp
      · rename_i p ps e
        rw [e] at h; simp at h ⊢; omega
theorem lns_flat : ∀ l, (lns l).flatten = l
  | [] => rfl
  | c :: r => by
    have h := lns_flat r
    simp only [lns]
    split
    · rename_i e; subst e; simp [h]
    · split
      · rename_i e; rw [e] at h; simp at h; subst h; rfl
      · rename_i p ps e
        rw [e] at h; simp at h ⊢; exact h
/-- While lines are taken: those that are taken, and the rest. -/
structure Cutting (s : List UInt8) (acc : List (List UInt8)) (at_ i : Nat) : Prop where
  le : at_ ≤ i
  all : acc ++ lns (s.drop at_) = lns s
  no : ∀ c ∈ (s.drop at_).take (i - at_), c ≠ 10
  len : acc.length ≤ i
theorem Cutting.step {s : List UInt8} {acc : List (List UInt8)} {at_ i : Nat} (h : Cutting s acc at_ i) (hi : i < s.length) (hc : ¬ s.getD i 0 = 10) : Cutting s acc at_ (i + 1) := by
  obtain ⟨h1, h2, h3, h4⟩ := h
  refine ⟨by omega, h2, fun c hm => ?_, by omega⟩
  rw [show i + 1 - at_ = (i - at_) + 1 by omega, List.take_succ_eq_append_getElem (by rw [List.length_drop]; omega), List.mem_append] at hm
  rcases hm with hm | hm
  · exact h3 c hm
  · rw [List.mem_singleton.1 hm, List.getElem_drop]
    rw [List.getD_eq_getElem?_getD, List.getElem?_eq_getElem hi] at hc
    simpa [show at_ + (i - at_) = i by omega] using hc
theorem Cutting.cut {s : List UInt8} {acc : List (List UInt8)} {at_ i : Nat} (h : Cutting s acc at_ i) (hi : i < s.length) (hc : s.getD i 0 = 10) : Cutting s (acc ++ [(s.drop at_).take (i + 1 - at_)]) (i + 1) (i + 1) := by
  obtain ⟨h1, h2, h3, h4⟩ := h
  have e : s.drop at_ = (s.drop at_).take (i - at_) ++ 10 :: s.drop (i + 1) := by
    conv => lhs; rw [← List.take_append_drop (i - at_) (s.drop at_)]
    rw [List.drop_drop, show at_ + (i - at_) = i by omega, List.drop_eq_getElem_cons hi]
    rw [List.getD_eq_getElem?_getD, List.getElem?_eq_getElem hi] at hc
    simp only [Option.getD_some] at hc
    rw [hc]
  have e2 : (s.drop at_).take (i + 1 - at_) = (s.drop at_).take (i - at_) ++ [10] := by
    rw [show i + 1 - at_ = (i - at_) + 1 by omega, List.take_succ_eq_append_getElem (by rw [List.length_drop]; omega), List.getElem_drop]
    rw [List.getD_eq_getElem?_getD, List.getElem?_eq_getElem hi] at hc
    simp only [Option.getD_some] at hc
    simp only [show at_ + (i - at_) = i by omega, hc]
  refine ⟨Nat.le_refl _, ?_, by simp, by simp; omega⟩
  rw [← h2, e2]
  conv => rhs; rw [e, lns_pre _ _ h3]
  rw [List.append_assoc]
  rfl
theorem Cutting.fin {s : List UInt8} {acc : List (List UInt8)} {at_ i : Nat} (h : Cutting s acc at_ i) (hi : s.length ≤ i) : (s.length ≤ at_ → lns s = acc) ∧ (at_ < s.length → lns s = acc ++ [s.drop at_]) := by
  obtain ⟨h1, h2, h3, h4⟩ := h
  refine ⟨fun h => ?_, fun h => ?_⟩
  · rw [← h2, List.drop_eq_nil_of_le h]; simp [lns]
  · rw [← h2, lns_no]
    · intro c hc; exact h3 c (by rw [List.take_of_length_le (by rw [List.length_drop]; omega)]; exact hc)
    · intro e; have := congrArg List.length e; rw [List.length_drop] at this; simp at this; omega
theorem strRows_snoc (a : List (List UInt8)) (x : List UInt8) : strRows (a ++ [x]) = strRows a ++ [[.v (.string ⟨x.toArray⟩)]] := by simp [strRows]
/-! What is wrong with lines. -/
/-- A line feed's place, or -1. -/
def CIxF : Contract := pureC fun args => match args with
  | [.d (.v (.string s)), .d (.v (.string p))] => some (p.data.toList = [10], .d (.v (.int .i64 (Lib.indexByte s.data.toList 10))))
  | _ => none
theorem sIxF : Sound G Tryd.prog 29 CIxF := by
  refine sound_lib ⟨Tryd.f29, by kernel_rfl, by kernel_rfl, by kernel_rfl⟩ fun args p x h hp => ?_
  split at h <;> simp only [Option.some.injEq, Prod.mk.injEq, reduceCtorEq] at h
  obtain ⟨rfl, rfl⟩ := h
  rename_i s q
  obtain ⟨q', rfl⟩ := ex_str q
  simp only [sem_str] at hp
  subst hp
  refine ⟨_, fun m n c => ⟨rfl, rfl⟩, fun w hw m c vs hc hv => ?_⟩
  match vs, hv with
  | [a, b], hv =>
    simp only [CnL, and_true] at hv
    obtain ⟨v1, v2⟩ := hv
    rw [of_v v1, of_v v2]
    refine (Tryd.strings_Index_one s 10 w).mono ?_
    rintro e w' ⟨rfl, rfl⟩
    exact ⟨rfl, RowKit.Below.refl _ _⟩
  | [], hv => simp [CnL] at hv
  | [_], hv => simp [CnL] at hv
  | _ :: _ :: _ :: _, hv => simp [CnL] at hv
/-- Is a line right? last: the last one. -/
def okLine (last : Bool) (s : List UInt8) : Bool := decide (s ≠ []) && !s.dropLast.contains 10 && (last || decide (s.getLast? = some 10))
def okLs (l : List (List UInt8)) : Bool := (l.dropLast.all (okLine false)) && ((l.getLast?.map (okLine true)).getD true)
def okUp (n : Nat) (l : List (List UInt8)) : Bool := (List.range n).all fun i => okLine (decide (i + 1 = l.length)) (l.getD i [])
def CLns : Contract := pureC fun args => match args with
  | [.d (.sl rows)] => (unStr rows).map fun l => (l.length ≤ 1099511627776 ∧ ∀ s ∈ l, s.length ≤ 1099511627776, .d (.v (.int .i64 (if okUp l.length l = true then 0 else 6))))
  | _ => none
theorem ix_feed (s : List UInt8) : (Lib.indexByte s 10 < 0 ↔ 10 ∉ s) ∧ (∀ i : Nat, Lib.indexByte s 10 = i → i < s.length ∧ s.getD i 0 = 10 ∧ 10 ∉ s.take i) := by
  rcases feed_or s with h | ⟨p, r, rfl, h⟩
  · have hn : 10 ∉ s := fun hm => h 10 hm rfl
    have := Lib.indexByte_ge s 10
    have hi : ¬ 0 ≤ Lib.indexByte s 10 := fun hh => hn ((indexByte_mem 10 s).1 hh)
    exact ⟨⟨fun _ => hn, fun _ => by omega⟩, fun i e => by omega⟩
  · have hx := index_feed p r h
    rw [Lib.index_one] at hx
    rw [hx]
    refine ⟨⟨fun hh => by omega, fun hh => absurd (by simp) hh⟩, fun i e => ?_⟩
    have : i = p.length := by omega
    subst this
    refine ⟨by simp, by simp [List.getD_eq_getElem?_getD], fun hm => ?_⟩
    rw [List.take_left' rfl] at hm
    exact h 10 hm rfl
end Go.Proofs.YtlghobefhmpfkaaDoor
set_option linter.unusedVariables false
set_option linter.unusedSimpArgs false
namespace Go.Proofs.YtlghobefhmpfkaaDoor
open Go Go.Ev
set_option maxRecDepth 100000
variable {G : World → Prop}
theorem getD_mem {s : List UInt8} {i : Nat} (h : i < s.length) : s.getD i 0 ∈ s := by
  rw [List.getD_eq_getElem?_getD, List.getElem?_eq_getElem h]; exact List.getElem_mem h
theorem last_get {s : List UInt8} (h : s ≠ []) : s.getLast? = some (s.getD (s.length - 1) 0) := by
  have hl : 0 < s.length := List.length_pos_iff.2 h
  rw [List.getLast?_eq_getElem?, List.getD_eq_getElem?_getD, List.getElem?_eq_getElem (by omega)]; rfl
theorem okLine_eq (last : Bool) (s : List UInt8) : okLine last s = true ↔ ¬ ((s = [] ∨ (0 ≤ Lib.indexByte s 10 ∧ Lib.indexByte s 10 ≠ (s.length : Int) - 1)) ∨ (Lib.indexByte s 10 < 0 ∧ last = false)) := by
  obtain ⟨h1, h2⟩ := ix_feed s
  have hge := Lib.indexByte_ge s 10
  by_cases he : s = []
  · subst he; simp [okLine]
  have hl : 0 < s.length := List.length_pos_iff.2 he
  have hg := last_get he
  have hd : s.dropLast = s.take (s.length - 1) := List.dropLast_eq_take
  simp only [okLine, Bool.and_eq_true, decide_eq_true_eq, Bool.or_eq_true, Bool.not_eq_true', hg, Option.some.injEq, he, not_false_eq_true, ne_eq, true_and, false_or]
  have hc : s.dropLast.contains 10 = false ↔ 10 ∉ s.dropLast := by simp
  rw [hc, hd]
  by_cases hn : Lib.indexByte s 10 < 0
  · have hm := h1.1 hn
    have a1 : 10 ∉ s.take (s.length - 1) := fun h => hm (List.mem_of_mem_take h)
    have a2 : ¬ s.getD (s.length - 1) 0 = 10 := fun e => hm (by rw [← e]; exact getD_mem (by omega))
    simp only [a1, not_false_eq_true, a2, or_false, true_and, hn]
    cases last <;> simp <;> omega
  · obtain ⟨i, hi⟩ := Int.eq_ofNat_of_zero_le (show 0 ≤ Lib.indexByte s 10 by omega)
    obtain ⟨b1, b2, b3⟩ := h2 i hi
    rw [hi]
    by_cases hil : i = s.length - 1
    · subst hil
      simp only [b3, not_false_eq_true, b2, or_true, and_self, true_iff]
      omega
    · have hm : 10 ∈ s.take (s.length - 1) := by
        rw [← b2]
        rw [List.getD_eq_getElem?_getD, List.getElem?_eq_getElem b1, Option.getD_some]
        exact List.mem_take_iff_getElem.2 ⟨i, by omega, rfl⟩
      simp only [hm, not_true_eq_false, false_and, false_iff, Classical.not_not]
      omega
theorem okUp_succ (n : Nat) (l : List (List UInt8)) : okUp (n + 1) l = (okUp n l && okLine (decide (n + 1 = l.length)) (l.getD n [])) := by
  simp [okUp, List.range_succ, List.all_append]
theorem okUp_out {n : Nat} {l : List (List UInt8)} (h : n < l.length) (hb : okLine (decide (n + 1 = l.length)) (l.getD n []) = false) : okUp l.length l = false := by
  rw [okUp, Bool.eq_false_iff]
  intro ha
  have := List.all_eq_true.1 ha n (List.mem_range.2 h)
  rw [hb] at this; cases this
theorem getD_in {l : List (List UInt8)} {i : Nat} (h : i < l.length) : l.getD i [] ∈ l := by
  rw [List.getD_eq_getElem?_getD, List.getElem?_eq_getElem h]; exact List.getElem_mem h
set_option maxHeartbeats 1000000 in
theorem s16 : Sound G Tryd.prog 16 CLns := by
  refine sd16 (T := tabT [(29, CIxF)]) (tab_cons sIxF tab_nil) (pureC_lawful _) (pure_hX fun args p x K h hp hk => ?_)
  split at h <;> simp only [Option.map_eq_some_iff, Prod.mk.injEq, reduceCtorEq] at h
  obtain ⟨l, hl, rfl, rfl⟩ := h
  rw [unStr_eq hl] at *
  obtain ⟨h1, h2⟩ := hp
  refine ⟨Nat.le_of_ble_eq_true rfl, ?_⟩
  simp -dsimp -implicitDefEqProofs only [S16, R16, strRows_len, ↓Ev.xStp_eq, ↓Ev.P, Ev.Q, Bool.cond_true, Bool.cond_false, eq_self, forall_eq_or_imp, implies_true, forall_const, forall_eq, ↓reduceIte, reduceIte, Nat.reduceEqDiff, Nat.reduceAdd, reduceCtorEq, Nat.reduceSub, Int.reduceToNat, Int.reduceLE, Int.reduceLT, Int.reduceNeg, Nat.reduceBEq, Nat.reduceMul, Nat.reduceLeDiff, Nat.reduceMod, UInt8.reduceOfNat, Nat.reduceLT, Int.reduceEq, Int.reduceAdd, Int.reduceSub, Int.reduceMul]
  refine xLoop_intro (fun n st => ∃ i : Nat, i ≤ l.length ∧ n = l.length - i ∧ okUp i l = true ∧
      st = ⟨[(0, .d (.sl (strRows l))), (7, .d (.sl (strRows l))), (8, .d (.v (.int .i64 l.length))), (9, .d (.v (.int .i64 i)))], 0, []⟩) l.length [] ?_ ?_ ?_
  · simp -dsimp -implicitDefEqProofs only [↓Ev.xStp_eq, ↓Ev.P, Ev.Q, Bool.cond_true, Bool.cond_false, eq_self, forall_eq_or_imp, implies_true, forall_const, forall_eq, ↓reduceIte, reduceIte, Nat.reduceEqDiff, Nat.reduceAdd, reduceCtorEq, Nat.reduceSub, Int.reduceToNat, Int.reduceLE, Int.reduceLT, Int.reduceNeg, Nat.reduceBEq, Nat.reduceMul, Nat.reduceLeDiff, Nat.reduceMod, UInt8.reduceOfNat, Nat.reduceLT, Int.reduceEq, Int.reduceAdd, Int.reduceSub, Int.reduceMul]
  · simp -dsimp -implicitDefEqProofs only [↓Ev.xStp_eq, ↓Ev.P, Ev.Q, Bool.cond_true, Bool.cond_false, eq_self, forall_eq_or_imp, implies_true, forall_const, forall_eq, ↓reduceIte, reduceIte, Nat.reduceEqDiff, Nat.reduceAdd, reduceCtorEq, Nat.reduceSub, Int.reduceToNat, Int.reduceLE, Int.reduceLT, Int.reduceNeg, Nat.reduceBEq, Nat.reduceMul, Nat.reduceLeDiff, Nat.reduceMod, UInt8.reduceOfNat, Nat.reduceLT, Int.reduceEq, Int.reduceAdd, Int.reduceSub, Int.reduceMul]
    exact ⟨0, by omega, by omega, rfl, by simp⟩
  · rintro n st ⟨i, hi, hn, hok, rfl⟩
    by_cases hil : i < l.length
    · have hi3 : (i : Int) < l.length := by omega
      have hg := strRows_get hil
      have hsz := h2 _ (getD_in hil)
      have hoe := okLine_eq (decide (i + 1 = l.length)) (l.getD i [])
      have hst := okUp_succ i l
      have hout := okUp_out hil
      have hge := Lib.indexByte_ge (l.getD i []) 10
      generalize l.getD i [] = s at hg hsz hoe hst hout hge
      have e9 : decide (i + 1 = l.length) = false ↔ ¬ (i : Int) = l.length - 1 := by rw [decide_eq_false_iff_not]; omega
      simp -dsimp -implicitDefEqProofs only [hg, hi3, strRows_len, CIxF, ↓Ev.xStp_eq, ↓Ev.P, Ev.Q, Bool.cond_true, Bool.cond_false, eq_self, forall_eq_or_imp, implies_true, forall_const, forall_eq, ↓reduceIte, reduceIte, Nat.reduceEqDiff, Nat.reduceAdd, reduceCtorEq, Nat.reduceSub, Int.reduceToNat, Int.reduceLE, Int.reduceLT, Int.reduceNeg, Nat.reduceBEq, Nat.reduceMul, Nat.reduceLeDiff, Nat.reduceMod, UInt8.reduceOfNat, Nat.reduceLT, Int.reduceEq, Int.reduceAdd, Int.reduceSub, Int.reduceMul]
      repeat' (first | with_reducible assumption | refine And.intro ?_ ?_ | intro _)
      all_goals try omega
      · rename_i h
        have hb : okLine (decide (i + 1 = l.length)) s = false := Bool.eq_false_iff.2 fun h9 => hoe.1 h9 (h.imp id fun h => ⟨h.1, e9.2 h.2⟩)
        rw [hout hb] at hk; exact hk
      · rename_i h
        have hb : okLine (decide (i + 1 = l.length)) s = true := hoe.2 fun h9 => by
          obtain ⟨⟨a1, a2⟩, a3⟩ := h
          rcases h9 with (h9 | h9) | h9
          · exact a1 h9
          · rcases a2 with a2 | a2
            · exact a2 h9.1
            · exact h9.2 a2
          · rcases a3 with a3 | a3
            · exact a3 h9.1
            · exact e9.1 h9.2 a3
        refine xAgain_intro (l.length - (i + 1)) [] (by omega) (by simp -dsimp -implicitDefEqProofs only [↓Ev.xStp_eq, ↓Ev.P, Ev.Q, Bool.cond_true, Bool.cond_false, eq_self, forall_eq_or_imp, implies_true, forall_const, forall_eq, ↓reduceIte, reduceIte, Nat.reduceEqDiff, Nat.reduceAdd, reduceCtorEq, Nat.reduceSub, Int.reduceToNat, Int.reduceLE, Int.reduceLT, Int.reduceNeg, Nat.reduceBEq, Nat.reduceMul, Nat.reduceLeDiff, Nat.reduceMod, UInt8.reduceOfNat, Nat.reduceLT, Int.reduceEq, Int.reduceAdd, Int.reduceSub, Int.reduceMul]) ⟨i + 1, by omega, rfl, by rw [hst, hok, hb]; rfl, ?_⟩
        simp -dsimp -implicitDefEqProofs only [↓Ev.xStp_eq, ↓Ev.P, Ev.Q, Bool.cond_true, Bool.cond_false, eq_self, forall_eq_or_imp, implies_true, forall_const, forall_eq, ↓reduceIte, reduceIte, Nat.reduceEqDiff, Nat.reduceAdd, reduceCtorEq, Nat.reduceSub, Int.reduceToNat, Int.reduceLE, Int.reduceLT, Int.reduceNeg, Nat.reduceBEq, Nat.reduceMul, Nat.reduceLeDiff, Nat.reduceMod, UInt8.reduceOfNat, Nat.reduceLT, Int.reduceEq, Int.reduceAdd, Int.reduceSub, Int.reduceMul]
        rfl
    · have hi3 : ¬ (i : Int) < l.length := by omega
      obtain rfl : i = l.length := by omega
      rw [if_pos hok] at hk
      simp -dsimp -implicitDefEqProofs only [hi3, strRows_len, ↓Ev.xStp_eq, ↓Ev.P, Ev.Q, Bool.cond_true, Bool.cond_false, eq_self, forall_eq_or_imp, implies_true, forall_const, forall_eq, ↓reduceIte, reduceIte, Nat.reduceEqDiff, Nat.reduceAdd, reduceCtorEq, Nat.reduceSub, Int.reduceToNat, Int.reduceLE, Int.reduceLT, Int.reduceNeg, Nat.reduceBEq, Nat.reduceMul, Nat.reduceLeDiff, Nat.reduceMod, UInt8.reduceOfNat, Nat.reduceLT, Int.reduceEq, Int.reduceAdd, Int.reduceSub, Int.reduceMul]
      exact hk
theorem in_drop {s : List UInt8} {k : Nat} (hk : (k : Int) < (s.length : Int) - 1) (h : s.getD k 0 = 10) : s.dropLast.contains 10 = true := by
  have hm : (10 : UInt8) ∈ s.dropLast := by
    rw [List.dropLast_eq_take, ← h, List.getD_eq_getElem?_getD, List.getElem?_eq_getElem (by omega), Option.getD_some]
    exact List.mem_take_iff_getElem.2 ⟨k, by omega, rfl⟩
  simpa using hm
theorem no_drop {s : List UInt8} {k : Nat} (hk : (s.length : Int) - 1 ≤ k) (h : 10 ∉ s.take k) : s.dropLast.contains 10 = false := by
  have hm : (10 : UInt8) ∉ s.dropLast := fun hm => h (by
    rw [List.dropLast_eq_take] at hm
    exact List.take_subset_take_left s (by omega) hm)
  simpa using hm
end Go.Proofs.YtlghobefhmpfkaaDoor
/- The compiled code of functions, by program (gen.py): each theorem says that the loaded program compiles to it. -/
set_option linter.unusedVariables false
namespace Go.Proofs.YtlghobefhmpfkaaDoor
open Go Go.Ev
set_option maxRecDepth 100000

/-! 27: redline/num.Parse -/
def A27 : Ann := ⟨fun r i => if r = 1 ∧ i = 4 then 1 else 0, fun _ => none, fun r => if r = 1 then some (false, [0]) else if r = 6 then some (false, [0, 5, 21]) else if r = 8 then some (false, [0]) else if r = 9 then some (false, [6, 7]) else if r = 11 then some (false, [6]) else none, fun r => if r = 4 then [0, 21] else []⟩
def S27_0 : SCode :=
  (.ops [⟨none, (some 2), .mv 2 (.k (Value.int .i64 0)), false⟩,
    ⟨none, (some 3), .mv 3 (.k (Value.int .i64 0)), false⟩])
def S27_1 : SCode :=
  (.seq (.seq (.keep [0]) (.ops [⟨none, (some 8), .mv 8 (.s 0), false⟩,
    ⟨none, (some 9), .bin 9 .eql (.s 8) (.k (Value.string ⟨#[]⟩)), false⟩,
    ⟨none, (some 10), .mv 10 (.s 9), false⟩,
    ⟨(some (10, false)), (some 11), .mv 11 (.s 0), false⟩,
    ⟨(some (10, false)), (some 12), .lens 12 (.s 11), false⟩,
    ⟨(some (10, false)), (some 13), .bin 13 .gtr (.s 12) (.k (Value.int .i64 1)), false⟩,
    ⟨(some (10, false)), (some 14), .mv 14 (.s 13), false⟩,
    ⟨(some (14, true)), (some 15), .mv 15 (.s 0), false⟩,
    ⟨(some (14, true)), (some 16), .ixs 16 (.s 15) (.k (Value.int .i64 0)), false⟩,
    ⟨(some (14, true)), (some 17), .bin 17 .eql (.s 16) (.k (Value.int .u8 48)), true⟩,
    ⟨(some (10, false)), (some 18), .pk 18 (.s 14) (.s 17) (.k (Value.bool false)), false⟩,
    ⟨none, (some 19), .pk 19 (.s 10) (.k (Value.bool true)) (.s 18), false⟩]))
  (.cond (.s 19) (.seq (.ops [⟨none, (some 2), .mv 2 (.k (Value.int .i64 0)), false⟩,
    ⟨none, (some 3), .mv 3 (.k (Value.int .i64 3)), false⟩])
  .ret) .skip))
def S27_2 : SCode :=
  (.seq (.ops [⟨none, (some 20), .mv 20 (.s 0), false⟩,
    ⟨none, (some 21), .rg 21 (.s 20), false⟩])
  (.block 0 (.loop [0, 21] (.seq (.ops [⟨none, (some 22), .nx 22 (.s 21), false⟩,
    ⟨none, (some 23), .ex 23 (.s 22) 0, false⟩])
  (.seq (.cond (.s 23) .skip (.exit 0))
  (.block 1 (.seq (.ops [⟨none, (some 24), .ex 24 (.s 22) 2, false⟩,
    ⟨none, (some 5), .mv 5 (.s 24), false⟩])
  (.seq (.seq (.keep [0, 5, 21]) (.ops [⟨none, (some 25), .mv 25 (.s 5), false⟩,
    ⟨none, (some 26), .bin 26 .lss (.s 25) (.k (Value.int .i32 48)), false⟩,
    ⟨none, (some 27), .mv 27 (.s 26), false⟩,
    ⟨(some (27, false)), (some 28), .mv 28 (.s 5), false⟩,
    ⟨(some (27, false)), (some 29), .bin 29 .gtr (.s 28) (.k (Value.int .i32 57)), false⟩,
    ⟨none, (some 30), .pk 30 (.s 27) (.k (Value.bool true)) (.s 29), false⟩]))
  (.cond (.s 30) (.seq (.ops [⟨none, (some 2), .mv 2 (.k (Value.int .i64 0)), false⟩,
    ⟨none, (some 3), .mv 3 (.k (Value.int .i64 3)), false⟩])
  .ret) .skip)))))))))
def S27_3 : SCode :=
  (.seq (.keep [0]) (.ops [⟨none, (some 32), .mv 32 (.s 0), false⟩,
    ⟨none, (some 33), .call (some 33) 38 false [(.s 32)], false⟩,
    ⟨none, (some 31), .mv 31 (.s 33), false⟩,
    ⟨none, (some 34), .ex 34 (.s 31) 0, false⟩,
    ⟨none, (some 35), .ex 35 (.s 31) 1, false⟩,
    ⟨none, (some 6), .mv 6 (.s 34), false⟩,
    ⟨none, (some 7), .mv 7 (.s 35), false⟩]))
def S27_4 : SCode :=
  (.seq (.seq (.keep [6, 7]) (.ops [⟨none, (some 36), .mv 36 (.s 7), false⟩,
    ⟨none, (some 37), .isnil 37 true true (.s 36), false⟩,
    ⟨none, (some 38), .mv 38 (.s 37), false⟩,
    ⟨(some (38, false)), (some 39), .mv 39 (.s 6), false⟩,
    ⟨(some (38, false)), (some 40), .bin 40 .gtr (.s 39) (.k (Value.int .i64 2147483647)), false⟩,
    ⟨none, (some 41), .pk 41 (.s 38) (.k (Value.bool true)) (.s 40), false⟩]))
  (.cond (.s 41) (.seq (.ops [⟨none, (some 2), .mv 2 (.k (Value.int .i64 0)), false⟩,
    ⟨none, (some 3), .mv 3 (.k (Value.int .i64 2)), false⟩])
  .ret) .skip))
def S27_5 : SCode :=
  (.seq (.keep [6]) (.ops [⟨none, (some 42), .mv 42 (.s 6), false⟩,
    ⟨none, (some 2), .mv 2 (.s 42), false⟩,
    ⟨none, (some 3), .mv 3 (.k (Value.int .i64 0)), false⟩]))
def S27r6 : SCode := .ret
def S27r5 : SCode := .seq S27_5 S27r6
def S27r4 : SCode := .seq S27_4 S27r5
def S27r3 : SCode := .seq S27_3 S27r4
def S27r2 : SCode := .seq S27_2 S27r3
def S27r1 : SCode := .seq S27_1 S27r2
def S27 : SCode := .seq S27_0 S27r1
theorem cc27 : (Tryd.f27.body).bind (cc Tryd.prog Tryd.f27.ntmps A27) = some S27 := by kernel_rfl
def R27 : List RR := [.sl 2, .sl 3]
theorem cr27 : Tryd.f27.results.toList.map (crr Tryd.prog) = R27.map some := by kernel_rfl
theorem nm27 : (Tryd.f27.name == "runtime.NumGoroutine") = false := by kernel_rfl
theorem fn27 : Tryd.prog.funcs[27]? = some Tryd.f27 := by kernel_rfl
theorem bd27 : ∃ b, Tryd.f27.body = some b ∧ cc Tryd.prog Tryd.f27.ntmps A27 b = some S27 := Option.bind_eq_some_iff.1 cc27
theorem sd27 {G : World → Prop} {T : FuncId → Contract} {C : Contract} (hT : ∀ f, Sound G Tryd.prog f (T f)) (hl : C.lawful) (hC : ∀ args st K, C.wp args st K → args.length ≤ 43 ∧ ∃ os op, xv T st.n S27 (st0 args st) (retK R27 st.n os K) (panK st.n op K)) (hit : SoundIt G Tryd.prog 27 C.it := by exact SoundIt.none) : Sound G Tryd.prog 27 C := by
  obtain ⟨b, hb, hc⟩ := bd27
  rw [xv_eq] at hC
  exact sound_of_ev mo fn27 hb nm27 hc cr27 hT hl hit hC

end Go.Proofs.YtlghobefhmpfkaaDoor
/-
  DERIVED: THE SHELF's CONTRACTS AT THIS DUMP, IN PLAIN WORDS (tools/lay-plain.mjs out of 'TrydShelfPart.lean', which tools/lay-shelf.mjs wrote): THE SAME DECLARATIONS UNDER THE SAME NAMES: 'import', 'namespace', 'open', 'def', 'theorem' AND NOTHING ELSE: no command of the shelf's: FOR A HAND-IN. Each laying: the table of numbers ('.._ren') and one theorem, a field a fact of the dump's own or the kernel's comparison; each contract: ONE APPLICATION.
-/
namespace Go.Proofs
open Go.Shelf
def Tryd.laysC172_ren : Go.Shelf.Ren := ⟨fun | 172 => 38 | 244 => 48 | 245 => 49 | 247 => 57 | 279 => 58 | 280 => 59 | 281 => 60 | 282 => 61 | 287 => 68 | 316 => 69 | 171 => 32 | 205 => 70 | 321 => 76 | 322 => 77 | 243 => 42 | 246 => 54 | 283 => 64 | 284 => 65 | 285 => 66 | 286 => 67 | 129 => 72 | 317 => 71 | 318 => 73 | 319 => 74 | 320 => 75 | 337 => 78 | 338 => 79 | n => n, fun | 9 => 9 | 3 => 3 | 75 => 26 | 76 => 58 | 4 => 4 | 5 => 5 | 167 => 90 | 37 => 55 | 0 => 0 | 85 => 91 | 2 => 2 | 168 => 93 | 53 => 52 | 175 => 108 | 46 => 87 | 210 => 112 | 127 => 76 | 145 => 122 | 143 => 120 | 21 => 21 | 171 => 99 | 173 => 102 | 212 => 115 | 51 => 96 | 20 => 20 | 213 => 116 | 232 => 124 | 233 => 125 | 80 => 60 | n => n, fun | 15 => 3 | 16 => 4 | 17 => 5 | 18 => 6 | 19 => 7 | n => n⟩
theorem Tryd.laysC172 : Go.Proofs.LaysC.n172 Tryd.prog Tryd.laysC172_ren := {
  mixed := by kernel_rfl
  f129 := Tryd.func72.trans (congrArg some (by kernel_rfl))
  f171 := Tryd.func32.trans (congrArg some (by kernel_rfl))
  f172 := Tryd.func38.trans (congrArg some (by kernel_rfl))
  f205 := Tryd.func70.trans (congrArg some (by kernel_rfl))
  f243 := Tryd.func42.trans (congrArg some (by kernel_rfl))
  f244 := Tryd.func48.trans (congrArg some (by kernel_rfl))
  f245 := Tryd.func49.trans (congrArg some (by kernel_rfl))
  f246 := Tryd.func54.trans (congrArg some (by kernel_rfl))
  f247 := Tryd.func57.trans (congrArg some (by kernel_rfl))
  f279 := Tryd.func58.trans (congrArg some (by kernel_rfl))
  f280 := Tryd.func59.trans (congrArg some (by kernel_rfl))
  f281 := Tryd.func60.trans (congrArg some (by kernel_rfl))
  f282 := Tryd.func61.trans (congrArg some (by kernel_rfl))
  f283 := Tryd.func64.trans (congrArg some (by kernel_rfl))
  f284 := Tryd.func65.trans (congrArg some (by kernel_rfl))
  f285 := Tryd.func66.trans (congrArg some (by kernel_rfl))
  f286 := Tryd.func67.trans (congrArg some (by kernel_rfl))
  f287 := Tryd.func68.trans (congrArg some (by kernel_rfl))
  f316 := Tryd.func69.trans (congrArg some (by kernel_rfl))
  f317 := Tryd.func71.trans (congrArg some (by kernel_rfl))
  f318 := Tryd.func73.trans (congrArg some (by kernel_rfl))
  f319 := Tryd.func74.trans (congrArg some (by kernel_rfl))
  f320 := Tryd.func75.trans (congrArg some (by kernel_rfl))
  f321 := Tryd.func76.trans (congrArg some (by kernel_rfl))
  f322 := Tryd.func77.trans (congrArg some (by kernel_rfl))
  f337 := Tryd.func78.trans (congrArg some (by kernel_rfl))
  f338 := Tryd.func79.trans (congrArg some (by kernel_rfl))
  t0 := Tryd.underlying0
  a0 := Tryd.isAgg0
  z0 := Tryd.sizeOf0
  v0 := Tryd.zeroValue0
  t2 := Tryd.underlying2
  a2 := Tryd.isAgg2
  z2 := Tryd.sizeOf2
  v2 := Tryd.zeroValue2
  t3 := Tryd.underlying3
  a3 := Tryd.isAgg3
  z3 := Tryd.sizeOf3
  v3 := Tryd.zeroValue3
  t4 := Tryd.underlying4
  a4 := Tryd.isAgg4
  z4 := Tryd.sizeOf4
  v4 := Tryd.zeroValue4
  t5 := Tryd.underlying5
  a5 := Tryd.isAgg5
  z5 := Tryd.sizeOf5
  v5 := Tryd.zeroValue5
  t9 := Tryd.underlying9
  a9 := Tryd.isAgg9
  z9 := Tryd.sizeOf9
  v9 := Tryd.zeroValue9
  t20 := Tryd.underlying20
  a20 := Tryd.isAgg20
  z20 := Tryd.sizeOf20
  v20 := Tryd.zeroValue20
  t21 := Tryd.underlying21
  a21 := Tryd.isAgg21
  z21 := Tryd.sizeOf21
  v21 := Tryd.zeroValue21
  t37 := Tryd.underlying55
  a37 := Tryd.isAgg55
  z37 := Tryd.sizeOf55
  v37 := Tryd.zeroValue55
  t46 := Tryd.underlying87
  a46 := Tryd.isAgg87
  z46 := Tryd.sizeOf87
  v46 := Tryd.zeroValue87
  t51 := Tryd.underlying96
  a51 := Tryd.isAgg96
  z51 := Tryd.sizeOf96
  v51 := Tryd.zeroValue96
  t53 := Tryd.underlying52
  a53 := Tryd.isAgg52
  z53 := Tryd.sizeOf52
  v53 := Tryd.zeroValue52
  t75 := Tryd.underlying26
  a75 := Tryd.isAgg26
  z75 := Tryd.sizeOf26
  v75 := Tryd.zeroValue26
  t76 := Tryd.underlying58
  a76 := Tryd.isAgg58
  z76 := Tryd.sizeOf58
  v76 := Tryd.zeroValue58
  t85 := Tryd.underlying91
  a85 := Tryd.isAgg91
  z85 := Tryd.sizeOf91
  v85 := Tryd.zeroValue91
  t127 := Tryd.underlying76
  a127 := Tryd.isAgg76
  z127 := Tryd.sizeOf76
  v127 := Tryd.zeroValue76
  t143 := Tryd.underlying120
  a143 := Tryd.isAgg120
  z143 := Tryd.sizeOf120
  v143 := Tryd.zeroValue120
  t145 := Tryd.underlying122
  a145 := Tryd.isAgg122
  z145 := Tryd.sizeOf122
  v145 := Tryd.zeroValue122
  t167 := Tryd.underlying90
  a167 := Tryd.isAgg90
  z167 := Tryd.sizeOf90
  v167 := Tryd.zeroValue90
  t168 := Tryd.underlying93
  a168 := Tryd.isAgg93
  z168 := Tryd.sizeOf93
  v168 := Tryd.zeroValue93
  t171 := Tryd.underlying99
  a171 := Tryd.isAgg99
  z171 := Tryd.sizeOf99
  v171 := Tryd.zeroValue99
  t173 := Tryd.underlying102
  a173 := Tryd.isAgg102
  z173 := Tryd.sizeOf102
  v173 := Tryd.zeroValue102
  t175 := Tryd.underlying108
  a175 := Tryd.isAgg108
  z175 := Tryd.sizeOf108
  v175 := Tryd.zeroValue108
  t210 := Tryd.underlying112
  a210 := Tryd.isAgg112
  z210 := Tryd.sizeOf112
  v210 := Tryd.zeroValue112
  t212 := Tryd.underlying115
  a212 := Tryd.isAgg115
  z212 := Tryd.sizeOf115
  v212 := Tryd.zeroValue115
  t213 := Tryd.underlying116
  a213 := Tryd.isAgg116
  z213 := Tryd.sizeOf116
  t232 := Tryd.underlying124
  a232 := Tryd.isAgg124
  z232 := Tryd.sizeOf124
  v232 := Tryd.zeroValue124
  t233 := Tryd.underlying125
  a233 := Tryd.isAgg125
  z233 := Tryd.sizeOf125
  v233 := Tryd.zeroValue125
  g15 := by kernel_rfl
  g16 := by kernel_rfl
  g17 := by kernel_rfl
  g18 := by kernel_rfl
  g19 := by kernel_rfl
  t80 := Tryd.underlying60
  a80 := Tryd.isAgg60
  z80 := Tryd.sizeOf60
  v80 := Tryd.zeroValue60
  i0 := by kernel_rfl
  i2 := by kernel_rfl
  i3 := by kernel_rfl
  i4 := by kernel_rfl
  i5 := by kernel_rfl
  i9 := by kernel_rfl
  i20 := by kernel_rfl
  i21 := by kernel_rfl
  i37 := by kernel_rfl
  i46 := by kernel_rfl
  i51 := by kernel_rfl
  i53 := by kernel_rfl
  i75 := by kernel_rfl
  i76 := by kernel_rfl
  i80 := by kernel_rfl
  i85 := by kernel_rfl
  i127 := by kernel_rfl
  i143 := by kernel_rfl
  i145 := by kernel_rfl
  i167 := by kernel_rfl
  i168 := by kernel_rfl
  i171 := by kernel_rfl
  i173 := by kernel_rfl
  i175 := by kernel_rfl
  i210 := by kernel_rfl
  i212 := by kernel_rfl
  i232 := by kernel_rfl
  i233 := by kernel_rfl
  m15 := by kernel_rfl
  m16 := by kernel_rfl
  m17 := by kernel_rfl
  m18 := by kernel_rfl
  m19 := by kernel_rfl
  c0 := by kernel_rfl
  c2 := by kernel_rfl
  c3 := by kernel_rfl
  c4 := by kernel_rfl
  c5 := by kernel_rfl
  c9 := by kernel_rfl
  c20 := by kernel_rfl
  c21 := by kernel_rfl
  c37 := by kernel_rfl
  c46 := by kernel_rfl
  c51 := by kernel_rfl
  c53 := by kernel_rfl
  c75 := by kernel_rfl
  c76 := by kernel_rfl
  c80 := by kernel_rfl
  c85 := by kernel_rfl
  c127 := by kernel_rfl
  c143 := by kernel_rfl
  c145 := by kernel_rfl
  c167 := by kernel_rfl
  c168 := by kernel_rfl
  c171 := by kernel_rfl
  c173 := by kernel_rfl
  c175 := by kernel_rfl
  c210 := by kernel_rfl
  c212 := by kernel_rfl
  c213 := by kernel_rfl
  c232 := by kernel_rfl
  c233 := by kernel_rfl }
open Go.RowKit in
/-- strconv.Atoi, AT EVERY STRING THAT SPELLS AN int ('Lib.atoiAll .. = .ok v'; of whatever length: leading zeros count): v, AND NO ERROR. The world: as it was, or with the one new row that '[]byte(..)' lays. (LAID: no walk: one application.) -/
theorem Tryd.strconv_Atoi_ok (s : ByteArray) (hmax : s.size ≤ 9223372036854775806) (v : Int) (h : Lib.atoiAll s.data.toList = .ok v) (w : World) :
    Calls Tryd.prog 38 #[.string s] w fun e w' => e = .returned (.tuple #[.int .i64 v, .nilIface]) ∧ (w' = w ∨ ∃ t, w' = Lib.bytesWorld w 5 t) := Any.strconv_Atoi_ok Tryd.laysC172 s hmax v h w
open Go.RowKit in
theorem Tryd.strconv_Atoi_range_var (s : ByteArray) (hlim : s.size ≤ 281474976710656) (h : Lib.atoiAll s.data.toList = .range) (tp : TypeId) (p : Value) (w : World) (hvar : w.var? Tryd.prog "strconv.ErrRange" = some #[.iface tp p]) :
    Calls Tryd.prog 38 #[.string s] w fun e w' => ∃ N, e = .returned (.tuple #[.int .i64 (Lib.atoiSat s.data.toList), .iface 93 (.pointer (some ⟨N, 0, none⟩))]) ∧ w.heap.size ≤ N ∧ w'.heap[N]? = some (.cells #[.string ⟨#[65, 116, 111, 105]⟩, .string s, .iface tp p] 112 (0, 0)) ∧ Below w.heap.size w w' := Any.strconv_Atoi_range_var Tryd.laysC172 s hlim h tp p w hvar
end Go.Proofs
set_option linter.unusedVariables false
set_option linter.unusedSimpArgs false
namespace Go.Proofs.YtlghobefhmpfkaaDoor
open Go Go.Ev
set_option maxRecDepth 100000
variable {G : World → Prop}
/-- Digits. -/
def dig (c : UInt8) : Bool := decide (48 ≤ (c.toNat : Int)) && decide ((c.toNat : Int) ≤ 57)
def valT (l : List UInt8) : Nat := l.foldl (fun n c => n * 10 + (c.toNat - 48)) 0
theorem val_app (l : List UInt8) (c : UInt8) : valT (l ++ [c]) = valT l * 10 + (c.toNat - 48) := by simp [valT]
theorem val_snoc {l : List UInt8} {i : Nat} (h : i < l.length) : valT (l.take (i + 1)) = valT (l.take i) * 10 + ((l.getD i 0).toNat - 48) := by
  rw [List.take_succ_eq_append_getElem h, val_app]
  simp [List.getD_eq_getElem?_getD, List.getElem?_eq_getElem h]
theorem all_take {l : List UInt8} {i : Nat} (h : i < l.length) : (l.take (i + 1)).all dig = ((l.take i).all dig && dig (l.getD i 0)) := by
  rw [List.take_succ_eq_append_getElem h, List.all_append]
  simp [List.getD_eq_getElem?_getD, List.getElem?_eq_getElem h]
theorem not_all {l : List UInt8} {i : Nat} (h : i < l.length) (hd : dig (l.getD i 0) = false) : l.all dig = false := by
  rw [List.all_eq_false]
  exact ⟨l.getD i 0, by simp [List.getD_eq_getElem?_getD, List.getElem?_eq_getElem h], by rw [hd]; decide⟩
/-- Numbers are read. -/
def badP (l : List UInt8) : Prop := l = [] ∨ (1 < l.length ∧ l.getD 0 0 = 48)
instance (l : List UInt8) : Decidable (badP l) := by unfold badP; infer_instance
def parseS (l : List UInt8) : Int × Int := if badP l then (0, 3) else if l.all dig = false then (0, 3) else if 2147483647 < valT l then (0, 2) else (valT l, 0)
def CParse : Contract := pureC fun args => match args with
  | [.d (.v (.string s))] => some (s.size ≤ 1099511627776, .tup [.d (.v (.int .i64 (parseS s.data.toList).1)), .d (.v (.int .i64 (parseS s.data.toList).2))])
  | _ => none
def valA (a : Nat) (l : List UInt8) : Nat := l.foldl (fun n c => n * 10 + (c.toNat - 48)) a
theorem valA_le : ∀ (l : List UInt8) (a : Nat), a ≤ valA a l
  | [], a => Nat.le_refl _
  | c :: l, a => Nat.le_trans (by omega) (valA_le l (a * 10 + (c.toNat - 48)))
theorem dig_nat {c : UInt8} (h : dig c = true) : 48 ≤ c.toNat ∧ c.toNat ≤ 57 := by
  simp only [dig, Bool.and_eq_true, decide_eq_true_eq] at h; omega
theorem pu10 : ∀ (l : List UInt8) (a : Nat), l.all dig = true → a < 18446744073709551616 → Lib.parseUint10 a l = if 18446744073709551616 ≤ valA a l then .range else .ok (valA a l)
  | [], a, _, ha => by simp only [Lib.parseUint10, valA, List.foldl_nil]; exact (if_neg (Nat.not_le.2 ha)).symm
  | c :: l, a, h, ha => by
    simp only [List.all_cons, Bool.and_eq_true] at h
    obtain ⟨h1, h2⟩ := dig_nat h.1
    have hle := valA_le l (a * 10 + (c.toNat - 48))
    have e : valA a (c :: l) = valA (a * 10 + (c.toNat - 48)) l := rfl
    rw [Lib.parseUint10, if_pos ⟨h1, h2⟩, e]
    by_cases k1 : 1844674407370955162 ≤ a
    · rw [if_pos k1, if_pos (by omega)]
    · rw [if_neg k1]
      by_cases k2 : 18446744073709551616 ≤ a * 10 + (c.toNat - 48)
      · rw [if_pos k2, if_pos (by omega)]
      · rw [if_neg k2, pu10 l _ h.2 (by omega)]
theorem atoi_dig {l : List UInt8} (hne : l ≠ []) (h : l.all dig = true) : Lib.atoiAll l = if 9223372036854775808 ≤ valT l then .range else .ok (valT l) := by
  cases l with
  | nil => exact absurd rfl hne
  | cons c r =>
    have hd := dig_nat (List.all_eq_true.1 h c (by simp))
    have hp := pu10 (c :: r) 0 h (by omega)
    have e : valA 0 (c :: r) = valT (c :: r) := rfl
    rw [e] at hp
    simp only [Lib.atoiAll]
    rw [if_neg (by omega), Lib.parseMag, if_neg (by simp), hp]
    by_cases k : 18446744073709551616 ≤ valT (c :: r)
    · rw [if_pos k, if_pos (by omega)]
    · rw [if_neg k]
      simp only
      by_cases k2 : 9223372036854775808 ≤ valT (c :: r)
      · rw [if_pos ⟨by omega, k2⟩, if_pos k2]
      · rw [if_neg (by omega), if_neg (by omega), if_neg k2, if_neg (by omega)]
theorem sat_dig {l : List UInt8} (h : l.all dig = true) : Lib.atoiSat l = 9223372036854775807 := by
  unfold Lib.atoiSat
  cases l with
  | nil => simp
  | cons c r =>
    have hd := dig_nat (List.all_eq_true.1 h c (by simp))
    simp only [List.head?_cons, Option.map_some, Option.some.injEq]
    rw [if_neg (by omega)]
/-- What strconv.Atoi reads beside its tables. -/
def ErrR (w : World) : Prop := ∃ tp p, w.var? Tryd.prog "strconv.ErrRange" = some #[.iface tp p]
def CAtoi : Contract := pureC fun args => match args with
  | [.d (.v (.string s))] => some (s.size ≤ 1099511627776 ∧ s.data.toList ≠ [] ∧ s.data.toList.all dig = true, .tup [.d (.v (.int .i64 (if 9223372036854775808 ≤ valT s.data.toList then 9223372036854775807 else valT s.data.toList))), .d (if 9223372036854775808 ≤ valT s.data.toList then .ifc 93 (.pt []) else .v .nilIface)])
  | _ => none
theorem sAtoi (hG : ∀ w, G w → ErrR w) : Sound G Tryd.prog 38 CAtoi := by
  refine sound_lib2 ⟨Tryd.f38, by kernel_rfl, by kernel_rfl, by kernel_rfl⟩ fun args p x h hp => ?_
  split at h <;> simp only [Option.some.injEq, Prod.mk.injEq, reduceCtorEq] at h
  obtain ⟨rfl, rfl⟩ := h
  rename_i s
  obtain ⟨h1, h2, h3⟩ := hp
  intro w hw m c vs hc hv
  match vs, hv with
  | [a], hv =>
    simp only [CnL, and_true] at hv
    rw [of_v hv]
    have hA := atoi_dig h2 h3
    by_cases k : 9223372036854775808 ≤ valT s.data.toList
    · rw [if_pos k] at hA
      obtain ⟨tp, p, he⟩ := hG w hw
      refine (Tryd.strconv_Atoi_range_var s (by omega) hA tp p w he).mono ?_
      rintro e w' ⟨N, rfl, _, _, hB⟩
      refine ⟨⟨_, rfl, fun m n c => ?_⟩, hB⟩
      rw [if_pos k, if_pos k, sat_dig h3]
      simp [Cn, CnL, Rd, RdCells, Value.oneCell']
    · rw [if_neg k] at hA
      refine (Tryd.strconv_Atoi_ok s (by omega) _ hA w).mono ?_
      rintro e w' ⟨rfl, hB⟩
      refine ⟨⟨_, rfl, fun m n c => ?_⟩, ?_⟩
      · rw [if_neg k, if_neg k]
        simp [Cn, CnL, Rd, Value.oneCell']
      · rcases hB with rfl | ⟨t, rfl⟩
        · exact RowKit.Below.refl _ _
        · exact Lib.bytesWorld_below w _ t
  | [], hv => simp [CnL] at hv
  | _ :: _ :: _, hv => simp [CnL] at hv
end Go.Proofs.YtlghobefhmpfkaaDoor
set_option linter.unusedVariables false
set_option linter.unusedSimpArgs false
namespace Go.Proofs.YtlghobefhmpfkaaDoor
open Go Go.Ev
set_option maxRecDepth 100000
variable {G : World → Prop}
def capN (n : Nat) : Nat := if 2147483648 < n then 2147483648 else n
theorem cap_step (n d : Nat) : capN (n * 10 + d) = if 2147483648 < capN n * 10 + d then 2147483648 else capN n * 10 + d := by
  unfold capN; (repeat' split) <;> first | rfl | omega
theorem cap_le (n : Nat) : capN n ≤ 2147483648 := by unfold capN; split <;> omega
theorem u8s (c : Nat) (h : 48 ≤ c ∧ c ≤ 57) : IntKind.u8.wrap ((c : Int) - 48) = ((c - 48 : Nat) : Int) := by
  simp only [IntKind.wrap, IntKind.bits, IntKind.signed]
  simp
  omega
theorem i64n (c : Nat) (h : c ≤ 1000) : IntKind.i64.wrap (c : Int) = (c : Int) := wrap64 _ (by omega) (by omega)
theorem bad_head {l : List UInt8} (h : badP l) : (decide ((l.length : Int) = 0) || (decide (1 < (l.length : Int)) && decide (((l.getD 0 0).toNat : Int) = 48))) = true := by
  rcases h with rfl | ⟨h1, h2⟩
  · rfl
  · rw [h2]; simp; right; omega
theorem bad_not {l : List UInt8} (h : ¬ badP l) : (0 < l.length) ∧ ¬ (1 < (l.length : Int) ∧ ((l.getD 0 0).toNat : Int) = 48) := by
  refine ⟨?_, fun ⟨h1, h2⟩ => h (.inr ⟨by omega, UInt8.toNat_inj.1 (by show _ = 48; omega)⟩)⟩
  cases l with
  | nil => exact absurd (.inl rfl) h
  | cons => simp
end Go.Proofs.YtlghobefhmpfkaaDoor
