/- The evaluator is sound: code, functions. -/
import Derived.Test.YtpbkdcfjlbdgfaaDoorEvM
set_option linter.unusedVariables false
set_option linter.unusedSimpArgs false
namespace Go.Ev
open Go

section
variable {G : World → Prop} {H : Hd G} {N : Nat} {P : Program} {T : FuncId → Contract}
variable {w0 : World} {m0 : Nat → Value} {B0 : Nat → Nat → Prop} {s0 : Store}

/-- A loop, by a number that each round lowers. -/
theorem wp_loop_I {Q : Exit → Act → World → Prop} {c : Code} (I : Nat → Act → World → Prop) (round : ∀ n a w, I n a w → c.wp P (Exit.then (fun a' w' => ∃ k, k < n ∧ I k a' w') Q) a w) {n : Nat} {a : Act} {w : World} (h : I n a w) : (Code.loop c).wp P Q a w := by
  intro b k cs
  have key : ∀ n a w, I n a w → ∃ e a' w', Q e a' w' ∧ Arrives P (lone (b.at a (.code c :: .inLoop c :: k)) cs w) b k cs e a' w' := by
    intro n
    induction n using Nat.strongRecOn with
    | _ n ih =>
      intro a w h
      obtain ⟨e, a₁, w₁, hq, harr⟩ := round n a w h b (.inLoop c :: k) cs
      cases e with
      | normal =>
        obtain ⟨j, hj, hq⟩ := hq
        obtain ⟨e₂, a₂, w₂, hq₂, harr₂⟩ := ih j hj a₁ w₁ hq
        exact ⟨e₂, a₂, w₂, hq₂, .of_steps (Steps.trans harr (.one step_inLoop)) harr₂⟩
      | exit id => exact ⟨_, a₁, w₁, hq, .pass (x := .inLoop c) rfl (fun _ _ => .inl (by simp)) harr⟩
      | goto l => exact ⟨_, a₁, w₁, hq, .pass (x := .inLoop c) rfl (fun _ _ => .inl (by simp)) harr⟩
      | ret => exact ⟨_, a₁, w₁, hq, .pass (x := .inLoop c) rfl (fun _ _ => .inl (by simp)) harr⟩
      | panic ch => exact ⟨_, a₁, w₁, hq, .pass (x := .inLoop c) rfl (fun _ _ => .inl (by simp)) harr⟩
      | outgrown => exact ⟨_, a₁, w₁, hq, .pass (x := .inLoop c) rfl (fun _ _ => .inl (by simp)) harr⟩
  obtain ⟨e, a', w', hq, harr⟩ := key n a w h
  exact ⟨e, a', w', hq, .of_steps (.one step_loop) harr⟩

/-- A store, but for objects that are given up, in new numbers. -/
theorem sub_ok {w : World} {m : Nat → Value} {B : Nat → Nat → Prop} {st : St} (h : SOk H w m B st.store) (hS : Since w0 m0 B0 s0 w m B st.store) {os : List Nat} (hnd : os.Nodup) (hex : ∀ o ∈ os, (lk st.ob o).isSome = true) (h0 : os.take s0.n = List.range s0.n) :
    ∃ mL BL, SOk H w mL BL (st.sub os) ∧ Since w0 m0 B0 s0 w mL BL (st.sub os) ∧ (∀ o i, os.idxOf? o = some i → o < st.n → i < (st.sub os).n ∧ mL i = m o) ∧ ∀ a u, vw H w B st.ob a u → vw H w BL (st.sub os).ob a u := by
  have hlt : ∀ (i o : Nat), os[i]? = some o → i < os.length ∧ o < st.n := by
    intro i o hi
    refine ⟨(List.getElem?_eq_some_iff.1 hi).1, ?_⟩
    obtain ⟨x, hx⟩ := Option.isSome_iff_exists.1 (hex o (List.mem_of_getElem? hi))
    exact h.lt o x hx
  have hgetD : ∀ (i o : Nat), os[i]? = some o → os.getD i 0 = o := fun i o hi => by simp [List.getD, hi]
  let mL : Nat → Value := fun i => m (os.getD i 0)
  let BL : Nat → Nat → Prop := fun i => B (os.getD i 0)
  let sL : Store := st.sub os
  have hsub : ∀ (i : Nat) (y : Ob), lk sL.ob i = some y → ∃ (o : Nat) (x : Ob), os[i]? = some o ∧ lk st.ob o = some x ∧ y = x.ren (fun o => os.idxOf? o) := by
    intro i y hy
    obtain ⟨k, o, x, e1, e2, e3, e4⟩ := lk_subO hy
    rw [Nat.zero_add] at e1
    subst e1
    exact ⟨o, x, e2, e3, e4⟩
  have hownL : ∀ b, owns BL sL.ob b → owns B st.ob b := by
    rintro b ⟨i, y, h1, h2, h3⟩
    obtain ⟨o, x, e1, e2, rfl⟩ := hsub i y h1
    rw [Ob.has_ren] at h2
    simp only [BL, hgetD i o e1] at h3
    exact ⟨o, x, e2, h2, h3⟩
  have hvL : ∀ a u, vw H w B st.ob a u → vw H w BL sL.ob a u := fun a u hh => ⟨hh.1, fun h9 => hh.2.1 (hownL _ h9), hh.2.2⟩
  have hfL : ∀ o i, os.idxOf? o = some i → o < st.n → i < os.length ∧ mL i = m o := by
    intro o i hi _
    have := idxOf_get hi
    exact ⟨(hlt i o this).1, by simp only [mL, hgetD i o this]⟩
  have hlen : s0.n ≤ os.length := by
    have : (os.take s0.n).length = s0.n := by rw [h0, List.length_range]
    rw [List.length_take] at this
    omega
  have hid : ∀ i, i < s0.n → os[i]? = some i := by
    intro i hi
    have h1 : (os.take s0.n)[i]? = some i := by rw [h0, List.getElem?_range hi]
    rw [List.getElem?_take] at h1
    simpa [hi] using h1
  refine ⟨mL, BL, ⟨?_, ?_, ?_, ?_, h.hid, h.gw, ?_⟩, ⟨hS.os, hS.tape, hS.output, hS.size, hS.block, fun b hb => hS.own b (hownL b hb), hlen, fun o ho => ?_, fun o y b ho h1 h2 h3 => ?_⟩, hfL, hvL⟩
  · intro i y hy
    obtain ⟨o, x, e1, e2, rfl⟩ := hsub i y hy
    have := ObS_ren (n' := sL.n) (m' := mL) (i := i) hfL hvL (by simp only [mL, hgetD i o e1]) (h.obs o x e2)
    simp only [BL, hgetD i o e1]
    exact this
  · intro i y hy
    obtain ⟨o, x, e1, e2, rfl⟩ := hsub i y hy
    exact (hlt i o e1).1
  · intro i j y z hy hz hy' hz' hij b hb hb'
    obtain ⟨o, x, e1, e2, rfl⟩ := hsub i y hy
    obtain ⟨o', x', f1, f2, rfl⟩ := hsub j z hz
    rw [Ob.has_ren] at hy' hz'
    simp only [BL, hgetD i o e1] at hb
    simp only [BL, hgetD j o' f1] at hb'
    refine h.sep o o' x x' e2 f2 hy' hz' (fun e => ?_) b hb hb'
    subst e
    exact hij (nodup_get hnd e1 f1)
  · intro i y b hy hy' hb
    obtain ⟨o, x, e1, e2, rfl⟩ := hsub i y hy
    rw [Ob.has_ren] at hy'
    simp only [BL, hgetD i o e1] at hb
    exact h.blk o x b e2 hy' hb
  · intro i y b hy hy' hb
    obtain ⟨o, x, e1, e2, rfl⟩ := hsub i y hy
    rw [Ob.has_ren] at hy'
    simp only [BL, hgetD i o e1] at hb
    exact h.seph o x b e2 hy' hb
  · simp only [mL, hgetD o o (hid o ho)]; exact hS.m o ho
  · obtain ⟨o', x, e1, e2, rfl⟩ := hsub o y h1
    have : o' = o := by
      have := hid o ho
      rw [e1] at this
      simpa using this
    subst this
    rw [Ob.has_ren] at h2
    simp only [BL, hgetD o' o' e1] at h3
    exact hS.keep o' x b ho e2 h2 h3


/-- A state cut to some slots and objects. -/
theorem norm_ok {w : World} {m : Nat → Value} {B : Nat → Nat → Prop} {a : Act} {st : St} (h : Sat H N w m B a st) (hS : Since w0 m0 B0 s0 w m B st.store) {os ks : List Nat} (hn : normOk s0.n os st) :
    ∃ m' B', Sat H N w m' B' a (st.norm os ks) ∧ Since w0 m0 B0 s0 w m' B' (st.norm os ks).store := by
  obtain ⟨h1, h2, h3⟩ := hn
  obtain ⟨mL, BL, q1, q2, q3, q4⟩ := sub_ok h.store hS h1 h2 h3
  refine ⟨mL, BL, ⟨h.size, h.defers, fun k => ?_, q1⟩, q2⟩
  have key : ∀ ks : List Nat, Cn mL (st.norm os ks).n (vw H w BL (st.norm os ks).ob) ((lk (ks.map fun k => (k, (st.get k).ren fun o => os.idxOf? o)) k).getD .any) (a.tmps.getD k undef) := by
    intro ks
    induction ks with
    | nil => simp [lk, Cn]
    | cons j r ih =>
      simp only [List.map_cons, lk_cons]
      by_cases e : j = k
      · subst e
        simp only [if_true, Option.getD_some]
        exact Cn_ren q3 q4 _ _ (h.slots j)
      · simp only [e, if_false]; exact ih
  exact key ks

theorem keep_ok {w : World} {m : Nat → Value} {B : Nat → Nat → Prop} {a : Act} {st : St} (h : Sat H N w m B a st) {ks : List Nat} : Sat H N w m B a (st.keep ks) := by
  refine ⟨h.size, h.defers, fun k => ?_, h.store⟩
  have key : ∀ ks : List Nat, Cn m st.n (vw H w B st.ob) ((lk (ks.map fun k => (k, st.get k)) k).getD .any) (a.tmps.getD k undef) := by
    intro ks
    induction ks with
    | nil => simp [lk, Cn]
    | cons j r ih =>
      simp only [List.map_cons, lk_cons]
      by_cases e : j = k
      · subst e
        simp only [if_true, Option.getD_some]
        exact h.slots j
      · simp only [e, if_false]; exact ih
  exact key ks
theorem ev_ok (hm : P.follows .mixedOrders = true) (hT : ∀ f, Sound G P f (T f)) {A : Ann} :
    ∀ (c : Code) (s : SCode), cc P N A c = some s → ∀ (K : Ex → St → Prop) (Kp : SV → Store → Prop) (a : Act) (w : World) (m : Nat → Value) (B : Nat → Nat → Prop) (st : St),
      Sat H N w m B a st → Since w0 m0 B0 s0 w m B st.store → ev T s0.n s st K Kp → c.wp P (LiftE H N w0 m0 B0 s0 K Kp) a w
  | .skip, s, hc, K, Kp, a, w, m, B, st, h, hS, he => by
    simp only [cc, Option.some.injEq] at hc; subst hc
    exact wp_skip ⟨m, B, st, he, h, hS⟩
  | .region id ops false, s, hc, K, Kp, a, w, m, B, st, h, hS, he => by
    simp only [cc] at hc
    obtain ⟨gs, hg, rfl⟩ := Option.map_eq_some_iff.1 hc
    have go : ∀ m B st, Sat H N w m B a st → Since w0 m0 B0 s0 w m B st.store → evOps T gs st (K .normal) Kp → (Code.region id ops false).wp P (LiftE H N w0 m0 B0 s0 K Kp) a w := fun m B st h hS he => by
      refine wp_region ?_
      have := evOps_ok hT ops.toList 0 gs a w m B st hg (fun j o hj => by simpa using hj) h hS he
      rwa [Array.length_toList, ← List.range_eq_range'] at this
    unfold cutAt at he
    split at he
    · obtain ⟨os, hn, he⟩ := he
      obtain ⟨m', B', k1, k2⟩ := norm_ok h hS hn
      exact go m' B' _ k1 k2 he
    · exact go m B _ (keep_ok h) hS (stp_eq.mp he)
    · exact go m B st h hS he
  | .region id ops true, s, hc, K, Kp, a, w, m, B, st, h, hS, he => by
    simp only [cc] at hc
    obtain ⟨p, hp, hc⟩ := Option.bind_eq_some_iff.1 hc
    obtain ⟨h1, hc⟩ := Option.ite_none_right_eq_some.1 hc
    obtain ⟨gs, hg, rfl⟩ := Option.map_eq_some_iff.1 hc
    simp only [Bool.and_eq_true, beq_iff_eq] at h1
    obtain ⟨⟨h1, h2⟩, h3⟩ := h1
    have go : ∀ m B st, Sat H N w m B a st → Since w0 m0 B0 s0 w m B st.store → evDr T p.1 st.n gs st (K .normal) Kp → (Code.region id ops true).wp P (LiftE H N w0 m0 B0 s0 K Kp) a w := fun m B st h hS he => by
      have hd := h.drew (w.drawn + 1)
      have := evDr_ok (xo := p.1) (n0 := st.n) hT h1 p.2 (Array.replicate ops.size false) gs a { w with drawn := w.drawn + 1 } m B st hg h2 hd (hS.trans (Since.drew w m B st.store _)) (Nat.le_refl _) he
      rw [h3] at this
      exact wp_region_held hm this
    unfold cutAt at he
    split at he
    · obtain ⟨os, hn, he⟩ := he
      obtain ⟨m', B', k1, k2⟩ := norm_ok h hS hn
      exact go m' B' _ k1 k2 he
    · exact go m B _ (keep_ok h) hS (stp_eq.mp he)
    · exact go m B st h hS he
  | .seq x y, s, hc, K, Kp, a, w, m, B, st, h, hS, he => by
    simp only [cc] at hc
    obtain ⟨sx, hx, hc⟩ := Option.bind_eq_some_iff.1 hc
    obtain ⟨sy, hy, rfl⟩ := Option.map_eq_some_iff.1 hc
    refine wp_seq (wp_mono (ev_ok hm hT x sx hx _ Kp a w m B st h hS he) ?_)
    intro e a' w' hl
    cases e with
    | normal =>
      obtain ⟨m', B', st', k1, k2, k3⟩ := hl
      exact ev_ok hm hT y sy hy K Kp a' w' m' B' st' k2 k3 k1
    | exit id => exact hl
    | goto l => exact hl
    | ret => exact hl
    | panic ch => exact hl
    | outgrown => exact hl
  | .cond c x y, s, hc, K, Kp, a, w, m, B, st, h, hS, he => by
    simp only [cc] at hc
    obtain ⟨r, hr, hc⟩ := Option.bind_eq_some_iff.1 hc
    obtain ⟨sx, hx, hc⟩ := Option.bind_eq_some_iff.1 hc
    obtain ⟨sy, hy, rfl⟩ := Option.map_eq_some_iff.1 hc
    simp only [ev] at he
    have h1 := get_ok h hr
    split at he
    · rename_i b e
      rw [e] at h1
      exact wp_cond_split (of_v h1) (fun hb => ev_ok hm hT x sx hx K Kp a w m B st h hS (he.1 hb)) (fun hb => ev_ok hm hT y sy hy K Kp a w m B st h hS (he.2 hb))
    · exact he.elim
  | .block id x, s, hc, K, Kp, a, w, m, B, st, h, hS, he => by
    simp only [cc] at hc
    obtain ⟨sx, hx, rfl⟩ := Option.map_eq_some_iff.1 hc
    refine wp_block (wp_mono (ev_ok hm hT x sx hx _ Kp a w m B st h hS he) ?_)
    intro e a' w' hl
    cases e with
    | normal => exact hl
    | exit j =>
      obtain ⟨m', B', st', k1, k2⟩ := hl
      simp only [Exit.inBlock]
      simp only [blockK] at k1
      by_cases e : j = id
      · simp only [e, if_true] at k1 ⊢; exact ⟨m', B', st', k1, k2⟩
      · simp only [e, if_false] at k1 ⊢; exact ⟨m', B', st', k1, k2⟩
    | goto l => exact hl
    | ret => exact hl
    | panic ch => exact hl
    | outgrown => exact hl
  | .loop x, s, hc, K, Kp, a, w, m, B, st, h, hS, he => by
    simp only [cc] at hc
    obtain ⟨sx, hx, rfl⟩ := Option.map_eq_some_iff.1 hc
    simp only [ev, evLoop_eq] at he
    obtain ⟨I, n, os, hno, h0, hr⟩ := he
    obtain ⟨m1, B1, k1, k2⟩ := norm_ok h hS hno
    refine wp_loop_I (I := fun n a w => Lift H N w0 m0 B0 s0 (I n) a w) ?_ (n := n) ⟨m1, B1, _, h0, k1, k2⟩
    rintro n a w ⟨m, B, st, k1, k2, k3⟩
    refine wp_mono (ev_ok hm hT x sx hx _ Kp a w m B st k2 k3 (hr n st k1)) ?_
    intro e a' w' hl
    cases e with
    | normal =>
      obtain ⟨m', B', st', q0, q3, q4⟩ := hl
      obtain ⟨j, os, q1, q5, q2⟩ := again_eq.mp q0
      obtain ⟨m2, B2, z1, z2⟩ := norm_ok q3 q4 q5
      exact ⟨j, q1, m2, B2, _, q2, z1, z2⟩
    | exit id => exact hl
    | goto l => exact hl
    | ret => exact hl
    | panic ch => exact hl
    | outgrown => exact hl
  | .exit id, s, hc, K, Kp, a, w, m, B, st, h, hS, he => by
    simp only [cc, Option.some.injEq] at hc; subst hc
    exact wp_exit ⟨m, B, st, he, h, hS⟩
  | .ret, s, hc, K, Kp, a, w, m, B, st, h, hS, he => by
    simp only [cc, Option.some.injEq] at hc; subst hc
    exact wp_ret ⟨m, B, st, he, h, hS⟩
  | .rangeFunc _ _ _ _, s, hc, _, _, _, _, _, _, _, _, _, _ => by simp [cc] at hc
  | .scope _, s, hc, _, _, _, _, _, _, _, _, _, _ => by simp [cc] at hc
  | .label _, s, hc, _, _, _, _, _, _, _, _, _, _ => by simp [cc] at hc
  | .goto _, s, hc, _, _, _, _, _, _, _, _, _, _ => by simp [cc] at hc
  | .refuse _, s, hc, _, _, _, _, _, _, _, _, _, _ => by simp [cc] at hc

/-- What a function hands back: slots, or variables. -/
inductive RR where
  | sl (k : Nat)
  | ce (k : Nat) (agg : Bool) (n : Nat)
def crr (P : Program) : ResultVar → Option RR
  | .tmp t => some (.sl t)
  | .cell t ty => (ldT P ty).map fun p => .ce t p.1 p.2
def RR.get (st : St) : RR → Option SV
  | .sl i => some (st.get i)
  | .ce i agg n => match st.get i with
    | .ptr o k => match lk st.ob o with
      | some (.cells _ l) => if agg then (if k + n ≤ l.length then some (.agg ((l.drop k).take n)) else none) else l[k]?
      | _ => none
    | _ => none
def rrL (st : St) : List RR → Option (List SV)
  | [] => some []
  | r :: rs => (r.get st).bind fun x => (rrL st rs).map (x :: ·)
def retV : List SV → SV
  | [x] => x
  | l => .tup l

/-- A state's objects, but for those of a list given up. -/
def outK (n0 : Nat) (os : List Nat) (mk : SV → Out) (K : Out → Store → Prop) (l : List SV) (st : St) : Prop :=
  os.Nodup ∧ (∀ o ∈ os, (lk (st.giveL os l).2.ob o).isSome = true) ∧ os.take n0 = List.range n0 ∧
  K (mk (retV ((st.giveL os l).1.map (SV.ren fun o => os.idxOf? o)))) ((st.giveL os l).2.sub os)
def retK (rs : List RR) (n0 : Nat) (os : List Nat) (K : Out → Store → Prop) : Ex → St → Prop
  | .exit _, _ => False
  | _, st => need (rrL st rs) fun l => outK n0 os .ret K l st
def panK (n0 : Nat) (os : List Nat) (K : Out → Store → Prop) (x : SV) (s : Store) : Prop := outK n0 os .pan K [x] ⟨[], s.n, s.ob⟩

def rrRun (tmps : Array Value) : ResultVar → Sem Value
  | .tmp t => pure (tmps.getD t undef)
  | .cell i ty => do loadVar ty (← asAddr (tmps.getD i undef))
theorem results_eq (fn : Func) (tmps : Array Value) : results fn tmps = (fn.results.mapM (rrRun tmps) >>= fun vs => pure (if h : vs.size = 1 then vs[0] else .tuple vs)) := by
  unfold results
  congr 1
theorem rr_ok {w : World} {m : Nat → Value} {B : Nat → Nat → Prop} {a : Act} {st : St} (h : Sat H N w m B a st) {r : ResultVar} {q : RR} (hr : crr P r = some q) {x : SV} (hx : q.get st = some x) :
    ∃ v, (rrRun a.tmps r).run P w = .ok v w ∧ Cn m st.n (vw H w B st.ob) x v := by
  cases r with
  | tmp t =>
    simp only [crr, Option.some.injEq] at hr; subst hr
    simp only [RR.get, Option.some.injEq] at hx; subst hx
    exact ⟨_, rfl, h.slots t⟩
  | cell t ty =>
    simp only [crr, Option.map_eq_some_iff] at hr
    obtain ⟨⟨agg, n⟩, hp, rfl⟩ := hr
    simp only [RR.get] at hx
    split at hx
    · rename_i o k e
      have h1 := h.slots t
      rw [e] at h1
      simp only [Cn] at h1
      obtain ⟨h2, b, h3, ev⟩ := h1
      split at hx
      · rename_i t' l hl
        obtain ⟨cs, g1, g2, g3, _⟩ := obj_cells h.store hl h3
        have hcl := CnL_length g2
        cases agg with
        | true =>
          simp only [if_true] at hx
          obtain ⟨hn, hx⟩ := Option.ite_none_right_eq_some.1 hx
          simp only [Option.some.injEq] at hx; subst hx
          have hv := run_ld_agg (w := w) hp (ad := ⟨b, k, none⟩) (vs := (cs.toList.drop k).take n) (by rw [List.length_take, List.length_drop]; omega) (fun j v hj => by
            rw [List.getElem?_take] at hj
            split at hj
            · rw [List.getElem?_drop] at hj
              rw [add0, cell_at g1]; simpa using hj
            · cases hj)
          refine ⟨.agg ((cs.toList.drop k).take n).toArray, ?_, ?_⟩
          · simp only [rrRun, Sem.run_bind, ev, asAddr, Sem.run_pure, Result.andThen_ok, hv]
          · simp only [Cn]
            exact ⟨_, rfl, CnL_sub g2 k n, fun y hy => g3 y (List.mem_of_mem_drop (List.mem_of_mem_take (by simpa using hy)))⟩
        | false =>
          simp only [Bool.false_eq_true, if_false] at hx
          obtain ⟨v, hv, hy⟩ := CnL_get g2 hx
          have : w.cell? ⟨b, k, none⟩ = some v := by rw [cell_at g1]; simpa using hv
          exact ⟨v, by simp only [rrRun, Sem.run_bind, ev, asAddr, Sem.run_pure, Result.andThen_ok, run_ld_one hp this], hy⟩
      · cases hx
    · cases hx

theorem rrL_ok {w : World} {m : Nat → Value} {B : Nat → Nat → Prop} {a : Act} {st : St} (h : Sat H N w m B a st) : ∀ {l : List ResultVar} {q : List RR} {xs : List SV}, l.map (crr P) = q.map some → rrL st q = some xs →
    ∃ vs, (l.mapM (rrRun a.tmps)).run P w = .ok vs w ∧ CnL m st.n (vw H w B st.ob) xs vs
  | [], [], xs, _, hx => by simp only [rrL, Option.some.injEq] at hx; subst hx; exact ⟨[], rfl, by simp [CnL]⟩
  | r :: l, q :: qs, xs, e, hx => by
    simp only [List.map_cons, List.cons.injEq] at e
    simp only [rrL, Option.bind_eq_some_iff, Option.map_eq_some_iff] at hx
    obtain ⟨x, h1, ys, h2, rfl⟩ := hx
    obtain ⟨v, k1, k2⟩ := rr_ok h e.1 h1
    obtain ⟨vs, k3, k4⟩ := rrL_ok h e.2 h2
    refine ⟨v :: vs, ?_, by simp only [CnL]; exact ⟨k2, k4⟩⟩
    simp only [List.mapM_cons, Sem.run_bind]
    rw [k1]
    simp only [Result.andThen_ok]
    rw [k3]
    rfl
  | [], _ :: _, _, e, _ => by simp at e
  | _ :: _, [], _, e, _ => by simp at e

theorem out_ok {w : World} {m : Nat → Value} {B : Nat → Nat → Prop} {a : Act} {st : St} (h : Sat H N w m B a st) (hS : Since w0 m0 B0 s0 w m B st.store) {os : List Nat} {l : List SV} {vs : List Value} (hl : CnL m st.n (vw H w B st.ob) l vs) {mk : SV → Out} {K : Out → Store → Prop}
    (hk : outK s0.n os mk K l st) : ∃ m' B' s' x, K (mk x) s' ∧ SOk H w m' B' s' ∧ Since w0 m0 B0 s0 w m' B' s' ∧ ∃ ys, CnL m' s'.n (vw H w B' s'.ob) ys vs ∧ x = retV ys := by
  obtain ⟨k1, k2, k3, k4⟩ := hk
  obtain ⟨B1, g1, g2, g3, _⟩ := giveL_ok os h hl
  obtain ⟨mL, BL, q1, q2, q3, q4⟩ := sub_ok g1.store (hS.trans g2) k1 k2 k3
  exact ⟨mL, BL, _, _, k4, q1, q2, _, CnL_ren q3 q4 _ _ g3, rfl⟩

theorem retV_ok {m : Nat → Value} {n : Nat} {c : Rdr} {ys : List SV} {vs : List Value} (h : CnL m n c ys vs) : Cn m n c (retV ys) (if h : vs.toArray.size = 1 then vs.toArray[0] else .tuple vs.toArray) := by
  match ys, vs, h with
  | [], [], _ => simp [retV, Cn, CnL]
  | [x], [v], h => simp only [CnL, and_true] at h; simpa [retV] using h
  | x :: y :: r, v :: u :: s, h =>
    simp only [retV]
    rw [dif_neg (by simp)]
    simp only [Cn]
    exact ⟨_, rfl, h⟩
  | [_], _ :: _ :: _, h => simp [CnL] at h
  | _ :: _ :: _, [_], h => simp [CnL] at h
  | [], _ :: _, h => simp [CnL] at h
  | _ :: _, [], h => simp [CnL] at h

/-- The slots at a function's begin. -/
def slots0 : List SV → Nat → List (Nat × SV)
  | [], _ => []
  | x :: r, i => (i, x) :: slots0 r (i + 1)
def st0 (args : List SV) (s : Store) : St := ⟨slots0 args 0, s.n, s.ob⟩

theorem slots0_lk : ∀ (args : List SV) (i k : Nat), lk (slots0 args i) k = if i ≤ k then args[k - i]? else none
  | [], i, k => by simp [slots0, lk]
  | x :: r, i, k => by
    simp only [slots0, lk_cons, slots0_lk r (i + 1) k]
    by_cases e : i = k
    · subst e; simp
    · simp only [e, if_false]
      by_cases h : i ≤ k
      · have h1 : i + 1 ≤ k := by omega
        simp only [h, h1, if_true]
        rw [show k - i = (k - (i + 1)) + 1 by omega]
        simp
      · have h1 : ¬ i + 1 ≤ k := by omega
        simp only [h, h1, if_false]

/-- A FUNCTION'S CONTRACT, by evaluating its compiled body. os, op: which objects stay, behind a return and behind a panic. -/
theorem sound_of_ev {f : FuncId} {fn : Func} {body : Code} {s : SCode} {rs : List RR} (hm : P.follows .mixedOrders = true) (hf : P.funcs[f]? = some fn) (hb : fn.body = some body) (hn : (fn.name == "runtime.NumGoroutine") = false)
    {A : Ann} (hc : cc P fn.ntmps A body = some s) (hr : fn.results.toList.map (crr P) = rs.map some) (hT : ∀ f, Sound G P f (T f)) {C : Contract}
    (hl : C.lawful) (hC : ∀ args st K, C.wp args st K → args.length ≤ fn.ntmps ∧ ∃ os op, ev T st.n s (st0 args st) (retK rs st.n os K) (panK st.n op K)) : Sound G P f C := by
  refine ⟨hl, ?_⟩
  intro H w m B s1 args vs K hK hO ha
  obtain ⟨hlen, os, op, he⟩ := hC args s1 K hK
  refine ⟨⟨fn, hf, by rw [hb]; rfl, hn⟩, ?_⟩
  have hvl := CnL_length ha
  refine calls_of_wp hf hb ?_
  have hSat : Sat H fn.ntmps w m B { tmps := vs.toArray ++ Array.replicate (fn.ntmps - vs.toArray.size) undef, defers := [] } (st0 args s1) := by
    refine ⟨by simp; omega, rfl, fun k => ?_, hO⟩
    simp only [St.get, st0, slots0_lk, Nat.zero_le, if_true, Nat.sub_zero]
    cases e : args[k]? with
    | none => simp [Cn]
    | some x =>
      obtain ⟨v, hv, hx⟩ := CnL_get ha e
      have hk : k < vs.length := (List.getElem?_eq_some_iff.1 hv).1
      have : (vs.toArray ++ Array.replicate (fn.ntmps - vs.toArray.size) undef).getD k undef = v := by
        rw [Array.getD_eq_getD_getElem?, Array.getElem?_append_left (by simpa using hk)]
        simp [hv]
      rw [this]; exact hx
  have hwp := ev_ok (H := H) (w0 := w) (m0 := m) (B0 := B) (s0 := s1) hm hT body s hc _ _ _ w m B _ hSat (Since.refl _ _ _ _) he
  refine wp_mono hwp ?_
  have fin : ∀ a' w', Lift H fn.ntmps w m B s1 (fun st => need (rrL st rs) fun l => outK s1.n os .ret K l st) a' w' →
      a'.defers = [] ∧ ∃ v, (results fn a'.tmps).run P w' = .ok v w' ∧ ∃ m' B' s' out, K out s' ∧ SOk H w' m' B' s' ∧ Since w m B s1 w' m' B' s' ∧ OutOk m' s'.n (vw H w' B' s'.ob) out (.returned v) := by
    rintro a' w' ⟨m', B', st', k1, k2, k3⟩
    refine ⟨k2.defers, ?_⟩
    cases el : rrL st' rs with
    | none => rw [el] at k1; exact k1.elim
    | some l =>
      rw [el] at k1
      obtain ⟨us, h1, h2⟩ := rrL_ok k2 hr el
      obtain ⟨m2, B2, s2, x, q1, q2, q3, ys, q4, rfl⟩ := out_ok k2 k3 h2 k1
      refine ⟨_, ?_, m2, B2, s2, _, q1, q2, q3, retV_ok q4⟩
      rw [results_eq, Array.mapM_eq_mapM_toList]
      simp only [Sem.run_bind, Sem.run_map]
      rw [h1]
      rfl
  intro e a' w' hl
  cases e with
  | normal => exact fin a' w' hl
  | ret => exact fin a' w' hl
  | exit id => obtain ⟨_, _, _, k1, _⟩ := hl; exact k1.elim
  | goto l => exact hl.elim
  | outgrown => exact hl.elim
  | panic ch =>
    obtain ⟨hd, v, x, m', B', s', rfl, k1, k2, k3, k4⟩ := hl
    refine ⟨hd, ?_⟩
    have hS' : Sat H 0 w' m' B' { tmps := #[], defers := [] } ⟨[], s'.n, s'.ob⟩ := ⟨rfl, rfl, fun k => by simp [St.get, lk, Cn], k2⟩
    obtain ⟨m2, B2, s2, y, q1, q2, q3, ys, q4, rfl⟩ := out_ok hS' k3 (l := [x]) (vs := [v]) (by simp only [CnL, and_true]; exact k4) k1
    refine ⟨m2, B2, s2, _, q1, q2, q3, v, rfl, ?_⟩
    have := retV_ok q4
    simpa using this

def noC : Contract := ⟨fun _ _ _ => False, fun _ => none⟩
theorem sound_false {G : World → Prop} {f : FuncId} : Sound G P f noC := ⟨fun _ _ _ _ h => (nomatch h), fun _ _ _ _ _ _ _ _ h => h.elim⟩

/-- A function of values alone. -/
def pureC (g : List SV → Option (Prop × SV)) : Contract := ⟨fun args st K => need (g args) fun p => st = ⟨0, []⟩ ∧ p.1 ∧ K (.ret p.2) ⟨0, []⟩, g⟩
theorem pureC_lawful (g : List SV → Option (Prop × SV)) : (pureC g).lawful := fun args p x K h hp hk => by
  show need (g args) _
  have h' : g args = some (p, x) := h
  rw [h']; exact ⟨rfl, hp, hk⟩
/-- A function that does not answer by its values alone. -/
def wpC (wp : List SV → Store → (Out → Store → Prop) → Prop) : Contract := ⟨wp, fun _ => none⟩
theorem wpC_lawful (wp : List SV → Store → (Out → Store → Prop) → Prop) : (wpC wp).lawful := fun _ _ _ _ h => by cases h


end
end Go.Ev
