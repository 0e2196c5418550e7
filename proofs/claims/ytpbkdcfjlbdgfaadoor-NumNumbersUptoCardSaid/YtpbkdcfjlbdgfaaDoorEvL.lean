/- A compiled operation is sound. -/
import Derived.Test.YtpbkdcfjlbdgfaaDoorEvK
set_option linter.unusedVariables false
set_option linter.unusedSimpArgs false
namespace Go.Ev
open Go

theorem szOf_eq {P : Program} {t : TypeId} {n : Nat} (h : szOf P t = some n) : (P.info? t).map (·.size) = some n := h

theorem bparts_ok {places : Array (Nat × Nat)} : ∀ {ps : List (Nat × Operand)} {qs : List (Nat × Nat × Rv)}, bparts places ps = some qs → ps.map (fun p => (places[p.1]?, opn p.2)) = qs.map (fun q => (some (q.1, q.2.1), some q.2.2))
  | [], qs, h => by simp [bparts] at h; subst h; rfl
  | (j, x) :: r, qs, h => by
    simp only [bparts, List.mapM_cons, Option.bind_eq_bind, Option.bind_eq_some_iff, Option.pure_def, Option.some.injEq, Option.map_eq_some_iff] at h
    obtain ⟨q, ⟨p, h1, rr, h2, rfl⟩, qs', h3, rfl⟩ := h
    simp [h1, h2, bparts_ok (ps := r) (qs := qs') h3]

section
variable {G : World → Prop} {H : Hd G} {XB : Nat → Prop} {N : Nat} {w : World} {m : Nat → Value} {B : Nat → Nat → Prop} {a : Act} {st : St}
variable {P : Program} {o : Oper} {T : FuncId → Contract} {K : St → Prop} {Kp : SV → Store → Prop}

theorem copCall_ok (hT : ∀ f, Sound G P f (T f)) {an : Nat} {c : Call} {s : SOp} (hc : copCall P N an c o.dst = some s) (h : Sat H N w m B a st) (e0 : o.op = .call c) (hXB : ∀ o, o ∈ mods s st → ∀ y b, lk st.ob o = some y → y.has = true → B o b → XB b) (hs : step T s st K Kp) : OpOk H XB N w m B st.store P o a K Kp := by
  obtain ⟨callee, args, ts⟩ := c
  unfold copCall at hc
  split at hc
  · rename_i e3
    simp only at e3
    subst e3
    split at hc
    · rename_i d x t e2 e4 e5
      have e4' : args = #[x] := by cases args; simp_all
      have e5' : ts = #[t] := by cases ts; simp_all
      subst e4' e5'
      obtain ⟨hd, hc⟩ := Option.ite_none_right_eq_some.1 hc
      split at hc
      · rename_i ht
        obtain ⟨r, hr, rfl⟩ := Option.map_eq_some_iff.1 hc
        exact VOk.op e2 (PV.vok h hd (ok_lens h hd e0 hr ht hs))
      · rename_i e ht
        obtain ⟨r, hr, rfl⟩ := Option.map_eq_some_iff.1 hc
        exact VOk.op e2 (PV.vok h hd (ok_len h hd e0 hr ht hs))
      · cases hc
    · cases hc
  · rename_i e3
    simp only at e3
    subst e3
    split at hc
    · rename_i d x y t t' e2 e4 e5
      have e4' : args = #[x, y] := by cases args; simp_all
      have e5' : ts = #[t, t'] := by cases ts; simp_all
      subst e4' e5'
      split at hc
      · rename_i hde
        obtain ⟨hd, e6⟩ := hde
        subst e6
        split at hc
        · rename_i e ht
          obtain ⟨i, hi, hc⟩ := Option.bind_eq_some_iff.1 hc
          obtain ⟨z, hz, hc⟩ := Option.bind_eq_some_iff.1 hc
          obtain ⟨⟨h1, h2, h3⟩, hc⟩ := Option.ite_none_right_eq_some.1 hc
          obtain ⟨r, hr, hc⟩ := Option.bind_eq_some_iff.1 hc
          obtain ⟨q, hq, rfl⟩ := Option.map_eq_some_iff.1 hc
          exact VOk.op e2 (ok_ap h hd e0 hr hq ht hi hz rfl rfl h1 h2 h3 (fun o' e => hXB o' (by simp [mods, e])) hs)
        · cases hc
      · obtain ⟨hd, hc⟩ := Option.ite_none_right_eq_some.1 hc
        split at hc
        · rename_i e ht hu
          obtain ⟨i, hi, hc⟩ := Option.bind_eq_some_iff.1 hc
          obtain ⟨⟨h1, h2, h3⟩, hc⟩ := Option.ite_none_right_eq_some.1 hc
          obtain ⟨r, hr, hc⟩ := Option.bind_eq_some_iff.1 hc
          obtain ⟨q, hq, rfl⟩ := Option.map_eq_some_iff.1 hc
          exact VOk.op e2 (ok_aps h hd e0 hr hq ht hu hi (isU8_ok h1) h2 h3 (fun o' e => hXB o' (by simp [mods, e])) hs)
        · cases hc
    · cases hc
  · rename_i e3
    simp only at e3
    subst e3
    split at hc
    · rename_i d x ys e2 e4
      obtain ⟨hd, hc⟩ := Option.ite_none_right_eq_some.1 hc
      obtain ⟨r, hr, hc⟩ := Option.bind_eq_some_iff.1 hc
      obtain ⟨rs, hrs, rfl⟩ := Option.map_eq_some_iff.1 hc
      exact VOk.op e2 (PV.vok h hd (ok_mm (mn := true) h hd e4 e0 hr (mapM_some hrs) hs))
    · cases hc
  · rename_i e3
    simp only at e3
    subst e3
    split at hc
    · rename_i d x ys e2 e4
      obtain ⟨hd, hc⟩ := Option.ite_none_right_eq_some.1 hc
      obtain ⟨r, hr, hc⟩ := Option.bind_eq_some_iff.1 hc
      obtain ⟨rs, hrs, rfl⟩ := Option.map_eq_some_iff.1 hc
      exact VOk.op e2 (PV.vok h hd (ok_mm (mn := false) h hd e4 e0 hr (mapM_some hrs) hs))
    · cases hc
  · rename_i f e3
    simp only at e3
    subst e3
    obtain ⟨hd, hc⟩ := Option.ite_none_right_eq_some.1 hc
    split at hc
    · rename_i fn hf
      obtain ⟨⟨h1, h2⟩, hc⟩ := Option.ite_none_right_eq_some.1 hc
      obtain ⟨r, hr, rfl⟩ := Option.map_eq_some_iff.1 hc
      refine ok_call hT h (fun k hk => ?_) rfl e0 hf h1 h2 (mapM_some hr) hXB hs
      rw [hk] at hd; simpa using hd
    · cases hc
  · rename_i t e3
    simp only at e3
    subst e3
    obtain ⟨hd, hc⟩ := Option.ite_none_right_eq_some.1 hc
    obtain ⟨r, hr, rfl⟩ := Option.map_eq_some_iff.1 hc
    refine ok_callv hT h (fun k hk => ?_) rfl e0 (mapM_some hr) hXB hs
    rw [hk] at hd; simpa using hd
  · cases hc

set_option maxHeartbeats 1000000 in
theorem cop_ok (hT : ∀ f, Sound G P f (T f)) {an : Nat} {s : SOp} (hc : cop P N an o = some s) (h : Sat H N w m B a st) (hXB : ∀ o, o ∈ mods s st → ∀ y b, lk st.ob o = some y → y.has = true → B o b → XB b) (hs : step T s st K Kp) : OpOk H XB N w m B st.store P o a K Kp := by
  have hX : ∀ b, ¬ owns B st.ob b → ¬ (fun _ : Nat => False) b := fun _ _ => id
  unfold cop at hc
  split at hc
  · rename_i x d e1 e2
    obtain ⟨hd, hc⟩ := Option.ite_none_right_eq_some.1 hc
    split at hc
    · obtain ⟨hx, hc⟩ := Option.ite_none_right_eq_some.1 hc
      obtain ⟨sz, hsz, rfl⟩ := Option.map_eq_some_iff.1 hc
      rw [nilC_ok hx] at e1
      exact VOk.op e2 (ok_nr h hd (.inl e1) hs)
    · obtain ⟨r, hr, rfl⟩ := Option.map_eq_some_iff.1 hc
      exact VOk.op e2 (PV.vok h hd (ok_mv h hd (.inl e1) hr hs))
  · rename_i x d e1 e2
    obtain ⟨hd, hc⟩ := Option.ite_none_right_eq_some.1 hc
    split at hc
    · obtain ⟨hx, hc⟩ := Option.ite_none_right_eq_some.1 hc
      obtain ⟨sz, hsz, rfl⟩ := Option.map_eq_some_iff.1 hc
      rw [nilC_ok hx] at e1
      exact VOk.op e2 (ok_nr h hd (.inr e1) hs)
    · obtain ⟨r, hr, rfl⟩ := Option.map_eq_some_iff.1 hc
      exact VOk.op e2 (PV.vok h hd (ok_mv h hd (.inr e1) hr hs))
  · rename_i op t x y t' d e1 e2
    obtain ⟨hd, hc⟩ := Option.ite_none_right_eq_some.1 hc
    split at hc
    · rename_i nn hn
      obtain ⟨r, hr, rfl⟩ := Option.map_eq_some_iff.1 hc
      exact VOk.op e2 (PV.vok h hd (ok_isnil h hd e1 hr hn hs))
    · split at hc
      · rename_i ks hk
        obtain ⟨r, hr, hc⟩ := Option.bind_eq_some_iff.1 hc
        obtain ⟨q, hq, rfl⟩ := Option.map_eq_some_iff.1 hc
        exact VOk.op e2 (PV.vok h hd (ok_eqa h hd e1 hr hq hk hs))
      · obtain ⟨r, hr, hc⟩ := Option.bind_eq_some_iff.1 hc
        obtain ⟨q, hq, hc⟩ := Option.map_eq_some_iff.1 hc
        split at hc <;> subst hc
        · exact VOk.op e2 (PV.vok h hd (ok_binc h hd e1 hr hq hs))
        · exact VOk.op e2 (PV.vok h hd (ok_bin h hd e1 hr hq hs))
  · rename_i t x d e1 e2
    obtain ⟨hd, hc⟩ := Option.ite_none_right_eq_some.1 hc
    obtain ⟨r, hr, rfl⟩ := Option.map_eq_some_iff.1 hc
    exact VOk.op e2 (PV.vok h hd (ok_not h hd e1 hr hs))
  · rename_i t x d e1 e2
    obtain ⟨hd, hc⟩ := Option.ite_none_right_eq_some.1 hc
    obtain ⟨r, hr, rfl⟩ := Option.map_eq_some_iff.1 hc
    exact VOk.op e2 (PV.vok h hd (ok_neg h hd e1 hr hs))
  · rename_i s' t x d e1 e2
    obtain ⟨hd, hc⟩ := Option.ite_none_right_eq_some.1 hc
    obtain ⟨r, hr, hc⟩ := Option.bind_eq_some_iff.1 hc
    split at hc
    · rename_i e h1 h2
      split at hc
      · rename_i h3
        simp only [Option.some.injEq] at hc; subst hc
        exact VOk.op e2 (ok_b2s h hd e1 hr h1 h3 h2 hs)
      · cases hc
    · rename_i k h1 h2
      simp only [Option.some.injEq] at hc; subst hc
      exact VOk.op e2 (PV.vok h hd (ok_i2s h hd e1 hr ⟨_, h1⟩ h2 hs))
    · simp only [Option.some.injEq] at hc; subst hc
      exact VOk.op e2 (PV.vok h hd (ok_cvi h hd e1 hr ⟨_, by assumption⟩ (by assumption) hs))
    · cases hc
  · rename_i c x y d e1 e2
    obtain ⟨hd, hc⟩ := Option.ite_none_right_eq_some.1 hc
    obtain ⟨rc, hrc, hc⟩ := Option.bind_eq_some_iff.1 hc
    obtain ⟨r, hr, hc⟩ := Option.bind_eq_some_iff.1 hc
    obtain ⟨q, hq, rfl⟩ := Option.map_eq_some_iff.1 hc
    exact VOk.op e2 (PV.vok h hd (ok_pk h hd e1 hrc hr hq hs))
  · rename_i x i d e1 e2
    obtain ⟨hd, hc⟩ := Option.ite_none_right_eq_some.1 hc
    obtain ⟨r, hr, rfl⟩ := Option.map_eq_some_iff.1 hc
    exact VOk.op e2 (PV.vok h hd (ok_ex h hd e1 hr hs))
  · rename_i t x i d e1 e2
    obtain ⟨hd, hc⟩ := Option.ite_none_right_eq_some.1 hc
    split at hc
    · rename_i ht
      obtain ⟨r, hr, hc⟩ := Option.bind_eq_some_iff.1 hc
      obtain ⟨q, hq, rfl⟩ := Option.map_eq_some_iff.1 hc
      exact VOk.op e2 (PV.vok h hd (ok_ixs h hd e1 hr hq ht hs))
    · cases hc
  · rename_i t x lo hi d e1 e2
    obtain ⟨hd, hc⟩ := Option.ite_none_right_eq_some.1 hc
    obtain ⟨r, hr, hc⟩ := Option.bind_eq_some_iff.1 hc
    obtain ⟨rl, hl, hc⟩ := Option.bind_eq_some_iff.1 hc
    obtain ⟨rh, hh, hc⟩ := Option.bind_eq_some_iff.1 hc
    obtain ⟨l1, l2⟩ := optOpn_ok hl
    obtain ⟨k1, k2⟩ := optOpn_ok hh
    split at hc
    · rename_i ht
      simp only [Option.some.injEq] at hc; subst hc
      exact VOk.op e2 (PV.vok h hd (ok_sls h hd e1 hr l1 l2 k1 k2 ht hs))
    · rename_i e ht
      obtain ⟨sz, hz, rfl⟩ := Option.map_eq_some_iff.1 hc
      split at hs
      · exact VOk.op e2 (PV.vok h hd (ok_slp h hd e1 hr l1 l2 k1 k2 ht hz hs))
      · exact VOk.op e2 (ok_slr h hd e1 hr l1 l2 k1 k2 ht hz hs)
    · cases hc
  · rename_i t d e1 e2
    obtain ⟨hd, hc⟩ := Option.ite_none_right_eq_some.1 hc
    obtain ⟨z, hz, hc⟩ := Option.bind_eq_some_iff.1 hc
    split at hc
    · obtain ⟨h1, hc⟩ := Option.ite_none_right_eq_some.1 hc
      simp only [Option.some.injEq] at hc; subst hc
      exact VOk.op e2 (ok_alb h hd e1 hz (isBld_ok h1) hs)
    · obtain ⟨h1, hc⟩ := Option.ite_none_right_eq_some.1 hc
      simp only [Option.some.injEq] at hc; subst hc
      exact VOk.op e2 (ok_al h hd e1 hz (List.all_eq_true.1 h1) hs)
  · rename_i t x d e1 e2
    obtain ⟨hd, hc⟩ := Option.ite_none_right_eq_some.1 hc
    obtain ⟨r, hr, hc⟩ := Option.bind_eq_some_iff.1 hc
    obtain ⟨n, hn, rfl⟩ := Option.map_eq_some_iff.1 hc
    exact VOk.op e2 (ok_bx h hd e1 hr hs)
  · rename_i t x d e1 e2
    obtain ⟨hd, hc⟩ := Option.ite_none_right_eq_some.1 hc
    obtain ⟨r, hr, hc⟩ := Option.bind_eq_some_iff.1 hc
    obtain ⟨p, hp, rfl⟩ := Option.map_eq_some_iff.1 hc
    exact VOk.op e2 (LV.vok h hd (ok_ld (XB := fun _ => False) hX h e1 hr hp (fun _ _ _ _ _ _ _ => id) hs))
  · rename_i t x y e1 e2
    obtain ⟨r, hr, hc⟩ := Option.bind_eq_some_iff.1 hc
    obtain ⟨q, hq, hc⟩ := Option.bind_eq_some_iff.1 hc
    obtain ⟨p, hp, rfl⟩ := Option.map_eq_some_iff.1 hc
    obtain ⟨w', m', B', st', k1, k2, k3, k4, k5⟩ := ok_st h e1 hr hq hp (fun o' k e => hXB o' (by simp [mods, e])) (fun o' sz i k e => hXB o' (by simp [mods, e])) hs
    intro next Q hn hq'
    unfold Oper.wp
    rw [k1, Oper.upon_skip, e2]
    exact hn _ _ ⟨m', B', st', k2, k3, k4⟩ k5
  · rename_i x d e1 e2
    obtain ⟨hd, hc⟩ := Option.ite_none_right_eq_some.1 hc
    obtain ⟨r, hr, rfl⟩ := Option.map_eq_some_iff.1 hc
    exact VOk.op e2 (PV.vok h hd (ok_nc h hd e1 hr hs))
  · rename_i t x i d e1 e2
    obtain ⟨hd, hc⟩ := Option.ite_none_right_eq_some.1 hc
    split at hc
    · rename_i fs ht
      obtain ⟨f, hf, hc⟩ := Option.bind_eq_some_iff.1 hc
      obtain ⟨sz, hz, hc⟩ := Option.bind_eq_some_iff.1 hc
      split at hc
      · cases hc
      · rename_i h0
        obtain ⟨r, hr, rfl⟩ := Option.map_eq_some_iff.1 hc
        exact VOk.op e2 (PV.vok h hd (ok_fa h hd e1 hr ht hf hz h0 hs))
    · cases hc
  · rename_i t x i d e1 e2
    obtain ⟨hd, hc⟩ := Option.ite_none_right_eq_some.1 hc
    split at hc
    · rename_i fs ht
      obtain ⟨f, hf, hc⟩ := Option.bind_eq_some_iff.1 hc
      obtain ⟨sz, hz, hc⟩ := Option.bind_eq_some_iff.1 hc
      obtain ⟨ag, hag, hc⟩ := Option.bind_eq_some_iff.1 hc
      obtain ⟨r, hr, rfl⟩ := Option.map_eq_some_iff.1 hc
      exact VOk.op e2 (PV.vok h hd (ok_fd h hd e1 hr ht hf hz hag hs))
    · cases hc
  · rename_i t x i d e1 e2
    obtain ⟨hd, hc⟩ := Option.ite_none_right_eq_some.1 hc
    split at hc
    · rename_i e ht
      obtain ⟨sz, hz, hc⟩ := Option.bind_eq_some_iff.1 hc
      obtain ⟨r, hr, hc⟩ := Option.bind_eq_some_iff.1 hc
      obtain ⟨q, hq, rfl⟩ := Option.map_eq_some_iff.1 hc
      exact VOk.op e2 (PV.vok h hd (ok_ia h hd e1 hr hq ht hz hs))
    · cases hc
  · rename_i t ps d e1 e2
    obtain ⟨hd, hc⟩ := Option.ite_none_right_eq_some.1 hc
    split at hc
    · rename_i fs ht
      obtain ⟨z, hz, hc⟩ := Option.bind_eq_some_iff.1 hc
      obtain ⟨h1, hc⟩ := Option.ite_none_right_eq_some.1 hc
      rw [Bool.and_eq_true] at h1
      obtain ⟨qs, hq, rfl⟩ := Option.map_eq_some_iff.1 hc
      exact VOk.op e2 (PV.vok h hd (ok_bd h hd e1 ht hz (List.all_eq_true.1 h1.1) (places_run P fs h1.2) (bparts_ok hq) hs))
    · cases hc
  · rename_i t n ps d e1 e2
    obtain ⟨hd, hc⟩ := Option.ite_none_right_eq_some.1 hc
    split at hc
    · rename_i e ht
      obtain ⟨z, hz, hc⟩ := Option.bind_eq_some_iff.1 hc
      obtain ⟨sz, hsz, hc⟩ := Option.bind_eq_some_iff.1 hc
      obtain ⟨⟨h1, h2, h3⟩, hc⟩ := Option.ite_none_right_eq_some.1 hc
      obtain ⟨qs, hq, rfl⟩ := Option.map_eq_some_iff.1 hc
      exact VOk.op e2 (ok_bs h hd e1 ht hz hsz h1 h2 h3 (rparts_ok hq) hs)
    · cases hc
  · rename_i t x d e1 e2
    obtain ⟨hd, hc⟩ := Option.ite_none_right_eq_some.1 hc
    split at hc
    · cases hc
    · rename_i u hne hu
      obtain ⟨r, hr, rfl⟩ := Option.map_eq_some_iff.1 hc
      refine VOk.op e2 (ok_mi h hd e1 hr hu ?_ hs)
      cases u <;> simp_all
    · cases hc
  · rename_i f first cs d e1 e2
    obtain ⟨⟨hd, hf0⟩, hc2⟩ := Option.ite_none_right_eq_some.1 hc
    clear hc
    have hc := hc2
    clear hc2
    have : first = #[] := Array.eq_empty_of_size_eq_zero hf0
    subst this
    obtain ⟨r, hr, rfl⟩ := Option.map_eq_some_iff.1 hc
    exact VOk.op e2 (PV.vok h hd (ok_mf h hd e1 (mapM_some hr) hs))
  · rename_i x e1
    obtain ⟨r, hr, rfl⟩ := Option.map_eq_some_iff.1 hc
    exact ok_pn h e1 hr hs
  · rename_i t x d e1 e2
    obtain ⟨hd, hc⟩ := Option.ite_none_right_eq_some.1 hc
    split at hc
    · rename_i ht
      obtain ⟨r, hr, rfl⟩ := Option.map_eq_some_iff.1 hc
      exact VOk.op e2 (ok_rg h hd e1 hr ht hs)
    · cases hc
  · rename_i x d e1 e2
    obtain ⟨hd, hc⟩ := Option.ite_none_right_eq_some.1 hc
    obtain ⟨r, hr, rfl⟩ := Option.map_eq_some_iff.1 hc
    exact VOk.op e2 (ok_nx h hd e1 hr (fun o' e => hXB o' (by simp [mods, e])) hs)
  · rename_i c e1
    exact copCall_ok hT hc h e1 hXB hs
  · cases hc

end
end Go.Ev
