/- Builders: what a step that writes to one does to a store. -/
import Derived.Test.YtpbkdcfjlbdgfaaDoorEvT
import Derived.Lib.AppendStr
import Derived.WalkKit
import Derived.Below
set_option linter.unusedVariables false
set_option linter.unusedSimpArgs false
namespace Go.Ev
open Go

/-- A function of values, by what is proved of its calls: what lay below the heap's end lies as it lay. -/
theorem sound_lib {G : World → Prop} {P : Program} {f : FuncId} {g : List SV → Option (Prop × SV)} (hb : HasBody P f)
    (h : ∀ args p x, g args = some (p, x) → p → ∃ v, (∀ m n c, Cn m n c x v) ∧ ∀ w, G w → ∀ m c vs, (∀ a u, c a u → w.cell? a = some u) → CnL m 0 c args vs → Calls P f vs.toArray w fun e w' => e = .returned v ∧ RowKit.Below w.heap.size w w') : Sound G P f (pureC g) := by
  refine ⟨pureC_lawful g, ?_⟩
  intro H w m B s args vs K hK hO ha
  rw [pureC_wp] at hK
  obtain ⟨p, h1, rfl, h3, h4⟩ := need_ex hK
  obtain ⟨v, hv, hc⟩ := h args p.1 p.2 h1 h3
  refine ⟨hb, (hc w hO.gw m _ vs (fun a u hau => hau.1) ha).mono ?_⟩
  rintro e w' ⟨rfl, hB⟩
  have hno : ∀ b, ¬ owns B ([] : List (Nat × Ob)) b := by rintro b ⟨o, x, h1, _⟩; simp [lk] at h1
  have hS : Since w m B ⟨0, []⟩ w' m B ⟨0, []⟩ := ⟨hB.os, hB.tape, hB.output, hB.size, fun b hb _ => hB.block b hb, fun b hb => .inl hb, Nat.le_refl _, fun _ _ => rfl, fun o x b _ h1 h2 h3 => .inl ⟨x, h1, h2, h3⟩⟩
  exact ⟨m, B, ⟨0, []⟩, .ret p.2, h4, SOk.empty (fun b hb => Nat.lt_of_lt_of_le (hO.hid b hb) hB.size) (hO.gs hS) _ _, hS, hv _ _ _⟩
/-- The same, where the value hangs on the world. -/
theorem sound_lib2 {G : World → Prop} {P : Program} {f : FuncId} {g : List SV → Option (Prop × SV)} (hb : HasBody P f)
    (h : ∀ args p x, g args = some (p, x) → p → ∀ w, G w → ∀ m c vs, (∀ a u, c a u → w.cell? a = some u) → CnL m 0 c args vs → Calls P f vs.toArray w fun e w' => (∃ v, e = .returned v ∧ ∀ m n c, Cn m n c x v) ∧ RowKit.Below w.heap.size w w') : Sound G P f (pureC g) := by
  refine ⟨pureC_lawful g, ?_⟩
  intro H w m B s args vs K hK hO ha
  rw [pureC_wp] at hK
  obtain ⟨p, h1, rfl, h3, h4⟩ := need_ex hK
  refine ⟨hb, (h args p.1 p.2 h1 h3 w hO.gw m _ vs (fun a u hau => hau.1) ha).mono ?_⟩
  rintro e w' ⟨⟨v, rfl, hv⟩, hB⟩
  have hno : ∀ b, ¬ owns B ([] : List (Nat × Ob)) b := by rintro b ⟨o, x, h1, _⟩; simp [lk] at h1
  have hS : Since w m B ⟨0, []⟩ w' m B ⟨0, []⟩ := ⟨hB.os, hB.tape, hB.output, hB.size, fun b hb _ => hB.block b hb, fun b hb => .inl hb, Nat.le_refl _, fun _ _ => rfl, fun o x b _ h1 h2 h3 => .inl ⟨x, h1, h2, h3⟩⟩
  exact ⟨m, B, ⟨0, []⟩, .ret p.2, h4, SOk.empty (fun b hb => Nat.lt_of_lt_of_le (hO.hid b hb) hB.size) (hO.gs hS) _ _, hS, hv _ _ _⟩
/-- Two contracts of one function, each for some arguments. -/
theorem sound_two {G : World → Prop} {P : Program} {f : FuncId} {g g1 g2 : List SV → Option (Prop × SV)} (h1 : Sound G P f (pureC g1)) (h2 : Sound G P f (pureC g2))
    (h : ∀ args p x, g args = some (p, x) → p → (∃ q, g1 args = some (q, x) ∧ q) ∨ ∃ q, g2 args = some (q, x) ∧ q) : Sound G P f (pureC g) := by
  refine ⟨pureC_lawful g, ?_⟩
  intro H w m B s args vs K hK hO ha
  rw [pureC_wp] at hK
  obtain ⟨p, k1, rfl, k3, k4⟩ := need_ex hK
  rcases h args p.1 p.2 k1 k3 with ⟨q, e, hq⟩ | ⟨q, e, hq⟩
  · exact h1.2 H w m B _ args vs K (by rw [pureC_wp, e]; exact ⟨rfl, hq, k4⟩) hO ha
  · exact h2.2 H w m B _ args vs K (by rw [pureC_wp, e]; exact ⟨rfl, hq, k4⟩) hO ha
theorem sound_calls {G : World → Prop} {P : Program} {f : FuncId} {g : List SV → Option (Prop × SV)} (hb : HasBody P f)
    (h : ∀ args p x, g args = some (p, x) → p → ∃ v, (∀ m n c, Cn m n c x v) ∧ ∀ m c vs, CnL m 0 c args vs → ∀ w, Calls P f vs.toArray w fun e w' => e = .returned v ∧ w' = w) : Sound G P f (pureC g) := by
  refine sound_lib hb fun args p x hg hp => ?_
  obtain ⟨v, hv, hc⟩ := h args p x hg hp
  refine ⟨v, hv, fun w _ m c vs _ ha => (hc m c vs ha w).mono ?_⟩
  rintro e w' ⟨rfl, rfl⟩
  exact ⟨rfl, RowKit.Below.refl _ _⟩

section
variable {P : Program} {w : World}
end

section
variable {P : Program} {w : World} {ops : Array Oper} {rest : List Oper} {o : Oper} {a : Act} {Q : Exit → Act → World → Prop}
theorem wpList_app_str (hgd : o.guard = none) {sl x : Operand} {t u : TypeId} (ho : o.op = .call { callee := .builtin .append, args := #[sl, x], argTypes := #[t, u] })
    {e : TypeId} {i : TypeInfo} (ht : P.underlying t = some (.slice e)) (hu : P.underlying u = some .string) (hi : P.info? e = some i) (hz : i.zero = some (.int .u8 0)) (hsize : i.size = 1) (hby : i.bytes = 1)
    {v : Value} {n : Nat} {xs : List Value} (hs : a.eval sl = v) (hown : w.ownsRow 0 e 1 v n xs) {s : ByteArray} (hx : a.eval x = .string s) (hb : n + s.size ≤ 140737488355328)
    (h : ∀ v' w', w'.ownsRow 0 e 1 v' (n + s.size) (xs ++ Lib.strCells s) → w.grownBy w' v.ownBlock → (v'.ownBlock = v.ownBlock ∨ ∃ x, v'.ownBlock = some x ∧ w.heap.size ≤ x) → wpList P ops Q rest (a.put o.dst v') w') : wpList P ops Q (o :: rest) a w := by
  refine wpList_plain hgd fun K hK => ?_
  obtain ⟨v', w', hr, h2, h3, h4⟩ := app_str (P := P) (w := w) (ty := o.type) ht hu hi hz hsize hby hown s hb
  unfold Oper.wp execOp
  simp only [ho, resolve, invoke, builtin, Sem.run_bind, Sem.run_pure, Result.andThen_ok, List.map_toArray, List.map_cons, List.map_nil, hs, hx, hr]
  exact hK _ _ (h v' w' h2 h3 h4)
theorem wpList_app (hgd : o.guard = none) {sl x : Operand} {t : TypeId} (ho : o.op = .call { callee := .builtin .append, args := #[sl, x], argTypes := #[t, t] })
    {e : TypeId} {i : TypeInfo} (ht : P.underlying t = some (.slice e)) (hi : P.info? e = some i) (hz : i.zero = some (.int .u8 0)) (hsize : i.size = 1) (hby : i.bytes = 1)
    {v : Value} {n : Nat} {xs : List Value} (hs : a.eval sl = v) (hown : w.ownsRow 0 e 1 v n xs) {A : Option Addr} {k cap : Nat} (hx : a.eval x = .slice A k cap) {news : List Value} (hl : news.length = k) (hA : ∀ j u, news[j]? = some u → ∃ ad, A = some ad ∧ w.cell? (ad.add j) = some u)
    (h1 : ∀ u ∈ news, u.oneCell' = true) (hb : n + k ≤ 140737488355328)
    (h : ∀ v' w', w'.ownsRow 0 e 1 v' (n + k) (xs ++ news) → w.grownBy w' v.ownBlock → (v'.ownBlock = v.ownBlock ∨ ∃ x, v'.ownBlock = some x ∧ w.heap.size ≤ x) → wpList P ops Q rest (a.put o.dst v') w') : wpList P ops Q (o :: rest) a w := by
  refine wpList_plain hgd fun K hK => ?_
  obtain ⟨v', w', hr, h2, h3, h4⟩ := app_run (P := P) (w := w) (ty := o.type) ht hi hz hsize hby rfl (by decide) (by decide) hown (A := A) (k := k) (cap := cap) (by rw [hl, Nat.mul_one]) hA h1 (by omega)
  unfold Oper.wp execOp
  simp only [ho, resolve, invoke, builtin, Sem.run_bind, Sem.run_pure, Result.andThen_ok, List.map_toArray, List.map_cons, List.map_nil, hs, hx, hr]
  exact hK _ _ (h v' w' h2 h3 (h4.imp id fun e => ⟨_, e, Nat.le_refl _⟩))
end

/-- A Builder at a block, with its buffer's value. -/
structure BldAt (w : World) (t u b : Nat) (p v : Value) (bs : List UInt8) : Prop where
  blk : w.heap[b]? = some (.cells #[p, v] t (0, 0))
  ptr : p = .pointer none ∨ p = .pointer (some ⟨b, 0, none⟩)
  own : w.ownsRow 0 u 1 v bs.length (byteVals bs)
  ne : v.ownBlock ≠ some b

/-- What a write to a Builder leaves. -/
structure BldTo (w w' : World) (t u b : Nat) (v : Value) (bs' : List UInt8) : Prop where
  os : w'.os = w.os
  tape : w'.tape = w.tape
  output : w'.output = w.output
  size : w.heap.size ≤ w'.heap.size
  block : ∀ k, k < w.heap.size → k ≠ b → some k ≠ v.ownBlock → w'.heap[k]? = w.heap[k]?
  is : ∃ p' v', BldAt w' t u b p' v' bs' ∧ (v'.ownBlock = v.ownBlock ∨ ∃ x, v'.ownBlock = some x ∧ w.heap.size ≤ x)

theorem bldAt_of {G : World → Prop} {H : Hd G} {w : World} {m : Nat → Value} {B : Nat → Nat → Prop} {t u : Nat} {bs : List UInt8} (h : SOk H w m B ⟨1, [(0, .bld t u bs)]⟩) :
    ∃ b p v, m 0 = .pointer (some ⟨b, 0, none⟩) ∧ BldAt w t u b p v bs ∧ ∀ x, B 0 x ↔ (x = b ∨ v.ownBlock = some x) := by
  obtain ⟨b, p, v, h1, h2, h3, h4, h5, h6⟩ := h.obs 0 (.bld t u bs) rfl
  exact ⟨b, p, v, h1, ⟨h2, by rwa [h1] at h3, h4, h5⟩, h6⟩

theorem bld_to {G : World → Prop} {H : Hd G} {w w' : World} {m : Nat → Value} {B : Nat → Nat → Prop} {t u b : Nat} {p v : Value} {bs bs' : List UInt8} (h : SOk H w m B ⟨1, [(0, .bld t u bs)]⟩) (hm : m 0 = .pointer (some ⟨b, 0, none⟩)) (hb : BldAt w t u b p v bs)
    (hB : ∀ x, B 0 x ↔ (x = b ∨ v.ownBlock = some x)) (h' : BldTo w w' t u b v bs') :
    ∃ B', SOk H w' m B' ⟨1, [(0, .bld t u bs')]⟩ ∧ Since w m B ⟨1, [(0, .bld t u bs)]⟩ w' m B' ⟨1, [(0, .bld t u bs')]⟩ := by
  obtain ⟨p', v', k, hv⟩ := h'.is
  have hlt : b < w.heap.size := h.blk 0 _ b rfl rfl ((hB b).2 (.inl rfl))
  have lk1 : ∀ {z : Ob} {o : Nat} {y : Ob}, lk [(0, z)] o = some y → o = 0 ∧ y = z := by
    intro z o y hy
    simp only [lk_cons] at hy
    split at hy
    · rename_i e; simp at hy; exact ⟨e.symm, hy.symm⟩
    · cases hy
  have how : ∀ x, v'.ownBlock = some x → B 0 x ∨ w.heap.size ≤ x := by
    intro x hx
    rcases hv with hv | ⟨y, hv, hy⟩
    · exact .inl ((hB x).2 (.inr (hv ▸ hx)))
    · rw [hv] at hx; cases hx; exact .inr hy
  let B' : Nat → Nat → Prop := fun o x => if o = 0 then (x = b ∨ v'.ownBlock = some x) else B o x
  have hB0 : ∀ x, B' 0 x ↔ (x = b ∨ v'.ownBlock = some x) := fun x => by simp [B']
  have hnew : ∀ x, B' 0 x → B 0 x ∨ w.heap.size ≤ x := by
    intro x hx
    rcases (hB0 x).1 hx with rfl | hx
    · exact .inl ((hB _).2 (.inl rfl))
    · exact how x hx
  have hS : Since w m B ⟨1, [(0, .bld t u bs)]⟩ w' m B' ⟨1, [(0, .bld t u bs')]⟩ := by
    refine ⟨h'.os, h'.tape, h'.output, h'.size, fun x hx hno => h'.block x hx (fun e => hno ⟨0, _, rfl, rfl, (hB x).2 (.inl e)⟩) (fun e => hno ⟨0, _, rfl, rfl, (hB x).2 (.inr e.symm)⟩), ?_, Nat.le_refl _, fun _ _ => rfl, ?_⟩
    · rintro x ⟨o, y, h1, h2, h3⟩
      obtain ⟨rfl, rfl⟩ := lk1 h1
      rcases hnew x h3 with h4 | h4
      · exact .inl ⟨0, _, rfl, rfl, h4⟩
      · exact .inr h4
    · intro o y x ho h1 h2 h3
      obtain ⟨rfl, rfl⟩ := lk1 h1
      rcases hnew x h3 with h4 | h4
      · exact .inl ⟨_, rfl, rfl, h4⟩
      · exact .inr h4
  refine ⟨B', ⟨?_, ?_, ?_, ?_, ?_, h.gs hS, ?_⟩, hS⟩
  · intro o y ho
    obtain ⟨rfl, rfl⟩ := lk1 ho
    refine ⟨b, p', v', hm, k.blk, by rw [hm]; exact k.ptr, k.own, k.ne, hB0⟩
  · intro o y ho
    obtain ⟨rfl, rfl⟩ := lk1 ho
    exact Nat.zero_lt_one
  · intro o o' y y' h1 h2 _ _ hne
    obtain ⟨rfl, _⟩ := lk1 h1
    obtain ⟨rfl, _⟩ := lk1 h2
    exact absurd rfl hne
  · intro o y x h1 h2 h3
    obtain ⟨rfl, rfl⟩ := lk1 h1
    rcases (hB0 x).1 h3 with rfl | h4
    · exact Nat.lt_of_lt_of_le hlt h'.size
    · exact (k.own.lt x h4).2
  · exact fun x hx => Nat.lt_of_lt_of_le (h.hid x hx) h'.size
  · intro o y x h1 h2 h3
    obtain ⟨rfl, rfl⟩ := lk1 h1
    rcases hnew x h3 with h4 | h4
    · exact h.seph 0 _ x rfl rfl h4
    · intro hh
      have := h.hid x hh
      omega

/-- A Builder is used: its first cell holds its own address. -/
theorem BldAt.used {w : World} {t u b : Nat} {p v : Value} {bs : List UInt8} (h : BldAt w t u b p v bs) (hp : p = .pointer none) : BldTo w (w.setCell ⟨b, 0, none⟩ (.pointer (some ⟨b, 0, none⟩))) t u b v bs := by
  have hlt : b < w.heap.size := (Array.getElem?_eq_some_iff.1 h.blk).1
  have hblk : ∀ k, k ≠ b → (w.setCell ⟨b, 0, none⟩ (.pointer (some ⟨b, 0, none⟩))).heap[k]? = w.heap[k]? := fun k hk => by
    simp [World.setCell, Array.getElem?_modify, Ne.symm hk]
  have hb : (w.setCell ⟨b, 0, none⟩ (.pointer (some ⟨b, 0, none⟩))).heap[b]? = some (.cells #[.pointer (some ⟨b, 0, none⟩), v] t (0, 0)) := by
    simp [World.setCell, Array.getElem?_modify, h.blk]
  refine ⟨by simp [World.setCell], by simp [World.setCell], by simp [World.setCell], by simp [World.setCell], fun k _ hk _ => hblk k hk, ⟨_, v, ⟨hb, .inr rfl, ?_, h.ne⟩, .inl rfl⟩⟩
  obtain ⟨g1, g2⟩ := h.own
  refine ⟨g1, g2.imp id ?_⟩
  rintro ⟨g, cap, cur, rfl, e2, e3, e4⟩
  refine ⟨g, cap, cur, rfl, e2, ?_, e4⟩
  rw [hblk g (fun e => h.ne (by simp [Value.ownBlock, e]))]; exact e3
/-- The last store of a write: the buffer's new value into the second cell. -/
theorem BldAt.wrote {w w1 w2 : World} {t u b : Nat} {v v' : Value} {bs bs' : List UInt8} (h0 : BldTo w w1 t u b v bs) (h : BldAt w1 t u b (.pointer (some ⟨b, 0, none⟩)) v bs) (hown : w2.ownsRow 0 u 1 v' bs'.length (byteVals bs'))
    (hg : w1.grownBy w2 v.ownBlock) (hv : v'.ownBlock = v.ownBlock ∨ ∃ x, v'.ownBlock = some x ∧ w1.heap.size ≤ x) : BldTo w (w2.setCell ⟨b, 1, none⟩ v') t u b v bs' := by
  have hlt1 : b < w1.heap.size := (Array.getElem?_eq_some_iff.1 h.blk).1
  have hb2 : w2.heap[b]? = some (.cells #[.pointer (some ⟨b, 0, none⟩), v] t (0, 0)) := by rw [hg.block b hlt1 (fun e => h.ne e.symm)]; exact h.blk
  have hblk : ∀ k, k ≠ b → (w2.setCell ⟨b, 1, none⟩ v').heap[k]? = w2.heap[k]? := fun k hk => by
    simp [World.setCell, Array.getElem?_modify, Ne.symm hk]
  have hb : (w2.setCell ⟨b, 1, none⟩ v').heap[b]? = some (.cells #[.pointer (some ⟨b, 0, none⟩), v'] t (0, 0)) := by
    simp [World.setCell, Array.getElem?_modify, hb2]
  have hne : v'.ownBlock ≠ some b := by
    rcases hv with hv | ⟨x, hv, hx⟩
    · rw [hv]; exact h.ne
    · rw [hv]; intro e; simp only [Option.some.injEq] at e; omega
  refine ⟨?_, ?_, ?_, ?_, fun k hk h1 h2 => ?_, ⟨_, v', ⟨hb, .inr rfl, ?_, hne⟩, ?_⟩⟩
  · simp only [World.setCell]; exact hg.os.trans h0.os
  · simp only [World.setCell]; exact hg.tape.trans h0.tape
  · simp only [World.setCell]; exact hg.output.trans h0.output
  · have := h0.size; have := hg.size; simp [World.setCell]; omega
  · rw [hblk k h1, hg.block k (Nat.lt_of_lt_of_le hk h0.size) h2, h0.block k hk h1 h2]
  · obtain ⟨g1, g2⟩ := hown
    refine ⟨g1, g2.imp id ?_⟩
    rintro ⟨g, cap, cur, rfl, e2, e3, e4⟩
    refine ⟨g, cap, cur, rfl, e2, ?_, e4⟩
    rw [hblk g (fun e => hne (by simp [Value.ownBlock, e]))]; exact e3
  · rcases hv with hv | ⟨x, hv, hx⟩
    · exact .inl hv
    · exact .inr ⟨x, hv, Nat.le_trans h0.size hx⟩
theorem BldAt.alloc {w : World} {t u b : Nat} {p v : Value} {bs : List UInt8} (h : BldAt w t u b p v bs) (o : Obj) : BldAt (w.alloc o) t u b p v bs := by
  have hlt : b < w.heap.size := (Array.getElem?_eq_some_iff.1 h.blk).1
  exact ⟨by rw [al_old _ _ _ hlt]; exact h.blk, h.ptr, h.own.alloc _, h.ne⟩
theorem BldTo.alloc {w w1 : World} {t u b : Nat} {v : Value} {bs : List UInt8} (h : BldTo w w1 t u b v bs) (o : Obj) : BldTo w (w1.alloc o) t u b v bs := by
  obtain ⟨p', v', k, hv⟩ := h.is
  exact ⟨h.os, h.tape, h.output, by rw [al_size]; have := h.size; omega, fun k hk h1 h2 => by rw [al_old _ _ _ (Nat.lt_of_lt_of_le hk h.size)]; exact h.block k hk h1 h2, ⟨p', v', k.alloc o, hv⟩⟩
theorem byteVals_snoc (bs : List UInt8) (c : Int) (h0 : 0 ≤ c) (h1 : c < 256) : byteVals (bs ++ [UInt8.ofNat c.toNat]) = byteVals bs ++ [.int .u8 c] := by
  simp only [byteVals, List.map_append, List.map_cons, List.map_nil]
  have : (((UInt8.ofNat c.toNat).toNat : Nat) : Int) = c := by simp; omega
  rw [this]
theorem byteVals_str (bs : List UInt8) (s : ByteArray) : byteVals (bs ++ s.data.toList) = byteVals bs ++ Lib.strCells s := by
  simp [byteVals, Lib.strCells]
theorem byteVals_len (bs : List UInt8) : (byteVals bs).length = bs.length := by simp [byteVals]

/-- Values that are no objects. -/
def scalL : List SV → Bool
  | [] => true
  | .d _ :: r => scalL r
  | .cp _ :: r => scalL r
  | _ => false
theorem scalL_cn {m : Nat → Value} {n : Nat} {c : Rdr} : ∀ {l : List SV} {vs : List Value}, scalL l = true → CnL m n c l vs → CnL m 0 c l vs
  | [], [], _, _ => by simp [CnL]
  | .d x :: r, v :: vs, hs, h => by simp only [CnL, Cn] at h ⊢; exact ⟨h.1, scalL_cn (by simpa [scalL] using hs) h.2⟩
  | .cp x :: r, v :: vs, hs, h => by simp only [CnL, Cn] at h ⊢; exact ⟨h.1, scalL_cn (by simpa [scalL] using hs) h.2⟩
  | .any :: _, _, hs, _ | .own _ :: _, _, hs, _ | .ptr _ _ :: _, _, hs, _ | .ep _ _ _ _ :: _, _, hs, _ | .agg _ :: _, _, hs, _ | .tup _ :: _, _, hs, _ | .fn _ _ :: _, _, hs, _ | .opt _ _ :: _, _, hs, _ => by simp [scalL] at hs
  | [], _ :: _, _, h => by simp [CnL] at h
  | .d _ :: _, [], _, h | .cp _ :: _, [], _, h => by simp [CnL] at h
/-- A contract of a function that writes to a Builder. -/
def bldC (g : List SV → Nat → Nat → List UInt8 → Option (Prop × SV × List UInt8)) : Contract := wpC fun args st K => match args, st with
  | .ptr 0 0 :: zs, ⟨1, [(0, .bld t u bs)]⟩ => need (g zs t u bs) fun z => (z.1 ∧ scalL zs = true) ∧ K (.ret z.2.1) ⟨1, [(0, .bld t u z.2.2)]⟩
  | _, _ => False
theorem bld_sound {G : World → Prop} {P : Program} {f : FuncId} (hb : HasBody P f) {g : List SV → Nat → Nat → List UInt8 → Option (Prop × SV × List UInt8)}
    (h : ∀ args t u bs p x bs', g args t u bs = some (p, x, bs') → p → ∀ (w : World) (b : Nat) (q v : Value), BldAt w t u b q v bs → ∀ (c : Rdr) (m : Nat → Value) (vs : List Value), (∀ ad y, c ad y → w.cell? ad = some y ∧ ad.block ≠ b ∧ some ad.block ≠ v.ownBlock) → CnL m 0 c args vs →
      ∃ r, (∀ m n c, Cn m n c x r) ∧ Calls P f (.pointer (some ⟨b, 0, none⟩) :: vs).toArray w fun e w' => e = .returned r ∧ BldTo w w' t u b v bs') :
    Sound G P f (bldC g) := by
  refine ⟨wpC_lawful _, ?_⟩
  intro H w m B s args vs K hK hO ha
  simp only [bldC, wpC] at hK
  split at hK
  · rename_i zs t u bs
    obtain ⟨z, h1, ⟨h2, h2'⟩, h3⟩ := need_ex hK
    match vs, ha with
    | y :: ys, ha =>
    simp only [CnL, Cn] at ha
    obtain ⟨b, p, v, k1, k2, k3⟩ := bldAt_of hO
    obtain ⟨⟨_, b', e1, e2⟩, ha⟩ := ha
    rw [k1] at e1
    simp only [Value.pointer.injEq, Option.some.injEq, Addr.mk.injEq, and_true] at e1
    subst e1
    have hc : ∀ ad y, vw H w B [(0, Ob.bld t u bs)] ad y → w.cell? ad = some y ∧ ad.block ≠ b ∧ some ad.block ≠ v.ownBlock := by
      rintro ad y ⟨g1, g2, _⟩
      exact ⟨g1, fun e => g2 ⟨0, _, rfl, rfl, (k3 _).2 (.inl e)⟩, fun e => g2 ⟨0, _, rfl, rfl, (k3 _).2 (.inr e.symm)⟩⟩
    obtain ⟨r, q1, q2⟩ := h zs t u bs z.1 z.2.1 z.2.2 h1 h2 w b p v k2 _ m ys hc (scalL_cn h2' ha)
    subst e2
    refine ⟨hb, q2.mono ?_⟩
    rintro e w' ⟨rfl, hto⟩
    obtain ⟨B', hO', hS'⟩ := bld_to hO k1 k2 k3 hto
    exact ⟨m, B', _, _, h3, hO', hS', q1 _ _ _⟩
    | [], ha => simp [CnL] at ha
  · exact hK.elim
/-- What String leaves: nothing of the Builder is promised. -/
structure BldEnd (w w' : World) (b : Nat) (v : Value) : Prop where
  os : w'.os = w.os
  tape : w'.tape = w.tape
  output : w'.output = w.output
  size : w.heap.size ≤ w'.heap.size
  block : ∀ k, k < w.heap.size → k ≠ b → some k ≠ v.ownBlock → w'.heap[k]? = w.heap[k]?
theorem BldEnd.refl (w : World) (b : Nat) (v : Value) : BldEnd w w b v := ⟨rfl, rfl, rfl, Nat.le_refl _, fun _ _ _ _ => rfl⟩
theorem BldEnd.drew {w w' : World} {b : Nat} {v : Value} (h : BldEnd w w' b v) : BldEnd w w'.drew b v := ⟨h.os, h.tape, h.output, h.size, h.block⟩
theorem BldEnd.alloc {w w' : World} {b : Nat} {v : Value} (h : BldEnd w w' b v) (o : Obj) : BldEnd w (w'.alloc o) b v :=
  ⟨h.os, h.tape, h.output, by rw [al_size]; have := h.size; omega, fun k hk h1 h2 => by rw [al_old _ _ _ (Nat.lt_of_lt_of_le hk h.size)]; exact h.block k hk h1 h2⟩
theorem BldEnd.freeze {w w' : World} {b g : Nat} {v : Value} (h : BldEnd w w' b v) (hg : v.ownBlock = some g) (n : Nat) : BldEnd w (w'.freeze ⟨g, 0, none⟩ n) b v := by
  unfold World.freeze
  split
  · exact h
  · refine ⟨h.os, h.tape, h.output, by simpa using h.size, fun k hk h1 h2 => ?_⟩
    rw [← h.block k hk h1 h2]
    have : g ≠ k := fun e => h2 (by rw [hg, e])
    simp [Array.getElem?_modify, this]
theorem bld_end {G : World → Prop} {H : Hd G} {w w' : World} {m : Nat → Value} {B : Nat → Nat → Prop} {t u b : Nat} {v : Value} {bs : List UInt8} (h : SOk H w m B ⟨1, [(0, .bld t u bs)]⟩) (hB : ∀ x, B 0 x ↔ (x = b ∨ v.ownBlock = some x)) (h' : BldEnd w w' b v) :
    SOk H w' m B ⟨1, [(0, .dead)]⟩ ∧ Since w m B ⟨1, [(0, .bld t u bs)]⟩ w' m B ⟨1, [(0, .dead)]⟩ := by
  have lk1 : ∀ {z : Ob} {o : Nat} {y : Ob}, lk [(0, z)] o = some y → o = 0 ∧ y = z := by
    intro z o y hy
    simp only [lk_cons] at hy
    split at hy
    · rename_i e; simp at hy; exact ⟨e.symm, hy.symm⟩
    · cases hy
  refine ⟨⟨?_, ?_, ?_, ?_, fun x hx => Nat.lt_of_lt_of_le (h.hid x hx) h'.size, H.st w w' h.gw fun x hx => h'.block x (h.hid x (H.sub x hx)) (fun e => h.seph 0 _ x rfl rfl ((hB x).2 (.inl e)) (H.sub x hx)) (fun e => h.seph 0 _ x rfl rfl ((hB x).2 (.inr e.symm)) (H.sub x hx)), ?_⟩, ⟨h'.os, h'.tape, h'.output, h'.size, fun x hx hno => h'.block x hx (fun e => hno ⟨0, _, rfl, rfl, (hB x).2 (.inl e)⟩) (fun e => hno ⟨0, _, rfl, rfl, (hB x).2 (.inr e.symm)⟩), ?_, Nat.le_refl _, fun _ _ => rfl, ?_⟩⟩
  · intro o y ho; obtain ⟨rfl, rfl⟩ := lk1 ho; trivial
  · intro o y ho; obtain ⟨rfl, rfl⟩ := lk1 ho; exact Nat.zero_lt_one
  · intro o o' y y' h1 h2 _ _ hne
    obtain ⟨rfl, _⟩ := lk1 h1
    obtain ⟨rfl, _⟩ := lk1 h2
    exact absurd rfl hne
  · intro o y x h1 h2 h3; obtain ⟨rfl, rfl⟩ := lk1 h1; cases h2
  · intro o y x h1 h2 h3; obtain ⟨rfl, rfl⟩ := lk1 h1; cases h2
  · rintro x ⟨o, y, h1, h2, h3⟩; obtain ⟨rfl, rfl⟩ := lk1 h1; cases h2
  · intro o y x ho h1 h2 h3; obtain ⟨rfl, rfl⟩ := lk1 h1; cases h2
/-- A contract of String. -/
def strC (u0 : Nat) : Contract := wpC fun args st K => match args, st with
  | [.ptr 0 0], ⟨1, [(0, .bld t u bs)]⟩ => u = u0 ∧ K (.ret (.d (.v (str bs)))) ⟨1, [(0, .dead)]⟩
  | _, _ => False
theorem str_sound {G : World → Prop} {P : Program} {f : FuncId} (hb : HasBody P f) {u : Nat} (h : ∀ (w : World) (t b : Nat) (p v : Value) (bs : List UInt8), BldAt w t u b p v bs → Calls P f #[.pointer (some ⟨b, 0, none⟩)] w fun e w' => e = .returned (str bs) ∧ BldEnd w w' b v) : Sound G P f (strC u) := by
  refine ⟨wpC_lawful _, ?_⟩
  intro H w m B s args vs K hK hO ha
  simp only [strC, wpC] at hK
  split at hK
  · rename_i t u' bs
    obtain ⟨h2, h3⟩ := hK
    subst h2
    match vs, ha with
    | [y], ha =>
      simp only [CnL, Cn, and_true] at ha
      obtain ⟨b, p, v, k1, k2, k3⟩ := bldAt_of hO
      obtain ⟨_, b', e1, e2⟩ := ha
      rw [k1] at e1
      simp only [Value.pointer.injEq, Option.some.injEq, Addr.mk.injEq, and_true] at e1
      subst e1 e2
      refine ⟨hb, (h w t b p v bs k2).mono ?_⟩
      rintro e w' ⟨rfl, hto⟩
      obtain ⟨hO', hS'⟩ := bld_end hO k3 hto
      exact ⟨m, B, _, _, h3, hO', hS', ⟨rfl, rfl⟩⟩
    | [], ha => simp [CnL] at ha
    | _ :: _ :: _, ha => simp [CnL] at ha
  · exact hK.elim
/-- Are these bytes? -/
def bytesIn : List (List D) → Prop
  | [] => True
  | [.v (.int .u8 z)] :: rs => (0 ≤ z ∧ z < 256) ∧ bytesIn rs
  | _ :: _ => False
theorem bytesIn_rows : ∀ l : List UInt8, bytesIn (byteRows l) = True
  | [] => rfl
  | b :: r => by
    have := bytesIn_rows r
    unfold byteRows at this
    simp only [byteRows, List.map_cons, bytesIn, this, and_true, eq_iff_iff, iff_true]
    have := b.toNat_lt
    omega
/-- A slice of bytes, as cells. -/
theorem sl_bytes {m : Nat → Value} {n : Nat} {c : Rdr} {rows : List (List D)} {l : List UInt8} {y : Value} (hin : bytesIn rows) (hl : bytesOf rows = some l) (h : Cn m n c (.d (.sl rows)) y) :
    ∃ A cap, y = .slice A rows.length cap ∧ l.length = rows.length ∧ ∀ j u, (byteVals l)[j]? = some u → ∃ ad, A = some ad ∧ c (ad.add j) u := by
  simp only [Cn, Rd] at h
  obtain ⟨A, cap, rfl, h1, h2, h3⟩ := h
  have key : ∀ {rows : List (List D)} {l : List UInt8}, bytesIn rows → bytesOf rows = some l → l.length = rows.length ∧ ∀ {ad : Addr} {sz k : Nat}, RdRows c ad sz k rows → (rows ≠ [] → sz = 1) ∧ ∀ j u, (byteVals l)[j]? = some u → c (ad.add (k + j)) u := by
    intro rows
    induction rows with
    | nil => intro l _ hl; simp only [bytesOf, Option.some.injEq] at hl; subst hl; exact ⟨rfl, fun _ => ⟨fun h => absurd rfl h, fun j u hj => by simp [byteVals] at hj⟩⟩
    | cons r rs ih =>
      intro l hin hl
      simp only [bytesOf] at hl
      split at hl
      · rename_i b bs e1 e2
        simp only [Option.some.injEq] at hl; subst hl
        have hin2 : bytesIn rs := by unfold bytesIn at hin; split at hin <;> simp_all
        obtain ⟨i1, i2⟩ := ih hin2 e2
        refine ⟨by simp [i1], fun {ad sz k} hr => ?_⟩
        simp only [RdRows] at hr
        obtain ⟨q1, q2, q3⟩ := hr
        unfold byteOf at e1
        split at e1
        · rename_i z
          simp only [RdCells, Rd, and_true] at q2
          simp only [List.length_cons, List.length_nil] at q1
          obtain ⟨x, q4, rfl, _⟩ := q2
          subst q1
          obtain ⟨_, j2⟩ := i2 q3
          refine ⟨fun _ => rfl, fun j u hj => ?_⟩
          cases j with
          | zero =>
            simp only [byteVals, List.map_cons, List.getElem?_cons_zero, Option.some.injEq] at hj
            subst hj
            simp only [Option.some.injEq] at e1; subst e1
            simp only [bytesIn] at hin
            have : (((UInt8.ofNat z.toNat).toNat : Nat) : Int) = z := by simp; omega
            rw [this]; exact q4
          | succ j =>
            simp only [byteVals, List.map_cons, List.getElem?_cons_succ] at hj
            have := j2 j u hj
            rwa [show k + 1 + j = k + (j + 1) by omega] at this
        · cases e1
      · cases hl
  obtain ⟨k1, k2⟩ := key hin hl
  refine ⟨A, cap, rfl, k1, fun j u hj => ?_⟩
  rcases h3 with rfl | ⟨ad, sz, e, _, hr⟩
  · simp only [bytesOf, Option.some.injEq] at hl; subst hl; simp [byteVals] at hj
  · refine ⟨ad, e, ?_⟩
    have := (k2 hr).2 j u hj
    simpa using this
theorem bldC_wp (g : List SV → Nat → Nat → List UInt8 → Option (Prop × SV × List UInt8)) (args : List SV) (st : Store) (K : Out → Store → Prop) : (bldC g).wp args st K = (match args, st with
  | .ptr 0 0 :: zs, ⟨1, [(0, .bld t u bs)]⟩ => need (g zs t u bs) fun z => (z.1 ∧ scalL zs = true) ∧ K (.ret z.2.1) ⟨1, [(0, .bld t u z.2.2)]⟩
  | _, _ => False) := rfl
theorem strC_wp (u0 : Nat) (args : List SV) (st : Store) (K : Out → Store → Prop) : (strC u0).wp args st K = (match args, st with
  | [.ptr 0 0], ⟨1, [(0, .bld t u bs)]⟩ => u = u0 ∧ K (.ret (.d (.v (str bs)))) ⟨1, [(0, .dead)]⟩
  | _, _ => False) := rfl
theorem byteU8 (b : UInt8) : UInt8.ofNat b.toNat = b := by simp
theorem u8_range : (∀ b : UInt8, (0 ≤ (b.toNat : Int)) = True) ∧ (∀ b : UInt8, ((b.toNat : Int) < 256) = True) ∧ (∀ x : Int, (0 ≤ IntKind.u8.wrap x) = True) ∧ (∀ x : Int, (IntKind.u8.wrap x < 256) = True) := by
  refine ⟨fun b => by simp, fun b => ?_, fun x => ?_, fun x => ?_⟩
  · have := b.toNat_lt
    simp only [eq_iff_iff, iff_true]; omega
  all_goals
    simp only [IntKind.wrap, IntKind.bits, IntKind.signed, eq_iff_iff, iff_true]
    simp
    omega
theorem bld_hX {T : FuncId → Contract} {n : Nat} {S : SCode} {R : List RR} {g : List SV → Nat → Nat → List UInt8 → Option (Prop × SV × List UInt8)}
    (h : ∀ zs t u bs p x bs' K, g zs t u bs = some (p, x, bs') → p → K (.ret x) ⟨1, [(0, .bld t u bs')]⟩ → zs.length + 1 ≤ n ∧ xv T 1 S (st0 (.ptr 0 0 :: zs) ⟨1, [(0, .bld t u bs)]⟩) (retK R 1 [0] K) (panK 1 [0] K)) :
    ∀ args st K, (bldC g).wp args st K → args.length ≤ n ∧ ∃ os op, xv T st.n S (st0 args st) (retK R st.n os K) (panK st.n op K) := by
  intro args st K hw
  rw [bldC_wp] at hw
  split at hw
  · rename_i zs t u bs
    obtain ⟨z, h1, ⟨h2, _⟩, h3⟩ := need_ex hw
    obtain ⟨h5, h6⟩ := h zs t u bs z.1 z.2.1 z.2.2 K h1 h2 h3
    exact ⟨h5, [0], [0], h6⟩
  · exact hw.elim
theorem bldC_lawful (g : List SV → Nat → Nat → List UInt8 → Option (Prop × SV × List UInt8)) : (bldC g).lawful := wpC_lawful _
theorem ranges : List.range 1 = [0] ∧ List.range 2 = [0, 1] ∧ List.range 3 = [0, 1, 2] ∧ List.range 4 = [0, 1, 2, 3] := ⟨rfl, rfl, rfl, rfl⟩
end Go.Ev
