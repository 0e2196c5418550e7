/- How the evaluator is unfolded: lemmas for simp. -/
import Derived.Test.YtpbkdcfjlbdgfaaDoorEvN
import Derived.Laws.Strings2
set_option linter.unusedVariables false
set_option linter.unusedSimpArgs false
namespace Go.Ev
open Go

@[congr] theorem evOps_congr {T : FuncId → Contract} {l : List GOp} {st st' : St} {K : St → Prop} {Kp : SV → Store → Prop} (h : st = st') : evOps T l st K Kp = evOps T l st' K Kp := by rw [h]
@[congr] theorem ev_congr {T : FuncId → Contract} {n : Nat} {s : SCode} {st st' : St} {K : Ex → St → Prop} {Kp : SV → Store → Prop} (h : st = st') : ev T n s st K Kp = ev T n s st' K Kp := by rw [h]
@[congr] theorem evDr_congr {T : FuncId → Contract} {xo : List Nat} {n : Nat} {l : List (Nat × Bool × GOp)} {st st' : St} {K : St → Prop} {Kp : SV → Store → Prop} (h : st = st') : evDr T xo n l st K Kp = evDr T xo n l st' K Kp := by rw [h]
@[congr] theorem step_congr {T : FuncId → Contract} {s : SOp} {st st' : St} {K : St → Prop} {Kp : SV → Store → Prop} (h : st = st') : Ev.step T s st K Kp = Ev.step T s st' K Kp := by rw [h]
@[congr] theorem need_congr {α : Type} {o o' : Option α} {K : α → Prop} (h : o = o') : need o K = need o' K := by rw [h]
@[congr] theorem thenK_congr {K2 : St → Prop} {K : Ex → St → Prop} {e : Ex} {st st' : St} (h : st = st') : thenK K2 K e st = thenK K2 K e st' := by rw [h]
@[congr] theorem blockK_congr {i : Nat} {K : Ex → St → Prop} {e : Ex} {st st' : St} (h : st = st') : blockK i K e st = blockK i K e st' := by rw [h]
@[congr] theorem callS_congr {C : Contract} {d : Option Nat} {os os' : List Nat} {lend : Bool} {args args' : List SV} {st st' : St} {K : St → Prop} {Kp : SV → Store → Prop} (h0 : os = os') (h1 : args = args') (h : st = st') : callS C d os lend args st K Kp = callS C d os' lend args' st' K Kp := by rw [h0, h1, h]
@[congr] theorem retK_congr {rs : List RR} {n : Nat} {os : List Nat} {K : Out → Store → Prop} {e : Ex} {st st' : St} (h : st = st') : retK rs n os K e st = retK rs n os K e st' := by rw [h]
@[congr] theorem pureC_congr {g : List SV → Option (Prop × SV)} {l l' : List SV} {s s' : Store} {K : Out → Store → Prop} (h : l = l') (h2 : s = s') : (pureC g).wp l s K = (pureC g).wp l' s' K := by rw [h, h2]

theorem sem_bin :
    (∀ (k : IntKind) (a b : Int), binV .eql (.int k a) (.int k b) = some (.bool (decide (a = b)))) ∧
    (∀ (k : IntKind) (a b : Int), binV .neq (.int k a) (.int k b) = some (.bool (!decide (a = b)))) ∧
    (∀ (k : IntKind) (a b : Int), binV .lss (.int k a) (.int k b) = some (.bool (decide (a < b)))) ∧
    (∀ (k : IntKind) (a b : Int), binV .leq (.int k a) (.int k b) = some (.bool (decide (a ≤ b)))) ∧
    (∀ (k : IntKind) (a b : Int), binV .gtr (.int k a) (.int k b) = some (.bool (decide (b < a)))) ∧
    (∀ (k : IntKind) (a b : Int), binV .geq (.int k a) (.int k b) = some (.bool (decide (b ≤ a)))) ∧
    (∀ (k : IntKind) (a b : Int), binV .add (.int k a) (.int k b) = some (.int k (k.wrap (a + b)))) ∧
    (∀ (k : IntKind) (a b : Int), binV .sub (.int k a) (.int k b) = some (.int k (k.wrap (a - b)))) ∧
    (∀ (k : IntKind) (a b : Int), binV .mul (.int k a) (.int k b) = some (.int k (k.wrap (a * b)))) ∧
    (∀ a b : ByteArray, binV .eql (.string a) (.string b) = some (.bool (decide (a = b)))) ∧
    (∀ a b : ByteArray, binV .neq (.string a) (.string b) = some (.bool (!decide (a = b)))) :=
  ⟨by intros; simp [binV], by intros; simp [binV], by intros; simp [binV], by intros; simp [binV], by intros; simp [binV], by intros; simp [binV], by intros; simp [binV], by intros; simp [binV], by intros; simp [binV], by intros; simp [binV], by intros; simp [binV]⟩
theorem sem_sel :
    (∀ x y, selS true x y = x) ∧
    (∀ x y, selS false x y = y) ∧
    (∀ t p q, selS t (.d (.v (.bool p))) (.d (.v (.bool q))) = .d (.v (.bool (cond t p q)))) ∧
    (∀ t k a b, selS t (.d (.v (.int k a))) (.d (.v (.int k b))) = .d (.v (.int k (cond t a b)))) ∧
    (∀ t a b, selS t (.d (.v (.string a))) (.d (.v (.string b))) = .d (.v (.string (cond t a b)))) ∧
    (∀ t p : Bool, cond t p false = (t && p)) ∧
    (∀ t p : Bool, cond t true p = (t || p)) ∧
    (∀ p : Bool, (p == true) = p) ∧
    (∀ p : Bool, (p == false) = !p) :=
  ⟨fun _ _ => rfl, fun _ _ => rfl, fun t => by intros; cases t <;> rfl, fun t => by intros; cases t <;> rfl, fun t => by intros; cases t <;> rfl, fun t => by intros; cases t <;> rfl, fun t => by intros; cases t <;> rfl, fun p => by cases p <;> rfl, fun p => by cases p <;> rfl⟩
theorem need_ite {α : Type} (c : Prop) [Decidable c] (a : α) (K : α → Prop) : need (if c then some a else none) K = (c ∧ K a) := by
  by_cases h : c <;> simp [h]
theorem bins {k k' : IntKind} {a b : Int} : binV .quo (.int k a) (.int k' b) = (if k = k' ∧ b ≠ 0 then some (.int k (k.wrap (a.tdiv b))) else none) ∧ binV .rem (.int k a) (.int k' b) = (if k = k' ∧ b ≠ 0 then some (.int k (a.tmod b)) else none) ∧
    binV .shl (.int k a) (.int k' b) = (if 0 ≤ b then some (.int k (k.wrap (a * 2 ^ (min b.toNat k.bits)))) else none) ∧ binV .shr (.int k a) (.int k' b) = (if 0 ≤ b then some (.int k (a.fdiv (2 ^ (min b.toNat k.bits)))) else none) ∧
    binV .and (.int k a) (.int k' b) = (if k = k' then some (.int k (k.wrap ((BitVec.ofInt k.bits a &&& BitVec.ofInt k.bits b).toNat))) else none) ∧ binV .or (.int k a) (.int k' b) = (if k = k' then some (.int k (k.wrap ((BitVec.ofInt k.bits a ||| BitVec.ofInt k.bits b).toNat))) else none) :=
  ⟨rfl, rfl, rfl, rfl, rfl, rfl⟩
theorem adds {a b : ByteArray} : binV .add (.string a) (.string b) = if a.size + b.size ≤ 9223372036854775807 then some (.string (a ++ b)) else none := rfl
@[simp] theorem thenK_normal {K2 : St → Prop} {K : Ex → St → Prop} {st : St} : thenK K2 K .normal st = K2 st := rfl
@[simp] theorem thenK_exit {K2 : St → Prop} {K : Ex → St → Prop} {i : Nat} {st : St} : thenK K2 K (.exit i) st = K (.exit i) st := rfl
@[simp] theorem thenK_ret {K2 : St → Prop} {K : Ex → St → Prop} {st : St} : thenK K2 K .ret st = K .ret st := rfl
@[simp] theorem blockK_normal {i : Nat} {K : Ex → St → Prop} {st : St} : blockK i K .normal st = K .normal st := rfl
@[simp] theorem blockK_ret {i : Nat} {K : Ex → St → Prop} {st : St} : blockK i K .ret st = K .ret st := rfl
@[simp] theorem blockK_exit {i j : Nat} {K : Ex → St → Prop} {st : St} : blockK i K (.exit j) st = if j = i then K .normal st else K (.exit j) st := rfl
theorem evLoop_intro {body : St → (Ex → St → Prop) → (SV → Store → Prop) → Prop} {n0 : Nat} {ks : List Nat} {st : St} {K : Ex → St → Prop} {Kp : SV → Store → Prop} (I : Nat → St → Prop) (n : Nat) (os : List Nat) (h1 : normOk n0 os st) (h2 : I n (st.norm os ks))
    (h3 : ∀ n st, I n st → body st (thenK (again I n0 ks n) K) Kp) : evLoop body n0 ks K Kp st := evLoop_eq.mpr ⟨I, n, os, h1, h2, h3⟩
theorem again_intro {I : Nat → St → Prop} {n0 : Nat} {ks : List Nat} {n : Nat} {st : St} (k : Nat) (os : List Nat) (h0 : k < n) (h1 : normOk n0 os st) (h2 : I k (st.norm os ks)) : again I n0 ks n st := again_eq.mpr ⟨k, os, h0, h1, h2⟩

theorem pure_hC {T : FuncId → Contract} {n : Nat} {S : SCode} {R : List RR} {g : List SV → Option (Prop × SV)} (h : ∀ args p x K, g args = some (p, x) → p → K (.ret x) ⟨0, []⟩ → args.length ≤ n ∧ ev T 0 S (st0 args ⟨0, []⟩) (retK R 0 [] K) (panK 0 [] K)) :
    ∀ args st K, (pureC g).wp args st K → args.length ≤ n ∧ ∃ os op, ev T st.n S (st0 args st) (retK R st.n os K) (panK st.n op K) := by
  intro args st K hw
  rw [show (pureC g).wp args st K = need (g args) fun p => st = ⟨0, []⟩ ∧ p.1 ∧ K (.ret p.2) ⟨0, []⟩ from rfl] at hw
  obtain ⟨p, h1, rfl, h3, h4⟩ := need_ex hw
  obtain ⟨h5, h6⟩ := h args p.1 p.2 K h1 h3 h4
  exact ⟨h5, [], [], h6⟩
theorem retK_normal {rs : List RR} {n : Nat} {os : List Nat} {K : Out → Store → Prop} {st : St} : retK rs n os K .normal st = need (rrL st rs) fun l => outK n os .ret K l st := rfl
theorem retK_ret {rs : List RR} {n : Nat} {os : List Nat} {K : Out → Store → Prop} {st : St} : retK rs n os K .ret st = need (rrL st rs) fun l => outK n os .ret K l st := rfl

theorem pureC_wp (g : List SV → Option (Prop × SV)) (args : List SV) (st : Store) (K : Out → Store → Prop) : (pureC g).wp args st K = need (g args) fun p => st = ⟨0, []⟩ ∧ p.1 ∧ K (.ret p.2) ⟨0, []⟩ := rfl
theorem pureC_pf (g : List SV → Option (Prop × SV)) (args : List SV) : (pureC g).pf args = g args := rfl

/-! Strings as rows of bytes. -/
theorem sem_str :
    (∀ l : List UInt8, (ByteArray.mk l.toArray).size = l.length) ∧ (∀ (l : List UInt8) (a b : Nat), (ByteArray.mk l.toArray).extract a b = ByteArray.mk ((l.drop a).take (b - a)).toArray) ∧
    (∀ (l : List UInt8) (j : Int), bt (ByteArray.mk l.toArray) j = ((l.getD j.toNat 0).toNat : Int)) ∧ (∀ l r : List UInt8, (ByteArray.mk l.toArray) ++ (ByteArray.mk r.toArray) = ByteArray.mk (l ++ r).toArray) ∧
    (∀ l r : List UInt8, (ByteArray.mk l.toArray = ByteArray.mk r.toArray) = (l = r)) ∧ (∀ l : List UInt8, (ByteArray.mk l.toArray).data.toList = l) ∧ (∀ l : List UInt8, str l = .string (ByteArray.mk l.toArray)) :=
  ⟨fun l => rfl, fun l a b => by rw [ByteArray.extract_mk], fun l j => rfl, fun l r => by
    apply ByteArray.ext
    simp, fun l r => by simp, fun l => rfl, fun l => rfl⟩
theorem take_all (l : List UInt8) (a : Nat) : (l.drop a).take (l.length - a) = l.drop a := List.take_of_length_le (by simp)
theorem ex_str (s : ByteArray) : ∃ l : List UInt8, s = ByteArray.mk l.toArray := ⟨s.data.toList, by cases s; simp⟩
theorem u8rt (b : UInt8) : b.toNat.toUInt8 = b := by simp [Nat.toUInt8]
theorem wrap64 (x : Int) (h0 : -9223372036854775808 ≤ x) (h1 : x ≤ 9223372036854775807) : IntKind.i64.wrap x = x := by
  simp only [IntKind.wrap, IntKind.bits, IntKind.signed]
  simp
  omega
theorem tns : (∀ i : Nat, ((i : Int) + 1).toNat = i + 1) ∧ (∀ i : Nat, ((i : Int) + 2).toNat = i + 2) ∧ (∀ i : Nat, ((i : Int) + 3).toNat = i + 3) ∧ (∀ i : Nat, ((i : Int) + 4).toNat = i + 4) ∧ (∀ i : Nat, ((i : Int) + 5).toNat = i + 5) ∧ (∀ i : Nat, ((i : Int) - 1).toNat = i - 1) ∧
    (∀ i j : Nat, ((i : Int) + (j : Int)).toNat = i + j) ∧ (∀ i j : Nat, ((i : Int) - (j : Int)).toNat = i - j) ∧ (∀ i j : Nat, ((i : Int) + (j : Int) + 1).toNat = i + j + 1) :=
  ⟨by intros; omega, by intros; omega, by intros; omega, by intros; omega, by intros; omega, by intros; omega, by intros; omega, by intros; omega, by intros; omega⟩
theorem bytesOf_rows : ∀ l : List UInt8, bytesOf (byteRows l) = some l
  | [] => rfl
  | b :: r => by
    have h := bytesOf_rows r
    unfold byteRows at h
    simp [byteRows, bytesOf, h, byteOf]
theorem bytesOf_app : ∀ (l : List UInt8) (r : List (List D)), bytesOf (byteRows l ++ r) = (bytesOf r).map (l ++ ·)
  | [], r => by cases h : bytesOf r <;> simp [byteRows, h]
  | b :: l, r => by
    have h := bytesOf_app l r
    unfold byteRows at h
    simp only [byteRows, List.map_cons, List.cons_append, bytesOf, byteOf, h]
    cases bytesOf r <;> simp
theorem byteRows_one (b : UInt8) : [[D.v (.int .u8 b.toNat)]] = byteRows [b] := rfl
theorem byteRows_append (l r : List UInt8) : byteRows l ++ byteRows r = byteRows (l ++ r) := by simp [byteRows]
theorem byteRows_len (l : List UInt8) : (byteRows l).length = l.length := by simp [byteRows]


theorem ffI (p : Prop) : (false = true → p) = True := by simp
theorem ttI (p : Prop) : (true = true → p) = p := by simp
theorem tfI (p : Prop) : (true = false → p) = True := by simp
theorem ftI (p : Prop) : (false = false → p) = p := by simp

/-- A table of contracts. -/
def tabT (l : List (FuncId × Contract)) (f : FuncId) : Contract := (lk l f).getD noC
theorem tab_nil {G : World → Prop} {P : Program} : ∀ f, Sound G P f (tabT [] f) := fun f => sound_false
theorem tab_cons {G : World → Prop} {P : Program} {i : FuncId} {C : Contract} {l : List (FuncId × Contract)} (h : Sound G P i C) (hl : ∀ f, Sound G P f (tabT l f)) : ∀ f, Sound G P f (tabT ((i, C) :: l) f) := by
  intro f
  unfold tabT
  simp only [lk_cons]
  by_cases e : i = f
  · subst e; simpa using h
  · simp only [e, if_false]; exact hl f

end Go.Ev
