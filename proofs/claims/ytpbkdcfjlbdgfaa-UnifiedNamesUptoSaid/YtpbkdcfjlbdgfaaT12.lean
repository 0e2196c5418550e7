import Derived.Test.YtpbkdcfjlbdgfaaT10
set_option linter.unusedVariables false
set_option linter.unusedSimpArgs false
namespace Go.Proofs.Ytpbkdcfjlbdgfaa
open Go Go.Ev
set_option maxRecDepth 100000
def oddB (c : UInt8) : Bool := decide ((c.toNat : Int) < 33) || decide (126 < (c.toNat : Int)) || decide ((c.toNat : Int) = 34)
abbrev nowh : List UInt8 := [47, 100, 101, 118, 47, 110, 117, 108, 108]
/-- A name as it stands in a patch. -/
def nameS (l : List UInt8) : List UInt8 := if l = [] then nowh else if l = nowh ∨ l.any oddB = true then quo l else l
/-- The name that stands in a patch, unasked. -/
def decS (l : List UInt8) : List UInt8 := if l = nowh then [] else match l with
  | 34 :: _ => ((unqL l).map (·.1)).getD []
  | _ => l
def namedS (l : List UInt8) : List UInt8 × Int := if 64 < (decS l).length ∨ nameS (decS l) ≠ l then ([], 253) else (decS l, 0)
theorem oct_all (c : UInt8) (h : plainB c.toNat = false) : oct2 (hexs.getD (c.toNat / 16) 0 :: hexs.getD (c.toNat % 16) 0 :: []) = ((c.toNat : Int), true) := by
  have : ∀ n : Fin 256, plainB ((n.val : Nat) : Int) = false → oct2 (hexs.getD (n.val / 16) 0 :: hexs.getD (n.val % 16) 0 :: []) = (((n.val : Nat) : Int), true) := by decide +kernel
  exact this ⟨c.toNat, c.toNat_lt⟩ h
theorem oct_more (a b : UInt8) (r : List UInt8) : oct2 (a :: b :: r) = oct2 (a :: b :: []) := rfl
/-- What was quoted is read again. -/
theorem unq_quo : ∀ (l out rest : List UInt8), unq (l.flatMap qb ++ 34 :: rest) out = some (out ++ l, rest)
  | [], out, rest => by simp [unq_end]
  | c :: l, out, rest => by
    have ih := unq_quo l (out ++ [c]) rest
    simp only [List.flatMap_cons]
    by_cases hp : plainB c.toNat = true
    · have e : qb c = [c] := by unfold qb; rw [if_pos hp]
      have h34 : c ≠ 34 := by rintro rfl; revert hp; decide
      rw [e, List.cons_append, List.cons_append, List.nil_append, unq_plain _ _ h34 hp, ih]
      simp
    · have e : qb c = [92, hexs.getD (c.toNat / 16) 0, hexs.getD (c.toNat % 16) 0] := by unfold qb; rw [if_neg hp]
      have hp' : plainB c.toNat = false := by simpa using hp
      have h2 := oct_all c hp'
      have h3 := unq_oct (hexs.getD (c.toNat / 16) 0 :: hexs.getD (c.toNat % 16) 0 :: (l.flatMap qb ++ 34 :: rest)) out (by rw [oct_more, h2])
      rw [e]
      simp only [List.cons_append, List.nil_append]
      rw [h3.2.1, oct_more, h2]
      simp only [List.drop_succ_cons, List.drop_zero, Int.toNat_natCast, UInt8.ofNat_toNat]
      rw [ih]; simp
theorem unqL_quo (l rest : List UInt8) : unqL (quo l ++ rest) = some (l, rest) := by
  show unqL (34 :: (l.flatMap qb ++ [34]) ++ rest) = _
  rw [List.cons_append, unqL, List.append_assoc]
  exact unq_quo l [] rest
theorem unq_len : ∀ (n : Nat) (l out o r : List UInt8), l.length ≤ n → unq l out = some (o, r) → o.length ≤ out.length + l.length
  | n, [], out, o, r, hn, h => by rw [unq] at h; cases h
  | 0, c :: l, out, o, r, hn, h => by simp at hn
  | n + 1, c :: l, out, o, r, hn, h => by
    simp only [List.length_cons] at hn ⊢
    rw [unq] at h
    split at h
    · simp only [Option.some.injEq, Prod.mk.injEq] at h; obtain ⟨rfl, _⟩ := h; omega
    · split at h
      · have := unq_len n l _ o r (by omega) h
        simp only [List.length_append, List.length_cons, List.length_nil] at this; omega
      · split at h
        · have := unq_len n (l.drop 2) _ o r (by simp; omega) h
          simp only [List.length_append, List.length_cons, List.length_nil, List.length_drop] at this; omega
        · cases h
theorem unqL_len {l o r : List UInt8} (h : unqL l = some (o, r)) : o.length ≤ l.length := by
  unfold unqL at h
  split at h
  · have := unq_len _ _ _ _ _ (Nat.le_refl _) h; simp at this ⊢; omega
  · cases h
theorem decS_len (l : List UInt8) : (decS l).length ≤ l.length := by
  unfold decS
  split
  · simp
  · split
    · cases h : unqL (34 :: _) with
      | none => simp
      | some z => obtain ⟨o, r⟩ := z; simpa using unqL_len h
    · exact Nat.le_refl _
theorem nameS_len (l : List UInt8) : (nameS l).length ≤ 3 * l.length + 9 := by
  unfold nameS
  split
  · simp
  · split
    · have := quo_len l; omega
    · omega
theorem odd34 {l : List UInt8} (h : l.any oddB = false) : ∀ r, l ≠ 34 :: r := by
  rintro r rfl
  simp [oddB] at h
theorem dec_name (l : List UInt8) : decS (nameS l) = l := by
  unfold nameS
  split
  · rename_i h; subst h; simp [decS]
  · rename_i h0
    split
    · have hq : quo l = 34 :: (l.flatMap qb ++ [34]) := rfl
      have hu := unqL_quo l []
      rw [List.append_nil] at hu
      unfold decS
      rw [if_neg (by rw [hq]; simp)]
      rw [hq] at hu ⊢
      simp only [hu]; rfl
    · rename_i h
      have h1 : l ≠ nowh := fun e => h (.inl e)
      have h2 : l.any oddB = false := by simpa using fun e => h (.inr e)
      unfold decS
      rw [if_neg h1]
      split
      · rename_i r; exact absurd rfl (odd34 h2 r)
      · rfl
/-- Where quoted text is followed by more, it is not the name that it says. -/
theorem named_more {l o r : List UInt8} (h : unqL l = some (o, r)) (hr : r ≠ []) : nameS o ≠ l := by
  intro e
  have h34 : ∃ m, l = 34 :: m := by unfold unqL at h; split at h; exact ⟨_, rfl⟩; cases h
  obtain ⟨m, rfl⟩ := h34
  unfold nameS at e
  split at e
  · cases e
  · split at e
    · rw [← e] at h
      have := unqL_quo o []
      rw [List.append_nil, h] at this
      simp at this
      exact hr this
    · rename_i h2
      have h3 : o.any oddB = false := by simpa using fun e => h2 (.inr e)
      exact odd34 h3 m e
theorem named_bad {l : List UInt8} (h : unqL l = none) {m : List UInt8} (hl : l = 34 :: m) : nameS (decS l) ≠ l := by
  subst hl
  unfold decS
  rw [if_neg (by simp)]
  simp only [h]
  simp [nameS]
theorem named_name (l : List UInt8) : namedS (nameS l) = if 64 < l.length then ([], 253) else (l, 0) := by
  unfold namedS
  rw [dec_name]
  simp
end Go.Proofs.Ytpbkdcfjlbdgfaa
