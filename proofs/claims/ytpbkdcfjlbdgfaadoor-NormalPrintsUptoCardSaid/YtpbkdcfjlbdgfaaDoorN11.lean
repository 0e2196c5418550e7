import Derived.Test.YtpbkdcfjlbdgfaaDoorN10
set_option linter.unusedVariables false
set_option linter.unusedSimpArgs false
namespace Go.Proofs.YtpbkdcfjlbdgfaaDoor
open Go Go.Ev
set_option maxRecDepth 100000
variable {G : World → Prop}
/-- What lines may take when written. -/
def wt (l : List (List UInt8)) : Nat := (l.map fun s => s.length + 40).sum
theorem wt_app (a b : List (List UInt8)) : wt (a ++ b) = wt a + wt b := by simp [wt]
theorem lineT_len (s x : List UInt8) (h : s.length = 2) : (lineT s x).length ≤ x.length + 40 := by
  unfold lineT
  split
  · simp only [List.length_append]; omega
  · simp only [List.length_append, List.length_cons, List.length_nil, markT]; omega
theorem allT_len (s : List UInt8) (h : s.length = 2) : ∀ l : List (List UInt8), (allT s l).length ≤ wt l
  | [] => Nat.le_refl 0
  | x :: r => by
    have h1 := allT_len s h r
    have h2 := lineT_len s x h
    unfold allT at h1 ⊢
    unfold wt at h1 ⊢
    simp only [List.flatMap_cons, List.length_append, List.map_cons, List.sum_cons] at h1 ⊢
    omega
theorem wt_part (l : List (List UInt8)) (k x n : Nat) (h : k ≤ x) : wt (part l x n) + wt (l.drop (x + n)) ≤ wt (l.drop k) := by
  have h1 : l.drop x = part l x n ++ l.drop (x + n) := by rw [part, ← List.drop_drop]; exact (List.take_append_drop n _).symm
  have h2 : l.drop k = (l.drop k).take (x - k) ++ l.drop x := by
    conv => lhs; rw [← List.take_append_drop (x - k) (l.drop k), List.drop_drop, show k + (x - k) = x by omega]
  rw [h2, wt_app, h1, wt_app]
  omega
theorem rest_len (A AN B BN : Nat) (a b : List (List UInt8)) : (restT A AN B BN a b).length ≤ 5 + wt (part a A AN) + wt (part b B BN) := by
  have h1 := allT_len [60, 32] rfl (part a A AN)
  have h2 := allT_len [62, 32] rfl (part b B BN)
  unfold restT
  split <;> simp only [List.length_append, List.length_cons, List.length_nil] <;> omega
theorem prnt_bound (a b : List (List UInt8)) : ∀ {l : List Q4} {f : Bool} {u v x y : Int}, chkL f u v l = some (x, y) → 0 ≤ u → 0 ≤ v → (prntT l a b).length ≤ 100 * l.length + wt (a.drop u.toNat) + wt (b.drop v.toNat)
  | [], f, u, v, x, y, h, hu, hv => Nat.zero_le _
  | (A, AN, B, BN) :: r, f, u, v, x, y, h, hu, hv => by
    rw [chkL] at h
    split at h
    · cases h
    · rename_i h1
      split at h
      · cases h
      · rename_i h2
        obtain ⟨k1, k2, k3, k4, -⟩ := okC h1
        simp only at k1 k2 k3 k4 h
        have h3 : ¬ A - u < 0 := fun e => h2 (.inl (.inl e))
        have h4 : A - u = B - v := Decidable.not_not.1 fun e => h2 (.inr e)
        have ih := prnt_bound a b h (by omega) (by omega)
        have w1 := wt_part a u.toNat A.toNat AN.toNat (by omega)
        have w2 := wt_part b v.toNat B.toNat BN.toNat (by omega)
        have hh := head_len (A := A.toNat) (AN := AN.toNat) (B := B.toNat) (BN := BN.toNat) (by omega) (by omega) (by omega) (by omega)
        have hr := rest_len A.toNat AN.toNat B.toNat BN.toNat a b
        rw [show (A + AN).toNat = A.toNat + AN.toNat by omega, show (B + BN).toNat = B.toNat + BN.toNat by omega] at ih
        have e : prntT ((A, AN, B, BN) :: r) a b = changeT A.toNat AN.toNat B.toNat BN.toNat a b ++ prntT r a b := rfl
        rw [e]
        unfold changeT
        simp only [List.length_append, List.length_cons]
        omega
theorem prnt_small (l : List Q4) (a b : List (List UInt8)) (h : chk l a.length b.length = 0) : (prntT l a b).length ≤ 100 * l.length + wt a + wt b := by
  unfold chk at h
  split at h
  · cases h
  · rename_i x y e
    have := prnt_bound a b e (by omega) (by omega)
    simpa using this
end Go.Proofs.YtpbkdcfjlbdgfaaDoor
