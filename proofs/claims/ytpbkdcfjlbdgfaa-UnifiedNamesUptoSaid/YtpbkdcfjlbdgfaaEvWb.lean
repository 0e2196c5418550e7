/- (*strings.Builder).WriteByte. -/
import Derived.Test.YtpbkdcfjlbdgfaaEvWa
set_option linter.unusedVariables false
set_option linter.unusedSimpArgs false
namespace Go.Proofs.Ytpbkdcfjlbdgfaa
open Go Go.Ev Go.RowKit
theorem ubyte : Try.prog.underlying 31 = some (.slice 5) := by kernel_rfl
theorem infB : (Try.prog.info? 5).map (fun i => (i.zero, i.size, i.bytes)) = some (some (.int .u8 0), 1, 1) := by kernel_rfl
set_option maxHeartbeats 2000000 in
set_option maxRecDepth 100000 in
theorem wb_at {t b : Nat} {p v : Value} {bs : List UInt8} (ht : bldT t = true) {w : World} (h : BldAt w t 5 b p v bs) (c : Int) (hc0 : 0 ≤ c) (hc1 : c < 256) (hlen : bs.length + 1 ≤ 140737488355328) :
    Calls Try.prog 18 #[.pointer (some ⟨b, 0, none⟩), .int .u8 c] w fun e w' => e = .returned .nilIface ∧ BldTo w w' t 5 b v (bs ++ [UInt8.ofNat c.toNat]) := by
  obtain ⟨i0, hi, hz0, hz1, hz2⟩ := info_parts infB
  go_enter Try.func18, Try.ntmps18
  go_wp2_with (go_at_call 26; refine (cc_at ht h).mono ?_)
  rintro e w1 ⟨rfl, hb1, h1⟩
  have c0 : w1.cell? ⟨b, 0, none⟩ = some (.pointer (some ⟨b, 0, none⟩)) := by rw [Lib.cell_of_heap h1.blk]; rfl
  have c1 : w1.cell? ⟨b, 1, none⟩ = some v := by rw [Lib.cell_of_heap h1.blk]; rfl
  go_wp2_with (at_builtin; refine wpList_app (t := 31) rfl rfl ubyte hi hz0 hz1 hz2 rfl (h1.own.alloc _) (A := some ⟨w1.heap.size, 0, none⟩) (k := 1) (cap := 1) rfl (news := [.int .u8 c]) rfl ?c1 ?c2 ?c4 ?_)
  case c1 =>
    intro j u hj
    match j, hj with
    | 0, hj => simp at hj; subst hj; exact ⟨_, rfl, by simp [Addr.add]⟩
  case c2 => intro u hu; simp at hu; subst hu; rfl
  case c4 => omega
  intro v' w2 hown' hgrow hv
  have hlt : b < w1.heap.size := (Array.getElem?_eq_some_iff.1 h1.blk).1
  have hb2 : w2.heap[b]? = some (.cells #[.pointer (some ⟨b, 0, none⟩), v] t (0, 0)) := by
    rw [hgrow.block b (by simp; omega) (fun e => h1.ne e.symm), Lib.alloc_old w1 _ b hlt]
    exact h1.blk
  have d0 : w2.cell? ⟨b, 0, none⟩ = some (.pointer (some ⟨b, 0, none⟩)) := by rw [Lib.cell_of_heap hb2]; rfl
  have d1 : w2.cell? ⟨b, 1, none⟩ = some v := by rw [Lib.cell_of_heap hb2]; rfl
  have f1 : w2.frozen? ⟨b, 1, none⟩ = false := Lib.frozen_of_heap hb2 1
  have hfin := BldAt.wrote (hb1.alloc _) (h1.alloc _) (bs' := bs ++ [UInt8.ofNat c.toNat]) (by rw [byteVals_snoc _ _ hc0 hc1]; simpa using hown') hgrow (by simpa using hv)
  obtain ⟨g, cap, rfl⟩ : ∃ g cap, v' = .slice (some ⟨g, 0, none⟩) (bs.length + 1) cap := by
    rcases hown'.2 with ⟨_, h0⟩ | ⟨g, cap, cur, hv, _⟩
    · omega
    · exact ⟨g, cap, hv⟩
  go_wp2
  go_ret
  exact ⟨rfl, hfin⟩
/-- A byte is written. -/
def gWB : List SV → Nat → Nat → List UInt8 → Option (Prop × SV × List UInt8)
  | [.d (.v (.int .u8 c))], t, u, bs => if bldT t = true ∧ u = 5 then some ((0 ≤ c ∧ c < 256) ∧ bs.length + 1 ≤ 140737488355328, .d (.v .nilIface), bs ++ [UInt8.ofNat c.toNat]) else none
  | _, _, _, _ => none
theorem sWB : Sound Try.prog 18 (bldC gWB) := by
  refine bld_sound ⟨Try.f18, by kernel_rfl, by kernel_rfl, by kernel_rfl⟩ ?_
  intro args t u bs p x bs' hg hp w b q v hb c m vs hc ha
  unfold gWB at hg
  split at hg
  · obtain ⟨⟨h1, rfl⟩, hg2⟩ := Option.ite_none_right_eq_some.1 hg
    simp only [Option.some.injEq, Prod.mk.injEq] at hg2
    obtain ⟨rfl, rfl, rfl⟩ := hg2
    match vs, ha with
    | [y], ha =>
      simp only [CnL, and_true] at ha
      rw [of_v ha]
      exact ⟨_, fun _ _ _ => ⟨rfl, rfl⟩, wb_at h1 hb _ hp.1.1 hp.1.2 hp.2⟩
    | [], ha => simp [CnL] at ha
    | _ :: _ :: _, ha => simp [CnL] at ha
  · simp only [reduceCtorEq] at hg
end Go.Proofs.Ytpbkdcfjlbdgfaa
