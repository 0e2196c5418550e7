/- (*strings.Builder).Write. -/
import Derived.Test.YtpbkdcfjlbdgfaaEvWa
set_option linter.unusedVariables false
set_option linter.unusedSimpArgs false
namespace Go.Proofs.Ytpbkdcfjlbdgfaa
open Go Go.Ev Go.RowKit
theorem ubyte3 : Try.prog.underlying 31 = some (.slice 5) := by kernel_rfl
theorem infB3 : (Try.prog.info? 5).map (fun i => (i.zero, i.size, i.bytes)) = some (some (.int .u8 0), 1, 1) := by kernel_rfl
set_option maxHeartbeats 2000000 in
set_option maxRecDepth 100000 in
theorem ww_at {t b : Nat} {p v : Value} {bs : List UInt8} (ht : bldT t = true) {w : World} (h : BldAt w t 5 b p v bs) (A : Option Addr) (k cap : Nat) (l : List UInt8) (hl : l.length = k) (hA : ∀ j u, (byteVals l)[j]? = some u → ∃ ad, A = some ad ∧ w.cell? (ad.add j) = some u ∧ (ad.add j).block ≠ b ∧ some (ad.add j).block ≠ v.ownBlock) (hlen : bs.length + k ≤ 140737488355328) :
    Calls Try.prog 19 #[.pointer (some ⟨b, 0, none⟩), .slice A k cap] w fun e w' => e = .returned (.tuple #[.int .i64 k, .nilIface]) ∧ BldTo w w' t 5 b v (bs ++ l) := by
  obtain ⟨i0, hi, hz0, hz1, hz2⟩ := info_parts infB3
  go_enter Try.func19, Try.ntmps19
  go_wp2_with (go_at_call 26; refine (cc_at ht h).mono ?_)
  rintro e w1 ⟨rfl, hb1, h1⟩
  have c0 : w1.cell? ⟨b, 0, none⟩ = some (.pointer (some ⟨b, 0, none⟩)) := by rw [Lib.cell_of_heap h1.blk]; rfl
  have c1 : w1.cell? ⟨b, 1, none⟩ = some v := by rw [Lib.cell_of_heap h1.blk]; rfl
  have hA1 : ∀ j u, (byteVals l)[j]? = some u → ∃ ad, A = some ad ∧ w1.cell? (ad.add j) = some u := by
    intro j u hj
    obtain ⟨ad, e1, e2, e3, e4⟩ := hA j u hj
    exact ⟨ad, e1, by rw [World.cell?_of_block (hb1.block _ (cell_lt e2) e3 e4)]; exact e2⟩
  clear hA
  go_wp2_with (at_builtin; refine wpList_app (t := 31) rfl rfl ubyte3 hi hz0 hz1 hz2 rfl h1.own (A := A) (k := k) (cap := cap) rfl (news := byteVals l) (by rw [byteVals_len]; exact hl) hA1 ?c2 ?c4 ?_)
  case c2 => intro u hu; simp only [byteVals, List.mem_map] at hu; obtain ⟨x, _, rfl⟩ := hu; rfl
  case c4 => omega
  intro v' w2 hown' hgrow hv
  have hlt : b < w1.heap.size := (Array.getElem?_eq_some_iff.1 h1.blk).1
  have hb2 : w2.heap[b]? = some (.cells #[.pointer (some ⟨b, 0, none⟩), v] t (0, 0)) := by
    rw [hgrow.block b hlt (fun e => h1.ne e.symm)]
    exact h1.blk
  have d0 : w2.cell? ⟨b, 0, none⟩ = some (.pointer (some ⟨b, 0, none⟩)) := by rw [Lib.cell_of_heap hb2]; rfl
  have d1 : w2.cell? ⟨b, 1, none⟩ = some v := by rw [Lib.cell_of_heap hb2]; rfl
  have f1 : w2.frozen? ⟨b, 1, none⟩ = false := Lib.frozen_of_heap hb2 1
  have hfin := BldAt.wrote hb1 h1 (bs' := bs ++ l) (by rw [show byteVals (bs ++ l) = byteVals bs ++ byteVals l by simp [byteVals]]; simpa [hl] using hown') hgrow hv
  obtain ⟨ao, n', cap, rfl⟩ : ∃ ao n' cap, v' = .slice ao n' cap := by
    rcases hown'.2 with ⟨hv, _⟩ | ⟨g, cap, cur, hv, _⟩
    · exact ⟨_, _, _, hv⟩
    · exact ⟨_, _, _, hv⟩
  clear hA1
  go_wp2
  go_ret2
  exact ⟨rfl, hfin⟩
/-- Bytes are written. -/
def gWW : List SV → Nat → Nat → List UInt8 → Option (Prop × SV × List UInt8)
  | [.d (.sl rows)], t, u, bs => (bytesOf rows).bind fun l => if bldT t = true ∧ u = 5 then some (bs.length + rows.length ≤ 140737488355328 ∧ bytesIn rows, .tup [.d (.v (.int .i64 rows.length)), .d (.v .nilIface)], bs ++ l) else none
  | _, _, _, _ => none
theorem sWW : Sound Try.prog 19 (bldC gWW) := by
  refine bld_sound ⟨Try.f19, by kernel_rfl, by kernel_rfl, by kernel_rfl⟩ ?_
  intro args t u bs p x bs' hg hp w b q v hb c m vs hc ha
  unfold gWW at hg
  split at hg
  · obtain ⟨l, hl, hg⟩ := Option.bind_eq_some_iff.1 hg
    obtain ⟨⟨h1, rfl⟩, hg2⟩ := Option.ite_none_right_eq_some.1 hg
    simp only [Option.some.injEq, Prod.mk.injEq] at hg2
    obtain ⟨rfl, rfl, rfl⟩ := hg2
    match vs, ha with
    | [y], ha =>
      simp only [CnL, and_true] at ha
      obtain ⟨A, cap, rfl, hlc, hrows⟩ := sl_bytes hp.2 hl ha
      exact ⟨_, fun m n c => by simp only [Cn]; exact ⟨_, rfl, by simp only [CnL, Cn, and_true]; exact ⟨⟨rfl, rfl⟩, ⟨rfl, rfl⟩⟩⟩, ww_at h1 hb A _ cap l hlc (fun j u hj => by
        obtain ⟨ad, e1, e2⟩ := hrows j u hj
        exact ⟨ad, e1, hc _ _ e2⟩) hp.1⟩
    | [], ha => simp [CnL] at ha
    | _ :: _ :: _, ha => simp [CnL] at ha
  · simp only [reduceCtorEq] at hg
end Go.Proofs.Ytpbkdcfjlbdgfaa
