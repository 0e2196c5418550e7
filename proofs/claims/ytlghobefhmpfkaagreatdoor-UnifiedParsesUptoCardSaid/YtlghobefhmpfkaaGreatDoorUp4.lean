/- UnifiedParses: any text is read as patches, or refused with line and reason Part 4 of 7. -/
import Derived.Test.YtlghobefhmpfkaaGreatDoorProg
import Derived.Lib.IndexLaws
import Derived.Test.YtlghobefhmpfkaaGreatDoorUp1
import Derived.Test.YtlghobefhmpfkaaGreatDoorUp2
import Derived.Test.YtlghobefhmpfkaaGreatDoorUp3
set_option linter.unusedSimpArgs false
set_option linter.unusedVariables false
namespace Go.Proofs.YtlghobefhmpfkaaGreatDoor
open Go Go.Ev
set_option maxRecDepth 100000
variable {G : World → Prop}
set_option maxHeartbeats 2000000 in
theorem s182 : Sound G Tryz.prog 182 C198 := by
 refine sd182 (T := tabT [(204, C171), (205, C205)]) (tab_cons s204 (tab_cons s205 tab_nil)) (pureC_lawful _) (pure_hX fun args p x K h hp hk => ?_)
 split at h <;> simp only [Option.some.injEq, Prod.mk.injEq, reduceCtorEq] at h
 obtain ⟨rfl, rfl⟩ := h
 refine ⟨Nat.le_of_ble_eq_true rfl, ?_⟩
 rename_i s
 obtain ⟨q, rfl⟩ := ex_str s
 simp only [sem_str] at hk hp
 have bad : unqL q = none → K (.ret (.tup [.d (.v (.string ⟨#[]⟩)), .d (.v (.string ⟨#[]⟩)), .d (.v (.int .i64 3))])) ⟨0, []⟩ := fun e => by rw [e] at hk; exact hk
 have good : ∀ o m, unqL q = some (o, m) → K (.ret (.tup [.d (.v (.string ⟨o.toArray⟩)), .d (.v (.string ⟨m.toArray⟩)), .d (.v (.int .i64 0))])) ⟨0, []⟩ := fun o m e => by
   rw [e] at hk; exact hk
 have hq : q.length ≤ 1099511627776 := hp
 simp -dsimp -implicitDefEqProofs only [S182, R182, C171, C205, ↓Ev.xStp_eq, ↓Ev.P, Ev.Q, Ev.Z, simprocAttr]
 have q34 : ∀ (i : Nat), ((((q.getD i 0).toNat : Nat) : Int) = 34) ↔ q.getD i 0 = 34 := fun i => u8_eq _ 34 (by omega)
 repeat' (first | refine And.intro ?_ ?_ | intro _)
 all_goals try omega
 · rename_i h
   refine bad ?_
   cases q with
   | nil => rfl
   | cons c r =>
     have : c ≠ 34 := fun e => by
       rcases h with h | h
       · simp only [List.length_cons] at h; omega
       · exact h ((q34 0).2 e)
     unfold unqL; split <;> simp_all
 rename_i h
 have h0 : unqL q = unq (q.drop 1) [] := by
   cases q with
   | nil => exact absurd rfl h.1
   | cons c r =>
     have : c = 34 := by have := (q34 0).1 (by simpa using h.2); simpa using this
     subst this; rfl
 have h1 : 1 ≤ q.length := by omega
 refine xLoop_intro (fun n st => ∃ (i : Nat) (out : List UInt8), n = q.length - i ∧ 1 ≤ i ∧ i ≤ q.length ∧ out.length ≤ i ∧ unq (q.drop i) out = unqL q ∧
     st = ⟨[(0, .d (.v (.string ⟨q.toArray⟩))), (5, .own 0), (6, .d (.v (.int .i64 i)))], 1, [(0, .row 5 1 (byteRows out))]⟩) (q.length - 1) [0] ?_ ?_ ?_
 · simp -dsimp -implicitDefEqProofs only [↓Ev.xStp_eq, ↓Ev.P, Ev.Q, Ev.Z, simprocAttr]
 · simp -dsimp -implicitDefEqProofs only [↓Ev.xStp_eq, ↓Ev.P, Ev.Q, Ev.Z, simprocAttr]
   exact ⟨1, [], rfl, by omega, h1, by simp, h0.symm, rfl⟩
 · rintro n st ⟨i, out, hn, hi1, hi2, ho, hu, rfl⟩
   have nb : ∀ x : UInt8, ∃ d : UInt8, (x.toNat : Int) = d.toNat := fun x => ⟨x, rfl⟩
   simp -dsimp -implicitDefEqProofs only [↓Ev.P, Ev.Q, Ev.Z, simprocAttr]
   have b1 := hx_b (q.getD (i + 1) 0)
   have b2 := hx_b (q.getD (i + 2) 0)
   repeat' (first | exact nb _ | refine And.intro ?_ ?_ | intro _ | (rw [Ev.xStp_eq]; simp -dsimp -implicitDefEqProofs only [↓Ev.P, Ev.Q, Ev.Z, simprocAttr]))
   all_goals try omega
   · rename_i hl h
     exact good _ _ (at_end hl hu h)
   · rename_i hl h hp
     refine xAgain_intro (q.length - (i + 1)) [2] (by omega) (by simp -dsimp -implicitDefEqProofs only [↓Ev.xStp_eq, ↓Ev.P, Ev.Q, Ev.Z, simprocAttr]) ⟨i + 1, out ++ [q.getD i 0], rfl, by omega, by omega, by simp; omega, at_plain hl hu h hp, ?_⟩
     simp -dsimp -implicitDefEqProofs only [↓Ev.xStp_eq, ↓Ev.P, Ev.Q, Ev.Z, simprocAttr]
     simp [byteRows]
   · rename_i hl h hp hk
     obtain ⟨k1, k2⟩ := at_oct hl hu h hp hk
     obtain ⟨⟨⟨⟨_, h2⟩, _⟩, _⟩, _⟩ := hk
     refine xAgain_intro (q.length - (i + 3)) [2] (by omega) (by simp -dsimp -implicitDefEqProofs only [↓Ev.xStp_eq, ↓Ev.P, Ev.Q, Ev.Z, simprocAttr]) ⟨i + 3, _, rfl, by omega, by omega, ?_, k1, ?_⟩
     · simp; omega
     · simp -dsimp -implicitDefEqProofs only [↓Ev.xStp_eq, ↓Ev.P, Ev.Q, Ev.Z, simprocAttr]
       simp only [byteRows, List.map_append, List.map_cons, List.map_nil, k2]
       simp only [octR]
       rfl
   · rename_i hl h hp hk
     refine bad (at_bad hl hu h hp fun h => ?_)
     obtain ⟨⟨⟨⟨h1, h2⟩, h3⟩, h4⟩, h5⟩ := h
     rcases hk with (((hk | hk) | hk) | hk) | hk
     · exact hk h1
     · exact hk h2
     · exact hk h3
     · exact hk h4
     · rw [octR] at h5; rw [h5] at hk; cases hk
   · refine bad ?_
     rw [← hu, List.drop_of_length_le (by omega), unq]
end Go.Proofs.YtlghobefhmpfkaaGreatDoor
namespace Go.Proofs.YtlghobefhmpfkaaGreatDoor
open Go Go.Ev Go.RowKit
theorem ubyte : Tryz.prog.underlying 115 = some (.slice 5) := by kernel_rfl
theorem infB : (Tryz.prog.info? 5).map (fun i => (i.zero, i.size, i.bytes)) = some (some (.int .u8 0), 1, 1) := by kernel_rfl
set_option maxHeartbeats 2000000 in
set_option maxRecDepth 100000 in
theorem wb_at {t b : Nat} {p v : Value} {bs : List UInt8} (ht : bldT t = true) {w : World} (h : BldAt w t 5 b p v bs) (c : Int) (hc0 : 0 ≤ c) (hc1 : c < 256) (hlen : bs.length + 1 ≤ 140737488355328) :
   Calls Tryz.prog 170 #[.pointer (some ⟨b, 0, none⟩), .int .u8 c] w fun e w' => e = .returned .nilIface ∧ BldTo w w' t 5 b v (bs ++ [UInt8.ofNat c.toNat]) := by
 obtain ⟨i0, hi, hz0, hz1, hz2⟩ := info_parts infB
 go_enter Tryz.func170, Tryz.ntmps170
 go_wp2_with (go_at_call 123; refine (cc_at ht h).mono ?_)
 rintro e w1 ⟨rfl, hb1, h1⟩
 have c0 : w1.cell? ⟨b, 0, none⟩ = some (.pointer (some ⟨b, 0, none⟩)) := by rw [Lib.cell_of_heap h1.blk]; rfl
 have c1 : w1.cell? ⟨b, 1, none⟩ = some v := by rw [Lib.cell_of_heap h1.blk]; rfl
 go_wp2_with (at_builtin; refine wpList_app (t := 115) rfl rfl ubyte hi hz0 hz1 hz2 rfl (h1.own.alloc _) (A := some ⟨w1.heap.size, 0, none⟩) (k := 1) (cap := 1) rfl (news := [.int .u8 c]) rfl ?c1 ?c2 ?c4 ?_)
 case c1 =>
   intro j u hj
   match j, hj with
   | 0, hj => simp at hj; subst hj; exact ⟨_, rfl, by simp [Addr.add]⟩
 case c2 => intro u hu; simp at hu; subst hu; rfl
 case c4 => omega
 intro v' w2 hown' hgrow hv
 have hlt : b < w1.heap.size := (Array.getElem?_eq_some_iff.1 h1.blk).1
 have hb2 : w2.heap[b]? = some (.cells #[.pointer (some ⟨b, 0, none⟩), v] t (0, 0)) := by
   rw [hgrow.block b (by simp; omega) (fun e => h1.ne e.symm), Lib.alloc_old w1 _ b hlt]
   exact h1.blk
 have d0 : w2.cell? ⟨b, 0, none⟩ = some (.pointer (some ⟨b, 0, none⟩)) := by rw [Lib.cell_of_heap hb2]; rfl
 have d1 : w2.cell? ⟨b, 1, none⟩ = some v := by rw [Lib.cell_of_heap hb2]; rfl
 have f1 : w2.frozen? ⟨b, 1, none⟩ = false := Lib.frozen_of_heap hb2 1
 have hfin := BldAt.wrote (hb1.alloc _) (h1.alloc _) (bs' := bs ++ [UInt8.ofNat c.toNat]) (by rw [byteVals_snoc _ _ hc0 hc1]; simpa using hown') hgrow (by simpa using hv)
 obtain ⟨g, cap, rfl⟩ : ∃ g cap, v' = .slice (some ⟨g, 0, none⟩) (bs.length + 1) cap := by
   rcases hown'.2 with ⟨_, h0⟩ | ⟨g, cap, cur, hv, _⟩
   · omega
   · exact ⟨g, cap, hv⟩
 go_wp2
 go_ret
 exact ⟨rfl, hfin⟩
def gWB : List SV → Nat → Nat → List UInt8 → Option (Prop × SV × List UInt8)
 | [.d (.v (.int .u8 c))], t, u, bs => if bldT t = true ∧ u = 5 then some ((0 ≤ c ∧ c < 256) ∧ bs.length + 1 ≤ 140737488355328, .d (.v .nilIface), bs ++ [UInt8.ofNat c.toNat]) else none
 | _, _, _, _ => none
theorem sWB {G : World → Prop} : Sound G Tryz.prog 170 (bldC gWB) := by
 refine bld_sound ⟨Tryz.f170, by kernel_rfl, by kernel_rfl, by kernel_rfl⟩ ?_
 intro args t u bs p x bs' hg hp w b q v hb c m vs hc ha
 unfold gWB at hg
 split at hg
 · obtain ⟨⟨h1, rfl⟩, hg2⟩ := Option.ite_none_right_eq_some.1 hg
   simp only [Option.some.injEq, Prod.mk.injEq] at hg2
   obtain ⟨rfl, rfl, rfl⟩ := hg2
   match vs, ha with
   | [y], ha =>
     simp only [CnL, and_true] at ha
     rw [of_v ha]
     exact ⟨_, fun _ _ _ => ⟨rfl, rfl⟩, wb_at h1 hb _ hp.1.1 hp.1.2 hp.2⟩
   | [], ha => simp [CnL] at ha
   | _ :: _ :: _, ha => simp [CnL] at ha
 · simp only [reduceCtorEq] at hg
theorem ubyte3 : Tryz.prog.underlying 115 = some (.slice 5) := by kernel_rfl
theorem infB3 : (Tryz.prog.info? 5).map (fun i => (i.zero, i.size, i.bytes)) = some (some (.int .u8 0), 1, 1) := by kernel_rfl
set_option maxHeartbeats 2000000 in
set_option maxRecDepth 100000 in
theorem ww_at {t b : Nat} {p v : Value} {bs : List UInt8} (ht : bldT t = true) {w : World} (h : BldAt w t 5 b p v bs) (A : Option Addr) (k cap : Nat) (l : List UInt8) (hl : l.length = k) (hA : ∀ j u, (byteVals l)[j]? = some u → ∃ ad, A = some ad ∧ w.cell? (ad.add j) = some u ∧ (ad.add j).block ≠ b ∧ some (ad.add j).block ≠ v.ownBlock) (hlen : bs.length + k ≤ 140737488355328) :
   Calls Tryz.prog 172 #[.pointer (some ⟨b, 0, none⟩), .slice A k cap] w fun e w' => e = .returned (.tuple #[.int .i64 k, .nilIface]) ∧ BldTo w w' t 5 b v (bs ++ l) := by
 obtain ⟨i0, hi, hz0, hz1, hz2⟩ := info_parts infB3
 go_enter Tryz.func172, Tryz.ntmps172
 go_wp2_with (go_at_call 123; refine (cc_at ht h).mono ?_)
 rintro e w1 ⟨rfl, hb1, h1⟩
 have c0 : w1.cell? ⟨b, 0, none⟩ = some (.pointer (some ⟨b, 0, none⟩)) := by rw [Lib.cell_of_heap h1.blk]; rfl
 have c1 : w1.cell? ⟨b, 1, none⟩ = some v := by rw [Lib.cell_of_heap h1.blk]; rfl
 have hA1 : ∀ j u, (byteVals l)[j]? = some u → ∃ ad, A = some ad ∧ w1.cell? (ad.add j) = some u := by
   intro j u hj
   obtain ⟨ad, e1, e2, e3, e4⟩ := hA j u hj
   exact ⟨ad, e1, by rw [World.cell?_of_block (hb1.block _ (cell_lt e2) e3 e4)]; exact e2⟩
 clear hA
 go_wp2_with (at_builtin; refine wpList_app (t := 115) rfl rfl ubyte3 hi hz0 hz1 hz2 rfl h1.own (A := A) (k := k) (cap := cap) rfl (news := byteVals l) (by rw [byteVals_len]; exact hl) hA1 ?c2 ?c4 ?_)
 case c2 => intro u hu; simp only [byteVals, List.mem_map] at hu; obtain ⟨x, _, rfl⟩ := hu; rfl
 case c4 => omega
 intro v' w2 hown' hgrow hv
 have hlt : b < w1.heap.size := (Array.getElem?_eq_some_iff.1 h1.blk).1
 have hb2 : w2.heap[b]? = some (.cells #[.pointer (some ⟨b, 0, none⟩), v] t (0, 0)) := by
   rw [hgrow.block b hlt (fun e => h1.ne e.symm)]
   exact h1.blk
 have d0 : w2.cell? ⟨b, 0, none⟩ = some (.pointer (some ⟨b, 0, none⟩)) := by rw [Lib.cell_of_heap hb2]; rfl
 have d1 : w2.cell? ⟨b, 1, none⟩ = some v := by rw [Lib.cell_of_heap hb2]; rfl
 have f1 : w2.frozen? ⟨b, 1, none⟩ = false := Lib.frozen_of_heap hb2 1
 have hfin := BldAt.wrote hb1 h1 (bs' := bs ++ l) (by rw [show byteVals (bs ++ l) = byteVals bs ++ byteVals l by simp [byteVals]]; simpa [hl] using hown') hgrow hv
 obtain ⟨ao, n', cap, rfl⟩ : ∃ ao n' cap, v' = .slice ao n' cap := by
   rcases hown'.2 with ⟨hv, _⟩ | ⟨g, cap, cur, hv, _⟩
   · exact ⟨_, _, _, hv⟩
   · exact ⟨_, _, _, hv⟩
 clear hA1
 go_wp2
 go_ret2
 exact ⟨rfl, hfin⟩
def gWW : List SV → Nat → Nat → List UInt8 → Option (Prop × SV × List UInt8)
 | [.d (.sl rows)], t, u, bs => (bytesOf rows).bind fun l => if bldT t = true ∧ u = 5 then some (bs.length + rows.length ≤ 140737488355328 ∧ bytesIn rows, .tup [.d (.v (.int .i64 rows.length)), .d (.v .nilIface)], bs ++ l) else none
 | _, _, _, _ => none
theorem sWW {G : World → Prop} : Sound G Tryz.prog 172 (bldC gWW) := by
 refine bld_sound ⟨Tryz.f172, by kernel_rfl, by kernel_rfl, by kernel_rfl⟩ ?_
 intro args t u bs p x bs' hg hp w b q v hb c m vs hc ha
 unfold gWW at hg
 split at hg
 · obtain ⟨l, hl, hg⟩ := Option.bind_eq_some_iff.1 hg
   obtain ⟨⟨h1, rfl⟩, hg2⟩ := Option.ite_none_right_eq_some.1 hg
   simp only [Option.some.injEq, Prod.mk.injEq] at hg2
   obtain ⟨rfl, rfl, rfl⟩ := hg2
   match vs, ha with
   | [y], ha =>
     simp only [CnL, and_true] at ha
     obtain ⟨A, cap, rfl, hlc, hrows⟩ := sl_bytes hp.2 hl ha
     exact ⟨_, fun m n c => by simp only [Cn]; exact ⟨_, rfl, by simp only [CnL, Cn, and_true]; exact ⟨⟨rfl, rfl⟩, ⟨rfl, rfl⟩⟩⟩, ww_at h1 hb A _ cap l hlc (fun j u hj => by
       obtain ⟨ad, e1, e2⟩ := hrows j u hj
       exact ⟨ad, e1, hc _ _ e2⟩) hp.1⟩
   | [], ha => simp [CnL] at ha
   | _ :: _ :: _, ha => simp [CnL] at ha
 · simp only [reduceCtorEq] at hg
end Go.Proofs.YtlghobefhmpfkaaGreatDoor
namespace Go.Proofs.YtlghobefhmpfkaaGreatDoor
open Go Go.Ev
set_option maxRecDepth 100000
variable {G : World → Prop}
def qb (c : UInt8) : List UInt8 := if plainB c.toNat = true then [c] else [92, hexs.getD (c.toNat / 16) 0, hexs.getD (c.toNat % 16) 0]
def quo (l : List UInt8) : List UInt8 := 34 :: l.flatMap qb ++ [34]
theorem qb_len (c : UInt8) : (qb c).length ≤ 3 := by unfold qb; split <;> simp
theorem quo_len (l : List UInt8) : (quo l).length ≤ 3 * l.length + 2 := by
 unfold quo
 have : ∀ l : List UInt8, (l.flatMap qb).length ≤ 3 * l.length := by
   intro l
   induction l with
   | nil => simp
   | cons c r ih => have := qb_len c; simp only [List.flatMap_cons, List.length_append, List.length_cons]; omega
 have := this l
 simp only [List.length_append, List.length_cons, List.length_nil]; omega
def C124 : Contract := pureC fun args => match args with
 | [.d (.v (.string s))] => some (s.size ≤ 1099511627776, .d (.v (str (quo s.data.toList))))
 | _ => none
theorem take_snoc (l : List UInt8) (i : Nat) (h : i < l.length) : l.take (i + 1) = l.take i ++ [l.getD i 0] := by
 rw [List.take_succ_eq_append_getElem h]
 simp [List.getD_eq_getElem?_getD, List.getElem?_eq_getElem h]
theorem nib_hi (c : UInt8) : ((c.toNat : Nat) : Int).fdiv (2 ^ min 4 IntKind.u8.bits) = ((c.toNat / 16 : Nat) : Int) := by
 have : ∀ n : Fin 256, ((n.val : Nat) : Int).fdiv (2 ^ min 4 IntKind.u8.bits) = ((n.val / 16 : Nat) : Int) := by decide +kernel
 exact this ⟨c.toNat, c.toNat_lt⟩
theorem nib_lo (c : UInt8) : IntKind.u8.wrap ((BitVec.ofInt IntKind.u8.bits ((c.toNat : Nat) : Int) &&& BitVec.ofInt IntKind.u8.bits 15).toNat : Int) = ((c.toNat % 16 : Nat) : Int) := by
 have : ∀ n : Fin 256, IntKind.u8.wrap ((BitVec.ofInt IntKind.u8.bits ((n.val : Nat) : Int) &&& BitVec.ofInt IntKind.u8.bits 15).toNat : Int) = ((n.val % 16 : Nat) : Int) := by decide +kernel
 exact this ⟨c.toNat, c.toNat_lt⟩
theorem flat_len (q : List UInt8) (i : Nat) : ((q.take i).flatMap qb).length ≤ 3 * q.length := by
 have h := quo_len (q.take i)
 unfold quo at h
 simp only [List.length_append, List.length_cons, List.length_nil, List.length_take] at h
 omega
theorem flat_snoc (q : List UInt8) (i : Nat) (h : i < q.length) : (q.take (i + 1)).flatMap qb = (q.take i).flatMap qb ++ qb (q.getD i 0) := by
 rw [take_snoc q i h, List.flatMap_append]; simp
theorem s124 : Sound G Tryz.prog 124 C124 := by
 refine sd124 (T := tabT [(171, C171), (170, bldC gWB), (172, bldC gWW), (70, strC 5)]) (tab_cons s171 (tab_cons sWB (tab_cons sWW (tab_cons sST tab_nil)))) (pureC_lawful _) (pure_hX fun args p x K h hp hk => ?_)
 split at h <;> simp only [Option.some.injEq, Prod.mk.injEq, reduceCtorEq] at h
 obtain ⟨rfl, rfl⟩ := h
 refine ⟨Nat.le_of_ble_eq_true rfl, ?_⟩
 rename_i s
 obtain ⟨q, rfl⟩ := ex_str s
 simp only [sem_str] at hk hp
 simp -dsimp -implicitDefEqProofs only [S124, R124, C171, gWB, gWW, bldT, ↓Ev.xStp_eq, ↓Ev.P, Ev.Q, Ev.Z, simprocAttr]
 refine xLoop_intro (fun n st => ∃ i : Nat, i ≤ q.length ∧ n = q.length - i ∧
     st = ⟨[(0, .d (.v (.string ⟨q.toArray⟩))), (3, .ptr 0 0), (8, .d (.v (.int .i64 q.length))), (9, .d (.v (.int .i64 i)))], 1, [(0, .bld 117 5 (34 :: (q.take i).flatMap qb))]⟩) q.length [0] ?_ ?_ ?_
 · simp -dsimp -implicitDefEqProofs only [↓Ev.xStp_eq, ↓Ev.P, Ev.Q, Ev.Z, simprocAttr]
 · simp -dsimp -implicitDefEqProofs only [↓Ev.xStp_eq, ↓Ev.P, Ev.Q, Ev.Z, simprocAttr]
   refine ⟨0, by omega, by omega, rfl⟩
 · rintro n st ⟨i, hi, hn, rfl⟩
   have hf := flat_len q i
   have hb := (q.getD i 0).toNat_lt
   simp -dsimp -implicitDefEqProofs only [C171, gWB, gWW, bldT, nib_hi, nib_lo, ↓Ev.xStp_eq, ↓Ev.P, Ev.Q, Ev.Z, simprocAttr]
   repeat' (first | refine And.intro ?_ ?_ | intro _)
   all_goals try omega
   · rename_i hl hp
     refine xAgain_intro (q.length - (i + 1)) [0] (by omega) (by simp -dsimp -implicitDefEqProofs only [↓Ev.xStp_eq, ↓Ev.P, Ev.Q, Ev.Z, simprocAttr]) ⟨i + 1, by omega, rfl, ?_⟩
     rw [flat_snoc q i (by omega), qb, if_pos hp]
     simp -dsimp -implicitDefEqProofs only [↓Ev.xStp_eq, ↓Ev.P, Ev.Q, Ev.Z, simprocAttr]
     simp
   · rename_i hl hp
     refine xAgain_intro (q.length - (i + 1)) [0] (by omega) (by simp -dsimp -implicitDefEqProofs only [↓Ev.xStp_eq, ↓Ev.P, Ev.Q, Ev.Z, simprocAttr]) ⟨i + 1, by omega, rfl, ?_⟩
     rw [flat_snoc q i (by omega), qb, if_neg (by rw [hp]; exact Bool.false_ne_true)]
     simp -dsimp -implicitDefEqProofs only [↓Ev.xStp_eq, ↓Ev.P, Ev.Q, Ev.Z, simprocAttr]
     simp
   · rename_i hl
     rw [List.take_of_length_le (by omega)]
     exact hk
theorem quo16 (c : UInt8) : IntKind.u8.wrap (((c.toNat : Nat) : Int).tdiv 16) = ((c.toNat / 16 : Nat) : Int) := by
 have : ∀ n : Fin 256, IntKind.u8.wrap (((n.val : Nat) : Int).tdiv 16) = ((n.val / 16 : Nat) : Int) := by decide +kernel
 exact this ⟨c.toNat, c.toNat_lt⟩
theorem rem16 (c : UInt8) : ((c.toNat : Nat) : Int).tmod 16 = ((c.toNat % 16 : Nat) : Int) := by
 have : ∀ n : Fin 256, ((n.val : Nat) : Int).tmod 16 = ((n.val % 16 : Nat) : Int) := by decide +kernel
 exact this ⟨c.toNat, c.toNat_lt⟩
theorem s206 : Sound G Tryz.prog 206 C124 := by
 refine sd206 (T := tabT [(204, C171)]) (tab_cons s204 tab_nil) (pureC_lawful _) (pure_hX fun args p x K h hp hk => ?_)
 split at h <;> simp only [Option.some.injEq, Prod.mk.injEq, reduceCtorEq] at h
 obtain ⟨rfl, rfl⟩ := h
 refine ⟨Nat.le_of_ble_eq_true rfl, ?_⟩
 rename_i s
 obtain ⟨q, rfl⟩ := ex_str s
 simp only [sem_str] at hk hp
 simp -dsimp -implicitDefEqProofs only [S206, R206, C171, ↓Ev.xStp_eq, ↓Ev.P, Ev.Q, Ev.Z, simprocAttr]
 refine xLoop_intro (fun n st => ∃ i : Nat, i ≤ q.length ∧ n = q.length - i ∧
     st = ⟨[(0, .d (.v (.string ⟨q.toArray⟩))), (3, .own 0), (4, .d (.v (.int .i64 i)))], 1, [(0, .row 5 1 (byteRows (34 :: (q.take i).flatMap qb)))]⟩) q.length [0] ?_ ?_ ?_
 · simp -dsimp -implicitDefEqProofs only [↓Ev.xStp_eq, ↓Ev.P, Ev.Q, Ev.Z, simprocAttr]
 · simp -dsimp -implicitDefEqProofs only [↓Ev.xStp_eq, ↓Ev.P, Ev.Q, Ev.Z, simprocAttr]
   refine ⟨0, by omega, by omega, rfl⟩
 · rintro n st ⟨i, hi, hn, rfl⟩
   have hf := flat_len q i
   have hb := (q.getD i 0).toNat_lt
   simp -dsimp -implicitDefEqProofs only [C171, quo16, rem16, ↓Ev.xStp_eq, ↓Ev.P, Ev.Q, Ev.Z, simprocAttr]
   repeat' (first | refine And.intro ?_ ?_ | intro _)
   all_goals try omega
   · rename_i hl hp
     refine xAgain_intro (q.length - (i + 1)) [2] (by omega) (by simp -dsimp -implicitDefEqProofs only [↓Ev.xStp_eq, ↓Ev.P, Ev.Q, Ev.Z, simprocAttr]) ⟨i + 1, by omega, rfl, ?_⟩
     rw [flat_snoc q i (by omega), qb, if_pos hp]
     simp -dsimp -implicitDefEqProofs only [↓Ev.xStp_eq, ↓Ev.P, Ev.Q, Ev.Z, simprocAttr]
     simp [byteRows]
   · rename_i hl hp
     refine xAgain_intro (q.length - (i + 1)) [2] (by omega) (by simp -dsimp -implicitDefEqProofs only [↓Ev.xStp_eq, ↓Ev.P, Ev.Q, Ev.Z, simprocAttr]) ⟨i + 1, by omega, rfl, ?_⟩
     rw [flat_snoc q i (by omega), qb, if_neg (by rw [hp]; exact Bool.false_ne_true)]
     simp -dsimp -implicitDefEqProofs only [↓Ev.xStp_eq, ↓Ev.P, Ev.Q, Ev.Z, simprocAttr]
     simp [byteRows]
   · rename_i hl
     rw [List.take_of_length_le (by omega)]
     exact hk
def oddB (c : UInt8) : Bool := decide ((c.toNat : Int) < 33) || decide (126 < (c.toNat : Int)) || decide ((c.toNat : Int) = 34)
abbrev nowh : List UInt8 := [47, 100, 101, 118, 47, 110, 117, 108, 108]
def nameS (l : List UInt8) : List UInt8 := if l = [] then nowh else if l = nowh ∨ l.any oddB = true then quo l else l
def decS (l : List UInt8) : List UInt8 := if l = nowh then [] else match l with
 | 34 :: _ => ((unqL l).map (·.1)).getD []
 | _ => l
def namedS (l : List UInt8) : List UInt8 × Int := if 64 < (decS l).length ∨ nameS (decS l) ≠ l then ([], 253) else (decS l, 0)
theorem oct_all (c : UInt8) (h : plainB c.toNat = false) : oct2 (hexs.getD (c.toNat / 16) 0 :: hexs.getD (c.toNat % 16) 0 :: []) = ((c.toNat : Int), true) := by
 have : ∀ n : Fin 256, plainB ((n.val : Nat) : Int) = false → oct2 (hexs.getD (n.val / 16) 0 :: hexs.getD (n.val % 16) 0 :: []) = (((n.val : Nat) : Int), true) := by decide +kernel
 exact this ⟨c.toNat, c.toNat_lt⟩ h
theorem oct_more (a b : UInt8) (r : List UInt8) : oct2 (a :: b :: r) = oct2 (a :: b :: []) := rfl
theorem unq_quo : ∀ (l out rest : List UInt8), unq (l.flatMap qb ++ 34 :: rest) out = some (out ++ l, rest)
 | [], out, rest => by simp [unq_end]
 | c :: l, out, rest => by
   have ih := unq_quo l (out ++ [c]) rest
   simp only [List.flatMap_cons]
   by_cases hp : plainB c.toNat = true
   · have e : qb c = [c] := by unfold qb; rw [if_pos hp]
     have h34 : c ≠ 34 := by rintro rfl; revert hp; decide
     rw [e, List.cons_append, List.cons_append, List.nil_append, unq_plain _ _ h34 hp, ih]
     simp
   · have e : qb c = [92, hexs.getD (c.toNat / 16) 0, hexs.getD (c.toNat % 16) 0] := by unfold qb; rw [if_neg hp]
     have hp' : plainB c.toNat = false := by simpa using hp
     have h2 := oct_all c hp'
     have h3 := unq_oct (hexs.getD (c.toNat / 16) 0 :: hexs.getD (c.toNat % 16) 0 :: (l.flatMap qb ++ 34 :: rest)) out (by rw [oct_more, h2])
     rw [e]
     simp only [List.cons_append, List.nil_append]
     rw [h3.2.1, oct_more, h2]
     simp only [List.drop_succ_cons, List.drop_zero, Int.toNat_natCast, UInt8.ofNat_toNat]
     rw [ih]; simp
theorem unqL_quo (l rest : List UInt8) : unqL (quo l ++ rest) = some (l, rest) := by
 show unqL (34 :: (l.flatMap qb ++ [34]) ++ rest) = _
 rw [List.cons_append, unqL, List.append_assoc]
 exact unq_quo l [] rest
theorem unq_len : ∀ (n : Nat) (l out o r : List UInt8), l.length ≤ n → unq l out = some (o, r) → o.length ≤ out.length + l.length
 | n, [], out, o, r, hn, h => by rw [unq] at h; cases h
 | 0, c :: l, out, o, r, hn, h => by simp at hn
 | n + 1, c :: l, out, o, r, hn, h => by
   simp only [List.length_cons] at hn ⊢
   rw [unq] at h
   split at h
   · simp only [Option.some.injEq, Prod.mk.injEq] at h; obtain ⟨rfl, _⟩ := h; omega
   · split at h
     · have := unq_len n l _ o r (by omega) h
       simp only [List.length_append, List.length_cons, List.length_nil] at this; omega
     · split at h
       · have := unq_len n (l.drop 2) _ o r (by simp; omega) h
         simp only [List.length_append, List.length_cons, List.length_nil, List.length_drop] at this; omega
       · cases h
theorem unqL_len {l o r : List UInt8} (h : unqL l = some (o, r)) : o.length ≤ l.length := by
 unfold unqL at h
 split at h
 · have := unq_len _ _ _ _ _ (Nat.le_refl _) h; simp at this ⊢; omega
 · cases h
theorem decS_len (l : List UInt8) : (decS l).length ≤ l.length := by
 unfold decS
 split
 · simp
 · split
   · cases h : unqL (34 :: _) with
     | none => simp
     | some z => obtain ⟨o, r⟩ := z; simpa using unqL_len h
   · exact Nat.le_refl _
theorem odd34 {l : List UInt8} (h : l.any oddB = false) : ∀ r, l ≠ 34 :: r := by
 rintro r rfl
 simp [oddB] at h
theorem named_more {l o r : List UInt8} (h : unqL l = some (o, r)) (hr : r ≠ []) : nameS o ≠ l := by
 intro e
 have h34 : ∃ m, l = 34 :: m := by unfold unqL at h; split at h; exact ⟨_, rfl⟩; cases h
 obtain ⟨m, rfl⟩ := h34
 unfold nameS at e
 split at e
 · cases e
 · split at e
   · rw [← e] at h
     have := unqL_quo o []
     rw [List.append_nil, h] at this
     simp at this
     exact hr this
   · rename_i h2
     have h3 : o.any oddB = false := by simpa using fun e => h2 (.inr e)
     exact odd34 h3 m e
theorem named_bad {l : List UInt8} (h : unqL l = none) {m : List UInt8} (hl : l = 34 :: m) : nameS (decS l) ≠ l := by
 subst hl
 unfold decS
 rw [if_neg (by simp)]
 simp only [h]
 simp [nameS]
def C68 : Contract := pureC fun args => match args with
 | [.d (.v (.string s))] => some (s.size ≤ 1099511627776, .d (.v (str (nameS s.data.toList))))
 | _ => none
theorem any_snoc (q : List UInt8) (i : Nat) (h : i < q.length) : (q.take (i + 1)).any oddB = ((q.take i).any oddB || oddB (q.getD i 0)) := by
 rw [take_snoc q i h]; simp
theorem any_out (q : List UInt8) (i : Nat) (h : i < q.length) (h2 : oddB (q.getD i 0) = true) : q.any oddB = true := by
 rw [List.any_eq_true]
 refine ⟨q.getD i 0, ?_, h2⟩
 rw [List.getD_eq_getElem?_getD, List.getElem?_eq_getElem h]
 simp
theorem s68 : Sound G Tryz.prog 68 C68 := by
 refine sd68 (T := tabT [(124, C124)]) (tab_cons s124 tab_nil) (pureC_lawful _) (pure_hX fun args p x K h hp hk => ?_)
 split at h <;> simp only [Option.some.injEq, Prod.mk.injEq, reduceCtorEq] at h
 obtain ⟨rfl, rfl⟩ := h
 refine ⟨Nat.le_of_ble_eq_true rfl, ?_⟩
 rename_i s
 obtain ⟨q, rfl⟩ := ex_str s
 simp only [sem_str] at hk hp
 simp -dsimp -implicitDefEqProofs only [S68, R68, C124, ↓Ev.xStp_eq, ↓Ev.P, Ev.Q, Ev.Z, simprocAttr]
 refine xLoop_intro (fun n st => ∃ i : Nat, i ≤ q.length ∧ n = q.length - i ∧
     st = ⟨[(0, .d (.v (.string ⟨q.toArray⟩))), (3, .d (.v (.bool (decide (q = nowh) || (q.take i).any oddB)))), (8, .d (.v (.int .i64 q.length))), (9, .d (.v (.int .i64 i)))], 0, []⟩) q.length [] ?_ ?_ ?_
 · simp -dsimp -implicitDefEqProofs only [↓Ev.xStp_eq, ↓Ev.P, Ev.Q, Ev.Z, simprocAttr]
 · simp -dsimp -implicitDefEqProofs only [↓Ev.xStp_eq, ↓Ev.P, Ev.Q, Ev.Z, simprocAttr]
   refine ⟨0, by omega, by omega, by simp⟩
 · rintro n st ⟨i, hi, hn, rfl⟩
   simp -dsimp -implicitDefEqProofs only [C124, ↓Ev.xStp_eq, ↓Ev.P, Ev.Q, Ev.Z, simprocAttr]
   repeat' (first | with_reducible assumption | (with_reducible refine And.left (b := _) ?_; with_reducible assumption) | refine And.intro ?_ ?_ | intro _)
   all_goals try omega
   · rename_i hl
     refine xAgain_intro (q.length - (i + 1)) [] (by omega) (by simp -dsimp -implicitDefEqProofs only [↓Ev.xStp_eq, ↓Ev.P, Ev.Q, Ev.Z, simprocAttr]) ⟨i + 1, by omega, rfl, ?_⟩
     rw [any_snoc q i (by omega)]
     simp -dsimp -implicitDefEqProofs only [↓Ev.xStp_eq, ↓Ev.P, Ev.Q, Ev.Z, simprocAttr]
     simp [oddB, Bool.or_assoc]
   · rename_i hl h0
     have : nameS q = nowh := by rw [h0]; rfl
     rw [this] at hk; exact hk
   · rename_i hl h0 h1
     rw [List.take_of_length_le (by omega)] at h1
     have : nameS q = quo q := by rw [nameS, if_neg h0, if_pos h1]
     rw [this] at hk; exact hk
   · rename_i hl h0 h1
     rw [List.take_of_length_le (by omega)] at h1
     have : nameS q = q := by rw [nameS, if_neg h0, if_neg (by rintro (h | h); exact h1.1 h; rw [h] at h1; exact absurd h1.2 (by decide))]
     rw [this] at hk; exact hk
theorem s183 : Sound G Tryz.prog 183 C68 := by
 refine sd183 (T := tabT [(206, C124)]) (tab_cons s206 tab_nil) (pureC_lawful _) (pure_hX fun args p x K h hp hk => ?_)
 split at h <;> simp only [Option.some.injEq, Prod.mk.injEq, reduceCtorEq] at h
 obtain ⟨rfl, rfl⟩ := h
 refine ⟨Nat.le_of_ble_eq_true rfl, ?_⟩
 rename_i s
 obtain ⟨q, rfl⟩ := ex_str s
 simp only [sem_str] at hk hp
 simp -dsimp -implicitDefEqProofs only [S183, R183, C124, ↓Ev.xStp_eq, ↓Ev.P, Ev.Q, Ev.Z, simprocAttr]
 refine ⟨fun h0 => ?_, fun h0 => ?_⟩
 · have : nameS q = nowh := by rw [h0]; rfl
   rw [this] at hk; exact hk
 refine xLoop_intro (fun n st => ∃ i : Nat, i ≤ q.length ∧ n = q.length - i ∧ (q.take i).any oddB = false ∧
     st = ⟨[(0, .d (.v (.string ⟨q.toArray⟩))), (3, .d (.v (.int .i64 i)))], 0, []⟩) q.length [] ?_ ?_ ?_
 · simp -dsimp -implicitDefEqProofs only [↓Ev.xStp_eq, ↓Ev.P, Ev.Q, Ev.Z, simprocAttr]
 · simp -dsimp -implicitDefEqProofs only [↓Ev.xStp_eq, ↓Ev.P, Ev.Q, Ev.Z, simprocAttr]
   refine ⟨0, by omega, by omega, by simp, rfl⟩
 · rintro n st ⟨i, hi, hn, ho, rfl⟩
   simp -dsimp -implicitDefEqProofs only [C124, ↓Ev.xStp_eq, ↓Ev.P, Ev.Q, Ev.Z, simprocAttr]
   repeat' (first | with_reducible assumption | (with_reducible refine And.left (b := _) ?_; with_reducible assumption) | refine And.intro ?_ ?_ | intro _)
   all_goals try omega
   · rename_i hl h
     have h1 : oddB (q.getD i 0) = true := by simpa [oddB, or_assoc] using h
     have : nameS q = quo q := by rw [nameS, if_neg h0, if_pos (.inr (any_out q i (by omega) h1))]
     rw [this] at hk; exact hk
   · rename_i hl h
     refine xAgain_intro (q.length - (i + 1)) [] (by omega) (by simp -dsimp -implicitDefEqProofs only [↓Ev.xStp_eq, ↓Ev.P, Ev.Q, Ev.Z, simprocAttr]) ⟨i + 1, by omega, rfl, ?_, ?_⟩
     · rw [any_snoc q i (by omega), ho]; simpa [oddB, and_assoc] using h
     · simp -dsimp -implicitDefEqProofs only [↓Ev.xStp_eq, ↓Ev.P, Ev.Q, Ev.Z, simprocAttr]
       rfl
   · rename_i hl h
     have : nameS q = quo q := by rw [nameS, if_neg h0, if_pos (.inl h)]
     rw [this] at hk; exact hk
   · rename_i hl h
     rw [List.take_of_length_le (by omega)] at ho
     have : nameS q = q := by rw [nameS, if_neg h0, if_neg (by rintro (e | e); exact h e; rw [e] at ho; cases ho)]
     rw [this] at hk; exact hk
end Go.Proofs.YtlghobefhmpfkaaGreatDoor
namespace Go.Proofs.YtlghobefhmpfkaaGreatDoor
open Go Go.Ev
set_option maxRecDepth 100000
def A71 : Ann := ⟨fun r i => if r = 1 ∧ i = 17 then 1 else 0, fun _ => none, fun r => if r = 1 then some (false, [2, 3]) else none, fun _ => []⟩
def S71 : SCode :=
 (.seq (.ops [⟨none, (some 2), .bx 2 55 3 (.s 0), false⟩,
   ⟨none, (some 3), .bx 3 55 3 (.s 1), false⟩,
   ⟨none, (some 4), .mv 4 (.k (Value.bool false)), false⟩])
 (.seq (.seq (.keep [2, 3]) (.ops [⟨none, (some 5), .fa 5 0 (.s 2), false⟩,
   ⟨none, (some 6), .ld 6 false 1 (.s 5), false⟩,
   ⟨none, (some 7), .fa 7 0 (.s 3), false⟩,
   ⟨none, (some 8), .ld 8 false 1 (.s 7), false⟩,
   ⟨none, (some 9), .bin 9 .eql (.s 6) (.s 8), false⟩,
   ⟨none, (some 10), .mv 10 (.s 9), false⟩,
   ⟨(some (10, true)), (some 11), .fa 11 1 (.s 2), false⟩,
   ⟨(some (10, true)), (some 12), .ld 12 false 1 (.s 11), false⟩,
   ⟨(some (10, true)), (some 13), .fa 13 1 (.s 3), false⟩,
   ⟨(some (10, true)), (some 14), .ld 14 false 1 (.s 13), true⟩,
   ⟨(some (10, true)), (some 15), .bin 15 .eql (.s 12) (.s 14), false⟩,
   ⟨none, (some 16), .pk 16 (.s 10) (.s 15) (.k (Value.bool false)), false⟩,
   ⟨none, (some 17), .mv 17 (.s 16), false⟩,
   ⟨(some (17, true)), (some 18), .fa 18 2 (.s 2), false⟩,
   ⟨(some (17, true)), (some 19), .ld 19 false 1 (.s 18), false⟩,
   ⟨(some (17, true)), (some 20), .fa 20 2 (.s 3), false⟩,
   ⟨(some (17, true)), (some 21), .ld 21 false 1 (.s 20), false⟩,
   ⟨(some (17, true)), (some 22), .call (some 22) 21 true [(.s 19), (.s 21)], false⟩,
   ⟨none, (some 23), .pk 23 (.s 17) (.s 22) (.k (Value.bool false)), false⟩,
   ⟨none, (some 4), .mv 4 (.s 23), true⟩]))
 .ret))
def R71 : List RR := [.sl 4]
theorem sd71 : SdT Tryz.prog 71 24 S71 R71 := fun hT hl hC hit => sdX (F := Tryz.f71) (A := A71) mo (by kernel_rfl) (by kernel_rfl) (by kernel_rfl) (by kernel_rfl) hT hl hC hit
def A22 : Ann := ⟨fun r i => if r = 2 ∧ i = 7 then 1 else if r = 2 ∧ i = 13 then 1 else if r = 2 ∧ i = 19 then 1 else if r = 2 ∧ i = 27 then 1 else if r = 2 ∧ i = 35 then 1 else if r = 6 ∧ i = 11 then 1 else 0, fun r => if r = 6 then some [(0, true, []), (1, true, []), (2, true, []), (3, false, []), (4, true, []), (5, true, []), (6, true, []), (7, true, []), (8, true, []), (9, true, []), (10, false, []), (11, true, []), (12, true, []), (13, true, []), (14, true, [])] else none, fun r => if r = 2 then some (false, [1, 3]) else if r = 4 then some (false, [1, 3]) else if r = 6 then some (false, [1, 3]) else if r = 8 then some (false, [1, 3]) else none, fun _ => []⟩
def S22 : SCode :=
 (.seq (.ops [⟨none, (some 1), .bx 1 47 5 (.s 0), false⟩,
   ⟨none, (some 2), .mv 2 (.k (Value.int .i64 0)), false⟩])
 (.seq (.ops [⟨none, (some 3), .mv 3 (.f 57), false⟩])
 (.seq (.block 0 (.seq (.seq (.keep [1, 3]) (.ops [⟨none, (some 5), .fa 5 0 (.s 1), false⟩,
   ⟨none, (some 6), .ld 6 false 1 (.s 5), false⟩,
   ⟨none, (some 7), .call (some 7) 58 false [(.s 6)], false⟩,
   ⟨none, (some 8), .not 8 (.s 7), false⟩,
   ⟨none, (some 9), .mv 9 (.s 8), false⟩,
   ⟨(some (9, false)), (some 10), .fa 10 1 (.s 1), false⟩,
   ⟨(some (9, false)), (some 11), .ld 11 false 1 (.s 10), false⟩,
   ⟨(some (9, false)), (some 12), .call (some 12) 58 true [(.s 11)], false⟩,
   ⟨(some (9, false)), (some 13), .not 13 (.s 12), false⟩,
   ⟨none, (some 14), .pk 14 (.s 9) (.k (Value.bool true)) (.s 13), true⟩,
   ⟨none, (some 15), .mv 15 (.s 14), false⟩,
   ⟨(some (15, false)), (some 16), .fa 16 2 (.s 1), false⟩,
   ⟨(some (15, false)), (some 17), .ld 17 false 1 (.s 16), false⟩,
   ⟨(some (15, false)), (some 18), .call (some 18) 58 true [(.s 17)], false⟩,
   ⟨(some (15, false)), (some 19), .not 19 (.s 18), false⟩,
   ⟨none, (some 20), .pk 20 (.s 15) (.k (Value.bool true)) (.s 19), false⟩,
   ⟨none, (some 21), .mv 21 (.s 20), false⟩,
   ⟨(some (21, false)), (some 22), .fa 22 3 (.s 1), false⟩,
   ⟨(some (21, false)), (some 23), .ld 23 false 1 (.s 22), false⟩,
   ⟨(some (21, false)), (some 24), .call (some 24) 58 true [(.s 23)], true⟩,
   ⟨(some (21, false)), (some 25), .not 25 (.s 24), false⟩,
   ⟨none, (some 26), .pk 26 (.s 21) (.k (Value.bool true)) (.s 25), false⟩,
   ⟨none, (some 27), .mv 27 (.s 26), false⟩,
   ⟨(some (27, false)), (some 28), .fa 28 0 (.s 1), false⟩,
   ⟨(some (27, false)), (some 29), .ld 29 false 1 (.s 28), false⟩,
   ⟨(some (27, false)), (some 30), .fa 30 1 (.s 1), false⟩,
   ⟨(some (27, false)), (some 31), .ld 31 false 1 (.s 30), false⟩,
   ⟨(some (27, false)), (some 32), .mm 32 true (.k (Value.int .i64 1)) [(.s 31)], false⟩,
   ⟨(some (27, false)), (some 33), .bin 33 .lss (.s 29) (.s 32), false⟩,
   ⟨none, (some 34), .pk 34 (.s 27) (.k (Value.bool true)) (.s 33), true⟩,
   ⟨none, (some 35), .mv 35 (.s 34), false⟩,
   ⟨(some (35, false)), (some 36), .fa 36 2 (.s 1), false⟩,
   ⟨(some (35, false)), (some 37), .ld 37 false 1 (.s 36), false⟩,
   ⟨(some (35, false)), (some 38), .fa 38 3 (.s 1), false⟩,
   ⟨(some (35, false)), (some 39), .ld 39 false 1 (.s 38), false⟩,
   ⟨(some (35, false)), (some 40), .mm 40 true (.k (Value.int .i64 1)) [(.s 39)], false⟩,
   ⟨(some (35, false)), (some 41), .bin 41 .lss (.s 37) (.s 40), false⟩,
   ⟨none, (some 42), .pk 42 (.s 35) (.k (Value.bool true)) (.s 41), false⟩,
   ⟨none, (some 4), .mv 4 (.s 42), false⟩]))
 (.cond (.s 4) (.seq (.ops [⟨none, (some 2), .mv 2 (.k (Value.int .i64 2)), false⟩])
 .ret) (.seq (.seq (.keep [1, 3]) (.ops [⟨none, (some 44), .ld 44 true 5 (.s 1), false⟩,
   ⟨none, (some 45), .call (some 45) 59 false [(.s 44)], false⟩,
   ⟨none, (some 46), .not 46 (.s 45), false⟩,
   ⟨none, (some 43), .mv 43 (.s 46), false⟩]))
 (.cond (.s 43) (.seq (.ops [⟨none, (some 2), .mv 2 (.k (Value.int .i64 6)), false⟩])
 .ret) (.seq (.seq (.keep [1, 3]) (.dr [([], true, ⟨none, (some 48), .fa 48 1 (.s 1), false⟩),
   ([], true, ⟨none, (some 49), .ld 49 false 1 (.s 48), false⟩),
   ([], true, ⟨none, (some 50), .ld 50 true 5 (.s 1), false⟩),
   ([], false, ⟨none, (some 51), .call (some 51) 60 false [(.s 50)], false⟩),
   ([], true, ⟨none, (some 52), .len 52 (.s 51), false⟩),
   ([], true, ⟨none, (some 53), .bin 53 .neq (.s 49) (.s 52), false⟩),
   ([], true, ⟨none, (some 54), .mv 54 (.s 53), false⟩),
   ([], true, ⟨(some (54, false)), (some 55), .fa 55 3 (.s 1), false⟩),
   ([], true, ⟨(some (54, false)), (some 56), .ld 56 false 1 (.s 55), false⟩),
   ([], true, ⟨(some (54, false)), (some 57), .ld 57 true 5 (.s 1), true⟩),
   ([], false, ⟨(some (54, false)), (some 58), .call (some 58) 61 false [(.s 57)], false⟩),
   ([], true, ⟨(some (54, false)), (some 59), .len 59 (.s 58), false⟩),
   ([], true, ⟨(some (54, false)), (some 60), .bin 60 .neq (.s 56) (.s 59), false⟩),
   ([], true, ⟨none, (some 61), .pk 61 (.s 54) (.k (Value.bool true)) (.s 60), false⟩),
   ([], true, ⟨none, (some 47), .mv 47 (.s 61), false⟩)]))
 (.cond (.s 47) (.seq (.ops [⟨none, (some 2), .mv 2 (.k (Value.int .i64 120)), false⟩])
 .ret) (.seq (.seq (.keep [1, 3]) (.ops [⟨none, (some 63), .fa 63 4 (.s 1), false⟩,
   ⟨none, (some 64), .ld 64 false 1 (.s 63), false⟩,
   ⟨none, (some 65), .mv 65 (.s 3), false⟩,
   ⟨none, (some 66), .call (some 66) 62 false [(.s 64), (.s 65)], false⟩,
   ⟨none, (some 67), .not 67 (.s 66), false⟩,
   ⟨none, (some 62), .mv 62 (.s 67), false⟩]))
 (.cond (.s 62) (.seq (.ops [⟨none, (some 2), .mv 2 (.k (Value.int .i64 50)), false⟩])
 .ret) .skip)))))))))
 (.seq (.ops [⟨none, (some 2), .mv 2 (.k (Value.int .i64 0)), false⟩])
 .ret))))
def R22 : List RR := [.sl 2]
theorem sd22 : SdT Tryz.prog 22 68 S22 R22 := fun hT hl hC hit => sdX (F := Tryz.f22) (A := A22) mo (by kernel_rfl) (by kernel_rfl) (by kernel_rfl) (by kernel_rfl) hT hl hC hit
def A57 : Ann := ⟨fun _ _ => 0, fun _ => none, fun r => if r = 1 then some (false, [1]) else none, fun _ => []⟩
def S57 : SCode :=
 (.seq (.ops [⟨none, (some 1), .bx 1 103 2 (.s 0), false⟩,
   ⟨none, (some 2), .mv 2 (.k (Value.bool false)), false⟩])
 (.seq (.seq (.keep [1]) (.ops [⟨none, (some 3), .fa 3 0 (.s 1), false⟩,
   ⟨none, (some 4), .ld 4 false 1 (.s 3), false⟩,
   ⟨none, (some 5), .bin 5 .neq (.s 4) (.k (Value.int .u8 32)), false⟩,
   ⟨none, (some 2), .mv 2 (.s 5), false⟩]))
 .ret))
def R57 : List RR := [.sl 2]
theorem sd57 : SdT Tryz.prog 57 6 S57 R57 := fun hT hl hC hit => sdX (F := Tryz.f57) (A := A57) mo (by kernel_rfl) (by kernel_rfl) (by kernel_rfl) (by kernel_rfl) hT hl hC hit
def A21 : Ann := ⟨fun _ _ => 0, fun r => if r = 6 then some [(0, true, []), (1, true, []), (2, true, []), (4, true, []), (5, true, []), (6, true, []), (3, true, []), (7, true, []), (8, false, [0, 1, 2, 3, 4, 5, 6, 7, 8, 9, 10, 11, 12, 13, 14, 15]), (9, true, [])] else none, fun r => if r = 1 then some (false, [0, 1]) else if r = 4 then some (false, [0, 1, 5]) else if r = 5 then some (false, [0, 1, 5]) else if r = 6 then some (false, [0, 1, 5]) else none, fun r => if r = 4 then [0, 1, 5] else []⟩
def S21 : SCode :=
 (.seq (.ops [⟨none, (some 4), .mv 4 (.k (Value.bool false)), false⟩])
 (.seq (.seq (.seq (.keep [0, 1]) (.ops [⟨none, (some 6), .mv 6 (.s 0), false⟩,
   ⟨none, (some 7), .len 7 (.s 6), false⟩,
   ⟨none, (some 8), .mv 8 (.s 1), false⟩,
   ⟨none, (some 9), .len 9 (.s 8), false⟩,
   ⟨none, (some 10), .bin 10 .neq (.s 7) (.s 9), false⟩]))
 (.cond (.s 10) (.seq (.ops [⟨none, (some 4), .mv 4 (.k (Value.bool false)), false⟩])
 .ret) .skip))
 (.seq (.seq (.ops [⟨none, (some 5), .mv 5 (.k (Value.int .i64 0)), false⟩])
 (.block 0 (.loop [0, 1, 5] (.seq (.seq (.seq (.keep [0, 1, 5]) (.ops [⟨none, (some 11), .mv 11 (.s 5), false⟩,
   ⟨none, (some 12), .mv 12 (.s 0), false⟩,
   ⟨none, (some 13), .len 13 (.s 12), false⟩,
   ⟨none, (some 14), .bin 14 .lss (.s 11) (.s 13), false⟩]))
 (.cond (.s 14) .skip (.exit 0)))
 (.seq (.block 1 (.seq (.seq (.keep [0, 1, 5]) (.dr [([], true, ⟨none, (some 17), .mv 17 (.s 0), false⟩),
   ([], true, ⟨none, (some 18), .mv 18 (.s 5), false⟩),
   ([], true, ⟨none, (some 19), .ia 19 5 (.s 17) (.s 18), false⟩),
   ([], true, ⟨none, (some 21), .mv 21 (.s 1), false⟩),
   ([], true, ⟨none, (some 22), .mv 22 (.s 5), false⟩),
   ([], true, ⟨none, (some 23), .ia 23 5 (.s 21) (.s 22), false⟩),
   ([], true, ⟨none, (some 20), .ld 20 true 5 (.s 19), false⟩),
   ([], true, ⟨none, (some 24), .ld 24 true 5 (.s 23), false⟩),
   ([0, 1, 2, 3, 4, 5, 6, 7, 8, 9, 10, 11, 12, 13, 14, 15], false, ⟨none, (some 25), .call (some 25) 56 false [(.s 20), (.s 24)], false⟩),
   ([], true, ⟨none, (some 26), .not 26 (.s 25), true⟩)]))
 (.cond (.s 26) (.seq (.ops [⟨none, (some 4), .mv 4 (.k (Value.bool false)), false⟩])
 .ret) .skip)))
 (.seq (.keep [0, 1, 5]) (.ops [⟨none, (some 15), .mv 15 (.s 5), false⟩,
   ⟨none, (some 16), .binc 16 .add (.s 15) (.k (Value.int .i64 1)), false⟩,
   ⟨none, (some 5), .mv 5 (.s 16), false⟩])))))))
 (.seq (.ops [⟨none, (some 4), .mv 4 (.k (Value.bool true)), false⟩])
 .ret))))
def R21 : List RR := [.sl 4]
theorem sd21 : SdT Tryz.prog 21 27 S21 R21 := fun hT hl hC hit => sdX (F := Tryz.f21) (A := A21) mo (by kernel_rfl) (by kernel_rfl) (by kernel_rfl) (by kernel_rfl) hT hl hC hit
def A58 : Ann := ⟨fun _ _ => 0, fun _ => none, fun r => if r = 1 then some (false, [0]) else none, fun _ => []⟩
def S58 : SCode :=
 (.seq (.ops [⟨none, (some 2), .mv 2 (.k (Value.bool false)), false⟩])
 (.seq (.seq (.keep [0]) (.ops [⟨none, (some 3), .mv 3 (.s 0), false⟩,
   ⟨none, (some 4), .bin 4 .geq (.s 3) (.k (Value.int .i64 0)), false⟩,
   ⟨none, (some 5), .mv 5 (.s 4), false⟩,
   ⟨(some (5, true)), (some 6), .mv 6 (.s 0), false⟩,
   ⟨(some (5, true)), (some 7), .bin 7 .leq (.s 6) (.k (Value.int .i64 2147483647)), false⟩,
   ⟨none, (some 8), .pk 8 (.s 5) (.s 7) (.k (Value.bool false)), false⟩,
   ⟨none, (some 2), .mv 2 (.s 8), false⟩]))
 .ret))
def R58 : List RR := [.sl 2]
theorem sd58 : SdT Tryz.prog 58 9 S58 R58 := fun hT hl hC hit => sdX (F := Tryz.f58) (A := A58) mo (by kernel_rfl) (by kernel_rfl) (by kernel_rfl) (by kernel_rfl) hT hl hC hit
def A59 : Ann := ⟨fun r i => if r = 6 ∧ i = 18 then 1 else 0, fun r => if r = 5 then some [(0, true, []), (8, true, []), (1, true, []), (2, true, []), (3, true, []), (4, true, []), (5, true, []), (6, true, []), (7, true, []), (9, true, []), (10, true, []), (11, true, []), (12, true, []), (16, true, []), (13, true, []), (14, true, []), (15, true, []), (17, true, [])] else none, fun r => if r = 1 then some (false, [1, 2]) else if r = 2 then some (false, [1, 2, 3, 4]) else if r = 4 then some (false, [2, 3, 4, 6]) else if r = 5 then some (false, [2, 3, 4, 6, 7]) else if r = 6 then some (false, [2, 3, 4, 6, 7, 8, 9]) else if r = 8 then some (false, [2, 3, 4, 7, 8, 9]) else if r = 10 then some (false, [3, 4, 8, 9]) else none, fun r => if r = 4 then [2, 3, 4] else []⟩
def S59 : SCode :=
 (.seq (.ops [⟨none, (some 1), .bx 1 47 5 (.s 0), false⟩,
   ⟨none, (some 2), .al 2 4 [(Value.bool false)], false⟩])
 (.seq (.seq (.keep [1, 2]) (.ops [⟨none, (some 3), .al 3 4 [(Value.bool false)], false⟩,
   ⟨none, (some 4), .al 4 4 [(Value.bool false)], false⟩,
   ⟨none, none, .st false 1 (.s 3) (.k (Value.bool false)), false⟩,
   ⟨none, none, .st false 1 (.s 4) (.k (Value.bool false)), false⟩]))
 (.seq (.seq (.seq (.keep [1, 2, 3, 4]) (.ops [⟨none, (some 10), .fa 10 4 (.s 1), false⟩,
   ⟨none, (some 11), .ld 11 false 1 (.s 10), false⟩,
   ⟨none, (some 12), .call (some 12) 115 false [(.s 11)], false⟩]))
 (.block 0 (.each (.s 12) [13, 14] [2, 3, 4] (.ops [⟨none, (some 6), .al 6 103 [(Value.int .u8 0), (Value.string ⟨#[]⟩)], false⟩,
   ⟨none, none, .st true 2 (.s 6) (.s 14), false⟩]) (.block 1 (.seq (.seq (.keep [2, 3, 4, 6]) (.ops [⟨none, (some 15), .fa 15 1 (.s 6), false⟩,
   ⟨none, (some 16), .ld 16 false 1 (.s 15), false⟩,
   ⟨none, (some 17), .call (some 17) 116 false [(.s 16), (.k (Value.int .u8 10))], false⟩,
   ⟨none, (some 7), .mv 7 (.s 17), false⟩]))
 (.seq (.seq (.keep [2, 3, 4, 6, 7]) (.dr [([], true, ⟨none, (some 18), .fa 18 0 (.s 6), false⟩),
   ([], true, ⟨none, (some 26), .fa 26 0 (.s 6), false⟩),
   ([], true, ⟨none, (some 19), .ld 19 false 1 (.s 18), false⟩),
   ([], true, ⟨none, (some 20), .bin 20 .eql (.s 19) (.k (Value.int .u8 32)), false⟩),
   ([], true, ⟨none, (some 21), .mv 21 (.s 20), false⟩),
   ([], true, ⟨(some (21, false)), (some 22), .fa 22 0 (.s 6), false⟩),
   ([], true, ⟨(some (21, false)), (some 23), .ld 23 false 1 (.s 22), false⟩),
   ([], true, ⟨(some (21, false)), (some 24), .bin 24 .eql (.s 23) (.k (Value.int .u8 45)), false⟩),
   ([], true, ⟨none, (some 25), .pk 25 (.s 21) (.k (Value.bool true)) (.s 24), false⟩),
   ([], true, ⟨none, (some 27), .ld 27 false 1 (.s 26), true⟩),
   ([], true, ⟨none, (some 28), .bin 28 .eql (.s 27) (.k (Value.int .u8 32)), false⟩),
   ([], true, ⟨none, (some 29), .mv 29 (.s 28), false⟩),
   ([], true, ⟨(some (29, false)), (some 30), .fa 30 0 (.s 6), false⟩),
   ([], true, ⟨none, (some 8), .mv 8 (.s 25), false⟩),
   ([], true, ⟨(some (29, false)), (some 31), .ld 31 false 1 (.s 30), false⟩),
   ([], true, ⟨(some (29, false)), (some 32), .bin 32 .eql (.s 31) (.k (Value.int .u8 43)), false⟩),
   ([], true, ⟨none, (some 33), .pk 33 (.s 29) (.k (Value.bool true)) (.s 32), false⟩),
   ([], true, ⟨none, (some 9), .mv 9 (.s 33), false⟩)]))
 (.seq (.seq (.seq (.keep [2, 3, 4, 6, 7, 8, 9]) (.ops [⟨none, (some 34), .mv 34 (.s 8), false⟩,
   ⟨none, (some 35), .not 35 (.s 34), false⟩,
   ⟨none, (some 36), .mv 36 (.s 35), false⟩,
   ⟨(some (36, true)), (some 37), .mv 37 (.s 9), false⟩,
   ⟨(some (36, true)), (some 38), .not 38 (.s 37), false⟩,
   ⟨none, (some 39), .pk 39 (.s 36) (.s 38) (.k (Value.bool false)), false⟩,
   ⟨none, (some 40), .mv 40 (.s 39), false⟩,
   ⟨(some (40, false)), (some 41), .fa 41 1 (.s 6), false⟩,
   ⟨(some (40, false)), (some 42), .ld 42 false 1 (.s 41), false⟩,
   ⟨(some (40, false)), (some 43), .bin 43 .eql (.s 42) (.k (Value.string ⟨#[]⟩)), true⟩,
   ⟨none, (some 44), .pk 44 (.s 40) (.k (Value.bool true)) (.s 43), false⟩,
   ⟨none, (some 45), .mv 45 (.s 44), false⟩,
   ⟨(some (45, false)), (some 46), .mv 46 (.s 7), false⟩,
   ⟨(some (45, false)), (some 47), .bin 47 .geq (.s 46) (.k (Value.int .i64 0)), false⟩,
   ⟨(some (45, false)), (some 48), .mv 48 (.s 47), false⟩,
   ⟨(some (48, true)), (some 49), .mv 49 (.s 7), false⟩,
   ⟨(some (48, true)), (some 50), .fa 50 1 (.s 6), false⟩,
   ⟨(some (48, true)), (some 51), .ld 51 false 1 (.s 50), false⟩,
   ⟨(some (48, true)), (some 52), .lens 52 (.s 51), false⟩,
   ⟨(some (48, true)), (some 53), .binc 53 .sub (.s 52) (.k (Value.int .i64 1)), true⟩,
   ⟨(some (48, true)), (some 54), .bin 54 .lss (.s 49) (.s 53), false⟩,
   ⟨(some (45, false)), (some 55), .pk 55 (.s 48) (.s 54) (.k (Value.bool false)), false⟩,
   ⟨none, (some 56), .pk 56 (.s 45) (.k (Value.bool true)) (.s 55), false⟩]))
 (.cond (.s 56) (.seq (.ops [⟨none, none, .st false 1 (.s 2) (.k (Value.bool false)), false⟩])
 .ret) .skip))
 (.seq (.seq (.seq (.keep [2, 3, 4, 7, 8, 9]) (.ops [⟨none, (some 57), .mv 57 (.s 7), false⟩,
   ⟨none, (some 58), .bin 58 .lss (.s 57) (.k (Value.int .i64 0)), false⟩,
   ⟨none, (some 59), .mv 59 (.s 58), false⟩,
   ⟨(some (59, true)), (some 60), .mv 60 (.s 8), false⟩,
   ⟨(some (59, true)), (some 61), .mv 61 (.s 60), false⟩,
   ⟨(some (61, true)), (some 62), .ld 62 false 1 (.s 3), false⟩,
   ⟨(some (59, true)), (some 63), .pk 63 (.s 61) (.s 62) (.k (Value.bool false)), false⟩,
   ⟨(some (59, true)), (some 64), .mv 64 (.s 63), false⟩,
   ⟨(some (64, false)), (some 65), .mv 65 (.s 9), false⟩,
   ⟨(some (64, false)), (some 66), .mv 66 (.s 65), true⟩,
   ⟨(some (66, true)), (some 67), .ld 67 false 1 (.s 4), false⟩,
   ⟨(some (64, false)), (some 68), .pk 68 (.s 66) (.s 67) (.k (Value.bool false)), false⟩,
   ⟨(some (59, true)), (some 69), .pk 69 (.s 64) (.k (Value.bool true)) (.s 68), false⟩,
   ⟨none, (some 70), .pk 70 (.s 59) (.s 69) (.k (Value.bool false)), false⟩]))
 (.cond (.s 70) (.seq (.ops [⟨none, none, .st false 1 (.s 2) (.k (Value.bool false)), false⟩])
 .ret) .skip))
 (.seq (.keep [3, 4, 8, 9]) (.ops [⟨none, (some 71), .ld 71 false 1 (.s 3), false⟩,
   ⟨none, (some 72), .mv 72 (.s 71), false⟩,
   ⟨(some (72, false)), (some 73), .mv 73 (.s 8), false⟩,
   ⟨none, (some 74), .pk 74 (.s 72) (.k (Value.bool true)) (.s 73), false⟩,
   ⟨none, (some 75), .ld 75 false 1 (.s 4), false⟩,
   ⟨none, (some 76), .mv 76 (.s 75), false⟩,
   ⟨(some (76, false)), (some 77), .mv 77 (.s 9), false⟩,
   ⟨none, (some 78), .pk 78 (.s 76) (.k (Value.bool true)) (.s 77), false⟩,
   ⟨none, none, .st false 1 (.s 3) (.s 74), false⟩,
   ⟨none, none, .st false 1 (.s 4) (.s 78), true⟩]))))))))))
 (.seq (.ops [⟨none, none, .st false 1 (.s 2) (.k (Value.bool true)), false⟩])
 .ret))))
def R59 : List RR := [.ce 2 false 1]
theorem sd59 : SdT Tryz.prog 59 79 S59 R59 := fun hT hl hC hit => sdX (F := Tryz.f59) (A := A59) mo (by kernel_rfl) (by kernel_rfl) (by kernel_rfl) (by kernel_rfl) hT hl hC hit
def A60 : Ann := ⟨fun _ _ => 0, fun _ => none, fun r => if r = 1 then some (false, [1]) else none, fun _ => []⟩
def S60 : SCode :=
 (.seq (.ops [⟨none, (some 1), .bx 1 47 5 (.s 0), false⟩,
   ⟨none, (some 2), .mv 2 (.k (Value.slice none 0 0)), false⟩])
 (.seq (.seq (.keep [1]) (.ops [⟨none, (some 3), .ld 3 true 5 (.s 1), false⟩,
   ⟨none, (some 4), .call (some 4) 117 false [(.s 3), (.k (Value.int .u8 45))], false⟩,
   ⟨none, (some 2), .mv 2 (.s 4), false⟩]))
 .ret))
def R60 : List RR := [.sl 2]
theorem sd60 : SdT Tryz.prog 60 5 S60 R60 := fun hT hl hC hit => sdX (F := Tryz.f60) (A := A60) mo (by kernel_rfl) (by kernel_rfl) (by kernel_rfl) (by kernel_rfl) hT hl hC hit
def A61 : Ann := ⟨fun _ _ => 0, fun _ => none, fun r => if r = 1 then some (false, [1]) else none, fun _ => []⟩
def S61 : SCode :=
 (.seq (.ops [⟨none, (some 1), .bx 1 47 5 (.s 0), false⟩,
   ⟨none, (some 2), .mv 2 (.k (Value.slice none 0 0)), false⟩])
 (.seq (.seq (.keep [1]) (.ops [⟨none, (some 3), .ld 3 true 5 (.s 1), false⟩,
   ⟨none, (some 4), .call (some 4) 117 false [(.s 3), (.k (Value.int .u8 43))], false⟩,
   ⟨none, (some 2), .mv 2 (.s 4), false⟩]))
 .ret))
def R61 : List RR := [.sl 2]
theorem sd61 : SdT Tryz.prog 61 5 S61 R61 := fun hT hl hC hit => sdX (F := Tryz.f61) (A := A61) mo (by kernel_rfl) (by kernel_rfl) (by kernel_rfl) (by kernel_rfl) hT hl hC hit
def A56 : Ann := ⟨fun r i => if r = 1 ∧ i = 29 then 1 else if r = 1 ∧ i = 32 then 1 else 0, fun r => if r = 6 then some [(0, true, []), (2, true, []), (5, true, []), (7, true, []), (1, true, []), (3, true, []), (4, true, []), (6, true, []), (8, true, []), (9, true, []), (10, true, [])] else none, fun r => if r = 1 then some (false, [2, 3]) else if r = 4 then some (false, [2, 3, 5]) else if r = 5 then some (false, [2, 3, 5]) else if r = 6 then some (false, [2, 3, 5]) else none, fun r => if r = 4 then [2, 3, 5] else []⟩
def S56 : SCode :=
 (.seq (.ops [⟨none, (some 2), .bx 2 47 5 (.s 0), false⟩,
   ⟨none, (some 3), .bx 3 47 5 (.s 1), false⟩,
   ⟨none, (some 4), .mv 4 (.k (Value.bool false)), false⟩])
 (.seq (.seq (.seq (.keep [2, 3]) (.ops [⟨none, (some 6), .fa 6 0 (.s 2), false⟩,
   ⟨none, (some 7), .ld 7 false 1 (.s 6), false⟩,
   ⟨none, (some 8), .fa 8 0 (.s 3), false⟩,
   ⟨none, (some 9), .ld 9 false 1 (.s 8), false⟩,
   ⟨none, (some 10), .bin 10 .neq (.s 7) (.s 9), false⟩,
   ⟨none, (some 11), .mv 11 (.s 10), false⟩,
   ⟨(some (11, false)), (some 12), .fa 12 1 (.s 2), false⟩,
   ⟨(some (11, false)), (some 13), .ld 13 false 1 (.s 12), false⟩,
   ⟨(some (11, false)), (some 14), .fa 14 1 (.s 3), false⟩,
   ⟨(some (11, false)), (some 15), .ld 15 false 1 (.s 14), true⟩,
   ⟨(some (11, false)), (some 16), .bin 16 .neq (.s 13) (.s 15), false⟩,
   ⟨none, (some 17), .pk 17 (.s 11) (.k (Value.bool true)) (.s 16), false⟩,
   ⟨none, (some 18), .mv 18 (.s 17), false⟩,
   ⟨(some (18, false)), (some 19), .fa 19 2 (.s 2), false⟩,
   ⟨(some (18, false)), (some 20), .ld 20 false 1 (.s 19), false⟩,
   ⟨(some (18, false)), (some 21), .fa 21 2 (.s 3), false⟩,
   ⟨(some (18, false)), (some 22), .ld 22 false 1 (.s 21), false⟩,
   ⟨(some (18, false)), (some 23), .bin 23 .neq (.s 20) (.s 22), false⟩,
   ⟨none, (some 24), .pk 24 (.s 18) (.k (Value.bool true)) (.s 23), false⟩,
   ⟨none, (some 25), .mv 25 (.s 24), true⟩,
   ⟨(some (25, false)), (some 26), .fa 26 3 (.s 2), false⟩,
   ⟨(some (25, false)), (some 27), .ld 27 false 1 (.s 26), false⟩,
   ⟨(some (25, false)), (some 28), .fa 28 3 (.s 3), false⟩,
   ⟨(some (25, false)), (some 29), .ld 29 false 1 (.s 28), false⟩,
   ⟨(some (25, false)), (some 30), .bin 30 .neq (.s 27) (.s 29), false⟩,
   ⟨none, (some 31), .pk 31 (.s 25) (.k (Value.bool true)) (.s 30), false⟩,
   ⟨none, (some 32), .mv 32 (.s 31), false⟩,
   ⟨(some (32, false)), (some 33), .fa 33 4 (.s 2), false⟩,
   ⟨(some (32, false)), (some 34), .ld 34 false 1 (.s 33), false⟩,
   ⟨(some (32, false)), (some 35), .len 35 (.s 34), true⟩,
   ⟨(some (32, false)), (some 36), .fa 36 4 (.s 3), false⟩,
   ⟨(some (32, false)), (some 37), .ld 37 false 1 (.s 36), false⟩,
   ⟨(some (32, false)), (some 38), .len 38 (.s 37), false⟩,
   ⟨(some (32, false)), (some 39), .bin 39 .neq (.s 35) (.s 38), false⟩,
   ⟨none, (some 40), .pk 40 (.s 32) (.k (Value.bool true)) (.s 39), false⟩]))
 (.cond (.s 40) (.seq (.ops [⟨none, (some 4), .mv 4 (.k (Value.bool false)), false⟩])
 .ret) .skip))
 (.seq (.seq (.ops [⟨none, (some 5), .mv 5 (.k (Value.int .i64 0)), false⟩])
 (.block 0 (.loop [2, 3, 5] (.seq (.seq (.seq (.keep [2, 3, 5]) (.ops [⟨none, (some 41), .mv 41 (.s 5), false⟩,
   ⟨none, (some 42), .fa 42 4 (.s 2), false⟩,
   ⟨none, (some 43), .ld 43 false 1 (.s 42), false⟩,
   ⟨none, (some 44), .len 44 (.s 43), false⟩,
   ⟨none, (some 45), .bin 45 .lss (.s 41) (.s 44), false⟩]))
 (.cond (.s 45) .skip (.exit 0)))
 (.seq (.block 1 (.seq (.seq (.keep [2, 3, 5]) (.dr [([], true, ⟨none, (some 48), .fa 48 4 (.s 2), false⟩),
   ([], true, ⟨none, (some 50), .mv 50 (.s 5), false⟩),
   ([], true, ⟨none, (some 53), .fa 53 4 (.s 3), false⟩),
   ([], true, ⟨none, (some 55), .mv 55 (.s 5), false⟩),
   ([], true, ⟨none, (some 49), .ld 49 false 1 (.s 48), false⟩),
   ([], true, ⟨none, (some 51), .ia 51 2 (.s 49) (.s 50), false⟩),
   ([], true, ⟨none, (some 52), .ld 52 true 2 (.s 51), false⟩),
   ([], true, ⟨none, (some 54), .ld 54 false 1 (.s 53), false⟩),
   ([], true, ⟨none, (some 56), .ia 56 2 (.s 54) (.s 55), false⟩),
   ([], true, ⟨none, (some 57), .ld 57 true 2 (.s 56), true⟩),
   ([], true, ⟨none, (some 58), .eqa 58 true [0, 1] (.s 52) (.s 57), false⟩)]))
 (.cond (.s 58) (.seq (.ops [⟨none, (some 4), .mv 4 (.k (Value.bool false)), false⟩])
 .ret) .skip)))
 (.seq (.keep [2, 3, 5]) (.ops [⟨none, (some 46), .mv 46 (.s 5), false⟩,
   ⟨none, (some 47), .binc 47 .add (.s 46) (.k (Value.int .i64 1)), false⟩,
   ⟨none, (some 5), .mv 5 (.s 47), false⟩])))))))
 (.seq (.ops [⟨none, (some 4), .mv 4 (.k (Value.bool true)), false⟩])
 .ret))))
def R56 : List RR := [.sl 4]
theorem sd56 : SdT Tryz.prog 56 59 S56 R56 := fun hT hl hC hit => sdX (F := Tryz.f56) (A := A56) mo (by kernel_rfl) (by kernel_rfl) (by kernel_rfl) (by kernel_rfl) hT hl hC hit
def A115 : Ann := ⟨fun _ _ => 0, fun _ => none, fun _ => none, fun _ => []⟩
def S115 : SCode :=
 (.seq (.ops [⟨none, (some 1), .bx 1 45 1 (.s 0), false⟩,
   ⟨none, (some 2), .mv 2 (.k Value.nilFunc), false⟩])
 (.seq (.ops [⟨none, (some 3), .mf 3 162 [(.s 1)], false⟩,
   ⟨none, (some 2), .mv 2 (.s 3), false⟩])
 .ret))
def R115 : List RR := [.sl 2]
theorem sd115 : SdT Tryz.prog 115 4 S115 R115 := fun hT hl hC hit => sdX (F := Tryz.f115) (A := A115) mo (by kernel_rfl) (by kernel_rfl) (by kernel_rfl) (by kernel_rfl) hT hl hC hit
def A162 : Ann := ⟨fun _ _ => 0, fun _ => none, fun r => if r = 2 then some (false, [0, 1, 3]) else if r = 3 then some (false, [0, 1, 3]) else none, fun r => if r = 1 then [0, 1, 3] else []⟩
def S162 : SCode :=
 (.seq (.ops [⟨none, (some 4), .ld 4 false 1 (.s 1), false⟩,
   ⟨none, (some 5), .len 5 (.s 4), false⟩,
   ⟨none, (some 6), .binc 6 .sub (.s 5) (.k (Value.int .i64 1)), false⟩,
   ⟨none, (some 3), .mv 3 (.s 6), false⟩])
 (.block 0 (.loop [0, 1, 3] (.seq (.seq (.ops [⟨none, (some 7), .mv 7 (.s 3), false⟩,
   ⟨none, (some 8), .bin 8 .geq (.s 7) (.k (Value.int .i64 0)), false⟩])
 (.cond (.s 8) .skip (.exit 0)))
 (.seq (.block 1 (.seq (.seq (.keep [0, 1, 3]) (.ops [⟨none, (some 11), .mv 11 (.s 0), false⟩,
   ⟨none, (some 12), .mv 12 (.s 3), false⟩,
   ⟨none, (some 13), .ld 13 false 1 (.s 1), false⟩,
   ⟨none, (some 14), .mv 14 (.s 3), false⟩,
   ⟨none, (some 15), .ia 15 2 (.s 13) (.s 14), false⟩,
   ⟨none, (some 16), .ld 16 true 2 (.s 15), false⟩,
   ⟨none, (some 17), .callv (some 17) false (.s 11) [(.s 12), (.s 16)], false⟩,
   ⟨none, (some 18), .not 18 (.s 17), false⟩]))
 (.cond (.s 18) .ret .skip)))
 (.seq (.keep [0, 1, 3]) (.ops [⟨none, (some 9), .mv 9 (.s 3), false⟩,
   ⟨none, (some 10), .binc 10 .sub (.s 9) (.k (Value.int .i64 1)), false⟩,
   ⟨none, (some 3), .mv 3 (.s 10), false⟩])))))))
theorem cc162 : (Tryz.f162.body).bind (cc Tryz.prog Tryz.f162.ntmps A162) = some S162 := by kernel_rfl
theorem nm162 : (Tryz.f162.name == "runtime.NumGoroutine") = false := by kernel_rfl
theorem fn162 : Tryz.prog.funcs[162]? = some Tryz.f162 := by kernel_rfl
theorem bd162 : ∃ b, Tryz.f162.body = some b ∧ cc Tryz.prog Tryz.f162.ntmps A162 b = some S162 := Option.bind_eq_some_iff.1 cc162
def A117 : Ann := ⟨fun r i => if r = 1 ∧ i = 0 then 11 else 0, fun _ => none, fun r => if r = 2 then some (false, [1, 2, 5]) else if r = 4 then some (false, [1, 5, 9, 10, 11]) else if r = 5 then some (false, [1, 5, 7, 9, 10, 11]) else if r = 6 then some (false, [1, 5, 7, 9, 10, 11]) else none, fun r => if r = 3 then [1, 5, 9, 10, 11] else []⟩
def S117 : SCode :=
 (.seq (.ops [⟨none, (some 2), .bx 2 47 5 (.s 0), false⟩,
   ⟨none, (some 4), .mv 4 (.k (Value.slice none 0 0)), false⟩])
 (.seq (.ops [⟨none, (some 5), .nr 5 9 1, false⟩])
 (.seq (.seq (.seq (.keep [1, 2, 5]) (.ops [⟨none, (some 8), .fa 8 4 (.s 2), false⟩,
   ⟨none, (some 9), .ld 9 false 1 (.s 8), false⟩,
   ⟨none, (some 10), .len 10 (.s 9), false⟩,
   ⟨none, (some 11), .mv 11 (.k (Value.int .i64 0)), false⟩]))
 (.block 0 (.loop [1, 5, 9, 10, 11] (.seq (.ops [⟨none, (some 12), .bin 12 .lss (.s 11) (.s 10), false⟩])
 (.seq (.cond (.s 12) .skip (.exit 0))
 (.seq (.block 1 (.seq (.seq (.keep [1, 5, 9, 10, 11]) (.ops [⟨none, (some 13), .ia 13 2 (.s 9) (.s 11), false⟩,
   ⟨none, (some 14), .ld 14 true 2 (.s 13), false⟩,
   ⟨none, (some 7), .al 7 103 [(Value.int .u8 0), (Value.string ⟨#[]⟩)], false⟩,
   ⟨none, none, .st true 2 (.s 7) (.s 14), false⟩]))
 (.seq (.seq (.keep [1, 5, 7, 9, 10, 11]) (.ops [⟨none, (some 15), .fa 15 0 (.s 7), false⟩,
   ⟨none, (some 16), .ld 16 false 1 (.s 15), false⟩,
   ⟨none, (some 17), .mv 17 (.s 1), false⟩,
   ⟨none, (some 18), .bin 18 .eql (.s 16) (.s 17), false⟩,
   ⟨none, (some 19), .mv 19 (.s 18), false⟩,
   ⟨(some (19, false)), (some 20), .fa 20 0 (.s 7), false⟩,
   ⟨(some (19, false)), (some 21), .ld 21 false 1 (.s 20), false⟩,
   ⟨(some (19, false)), (some 22), .bin 22 .eql (.s 21) (.k (Value.int .u8 32)), false⟩,
   ⟨none, (some 23), .pk 23 (.s 19) (.k (Value.bool true)) (.s 22), false⟩]))
 (.cond (.s 23) (.seq (.keep [1, 5, 7, 9, 10, 11]) (.ops [⟨none, (some 24), .mv 24 (.s 5), false⟩,
   ⟨none, (some 25), .fa 25 1 (.s 7), false⟩,
   ⟨none, (some 26), .ld 26 false 1 (.s 25), false⟩,
   ⟨none, (some 27), .bs 27 9 1 [(.s 26)], false⟩,
   ⟨none, (some 28), .ap 28 9 1 16 (.s 24) (.s 27), false⟩,
   ⟨none, (some 5), .mv 5 (.s 28), false⟩])) .skip))))
 (.ops [⟨none, (some 29), .binc 29 .add (.s 11) (.k (Value.int .i64 1)), false⟩,
   ⟨none, (some 11), .mv 11 (.s 29), false⟩])))))))
 (.seq (.ops [⟨none, (some 30), .mv 30 (.s 5), false⟩,
   ⟨none, (some 4), .mv 4 (.s 30), false⟩])
 .ret))))
def R117 : List RR := [.sl 4]
theorem sd117 : SdT Tryz.prog 117 31 S117 R117 := fun hT hl hC hit => sdX (F := Tryz.f117) (A := A117) mo (by kernel_rfl) (by kernel_rfl) (by kernel_rfl) (by kernel_rfl) hT hl hC hit
def A62 : Ann := ⟨fun _ _ => 0, fun _ => none, fun r => if r = 1 then some (false, [0, 1]) else none, fun _ => []⟩
def S62 : SCode :=
 (.seq (.ops [⟨none, (some 4), .mv 4 (.k (Value.bool false)), false⟩])
 (.seq (.seq (.keep [0, 1]) (.ops [⟨none, (some 5), .mv 5 (.s 0), false⟩,
   ⟨none, (some 6), .mv 6 (.s 1), false⟩,
   ⟨none, (some 7), .call (some 7) 118 false [(.s 5), (.s 6)], false⟩,
   ⟨none, (some 8), .bin 8 .geq (.s 7) (.k (Value.int .i64 0)), false⟩,
   ⟨none, (some 4), .mv 4 (.s 8), false⟩]))
 .ret))
def R62 : List RR := [.sl 4]
theorem sd62 : SdT Tryz.prog 62 9 S62 R62 := fun hT hl hC hit => sdX (F := Tryz.f62) (A := A62) mo (by kernel_rfl) (by kernel_rfl) (by kernel_rfl) (by kernel_rfl) hT hl hC hit
def A118 : Ann := ⟨fun _ _ => 0, fun _ => none, fun r => if r = 1 then some (false, [0, 1]) else if r = 4 then some (false, [0, 1, 5, 7, 8]) else none, fun r => if r = 2 then [0, 1, 7, 8] else []⟩
def S118 : SCode :=
 (.seq (.ops [⟨none, (some 4), .mv 4 (.k (Value.int .i64 0)), false⟩])
 (.seq (.seq (.seq (.keep [0, 1]) (.ops [⟨none, (some 6), .mv 6 (.s 0), false⟩,
   ⟨none, (some 7), .len 7 (.s 6), false⟩,
   ⟨none, (some 8), .mv 8 (.k (Value.int .i64 0)), false⟩]))
 (.block 0 (.loop [0, 1, 7, 8] (.seq (.ops [⟨none, (some 9), .bin 9 .lss (.s 8) (.s 7), false⟩])
 (.seq (.cond (.s 9) .skip (.exit 0))
 (.seq (.block 1 (.seq (.ops [⟨none, (some 10), .mv 10 (.s 8), false⟩,
   ⟨none, (some 5), .mv 5 (.s 10), false⟩])
 (.seq (.seq (.keep [0, 1, 5, 7, 8]) (.ops [⟨none, (some 11), .mv 11 (.s 1), false⟩,
   ⟨none, (some 12), .mv 12 (.s 0), false⟩,
   ⟨none, (some 13), .mv 13 (.s 5), false⟩,
   ⟨none, (some 14), .ia 14 2 (.s 12) (.s 13), false⟩,
   ⟨none, (some 15), .ld 15 true 2 (.s 14), false⟩,
   ⟨none, (some 16), .callv (some 16) false (.s 11) [(.s 15)], false⟩]))
 (.cond (.s 16) (.seq (.ops [⟨none, (some 17), .mv 17 (.s 5), false⟩,
   ⟨none, (some 4), .mv 4 (.s 17), false⟩])
 .ret) .skip))))
 (.ops [⟨none, (some 18), .binc 18 .add (.s 8) (.k (Value.int .i64 1)), false⟩,
   ⟨none, (some 8), .mv 8 (.s 18), false⟩])))))))
 (.seq (.ops [⟨none, (some 4), .mv 4 (.k (Value.int .i64 (-1))), false⟩])
 .ret)))
def R118 : List RR := [.sl 4]
theorem sd118 : SdT Tryz.prog 118 19 S118 R118 := fun hT hl hC hit => sdX (F := Tryz.f118) (A := A118) mo (by kernel_rfl) (by kernel_rfl) (by kernel_rfl) (by kernel_rfl) hT hl hC hit
end Go.Proofs.YtlghobefhmpfkaaGreatDoor
namespace Go.Ev
open Go
inductive ItK where
 | y (d : Option Nat) (t : Nat) (rs : List Rv)
 | m (d t : Nat)
 | p
def itK : SOp → ItK
 | .callv d _ (.s t) rs => .y d t rs
 | .mv d (.s t) => .m d t
 | _ => .p
def niO : Option Nat → List Nat → Prop
 | some k, yl => k ∉ yl
 | none, _ => True
theorem niO_ok {d : Option Nat} {yl : List Nat} (h : niO d yl) : ∀ k, d = some k → k ∉ yl := by
 rintro k rfl; exact h
def itOps (T : FuncId → Contract) (xs : List (List SV)) : List GOp → List Nat → St → Option Nat → (List Nat → St → Option Nat → Prop) → Prop
 | [], yl, st, md, K => K yl st md
 | ⟨some _, _, _, _⟩ :: _, _, _, _, _ => False
 | ⟨none, d', s, _⟩ :: r, yl, st, md, K => match itK s with
   | .y d t rs => (t ∈ yl ∧ niO d yl) ∧ need md fun k => need xs[k]? fun x => (rs.map fun r => r.get st) = x ∧
       itOps T xs r yl (st.putO d (.d (.v (.bool true)))) (some (k + 1)) K ∧ itOps T xs r yl (st.putO d (.d (.v (.bool false)))) none K
   | .m d t => if t ∈ yl then itOps T xs r (d :: yl) (st.put d .any) md K else d ∉ yl ∧ itOps T xs r yl (st.put d (st.get t)) md K
   | .p => (isTk s = true ∧ niO d' yl) ∧ xStep T s st (fun st' => itOps T xs r yl st' md K) noP
abbrev IKs := Ex → List Nat → St → Option Nat → Prop
def itThen (K2 : List Nat → St → Option Nat → Prop) (K : IKs) : IKs
 | .normal, yl, st, md => K2 yl st md
 | e, yl, st, md => K e yl st md
def itBlk (id : Nat) (K : IKs) : IKs
 | .exit j, yl, st, md => if j = id then K .normal yl st md else K (.exit j) yl st md
 | e, yl, st, md => K e yl st md
@[irreducible] def itAgain (I : Nat → St → Option Nat → Prop) (ks yl0 : List Nat) (n : Nat) (yl : List Nat) (st : PSt I) (md : Option Nat) : Prop := (∀ t ∈ yl0, t ∈ yl) ∧ ∃ k, k < n ∧ I k (St.keep ks st) md
@[irreducible] def itLoop (body : List Nat → St → Option Nat → IKs → Prop) (ks yl : List Nat) (K : IKs) (st : PSt (body, K)) (md : Option Nat) : Prop :=
 ∃ (I : Nat → St → Option Nat → Prop) (n : Nat), I n (St.keep ks st) md ∧ ∀ n st md, I n st md → body yl st md (itThen (itAgain I ks yl n) K)
def itv (T : FuncId → Contract) (xs : List (List SV)) : SCode → List Nat → St → Option Nat → IKs → Prop
 | .skip, yl, st, md, K => K .normal yl st md
 | .ops l, yl, st, md, K => itOps T xs l yl st md (K .normal)
 | .keep ks, yl, st, md, K => K .normal yl (st.keep ks) md
 | .seq a b, yl, st, md, K => itv T xs a yl st md (itThen (fun yl' st' md' => itv T xs b yl' st' md' K) K)
 | .cond c t e, yl, st, md, K => match c.get st with
   | .d (.v (.bool b)) => (b = true → itv T xs t yl st md K) ∧ (b = false → itv T xs e yl st md K)
   | _ => False
 | .block id b, yl, st, md, K => itv T xs b yl st md (itBlk id K)
 | .loop ks b, yl, st, md, K => itLoop (itv T xs b) ks yl K st md
 | .exit id, yl, st, md, K => K (.exit id) yl st md
 | .ret, yl, st, md, K => K .ret yl st md
 | _, _, _, _, _ => False
@[congr] theorem itOps_congr {T : FuncId → Contract} {xs : List (List SV)} {l : List GOp} {yl yl' : List Nat} {st st' : St} {md md' : Option Nat} {K : List Nat → St → Option Nat → Prop} (h1 : yl = yl') (h2 : st = st') (h3 : md = md') : itOps T xs l yl st md K = itOps T xs l yl' st' md' K := by rw [h1, h2, h3]
@[congr] theorem itv_congr {T : FuncId → Contract} {xs : List (List SV)} {s : SCode} {yl yl' : List Nat} {st st' : St} {md md' : Option Nat} {K : IKs} (h1 : yl = yl') (h2 : st = st') (h3 : md = md') : itv T xs s yl st md K = itv T xs s yl' st' md' K := by rw [h1, h2, h3]
@[congr] theorem itThen_congr {K2 : List Nat → St → Option Nat → Prop} {K : IKs} {e : Ex} {yl yl' : List Nat} {st st' : St} {md md' : Option Nat} (h1 : yl = yl') (h2 : st = st') (h3 : md = md') : itThen K2 K e yl st md = itThen K2 K e yl' st' md' := by rw [h1, h2, h3]
@[congr] theorem itBlk_congr {id : Nat} {K : IKs} {e : Ex} {yl yl' : List Nat} {st st' : St} {md md' : Option Nat} (h1 : yl = yl') (h2 : st = st') (h3 : md = md') : itBlk id K e yl st md = itBlk id K e yl' st' md' := by rw [h1, h2, h3]
@[congr] theorem itLoop_congr {body : List Nat → St → Option Nat → IKs → Prop} {ks yl yl' : List Nat} {st st' : St} {md md' : Option Nat} {K : IKs} (h1 : yl = yl') (h2 : st = st') (h3 : md = md') : itLoop body ks yl K st md = itLoop body ks yl' K st' md' := by rw [h1, h2, h3]
@[congr] theorem itAgain_congr {I : Nat → St → Option Nat → Prop} {ks yl0 : List Nat} {n : Nat} {yl yl' : List Nat} {st st' : St} {md md' : Option Nat} (h1 : yl = yl') (h2 : st = st') (h3 : md = md') : itAgain I ks yl0 n yl st md = itAgain I ks yl0 n yl' st' md' := by rw [h1, h2, h3]
theorem itLoop_intro {body : List Nat → St → Option Nat → IKs → Prop} {ks yl : List Nat} {st : St} {md : Option Nat} {K : IKs} (I : Nat → St → Option Nat → Prop) (n : Nat) (h1 : I n (st.keep ks) md)
 (h2 : ∀ n st md, I n st md → body yl st md (itThen (itAgain I ks yl n) K)) : itLoop body ks yl K st md := by unfold itLoop; exact ⟨I, n, h1, h2⟩
theorem itAgain_intro {I : Nat → St → Option Nat → Prop} {ks yl0 : List Nat} {n : Nat} {yl : List Nat} {st : St} {md : Option Nat} (k : Nat) (h0 : ∀ t ∈ yl0, t ∈ yl) (h1 : k < n) (h2 : I k (st.keep ks) md) : itAgain I ks yl0 n yl st md := by
 unfold itAgain; exact ⟨h0, k, h1, h2⟩
theorem itKs : (∀ (K2 : List Nat → St → Option Nat → Prop) (K : IKs) yl st md, itThen K2 K .normal yl st md = K2 yl st md) ∧ (∀ (K2 : List Nat → St → Option Nat → Prop) (K : IKs) i yl st md, itThen K2 K (.exit i) yl st md = K (.exit i) yl st md) ∧ (∀ (K2 : List Nat → St → Option Nat → Prop) (K : IKs) yl st md, itThen K2 K .ret yl st md = K .ret yl st md) ∧
   (∀ id (K : IKs) yl st md, itBlk id K .normal yl st md = K .normal yl st md) ∧ (∀ id (K : IKs) yl st md, itBlk id K .ret yl st md = K .ret yl st md) ∧ (∀ id j (K : IKs) yl st md, itBlk id K (.exit j) yl st md = if j = id then K .normal yl st md else K (.exit j) yl st md) :=
 ⟨fun _ _ _ _ _ => rfl, fun _ _ _ _ _ _ => rfl, fun _ _ _ _ _ => rfl, fun _ _ _ _ _ => rfl, fun _ _ _ _ _ => rfl, fun _ _ _ _ _ _ => rfl⟩
section
variable {P : Program} {T : FuncId → Contract} {N l : Nat} {xs : List (List SV)} {S : Nat → Prop} {w : World} {J : Nat → World → Prop} {Jx : World → Prop}
def rdS (S : Nat → Prop) (w : World) : Rdr := fun a u => w.cell? a = some u ∧ S a.block
def WJ (J : Nat → World → Prop) (Jx : World → Prop) : Option Nat → World → Prop
 | some k, W => J k W
 | none, W => Jx W
structure IS (S : Nat → Prop) (w : World) (N l : Nat) (a : Act) (yl : List Nat) (st : St) : Prop where
 size : a.tmps.size = N
 defers : a.defers = []
 slots : SlOk (fun _ => undef) 0 (rdS S w) a st
 ob : st.ob = []
 n : st.n = 0
 yl : ∀ t ∈ yl, a.tmps.getD t undef = .func (.yield l) #[] #[]
structure Env (P : Program) (S : Nat → Prop) (w : World) (l : Nat) (xs : List (List SV)) (J : Nat → World → Prop) (Jx : World → Prop) : Prop where
 kept : ∀ md W, WJ J Jx md W → ∀ b, S b → b < w.heap.size → W.heap[b]? = w.heap[b]?
 yield : ∀ k W x ys, J k W → xs[k]? = some x → CnL (fun _ => undef) 0 (rdS S w) x ys → YieldAt Fence.wide 0 P l ys.toArray W fun e W' => (e = .returned (.bool true) ∧ J (k + 1) W') ∨ (e = .returned (.bool false) ∧ Jx W')
def LiftI (S : Nat → Prop) (w : World) (N l : Nat) (J : Nat → World → Prop) (Jx : World → Prop) (K : IKs) : Exit → Act → World → Prop
 | .normal, a, W => ∃ yl st md, K .normal yl st md ∧ IS S w N l a yl st ∧ WJ J Jx md W
 | .exit id, a, W => ∃ yl st md, K (.exit id) yl st md ∧ IS S w N l a yl st ∧ WJ J Jx md W
 | .ret, a, W => ∃ yl st md, K .ret yl st md ∧ IS S w N l a yl st ∧ WJ J Jx md W
 | _, _, _ => False
def hS (S : Nat → Prop) (n : Nat) (W : World) : Hd (fun _ => True) := ⟨fun b => b < W.heap.size ∧ ¬ (S b ∧ b < n), fun _ => False, fun _ h => h.elim, fun _ _ _ _ => trivial, 0, []⟩
theorem IS.sat {a : Act} {yl : List Nat} {st : St} {W : World} (h : IS S w N l a yl st) (hk : ∀ b, S b → b < w.heap.size → W.heap[b]? = w.heap[b]?) : Sat (hS S w.heap.size W) N W (fun _ => undef) (fun _ _ => False) a st := by
 refine ⟨h.size, by rw [h.defers]; exact Marks.nil rfl _ _ _, fun k => ?_, ?_⟩
 · rw [h.n, h.ob]
   refine Cn_mono (Nat.le_refl _) (fun _ _ => rfl) (fun a u hu => ?_) _ _ (h.slots k)
   have hl := cell_lt hu.1
   refine ⟨by rw [World.cell?_of_block (hk _ hu.2 hl)]; exact hu.1, fun ⟨o, x, h1, _⟩ => by simp [lk] at h1, fun hh => hh.2 ⟨hu.2, hl⟩⟩
 · show SOk _ _ _ _ ⟨st.n, st.ob⟩
   rw [h.n, h.ob]
   exact SOk.empty (H := hS S w.heap.size W) (fun b hb => hb.1) trivial _ _
theorem vw_rdS {W : World} (hk : ∀ b, S b → b < w.heap.size → W.heap[b]? = w.heap[b]?) (a : Addr) (u : Value) (h : vw (hS S w.heap.size W) W (fun _ _ => False) [] a u) : rdS S w a u := by
 have hl := cell_lt h.1
 have : S a.block ∧ a.block < w.heap.size := Classical.byContradiction fun hn => h.2.2 ⟨hl, hn⟩
 exact ⟨by rw [← World.cell?_of_block (hk _ this.1 this.2)]; exact h.1, this.1⟩
theorem IS.put {a : Act} {yl : List Nat} {st : St} (h : IS S w N l a yl st) {d : Nat} (hd : d < N) (hy : d ∉ yl) {x : SV} {v : Value} (hx : Cn (fun _ => undef) 0 (rdS S w) x v) : IS S w N l (a.put (some d) v) yl (st.put d x) :=
 ⟨by simp [Act.put, h.size], h.defers, h.slots.put (by rw [h.size]; exact hd) hx, h.ob, h.n, fun t ht => by
   rw [getD_put _ _ _ _ (by rw [h.size]; exact hd)]
   rw [if_neg (fun (e : d = t) => hy (e ▸ ht))]; exact h.yl t ht⟩
theorem IS.putO {a : Act} {yl : List Nat} {st : St} (h : IS S w N l a yl st) {d : Option Nat} (hd : ∀ k, d = some k → k < N) (hy : ∀ k, d = some k → k ∉ yl) {x : SV} {v : Value} (hx : Cn (fun _ => undef) 0 (rdS S w) x v) : IS S w N l (a.put d v) yl (st.putO d x) := by
 cases d with
 | none => exact h
 | some d => exact h.put (hd d rfl) (hy d rfl) hx
theorem IS.keep {a : Act} {yl : List Nat} {st : St} (h : IS S w N l a yl st) {ks : List Nat} : IS S w N l a yl (st.keep ks) := by
 refine ⟨h.size, h.defers, fun k => ?_, h.ob, h.n, h.yl⟩
 have key : ∀ ks : List Nat, Cn (fun _ => undef) 0 (rdS S w) ((lk (ks.map fun k => (k, st.get k)) k).getD .any) (a.tmps.getD k undef) := by
   intro ks
   induction ks with
   | nil => simp [lk, Cn]
   | cons j r ih =>
     simp only [List.map_cons, lk_cons]
     by_cases e : j = k
     · subst e
       simp only [if_true, Option.getD_some]
       exact h.slots j
     · simp only [e, if_false]; exact ih
 exact key ks
theorem LiftI.notOut {K : IKs} : ¬ LetsOut (LiftI S w N l J Jx K) := fun ⟨_, _, h⟩ => h
theorem cop_callv {an : Nat} {o : Oper} {d : Option Nat} {lend : Bool} {x : Rv} {rs : List Rv} (h : cop P N an o = some (.callv d lend x rs)) : ∃ c, o.op = .call c ∧ copCall P N an c o.dst = some (.callv d lend x rs) := by
 unfold cop at h
 split at h
 all_goals first
   | exact ⟨_, by assumption, h⟩
   | (exfalso
      repeat' (first
        | (simp only [Option.ite_none_right_eq_some, Option.bind_eq_some_iff, Option.map_eq_some_iff, reduceCtorEq, and_false, exists_false, Option.some.injEq] at h; done)
        | (simp only [Option.ite_none_right_eq_some, Option.bind_eq_some_iff, Option.map_eq_some_iff] at h)
        | (obtain ⟨_, h⟩ := h)
        | split at h
        | cases h))
theorem copCall_callv {an : Nat} {c : Call} {d dst : Option Nat} {lend : Bool} {x : Rv} {rs : List Rv} (h : copCall P N an c dst = some (.callv d lend x rs)) : ∃ t, c.callee = .value (.tmp t) ∧ x = .s t ∧ d = dst ∧ (∀ k, d = some k → k < N) ∧ c.args.toList.map opn = rs.map some := by
 unfold copCall at h
 split at h
 all_goals first
   | (rename_i t ec
      obtain ⟨hd, h⟩ := Option.ite_none_right_eq_some.1 h
      obtain ⟨q, hq, hs⟩ := Option.map_eq_some_iff.1 h
      simp only [SOp.callv.injEq] at hs
      obtain ⟨hs1, hs2, hs3, hs4⟩ := hs
      subst hs1 hs3 hs4
      exact ⟨t, ec, rfl, rfl, fun k hk => by rw [hk] at hd; simpa using hd, mapM_some hq⟩)
   | (exfalso
      repeat' (first
        | (simp only [Option.ite_none_right_eq_some, Option.bind_eq_some_iff, Option.map_eq_some_iff, reduceCtorEq, and_false, exists_false, Option.some.injEq] at h; done)
        | (simp only [Option.ite_none_right_eq_some, Option.bind_eq_some_iff, Option.map_eq_some_iff] at h)
        | (obtain ⟨_, h⟩ := h)
        | split at h
        | cases h))
theorem opn_s {x : Operand} {t : Nat} (h : opn x = some (.s t)) : x = .tmp t := by
 unfold opn at h
 repeat' (first | (simp at h; done) | split at h)
 all_goals first | (simp at h; subst h; rfl) | (simp at h)
theorem cop_mv {an : Nat} {o : Oper} {d t : Nat} (h : cop P N an o = some (.mv d (.s t))) : o.dst = some d ∧ d < N ∧ ∀ (a : Act) (W : World), (execOp a.eval o).run P W = .ok (.value (a.tmps.getD t undef)) W := by
 unfold cop at h
 split at h
 case h_1 | h_2 =>
   rename_i x d' e1 e2
   obtain ⟨hd, h⟩ := Option.ite_none_right_eq_some.1 h
   split at h
   · obtain ⟨_, h⟩ := Option.ite_none_right_eq_some.1 h
     obtain ⟨_, _, h⟩ := Option.map_eq_some_iff.1 h
     cases h
   · obtain ⟨r, hr, h⟩ := Option.map_eq_some_iff.1 h
     simp only [SOp.mv.injEq] at h
     obtain ⟨rfl, rfl⟩ := h
     have := opn_s hr
     subst this
     exact ⟨e2, hd, fun a W => by simp [execOp, e1, Act.eval]⟩
 case h_26 =>
   rename_i c e
   exfalso
   unfold copCall at h
   repeat' (first
        | (simp only [Option.ite_none_right_eq_some, Option.bind_eq_some_iff, Option.map_eq_some_iff, reduceCtorEq, and_false, exists_false, Option.some.injEq] at h; done)
        | (simp only [Option.ite_none_right_eq_some, Option.bind_eq_some_iff, Option.map_eq_some_iff] at h)
        | (obtain ⟨_, h⟩ := h)
        | split at h
        | cases h)
 all_goals
     (exfalso
      repeat' (first
        | (simp only [Option.ite_none_right_eq_some, Option.bind_eq_some_iff, Option.map_eq_some_iff, reduceCtorEq, and_false, exists_false, Option.some.injEq] at h; done)
        | (simp only [Option.ite_none_right_eq_some, Option.bind_eq_some_iff, Option.map_eq_some_iff] at h)
        | (obtain ⟨_, h⟩ := h)
        | split at h
        | cases h))
theorem itOps_ok (he : Env P S w l xs J Jx) {an : Nat → Nat} {ops : Array Oper} (hnd : noDefer ops = true) {K : IKs} : ∀ (r : List Oper) (i : Nat) (gs : List GOp) (a : Act) (W : World) (yl : List Nat) (st : St) (md : Option Nat),
   cops P N an ops r i = some gs → (∀ j o, r[j]? = some o → ops[i + j]? = some o) → IS S w N l a yl st → WJ J Jx md W → itOps T xs gs yl st md (K .normal) →
   wpOpsIn Fence.wide 0 P ops (LiftI S w N l J Jx K) (List.range' i r.length) a W
 | [], i, gs, a, W, yl, st, md, hc, _, h, hJ, hK => by
   simp only [cops, Option.some.injEq] at hc; subst hc
   exact ⟨yl, st, md, hK, h, hJ⟩
 | o :: r, i, gs, a, W, yl, st, md, hc, hl, h, hJ, hK => by
   simp only [cops] at hc
   obtain ⟨g, hg, hc⟩ := Option.bind_eq_some_iff.1 hc
   obtain ⟨gs', hgs, rfl⟩ := Option.map_eq_some_iff.1 hc
   obtain ⟨h1, h2, h3, h4⟩ := gop_ok hg
   have ho : ops[i]? = some o := hl 0 o rfl
   have hl' : ∀ j o', r[j]? = some o' → ops[i + 1 + j]? = some o' := fun j o' hj => by
     have := hl (j + 1) o' (by simpa using hj)
     rwa [show i + (j + 1) = i + 1 + j by omega] at this
   simp only [List.length_cons, List.range'_succ, wpOpsIn, ho]
   obtain ⟨gg, gd', s, gb⟩ := g
   cases gg with
   | some p => exact hK.elim
   | none =>
     simp only [itOps] at hK
     rw [wanted_none h1]
     simp only [if_true]
     have ih := itOps_ok he (an := an) hnd (K := K) r (i + 1) gs'
     have hk := he.kept md W hJ
     have hsat := h.sat hk
     have hkx : ∀ x v, Cn (fun _ => undef) st.n (vw (hS S w.heap.size W) W (fun _ _ => False) st.ob) x v → Cn (fun _ => undef) 0 (rdS S w) x v := fun x v hx => by
       rw [h.n, h.ob] at hx
       exact Cn_mono (Nat.le_refl _) (fun _ _ => rfl) (vw_rdS hk) _ _ hx
     simp only at h2 h3 h4
     split at hK
     · -- yield
       rename_i d t rs es
       obtain ⟨⟨y1, y2⟩, hK⟩ := hK
       replace y2 := niO_ok y2
       obtain ⟨k, rfl, hK⟩ := need_ex hK
       replace hK : need xs[k]? fun x => _ := hK
       obtain ⟨x, ex, hK⟩ := need_ex hK
       obtain ⟨hx, kt, kf⟩ := hK
       obtain ⟨lend, rfl⟩ : ∃ lend, s = .callv d lend (.s t) rs := by
         unfold itK at es
         split at es <;> cases es
         exact ⟨_, rfl⟩
       obtain ⟨c, e0, hcc⟩ := cop_callv h2
       obtain ⟨t', e1, e2, rfl, e3, e4⟩ := copCall_callv hcc
       simp only [Rv.s.injEq] at e2; subst e2
       obtain ⟨args, ea⟩ : ∃ args, args = c.args.toList.map a.eval := ⟨_, rfl⟩
       have hargs : CnL (fun _ => undef) 0 (rdS S w) x args := by
         have := getL_ok hsat (xs := c.args.toList) e4
         rw [hx, ← ea, h.n, h.ob] at this
         exact CnL_mono (Nat.le_refl _) (fun _ _ => rfl) (vw_rdS hk) _ _ this
       obtain ⟨f, tmps, assign, body, hy, hr⟩ := he.yield k W x args hJ ex hargs
       have hrun : (execOp a.eval o).run P W = .ok (.round l f tmps assign body) W := by
         obtain ⟨cc, ca, ct⟩ := c
         simp only at e1 ea
         subst e1
         have hyl := h.yl t y1
         have : (a.eval (.tmp t)) = .func (.yield l) #[] #[] := hyl
         have hy2 : (Instr.yield l (ca.map a.eval)).run P W = .ok (.round l f tmps assign body) W := by
           rw [show ca.map a.eval = args.toArray by rw [ea]; apply Array.ext'; simp]; exact hy
         simp only [execOp, e0, resolve, this, Deferred.ofValue, invoke, Sem.run_bind, Sem.run_pure, Result.andThen_ok]
         simpa using hy2
       refine ⟨fun f _ => trivial, ?_⟩
       rw [Oper.semAt_plain Fence.wide a.eval o (noDefer_ok hnd i o ho), hrun, Oper.uponIn_round]
       refine ⟨fun hh => by simp [Fence.wide] at hh, hr.mono ?_⟩
       rintro e W' (⟨rfl, hJ'⟩ | ⟨rfl, hJ'⟩)
       · exact ih _ W' yl _ (some (k + 1)) hgs hl' (h.putO e3 y2 (Cn_dv rfl)) hJ' kt
       · exact ih _ W' yl _ none hgs hl' (h.putO e3 y2 (Cn_dv rfl)) hJ' kf
     · -- a move
       rename_i d t es
       obtain rfl : s = .mv d (.s t) := by
         unfold itK at es
         split at es <;> cases es
         rfl
       obtain ⟨m1, m2, m3⟩ := cop_mv h2
       refine opIn_of_op (.inl rfl) (noDefer_ok hnd i o ho) ?_
       unfold Oper.wp
       rw [m3, Oper.upon_value, m1]
       split at hK
       · rename_i hyt
         refine ih _ W (d :: yl) _ md hgs hl' ⟨by simp [Act.put, h.size], h.defers, h.slots.put (by rw [h.size]; exact m2) (by simp [Cn]), h.ob, h.n, fun t' ht' => ?_⟩ hJ hK
         rw [getD_put _ _ _ _ (by rw [h.size]; exact m2)]
         by_cases e : d = t'
         · rw [if_pos e]; exact h.yl t hyt
         · rw [if_neg e]
           exact h.yl t' ((List.mem_cons.1 ht').resolve_left fun hh => e hh.symm)
       · exact ih _ W yl _ md hgs hl' (h.put m2 hK.1 (h.slots t)) hJ hK.2
     · obtain ⟨⟨p1, p2⟩, hK⟩ := hK
       replace p2 := niO_ok p2
       rw [xStep_eq] at hK
       obtain ⟨d, q1, q2, x, v, q3, q4, q5⟩ := take_ok h2 hsat (fr := []) (xo := []) (tkC_ok p1 (by unfold tkC; split <;> trivial)) (isTk_ts p1) hK (XB := fun _ => False) (fun q hq => hq.elim)
       refine opIn_of_op (.inl rfl) (noDefer_ok hnd i o ho) ?_
       unfold Oper.wp
       rw [q5 W (fun _ _ _ => rfl), Oper.upon_value, q1]
       exact ih _ W yl _ md hgs hl' (h.put q2 (p2 d (h3.trans q1)) (hkx _ _ q4)) hJ q3
theorem itv_ok (he : Env P S w l xs J Jx) {A : Ann} : ∀ (c : Code) (s : SCode), cc P N A c = some s → flat c = true → ∀ (K : IKs) (a : Act) (W : World) (yl : List Nat) (st : St) (md : Option Nat),
   IS S w N l a yl st → WJ J Jx md W → itv T xs s yl st md K → c.wpIn Fence.wide 0 P (LiftI S w N l J Jx K) a W
 | .skip, s, hc, hfl, K, a, W, yl, st, md, h, hJ, hK => by
   simp only [cc, Option.some.injEq] at hc; subst hc
   exact wpIn_skip ⟨yl, st, md, hK, h, hJ⟩
 | .region id ops false, s, hc, hfl, K, a, W, yl, st, md, h, hJ, hK => by
   simp only [cc] at hc
   obtain ⟨hnd, hc⟩ := Option.ite_none_right_eq_some.1 hc
   obtain ⟨gs, hg, rfl⟩ := Option.map_eq_some_iff.1 hc
   have go : ∀ st, IS S w N l a yl st → itOps T xs gs yl st md (K .normal) → (Code.region id ops false).wpIn Fence.wide 0 P (LiftI S w N l J Jx K) a W := fun st h hK => by
     refine wpIn_region ?_
     have := itOps_ok he hnd ops.toList 0 gs a W yl st md hg (fun j o hj => by simpa using hj) h hJ hK
     rwa [Array.length_toList, ← List.range_eq_range'] at this
   unfold cutAt at hK
   split at hK
   · exact hK.elim
   · exact go _ h.keep hK
   · exact go _ h hK
 | .region id ops true, s, hc, hfl, K, a, W, yl, st, md, h, hJ, hK => by
   simp only [cc] at hc
   obtain ⟨p, hp, hc⟩ := Option.bind_eq_some_iff.1 hc
   obtain ⟨h1, hc⟩ := Option.ite_none_right_eq_some.1 hc
   obtain ⟨gs, hg, rfl⟩ := Option.map_eq_some_iff.1 hc
   unfold cutAt at hK
   split at hK <;> exact hK.elim
 | .seq x y, s, hc, hfl, K, a, W, yl, st, md, h, hJ, hK => by
   simp only [cc] at hc
   obtain ⟨sx, hx, hc⟩ := Option.bind_eq_some_iff.1 hc
   obtain ⟨sy, hy, rfl⟩ := Option.map_eq_some_iff.1 hc
   simp only [flat, Bool.and_eq_true] at hfl
   simp only [itv] at hK
   refine wpIn_seq (wpIn_mono (itv_ok he x sx hx hfl.1 _ a W yl st md h hJ hK) ?_)
   intro e a' W' hl
   cases e with
   | normal => obtain ⟨yl', st', md', k1, k2, k3⟩ := hl; exact itv_ok he y sy hy hfl.2 K a' W' yl' st' md' k2 k3 k1
   | exit id => exact hl
   | goto l => exact hl
   | ret => exact hl
   | panic ch => exact hl
   | outgrown => exact hl
 | .cond c x y, s, hc, hfl, K, a, W, yl, st, md, h, hJ, hK => by
   simp only [cc] at hc
   obtain ⟨r, hr, hc⟩ := Option.bind_eq_some_iff.1 hc
   obtain ⟨sx, hx, hc⟩ := Option.bind_eq_some_iff.1 hc
   obtain ⟨sy, hy, rfl⟩ := Option.map_eq_some_iff.1 hc
   simp only [flat, Bool.and_eq_true] at hfl
   simp only [itv] at hK
   have h1 := get_ok (h.sat (he.kept md W hJ)) hr
   split at hK
   · rename_i b e
     rw [e] at h1
     exact wpIn_cond_split (of_v h1) (fun hb => itv_ok he x sx hx hfl.1 K a W yl st md h hJ (hK.1 hb)) (fun hb => itv_ok he y sy hy hfl.2 K a W yl st md h hJ (hK.2 hb))
   · exact hK.elim
 | .block id x, s, hc, hfl, K, a, W, yl, st, md, h, hJ, hK => by
   simp only [cc] at hc
   obtain ⟨sx, hx, rfl⟩ := Option.map_eq_some_iff.1 hc
   simp only [itv] at hK
   refine wpIn_block (wpIn_mono (itv_ok he x sx hx hfl _ a W yl st md h hJ hK) ?_)
   intro e a' W' hl
   cases e with
   | normal => exact hl
   | exit j =>
     obtain ⟨yl', st', md', k1, k2⟩ := hl
     simp only [Exit.inBlock]
     simp only [itBlk] at k1
     by_cases e : j = id
     · simp only [e, if_true] at k1 ⊢; exact ⟨yl', st', md', k1, k2⟩
     · simp only [e, if_false] at k1 ⊢; exact ⟨yl', st', md', k1, k2⟩
   | goto l => exact hl
   | ret => exact hl
   | panic ch => exact hl
   | outgrown => exact hl
 | .loop x, s, hc, hfl, K, a, W, yl, st, md, h, hJ, hK => by
   simp only [cc] at hc
   obtain ⟨sx, hx, rfl⟩ := Option.map_eq_some_iff.1 hc
   simp only [itv] at hK
   unfold itLoop at hK
   obtain ⟨I, n, h0, hr⟩ := hK
   refine wpIn_loop_I (I := fun n a W => ∃ st md, I n st md ∧ IS S w N l a yl st ∧ WJ J Jx md W) ?_ (n := n) ⟨_, md, h0, h.keep, hJ⟩
   rintro n a W ⟨st, md, k1, k2, k3⟩
   refine wpIn_mono (itv_ok he x sx hx hfl _ a W yl st md k2 k3 (hr n st md k1)) ?_
   intro e a' W' hl
   cases e with
   | normal =>
     obtain ⟨yl', st', md', q1, q2, q3⟩ := hl
     simp only [itThen] at q1
     unfold itAgain at q1
     obtain ⟨r1, k, r2, r3⟩ := q1
     have q4 := q2.keep (ks := A.lp ((firstReg x).getD 0))
     exact ⟨k, r2, _, md', r3, ⟨q4.size, q4.defers, q4.slots, q4.ob, q4.n, fun t ht => q4.yl t (r1 t ht)⟩, q3⟩
   | exit id => exact hl
   | goto l => exact hl
   | ret => exact hl
   | panic ch => exact hl
   | outgrown => exact hl
 | .exit id, s, hc, hfl, K, a, W, yl, st, md, h, hJ, hK => by
   simp only [cc, Option.some.injEq] at hc; subst hc
   exact wpIn_exit ⟨yl, st, md, hK, h, hJ⟩
 | .ret, s, hc, hfl, K, a, W, yl, st, md, h, hJ, hK => by
   simp only [cc, Option.some.injEq] at hc; subst hc
   exact wpIn_ret ⟨yl, st, md, hK, h, hJ⟩
 | .rangeFunc _ _ _ _, s, hc, hfl, K, a, W, yl, st, md, h, hJ, hK => by simp [flat] at hfl
 | .scope _, s, hc, hfl, K, a, W, yl, st, md, h, hJ, hK => by simp [flat] at hfl
 | .label _, s, hc, hfl, K, a, W, yl, st, md, h, hJ, hK => by
   simp only [cc, Option.some.injEq] at hc; subst hc
   exact wpIn_label ⟨yl, st, md, hK, h, hJ⟩
 | .goto _, s, hc, hfl, K, a, W, yl, st, md, h, hJ, hK => by
   simp only [cc, Option.some.injEq] at hc; subst hc
   exact hK.elim
 | .refuse _, s, hc, _, _, _, _, _, _, _, _, _, _ => by simp [cc] at hc
end
def itEnd (n : Nat) : IKs
 | .exit _, _, _, _ => False
 | _, _, _, md => md = some n ∨ md = none
theorem soundIt_of_itv {G : World → Prop} {P : Program} {T : FuncId → Contract} {f : FuncId} {fn : Func} {body : Code} {s : SCode} (hf : P.funcs[f]? = some fn) (hb : fn.body = some body) (hn : (fn.name == "runtime.NumGoroutine") = false)
   {A : Ann} (hc : cc P fn.ntmps A body = some s) (hfl : flat body = true) (hr : fn.results = #[]) {it : List D → Option (Prop × List (List SV))}
   (h : ∀ cs p xs, it cs = some (p, xs) → p → cs.length + 1 ≤ fn.ntmps ∧ itv T xs s [0] ⟨slots0 (.any :: cs.map .d) 0, 0, []⟩ (some 0) (itEnd xs.length)) : SoundIt G P f it := by
 intro S w cs vs p xs l J Jx hit hp hcs hJk hJxk _ _ hy hJ0
 obtain ⟨hlen, hv⟩ := h cs p xs hit hp
 refine ⟨⟨fn, hf, by rw [hb]; rfl, hn⟩, ?_⟩
 have hvl := RdL_length hcs
 refine callsIn_of_wp hf hb trivial ?_
 have he : Env P S w l xs J Jx := ⟨fun md W hW => by
   cases md with
   | none => exact hJxk W hW
   | some k => exact (hJk k W hW).2, hy⟩
 refine wpIn_mono (itv_ok he body s hc hfl (itEnd xs.length) _ w [0] _ (some 0) ?_ hJ0 hv) ?_
 · have hsz : (#[Value.func (.yield l) #[] #[]] ++ vs.toArray).size = cs.length + 1 := by simp [hvl, Nat.add_comm]
   refine ⟨by simp [hvl]; omega, rfl, fun k => ?_, rfl, rfl, fun t ht => ?_⟩
   · have hC : CnL (fun _ => undef) 0 (rdS S w) (.any :: cs.map .d) (Value.func (.yield l) #[] #[] :: vs) := by
       simp only [CnL]; exact ⟨trivial, CnL_of_RdL hcs⟩
     simp only [St.get, slots0_lk, Nat.zero_le, if_true, Nat.sub_zero]
     cases e : (SV.any :: cs.map SV.d)[k]? with
     | none => simp [Cn]
     | some x =>
       obtain ⟨v, hv, hx⟩ := CnL_get hC e
       have hk : k < vs.length + 1 := by have := (List.getElem?_eq_some_iff.1 hv).1; simpa using this
       have : (#[Value.func (.yield l) #[] #[]] ++ vs.toArray ++ Array.replicate (fn.ntmps - (#[Value.func (.yield l) #[] #[]] ++ vs.toArray).size) undef).getD k undef = v := by
         rw [Array.getD_eq_getD_getElem?, Array.getElem?_append_left (by rw [hsz]; omega)]
         have : (#[Value.func (.yield l) #[] #[]] ++ vs.toArray) = (Value.func (.yield l) #[] #[] :: vs).toArray := by apply Array.ext'; simp
         rw [this]; simp [hv]
       rw [this]; exact hx
   · simp only [List.mem_singleton] at ht; subst ht
     rw [Array.getD_eq_getD_getElem?, Array.getElem?_append_left (by rw [hsz]; omega), Array.getElem?_append_left (by simp)]
     rfl
 · have fin : ∀ (a : Act) (W : World) (yl : List Nat) (st : St) (md : Option Nat), (md = some xs.length ∨ md = none) → IS S w fn.ntmps l a yl st → WJ J Jx md W →
       a.defers = [] ∧ ∃ v, (results fn a.tmps).run P W = .ok v W ∧ ((∃ v', Ending.returned v = .returned v') ∧ (J xs.length W ∨ Jx W)) := by
     intro a W yl st md h1 h2 h3
     refine ⟨h2.defers, .tuple #[], by rw [results_eq, hr]; simp [Sem.run_bind, Sem.run_pure], ⟨_, rfl⟩, ?_⟩
     rcases h1 with rfl | rfl
     · exact .inl h3
     · exact .inr h3
   intro e a W hl
   cases e with
   | normal => obtain ⟨yl, st, md, k1, k2, k3⟩ := hl; exact fin a W yl st md k1 k2 k3
   | ret => obtain ⟨yl, st, md, k1, k2, k3⟩ := hl; exact fin a W yl st md k1 k2 k3
   | exit id => obtain ⟨yl, st, md, k1, k2, k3⟩ := hl; exact k1.elim
   | goto l => exact hl.elim
   | panic ch => exact hl.elim
   | outgrown => exact hl.elim
end Go.Ev
namespace Go.Proofs.YtlghobefhmpfkaaGreatDoor
open Go Go.Ev
set_option maxRecDepth 100000
variable {G : World → Prop}
abbrev Mk := Int × List UInt8
def mkRow (m : Mk) : List D := [.v (.int .u8 m.1), .v (.string ⟨m.2.toArray⟩)]
def mkRows (l : List Mk) : List (List D) := l.map mkRow
abbrev mk0 : Mk := (0, [])
theorem mkRows_len (l : List Mk) : (mkRows l).length = l.length := by simp [mkRows]
theorem mkRows_get {l : List Mk} {i : Nat} (h : i < l.length) : (mkRows l)[i]? = some (mkRow (l.getD i mk0)) := by
 simp [mkRows, List.getD_eq_getElem?_getD, List.getElem?_eq_getElem h]
theorem mkRows_getD {l : List Mk} {i : Nat} (h : i < l.length) : (mkRows l).getD i [] = mkRow (l.getD i mk0) := by rw [List.getD_eq_getElem?_getD, mkRows_get h]; rfl
theorem mkRows_all (l : List Mk) : (∀ r ∈ mkRows l, r.length = 2) = True := by
 refine eq_true fun r hr => ?_
 obtain ⟨m, _, rfl⟩ := List.mem_map.1 hr
 rfl
def unMk : List (List D) → Option (List Mk)
 | [] => some []
 | [.v (.int .u8 s), .v (.string t)] :: r => (unMk r).map ((s, t.data.toList) :: ·)
 | _ => none
theorem unMk_rows : ∀ l : List Mk, unMk (mkRows l) = some l
 | [] => rfl
 | m :: r => by
   have := unMk_rows r
   unfold mkRows at this
   simp [mkRows, mkRow, unMk, this]
theorem unMk_eq : ∀ {rows : List (List D)} {l : List Mk}, unMk rows = some l → rows = mkRows l
 | [], l, h => by simp only [unMk, Option.some.injEq] at h; subst h; rfl
 | x :: r, l, h => by
   unfold unMk at h
   split at h
   · rename_i e; cases e
   · rename_i s t r' e
     simp only [List.cons.injEq] at e
     obtain ⟨rfl, rfl⟩ := e
     obtain ⟨m, h1, rfl⟩ := Option.map_eq_some_iff.1 h
     rw [unMk_eq h1]
     simp [mkRows, mkRow]
   · cases h
theorem mk_mem {l : List Mk} {i : Nat} (h : i < l.length) : l.getD i mk0 ∈ l := by simp [List.getD_eq_getElem?_getD, List.getElem?_eq_getElem h]
theorem mk_drop {l : List Mk} {i : Nat} (h : i < l.length) : l.drop i = l.getD i mk0 :: l.drop (i + 1) := by
 rw [List.drop_eq_getElem_cons h]; simp [List.getD_eq_getElem?_getD, List.getElem?_eq_getElem h]
theorem mk_take {l : List Mk} {i : Nat} (h : i < l.length) : l.take (i + 1) = l.take i ++ [l.getD i mk0] := by
 rw [List.take_succ_eq_append_getElem h]; simp [List.getD_eq_getElem?_getD, List.getElem?_eq_getElem h]
def CNum : Contract := pureC fun args => match args with
 | [.d (.v (.int .i64 n))] => some (True, .d (.v (.bool (cntB n))))
 | _ => none
theorem s58 : Sound G Tryz.prog 58 CNum := by
 refine sd58 (T := tabT []) tab_nil (pureC_lawful _) (pure_hX fun args p x K h hp hk => ?_)
 split at h <;> simp only [Option.some.injEq, Prod.mk.injEq, reduceCtorEq] at h
 obtain ⟨rfl, rfl⟩ := h
 refine ⟨Nat.le_of_ble_eq_true rfl, ?_⟩
 simp -dsimp -implicitDefEqProofs only [S58, R58, ↓Ev.xStp_eq, ↓Ev.P, Ev.Q, Ev.Z, simprocAttr]
 exact hk
def lineQ (s : List UInt8) : Bool × Bool := if s = [] ∨ 10 ∈ s.dropLast then (false, false) else (true, decide (s.getLast? = some 10))
end Go.Proofs.YtlghobefhmpfkaaGreatDoor
namespace Go.Proofs.YtlghobefhmpfkaaGreatDoor
open Go Go.Ev Go.Rcs
set_option maxRecDepth 100000
variable {G : World → Prop}
def cutPre (p s : List UInt8) : List UInt8 × Bool := if s.take p.length = p then (s.drop p.length, true) else (s, false)
def CCutP : Contract := pureC fun args => match args with
 | [.d (.v (.string s)), .d (.v (.string p))] => some (True, .tup [.d (.v (str (cutPre p.data.toList s.data.toList).1)), .d (.v (.bool (cutPre p.data.toList s.data.toList).2))])
 | _ => none
theorem hasPre_list (s p : List UInt8) : hasPre ⟨s.toArray⟩ ⟨p.toArray⟩ = decide (s.take p.length = p) := by
 unfold hasPre
 simp only [sem_str]
 by_cases h : s.take p.length = p
 · have hl : p.length ≤ s.length := by
     have := congrArg List.length h
     rw [List.length_take] at this
     omega
   simp [h]
   omega
 · simp [h]
theorem sCutP : Sound G Tryz.prog 161 CCutP := by
 refine sound_two s161 s161 fun args p x h hp => .inl ?_
 split at h <;> simp only [Option.some.injEq, Prod.mk.injEq, reduceCtorEq] at h
 obtain ⟨rfl, rfl⟩ := h
 rename_i s p
 obtain ⟨s, rfl⟩ := ex_str s
 obtain ⟨p, rfl⟩ := ex_str p
 refine ⟨True, ?_, trivial⟩
 dsimp only
 rw [hasPre_list]
 simp only [sem_str]
 unfold cutPre
 by_cases h : s.take p.length = p
 · rw [if_pos h]
   have e : List.take (s.length - p.length) (List.drop p.length s) = List.drop p.length s := List.take_of_length_le (by rw [List.length_drop]; omega)
   simp [h, str, e]
 · rw [if_neg h]
   simp [h, str]
def markS : List UInt8 := [92, 32, 78, 111, 32, 110, 101, 119, 108, 105, 110, 101, 32, 97, 116, 32, 101, 110, 100, 32, 111, 102, 32, 102, 105, 108, 101, 10]
theorem nextL_le {L : List (List UInt8)} {k a : Nat} {s : List UInt8} (h : nextL L k = .ok (s, a)) : a = k + 1 ∧ k < L.length ∧ s = (bareS (L.getD k [])).1 := by
 unfold nextL at h
 split at h
 · split at h
   · simp only [Except.ok.injEq, Prod.mk.injEq] at h
     exact ⟨h.2.symm, by assumption, h.1.symm⟩
   · cases h
 · cases h
theorem impF (o : Option Prop) (X : Prop) : Ev.impC false o X = X := by rw [eq_iff_iff, Ev.impC_iff]; simp
theorem bare_len (l : List UInt8) : (bareS l).1.length ≤ l.length := by unfold bareS; split <;> simp
theorem mkRows_snoc (l : List Mk) (m : Mk) : mkRows l ++ [[.v (.int .u8 m.1), .v (.string ⟨m.2.toArray⟩)]] = mkRows (l ++ [m]) := by simp [mkRows, mkRow]
def CPeek : Contract := stC fun args st => match args, st with
 | [.ptr 0 0, .d (.v (.string p))], ⟨1, [(0, .cells t [.d (.sl rows), .d (.v (.int .i64 at_)), .d (.v (.int .i64 fa)), .d (.v (.int .i64 fe))])]⟩ =>
   (unStr rows).map fun L => ((fe = 0 ∧ 0 ≤ at_ ∧ at_ ≤ 1099511627776 ∧ smL L ∧ p.size ≤ 1099511627776), .d (.v (.bool (decide (at_ < L.length) && decide ((L.getD at_.toNat []).take p.data.toList.length = p.data.toList)))), ⟨1, [(0, rdr t (.sl rows) at_ fa fe)]⟩)
 | _, _ => none
set_option maxHeartbeats 2000000 in
theorem s79 : Sound G Tryz.prog 79 CPeek := by
 refine sd79 (T := tabT [(40, CMore)]) (tab_cons s40 tab_nil) (stC_lawful _) (st_hX fun args st p x st' K h hp hk => ?_)
 split at h <;> simp only [Option.map_eq_some_iff, Prod.mk.injEq, reduceCtorEq] at h
 obtain ⟨L, hl, rfl, rfl, rfl⟩ := h
 rename_i p t rows at_ fa fe
 rw [unStr_eq hl] at *
 obtain ⟨rfl, h1, h2, ⟨hLl, hL⟩, h4⟩ := hp
 obtain ⟨p, rfl⟩ := ex_str p
 simp only [sem_str] at h4 hk
 obtain ⟨k, rfl⟩ := Int.eq_ofNat_of_zero_le h1
 rw [Int.toNat_natCast] at hk
 refine ⟨Nat.le_of_ble_eq_true rfl, [0], ?_⟩
 by_cases hlt : k < L.length
 · have h5 : ((k : Int) < (L.length : Int)) = True := eq_true (by omega)
   have hg := strRows_get hlt
   have hg2 : (strRows L).getD k [] = [.v (.string ⟨(L.getD k []).toArray⟩)] := by rw [List.getD_eq_getElem?_getD, hg]; rfl
   have hb := hL _ (getD_in hlt)
   generalize L.getD k [] = s at hg hg2 hb hk
   by_cases hle : (p.length : Int) ≤ (s.length : Int)
   · simp -dsimp -implicitDefEqProofs only [S79, R79, CMore, rdr, h5, hg, hg2, hle, strRows_len, ↓Ev.xStp_eq, ↓Ev.P, Ev.Q, Ev.Z, simprocAttr]
     repeat' (first | with_reducible assumption | refine And.intro ?_ ?_ | intro _)
     all_goals try omega
     all_goals simpa [hlt] using hk
   · have hne : ¬ s.take p.length = p := fun e => by
       have := congrArg List.length e
       rw [List.length_take] at this
       omega
     simp -dsimp -implicitDefEqProofs only [S79, R79, CMore, rdr, h5, hg, hg2, hle, strRows_len, ↓Ev.xStp_eq, ↓Ev.P, Ev.Q, Ev.Z, simprocAttr]
     repeat' (first | with_reducible assumption | refine And.intro ?_ ?_ | intro _)
     all_goals try omega
     all_goals simpa [hne] using hk
 · have h5 : ((k : Int) < (L.length : Int)) = False := eq_false (by omega)
   simp -dsimp -implicitDefEqProofs only [S79, R79, CMore, rdr, h5, strRows_len, ↓Ev.xStp_eq, ↓Ev.P, Ev.Q, Ev.Z, simprocAttr]
   simpa [hlt] using hk
def okM (L : List (List UInt8)) : Prop := ∀ x ∈ L, x.take 28 = markS → x = markS
theorem nx_next_ok {L : List (List UInt8)} {k a : Nat} {s : List UInt8} (fa : Int) (h : nextL L k = .ok (s, a)) : nxC L k fa 0 = (s, (k : Int) + 1, fa, 0) := by
 unfold nextL at h
 split at h
 · rename_i h1
   split at h
   · rename_i h2
     simp only [Except.ok.injEq, Prod.mk.injEq] at h
     rw [nxC, if_pos rfl, if_neg (by omega), Int.toNat_natCast, if_pos h2, h.1]
   · cases h
 · cases h
theorem nx_next_err {L : List (List UInt8)} {k : Nat} {a e : Int} (fa : Int) (h : nextL L k = .error (a, e)) : nxC L k fa 0 = ([], (k : Int) + 1, (k : Int) + 1, e) ∧ a = (k : Int) + 1 ∧ ¬ e = 0 := by
 unfold nextL at h
 split at h
 · rename_i h1
   split at h
   · cases h
   · rename_i h2
     simp only [Except.error.injEq, Prod.mk.injEq] at h
     obtain ⟨rfl, rfl⟩ := h
     rw [nxC, if_pos rfl, if_neg (by omega), Int.toNat_natCast, if_neg h2]
     exact ⟨rfl, rfl, by decide⟩
 · rename_i h1
   simp only [Except.error.injEq, Prod.mk.injEq] at h
   obtain ⟨rfl, rfl⟩ := h
   rw [nxC, if_pos rfl, if_pos (by omega)]
   exact ⟨rfl, rfl, by decide⟩
end Go.Proofs.YtlghobefhmpfkaaGreatDoor
namespace Go.Proofs.YtlghobefhmpfkaaGreatDoor
open Go Go.Ev
set_option maxRecDepth 100000
variable {G : World → Prop}
def pickT (s : Int) (l : List Mk) : List (List UInt8) := (l.filter fun m => decide (m.1 = s) || decide (m.1 = 32)).map (·.2)
theorem pick_snoc (s : Int) {l : List Mk} {i : Nat} (h : i < l.length) : pickT s (l.take (i + 1)) = pickT s (l.take i) ++ (if (l.getD i mk0).1 = s ∨ (l.getD i mk0).1 = 32 then [(l.getD i mk0).2] else []) := by
 rw [mk_take h, pickT, List.filter_append, List.map_append]
 generalize l.getD i mk0 = m
 by_cases h1 : m.1 = s ∨ m.1 = 32
 · rw [if_pos h1]
   have : (decide (m.1 = s) || decide (m.1 = 32)) = true := by simpa using h1
   simp [pickT, this]
 · rw [if_neg h1]
   have : (decide (m.1 = s) || decide (m.1 = 32)) = false := by simpa using h1
   simp [pickT, this]
theorem pick_len (s : Int) (l : List Mk) : (pickT s l).length ≤ l.length := by
 rw [pickT, List.length_map]; exact List.length_filter_le _ _
theorem pick_take_len (s : Int) (l : List Mk) (i : Nat) (h : i ≤ l.length) : (pickT s (l.take i)).length ≤ i := by
 have := pick_len s (l.take i)
 rw [List.length_take] at this
 omega
theorem strRows_one (a : List (List UInt8)) (x : List UInt8) : strRows a ++ [[.v (.string ⟨x.toArray⟩)]] = strRows (a ++ [x]) := by simp [strRows]
def CPick : Contract := stC fun args st => match args, st with
 | [.agg [.d (.v (.int .i64 A)), .d (.v (.int .i64 AN)), .d (.v (.int .i64 B)), .d (.v (.int .i64 BN)), .d (.sl rows)], .d (.v (.int .u8 s))], ⟨0, []⟩ => (unMk rows).map fun l => (l.length ≤ 1099511627776, .own 0, ⟨1, [(0, .row 9 1 (strRows (pickT s l)))]⟩)
 | _, _ => none
def COld (s : Int) : Contract := stC fun args st => match args, st with
 | [.agg [.d (.v (.int .i64 A)), .d (.v (.int .i64 AN)), .d (.v (.int .i64 B)), .d (.v (.int .i64 BN)), .d (.sl rows)]], ⟨0, []⟩ => (unMk rows).map fun l => (l.length ≤ 1099511627776, .own 0, ⟨1, [(0, .row 9 1 (strRows (pickT s l)))]⟩)
 | _, _ => none
theorem s117 : Sound G Tryz.prog 117 CPick := by
 refine sd117 (T := tabT []) tab_nil (stC_lawful _) (st_hX fun args st p x st' K h hp hk => ?_)
 split at h <;> simp only [Option.map_eq_some_iff, Prod.mk.injEq, reduceCtorEq] at h
 obtain ⟨l, hl, rfl, rfl, rfl⟩ := h
 rw [unMk_eq hl] at *
 rename_i A AN B BN rows s
 refine ⟨Nat.le_of_ble_eq_true rfl, [0], ?_⟩
 simp -dsimp -implicitDefEqProofs only [S117, R117, mkRows_len, ↓Ev.xStp_eq, ↓Ev.P, Ev.Q, Ev.Z, simprocAttr]
 refine xLoop_intro (fun n st => ∃ i : Nat, i ≤ l.length ∧ n = l.length - i ∧
     st = ⟨[(1, .d (.v (.int .u8 s))), (5, .own 0), (9, .d (.sl (mkRows l))), (10, .d (.v (.int .i64 l.length))), (11, .d (.v (.int .i64 i)))], 1, [(0, .row 9 1 (strRows (pickT s (l.take i))))]⟩) l.length [1] ?_ ?_ ?_
 · simp -dsimp -implicitDefEqProofs only [↓Ev.xStp_eq, ↓Ev.P, Ev.Q, Ev.Z, simprocAttr]
 · simp -dsimp -implicitDefEqProofs only [↓Ev.xStp_eq, ↓Ev.P, Ev.Q, Ev.Z, simprocAttr]
   exact ⟨0, by omega, by omega, by simp [pickT, strRows]⟩
 · rintro n st ⟨i, hi, hn, rfl⟩
   by_cases hil : i < l.length
   · have hi3 : (i : Int) < l.length := by omega
     have hg := mkRows_get hil
     have hsn := pick_snoc s hil
     have hpl := pick_take_len s l i hi
     generalize l.getD i mk0 = m at hg hsn
     obtain ⟨c, t⟩ := m
     simp only at hsn
     by_cases hc : c = s
     · subst hc
       rw [if_pos (.inl rfl)] at hsn
       simp -dsimp -implicitDefEqProofs only [hg, hi3, mkRow, strRows_len, strRows_one, ↓Ev.xStp_eq, ↓Ev.P, Ev.Q, Ev.Z, simprocAttr]
       repeat' (first | with_reducible assumption | refine And.intro ?_ ?_ | intro _)
       all_goals try omega
       refine xAgain_intro (l.length - (i + 1)) [3] (by omega) (by simp -dsimp -implicitDefEqProofs only [↓Ev.xStp_eq, ↓Ev.P, Ev.Q, Ev.Z, simprocAttr]) ⟨i + 1, by omega, rfl, ?_⟩
       rw [hsn]
       simp -dsimp -implicitDefEqProofs only [↓Ev.xStp_eq, ↓Ev.P, Ev.Q, Ev.Z, simprocAttr]
       rfl
     · by_cases hc2 : c = 32
       · subst hc2
         rw [if_pos (.inr rfl)] at hsn
         simp -dsimp -implicitDefEqProofs only [hg, hi3, mkRow, hc, strRows_len, strRows_one, ↓Ev.xStp_eq, ↓Ev.P, Ev.Q, Ev.Z, simprocAttr]
         repeat' (first | with_reducible assumption | refine And.intro ?_ ?_ | intro _)
         all_goals try omega
         refine xAgain_intro (l.length - (i + 1)) [3] (by omega) (by simp -dsimp -implicitDefEqProofs only [↓Ev.xStp_eq, ↓Ev.P, Ev.Q, Ev.Z, simprocAttr]) ⟨i + 1, by omega, rfl, ?_⟩
         rw [hsn]
         simp -dsimp -implicitDefEqProofs only [↓Ev.xStp_eq, ↓Ev.P, Ev.Q, Ev.Z, simprocAttr]
         rfl
       · rw [if_neg (by rintro (h | h); exact hc h; exact hc2 h), List.append_nil] at hsn
         simp -dsimp -implicitDefEqProofs only [hg, hi3, mkRow, hc, hc2, strRows_len, strRows_one, ↓Ev.xStp_eq, ↓Ev.P, Ev.Q, Ev.Z, simprocAttr]
         repeat' (first | with_reducible assumption | refine And.intro ?_ ?_ | intro _)
         all_goals try omega
         refine xAgain_intro (l.length - (i + 1)) [0] (by omega) (by simp -dsimp -implicitDefEqProofs only [↓Ev.xStp_eq, ↓Ev.P, Ev.Q, Ev.Z, simprocAttr]) ⟨i + 1, by omega, rfl, ?_⟩
         rw [hsn]
         simp -dsimp -implicitDefEqProofs only [↓Ev.xStp_eq, ↓Ev.P, Ev.Q, Ev.Z, simprocAttr]
         rfl
   · have hi3 : ¬ (i : Int) < l.length := by omega
     simp -dsimp -implicitDefEqProofs only [hi3, ↓Ev.xStp_eq, ↓Ev.P, Ev.Q, Ev.Z, simprocAttr]
     rw [List.take_of_length_le (by omega)]
     exact hk
theorem s60 : Sound G Tryz.prog 60 (COld 45) := by
 refine sd60 (T := tabT [(117, CPick)]) (tab_cons s117 tab_nil) (stC_lawful _) (st_hX fun args st p x st' K h hp hk => ?_)
 split at h <;> simp only [Option.map_eq_some_iff, Prod.mk.injEq, reduceCtorEq] at h
 obtain ⟨l, hl, rfl, rfl, rfl⟩ := h
 rw [unMk_eq hl] at *
 refine ⟨Nat.le_of_ble_eq_true rfl, [1], ?_⟩
 simp -dsimp -implicitDefEqProofs only [S60, R60, CPick, unMk_rows, Ev.St.giveC, ↓Ev.xStp_eq, ↓Ev.P, Ev.Q, Ev.Z, simprocAttr]
 exact ⟨hp, hk⟩
theorem s61 : Sound G Tryz.prog 61 (COld 43) := by
 refine sd61 (T := tabT [(117, CPick)]) (tab_cons s117 tab_nil) (stC_lawful _) (st_hX fun args st p x st' K h hp hk => ?_)
 split at h <;> simp only [Option.map_eq_some_iff, Prod.mk.injEq, reduceCtorEq] at h
 obtain ⟨l, hl, rfl, rfl, rfl⟩ := h
 rw [unMk_eq hl] at *
 refine ⟨Nat.le_of_ble_eq_true rfl, [1], ?_⟩
 simp -dsimp -implicitDefEqProofs only [S61, R61, CPick, unMk_rows, Ev.St.giveC, ↓Ev.xStp_eq, ↓Ev.P, Ev.Q, Ev.Z, simprocAttr]
 exact ⟨hp, hk⟩
def isO (m : Mk) : Bool := decide (m.1 = 32) || decide (m.1 = 45)
def isN (m : Mk) : Bool := decide (m.1 = 32) || decide (m.1 = 43)
def okAt (m : Mk) (r : List Mk) : Bool := (lineQ m.2).1 && (isO m || isN m) && ((lineQ m.2).2 || !((isO m && r.any isO) || (isN m && r.any isN)))
def fieldsT : List Mk → Bool
 | [] => true
 | m :: r => okAt m r && fieldsT r
theorem fields_drop : ∀ (l : List Mk) (i : Nat), fieldsT l = true → fieldsT (l.drop i) = true
 | l, 0, h => by simpa using h
 | [], i + 1, h => by simp [fieldsT]
 | m :: r, i + 1, h => by
   simp only [fieldsT, Bool.and_eq_true] at h
   simp only [List.drop_succ_cons]
   exact fields_drop r i h.2
theorem fields_bad {l : List Mk} {i : Nat} (h : i < l.length) (hb : okAt (l.getD i mk0) (l.drop (i + 1)) = false) : fieldsT l = false := by
 cases e : fieldsT l with
 | false => rfl
 | true =>
   have := fields_drop l i e
   rw [mk_drop h, fieldsT, hb] at this
   simp at this
def CFields : Contract := pureC fun args => match args with
 | [.agg [.d (.v (.int .i64 A)), .d (.v (.int .i64 AN)), .d (.v (.int .i64 B)), .d (.v (.int .i64 BN)), .d (.sl rows)]] => (unMk rows).map fun l => (l.length ≤ 1099511627776 ∧ ∀ m ∈ l, m.2.length ≤ 1099511627776, .d (.v (.bool (fieldsT l))))
 | _ => none
def backXs (rows : List (List D)) : List (List SV) := (List.range rows.length).map fun (k : Nat) => [.d (.v (.int .i64 ((rows.length : Int) - 1 - k))), .agg ((rows.getD (rows.length - 1 - k) []).map .d)]
def backIt (sz : Nat) : List D → Option (Prop × List (List SV))
 | [.pt [.sl rows]] => some (rows.length ≤ 1099511627776 ∧ ∀ r ∈ rows, r.length = sz, backXs rows)
 | _ => none
theorem backXs_len (rows : List (List D)) : (backXs rows).length = rows.length := by simp [backXs]
theorem backXs_get {rows : List (List D)} {k : Nat} (h : k < rows.length) : (backXs rows)[k]? = some [.d (.v (.int .i64 ((rows.length : Int) - 1 - k))), .agg ((rows.getD (rows.length - 1 - k) []).map .d)] := by
 simp [backXs, h]
def CBackIt (sz : Nat) : Contract := ⟨fun _ _ _ => False, fun _ => none, backIt sz⟩
def CBackF (t f : Nat) : Contract := stC fun args st => match args, st with
 | [.d (.sl rows)], ⟨0, []⟩ => some (True, .fn f [.ptr 0 0], ⟨1, [(0, .cells t [.d (.sl rows)])]⟩)
 | _, _ => none
theorem s115 : Sound G Tryz.prog 115 (CBackF 45 162) := by
 refine sd115 (T := tabT []) tab_nil (stC_lawful _) (st_hX fun args st p x st' K h hp hk => ?_)
 split at h <;> simp only [Option.some.injEq, Prod.mk.injEq, reduceCtorEq] at h
 obtain ⟨rfl, rfl, rfl⟩ := h
 refine ⟨Nat.le_of_ble_eq_true rfl, [0], ?_⟩
 simp -dsimp -implicitDefEqProofs only [S115, R115, ↓Ev.xStp_eq, ↓Ev.P, Ev.Q, Ev.Z, simprocAttr]
 exact hk
theorem it162 : Sound G Tryz.prog 162 (CBackIt 2) := by
 obtain ⟨b, hb, hc⟩ := bd162
 refine ⟨fun _ _ _ _ h => (nomatch h), fun _ _ _ _ _ _ _ _ h => h.elim, soundIt_of_itv (T := tabT []) fn162 hb nm162 hc (by simp only [Tryz.f162, Option.some.injEq] at hb; subst hb; kernel_rfl) (by kernel_rfl) fun cs p xs h hp => ?_⟩
 simp only [CBackIt, backIt] at h
 split at h <;> simp only [Option.some.injEq, Prod.mk.injEq, reduceCtorEq] at h
 obtain ⟨rfl, rfl⟩ := h
 rename_i rows
 obtain ⟨h1, h2⟩ := hp
 refine ⟨Nat.le_of_ble_eq_true rfl, ?_⟩
 rw [backXs_len]
 simp -dsimp -implicitDefEqProofs only [S162, itv, itOps, itK, itKs, niO, isTk, isPV, ↓Ev.xStp_eq, ↓Ev.P, Ev.Q, Ev.Z, simprocAttr]
 refine ⟨by omega, ?_⟩
 refine itLoop_intro (fun n st md => ∃ k : Nat, k ≤ rows.length ∧ md = some k ∧ n = rows.length - k ∧ st = ⟨[(0, .any), (1, .d (.pt [.sl rows])), (3, .d (.v (.int .i64 ((rows.length : Int) - 1 - k))))], 0, []⟩) rows.length ?_ ?_
 · simp -dsimp -implicitDefEqProofs only [↓Ev.xStp_eq, ↓Ev.P, Ev.Q, Ev.Z, simprocAttr]
   exact ⟨0, by omega, rfl, by omega, by simp⟩
 · rintro n st md ⟨k, hk, rfl, hn, rfl⟩
   by_cases hkl : k < rows.length
   · have hi : (0 : Int) ≤ (rows.length : Int) - 1 - k := by omega
     have hj : ((rows.length : Int) - 1 - k).toNat = rows.length - 1 - k := by omega
     have hl : rows.length - 1 - k < rows.length := by omega
     have hx := backXs_get hkl
     have hr : rows[rows.length - 1 - k]? = some (rows.getD (rows.length - 1 - k) []) := by simp [List.getD_eq_getElem?_getD, List.getElem?_eq_getElem hl]
     have h4 : (rows.getD (rows.length - 1 - k) []).length = 2 := h2 _ (by rw [List.getD_eq_getElem?_getD, List.getElem?_eq_getElem hl]; exact List.getElem_mem hl)
     have ht : (rows.getD (rows.length - 1 - k) []).take 2 = rows.getD (rows.length - 1 - k) [] := List.take_of_length_le (by omega)
     simp -dsimp -implicitDefEqProofs only [itv, itOps, itK, itKs, niO, isTk, isPV, hi, hj, hr, h4, ht, hx, ↓Ev.xStp_eq, ↓Ev.P, Ev.Q, Ev.Z, simprocAttr]
     refine ⟨⟨by omega, itAgain_intro (rows.length - (k + 1)) (by simp) (by omega) ⟨k + 1, by omega, rfl, rfl, ?_⟩⟩, .inr rfl⟩
     simp -dsimp -implicitDefEqProofs only [↓Ev.xStp_eq, ↓Ev.P, Ev.Q, Ev.Z, simprocAttr]
     rw [show (rows.length : Int) - 1 - k - 1 = (rows.length : Int) - 1 - ((k + 1 : Nat) : Int) by omega]
   · have hi : ¬ (0 : Int) ≤ (rows.length : Int) - 1 - k := by omega
     simp -dsimp -implicitDefEqProofs only [itv, itOps, itK, itKs, niO, isTk, isPV, hi, ↓Ev.xStp_eq, ↓Ev.P, Ev.Q, Ev.Z, simprocAttr]
     exact .inl (by rw [show k = rows.length by omega])
theorem idx10 {s : List UInt8} (h : s ≠ []) : ((0 : Int) ≤ Lib.indexByte s 10 ∧ Lib.indexByte s 10 < (s.length : Int) - 1 ↔ 10 ∈ s.dropLast) ∧ (Lib.indexByte s 10 < 0 ↔ ¬ 10 ∈ s) := by
 have hl : 0 < s.length := List.length_pos_iff.2 h
 have hge := Lib.indexByte_ge s 10
 by_cases h0 : Lib.indexByte s 10 < 0
 · have e : Lib.indexByte s 10 = -1 := by omega
   have hn := Lib.indexByte_none e
   have hm : ¬ (10 : UInt8) ∈ s := fun hm => by
     obtain ⟨k, hk, e⟩ := List.getElem_of_mem hm
     exact hn k (by rw [List.getElem?_eq_getElem hk, e])
   exact ⟨⟨fun h => by omega, fun h => absurd ((List.dropLast_sublist s).subset h) hm⟩, ⟨fun _ => hm, fun _ => h0⟩⟩
 · obtain ⟨o, ho⟩ := Int.eq_ofNat_of_zero_le (show (0 : Int) ≤ Lib.indexByte s 10 by omega)
   obtain ⟨k1, k2⟩ := Lib.indexByte_some ho
   have hol := (List.getElem?_eq_some_iff.1 k1).1
   have hm : (10 : UInt8) ∈ s := List.mem_of_getElem? k1
   rw [ho]
   refine ⟨⟨fun hh => ?_, fun hh => ?_⟩, ⟨fun hh => by omega, fun hh => absurd hm hh⟩⟩
   · have hd : o < s.dropLast.length := by simp; omega
     have : s.dropLast[o] = 10 := by
       rw [List.getElem_dropLast]
       exact (List.getElem?_eq_some_iff.1 k1).2
     rw [← this]; exact List.getElem_mem hd
   · obtain ⟨j, hj, e⟩ := List.getElem_of_mem hh
     simp only [List.length_dropLast] at hj
     rw [List.getElem_dropLast] at e
     have : ¬ j < o := fun hjo => k2 j hjo (by rw [List.getElem?_eq_getElem (by omega), e])
     omega
theorem line10 {s : List UInt8} (h : s ≠ []) (h2 : ¬ 10 ∈ s.dropLast) : lineQ s = (true, decide (10 ∈ s)) := by
 rw [lineQ, if_neg (by rintro (e | e); exact h e; exact h2 e)]
 congr 1
 have hs : s = s.dropLast ++ [s.getLast h] := (List.dropLast_concat_getLast h).symm
 have hg : s.getLast? = some (s.getLast h) := List.getLast?_eq_some_getLast h
 rw [hg]
 by_cases e : s.getLast h = 10
 · have : (10 : UInt8) ∈ s := by rw [← e]; exact List.getLast_mem h
   simp [e, this]
 · have : ¬ (10 : UInt8) ∈ s := fun hm => by
     rw [hs, List.mem_append] at hm
     rcases hm with hm | hm
     · exact h2 hm
     · simp only [List.mem_singleton] at hm; exact e hm.symm
   simp [e, this]
theorem ten8 : (10 : Int).toNat.toUInt8 = 10 := by decide
theorem ten8b : Nat.toUInt8 10 = (10 : UInt8) := by decide
theorem mk_dropL {l : List Mk} {i : Nat} (h : i < l.length) : l.drop (l.length - (i + 1)) = l.getD (l.length - 1 - i) mk0 :: l.drop (l.length - i) := by
 rw [show l.length - (i + 1) = l.length - 1 - i by omega, mk_drop (by omega), show l.length - 1 - i + 1 = l.length - i by omega]
set_option maxHeartbeats 4000000 in
theorem s59 : Sound G Tryz.prog 59 CFields := by
 refine sd59 (T := tabT [(116, C163), (115, CBackF 45 162), (162, CBackIt 2)])
   (tab_cons s116 (tab_cons s115 (tab_cons it162 tab_nil))) (pureC_lawful _) (pure_hX fun args p x K h hp hk => ?_)
 split at h <;> simp only [Option.map_eq_some_iff, Prod.mk.injEq, reduceCtorEq] at h
 obtain ⟨l, hl, rfl, rfl⟩ := h
 rw [unMk_eq hl] at *
 rename_i A AN B BN rows
 obtain ⟨h1, h2⟩ := hp
 refine ⟨Nat.le_of_ble_eq_true rfl, ?_⟩
 simp -dsimp -implicitDefEqProofs only [S59, R59, CBackF, ↓Ev.xStp_eq, ↓Ev.P, Ev.Q, Ev.Z, simprocAttr]
 refine xEach_intro (fun i s => i ≤ l.length ∧ fieldsT (l.drop (l.length - i)) = true ∧ s = ⟨3, [(0, .cells 4 [.d (.v (.bool false))]), (1, .cells 4 [.d (.v (.bool ((l.drop (l.length - i)).any isO)))]), (2, .cells 4 [.d (.v (.bool ((l.drop (l.length - i)).any isN)))])]⟩) [1, 2, 3] rfl rfl ?_ ?_ ?_ ?_ ?_
 · exact ⟨by rw [mkRows_len]; omega, by rw [mkRows_all]; trivial⟩
 · simp -dsimp -implicitDefEqProofs only [↓Ev.xStp_eq, ↓Ev.P, Ev.Q, Ev.Z, simprocAttr]
 · refine ⟨by omega, by simp [fieldsT], ?_⟩
   simp -dsimp -implicitDefEqProofs only [↓Ev.xStp_eq, ↓Ev.P, Ev.Q, Ev.Z, simprocAttr]
   simp
 · rintro i s x ⟨hi, hf, rfl⟩ hx
   have hil : i < l.length := by
     have := (List.getElem?_eq_some_iff.1 hx).1
     rwa [backXs_len, mkRows_len] at this
   rw [backXs_get (by rw [mkRows_len]; exact hil), mkRows_len] at hx
   simp only [Option.some.injEq] at hx
   subst hx
   refine ⟨rfl, ?_⟩
   have hlt : l.length - 1 - i < l.length := by omega
   have hg2 := mkRows_getD hlt
   have hmx := h2 _ (mk_mem hlt)
   have hdl := mk_dropL hil
   have hbad := fields_bad hlt
   rw [show l.length - 1 - i + 1 = l.length - i by omega] at hbad
   rw [hg2]
   generalize l.getD (l.length - 1 - i) mk0 = m at hmx hdl hbad ⊢
   obtain ⟨c, t⟩ := m
   simp only at hmx
   generalize l.drop (l.length - i) = r at hf hdl hbad ⊢
   have ho : ∀ q1 q2, lineQ t = (q1, q2) → okAt (c, t) r = (q1 && (isO (c, t) || isN (c, t)) && (q2 || !((isO (c, t) && r.any isO) || (isN (c, t) && r.any isN)))) := fun q1 q2 e => by rw [okAt, e]
   have hno : (l.drop (l.length - (i + 1))).any isO = (isO (c, t) || r.any isO) := by rw [hdl, List.any_cons]
   have hnn : (l.drop (l.length - (i + 1))).any isN = (isN (c, t) || r.any isN) := by rw [hdl, List.any_cons]
   have hnf : fieldsT (l.drop (l.length - (i + 1))) = okAt (c, t) r := by rw [hdl, fieldsT, hf, Bool.and_true]
   generalize r.any isO = xo at ho hno ⊢
   generalize r.any isN = xn at ho hnn ⊢
   have hge := Lib.indexByte_ge t 10
   have h10 := fun h => idx10 (s := t) h
   have l10 := fun h h2 => line10 (s := t) h h2
   simp -dsimp -implicitDefEqProofs only [mkRow, C163, ten8, ten8b, ↓Ev.P, Ev.Q, Ev.Z, simprocAttr]
   repeat' (first | with_reducible assumption | refine And.intro ?_ ?_ | intro _ | (rw [Ev.xStp_eq]; simp -dsimp -implicitDefEqProofs only [C163, ten8, ten8b, ↓Ev.P, Ev.Q, Ev.Z, simprocAttr]))
   all_goals try omega
   · rename_i hh
     have hb : okAt (c, t) r = false := by
       rcases hh with (h | h) | h
       · rcases hq : lineQ t with ⟨q1, q2⟩
         rw [ho q1 q2 hq]
         obtain ⟨⟨e1, e2⟩, -, e3⟩ := h
         simp [isO, isN, e1, e2, e3]
       · rw [ho false false (by rw [h]; rfl)]; rfl
       · by_cases ht : t = []
         · rw [ho false false (by rw [ht]; rfl)]; rfl
         · have := (h10 ht).1.1 h
           rw [ho false false (by rw [lineQ, if_pos (.inr this)])]; rfl
     rw [hbad hb] at hk
     exact hk
   · rename_i hh hh2
     obtain ⟨⟨hc, ht⟩, hnd⟩ := hh
     obtain ⟨hat, hh2⟩ := hh2
     have hd : ¬ (10 : UInt8) ∈ t.dropLast := fun h => by
       obtain ⟨k1, k2⟩ := (h10 ht).1.2 h
       exact hnd.elim (fun e => e k1) (fun e => e k2)
     have hb : okAt (c, t) r = false := by
       rw [ho _ _ (l10 ht hd), decide_eq_false ((h10 ht).2.1 hat)]
       clear ho hno hnn hnf hbad
       rcases hh2 with ⟨(rfl | rfl), e⟩ | ⟨(rfl | rfl), e⟩ <;> rw [e] <;> simp [isO, isN]
     rw [hbad hb] at hk
     exact hk
   · rename_i hh hh2
     obtain ⟨⟨hc, ht⟩, hnd⟩ := hh
     have hd : ¬ (10 : UInt8) ∈ t.dropLast := fun h => by
       obtain ⟨k1, k2⟩ := (h10 ht).1.2 h
       exact hnd.elim (fun e => e k1) (fun e => e k2)
     have hb : okAt (c, t) r = true := by
       rw [ho _ _ (l10 ht hd)]
       have h3 : (10 : UInt8) ∈ t ∨ ((¬c = 32 ∧ ¬c = 45) ∨ xo = false) ∧ ((¬c = 32 ∧ ¬c = 43) ∨ xn = false) := hh2.imp (fun e => Classical.not_not.1 fun hn => e ((h10 ht).2.2 hn)) (fun e => ⟨e.1.elim (fun a => .inl a) .inr, e.2.elim (fun a => .inl a) .inr⟩)
       clear ho hno hnn hnf hbad hh2
       generalize hm : decide ((10 : UInt8) ∈ t) = b10
       have h4 : b10 = true ∨ ((¬c = 32 ∧ ¬c = 45) ∨ xo = false) ∧ ((¬c = 32 ∧ ¬c = 43) ∨ xn = false) := h3.imp (fun e => by rw [← hm]; exact decide_eq_true e) id
       clear h3 hm
       rcases hc with (rfl | rfl) | (rfl | rfl) <;> cases b10 <;> cases xo <;> cases xn <;> simp [isO, isN] at h4 ⊢
     refine xOnce_intro [0, 1, 2] (by simp -dsimp -implicitDefEqProofs only [↓Ev.xStp_eq, ↓Ev.P, Ev.Q, Ev.Z, simprocAttr]) ⟨by omega, by rw [hnf, hb], ?_⟩
     rw [hno, hnn]
     simp -dsimp -implicitDefEqProofs only [↓Ev.xStp_eq, ↓Ev.P, Ev.Q, Ev.Z, simprocAttr]
     simp only [isO, isN]
     rw [Bool.or_comm xo, Bool.or_comm xn]
 · rintro s ⟨hi, hf, rfl⟩
   rw [backXs_len, mkRows_len, Nat.sub_self, List.drop_zero] at hf
   rw [hf] at hk
   simp -dsimp -implicitDefEqProofs only [↓Ev.xStp_eq, ↓Ev.P, Ev.Q, Ev.Z, simprocAttr]
   exact hk
def firstM (f : Mk → Bool) (l : List Mk) : Int := match l.findIdx? f with
 | some i => i
 | none => -1
theorem first_hit {f : Mk → Bool} {l : List Mk} {i : Nat} (h : i < l.length) (hn : ∀ j, j < i → f (l.getD j mk0) = false) (hy : f (l.getD i mk0) = true) : firstM f l = i := by
 have : l.findIdx? f = some i := by
   rw [List.findIdx?_eq_some_iff_getElem]
   refine ⟨h, ?_, fun j hj => ?_⟩
   · rw [List.getD_eq_getElem?_getD, List.getElem?_eq_getElem h] at hy; exact hy
   · have := hn j hj
     rw [List.getD_eq_getElem?_getD, List.getElem?_eq_getElem (by omega)] at this
     simpa using this
 rw [firstM, this]
theorem first_miss {f : Mk → Bool} {l : List Mk} (hn : ∀ j, j < l.length → f (l.getD j mk0) = false) : firstM f l = -1 := by
 have : l.findIdx? f = none := by
   rw [List.findIdx?_eq_none_iff]
   intro x hx
   obtain ⟨j, hj, e⟩ := List.getElem_of_mem hx
   have := hn j hj
   rw [List.getD_eq_getElem?_getD, List.getElem?_eq_getElem hj] at this
   simpa [e] using this
 rw [firstM, this]
theorem first_any (f : Mk → Bool) (l : List Mk) : decide (0 ≤ firstM f l) = l.any f := by
 rw [firstM]
 cases e : l.findIdx? f with
 | none =>
   rw [List.findIdx?_eq_none_iff] at e
   have : l.any f = false := by
     rw [List.any_eq_false]
     intro x hx; simpa using e x hx
   rw [this]; decide
 | some i =>
   rw [List.findIdx?_eq_some_iff_getElem] at e
   obtain ⟨h, e, _⟩ := e
   have : l.any f = true := List.any_eq_true.2 ⟨_, List.getElem_mem h, e⟩
   rw [this]; simp
def chgM (m : Mk) : Bool := !decide (m.1 = 32)
def CChg : Contract := pureC fun args => match args with
 | [.agg [.d (.v (.int .u8 c)), .d (.v (.string t))]] => some (True, .d (.v (.bool (chgM (c, t.data.toList)))))
 | _ => none
theorem s57 : Sound G Tryz.prog 57 CChg := by
 refine sd57 (T := tabT []) tab_nil (pureC_lawful _) (pure_hX fun args p x K h hp hk => ?_)
 split at h <;> simp only [Option.some.injEq, Prod.mk.injEq, reduceCtorEq] at h
 obtain ⟨rfl, rfl⟩ := h
 refine ⟨Nat.le_of_ble_eq_true rfl, ?_⟩
 simp -dsimp -implicitDefEqProofs only [S57, R57, ↓Ev.xStp_eq, ↓Ev.P, Ev.Q, Ev.Z, simprocAttr]
 exact hk
def CIdxF : Contract := stC fun args st => match args, st with
 | [.d (.sl rows), .fn 57 []], ⟨0, []⟩ => (unMk rows).map fun l => (l.length ≤ 1099511627776, .d (.v (.int .i64 (firstM chgM l))), ⟨0, []⟩)
 | _, _ => none
def CCtF : Contract := stC fun args st => match args, st with
 | [.d (.sl rows), .fn 57 []], ⟨0, []⟩ => (unMk rows).map fun l => (l.length ≤ 1099511627776, .d (.v (.bool (l.any chgM))), ⟨0, []⟩)
 | _, _ => none
theorem s118 : Sound G Tryz.prog 118 CIdxF := by
 refine sd118 (T := tabT [(57, CChg)]) (tab_cons s57 tab_nil) (stC_lawful _) (st_hX fun args st p x st' K h hp hk => ?_)
 split at h <;> simp only [Option.map_eq_some_iff, Prod.mk.injEq, reduceCtorEq] at h
 obtain ⟨l, hl, rfl, rfl, rfl⟩ := h
 rw [unMk_eq hl] at *
 refine ⟨Nat.le_of_ble_eq_true rfl, [], ?_⟩
 simp -dsimp -implicitDefEqProofs only [S118, R118, mkRows_len, ↓Ev.xStp_eq, ↓Ev.P, Ev.Q, Ev.Z, simprocAttr]
 refine xLoop_intro (fun n st => ∃ i : Nat, i ≤ l.length ∧ n = l.length - i ∧ (∀ j, j < i → chgM (l.getD j mk0) = false) ∧
     st = ⟨[(0, .d (.sl (mkRows l))), (1, .fn 57 []), (7, .d (.v (.int .i64 l.length))), (8, .d (.v (.int .i64 i)))], 0, []⟩) l.length [] ?_ ?_ ?_
 · simp -dsimp -implicitDefEqProofs only [↓Ev.xStp_eq, ↓Ev.P, Ev.Q, Ev.Z, simprocAttr]
 · simp -dsimp -implicitDefEqProofs only [↓Ev.xStp_eq, ↓Ev.P, Ev.Q, Ev.Z, simprocAttr]
   exact ⟨0, by omega, by omega, fun _ h => by omega, rfl⟩
 · rintro n st ⟨i, hi, hn, hj, rfl⟩
   by_cases hil : i < l.length
   · have hi3 : (i : Int) < l.length := by omega
     have hg := mkRows_get hil
     have hx := fun hy => first_hit (f := chgM) hil hj hy
     have hj2 : chgM (l.getD i mk0) = false → ∀ j, j < i + 1 → chgM (l.getD j mk0) = false := fun h j hji => by
       by_cases e : j = i
       · subst e; exact h
       · exact hj j (by omega)
     generalize l.getD i mk0 = m at hg hx hj2
     obtain ⟨c, t⟩ := m
     simp -dsimp -implicitDefEqProofs only [hg, hi3, mkRow, CChg, Ev.St.giveC, ↓Ev.xStp_eq, ↓Ev.P, Ev.Q, Ev.Z, simprocAttr]
     repeat' (first | with_reducible assumption | refine And.intro ?_ ?_ | intro _)
     all_goals try omega
     · rename_i hc
       rw [hx hc] at hk
       exact hk
     · rename_i hc
       refine xAgain_intro (l.length - (i + 1)) [] (by omega) (by simp -dsimp -implicitDefEqProofs only [↓Ev.xStp_eq, ↓Ev.P, Ev.Q, Ev.Z, simprocAttr]) ⟨i + 1, by omega, rfl, hj2 hc, ?_⟩
       simp -dsimp -implicitDefEqProofs only [↓Ev.xStp_eq, ↓Ev.P, Ev.Q, Ev.Z, simprocAttr]
       rfl
   · have hi3 : ¬ (i : Int) < l.length := by omega
     simp -dsimp -implicitDefEqProofs only [hi3, ↓Ev.xStp_eq, ↓Ev.P, Ev.Q, Ev.Z, simprocAttr]
     rw [first_miss (fun j h => hj j (by omega))] at hk
     exact hk
theorem s62 : Sound G Tryz.prog 62 CCtF := by
 refine sd62 (T := tabT [(118, CIdxF)]) (tab_cons s118 tab_nil) (stC_lawful _) (st_hX fun args st p x st' K h hp hk => ?_)
 split at h <;> simp only [Option.map_eq_some_iff, Prod.mk.injEq, reduceCtorEq] at h
 obtain ⟨l, hl, rfl, rfl, rfl⟩ := h
 rw [unMk_eq hl] at *
 refine ⟨Nat.le_of_ble_eq_true rfl, [], ?_⟩
 simp -dsimp -implicitDefEqProofs only [S62, R62, CIdxF, unMk_rows, ↓Ev.xStp_eq, ↓Ev.P, Ev.Q, Ev.Z, simprocAttr]
 rw [first_any]
 exact ⟨hp, hk⟩
def hkChk (A AN B BN : Int) (l : List Mk) : Int :=
 if (((((cntB A = false ∨ cntB AN = false) ∨ cntB B = false) ∨ cntB BN = false) ∨ (A = 0 ∧ 0 < AN)) ∨ (B = 0 ∧ 0 < BN)) then 2
 else if fieldsT l = false then 6
 else if ¬ AN = (pickT 45 l).length ∨ ¬ BN = (pickT 43 l).length then 120
 else if l.any chgM = false then 50 else 0
def CHk : Contract := pureC fun args => match args with
 | [.agg [.d (.v (.int .i64 A)), .d (.v (.int .i64 AN)), .d (.v (.int .i64 B)), .d (.v (.int .i64 BN)), .d (.sl rows)]] => (unMk rows).map fun l => (l.length ≤ 1099511627776 ∧ ∀ m ∈ l, m.2.length ≤ 1099511627776, .d (.v (.int .i64 (hkChk A AN B BN l))))
 | _ => none
theorem cnt_true {n : Int} (h : cntB n = true) : 0 ≤ n ∧ n ≤ 2147483647 := by simpa [cntB] using h
set_option maxHeartbeats 4000000 in
theorem s22 : Sound G Tryz.prog 22 CHk := by
 refine sd22 (T := tabT [(58, CNum), (59, CFields), (60, COld 45), (61, COld 43), (62, CCtF)])
   (tab_cons s58 (tab_cons s59 (tab_cons s60 (tab_cons s61 (tab_cons s62 tab_nil))))) (pureC_lawful _) (pure_hX fun args p x K h hp hk => ?_)
 split at h <;> simp only [Option.map_eq_some_iff, Prod.mk.injEq, reduceCtorEq] at h
 obtain ⟨l, hl, rfl, rfl⟩ := h
 rw [unMk_eq hl] at *
 rename_i A AN B BN rows
 obtain ⟨h1, h2⟩ := hp
 refine ⟨Nat.le_of_ble_eq_true rfl, ?_⟩
 have l1 := pick_len 45 l
 have l2 := pick_len 43 l
 unfold hkChk at hk
 by_cases hn : ((cntB A = true ∧ cntB AN = true) ∧ cntB B = true) ∧ cntB BN = true
 · obtain ⟨⟨⟨e1, e2⟩, e3⟩, e4⟩ := hn
   have c1 := cnt_true e1
   have c2 := cnt_true e2
   have c3 := cnt_true e3
   have c4 := cnt_true e4
   by_cases hm : A < min 1 AN ∨ B < min 1 BN
   · rw [if_pos (by omega)] at hk
     by_cases m1 : A < min 1 AN
     · simp -dsimp -implicitDefEqProofs only [S22, R22, CNum, e1, e2, e3, e4, m1, ↓Ev.P, Ev.Q, Ev.Z, simprocAttr]
       repeat' (first | with_reducible assumption | refine And.intro ?_ ?_ | intro _ | (rw [Ev.xStp_eq]; simp -dsimp -implicitDefEqProofs only [CNum, e1, e2, e3, e4, m1, ↓Ev.P, Ev.Q, Ev.Z, simprocAttr]))
     · have m2 := hm.resolve_left m1
       simp -dsimp -implicitDefEqProofs only [S22, R22, CNum, e1, e2, e3, e4, m1, m2, ↓Ev.P, Ev.Q, Ev.Z, simprocAttr]
       repeat' (first | with_reducible assumption | refine And.intro ?_ ?_ | intro _ | (rw [Ev.xStp_eq]; simp -dsimp -implicitDefEqProofs only [CNum, e1, e2, e3, e4, m1, m2, ↓Ev.P, Ev.Q, Ev.Z, simprocAttr]))
   · have m1 : ¬ A < min 1 AN := fun h => hm (.inl h)
     have m2 : ¬ B < min 1 BN := fun h => hm (.inr h)
     rw [if_neg (by rw [e1, e2, e3, e4]; simp; omega)] at hk
     cases hf : fieldsT l with
     | false =>
       rw [if_pos hf] at hk
       simp -dsimp -implicitDefEqProofs only [S22, R22, CNum, e1, e2, e3, e4, m1, m2, ↓Ev.P, Ev.Q, Ev.Z, simprocAttr]
       repeat' (first | with_reducible assumption | refine And.intro ?_ ?_ | intro _ | (rw [Ev.xStp_eq]; simp -dsimp -implicitDefEqProofs only [CNum, e1, e2, e3, e4, m1, m2, CFields, unMk_rows, hf, Ev.St.giveC, ↓Ev.P, Ev.Q, Ev.Z, simprocAttr]))
     | true =>
       rw [if_neg (by rw [hf]; simp)] at hk
       have ha : l.any chgM = false ∨ l.any chgM = true := by cases l.any chgM <;> simp
       by_cases ho : AN = (pickT 45 l).length
       · by_cases hw : BN = (pickT 43 l).length
         · rw [if_neg (by rintro (h | h); exact h ho; exact h hw)] at hk
           have ho' : (AN = (pickT 45 l).length) = True := eq_true ho
           have hw' : (BN = (pickT 43 l).length) = True := eq_true hw
           rcases ha with ha | ha <;>
           · rw [ha] at hk
             simp only [if_true, Bool.true_eq_false, if_false] at hk
             simp -dsimp -implicitDefEqProofs only [S22, R22, CNum, e1, e2, e3, e4, m1, m2, ↓Ev.P, Ev.Q, Ev.Z, simprocAttr]
             repeat' (first | with_reducible assumption | refine And.intro ?_ ?_ | intro _ | (rw [Ev.xStp_eq]; simp -dsimp -implicitDefEqProofs only [CNum, e1, e2, e3, e4, m1, m2, CFields, COld, CCtF, unMk_rows, strRows_len, hf, ho', hw', ha, Ev.St.giveC, ↓Ev.P, Ev.Q, Ev.Z, simprocAttr]))
         · rw [if_pos (.inr hw)] at hk
           have ho' : (AN = (pickT 45 l).length) = True := eq_true ho
           have hw' : (BN = (pickT 43 l).length) = False := eq_false hw
           simp -dsimp -implicitDefEqProofs only [S22, R22, CNum, e1, e2, e3, e4, m1, m2, ↓Ev.P, Ev.Q, Ev.Z, simprocAttr]
           repeat' (first | with_reducible assumption | refine And.intro ?_ ?_ | intro _ | (rw [Ev.xStp_eq]; simp -dsimp -implicitDefEqProofs only [CNum, e1, e2, e3, e4, m1, m2, CFields, COld, CCtF, unMk_rows, strRows_len, hf, ho', hw', Ev.St.giveC, ↓Ev.P, Ev.Q, Ev.Z, simprocAttr]))
       · rw [if_pos (.inl ho)] at hk
         have ho' : (AN = (pickT 45 l).length) = False := eq_false ho
         simp -dsimp -implicitDefEqProofs only [S22, R22, CNum, e1, e2, e3, e4, m1, m2, ↓Ev.P, Ev.Q, Ev.Z, simprocAttr]
         repeat' (first | with_reducible assumption | refine And.intro ?_ ?_ | intro _ | (rw [Ev.xStp_eq]; simp -dsimp -implicitDefEqProofs only [CNum, e1, e2, e3, e4, m1, m2, CFields, COld, CCtF, unMk_rows, strRows_len, hf, ho', Ev.St.giveC, ↓Ev.P, Ev.Q, Ev.Z, simprocAttr]))
 · rw [if_pos (by revert hn; cases cntB A <;> cases cntB AN <;> cases cntB B <;> cases cntB BN <;> simp)] at hk
   cases e1 : cntB A with
   | false =>
     simp -dsimp -implicitDefEqProofs only [S22, R22, CNum, e1, ↓Ev.P, Ev.Q, Ev.Z, simprocAttr]
     repeat' (first | with_reducible assumption | refine And.intro ?_ ?_ | intro _ | (rw [Ev.xStp_eq]; simp -dsimp -implicitDefEqProofs only [CNum, e1, ↓Ev.P, Ev.Q, Ev.Z, simprocAttr]))
   | true =>
     cases e2 : cntB AN with
     | false =>
       simp -dsimp -implicitDefEqProofs only [S22, R22, CNum, e1, e2, ↓Ev.P, Ev.Q, Ev.Z, simprocAttr]
       repeat' (first | with_reducible assumption | refine And.intro ?_ ?_ | intro _ | (rw [Ev.xStp_eq]; simp -dsimp -implicitDefEqProofs only [CNum, e1, e2, ↓Ev.P, Ev.Q, Ev.Z, simprocAttr]))
     | true =>
       cases e3 : cntB B with
       | false =>
         simp -dsimp -implicitDefEqProofs only [S22, R22, CNum, e1, e2, e3, ↓Ev.P, Ev.Q, Ev.Z, simprocAttr]
         repeat' (first | with_reducible assumption | refine And.intro ?_ ?_ | intro _ | (rw [Ev.xStp_eq]; simp -dsimp -implicitDefEqProofs only [CNum, e1, e2, e3, ↓Ev.P, Ev.Q, Ev.Z, simprocAttr]))
       | true =>
         have e4 : cntB BN = false := by
           cases e4 : cntB BN with
           | false => rfl
           | true => exact absurd ⟨⟨⟨e1, e2⟩, e3⟩, e4⟩ hn
         simp -dsimp -implicitDefEqProofs only [S22, R22, CNum, e1, e2, e3, e4, ↓Ev.P, Ev.Q, Ev.Z, simprocAttr]
         repeat' (first | with_reducible assumption | refine And.intro ?_ ?_ | intro _ | (rw [Ev.xStp_eq]; simp -dsimp -implicitDefEqProofs only [CNum, e1, e2, e3, e4, ↓Ev.P, Ev.Q, Ev.Z, simprocAttr]))
abbrev Hk := (Int × Int × Int × Int) × List Mk
abbrev hk0 : Hk := ((0, 0, 0, 0), [])
def hkRow (h : Hk) : List D := [.v (.int .i64 h.1.1), .v (.int .i64 h.1.2.1), .v (.int .i64 h.1.2.2.1), .v (.int .i64 h.1.2.2.2), .sl (mkRows h.2)]
def hkRows (l : List Hk) : List (List D) := l.map hkRow
theorem hkRows_len (l : List Hk) : (hkRows l).length = l.length := by simp [hkRows]
theorem hkRows_get {l : List Hk} {i : Nat} (h : i < l.length) : (hkRows l)[i]? = some (hkRow (l.getD i hk0)) := by
 simp [hkRows, List.getD_eq_getElem?_getD, List.getElem?_eq_getElem h]
theorem hkRows_getD {l : List Hk} {i : Nat} (h : i < l.length) : (hkRows l).getD i [] = hkRow (l.getD i hk0) := by rw [List.getD_eq_getElem?_getD, hkRows_get h]; rfl
theorem hkRows_all (l : List Hk) : (∀ r ∈ hkRows l, r.length = 5) = True := by
 refine eq_true fun r hr => ?_
 obtain ⟨m, _, rfl⟩ := List.mem_map.1 hr
 rfl
def unHk : List (List D) → Option (List Hk)
 | [] => some []
 | [.v (.int .i64 a), .v (.int .i64 b), .v (.int .i64 c), .v (.int .i64 d), .sl rows] :: r => (unMk rows).bind fun l => (unHk r).map (((a, b, c, d), l) :: ·)
 | _ => none
theorem unHk_rows : ∀ l : List Hk, unHk (hkRows l) = some l
 | [] => rfl
 | h :: r => by
   have := unHk_rows r
   unfold hkRows at this
   simp [hkRows, hkRow, unHk, unMk_rows, this]
theorem unHk_eq : ∀ {rows : List (List D)} {l : List Hk}, unHk rows = some l → rows = hkRows l
 | [], l, h => by simp only [unHk, Option.some.injEq] at h; subst h; rfl
 | x :: r, l, h => by
   unfold unHk at h
   split at h
   · rename_i e; cases e
   · rename_i a b c d rows r' e
     simp only [List.cons.injEq] at e
     obtain ⟨rfl, rfl⟩ := e
     obtain ⟨m, h1, h3⟩ := Option.bind_eq_some_iff.1 h
     obtain ⟨k, h2, rfl⟩ := Option.map_eq_some_iff.1 h3
     rw [unHk_eq h2, unMk_eq h1]
     simp [hkRows, hkRow]
   · cases h
theorem hk_mem {l : List Hk} {i : Nat} (h : i < l.length) : l.getD i hk0 ∈ l := by simp [List.getD_eq_getElem?_getD, List.getElem?_eq_getElem h]
def chkH (h : Hk) : Int := hkChk h.1.1 h.1.2.1 h.1.2.2.1 h.1.2.2.2 h.2
def smH (l : List Hk) : Prop := l.length ≤ 1099511627776 ∧ ∀ h ∈ l, h.2.length ≤ 1099511627776 ∧ ∀ m ∈ h.2, m.2.length ≤ 1099511627776
theorem hkRows_one (l : List Hk) (A AN B BN : Int) (m : List Mk) : hkRows l ++ [[.v (.int .i64 A), .v (.int .i64 AN), .v (.int .i64 B), .v (.int .i64 BN), .sl (mkRows m)]] = hkRows (l ++ [((A, AN, B, BN), m)]) := by simp [hkRows, hkRow]
abbrev Pt := (List UInt8 × List UInt8) × List Hk
abbrev pt0 : Pt := (([], []), [])
def ptRow (p : Pt) : List D := [.v (.string ⟨p.1.1.toArray⟩), .v (.string ⟨p.1.2.toArray⟩), .sl (hkRows p.2)]
def ptRows (l : List Pt) : List (List D) := l.map ptRow
theorem ptRows_len (l : List Pt) : (ptRows l).length = l.length := by simp [ptRows]
theorem ptRows_get {l : List Pt} {i : Nat} (h : i < l.length) : (ptRows l)[i]? = some (ptRow (l.getD i pt0)) := by
 simp [ptRows, List.getD_eq_getElem?_getD, List.getElem?_eq_getElem h]
theorem ptRows_all (l : List Pt) : (∀ r ∈ ptRows l, r.length = 3) = True := by
 refine eq_true fun r hr => ?_
 obtain ⟨m, _, rfl⟩ := List.mem_map.1 hr
 rfl
def unPt : List (List D) → Option (List Pt)
 | [] => some []
 | [.v (.string o), .v (.string n), .sl rows] :: r => (unHk rows).bind fun l => (unPt r).map (((o.data.toList, n.data.toList), l) :: ·)
 | _ => none
theorem unPt_rows : ∀ l : List Pt, unPt (ptRows l) = some l
 | [] => rfl
 | h :: r => by
   have := unPt_rows r
   unfold ptRows at this
   simp [ptRows, ptRow, unPt, unHk_rows, this]
theorem unPt_eq : ∀ {rows : List (List D)} {l : List Pt}, unPt rows = some l → rows = ptRows l
 | [], l, h => by simp only [unPt, Option.some.injEq] at h; subst h; rfl
 | x :: r, l, h => by
   unfold unPt at h
   split at h
   · rename_i e; cases e
   · rename_i o n rows r' e
     simp only [List.cons.injEq] at e
     obtain ⟨rfl, rfl⟩ := e
     obtain ⟨m, h1, h3⟩ := Option.bind_eq_some_iff.1 h
     obtain ⟨k, h2, rfl⟩ := Option.map_eq_some_iff.1 h3
     rw [unPt_eq h2, unHk_eq h1]
     obtain ⟨o, rfl⟩ := ex_str o
     obtain ⟨n, rfl⟩ := ex_str n
     simp [ptRows, ptRow]
   · cases h
theorem pt_mem {l : List Pt} {i : Nat} (h : i < l.length) : l.getD i pt0 ∈ l := by simp [List.getD_eq_getElem?_getD, List.getElem?_eq_getElem h]
theorem ptRows_one (l : List Pt) (o n : List UInt8) (h : List Hk) : ptRows l ++ [[.v (.string ⟨o.toArray⟩), .v (.string ⟨n.toArray⟩), .sl (hkRows h)]] = ptRows (l ++ [((o, n), h)]) := by simp [ptRows, ptRow]
def smP (l : List Pt) : Prop := l.length ≤ 1099511627776 ∧ ∀ p ∈ l, smH p.2
def CSame1 : Contract := pureC fun args => match args with
 | [.agg [.d (.v (.int .i64 A)), .d (.v (.int .i64 AN)), .d (.v (.int .i64 B)), .d (.v (.int .i64 BN)), .d (.sl rows)], .agg [.d (.v (.int .i64 A')), .d (.v (.int .i64 AN')), .d (.v (.int .i64 B')), .d (.v (.int .i64 BN')), .d (.sl rows')]] =>
     (unMk rows).bind fun l => (unMk rows').map fun m => (((A, AN, B, BN) = (A', AN', B', BN') ∧ l = m) ∧ l.length ≤ 1099511627776, .d (.v (.bool true)))
 | _ => none
set_option maxHeartbeats 1000000 in
theorem s56 : Sound G Tryz.prog 56 CSame1 := by
 refine sd56 (T := tabT []) tab_nil (pureC_lawful _) (pure_hX fun args p x K h hp hk => ?_)
 split at h <;> simp only [Option.bind_eq_some_iff, Option.map_eq_some_iff, Prod.mk.injEq, reduceCtorEq] at h
 obtain ⟨l, hl, m, hm, rfl, rfl⟩ := h
 rw [unMk_eq hl, unMk_eq hm] at *
 rename_i A AN B BN rows A' AN' B' BN' rows'
 obtain ⟨⟨e, rfl⟩, h1⟩ := hp
 obtain ⟨rfl, rfl, rfl, rfl⟩ := e
 refine ⟨Nat.le_of_ble_eq_true rfl, ?_⟩
 simp -dsimp -implicitDefEqProofs only [S56, R56, mkRows_len, ↓Ev.P, Ev.Q, Ev.Z, simprocAttr]
 repeat' (first | with_reducible assumption | refine And.intro ?_ ?_ | intro _ | (rw [Ev.xStp_eq]; simp -dsimp -implicitDefEqProofs only [mkRows_len, ↓Ev.P, Ev.Q, Ev.Z, simprocAttr]))
 refine xLoop_intro (fun n st => ∃ i : Nat, i ≤ l.length ∧ n = l.length - i ∧
     st = ⟨[(2, .ptr 0 0), (3, .ptr 1 0), (5, .d (.v (.int .i64 i)))], 2, [(0, .cells 47 [.d (.v (.int .i64 A)), .d (.v (.int .i64 AN)), .d (.v (.int .i64 B)), .d (.v (.int .i64 BN)), .d (.sl (mkRows l))]), (1, .cells 47 [.d (.v (.int .i64 A)), .d (.v (.int .i64 AN)), .d (.v (.int .i64 B)), .d (.v (.int .i64 BN)), .d (.sl (mkRows l))])]⟩) l.length [0, 1] ?_ ?_ ?_
 · simp -dsimp -implicitDefEqProofs only [↓Ev.xStp_eq, ↓Ev.P, Ev.Q, Ev.Z, simprocAttr]
 · simp -dsimp -implicitDefEqProofs only [↓Ev.xStp_eq, ↓Ev.P, Ev.Q, Ev.Z, simprocAttr]
   exact ⟨0, by omega, by omega, rfl⟩
 · rintro n st ⟨i, hi, hn, rfl⟩
   by_cases hil : i < l.length
   · have hi3 : (i : Int) < l.length := by omega
     have hg := mkRows_get hil
     generalize l.getD i mk0 = m at hg
     obtain ⟨c, t⟩ := m
     simp -dsimp -implicitDefEqProofs only [hg, hi3, mkRow, mkRows_len, ↓Ev.xStp_eq, ↓Ev.P, Ev.Q, Ev.Z, simprocAttr]
     repeat' (first | with_reducible assumption | refine And.intro ?_ ?_ | intro _)
     all_goals first | omega | skip
     refine xAgain_intro (l.length - (i + 1)) [0, 1] (by omega) (by simp -dsimp -implicitDefEqProofs only [↓Ev.xStp_eq, ↓Ev.P, Ev.Q, Ev.Z, simprocAttr]) ⟨i + 1, by omega, rfl, ?_⟩
     simp -dsimp -implicitDefEqProofs only [↓Ev.xStp_eq, ↓Ev.P, Ev.Q, Ev.Z, simprocAttr]
     rfl
   · have hi3 : ¬ (i : Int) < l.length := by omega
     simp -dsimp -implicitDefEqProofs only [hi3, mkRows_len, ↓Ev.xStp_eq, ↓Ev.P, Ev.Q, Ev.Z, simprocAttr]
     exact hk
def CSameHs : Contract := pureC fun args => match args with
 | [.d (.sl rows), .d (.sl rows')] => (unHk rows).bind fun l => (unHk rows').map fun m => (l = m ∧ smH l, .d (.v (.bool true)))
 | _ => none
set_option maxHeartbeats 1000000 in
theorem s21 : Sound G Tryz.prog 21 CSameHs := by
 refine sd21 (T := tabT [(56, CSame1)]) (tab_cons s56 tab_nil) (pureC_lawful _) (pure_hX fun args p x K h hp hk => ?_)
 split at h <;> simp only [Option.bind_eq_some_iff, Option.map_eq_some_iff, Prod.mk.injEq, reduceCtorEq] at h
 obtain ⟨l, hl, m, hm, rfl, rfl⟩ := h
 rw [unHk_eq hl, unHk_eq hm] at *
 obtain ⟨rfl, h1, h2⟩ := hp
 refine ⟨Nat.le_of_ble_eq_true rfl, ?_⟩
 simp -dsimp -implicitDefEqProofs only [S21, R21, hkRows_len, ↓Ev.xStp_eq, ↓Ev.P, Ev.Q, Ev.Z, simprocAttr]
 refine xLoop_intro (fun n st => ∃ i : Nat, i ≤ l.length ∧ n = l.length - i ∧
     st = ⟨[(0, .d (.sl (hkRows l))), (1, .d (.sl (hkRows l))), (5, .d (.v (.int .i64 i)))], 0, []⟩) l.length [] ?_ ?_ ?_
 · simp -dsimp -implicitDefEqProofs only [↓Ev.xStp_eq, ↓Ev.P, Ev.Q, Ev.Z, simprocAttr]
 · simp -dsimp -implicitDefEqProofs only [↓Ev.xStp_eq, ↓Ev.P, Ev.Q, Ev.Z, simprocAttr]
   exact ⟨0, by omega, by omega, rfl⟩
 · rintro n st ⟨i, hi, hn, rfl⟩
   by_cases hil : i < l.length
   · have hi3 : (i : Int) < l.length := by omega
     have hg := hkRows_get hil
     have hg2 := hkRows_getD hil
     have hm := h2 _ (hk_mem hil)
     generalize l.getD i hk0 = h at hg hg2 hm
     obtain ⟨⟨A, AN, B, BN⟩, m⟩ := h
     simp only at hm
     simp -dsimp -implicitDefEqProofs only [hg, hg2, hi3, hkRow, hkRows_len, CSame1, unMk_rows, Ev.St.giveC, ↓Ev.xStp_eq, ↓Ev.P, Ev.Q, Ev.Z, simprocAttr]
     repeat' (first | with_reducible assumption | refine And.intro ?_ ?_ | intro _)
     all_goals first | omega | rfl | exact hm.1 | skip
     refine xAgain_intro (l.length - (i + 1)) [] (by omega) (by simp -dsimp -implicitDefEqProofs only [↓Ev.xStp_eq, ↓Ev.P, Ev.Q, Ev.Z, simprocAttr]) ⟨i + 1, by omega, rfl, ?_⟩
     simp -dsimp -implicitDefEqProofs only [↓Ev.xStp_eq, ↓Ev.P, Ev.Q, Ev.Z, simprocAttr]
     rfl
   · have hi3 : ¬ (i : Int) < l.length := by omega
     simp -dsimp -implicitDefEqProofs only [hi3, hkRows_len, ↓Ev.xStp_eq, ↓Ev.P, Ev.Q, Ev.Z, simprocAttr]
     exact hk
def CSameP : Contract := pureC fun args => match args with
 | [.agg [.d (.v (.string o)), .d (.v (.string n)), .d (.sl rows)], .agg [.d (.v (.string o')), .d (.v (.string n')), .d (.sl rows')]] => (unHk rows).bind fun l => (unHk rows').map fun m => ((o = o' ∧ n = n' ∧ l = m) ∧ smH l, .d (.v (.bool true)))
 | _ => none
theorem s71 : Sound G Tryz.prog 71 CSameP := by
 refine sd71 (T := tabT [(21, CSameHs)]) (tab_cons s21 tab_nil) (pureC_lawful _) (pure_hX fun args p x K h hp hk => ?_)
 split at h <;> simp only [Option.bind_eq_some_iff, Option.map_eq_some_iff, Prod.mk.injEq, reduceCtorEq] at h
 obtain ⟨l, hl, m, hm, rfl, rfl⟩ := h
 rw [unHk_eq hl, unHk_eq hm] at *
 obtain ⟨⟨rfl, rfl, rfl⟩, h1⟩ := hp
 refine ⟨Nat.le_of_ble_eq_true rfl, ?_⟩
 simp -dsimp -implicitDefEqProofs only [S71, R71, CSameHs, unHk_rows, Ev.St.giveC, ↓Ev.P, Ev.Q, Ev.Z, simprocAttr]
 repeat' (first | with_reducible assumption | refine And.intro ?_ ?_ | intro _ | (rw [Ev.xStp_eq]; simp -dsimp -implicitDefEqProofs only [CSameHs, unHk_rows, Ev.St.giveC, ↓Ev.P, Ev.Q, Ev.Z, simprocAttr]))
end Go.Proofs.YtlghobefhmpfkaaGreatDoor
namespace Go.Proofs.YtlghobefhmpfkaaGreatDoor
open Go Go.Ev Go.Rcs
set_option maxRecDepth 100000
variable {G : World → Prop}
def hkA (x : Hk × Nat) : SV × Int := (.agg [.d (.v (.int .i64 x.1.1.1)), .d (.v (.int .i64 x.1.1.2.1)), .d (.v (.int .i64 x.1.1.2.2.1)), .d (.v (.int .i64 x.1.1.2.2.2)), .d (.sl (mkRows x.1.2))], (x.2 : Int))
theorem lns_feed : ∀ (l : List UInt8), ∀ x ∈ lns l, ∀ k, k + 1 < x.length → x.getD k 0 ≠ 10
 | [], x, h, k, _ => by simp [lns] at h
 | c :: r, x, h, k, hk => by
   rw [lns] at h
   by_cases hc : c = 10
   · rw [if_pos hc] at h
     rcases List.mem_cons.1 h with rfl | h
     · simp at hk
     · exact lns_feed r x h k hk
   · rw [if_neg hc] at h
     cases hl : lns r with
     | nil =>
       rw [hl] at h
       simp only [List.mem_singleton] at h
       subst h
       simp at hk
     | cons p ps =>
       rw [hl] at h
       rcases List.mem_cons.1 h with rfl | h
       · cases k with
         | zero => simpa using hc
         | succ k =>
           have := lns_feed r p (by rw [hl]; simp) k (by simpa using hk)
           simpa using this
       · exact lns_feed r x (by rw [hl]; exact List.mem_cons_of_mem _ h) k hk
theorem lns_szN (s : List UInt8) (h : s.length ≤ 1048576) : (lns s).length ≤ 1048576 ∧ ∀ x ∈ lns s, x.length ≤ 1048576 := by
 refine ⟨Nat.le_trans (lns_len s) h, fun x hx => ?_⟩
 have h2 : x.length ≤ (lns s).flatten.length := by
   obtain ⟨a, b, e⟩ := List.append_of_mem hx
   rw [e]; simp; omega
 rw [lns_flat] at h2
 omega
theorem lns_okM (l : List UInt8) : okM (lns l) := by
 intro x hx h
 have h28 : (x.take 28).length = 28 := by rw [h]; rfl
 have h1 : 28 ≤ x.length := by rw [List.length_take] at h28; omega
 by_cases h2 : x.length = 28
 · rw [List.take_of_length_le (by omega)] at h; exact h
 · exfalso
   refine lns_feed l x hx 27 (by omega) ?_
   have h3 : (x.take 28).getD 27 0 = x.getD 27 0 := by simp [List.getD_eq_getElem?_getD, List.getElem?_take]
   rw [← h3, h]
   rfl
def feedE (L : List (List UInt8)) : Prop := ∀ x ∈ L, ∀ k, k + 1 < x.length → x.getD k 0 ≠ 10
theorem bare_no {x : List UInt8} (h : ∀ k, k + 1 < x.length → x.getD k 0 ≠ 10) (hb : (bareS x).2 = true) : 10 ∉ (bareS x).1 := by
 unfold bareS at hb ⊢
 split at hb
 · rename_i hl
   rw [if_pos hl]
   intro hm
   obtain ⟨k, hk, e⟩ := List.mem_iff_getElem.1 hm
   simp only [List.length_dropLast] at hk
   refine h k (by omega) ?_
   rw [List.getElem_dropLast] at e
   rw [List.getD_eq_getElem?_getD, List.getElem?_eq_getElem (by omega), Option.getD_some]
   exact e
 · cases hb
theorem cnt_inN {n : Int} (h : 0 ≤ n ∧ n ≤ 2147483647) : cntB n = true := by simpa [cntB] using h
end Go.Proofs.YtlghobefhmpfkaaGreatDoor
