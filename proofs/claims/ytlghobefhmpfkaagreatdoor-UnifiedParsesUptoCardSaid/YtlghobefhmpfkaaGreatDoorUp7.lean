/- UnifiedParses: any text is read as patches, or refused with line and reason Part 7 of 7. -/
import Derived.Below
import Derived.RegionTactic
import Derived.ChangeAlike
import Derived.Test.YtlghobefhmpfkaaGreatDoorRows
import Derived.WalkKit
import Derived.Deep.Slices
import Derived.Deep.Fields
import Derived.ChangeSame
import Derived.Test.YtlghobefhmpfkaaGreatDoorCards
import Derived.Test.YtlghobefhmpfkaaGreatDoorTie
import Derived.JoinedCond
import Derived.ProofKit
import Derived.Deep.DeepHandedRow
import Derived.Deep.DeepWitnessRowRef
import Derived.Stop.LaidErr
import Derived.Stop.Joined
import Derived.LaidLaws
import Derived.LaidHandle
import Derived.Lib.LaidIn
import Derived.SevenTiedAt
import Derived.Shelf.Vars
import Derived.Test.YtlghobefhmpfkaaGreatDoorUp1
import Derived.Test.YtlghobefhmpfkaaGreatDoorUp2
import Derived.Test.YtlghobefhmpfkaaGreatDoorUp3
import Derived.Test.YtlghobefhmpfkaaGreatDoorUp4
import Derived.Test.YtlghobefhmpfkaaGreatDoorUp5
import Derived.Test.YtlghobefhmpfkaaGreatDoorUp6
set_option linter.unusedSimpArgs false
set_option linter.unusedVariables false
namespace Go.Proofs.YtlghobefhmpfkaaGreatDoor
open Go.RowKit Go.Extern.Stop Go.Stop Go.Extern Go
set_option maxRecDepth 100000
structure AsLeft (w w' : World) (t : Addr) (v : Value) : Prop where
 cell : w'.cell? t = some v
 old : ∀ a : Addr, a.block < w.heap.size → a.block ≠ t.block → w'.cell? a = w.cell? a
 size : w.heap.size ≤ w'.heap.size
 frozen : ∀ a : Addr, a.block < w.heap.size → w'.frozen? a = w.frozen? a
 below : ∀ B, B ≤ t.block → Below B w w'
theorem asLeft_of {w : World} {t : Addr} {old v : Value} (ht : w.cell? t = some old) (o1 o2 o3 o4 : Obj) : AsLeft w (((((w.alloc o1).alloc o2).alloc o3).alloc o4).setCell t v) t v := by
 have hl : t.block < w.heap.size := Ev.cell_lt ht
 have hb : Below w.heap.size w ((((w.alloc o1).alloc o2).alloc o3).alloc o4) := ((((Below.refl _ w).alloc (Nat.le_refl _) o1).alloc (by simp) o2).alloc (by simp; omega) o3).alloc (by simp; omega) o4
 have ht4 : ((((w.alloc o1).alloc o2).alloc o3).alloc o4).cell? t = some old := by rw [hb.cell hl]; exact ht
 refine ⟨?_, fun a ha hne => ?_, ?_, fun a ha => ?_, fun B hB => ((hb.mono (by omega)).setCell hB v)⟩
 · exact World.cell?_setCell_same _ _ _ ht4
 · have h2 : (((((w.alloc o1).alloc o2).alloc o3).alloc o4).setCell t v).heap[a.block]? = ((((w.alloc o1).alloc o2).alloc o3).alloc o4).heap[a.block]? := Below.heap_setCell _ _ _ _ hne
   rw [World.cell?_of_block h2, hb.cell ha]
 · simp; omega
 · rw [World.frozen?_setCell, hb.frozen ha]
theorem asF (e t : Addr) (old : Value) (w : World) (hg : ErrT w) (ht0 : w.cell? t = some old) (hf0 : w.frozen? t = false) :
   Calls Tryz.prog 45 #[.iface 79 (.pointer (some e)), .iface 81 (.pointer (some t))] w fun ev w' => ev = .returned (.bool true) ∧ AsLeft w w' t (.pointer (some e)) := by
 refine (asHit_flt e t old w hg ht0 hf0).mono ?_
 rintro ev w' ⟨rfl, rfl⟩
 exact ⟨rfl, asLeft_of ht0 _ _ _ _⟩
theorem asE (e : Int) (t : Addr) (old : Value) (w : World) (hg : ErrT w) (ht0 : w.cell? t = some old) (hf0 : w.frozen? t = false) :
   Calls Tryz.prog 45 #[.iface 27 (.int .i64 e), .iface 84 (.pointer (some t))] w fun ev w' => ev = .returned (.bool true) ∧ AsLeft w w' t (.int .i64 e) := by
 refine (asHit_errno e t old w hg ht0 hf0).mono ?_
 rintro ev w' ⟨rfl, rfl⟩
 exact ⟨rfl, asLeft_of ht0 _ _ _ _⟩
theorem results_pair {P : Program} {fn : Func} {t : Tmp} {ty : TypeId} (h : fn.results = #[.cell t ty]) (tmps : Array Value) (w : World) {b : Nat} {x y : Value} (hp : Ev.ldT P ty = some (true, 2))
   (ht : tmps.getD t undef = .pointer (some ⟨b, 0, none⟩)) (h0 : w.cell? ⟨b, 0, none⟩ = some x) (h1 : w.cell? ⟨b, 1, none⟩ = some y) : (results fn tmps).run P w = .ok (.agg #[x, y]) w := by
 have hv := Ev.run_ld_agg (w := w) hp (ad := ⟨b, 0, none⟩) (vs := [x, y]) rfl (fun j v hj => by
   match j, hj with
   | 0, hj => simp at hj; subst hj; exact h0
   | 1, hj => simp at hj; subst hj; exact h1
   | j + 2, hj => simp at hj)
 rw [Ev.results_eq, h]
 simp [Ev.rrRun, ht, asAddr, hv]
theorem ld53 : Ev.ldT Tryz.prog 29 = some (true, 2) := by kernel_rfl
theorem seen_nil (w : World) : Calls Tryz.prog 13 #[.nilIface] w fun ev w' => ev = .returned (.agg #[.int .i64 0, .int .i64 0]) ∧ Below w.heap.size w w' := by
 go_enter Tryz.func13, Tryz.ntmps13
 go_wp2
 (try simp only [Exit.inBlock, Exit.then])
 refine bodyPost_ret (results_pair (b := w.heap.size) (x := .int .i64 0) (y := .int .i64 0) rfl _ _ ld53 rfl (by simp) (by simp)) rfl ⟨rfl, (Below.refl _ _).alloc (Nat.le_refl _) _⟩
theorem ErrT.pos {w : World} (h : ErrT w) : 0 < w.heap.size := by
 unfold ErrT at h
 exact Ev.cell_lt h
theorem ErrT.below {w w' : World} (h : ErrT w) (hb : Below w.heap.size w w') : ErrT w' := by
 have := h.pos
 unfold ErrT at h ⊢
 rw [hb.cell this]; exact h
set_option maxHeartbeats 4000000 in
theorem seen_flt (p : Addr) (at_ e : Int) (w : World) (hg : ErrT w) (h0 : w.cell? p = some (.int .i64 at_)) (h1 : w.cell? (p.add 1) = some (.iface 27 (.int .i64 e))) :
   Calls Tryz.prog 13 #[.iface 79 (.pointer (some p))] w fun ev w' => ev = .returned (.agg #[.int .i64 at_, .int .i64 e]) ∧ Below w.heap.size w w' := by
 have hpl := Ev.cell_lt h0
 have hpa : (p.add 1).block = p.block := by unfold Addr.add; split <;> rfl
 have hp0 := hg.pos
 have bA : Below w.heap.size w (((w.alloc (.cells #[.int .i64 0, .int .i64 0] 29)).alloc (.cells #[.pointer none] 79)).alloc (.cells #[.int .i64 0] 27)) := (((Below.refl _ _).alloc (Nat.le_refl _) _).alloc (by simp) _).alloc (by simp; omega) _
 obtain ⟨W, hW⟩ : ∃ W, (((w.alloc (.cells #[.int .i64 0, .int .i64 0] 29)).alloc (.cells #[.pointer none] 79)).alloc (.cells #[.int .i64 0] 27)) = W := ⟨_, rfl⟩
 have sA : W.heap.size = w.heap.size + 3 := by rw [← hW]; simp
 have cA0 : W.cell? ⟨w.heap.size, 0, none⟩ = some (.int .i64 0) := by rw [← hW, World.cell?_alloc_lt _ _ _ (by simp <;> omega), World.cell?_alloc_lt _ _ _ (by simp <;> omega), World.cell?_alloc_at _ _ _ _ (by simp)]; rfl
 have cA1 : W.cell? ⟨w.heap.size, 1, none⟩ = some (.int .i64 0) := by rw [← hW, World.cell?_alloc_lt _ _ _ (by simp <;> omega), World.cell?_alloc_lt _ _ _ (by simp <;> omega), World.cell?_alloc_at _ _ _ _ (by simp)]; rfl
 have cA2 : W.cell? ⟨w.heap.size + 1, 0, none⟩ = some (.pointer none) := by rw [← hW, World.cell?_alloc_lt _ _ _ (by simp <;> omega), World.cell?_alloc_at _ _ _ _ (by simp)]; rfl
 have cA3 : W.cell? ⟨w.heap.size + 1 + 1, 0, none⟩ = some (.int .i64 0) := by rw [← hW, World.cell?_alloc_at _ _ _ _ (by simp)]; rfl
 have fA0 : W.frozen? ⟨w.heap.size, 0, none⟩ = false := by rw [← hW, World.frozen?_alloc_old _ _ _ (by simp <;> omega), World.frozen?_alloc_old _ _ _ (by simp <;> omega), World.frozen?_alloc_at _ _ _ _ (by simp)]
 have fA1 : W.frozen? ⟨w.heap.size, 1, none⟩ = false := by rw [← hW, World.frozen?_alloc_old _ _ _ (by simp <;> omega), World.frozen?_alloc_old _ _ _ (by simp <;> omega), World.frozen?_alloc_at _ _ _ _ (by simp)]
 have fA2 : W.frozen? ⟨w.heap.size + 1, 0, none⟩ = false := by rw [← hW, World.frozen?_alloc_old _ _ _ (by simp <;> omega), World.frozen?_alloc_at _ _ _ _ (by simp)]
 have fA3 : W.frozen? ⟨w.heap.size + 1 + 1, 0, none⟩ = false := by rw [← hW, World.frozen?_alloc_at _ _ _ _ (by simp)]
 rw [hW] at bA
 have gA : ErrT W := hg.below bA
 go_enter Tryz.func13, Tryz.ntmps13
 go_wp2_with (go_at_call 45; rw [hW])
 refine (asF p ⟨w.heap.size + 1, 0, none⟩ (.pointer none) W gA cA2 fA2).mono ?_
 rintro ev W1 ⟨rfl, hL⟩
 have hWs : w.heap.size ≤ W.heap.size := by omega
 have b1 : Below w.heap.size W W1 := hL.below _ (by simp)
 have bW1 : Below w.heap.size w W1 := bA.trans b1
 have s1 : W.heap.size ≤ W1.heap.size := hL.size
 have g1 : ErrT W1 := hg.below bW1
 have cB2 : W1.cell? ⟨w.heap.size + 1, 0, none⟩ = some (.pointer (some p)) := hL.cell
 have cB0 : W1.cell? ⟨w.heap.size, 0, none⟩ = some (.int .i64 0) := by rw [hL.old _ (by show w.heap.size < W.heap.size; omega) (by show w.heap.size ≠ w.heap.size + 1; omega)]; exact cA0
 have cB1 : W1.cell? ⟨w.heap.size, 1, none⟩ = some (.int .i64 0) := by rw [hL.old _ (by show w.heap.size < W.heap.size; omega) (by show w.heap.size ≠ w.heap.size + 1; omega)]; exact cA1
 have cB3 : W1.cell? ⟨w.heap.size + 1 + 1, 0, none⟩ = some (.int .i64 0) := by rw [hL.old _ (by show w.heap.size + 1 + 1 < W.heap.size; omega) (by show w.heap.size + 1 + 1 ≠ w.heap.size + 1; omega)]; exact cA3
 have fB0 : W1.frozen? ⟨w.heap.size, 0, none⟩ = false := by rw [hL.frozen _ (by show w.heap.size < W.heap.size; omega)]; exact fA0
 have fB1 : W1.frozen? ⟨w.heap.size, 1, none⟩ = false := by rw [hL.frozen _ (by show w.heap.size < W.heap.size; omega)]; exact fA1
 have fB3 : W1.frozen? ⟨w.heap.size + 1 + 1, 0, none⟩ = false := by rw [hL.frozen _ (by show w.heap.size + 1 + 1 < W.heap.size; omega)]; exact fA3
 have cp0 : W1.cell? p = some (.int .i64 at_) := by rw [bW1.cell hpl]; exact h0
 have cp1 : W1.cell? ⟨p.block, p.off + 1, none⟩ = some (.iface 27 (.int .i64 e)) := by rw [show (⟨p.block, p.off + 1, none⟩ : Addr) = p.add 1 from rfl, bW1.cell (by rw [hpa]; exact hpl)]; exact h1
 clear hL
 go_wp2_with (go_at_call 45; refine (asE e ⟨w.heap.size + 1 + 1, 0, none⟩ (.int .i64 0) W1 g1 cB3 fB3).mono ?_)
 rintro ev W2 ⟨rfl, hL⟩
 have b2 : Below w.heap.size W1 W2 := hL.below _ (by simp <;> omega)
 have bW2 : Below w.heap.size w W2 := bW1.trans b2
 have cC2 : W2.cell? ⟨w.heap.size + 1, 0, none⟩ = some (.pointer (some p)) := by rw [hL.old _ (by show w.heap.size + 1 < W1.heap.size; omega) (by show w.heap.size + 1 ≠ w.heap.size + 1 + 1; omega)]; exact cB2
 have cC3 : W2.cell? ⟨w.heap.size + 1 + 1, 0, none⟩ = some (.int .i64 e) := hL.cell
 have cC0 : W2.cell? ⟨w.heap.size, 0, none⟩ = some (.int .i64 0) := by rw [hL.old _ (by show w.heap.size < W1.heap.size; omega) (by show w.heap.size ≠ w.heap.size + 1 + 1; omega)]; exact cB0
 have cC1 : W2.cell? ⟨w.heap.size, 1, none⟩ = some (.int .i64 0) := by rw [hL.old _ (by show w.heap.size < W1.heap.size; omega) (by show w.heap.size ≠ w.heap.size + 1 + 1; omega)]; exact cB1
 have fC0 : W2.frozen? ⟨w.heap.size, 0, none⟩ = false := by rw [hL.frozen _ (by show w.heap.size < W1.heap.size; omega)]; exact fB0
 have fC1 : W2.frozen? ⟨w.heap.size, 1, none⟩ = false := by rw [hL.frozen _ (by show w.heap.size < W1.heap.size; omega)]; exact fB1
 have cq0 : W2.cell? p = some (.int .i64 at_) := by rw [bW2.cell hpl]; exact h0
 clear hL
 have hadd : p.add 0 = p := rfl
 go_wp2
 go_region
 go_wp2
 (try simp only [Exit.inBlock, Exit.then])
 refine bodyPost_ret (results_pair (b := w.heap.size) (x := .int .i64 at_) (y := .int .i64 e) rfl _ _ ld53 rfl ?_ ?_) rfl ⟨rfl, ((bW2.setCell (Nat.le_refl _) _).setCell (Nat.le_refl _) _).drew⟩
 · show ((W2.setCell _ _).setCell _ _).cell? _ = _
   rw [World.cell?_setCell_other _ _ _ _ (by simp), World.cell?_setCell_same _ _ _ cC0]
 · show ((W2.setCell _ _).setCell _ _).cell? _ = _
   rw [World.cell?_setCell_same _ _ _ (by rw [World.cell?_setCell_other _ _ _ _ (by simp)]; exact cC1)]
open Go.Ev in
def CSeen : Contract := pureC fun args => match args with
 | [.d (.v .nilIface)] => some (True, .agg [.d (.v (.int .i64 0)), .d (.v (.int .i64 0))])
 | [.d (.ifc t (.pt [.v (.int .i64 at_), .ifc u (.v (.int .i64 e))]))] => some (t = 79 ∧ u = 27, .agg [.d (.v (.int .i64 at_)), .d (.v (.int .i64 e))])
 | _ => none
open Go.Ev in
theorem sSeen {G : World → Prop} (hG : ∀ w, G w → ErrT w) : Sound G Tryz.prog 13 CSeen := by
 refine sound_lib ⟨Tryz.f13, by kernel_rfl, by kernel_rfl, by kernel_rfl⟩ fun args p x h hp => ?_
 split at h <;> simp only [Option.some.injEq, Prod.mk.injEq, reduceCtorEq] at h
 · obtain ⟨rfl, rfl⟩ := h
   refine ⟨.agg #[.int .i64 0, .int .i64 0], fun m n c => by simp [Cn, CnL, Rd, Value.oneCell'], fun w hw m c vs hc hv => ?_⟩
   match vs, hv with
   | [a], hv =>
     simp only [CnL, and_true] at hv
     rw [of_v hv]
     exact seen_nil w
   | [], hv => simp [CnL] at hv
   | _ :: _ :: _, hv => simp [CnL] at hv
 · obtain ⟨rfl, rfl⟩ := h
   rename_i t at_ u e
   obtain ⟨rfl, rfl⟩ := hp
   refine ⟨.agg #[.int .i64 at_, .int .i64 e], fun m n c => by simp [Cn, CnL, Rd, Value.oneCell'], fun w hw m c vs hc hv => ?_⟩
   match vs, hv with
   | [a], hv =>
     simp only [CnL, and_true, Cn, Rd, RdCells] at hv
     obtain ⟨z, rfl, ad, rfl, ⟨u1, h1, rfl, _⟩, ⟨u2, h2, z2, rfl, rfl, _⟩⟩ := hv
     exact seen_flt ad at_ e w (hG w hw) (hc _ _ h1) (hc _ _ h2)
   | [], hv => simp [CnL] at hv
   | _ :: _ :: _, hv => simp [CnL] at hv
end Go.Proofs.YtlghobefhmpfkaaGreatDoor
namespace Go.Proofs.YtlghobefhmpfkaaGreatDoor
open Go Go.Ev Go.Rcs
set_option maxRecDepth 100000
variable {G : World → Prop}
def CLawU : Contract := pureC fun args => match args with
 | [.d (.v (.string s))] => some (s.size ≤ 1099511627776, .d (.v (.bool true)))
 | _ => none
theorem unPt_nil : unPt [] = some [] := rfl
theorem parG_smP {hk : HkF} (H : HkOk hk) {bg p1 p2 s : List UInt8} {pp : List Pt} (h : parG hk bg p1 p2 s = .ok pp) : smP pp := by
 obtain ⟨h1, h2⟩ := parG_ok H h
 refine ⟨by omega, fun p hp => ?_⟩
 obtain ⟨_, _, _, a, b⟩ := h2 p hp
 exact ⟨by omega, fun x hx => ⟨by have := (b x hx).2.1; omega, fun m hm => by have := (b x hx).2.2 m hm; omega⟩⟩
set_option maxHeartbeats 32000000 in
theorem s10 (hE : ∀ w, G w → ErrR w) (hT : ∀ w, G w → ErrT w) (hM : ∀ w, G w → MaxL w) : Sound G Tryz.prog 10 CLawU := by
 refine sd10 (T := tabT [(24, CParPU hkU [64, 64] [45, 45, 45, 32] [43, 43, 43, 32]), (32, CParRU hkU [64, 64] [45, 45, 45, 32] [43, 43, 43, 32]), (13, CSeen), (26, CSameA), (22, CHk)]) (tab_cons (s24 (s66 hE hM)) (tab_cons s32 (tab_cons (sSeen hT) (tab_cons s26 (tab_cons s22 tab_nil))))) (pureC_lawful _) (pure_hX fun args p x K h hp hk => ?_)
 split at h <;> simp only [Option.some.injEq, Prod.mk.injEq, reduceCtorEq] at h
 obtain ⟨rfl, rfl⟩ := h
 rename_i s
 obtain ⟨s, rfl⟩ := ex_str s
 simp only [sem_str] at hp
 refine ⟨Nat.le_of_ble_eq_true rfl, ?_⟩
 cases hY : parG hkU [64, 64] [45, 45, 45, 32] [43, 43, 43, 32] s with
 | error xe =>
   obtain ⟨a, e⟩ := xe
   have hX : parPU (.error (a, e)) = (.tup [.d (.sl []), .d (fltV a e)], ⟨0, []⟩) := rfl
   have hR : parRU (.error (a, e)) = (.tup [.d (.sl []), .agg [.d (.v (.int .i64 a)), .d (.v (.int .i64 e))]], ⟨0, []⟩) := rfl
   have hs0 : smP [] := ⟨by simp, by simp⟩
   simp -dsimp -implicitDefEqProofs only [S10, R10, CParPU, CParRU, CSeen, CSameA, CHk, hY, hX, hR, fltV, unPt_nil, Ev.St.giveC, ↓Ev.P, Ev.Q, Ev.Z, simprocAttr]
   repeat' (first | with_reducible assumption | refine And.intro ?_ ?_ | intro _ | (rw [Ev.xStp_eq]; simp -dsimp -implicitDefEqProofs only [CParPU, CParRU, CSeen, CSameA, CHk, hY, hX, hR, fltV, unPt_nil, Ev.St.giveC, ↓Ev.P, Ev.Q, Ev.Z, simprocAttr]))
   all_goals try omega
   refine xLoop_intro (fun k st => k = 0 ∧ st = ⟨[(3, .d (.sl [])), (7, .d (.v (.int .i64 0)))], 0, []⟩) 0 [] ?_ ?_ ?_
   · simp -dsimp -implicitDefEqProofs only [↓Ev.xStp_eq, ↓Ev.P, Ev.Q, Ev.Z, simprocAttr]
   · simp -dsimp -implicitDefEqProofs only [↓Ev.xStp_eq, ↓Ev.P, Ev.Q, Ev.Z, simprocAttr]
     all_goals first | rfl | exact ⟨rfl, rfl⟩ | trivial
   · rintro k st ⟨rfl, rfl⟩
     simp -dsimp -implicitDefEqProofs only [↓Ev.P, Ev.Q, Ev.Z, simprocAttr]
     repeat' (first | with_reducible assumption | refine And.intro ?_ ?_ | intro _ | (rw [Ev.xStp_eq]; simp -dsimp -implicitDefEqProofs only [↓Ev.P, Ev.Q, Ev.Z, simprocAttr]))
     all_goals first | omega | exact hk
 | ok pp =>
   have hX : parPU (.ok pp) = (.tup [.own 0, .d (.v .nilIface)], ⟨1, [(0, .row 55 3 (ptRows pp))]⟩) := rfl
   have hR : parRU (.ok pp) = (.tup [.own 0, .agg [.d (.v (.int .i64 0)), .d (.v (.int .i64 0))]], ⟨1, [(0, .row 55 3 (ptRows pp))]⟩) := rfl
   have hsm := parG_smP hkU_ok hY
   obtain ⟨hs1, hs2⟩ := parG_ok hkU_ok hY
   simp -dsimp -implicitDefEqProofs only [S10, R10, CParPU, CParRU, CSeen, CSameA, CHk, hY, hX, hR, unPt_rows, ptRows_len, ptRows_all, Ev.St.giveC, ↓Ev.P, Ev.Q, Ev.Z, simprocAttr]
   repeat' (first | with_reducible assumption | refine And.intro ?_ ?_ | intro _ | (rw [Ev.xStp_eq]; simp -dsimp -implicitDefEqProofs only [CParPU, CParRU, CSeen, CSameA, CHk, hY, hX, hR, unPt_rows, ptRows_len, ptRows_all, Ev.St.giveC, ↓Ev.P, Ev.Q, Ev.Z, simprocAttr]))
   all_goals try omega
   refine xLoop_intro (fun n st => ∃ i : Nat, i ≤ pp.length ∧ n = pp.length - i ∧ st = ⟨[(3, .own 0), (7, .d (.v (.int .i64 i)))], 1, [(0, .row 55 3 (ptRows pp))]⟩) pp.length [0] ?_ ?_ ?_
   · simp -dsimp -implicitDefEqProofs only [↓Ev.xStp_eq, ↓Ev.P, Ev.Q, Ev.Z, simprocAttr]
   · simp -dsimp -implicitDefEqProofs only [↓Ev.xStp_eq, ↓Ev.P, Ev.Q, Ev.Z, simprocAttr]
     exact ⟨0, by omega, by omega, rfl⟩
   · rintro n st ⟨i, hi, hn, rfl⟩
     by_cases hil : i < pp.length
     · have hi3 : (i : Int) < pp.length := by omega
       have hg := ptRows_get hil
       have hz := hs2 _ (pt_mem hil)
       generalize pp.getD i pt0 = q at hg hz
       obtain ⟨⟨o, nn⟩, hs⟩ := q
       obtain ⟨_, _, hne, hl4, hall⟩ := hz
       dsimp only at hne hl4 hall
       have hl0 : ((hs.length : Int) = 0) = False := eq_false (fun h => hne (List.length_eq_zero_iff.1 (by omega)))
       simp -dsimp -implicitDefEqProofs only [hg, hi3, hl0, ptRow, ptRows_len, ptRows_all, hkRows_len, hkRows_all, Ev.St.giveC, ↓Ev.P, Ev.Q, Ev.Z, simprocAttr]
       repeat' (first | with_reducible assumption | refine And.intro ?_ ?_ | intro _ | (rw [Ev.xStp_eq]; simp -dsimp -implicitDefEqProofs only [hg, hi3, hl0, ptRow, ptRows_len, ptRows_all, hkRows_len, hkRows_all, Ev.St.giveC, ↓Ev.P, Ev.Q, Ev.Z, simprocAttr]))
       all_goals try omega
       refine xLoop_intro (fun n st => ∃ k : Nat, k ≤ hs.length ∧ n = hs.length - k ∧ st = ⟨[(3, .own 0), (7, .d (.v (.int .i64 i))), (8, .d (.v (.int .i64 k)))], 1, [(0, .row 55 3 (ptRows pp))]⟩) hs.length [0] ?_ ?_ ?_
       · simp -dsimp -implicitDefEqProofs only [↓Ev.xStp_eq, ↓Ev.P, Ev.Q, Ev.Z, simprocAttr]
       · simp -dsimp -implicitDefEqProofs only [↓Ev.xStp_eq, ↓Ev.P, Ev.Q, Ev.Z, simprocAttr]
         exact ⟨0, by omega, by omega, rfl⟩
       · rintro n3 st3 ⟨k, hk3, hn3, rfl⟩
         by_cases hkl : k < hs.length
         · have hk4 : (k : Int) < hs.length := by omega
           have hgh := hkRows_get hkl
           have hgh2 := hkRows_getD hkl
           have hzh := hall _ (hk_mem hkl)
           generalize hs.getD k hk0 = h at hgh hgh2 hzh
           obtain ⟨⟨A, AN, B, BN⟩, m⟩ := h
           unfold chkH at hzh
           dsimp only at hzh
           obtain ⟨hz0, hm1, hm2⟩ := hzh
           have hm3 : ∀ x ∈ m, x.2.length ≤ 1099511627776 := fun x hx => by have := hm2 x hx; omega
           simp -dsimp -implicitDefEqProofs only [hg, hi3, hk4, hgh, hgh2, hz0, hkRow, ptRow, CHk, unMk_rows, ptRows_len, ptRows_all, hkRows_len, hkRows_all, mkRows_len, mkRows_all, Ev.St.giveC, ↓Ev.P, Ev.Q, Ev.Z, simprocAttr]
           repeat' (first | with_reducible assumption | refine And.intro ?_ ?_ | intro _ | (rw [Ev.xStp_eq]; simp -dsimp -implicitDefEqProofs only [hg, hi3, hk4, hgh, hgh2, hz0, hkRow, ptRow, CHk, unMk_rows, ptRows_len, ptRows_all, hkRows_len, hkRows_all, mkRows_len, mkRows_all, Ev.St.giveC, ↓Ev.P, Ev.Q, Ev.Z, simprocAttr]))
           all_goals try omega
           refine xAgain_intro (hs.length - (k + 1)) [0] (by omega) (by simp -dsimp -implicitDefEqProofs only [↓Ev.xStp_eq, ↓Ev.P, Ev.Q, Ev.Z, simprocAttr]) ⟨k + 1, by omega, rfl, ?_⟩
           simp -dsimp -implicitDefEqProofs only [↓Ev.xStp_eq, ↓Ev.P, Ev.Q, Ev.Z, simprocAttr]
           all_goals rfl
         · have hk4 : ¬ (k : Int) < hs.length := by omega
           simp -dsimp -implicitDefEqProofs only [hg, hi3, hk4, ptRow, ptRows_len, ptRows_all, hkRows_len, hkRows_all, ↓Ev.P, Ev.Q, Ev.Z, simprocAttr]
           repeat' (first | with_reducible assumption | refine And.intro ?_ ?_ | intro _ | (rw [Ev.xStp_eq]; simp -dsimp -implicitDefEqProofs only [hg, hi3, hk4, ptRow, ptRows_len, ptRows_all, hkRows_len, hkRows_all, ↓Ev.P, Ev.Q, Ev.Z, simprocAttr]))
           all_goals try omega
           refine xAgain_intro (pp.length - (i + 1)) [0] (by omega) (by simp -dsimp -implicitDefEqProofs only [↓Ev.xStp_eq, ↓Ev.P, Ev.Q, Ev.Z, simprocAttr]) ⟨i + 1, by omega, rfl, ?_⟩
           simp -dsimp -implicitDefEqProofs only [↓Ev.xStp_eq, ↓Ev.P, Ev.Q, Ev.Z, simprocAttr]
           all_goals rfl
     · have hi3 : ¬ (i : Int) < pp.length := by omega
       simp -dsimp -implicitDefEqProofs only [hi3, ptRows_len, ↓Ev.P, Ev.Q, Ev.Z, simprocAttr]
       repeat' (first | with_reducible assumption | refine And.intro ?_ ?_ | intro _ | (rw [Ev.xStp_eq]; simp -dsimp -implicitDefEqProofs only [hi3, ptRows_len, ↓Ev.P, Ev.Q, Ev.Z, simprocAttr]))
       all_goals first | omega | exact hk
end Go.Proofs.YtlghobefhmpfkaaGreatDoor
namespace Go.Proofs.YtlghobefhmpfkaaGreatDoor
open Go Go.Ev
open Go.ChangeShapes Go.WideShapes Go.ChangeAt Go.RowKit
set_option maxRecDepth 100000
variable {H : Type} {enc : TypeId × Value → H}
end Go.Proofs.YtlghobefhmpfkaaGreatDoor
namespace Go.Proofs.YtlghobefhmpfkaaGreatDoor
open Go Go.Ev
open Go.ChangeShapes Go.WideShapes Go.ChangeAt Go.RowKit
open Go.ChangeMaps (open_string shut_string)
set_option maxRecDepth 100000
variable {H : Type} {enc : TypeId × Value → H}
theorem var_if {W : World} {name : String} {t : TypeId} {x : Value} (h : W.var? Tryz.prog name = some #[.iface t x]) {b : Nat} (hb : some b = Tryz.prog.globalNamed name) : b < W.heap.size ∧ ∀ (a : Addr) (u : Value), W.cell? a = some u → a.block = b → ∃ t x, u = .iface t x := by
 unfold World.var? at h
 rw [← hb] at h
 simp only [Option.bind_some] at h
 split at h
 · rename_i cs t f e
   refine ⟨(Array.getElem?_eq_some_iff.1 e).1, fun a u ha hab => ?_⟩
   unfold World.cell? at ha
   rw [hab, e] at ha
   simp only [Option.some.injEq] at h
   subst h
   simp only at ha
   split at ha
   · cases ha
   · have hm := Array.mem_of_getElem? ha
     simp only [List.mem_toArray, List.mem_singleton, List.mem_cons, List.not_mem_nil, or_false] at hm
     exact ⟨_, _, hm⟩
 · cases h
theorem var_keep {W W' : World} {name : String} {cs : Array Value} (h : W.var? Tryz.prog name = some cs) (hb : ∀ b, some b = Tryz.prog.globalNamed name → W'.heap[b]? = W.heap[b]?) : W'.var? Tryz.prog name = some cs := by
 unfold World.var? at h ⊢
 cases e : Tryz.prog.globalNamed name with
 | none => rw [e] at h; cases h
 | some g => rw [e] at h; simp only [Option.bind_some] at h ⊢; rw [hb g e.symm]; exact h
def ErrV (w : World) : Prop := w.var? Tryz.prog "errors.errorType" = some #[.iface 199 (.agg #[typeHandle Tryz.prog 24])]
def GL (w : World) : Prop := Pow10 w ∧ ErrR w ∧ ErrV w
def hidL (b : Nat) : Prop := some b = Tryz.prog.globalNamed "internal/strconv.uint64pow10" ∨ some b = Tryz.prog.globalNamed "strconv.ErrRange" ∨ some b = Tryz.prog.globalNamed "errors.errorType"
noncomputable def HL : Hd GL := ⟨hidL, hidL, fun _ h => h, fun w w' h hb => by
 obtain ⟨h1, ⟨tp, p, h2⟩, h3⟩ := h
 exact ⟨HP.st w w' h1 fun b e => hb b (.inl e), ⟨tp, p, var_keep h2 fun b e => hb b (.inr (.inl e))⟩, var_keep h3 fun b e => hb b (.inr (.inr e))⟩, 0, []⟩
theorem HL_lt {W : World} (h : GL W) {b : Nat} (hb : HL b) : b < W.heap.size := by
 obtain ⟨h1, ⟨tp, p, h2⟩, h3⟩ := h
 rcases hb with hb | hb | hb
 · exact HP_lt h1 hb
 · exact (var_if h2 hb).1
 · exact (var_if h3 hb).1
theorem et : Tryz.prog.globalNamed "errors.errorType" = some 0 := by kernel_rfl
theorem hh : typeHandle Tryz.prog 24 = .pointer (some ⟨9, 24, none⟩) := by kernel_rfl
theorem GL.errT {w : World} (h : GL w) : ErrT w := by
 have h3 := h.2.2
 unfold ErrV at h3
 rw [hh] at h3
 have := World.var?_cell et h3 0
 unfold ErrT
 simpa using this
theorem size_eq (s : ByteArray) : s.data.toList.length = s.size := by rw [Array.length_toList]; rfl
theorem own : ownKnob Tryz.prog.godebug = none := by kernel_rfl
theorem gTab : Tryz.prog.globalNamed "internal/strconv.uint64pow10" = some 6 := by kernel_rfl
theorem gTabType : (Tryz.prog.globals[6]?).map (·.type) = some 290 := by kernel_rfl
theorem starE : "*" ++ "errors.errorString" = "*errors.errorString" := by decide
theorem rowE (u : TypeId) (h : Tryz.prog.typeName? 3 u = some "*errors.errorString") : u = 286 :=
 typeName_ptr_named (nm := "errors.errorString") (by rw [starE]; kernel_rfl) (by kernel_rfl) (by decide) u (by rw [starE]; exact h)
theorem rtName : (Tryz.prog.cutTypes.find? (·.1 == "internal/reflectlite.rtype")).map (·.2) = some 199 := by kernel_rfl
theorem tsize : Tryz.prog.types.size = 323 := by kernel_rfl
theorem oneRow : ((List.range 323).filter fun t => Tryz.prog.rowNamed t [101, 114, 114, 111, 114]) = [24] := by kernel_rfl
theorem errV {W : World} (h : handlesMet Tryz.prog [("errors.errorType", Rows.laid_errors_errorType)] W) : ErrV W := by
 obtain ⟨name, u, ty, e1, e2, e3, e4, e5⟩ := h _ (List.mem_singleton.2 rfl)
 have en : name = [101, 114, 114, 111, 114] := (Option.some.inj e1).symm
 subst en
 obtain rfl := Option.some.inj (rtName.symm.trans e2)
 have hm : ty ∈ (List.range 323).filter fun t => Tryz.prog.rowNamed t [101, 114, 114, 111, 114] := List.mem_filter.2 ⟨List.mem_range.2 (by rw [← tsize]; exact e3), e4⟩
 rw [oneRow] at hm
 obtain rfl := List.mem_singleton.1 hm
 exact e5
theorem errR {W : World} {l : List (String × DataW Unit)} (h : laidMet Tryz.prog (("strconv.ErrRange", Rows.laid_strconv_ErrRange) :: l) W) : ErrR W := by
 obtain ⟨a, s, h3, _⟩ := laid_sentinel (g := 3) (ti := 24) (tp := 286) (te := 288) (ts := 9) h (by kernel_rfl) (by kernel_rfl) Tryz.underlying24 rowE Tryz.underlying286 Tryz.underlying288 rfl rfl Tryz.underlying9 (by kernel_rfl) (by kernel_rfl)
 exact ⟨_, _, h3⟩
theorem pow10 {W : World} {l : List (String × DataW Unit)} (h : laidMet Tryz.prog (("internal/strconv.uint64pow10", Rows.laid_internal_strconv_uint64pow10) :: l) W) : Pow10 W :=
 Lib.tabIs_of_head (n := 20) (e := 270) gTab gTabType (by kernel_rfl) (by kernel_rfl) (by kernel_rfl) (by kernel_rfl) h
def lits : List (DataW Unit) → List Value
 | [] => []
 | .lit (.int k z) :: r => Value.int k z :: lits r
 | .agg l :: r => (l.map fun x => match x with | .lit (.int k z) => Value.int k z | _ => undef) ++ lits r
 | _ :: r => lits r
def valsU : DataW Unit → Array Value
 | .agg l => (lits l).toArray
 | _ => #[]
def text : DataW Unit → ByteArray
 | .iface _ (.ptr (.agg [.lit (.string s)])) => ⟨s.toArray⟩
 | _ => ⟨#[]⟩
noncomputable def low (os : Os) : Nat := (World.holding Tryz.prog os ⟨#[], #[], []⟩).heap.size
def put (h : Array Obj) (g : Nat) (cs : Array Value) : Array Obj := h.modify g fun
 | .cells _ t frozen => .cells cs t frozen
 | o => o
noncomputable def laidWorld (os : Os) : World :=
 let w0 := World.holding Tryz.prog os ⟨#[.cells #[.string (text Rows.laid_strconv_ErrRange)] 288, .cells #[.string (text Rows.laid_strconv_ErrSyntax)] 288], #[], []⟩
 let h1 := put w0.heap 6 (valsU Rows.laid_internal_strconv_uint64pow10)
 let h2 := put h1 7 (valsU Rows.laid_math_bits_deBruijn32tab)
 let h3 := put h2 8 (valsU Rows.laid_math_bits_deBruijn64tab)
 let h4 := put h3 3 #[.iface 286 (.pointer (some ⟨low os, 0, none⟩))]
 let h5 := put h4 2 #[.iface 286 (.pointer (some ⟨low os + 1, 0, none⟩))]
 let h6 := put h5 4 (valsU Rows.laid_unicode_utf8_first)
 let h7 := put h6 5 (valsU Rows.laid_unicode_utf8_acceptRanges)
 let h8 := put h7 0 #[.iface 199 (.agg #[.pointer (some ⟨9, 24, none⟩)])]
 { w0 with heap := h8 }
end Go.Proofs.YtlghobefhmpfkaaGreatDoor
namespace Go.Proofs.YtlghobefhmpfkaaGreatDoor
open Go Go.Ev
set_option maxRecDepth 100000
def GM (w : World) : Prop := GL w ∧ MaxL w
noncomputable def HM : Hd GM := ⟨fun b => hidL b ∨ b = 1, fun b => hidL b ∨ b = 1, fun _ h => h, fun w w' h hb => ⟨HL.st w w' h.1 fun b e => hb b (.inl e), by
 obtain ⟨m, e⟩ := h.2
 refine ⟨m, ?_⟩
 unfold World.cell? at e ⊢
 rw [hb 1 (.inr rfl)]
 exact e⟩, 0, []⟩
theorem HM_lt {W : World} (h : GM W) {b : Nat} (hb : HM b) : b < W.heap.size := by
 rcases hb with hb | rfl
 · exact HL_lt h.1 hb
 · obtain ⟨m, e⟩ := h.2
   unfold World.cell? at e
   by_cases hlt : 1 < W.heap.size
   · exact hlt
   · dsimp only at e
     rw [Array.getElem?_eq_none (Nat.le_of_not_lt hlt)] at e
     cases e
theorem maxL {W : World} (h : W.ShapedOpen Tryz.prog) : MaxL W :=
 cell_of_shapedOpen_int (zero := #[.int .i64 0]) (t := 3) h (of_decide_eq_true (by kernel_rfl)) (by kernel_rfl) (by kernel_rfl) (by kernel_rfl) (by kernel_rfl) (by kernel_rfl)
end Go.Proofs.YtlghobefhmpfkaaGreatDoor
namespace Go.Proofs.YtlghobefhmpfkaaGreatDoor
open Go Go.Ev
open Go.ChangeShapes Go.WideShapes Go.ChangeAt Go.RowKit
open Go.ChangeMaps (open_string shut_string)
set_option maxRecDepth 100000
namespace UnifiedParses
theorem contract (H : Type) (enc : TypeId × Value → H) (W : World) (base : Nat) (args : Array Value) (ds gs : List (DataW H)) (before : List MemPlace)
   (hval : ∀ (j : Nat) t v, Tryz.f10.params[j]? = some t → args[j]? = some v → Value.okWide Tryz.prog W .any base t v)
   (hW : DataW.Whole enc Tryz.prog Tryz.f10.params.toList Rows.unifiedParsesSpec.vars false W args.toList ds gs before) (hk : Rows.uptoSmall H (ds ++ gs) = true) (hP : GM W) :
   Calls Tryz.prog 10 args W fun e W' => ∃ v, e = .returned v ∧ Rows.unifiedParsesSpec.post enc Tryz.prog Tryz.f10 false true false false W args v W' := by
 have hW' := hW
 obtain ⟨p, q, hA0, hV, rfl, hfz, hnd⟩ := hW
 have hA : DataW.TrodAll enc Tryz.prog W 0 (fun _ => true) true Tryz.f10.params.toList args.toList ds p := hA0
 rw [Tryz.params10] at hA hval
 obtain ⟨v0, vs0, d0, ds0, p0, q0, hargs0, rfl, rfl, h0, r0⟩ := trodAll_cons hA
 obtain ⟨rfl, rfl, rfl⟩ := trodAll_nil r0
 obtain rfl : args = #[v0] := by cases args; simp_all
 obtain ⟨rfl, rfl⟩ := trodVars_none hV
 have u3 : Tryz.prog.underlying 3 = some (.int .i64) := Tryz.underlying3
 have u9 : Tryz.prog.underlying 9 = some .string := Tryz.underlying9
 have u4 : Tryz.prog.underlying 4 = some .bool := by kernel_rfl
 obtain ⟨x0, rfl, rfl, rfl, hm0⟩ := open_string u9 (hval 0 9 v0 rfl rfl) h0
 clear hA0
 have hbk : Rows.uptoBulkAll ([DataW.lit (H := H) (.string x0.data.toList)] ++ [] : List (DataW H)) ≤ 1048576 := of_decide_eq_true hk
 simp only [List.append_nil, Rows.uptoBulkAll, Rows.uptoBulk, size_eq] at hbk
 simp only [List.append_nil] at hW'
 refine (law_calls HM (s10 (G := GM) (fun w h => h.1.2.1) (fun w h => h.1.errT) (fun w h => h.2)) (args := [.d (.v (.string x0))]) (vs := [.string x0]) (W := W) hP (fun b hb => HM_lt hP hb) ?_ ⟨⟨rfl, rfl⟩, trivial⟩).mono fun e W' ⟨he, hg⟩ => ?_
 · simp -dsimp -implicitDefEqProofs only [CLawU, pureC_wp, need_some]
   exact ⟨trivial, by omega, trivial⟩
 · subst he
   have hlt := hW'.lt
   have lo : laidOutB Tryz.prog = true := by kernel_rfl
   exact ⟨_, rfl, post_of_below (pa := ([] ++ [])) (pv := []) hW' (fun _ _ _ => (trodAll_cons_mk (shut_bool u4 _) trodAll_mk0)) (fun sp hsp => (trodAll_cons_mk (shut_string u9 hm0) trodAll_mk0)) (fun _ _ => rfl) (by simp)
     hg (ok_one (by kernel_rfl) rfl (okWide_bool_mk u4 _))⟩
theorem gl {W : World} (h : laidMetH Tryz.prog Rows.unifiedParsesUptoRow.laid W) : GL W := by
 have h' : laidMet Tryz.prog [("math/bits.deBruijn32tab", Rows.laid_math_bits_deBruijn32tab), ("math/bits.deBruijn64tab", Rows.laid_math_bits_deBruijn64tab), ("internal/strconv.uint64pow10", Rows.laid_internal_strconv_uint64pow10), ("unicode/utf8.acceptRanges", Rows.laid_unicode_utf8_acceptRanges), ("strconv.ErrRange", Rows.laid_strconv_ErrRange), ("strconv.ErrSyntax", Rows.laid_strconv_ErrSyntax), ("unicode/utf8.first", Rows.laid_unicode_utf8_first)] W ∧ handlesMet Tryz.prog [("errors.errorType", Rows.laid_errors_errorType)] W := h
 exact ⟨pow10 (laidMet.tail (laidMet.tail (h'.1))), errR (laidMet.tail (laidMet.tail (laidMet.tail (laidMet.tail (h'.1))))), errV h'.2⟩
abbrev wargs : Array Value := #[.string ⟨#[]⟩]
theorem laid_met (os : Os) : laidMetH Tryz.prog Rows.unifiedParsesUptoRow.laid ((laidWorld os).forCall (fun _ _ => 0) ⟨#[], wargs, []⟩).memory :=
 laidMetH_of_parts (laidMet_of_run' 8 (by kernel_rfl) (by kernel_rfl)) (by kernel_rfl)
theorem reads (os : Os) {H : Type} (enc : TypeId × Value → H) : ∃ places, DataW.whole enc Tryz.prog ((laidWorld os).forCall (fun _ _ => 0) ⟨#[], wargs, []⟩).memory Tryz.f10.params.toList Rows.unifiedParsesSpec.vars false wargs.toList 8 = some ([.lit (.string [])], [], places) :=
 ⟨[], by kernel_rfl⟩
theorem liftedUpto (os : Os) (started : os.Started) (H : Type) (enc : TypeId × Value → H) (F : Stop.Interp) :
   ReturnsInHanded {} Tryz.checked os 10 .any ((Rows.OpenSpec.upto Rows.unifiedParsesSpec).preRow enc Tryz.prog Tryz.f10 Rows.unifiedParsesUptoRow.domain false Rows.unifiedParsesUptoRow.laid) (((Rows.OpenSpec.upto Rows.unifiedParsesSpec).at F).post enc Tryz.prog Tryz.f10 false true false false) := by
 obtain ⟨places, hx⟩ := reads os enc
 refine returnsInHanded_of_row (C := Tryz.checked) (s := Rows.OpenSpec.upto Rows.unifiedParsesSpec) own started (by kernel_rfl) Tryz.func10
   (witness_row_atRef (enc := enc) (C := Tryz.checked) false (laidWorld os) wargs rfl (by kernel_rfl) (by kernel_rfl) (by kernel_rfl)
     (OpenSpec.preRow_of_cond 8 hx (by kernel_rfl) (fun k hk => by cases hk; kernel_rfl) (by kernel_rfl) (laid_met os))) ?_
 intro W base args ds gs before hval hW _ hcond _ hL hsh _
 exact contract H enc W base args ds gs before hval hW (hcond _ rfl) ⟨gl hL, maxL hsh⟩
theorem saidUpto : Rows.UnifiedParsesUptoSaid :=
 OpenClaim.holds_of_cond 10 Tryz.f10 rfl rfl rfl rfl rfl rfl rfl ⟨rfl, rfl, rfl, rfl, rfl⟩ rfl rfl rfl rfl rfl (by kernel_rfl) Tryz.func10 (by kernel_rfl)
   (of_decide_eq_true (by kernel_rfl)) (by unfold Func.isWrapper; first | (rw [if_pos (by decide +kernel)]; kernel_rfl) | (rw [if_neg (by decide +kernel)]; exact ⟨rfl, rfl⟩))
   (fun os started H enc _ F => by rw [OpenClaim.pre_eq_preRow]; exact liftedUpto os started H enc F)
theorem plain (f : FuncId) (fn : Func) (hf : Tryz.pinned.checked.prog.funcNamed "redline/redlinelaw16.UnifiedParses" = some f) (hfn : Tryz.pinned.checked.prog.funcs[f]? = some fn) :
   true = Tryz.pinned.checked.prog.looks [] ∧ ∀ (j : Nat) t, fn.params[j]? = some t → Tryz.pinned.checked.prog.wantsStandIn t = false := by
 obtain rfl : f = 10 := Option.some.inj ((show Tryz.prog.funcNamed "redline/redlinelaw16.UnifiedParses" = some 10 by kernel_rfl).symm.trans hf) |>.symm
 obtain rfl : fn = Tryz.f10 := (Option.some.inj (Tryz.func10.symm.trans hfn)).symm
 refine ⟨by kernel_rfl, fun j t ht => ?_⟩
 have hall : (Tryz.f10.params.toList.all fun u => !Tryz.prog.wantsStandIn u) = true := by kernel_rfl
 have hm : t ∈ Tryz.f10.params.toList := by simpa using Array.mem_of_getElem? ht
 exact (show Tryz.prog.wantsStandIn t = false by simpa using List.all_eq_true.1 hall t hm)
theorem cardUpto : Rows.UnifiedParsesUptoCardSaid :=
 Claim7.holds_tied_plain_at .later [] _ _ _ _ saidUpto (fun _ h => by cases h) (by kernel_rfl) (fun _ h => by cases h) unifiedParsesUpto_row_tie rfl ⟨rfl, rfl⟩ (by kernel_rfl) rfl plain (by kernel_rfl)
end UnifiedParses
end Go.Proofs.YtlghobefhmpfkaaGreatDoor
