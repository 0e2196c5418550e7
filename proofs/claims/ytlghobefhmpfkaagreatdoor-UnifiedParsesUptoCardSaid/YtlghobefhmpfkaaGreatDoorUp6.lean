/- UnifiedParses: any text is read as patches, or refused with line and reason Part 6 of 7. -/
import Derived.Test.YtlghobefhmpfkaaGreatDoorProg
import Derived.WalkKit
import Derived.RecoverIn
import Derived.RowKitTokens
import Derived.Below
import Derived.LaidEql
import Derived.Stop.Asserts
import Derived.Test.YtlghobefhmpfkaaGreatDoorUp1
import Derived.Test.YtlghobefhmpfkaaGreatDoorUp2
import Derived.Test.YtlghobefhmpfkaaGreatDoorUp3
import Derived.Test.YtlghobefhmpfkaaGreatDoorUp4
import Derived.Test.YtlghobefhmpfkaaGreatDoorUp5
set_option linter.unusedSimpArgs false
set_option linter.unusedVariables false
namespace Go.Proofs.YtlghobefhmpfkaaGreatDoor
open Go Go.Ev Go.Rcs
set_option maxRecDepth 100000
variable {G : World → Prop}
def lnK (t t2 : TypeId) (rows : List (List D)) (K : Out → Store → Prop) : Except Fl ((Mk × Int × Int) × Nat) → Prop
 | .ok ((m, o, f), a) => K (.ret (.agg [.d (.v (.int .u8 m.1)), .d (.v (.string ⟨m.2.toArray⟩))])) ⟨2, [(0, .cells t [.d (.sl rows), .d (.v (.int .i64 (a : Nat)))]), (1, .cells t2 [.d (.v (.int .i64 o)), .d (.v (.int .i64 f))])]⟩
 | .error (a, e) => ∀ i o f : Int, K (.pan (.d (fltV a e))) ⟨2, [(0, .cells t [.d (.sl rows), .d (.v (.int .i64 i))]), (1, .cells t2 [.d (.v (.int .i64 o)), .d (.v (.int .i64 f))])]⟩
def lnW (args : List SV) (st : Store) (K : Out → Store → Prop) : Prop := match args, st with
 | [.ptr 0 0, .ptr 1 0], ⟨2, [(0, .cells t [.d (.sl rows), .d (.v (.int .i64 at_))]), (1, .cells t2 [.d (.v (.int .i64 o)), .d (.v (.int .i64 f))])]⟩ =>
   need (unStr rows) fun L => ((0 ≤ at_ ∧ at_ ≤ L.length) ∧ smL L ∧ (0 ≤ o ∧ o ≤ 2147483647) ∧ 0 ≤ f ∧ f ≤ 2147483647) ∧ lnK t t2 rows K (lnU L o f at_.toNat)
 | _, _ => False
def CLnP : Contract := wpC lnW
theorem CLnP_wp {t t2 : TypeId} {rows : List (List D)} {at_ o f : Int} {K : Out → Store → Prop} :
 CLnP.wp [.ptr 0 0, .ptr 1 0] ⟨2, [(0, .cells t [.d (.sl rows), .d (.v (.int .i64 at_))]), (1, .cells t2 [.d (.v (.int .i64 o)), .d (.v (.int .i64 f))])]⟩ K =
 need (unStr rows) fun L => ((0 ≤ at_ ∧ at_ ≤ L.length) ∧ smL L ∧ (0 ≤ o ∧ o ≤ 2147483647) ∧ 0 ≤ f ∧ f ≤ 2147483647) ∧ lnK t t2 rows K (lnU L o f at_.toNat) := rfl
@[congr] theorem CLnP_congr {l l' : List SV} {s s' : Store} {K : Out → Store → Prop} (h : l = l') (h2 : s = s') : CLnP.wp l s K = CLnP.wp l' s' K := by rw [h, h2]
theorem wrap32 (c : UInt8) : IntKind.i32.wrap (c.toNat : Int) = (c.toNat : Int) := by
 have := c.toNat_lt
 simp only [IntKind.wrap, IntKind.bits, IntKind.signed]
 simp
 omega
theorem idxM_no {c : UInt8} (h1 : ¬ c = 32) (h2 : ¬ c = 45) (h3 : ¬ c = 43) : idxM (c.toNat : Int) = -1 := by
 have e : ∀ (k : Nat), k < 256 → ¬ c = UInt8.ofNat k → ¬ (c.toNat : Int) = k := fun k hk h e => h ((u8_eq c k hk).1 e)
 have a1 := e 32 (by omega) h1
 have a2 := e 45 (by omega) h2
 have a3 := e 43 (by omega) h3
 rw [idxM, if_neg (by omega), if_neg (by omega), if_neg (by omega)]
theorem FzW5u0 : type_of% (And.intro @impF (And.intro @CNextU.eq_1 (And.intro @CStopU.eq_1 (And.intro @CMoreU.eq_1 (And.intro @CCont.eq_1 (And.intro @fltV.eq_1 (And.intro @Ev.panK.eq_1 (And.intro @uhC_wp (And.intro @uhK_ok (And.intro @uhK_error (And.intro @map_ok (And.intro @map_error (And.intro @strA.eq_1 (And.intro @unStr_rows (@strRows_len))))))))))))))) := And.intro @impF (And.intro @CNextU.eq_1 (And.intro @CStopU.eq_1 (And.intro @CMoreU.eq_1 (And.intro @CCont.eq_1 (And.intro @fltV.eq_1 (And.intro @Ev.panK.eq_1 (And.intro @uhC_wp (And.intro @uhK_ok (And.intro @uhK_error (And.intro @map_ok (And.intro @map_error (And.intro @strA.eq_1 (And.intro @unStr_rows (@strRows_len))))))))))))))
set_option maxHeartbeats 64000000 in
theorem s168 : Sound G Tryz.prog 168 CLnP := by
 refine sd168 (T := tabT [(164, CNextU), (120, CStopU), (65, CMoreU), (200, CCont)]) (tab_cons s164 (tab_cons s120 (tab_cons s65 (tab_cons s200 tab_nil)))) (wpC_lawful _) (fun args st K hW => ?_)
 replace hW : lnW args st K := hW
 unfold lnW at hW
 split at hW
 rotate_left
 · exact hW.elim
 rename_i t rows at_ t2 o f
 obtain ⟨L, hL0, ⟨⟨h1, h3⟩, ⟨hLl, hL⟩, ⟨o0, o1⟩, f0, f1⟩, hk⟩ := need_ex hW
 rw [unStr_eq hL0] at *
 have hsm : smL L := ⟨hLl, hL⟩
 obtain ⟨k, rfl⟩ := Int.eq_ofNat_of_zero_le h1
 rw [Int.toNat_natCast] at hk
 refine ⟨Nat.le_of_ble_eq_true rfl, [0, 1], [0, 1], ?_⟩
 unfold lnU at hk
 cases hx : nextL L k with
 | error xe =>
   obtain ⟨xa, xe⟩ := xe
   rw [hx] at hk; dsimp only [lnK] at hk; unfold fltV at hk
   simp -dsimp -implicitDefEqProofs only [List.length_append, S168, R168, hx, FzW5u0, ↓Ev.P, Ev.Q, Ev.Z, simprocAttr]
   repeat' (first | with_reducible assumption | refine And.intro ?_ ?_ | intro _ | (rw [Ev.xStp_eq]; simp -dsimp -implicitDefEqProofs only [List.length_append, hx, FzW5u0, ↓Ev.P, Ev.Q, Ev.Z, simprocAttr]))
   all_goals try omega
   all_goals exact hk _ _ _
 | ok x =>
   obtain ⟨s, a⟩ := x
   obtain ⟨rfl, hlt, hs⟩ := nextL_le hx
   have hsz := hL _ (getD_in hlt)
   have hsl : s.length ≤ 1099511627776 := by rw [hs]; exact Nat.le_trans (bare_len _) hsz
   rw [hx] at hk; dsimp only at hk
   clear hs hsz
   have ec : ((k + 1 : Nat) : Int) = (k : Int) + 1 := by omega
   have ec2 : ((k + 1 + 1 : Nat) : Int) = (k : Int) + 1 + 1 := by omega
   cases s with
   | nil =>
     dsimp only [lnK] at hk; unfold fltV at hk; simp only [ec] at hk
     simp -dsimp -implicitDefEqProofs only [List.length_append, S168, R168, hx, FzW5u0, ↓Ev.P, Ev.Q, Ev.Z, simprocAttr]
     repeat' (first | with_reducible assumption | refine And.intro ?_ ?_ | intro _ | (rw [Ev.xStp_eq]; simp -dsimp -implicitDefEqProofs only [List.length_append, hx, FzW5u0, ↓Ev.P, Ev.Q, Ev.Z, simprocAttr]))
     all_goals try omega
     all_goals exact hk _ _ _
   | cons c r =>
     dsimp only at hk
     have hrl : r.length ≤ 1099511627776 := by rw [List.length_cons] at hsl; omega
     have w32 := wrap32 c
     by_cases hc : c = 32
     · rw [if_pos hc] at hk
       have hcn : ((c.toNat : Nat) : Int) = 32 := by rw [hc]; rfl
       have hix : idxM 32 = 0 := rfl
       rw [hcn] at w32
       by_cases oz : o < 1
       · rw [if_pos (.inl oz)] at hk
         have q1 : (o - 1 < 0) = True := eq_true (by omega)
         dsimp only [lnK] at hk; unfold fltV at hk; simp only [ec] at hk
         simp -dsimp -implicitDefEqProofs only [List.length_append, S168, R168, hx, hcn, w32, hix, FzW5u0, ↓Ev.P, Ev.Q, Ev.Z, simprocAttr]
         repeat' (first | with_reducible assumption | refine And.intro ?_ ?_ | intro _ | (rw [Ev.xStp_eq]; simp -dsimp -implicitDefEqProofs only [List.length_append, hx, hcn, w32, hix, FzW5u0, ↓Ev.P, Ev.Q, Ev.Z, simprocAttr]))
         all_goals try omega
         refine xLoop_intro (fun n2 st => (n2 = 2 ∧ st = ⟨[(0, .ptr 0 0), (1, .ptr 1 0), (4, .ptr 2 0), (6, .ptr 3 0), (8, .d (.v (.bool true))), (40, .agg [.d (.v (.bool true)), .d (.v (.bool true))]), (41, .d (.v (.int .i64 0)))], 4, [(0, .cells t [.d (.sl (strRows L)), .d (.v (.int .i64 ((k : Int) + 1)))]), (1, .cells t2 [.d (.v (.int .i64 o)), .d (.v (.int .i64 f))]), (2, .cells 103 [.d (.v (.int .u8 0)), .d (.v (.string ⟨#[]⟩))]), (3, .cells 103 [.d (.v (.int .u8 32)), .d (.v (.string ⟨r.toArray⟩))])]⟩)) 2 [0, 1, 2, 3] ?_ ?_ ?_
         · simp -dsimp -implicitDefEqProofs only [↓Ev.xStp_eq, ↓Ev.P, Ev.Q, Ev.Z, simprocAttr]
         · simp -dsimp -implicitDefEqProofs only [↓Ev.xStp_eq, ↓Ev.P, Ev.Q, Ev.Z, simprocAttr]
           all_goals first | exact .inl ⟨rfl, rfl⟩ | exact .inl rfl | exact ⟨rfl, rfl⟩ | rfl | trivial
         · rintro n2 st2 ⟨rfl, rfl⟩
           · have _t := trivial
             simp -dsimp -implicitDefEqProofs only [List.length_append, S168, R168, q1, FzW5u0, ↓Ev.P, Ev.Q, Ev.Z, simprocAttr]
             repeat' (first | with_reducible assumption | refine And.intro ?_ ?_ | intro _ | (rw [Ev.xStp_eq]; simp -dsimp -implicitDefEqProofs only [List.length_append, q1, FzW5u0, ↓Ev.P, Ev.Q, Ev.Z, simprocAttr]))
             all_goals try omega
             all_goals exact hk _ _ _
       · by_cases oe : o = 1
         · by_cases fz : f < 1
           · rw [if_pos (.inr fz)] at hk
             have q1 : (o - 1 < 0) = False := eq_false (by omega)
             have q2 : (o - 1 = 0) = True := eq_true (by omega)
             have q3 : (f - 1 < 0) = True := eq_true (by omega)
             dsimp only [lnK] at hk; unfold fltV at hk; simp only [ec] at hk
             simp -dsimp -implicitDefEqProofs only [List.length_append, S168, R168, hx, hcn, w32, hix, FzW5u0, ↓Ev.P, Ev.Q, Ev.Z, simprocAttr]
             repeat' (first | with_reducible assumption | refine And.intro ?_ ?_ | intro _ | (rw [Ev.xStp_eq]; simp -dsimp -implicitDefEqProofs only [List.length_append, hx, hcn, w32, hix, FzW5u0, ↓Ev.P, Ev.Q, Ev.Z, simprocAttr]))
             all_goals try omega
             refine xLoop_intro (fun n2 st => (n2 = 2 ∧ st = ⟨[(0, .ptr 0 0), (1, .ptr 1 0), (4, .ptr 2 0), (6, .ptr 3 0), (8, .d (.v (.bool true))), (40, .agg [.d (.v (.bool true)), .d (.v (.bool true))]), (41, .d (.v (.int .i64 0)))], 4, [(0, .cells t [.d (.sl (strRows L)), .d (.v (.int .i64 ((k : Int) + 1)))]), (1, .cells t2 [.d (.v (.int .i64 o)), .d (.v (.int .i64 f))]), (2, .cells 103 [.d (.v (.int .u8 0)), .d (.v (.string ⟨#[]⟩))]), (3, .cells 103 [.d (.v (.int .u8 32)), .d (.v (.string ⟨r.toArray⟩))])]⟩) ∨ (n2 = 1 ∧ st = ⟨[(0, .ptr 0 0), (1, .ptr 1 0), (4, .ptr 2 0), (6, .ptr 3 0), (8, .d (.v (.bool true))), (40, .agg [.d (.v (.bool true)), .d (.v (.bool true))]), (41, .d (.v (.int .i64 1)))], 4, [(0, .cells t [.d (.sl (strRows L)), .d (.v (.int .i64 ((k : Int) + 1)))]), (1, .cells t2 [.d (.v (.int .i64 (o - 1))), .d (.v (.int .i64 f))]), (2, .cells 103 [.d (.v (.int .u8 0)), .d (.v (.string ⟨#[]⟩))]), (3, .cells 103 [.d (.v (.int .u8 32)), .d (.v (.string ⟨r.toArray⟩))])]⟩)) 2 [0, 1, 2, 3] ?_ ?_ ?_
             · simp -dsimp -implicitDefEqProofs only [↓Ev.xStp_eq, ↓Ev.P, Ev.Q, Ev.Z, simprocAttr]
             · simp -dsimp -implicitDefEqProofs only [↓Ev.xStp_eq, ↓Ev.P, Ev.Q, Ev.Z, simprocAttr]
               all_goals first | exact .inl ⟨rfl, rfl⟩ | exact .inl rfl | exact ⟨rfl, rfl⟩ | rfl | trivial
             · rintro n2 st2 (⟨rfl, rfl⟩ | ⟨rfl, rfl⟩)
               · have _t := trivial
                 simp -dsimp -implicitDefEqProofs only [List.length_append, S168, R168, q1, q2, q3, FzW5u0, ↓Ev.P, Ev.Q, Ev.Z, simprocAttr]
                 repeat' (first | with_reducible assumption | refine And.intro ?_ ?_ | intro _ | (rw [Ev.xStp_eq]; simp -dsimp -implicitDefEqProofs only [List.length_append, q1, q2, q3, FzW5u0, ↓Ev.P, Ev.Q, Ev.Z, simprocAttr]))
                 all_goals try omega
                 all_goals refine xAgain_intro 1 [0, 1, 2, 3] (by omega) (by simp -dsimp -implicitDefEqProofs only [↓Ev.xStp_eq, ↓Ev.P, Ev.Q, Ev.Z, simprocAttr]) (.inr ⟨rfl, ?_⟩)
                 all_goals simp -dsimp -implicitDefEqProofs only [↓Ev.xStp_eq, ↓Ev.P, Ev.Q, Ev.Z, simprocAttr]
                 all_goals rfl
               · have _t := trivial
                 simp -dsimp -implicitDefEqProofs only [List.length_append, S168, R168, q1, q2, q3, FzW5u0, ↓Ev.P, Ev.Q, Ev.Z, simprocAttr]
                 repeat' (first | with_reducible assumption | refine And.intro ?_ ?_ | intro _ | (rw [Ev.xStp_eq]; simp -dsimp -implicitDefEqProofs only [List.length_append, q1, q2, q3, FzW5u0, ↓Ev.P, Ev.Q, Ev.Z, simprocAttr]))
                 all_goals try omega
                 all_goals exact hk _ _ _
           · rw [if_neg (fun h => h.elim oz fz)] at hk
             by_cases fe : f = 1
             · have _t := trivial
               have q1 : (o - 1 < 0) = False := eq_false (by omega)
               have q2 : (o - 1 = 0) = True := eq_true (by omega)
               have q3 : (f - 1 < 0) = False := eq_false (by omega)
               have q4 : (f - 1 = 0) = True := eq_true (by omega)
               simp -dsimp -implicitDefEqProofs only [List.length_append, S168, R168, hx, hcn, w32, hix, FzW5u0, ↓Ev.P, Ev.Q, Ev.Z, simprocAttr]
               repeat' (first | with_reducible assumption | refine And.intro ?_ ?_ | intro _ | (rw [Ev.xStp_eq]; simp -dsimp -implicitDefEqProofs only [List.length_append, hx, hcn, w32, hix, FzW5u0, ↓Ev.P, Ev.Q, Ev.Z, simprocAttr]))
               all_goals try omega
               refine xLoop_intro (fun n2 st => (n2 = 2 ∧ st = ⟨[(0, .ptr 0 0), (1, .ptr 1 0), (4, .ptr 2 0), (6, .ptr 3 0), (8, .d (.v (.bool true))), (40, .agg [.d (.v (.bool true)), .d (.v (.bool true))]), (41, .d (.v (.int .i64 0)))], 4, [(0, .cells t [.d (.sl (strRows L)), .d (.v (.int .i64 ((k : Int) + 1)))]), (1, .cells t2 [.d (.v (.int .i64 o)), .d (.v (.int .i64 f))]), (2, .cells 103 [.d (.v (.int .u8 0)), .d (.v (.string ⟨#[]⟩))]), (3, .cells 103 [.d (.v (.int .u8 32)), .d (.v (.string ⟨r.toArray⟩))])]⟩) ∨ (n2 = 1 ∧ st = ⟨[(0, .ptr 0 0), (1, .ptr 1 0), (4, .ptr 2 0), (6, .ptr 3 0), (8, .d (.v (.bool true))), (40, .agg [.d (.v (.bool true)), .d (.v (.bool true))]), (41, .d (.v (.int .i64 1)))], 4, [(0, .cells t [.d (.sl (strRows L)), .d (.v (.int .i64 ((k : Int) + 1)))]), (1, .cells t2 [.d (.v (.int .i64 (o - 1))), .d (.v (.int .i64 f))]), (2, .cells 103 [.d (.v (.int .u8 0)), .d (.v (.string ⟨#[]⟩))]), (3, .cells 103 [.d (.v (.int .u8 32)), .d (.v (.string ⟨r.toArray⟩))])]⟩) ∨ (n2 = 0 ∧ st = ⟨[(0, .ptr 0 0), (1, .ptr 1 0), (4, .ptr 2 0), (6, .ptr 3 0), (8, .d (.v (.bool true))), (40, .agg [.d (.v (.bool true)), .d (.v (.bool true))]), (41, .d (.v (.int .i64 2)))], 4, [(0, .cells t [.d (.sl (strRows L)), .d (.v (.int .i64 ((k : Int) + 1)))]), (1, .cells t2 [.d (.v (.int .i64 (o - 1))), .d (.v (.int .i64 (f - 1)))]), (2, .cells 103 [.d (.v (.int .u8 0)), .d (.v (.string ⟨#[]⟩))]), (3, .cells 103 [.d (.v (.int .u8 32)), .d (.v (.string ⟨r.toArray⟩))])]⟩)) 2 [0, 1, 2, 3] ?_ ?_ ?_
               · simp -dsimp -implicitDefEqProofs only [↓Ev.xStp_eq, ↓Ev.P, Ev.Q, Ev.Z, simprocAttr]
               · simp -dsimp -implicitDefEqProofs only [↓Ev.xStp_eq, ↓Ev.P, Ev.Q, Ev.Z, simprocAttr]
                 all_goals first | exact .inl ⟨rfl, rfl⟩ | exact .inl rfl | exact ⟨rfl, rfl⟩ | rfl | trivial
               · rintro n2 st2 (⟨rfl, rfl⟩ | ⟨rfl, rfl⟩ | ⟨rfl, rfl⟩)
                 · have _t := trivial
                   simp -dsimp -implicitDefEqProofs only [List.length_append, S168, R168, q1, q2, q3, q4, FzW5u0, ↓Ev.P, Ev.Q, Ev.Z, simprocAttr]
                   repeat' (first | with_reducible assumption | refine And.intro ?_ ?_ | intro _ | (rw [Ev.xStp_eq]; simp -dsimp -implicitDefEqProofs only [List.length_append, q1, q2, q3, q4, FzW5u0, ↓Ev.P, Ev.Q, Ev.Z, simprocAttr]))
                   all_goals try omega
                   all_goals refine xAgain_intro 1 [0, 1, 2, 3] (by omega) (by simp -dsimp -implicitDefEqProofs only [↓Ev.xStp_eq, ↓Ev.P, Ev.Q, Ev.Z, simprocAttr]) (.inr (.inl ⟨rfl, ?_⟩))
                   all_goals simp -dsimp -implicitDefEqProofs only [↓Ev.xStp_eq, ↓Ev.P, Ev.Q, Ev.Z, simprocAttr]
                   all_goals rfl
                 · have _t := trivial
                   simp -dsimp -implicitDefEqProofs only [List.length_append, S168, R168, q1, q2, q3, q4, FzW5u0, ↓Ev.P, Ev.Q, Ev.Z, simprocAttr]
                   repeat' (first | with_reducible assumption | refine And.intro ?_ ?_ | intro _ | (rw [Ev.xStp_eq]; simp -dsimp -implicitDefEqProofs only [List.length_append, q1, q2, q3, q4, FzW5u0, ↓Ev.P, Ev.Q, Ev.Z, simprocAttr]))
                   all_goals try omega
                   all_goals refine xAgain_intro 0 [0, 1, 2, 3] (by omega) (by simp -dsimp -implicitDefEqProofs only [↓Ev.xStp_eq, ↓Ev.P, Ev.Q, Ev.Z, simprocAttr]) (.inr (.inr ⟨rfl, ?_⟩))
                   all_goals simp -dsimp -implicitDefEqProofs only [↓Ev.xStp_eq, ↓Ev.P, Ev.Q, Ev.Z, simprocAttr]
                   all_goals rfl
                 · have _t := trivial
                   by_cases hr : r = []
                   · rw [if_neg (fun h => h.1.2 hr)] at hk; dsimp only [lnK] at hk; simp only [ec] at hk
                     simp -dsimp -implicitDefEqProofs only [List.length_append, S168, R168, q1, q2, q3, q4, hr, FzW5u0, ↓Ev.P, Ev.Q, Ev.Z, simprocAttr]
                     repeat' (first | with_reducible assumption | refine And.intro ?_ ?_ | intro _ | (rw [Ev.xStp_eq]; simp -dsimp -implicitDefEqProofs only [List.length_append, q1, q2, q3, q4, hr, FzW5u0, ↓Ev.P, Ev.Q, Ev.Z, simprocAttr]))
                     all_goals try omega
                     all_goals first | exact hk | (simp only [hr] at hk ⊢; exact hk)
                   · by_cases hb2 : k + 1 < L.length
                     · have hl2 : (((k : Int) + 1) < (L.length : Int)) = True := eq_true (by omega)
                       have hg := strRows_get hb2
                       have hg2 : (strRows L).getD (k + 1) [] = [.v (.string ⟨(L.getD (k + 1) []).toArray⟩)] := by rw [List.getD_eq_getElem?_getD, hg]; rfl
                       have e1 : ((k : Int) + 1).toNat = k + 1 := by omega
                       by_cases hm : L.getD (k + 1) [] = markS
                       · have hl3 : (L.getD (k + 1) [] = [92, 32, 78, 111, 32, 110, 101, 119, 108, 105, 110, 101, 32, 97, 116, 32, 101, 110, 100, 32, 111, 102, 32, 102, 105, 108, 101, 10]) = True := eq_true hm
                         rw [if_pos ⟨⟨by omega, hr⟩, hb2, hm⟩] at hk; dsimp only [lnK] at hk; simp only [ec2] at hk
                         simp -dsimp -implicitDefEqProofs only [List.length_append, S168, R168, q1, q2, q3, q4, hr, hl2, hl3, hg, hg2, e1, FzW5u0, ↓Ev.P, Ev.Q, Ev.Z, simprocAttr]
                         repeat' (first | with_reducible assumption | refine And.intro ?_ ?_ | intro _ | (rw [Ev.xStp_eq]; simp -dsimp -implicitDefEqProofs only [List.length_append, q1, q2, q3, q4, hr, hl2, hl3, hg, hg2, e1, FzW5u0, ↓Ev.P, Ev.Q, Ev.Z, simprocAttr]))
                         all_goals try omega
                         all_goals exact hk
                       · have hl3 : (L.getD (k + 1) [] = [92, 32, 78, 111, 32, 110, 101, 119, 108, 105, 110, 101, 32, 97, 116, 32, 101, 110, 100, 32, 111, 102, 32, 102, 105, 108, 101, 10]) = False := eq_false hm
                         rw [if_neg (fun h => hm h.2.2)] at hk; dsimp only [lnK] at hk; simp only [ec] at hk
                         simp -dsimp -implicitDefEqProofs only [List.length_append, S168, R168, q1, q2, q3, q4, hr, hl2, hl3, hg, hg2, e1, FzW5u0, ↓Ev.P, Ev.Q, Ev.Z, simprocAttr]
                         repeat' (first | with_reducible assumption | refine And.intro ?_ ?_ | intro _ | (rw [Ev.xStp_eq]; simp -dsimp -implicitDefEqProofs only [List.length_append, q1, q2, q3, q4, hr, hl2, hl3, hg, hg2, e1, FzW5u0, ↓Ev.P, Ev.Q, Ev.Z, simprocAttr]))
                         all_goals try omega
                         all_goals exact hk
                     · have hl2 : (((k : Int) + 1) < (L.length : Int)) = False := eq_false (by omega)
                       rw [if_neg (fun h => hb2 h.2.1)] at hk; dsimp only [lnK] at hk; simp only [ec] at hk
                       simp -dsimp -implicitDefEqProofs only [List.length_append, S168, R168, q1, q2, q3, q4, hr, hl2, FzW5u0, ↓Ev.P, Ev.Q, Ev.Z, simprocAttr]
                       repeat' (first | with_reducible assumption | refine And.intro ?_ ?_ | intro _ | (rw [Ev.xStp_eq]; simp -dsimp -implicitDefEqProofs only [List.length_append, q1, q2, q3, q4, hr, hl2, FzW5u0, ↓Ev.P, Ev.Q, Ev.Z, simprocAttr]))
                       all_goals try omega
                       all_goals exact hk
             · have _t := trivial
               have q1 : (o - 1 < 0) = False := eq_false (by omega)
               have q2 : (o - 1 = 0) = True := eq_true (by omega)
               have q3 : (f - 1 < 0) = False := eq_false (by omega)
               have q4 : (f - 1 = 0) = False := eq_false (by omega)
               simp -dsimp -implicitDefEqProofs only [List.length_append, S168, R168, hx, hcn, w32, hix, FzW5u0, ↓Ev.P, Ev.Q, Ev.Z, simprocAttr]
               repeat' (first | with_reducible assumption | refine And.intro ?_ ?_ | intro _ | (rw [Ev.xStp_eq]; simp -dsimp -implicitDefEqProofs only [List.length_append, hx, hcn, w32, hix, FzW5u0, ↓Ev.P, Ev.Q, Ev.Z, simprocAttr]))
               all_goals try omega
               refine xLoop_intro (fun n2 st => (n2 = 2 ∧ st = ⟨[(0, .ptr 0 0), (1, .ptr 1 0), (4, .ptr 2 0), (6, .ptr 3 0), (8, .d (.v (.bool true))), (40, .agg [.d (.v (.bool true)), .d (.v (.bool true))]), (41, .d (.v (.int .i64 0)))], 4, [(0, .cells t [.d (.sl (strRows L)), .d (.v (.int .i64 ((k : Int) + 1)))]), (1, .cells t2 [.d (.v (.int .i64 o)), .d (.v (.int .i64 f))]), (2, .cells 103 [.d (.v (.int .u8 0)), .d (.v (.string ⟨#[]⟩))]), (3, .cells 103 [.d (.v (.int .u8 32)), .d (.v (.string ⟨r.toArray⟩))])]⟩) ∨ (n2 = 1 ∧ st = ⟨[(0, .ptr 0 0), (1, .ptr 1 0), (4, .ptr 2 0), (6, .ptr 3 0), (8, .d (.v (.bool true))), (40, .agg [.d (.v (.bool true)), .d (.v (.bool true))]), (41, .d (.v (.int .i64 1)))], 4, [(0, .cells t [.d (.sl (strRows L)), .d (.v (.int .i64 ((k : Int) + 1)))]), (1, .cells t2 [.d (.v (.int .i64 (o - 1))), .d (.v (.int .i64 f))]), (2, .cells 103 [.d (.v (.int .u8 0)), .d (.v (.string ⟨#[]⟩))]), (3, .cells 103 [.d (.v (.int .u8 32)), .d (.v (.string ⟨r.toArray⟩))])]⟩) ∨ (n2 = 0 ∧ st = ⟨[(0, .ptr 0 0), (1, .ptr 1 0), (4, .ptr 2 0), (6, .ptr 3 0), (8, .d (.v (.bool false))), (40, .agg [.d (.v (.bool true)), .d (.v (.bool true))]), (41, .d (.v (.int .i64 2)))], 4, [(0, .cells t [.d (.sl (strRows L)), .d (.v (.int .i64 ((k : Int) + 1)))]), (1, .cells t2 [.d (.v (.int .i64 (o - 1))), .d (.v (.int .i64 (f - 1)))]), (2, .cells 103 [.d (.v (.int .u8 0)), .d (.v (.string ⟨#[]⟩))]), (3, .cells 103 [.d (.v (.int .u8 32)), .d (.v (.string ⟨r.toArray⟩))])]⟩)) 2 [0, 1, 2, 3] ?_ ?_ ?_
               · simp -dsimp -implicitDefEqProofs only [↓Ev.xStp_eq, ↓Ev.P, Ev.Q, Ev.Z, simprocAttr]
               · simp -dsimp -implicitDefEqProofs only [↓Ev.xStp_eq, ↓Ev.P, Ev.Q, Ev.Z, simprocAttr]
                 all_goals first | exact .inl ⟨rfl, rfl⟩ | exact .inl rfl | exact ⟨rfl, rfl⟩ | rfl | trivial
               · rintro n2 st2 (⟨rfl, rfl⟩ | ⟨rfl, rfl⟩ | ⟨rfl, rfl⟩)
                 · have _t := trivial
                   simp -dsimp -implicitDefEqProofs only [List.length_append, S168, R168, q1, q2, q3, q4, FzW5u0, ↓Ev.P, Ev.Q, Ev.Z, simprocAttr]
                   repeat' (first | with_reducible assumption | refine And.intro ?_ ?_ | intro _ | (rw [Ev.xStp_eq]; simp -dsimp -implicitDefEqProofs only [List.length_append, q1, q2, q3, q4, FzW5u0, ↓Ev.P, Ev.Q, Ev.Z, simprocAttr]))
                   all_goals try omega
                   all_goals refine xAgain_intro 1 [0, 1, 2, 3] (by omega) (by simp -dsimp -implicitDefEqProofs only [↓Ev.xStp_eq, ↓Ev.P, Ev.Q, Ev.Z, simprocAttr]) (.inr (.inl ⟨rfl, ?_⟩))
                   all_goals simp -dsimp -implicitDefEqProofs only [↓Ev.xStp_eq, ↓Ev.P, Ev.Q, Ev.Z, simprocAttr]
                   all_goals rfl
                 · have _t := trivial
                   simp -dsimp -implicitDefEqProofs only [List.length_append, S168, R168, q1, q2, q3, q4, FzW5u0, ↓Ev.P, Ev.Q, Ev.Z, simprocAttr]
                   repeat' (first | with_reducible assumption | refine And.intro ?_ ?_ | intro _ | (rw [Ev.xStp_eq]; simp -dsimp -implicitDefEqProofs only [List.length_append, q1, q2, q3, q4, FzW5u0, ↓Ev.P, Ev.Q, Ev.Z, simprocAttr]))
                   all_goals try omega
                   all_goals refine xAgain_intro 0 [0, 1, 2, 3] (by omega) (by simp -dsimp -implicitDefEqProofs only [↓Ev.xStp_eq, ↓Ev.P, Ev.Q, Ev.Z, simprocAttr]) (.inr (.inr ⟨rfl, ?_⟩))
                   all_goals simp -dsimp -implicitDefEqProofs only [↓Ev.xStp_eq, ↓Ev.P, Ev.Q, Ev.Z, simprocAttr]
                   all_goals rfl
                 · have _t := trivial
                   rw [if_neg (fun h => by have := h.1.1; omega)] at hk; dsimp only [lnK] at hk; simp only [ec] at hk
                   simp -dsimp -implicitDefEqProofs only [List.length_append, S168, R168, q1, q2, q3, q4, FzW5u0, ↓Ev.P, Ev.Q, Ev.Z, simprocAttr]
                   repeat' (first | with_reducible assumption | refine And.intro ?_ ?_ | intro _ | (rw [Ev.xStp_eq]; simp -dsimp -implicitDefEqProofs only [List.length_append, q1, q2, q3, q4, FzW5u0, ↓Ev.P, Ev.Q, Ev.Z, simprocAttr]))
                   all_goals try omega
                   all_goals exact hk
         · by_cases fz : f < 1
           · rw [if_pos (.inr fz)] at hk
             have q1 : (o - 1 < 0) = False := eq_false (by omega)
             have q2 : (o - 1 = 0) = False := eq_false (by omega)
             have q3 : (f - 1 < 0) = True := eq_true (by omega)
             dsimp only [lnK] at hk; unfold fltV at hk; simp only [ec] at hk
             simp -dsimp -implicitDefEqProofs only [List.length_append, S168, R168, hx, hcn, w32, hix, FzW5u0, ↓Ev.P, Ev.Q, Ev.Z, simprocAttr]
             repeat' (first | with_reducible assumption | refine And.intro ?_ ?_ | intro _ | (rw [Ev.xStp_eq]; simp -dsimp -implicitDefEqProofs only [List.length_append, hx, hcn, w32, hix, FzW5u0, ↓Ev.P, Ev.Q, Ev.Z, simprocAttr]))
             all_goals try omega
             refine xLoop_intro (fun n2 st => (n2 = 2 ∧ st = ⟨[(0, .ptr 0 0), (1, .ptr 1 0), (4, .ptr 2 0), (6, .ptr 3 0), (8, .d (.v (.bool true))), (40, .agg [.d (.v (.bool true)), .d (.v (.bool true))]), (41, .d (.v (.int .i64 0)))], 4, [(0, .cells t [.d (.sl (strRows L)), .d (.v (.int .i64 ((k : Int) + 1)))]), (1, .cells t2 [.d (.v (.int .i64 o)), .d (.v (.int .i64 f))]), (2, .cells 103 [.d (.v (.int .u8 0)), .d (.v (.string ⟨#[]⟩))]), (3, .cells 103 [.d (.v (.int .u8 32)), .d (.v (.string ⟨r.toArray⟩))])]⟩) ∨ (n2 = 1 ∧ st = ⟨[(0, .ptr 0 0), (1, .ptr 1 0), (4, .ptr 2 0), (6, .ptr 3 0), (8, .d (.v (.bool false))), (40, .agg [.d (.v (.bool true)), .d (.v (.bool true))]), (41, .d (.v (.int .i64 1)))], 4, [(0, .cells t [.d (.sl (strRows L)), .d (.v (.int .i64 ((k : Int) + 1)))]), (1, .cells t2 [.d (.v (.int .i64 (o - 1))), .d (.v (.int .i64 f))]), (2, .cells 103 [.d (.v (.int .u8 0)), .d (.v (.string ⟨#[]⟩))]), (3, .cells 103 [.d (.v (.int .u8 32)), .d (.v (.string ⟨r.toArray⟩))])]⟩)) 2 [0, 1, 2, 3] ?_ ?_ ?_
             · simp -dsimp -implicitDefEqProofs only [↓Ev.xStp_eq, ↓Ev.P, Ev.Q, Ev.Z, simprocAttr]
             · simp -dsimp -implicitDefEqProofs only [↓Ev.xStp_eq, ↓Ev.P, Ev.Q, Ev.Z, simprocAttr]
               all_goals first | exact .inl ⟨rfl, rfl⟩ | exact .inl rfl | exact ⟨rfl, rfl⟩ | rfl | trivial
             · rintro n2 st2 (⟨rfl, rfl⟩ | ⟨rfl, rfl⟩)
               · have _t := trivial
                 simp -dsimp -implicitDefEqProofs only [List.length_append, S168, R168, q1, q2, q3, FzW5u0, ↓Ev.P, Ev.Q, Ev.Z, simprocAttr]
                 repeat' (first | with_reducible assumption | refine And.intro ?_ ?_ | intro _ | (rw [Ev.xStp_eq]; simp -dsimp -implicitDefEqProofs only [List.length_append, q1, q2, q3, FzW5u0, ↓Ev.P, Ev.Q, Ev.Z, simprocAttr]))
                 all_goals try omega
                 all_goals refine xAgain_intro 1 [0, 1, 2, 3] (by omega) (by simp -dsimp -implicitDefEqProofs only [↓Ev.xStp_eq, ↓Ev.P, Ev.Q, Ev.Z, simprocAttr]) (.inr ⟨rfl, ?_⟩)
                 all_goals simp -dsimp -implicitDefEqProofs only [↓Ev.xStp_eq, ↓Ev.P, Ev.Q, Ev.Z, simprocAttr]
                 all_goals rfl
               · have _t := trivial
                 simp -dsimp -implicitDefEqProofs only [List.length_append, S168, R168, q1, q2, q3, FzW5u0, ↓Ev.P, Ev.Q, Ev.Z, simprocAttr]
                 repeat' (first | with_reducible assumption | refine And.intro ?_ ?_ | intro _ | (rw [Ev.xStp_eq]; simp -dsimp -implicitDefEqProofs only [List.length_append, q1, q2, q3, FzW5u0, ↓Ev.P, Ev.Q, Ev.Z, simprocAttr]))
                 all_goals try omega
                 all_goals exact hk _ _ _
           · rw [if_neg (fun h => h.elim oz fz)] at hk
             by_cases fe : f = 1
             · have _t := trivial
               have q1 : (o - 1 < 0) = False := eq_false (by omega)
               have q2 : (o - 1 = 0) = False := eq_false (by omega)
               have q3 : (f - 1 < 0) = False := eq_false (by omega)
               have q4 : (f - 1 = 0) = True := eq_true (by omega)
               simp -dsimp -implicitDefEqProofs only [List.length_append, S168, R168, hx, hcn, w32, hix, FzW5u0, ↓Ev.P, Ev.Q, Ev.Z, simprocAttr]
               repeat' (first | with_reducible assumption | refine And.intro ?_ ?_ | intro _ | (rw [Ev.xStp_eq]; simp -dsimp -implicitDefEqProofs only [List.length_append, hx, hcn, w32, hix, FzW5u0, ↓Ev.P, Ev.Q, Ev.Z, simprocAttr]))
               all_goals try omega
               refine xLoop_intro (fun n2 st => (n2 = 2 ∧ st = ⟨[(0, .ptr 0 0), (1, .ptr 1 0), (4, .ptr 2 0), (6, .ptr 3 0), (8, .d (.v (.bool true))), (40, .agg [.d (.v (.bool true)), .d (.v (.bool true))]), (41, .d (.v (.int .i64 0)))], 4, [(0, .cells t [.d (.sl (strRows L)), .d (.v (.int .i64 ((k : Int) + 1)))]), (1, .cells t2 [.d (.v (.int .i64 o)), .d (.v (.int .i64 f))]), (2, .cells 103 [.d (.v (.int .u8 0)), .d (.v (.string ⟨#[]⟩))]), (3, .cells 103 [.d (.v (.int .u8 32)), .d (.v (.string ⟨r.toArray⟩))])]⟩) ∨ (n2 = 1 ∧ st = ⟨[(0, .ptr 0 0), (1, .ptr 1 0), (4, .ptr 2 0), (6, .ptr 3 0), (8, .d (.v (.bool false))), (40, .agg [.d (.v (.bool true)), .d (.v (.bool true))]), (41, .d (.v (.int .i64 1)))], 4, [(0, .cells t [.d (.sl (strRows L)), .d (.v (.int .i64 ((k : Int) + 1)))]), (1, .cells t2 [.d (.v (.int .i64 (o - 1))), .d (.v (.int .i64 f))]), (2, .cells 103 [.d (.v (.int .u8 0)), .d (.v (.string ⟨#[]⟩))]), (3, .cells 103 [.d (.v (.int .u8 32)), .d (.v (.string ⟨r.toArray⟩))])]⟩) ∨ (n2 = 0 ∧ st = ⟨[(0, .ptr 0 0), (1, .ptr 1 0), (4, .ptr 2 0), (6, .ptr 3 0), (8, .d (.v (.bool false))), (40, .agg [.d (.v (.bool true)), .d (.v (.bool true))]), (41, .d (.v (.int .i64 2)))], 4, [(0, .cells t [.d (.sl (strRows L)), .d (.v (.int .i64 ((k : Int) + 1)))]), (1, .cells t2 [.d (.v (.int .i64 (o - 1))), .d (.v (.int .i64 (f - 1)))]), (2, .cells 103 [.d (.v (.int .u8 0)), .d (.v (.string ⟨#[]⟩))]), (3, .cells 103 [.d (.v (.int .u8 32)), .d (.v (.string ⟨r.toArray⟩))])]⟩)) 2 [0, 1, 2, 3] ?_ ?_ ?_
               · simp -dsimp -implicitDefEqProofs only [↓Ev.xStp_eq, ↓Ev.P, Ev.Q, Ev.Z, simprocAttr]
               · simp -dsimp -implicitDefEqProofs only [↓Ev.xStp_eq, ↓Ev.P, Ev.Q, Ev.Z, simprocAttr]
                 all_goals first | exact .inl ⟨rfl, rfl⟩ | exact .inl rfl | exact ⟨rfl, rfl⟩ | rfl | trivial
               · rintro n2 st2 (⟨rfl, rfl⟩ | ⟨rfl, rfl⟩ | ⟨rfl, rfl⟩)
                 · have _t := trivial
                   simp -dsimp -implicitDefEqProofs only [List.length_append, S168, R168, q1, q2, q3, q4, FzW5u0, ↓Ev.P, Ev.Q, Ev.Z, simprocAttr]
                   repeat' (first | with_reducible assumption | refine And.intro ?_ ?_ | intro _ | (rw [Ev.xStp_eq]; simp -dsimp -implicitDefEqProofs only [List.length_append, q1, q2, q3, q4, FzW5u0, ↓Ev.P, Ev.Q, Ev.Z, simprocAttr]))
                   all_goals try omega
                   all_goals refine xAgain_intro 1 [0, 1, 2, 3] (by omega) (by simp -dsimp -implicitDefEqProofs only [↓Ev.xStp_eq, ↓Ev.P, Ev.Q, Ev.Z, simprocAttr]) (.inr (.inl ⟨rfl, ?_⟩))
                   all_goals simp -dsimp -implicitDefEqProofs only [↓Ev.xStp_eq, ↓Ev.P, Ev.Q, Ev.Z, simprocAttr]
                   all_goals rfl
                 · have _t := trivial
                   simp -dsimp -implicitDefEqProofs only [List.length_append, S168, R168, q1, q2, q3, q4, FzW5u0, ↓Ev.P, Ev.Q, Ev.Z, simprocAttr]
                   repeat' (first | with_reducible assumption | refine And.intro ?_ ?_ | intro _ | (rw [Ev.xStp_eq]; simp -dsimp -implicitDefEqProofs only [List.length_append, q1, q2, q3, q4, FzW5u0, ↓Ev.P, Ev.Q, Ev.Z, simprocAttr]))
                   all_goals try omega
                   all_goals refine xAgain_intro 0 [0, 1, 2, 3] (by omega) (by simp -dsimp -implicitDefEqProofs only [↓Ev.xStp_eq, ↓Ev.P, Ev.Q, Ev.Z, simprocAttr]) (.inr (.inr ⟨rfl, ?_⟩))
                   all_goals simp -dsimp -implicitDefEqProofs only [↓Ev.xStp_eq, ↓Ev.P, Ev.Q, Ev.Z, simprocAttr]
                   all_goals rfl
                 · have _t := trivial
                   rw [if_neg (fun h => by have := h.1.1; omega)] at hk; dsimp only [lnK] at hk; simp only [ec] at hk
                   simp -dsimp -implicitDefEqProofs only [List.length_append, S168, R168, q1, q2, q3, q4, FzW5u0, ↓Ev.P, Ev.Q, Ev.Z, simprocAttr]
                   repeat' (first | with_reducible assumption | refine And.intro ?_ ?_ | intro _ | (rw [Ev.xStp_eq]; simp -dsimp -implicitDefEqProofs only [List.length_append, q1, q2, q3, q4, FzW5u0, ↓Ev.P, Ev.Q, Ev.Z, simprocAttr]))
                   all_goals try omega
                   all_goals exact hk
             · have _t := trivial
               have q1 : (o - 1 < 0) = False := eq_false (by omega)
               have q2 : (o - 1 = 0) = False := eq_false (by omega)
               have q3 : (f - 1 < 0) = False := eq_false (by omega)
               have q4 : (f - 1 = 0) = False := eq_false (by omega)
               simp -dsimp -implicitDefEqProofs only [List.length_append, S168, R168, hx, hcn, w32, hix, FzW5u0, ↓Ev.P, Ev.Q, Ev.Z, simprocAttr]
               repeat' (first | with_reducible assumption | refine And.intro ?_ ?_ | intro _ | (rw [Ev.xStp_eq]; simp -dsimp -implicitDefEqProofs only [List.length_append, hx, hcn, w32, hix, FzW5u0, ↓Ev.P, Ev.Q, Ev.Z, simprocAttr]))
               all_goals try omega
               refine xLoop_intro (fun n2 st => (n2 = 2 ∧ st = ⟨[(0, .ptr 0 0), (1, .ptr 1 0), (4, .ptr 2 0), (6, .ptr 3 0), (8, .d (.v (.bool true))), (40, .agg [.d (.v (.bool true)), .d (.v (.bool true))]), (41, .d (.v (.int .i64 0)))], 4, [(0, .cells t [.d (.sl (strRows L)), .d (.v (.int .i64 ((k : Int) + 1)))]), (1, .cells t2 [.d (.v (.int .i64 o)), .d (.v (.int .i64 f))]), (2, .cells 103 [.d (.v (.int .u8 0)), .d (.v (.string ⟨#[]⟩))]), (3, .cells 103 [.d (.v (.int .u8 32)), .d (.v (.string ⟨r.toArray⟩))])]⟩) ∨ (n2 = 1 ∧ st = ⟨[(0, .ptr 0 0), (1, .ptr 1 0), (4, .ptr 2 0), (6, .ptr 3 0), (8, .d (.v (.bool false))), (40, .agg [.d (.v (.bool true)), .d (.v (.bool true))]), (41, .d (.v (.int .i64 1)))], 4, [(0, .cells t [.d (.sl (strRows L)), .d (.v (.int .i64 ((k : Int) + 1)))]), (1, .cells t2 [.d (.v (.int .i64 (o - 1))), .d (.v (.int .i64 f))]), (2, .cells 103 [.d (.v (.int .u8 0)), .d (.v (.string ⟨#[]⟩))]), (3, .cells 103 [.d (.v (.int .u8 32)), .d (.v (.string ⟨r.toArray⟩))])]⟩) ∨ (n2 = 0 ∧ st = ⟨[(0, .ptr 0 0), (1, .ptr 1 0), (4, .ptr 2 0), (6, .ptr 3 0), (8, .d (.v (.bool false))), (40, .agg [.d (.v (.bool true)), .d (.v (.bool true))]), (41, .d (.v (.int .i64 2)))], 4, [(0, .cells t [.d (.sl (strRows L)), .d (.v (.int .i64 ((k : Int) + 1)))]), (1, .cells t2 [.d (.v (.int .i64 (o - 1))), .d (.v (.int .i64 (f - 1)))]), (2, .cells 103 [.d (.v (.int .u8 0)), .d (.v (.string ⟨#[]⟩))]), (3, .cells 103 [.d (.v (.int .u8 32)), .d (.v (.string ⟨r.toArray⟩))])]⟩)) 2 [0, 1, 2, 3] ?_ ?_ ?_
               · simp -dsimp -implicitDefEqProofs only [↓Ev.xStp_eq, ↓Ev.P, Ev.Q, Ev.Z, simprocAttr]
               · simp -dsimp -implicitDefEqProofs only [↓Ev.xStp_eq, ↓Ev.P, Ev.Q, Ev.Z, simprocAttr]
                 all_goals first | exact .inl ⟨rfl, rfl⟩ | exact .inl rfl | exact ⟨rfl, rfl⟩ | rfl | trivial
               · rintro n2 st2 (⟨rfl, rfl⟩ | ⟨rfl, rfl⟩ | ⟨rfl, rfl⟩)
                 · have _t := trivial
                   simp -dsimp -implicitDefEqProofs only [List.length_append, S168, R168, q1, q2, q3, q4, FzW5u0, ↓Ev.P, Ev.Q, Ev.Z, simprocAttr]
                   repeat' (first | with_reducible assumption | refine And.intro ?_ ?_ | intro _ | (rw [Ev.xStp_eq]; simp -dsimp -implicitDefEqProofs only [List.length_append, q1, q2, q3, q4, FzW5u0, ↓Ev.P, Ev.Q, Ev.Z, simprocAttr]))
                   all_goals try omega
                   all_goals refine xAgain_intro 1 [0, 1, 2, 3] (by omega) (by simp -dsimp -implicitDefEqProofs only [↓Ev.xStp_eq, ↓Ev.P, Ev.Q, Ev.Z, simprocAttr]) (.inr (.inl ⟨rfl, ?_⟩))
                   all_goals simp -dsimp -implicitDefEqProofs only [↓Ev.xStp_eq, ↓Ev.P, Ev.Q, Ev.Z, simprocAttr]
                   all_goals rfl
                 · have _t := trivial
                   simp -dsimp -implicitDefEqProofs only [List.length_append, S168, R168, q1, q2, q3, q4, FzW5u0, ↓Ev.P, Ev.Q, Ev.Z, simprocAttr]
                   repeat' (first | with_reducible assumption | refine And.intro ?_ ?_ | intro _ | (rw [Ev.xStp_eq]; simp -dsimp -implicitDefEqProofs only [List.length_append, q1, q2, q3, q4, FzW5u0, ↓Ev.P, Ev.Q, Ev.Z, simprocAttr]))
                   all_goals try omega
                   all_goals refine xAgain_intro 0 [0, 1, 2, 3] (by omega) (by simp -dsimp -implicitDefEqProofs only [↓Ev.xStp_eq, ↓Ev.P, Ev.Q, Ev.Z, simprocAttr]) (.inr (.inr ⟨rfl, ?_⟩))
                   all_goals simp -dsimp -implicitDefEqProofs only [↓Ev.xStp_eq, ↓Ev.P, Ev.Q, Ev.Z, simprocAttr]
                   all_goals rfl
                 · have _t := trivial
                   rw [if_neg (fun h => by have := h.1.1; omega)] at hk; dsimp only [lnK] at hk; simp only [ec] at hk
                   simp -dsimp -implicitDefEqProofs only [List.length_append, S168, R168, q1, q2, q3, q4, FzW5u0, ↓Ev.P, Ev.Q, Ev.Z, simprocAttr]
                   repeat' (first | with_reducible assumption | refine And.intro ?_ ?_ | intro _ | (rw [Ev.xStp_eq]; simp -dsimp -implicitDefEqProofs only [List.length_append, q1, q2, q3, q4, FzW5u0, ↓Ev.P, Ev.Q, Ev.Z, simprocAttr]))
                   all_goals try omega
                   all_goals exact hk
     · rw [if_neg hc] at hk
       have hc32 := hc; clear hc
       by_cases hc : c = 45
       · rw [if_pos hc] at hk
         have hcn : ((c.toNat : Nat) : Int) = 45 := by rw [hc]; rfl
         have hix : idxM 45 = 1 := rfl
         rw [hcn] at w32
         by_cases oz : o < 1
         · rw [if_pos oz] at hk
           have q1 : (o - 1 < 0) = True := eq_true (by omega)
           dsimp only [lnK] at hk; unfold fltV at hk; simp only [ec] at hk
           simp -dsimp -implicitDefEqProofs only [List.length_append, S168, R168, hx, hcn, w32, hix, FzW5u0, ↓Ev.P, Ev.Q, Ev.Z, simprocAttr]
           repeat' (first | with_reducible assumption | refine And.intro ?_ ?_ | intro _ | (rw [Ev.xStp_eq]; simp -dsimp -implicitDefEqProofs only [List.length_append, hx, hcn, w32, hix, FzW5u0, ↓Ev.P, Ev.Q, Ev.Z, simprocAttr]))
           all_goals try omega
           refine xLoop_intro (fun n2 st => (n2 = 2 ∧ st = ⟨[(0, .ptr 0 0), (1, .ptr 1 0), (4, .ptr 2 0), (6, .ptr 3 0), (8, .d (.v (.bool true))), (40, .agg [.d (.v (.bool true)), .d (.v (.bool false))]), (41, .d (.v (.int .i64 0)))], 4, [(0, .cells t [.d (.sl (strRows L)), .d (.v (.int .i64 ((k : Int) + 1)))]), (1, .cells t2 [.d (.v (.int .i64 o)), .d (.v (.int .i64 f))]), (2, .cells 103 [.d (.v (.int .u8 0)), .d (.v (.string ⟨#[]⟩))]), (3, .cells 103 [.d (.v (.int .u8 45)), .d (.v (.string ⟨r.toArray⟩))])]⟩)) 2 [0, 1, 2, 3] ?_ ?_ ?_
           · simp -dsimp -implicitDefEqProofs only [↓Ev.xStp_eq, ↓Ev.P, Ev.Q, Ev.Z, simprocAttr]
           · simp -dsimp -implicitDefEqProofs only [↓Ev.xStp_eq, ↓Ev.P, Ev.Q, Ev.Z, simprocAttr]
             all_goals first | exact .inl ⟨rfl, rfl⟩ | exact .inl rfl | exact ⟨rfl, rfl⟩ | rfl | trivial
           · rintro n2 st2 ⟨rfl, rfl⟩
             · have _t := trivial
               simp -dsimp -implicitDefEqProofs only [List.length_append, S168, R168, q1, FzW5u0, ↓Ev.P, Ev.Q, Ev.Z, simprocAttr]
               repeat' (first | with_reducible assumption | refine And.intro ?_ ?_ | intro _ | (rw [Ev.xStp_eq]; simp -dsimp -implicitDefEqProofs only [List.length_append, q1, FzW5u0, ↓Ev.P, Ev.Q, Ev.Z, simprocAttr]))
               all_goals try omega
               all_goals exact hk _ _ _
         · rw [if_neg oz] at hk
           by_cases oe : o = 1
           · have _t := trivial
             have q1 : (o - 1 < 0) = False := eq_false (by omega)
             have q2 : (o - 1 = 0) = True := eq_true (by omega)
             simp -dsimp -implicitDefEqProofs only [List.length_append, S168, R168, hx, hcn, w32, hix, FzW5u0, ↓Ev.P, Ev.Q, Ev.Z, simprocAttr]
             repeat' (first | with_reducible assumption | refine And.intro ?_ ?_ | intro _ | (rw [Ev.xStp_eq]; simp -dsimp -implicitDefEqProofs only [List.length_append, hx, hcn, w32, hix, FzW5u0, ↓Ev.P, Ev.Q, Ev.Z, simprocAttr]))
             all_goals try omega
             refine xLoop_intro (fun n2 st => (n2 = 2 ∧ st = ⟨[(0, .ptr 0 0), (1, .ptr 1 0), (4, .ptr 2 0), (6, .ptr 3 0), (8, .d (.v (.bool true))), (40, .agg [.d (.v (.bool true)), .d (.v (.bool false))]), (41, .d (.v (.int .i64 0)))], 4, [(0, .cells t [.d (.sl (strRows L)), .d (.v (.int .i64 ((k : Int) + 1)))]), (1, .cells t2 [.d (.v (.int .i64 o)), .d (.v (.int .i64 f))]), (2, .cells 103 [.d (.v (.int .u8 0)), .d (.v (.string ⟨#[]⟩))]), (3, .cells 103 [.d (.v (.int .u8 45)), .d (.v (.string ⟨r.toArray⟩))])]⟩) ∨ (n2 = 1 ∧ st = ⟨[(0, .ptr 0 0), (1, .ptr 1 0), (4, .ptr 2 0), (6, .ptr 3 0), (8, .d (.v (.bool true))), (40, .agg [.d (.v (.bool true)), .d (.v (.bool false))]), (41, .d (.v (.int .i64 1)))], 4, [(0, .cells t [.d (.sl (strRows L)), .d (.v (.int .i64 ((k : Int) + 1)))]), (1, .cells t2 [.d (.v (.int .i64 (o - 1))), .d (.v (.int .i64 f))]), (2, .cells 103 [.d (.v (.int .u8 0)), .d (.v (.string ⟨#[]⟩))]), (3, .cells 103 [.d (.v (.int .u8 45)), .d (.v (.string ⟨r.toArray⟩))])]⟩) ∨ (n2 = 0 ∧ st = ⟨[(0, .ptr 0 0), (1, .ptr 1 0), (4, .ptr 2 0), (6, .ptr 3 0), (8, .d (.v (.bool true))), (40, .agg [.d (.v (.bool true)), .d (.v (.bool false))]), (41, .d (.v (.int .i64 2)))], 4, [(0, .cells t [.d (.sl (strRows L)), .d (.v (.int .i64 ((k : Int) + 1)))]), (1, .cells t2 [.d (.v (.int .i64 (o - 1))), .d (.v (.int .i64 f))]), (2, .cells 103 [.d (.v (.int .u8 0)), .d (.v (.string ⟨#[]⟩))]), (3, .cells 103 [.d (.v (.int .u8 45)), .d (.v (.string ⟨r.toArray⟩))])]⟩)) 2 [0, 1, 2, 3] ?_ ?_ ?_
             · simp -dsimp -implicitDefEqProofs only [↓Ev.xStp_eq, ↓Ev.P, Ev.Q, Ev.Z, simprocAttr]
             · simp -dsimp -implicitDefEqProofs only [↓Ev.xStp_eq, ↓Ev.P, Ev.Q, Ev.Z, simprocAttr]
               all_goals first | exact .inl ⟨rfl, rfl⟩ | exact .inl rfl | exact ⟨rfl, rfl⟩ | rfl | trivial
             · rintro n2 st2 (⟨rfl, rfl⟩ | ⟨rfl, rfl⟩ | ⟨rfl, rfl⟩)
               · have _t := trivial
                 simp -dsimp -implicitDefEqProofs only [List.length_append, S168, R168, q1, q2, FzW5u0, ↓Ev.P, Ev.Q, Ev.Z, simprocAttr]
                 repeat' (first | with_reducible assumption | refine And.intro ?_ ?_ | intro _ | (rw [Ev.xStp_eq]; simp -dsimp -implicitDefEqProofs only [List.length_append, q1, q2, FzW5u0, ↓Ev.P, Ev.Q, Ev.Z, simprocAttr]))
                 all_goals try omega
                 all_goals refine xAgain_intro 1 [0, 1, 2, 3] (by omega) (by simp -dsimp -implicitDefEqProofs only [↓Ev.xStp_eq, ↓Ev.P, Ev.Q, Ev.Z, simprocAttr]) (.inr (.inl ⟨rfl, ?_⟩))
                 all_goals simp -dsimp -implicitDefEqProofs only [↓Ev.xStp_eq, ↓Ev.P, Ev.Q, Ev.Z, simprocAttr]
                 all_goals rfl
               · have _t := trivial
                 simp -dsimp -implicitDefEqProofs only [List.length_append, S168, R168, q1, q2, FzW5u0, ↓Ev.P, Ev.Q, Ev.Z, simprocAttr]
                 repeat' (first | with_reducible assumption | refine And.intro ?_ ?_ | intro _ | (rw [Ev.xStp_eq]; simp -dsimp -implicitDefEqProofs only [List.length_append, q1, q2, FzW5u0, ↓Ev.P, Ev.Q, Ev.Z, simprocAttr]))
                 all_goals try omega
                 all_goals refine xAgain_intro 0 [0, 1, 2, 3] (by omega) (by simp -dsimp -implicitDefEqProofs only [↓Ev.xStp_eq, ↓Ev.P, Ev.Q, Ev.Z, simprocAttr]) (.inr (.inr ⟨rfl, ?_⟩))
                 all_goals simp -dsimp -implicitDefEqProofs only [↓Ev.xStp_eq, ↓Ev.P, Ev.Q, Ev.Z, simprocAttr]
                 all_goals rfl
               · have _t := trivial
                 by_cases hr : r = []
                 · rw [if_neg (fun h => h.1.2 hr)] at hk; dsimp only [lnK] at hk; simp only [ec] at hk
                   simp -dsimp -implicitDefEqProofs only [List.length_append, S168, R168, q1, q2, hr, FzW5u0, ↓Ev.P, Ev.Q, Ev.Z, simprocAttr]
                   repeat' (first | with_reducible assumption | refine And.intro ?_ ?_ | intro _ | (rw [Ev.xStp_eq]; simp -dsimp -implicitDefEqProofs only [List.length_append, q1, q2, hr, FzW5u0, ↓Ev.P, Ev.Q, Ev.Z, simprocAttr]))
                   all_goals try omega
                   all_goals first | exact hk | (simp only [hr] at hk ⊢; exact hk)
                 · by_cases hb2 : k + 1 < L.length
                   · have hl2 : (((k : Int) + 1) < (L.length : Int)) = True := eq_true (by omega)
                     have hg := strRows_get hb2
                     have hg2 : (strRows L).getD (k + 1) [] = [.v (.string ⟨(L.getD (k + 1) []).toArray⟩)] := by rw [List.getD_eq_getElem?_getD, hg]; rfl
                     have e1 : ((k : Int) + 1).toNat = k + 1 := by omega
                     by_cases hm : L.getD (k + 1) [] = markS
                     · have hl3 : (L.getD (k + 1) [] = [92, 32, 78, 111, 32, 110, 101, 119, 108, 105, 110, 101, 32, 97, 116, 32, 101, 110, 100, 32, 111, 102, 32, 102, 105, 108, 101, 10]) = True := eq_true hm
                       rw [if_pos ⟨⟨by omega, hr⟩, hb2, hm⟩] at hk; dsimp only [lnK] at hk; simp only [ec2] at hk
                       simp -dsimp -implicitDefEqProofs only [List.length_append, S168, R168, q1, q2, hr, hl2, hl3, hg, hg2, e1, FzW5u0, ↓Ev.P, Ev.Q, Ev.Z, simprocAttr]
                       repeat' (first | with_reducible assumption | refine And.intro ?_ ?_ | intro _ | (rw [Ev.xStp_eq]; simp -dsimp -implicitDefEqProofs only [List.length_append, q1, q2, hr, hl2, hl3, hg, hg2, e1, FzW5u0, ↓Ev.P, Ev.Q, Ev.Z, simprocAttr]))
                       all_goals try omega
                       all_goals exact hk
                     · have hl3 : (L.getD (k + 1) [] = [92, 32, 78, 111, 32, 110, 101, 119, 108, 105, 110, 101, 32, 97, 116, 32, 101, 110, 100, 32, 111, 102, 32, 102, 105, 108, 101, 10]) = False := eq_false hm
                       rw [if_neg (fun h => hm h.2.2)] at hk; dsimp only [lnK] at hk; simp only [ec] at hk
                       simp -dsimp -implicitDefEqProofs only [List.length_append, S168, R168, q1, q2, hr, hl2, hl3, hg, hg2, e1, FzW5u0, ↓Ev.P, Ev.Q, Ev.Z, simprocAttr]
                       repeat' (first | with_reducible assumption | refine And.intro ?_ ?_ | intro _ | (rw [Ev.xStp_eq]; simp -dsimp -implicitDefEqProofs only [List.length_append, q1, q2, hr, hl2, hl3, hg, hg2, e1, FzW5u0, ↓Ev.P, Ev.Q, Ev.Z, simprocAttr]))
                       all_goals try omega
                       all_goals exact hk
                   · have hl2 : (((k : Int) + 1) < (L.length : Int)) = False := eq_false (by omega)
                     rw [if_neg (fun h => hb2 h.2.1)] at hk; dsimp only [lnK] at hk; simp only [ec] at hk
                     simp -dsimp -implicitDefEqProofs only [List.length_append, S168, R168, q1, q2, hr, hl2, FzW5u0, ↓Ev.P, Ev.Q, Ev.Z, simprocAttr]
                     repeat' (first | with_reducible assumption | refine And.intro ?_ ?_ | intro _ | (rw [Ev.xStp_eq]; simp -dsimp -implicitDefEqProofs only [List.length_append, q1, q2, hr, hl2, FzW5u0, ↓Ev.P, Ev.Q, Ev.Z, simprocAttr]))
                     all_goals try omega
                     all_goals exact hk
           · have _t := trivial
             have q1 : (o - 1 < 0) = False := eq_false (by omega)
             have q2 : (o - 1 = 0) = False := eq_false (by omega)
             simp -dsimp -implicitDefEqProofs only [List.length_append, S168, R168, hx, hcn, w32, hix, FzW5u0, ↓Ev.P, Ev.Q, Ev.Z, simprocAttr]
             repeat' (first | with_reducible assumption | refine And.intro ?_ ?_ | intro _ | (rw [Ev.xStp_eq]; simp -dsimp -implicitDefEqProofs only [List.length_append, hx, hcn, w32, hix, FzW5u0, ↓Ev.P, Ev.Q, Ev.Z, simprocAttr]))
             all_goals try omega
             refine xLoop_intro (fun n2 st => (n2 = 2 ∧ st = ⟨[(0, .ptr 0 0), (1, .ptr 1 0), (4, .ptr 2 0), (6, .ptr 3 0), (8, .d (.v (.bool true))), (40, .agg [.d (.v (.bool true)), .d (.v (.bool false))]), (41, .d (.v (.int .i64 0)))], 4, [(0, .cells t [.d (.sl (strRows L)), .d (.v (.int .i64 ((k : Int) + 1)))]), (1, .cells t2 [.d (.v (.int .i64 o)), .d (.v (.int .i64 f))]), (2, .cells 103 [.d (.v (.int .u8 0)), .d (.v (.string ⟨#[]⟩))]), (3, .cells 103 [.d (.v (.int .u8 45)), .d (.v (.string ⟨r.toArray⟩))])]⟩) ∨ (n2 = 1 ∧ st = ⟨[(0, .ptr 0 0), (1, .ptr 1 0), (4, .ptr 2 0), (6, .ptr 3 0), (8, .d (.v (.bool false))), (40, .agg [.d (.v (.bool true)), .d (.v (.bool false))]), (41, .d (.v (.int .i64 1)))], 4, [(0, .cells t [.d (.sl (strRows L)), .d (.v (.int .i64 ((k : Int) + 1)))]), (1, .cells t2 [.d (.v (.int .i64 (o - 1))), .d (.v (.int .i64 f))]), (2, .cells 103 [.d (.v (.int .u8 0)), .d (.v (.string ⟨#[]⟩))]), (3, .cells 103 [.d (.v (.int .u8 45)), .d (.v (.string ⟨r.toArray⟩))])]⟩) ∨ (n2 = 0 ∧ st = ⟨[(0, .ptr 0 0), (1, .ptr 1 0), (4, .ptr 2 0), (6, .ptr 3 0), (8, .d (.v (.bool false))), (40, .agg [.d (.v (.bool true)), .d (.v (.bool false))]), (41, .d (.v (.int .i64 2)))], 4, [(0, .cells t [.d (.sl (strRows L)), .d (.v (.int .i64 ((k : Int) + 1)))]), (1, .cells t2 [.d (.v (.int .i64 (o - 1))), .d (.v (.int .i64 f))]), (2, .cells 103 [.d (.v (.int .u8 0)), .d (.v (.string ⟨#[]⟩))]), (3, .cells 103 [.d (.v (.int .u8 45)), .d (.v (.string ⟨r.toArray⟩))])]⟩)) 2 [0, 1, 2, 3] ?_ ?_ ?_
             · simp -dsimp -implicitDefEqProofs only [↓Ev.xStp_eq, ↓Ev.P, Ev.Q, Ev.Z, simprocAttr]
             · simp -dsimp -implicitDefEqProofs only [↓Ev.xStp_eq, ↓Ev.P, Ev.Q, Ev.Z, simprocAttr]
               all_goals first | exact .inl ⟨rfl, rfl⟩ | exact .inl rfl | exact ⟨rfl, rfl⟩ | rfl | trivial
             · rintro n2 st2 (⟨rfl, rfl⟩ | ⟨rfl, rfl⟩ | ⟨rfl, rfl⟩)
               · have _t := trivial
                 simp -dsimp -implicitDefEqProofs only [List.length_append, S168, R168, q1, q2, FzW5u0, ↓Ev.P, Ev.Q, Ev.Z, simprocAttr]
                 repeat' (first | with_reducible assumption | refine And.intro ?_ ?_ | intro _ | (rw [Ev.xStp_eq]; simp -dsimp -implicitDefEqProofs only [List.length_append, q1, q2, FzW5u0, ↓Ev.P, Ev.Q, Ev.Z, simprocAttr]))
                 all_goals try omega
                 all_goals refine xAgain_intro 1 [0, 1, 2, 3] (by omega) (by simp -dsimp -implicitDefEqProofs only [↓Ev.xStp_eq, ↓Ev.P, Ev.Q, Ev.Z, simprocAttr]) (.inr (.inl ⟨rfl, ?_⟩))
                 all_goals simp -dsimp -implicitDefEqProofs only [↓Ev.xStp_eq, ↓Ev.P, Ev.Q, Ev.Z, simprocAttr]
                 all_goals rfl
               · have _t := trivial
                 simp -dsimp -implicitDefEqProofs only [List.length_append, S168, R168, q1, q2, FzW5u0, ↓Ev.P, Ev.Q, Ev.Z, simprocAttr]
                 repeat' (first | with_reducible assumption | refine And.intro ?_ ?_ | intro _ | (rw [Ev.xStp_eq]; simp -dsimp -implicitDefEqProofs only [List.length_append, q1, q2, FzW5u0, ↓Ev.P, Ev.Q, Ev.Z, simprocAttr]))
                 all_goals try omega
                 all_goals refine xAgain_intro 0 [0, 1, 2, 3] (by omega) (by simp -dsimp -implicitDefEqProofs only [↓Ev.xStp_eq, ↓Ev.P, Ev.Q, Ev.Z, simprocAttr]) (.inr (.inr ⟨rfl, ?_⟩))
                 all_goals simp -dsimp -implicitDefEqProofs only [↓Ev.xStp_eq, ↓Ev.P, Ev.Q, Ev.Z, simprocAttr]
                 all_goals rfl
               · have _t := trivial
                 rw [if_neg (fun h => by have := h.1.1; omega)] at hk; dsimp only [lnK] at hk; simp only [ec] at hk
                 simp -dsimp -implicitDefEqProofs only [List.length_append, S168, R168, q1, q2, FzW5u0, ↓Ev.P, Ev.Q, Ev.Z, simprocAttr]
                 repeat' (first | with_reducible assumption | refine And.intro ?_ ?_ | intro _ | (rw [Ev.xStp_eq]; simp -dsimp -implicitDefEqProofs only [List.length_append, q1, q2, FzW5u0, ↓Ev.P, Ev.Q, Ev.Z, simprocAttr]))
                 all_goals try omega
                 all_goals exact hk
       · rw [if_neg hc] at hk
         have hc45 := hc; clear hc
         by_cases hc : c = 43
         · rw [if_pos hc] at hk
           have hcn : ((c.toNat : Nat) : Int) = 43 := by rw [hc]; rfl
           have hix : idxM 43 = 2 := rfl
           rw [hcn] at w32
           by_cases oz : f < 1
           · rw [if_pos oz] at hk
             have q3 : (f - 1 < 0) = True := eq_true (by omega)
             dsimp only [lnK] at hk; unfold fltV at hk; simp only [ec] at hk
             simp -dsimp -implicitDefEqProofs only [List.length_append, S168, R168, hx, hcn, w32, hix, FzW5u0, ↓Ev.P, Ev.Q, Ev.Z, simprocAttr]
             repeat' (first | with_reducible assumption | refine And.intro ?_ ?_ | intro _ | (rw [Ev.xStp_eq]; simp -dsimp -implicitDefEqProofs only [List.length_append, hx, hcn, w32, hix, FzW5u0, ↓Ev.P, Ev.Q, Ev.Z, simprocAttr]))
             all_goals try omega
             refine xLoop_intro (fun n2 st => (n2 = 2 ∧ st = ⟨[(0, .ptr 0 0), (1, .ptr 1 0), (4, .ptr 2 0), (6, .ptr 3 0), (8, .d (.v (.bool true))), (40, .agg [.d (.v (.bool false)), .d (.v (.bool true))]), (41, .d (.v (.int .i64 0)))], 4, [(0, .cells t [.d (.sl (strRows L)), .d (.v (.int .i64 ((k : Int) + 1)))]), (1, .cells t2 [.d (.v (.int .i64 o)), .d (.v (.int .i64 f))]), (2, .cells 103 [.d (.v (.int .u8 0)), .d (.v (.string ⟨#[]⟩))]), (3, .cells 103 [.d (.v (.int .u8 43)), .d (.v (.string ⟨r.toArray⟩))])]⟩) ∨ (n2 = 1 ∧ st = ⟨[(0, .ptr 0 0), (1, .ptr 1 0), (4, .ptr 2 0), (6, .ptr 3 0), (8, .d (.v (.bool true))), (40, .agg [.d (.v (.bool false)), .d (.v (.bool true))]), (41, .d (.v (.int .i64 1)))], 4, [(0, .cells t [.d (.sl (strRows L)), .d (.v (.int .i64 ((k : Int) + 1)))]), (1, .cells t2 [.d (.v (.int .i64 o)), .d (.v (.int .i64 f))]), (2, .cells 103 [.d (.v (.int .u8 0)), .d (.v (.string ⟨#[]⟩))]), (3, .cells 103 [.d (.v (.int .u8 43)), .d (.v (.string ⟨r.toArray⟩))])]⟩)) 2 [0, 1, 2, 3] ?_ ?_ ?_
             · simp -dsimp -implicitDefEqProofs only [↓Ev.xStp_eq, ↓Ev.P, Ev.Q, Ev.Z, simprocAttr]
             · simp -dsimp -implicitDefEqProofs only [↓Ev.xStp_eq, ↓Ev.P, Ev.Q, Ev.Z, simprocAttr]
               all_goals first | exact .inl ⟨rfl, rfl⟩ | exact .inl rfl | exact ⟨rfl, rfl⟩ | rfl | trivial
             · rintro n2 st2 (⟨rfl, rfl⟩ | ⟨rfl, rfl⟩)
               · have _t := trivial
                 simp -dsimp -implicitDefEqProofs only [List.length_append, S168, R168, q3, FzW5u0, ↓Ev.P, Ev.Q, Ev.Z, simprocAttr]
                 repeat' (first | with_reducible assumption | refine And.intro ?_ ?_ | intro _ | (rw [Ev.xStp_eq]; simp -dsimp -implicitDefEqProofs only [List.length_append, q3, FzW5u0, ↓Ev.P, Ev.Q, Ev.Z, simprocAttr]))
                 all_goals try omega
                 all_goals refine xAgain_intro 1 [0, 1, 2, 3] (by omega) (by simp -dsimp -implicitDefEqProofs only [↓Ev.xStp_eq, ↓Ev.P, Ev.Q, Ev.Z, simprocAttr]) (.inr ⟨rfl, ?_⟩)
                 all_goals simp -dsimp -implicitDefEqProofs only [↓Ev.xStp_eq, ↓Ev.P, Ev.Q, Ev.Z, simprocAttr]
                 all_goals rfl
               · have _t := trivial
                 simp -dsimp -implicitDefEqProofs only [List.length_append, S168, R168, q3, FzW5u0, ↓Ev.P, Ev.Q, Ev.Z, simprocAttr]
                 repeat' (first | with_reducible assumption | refine And.intro ?_ ?_ | intro _ | (rw [Ev.xStp_eq]; simp -dsimp -implicitDefEqProofs only [List.length_append, q3, FzW5u0, ↓Ev.P, Ev.Q, Ev.Z, simprocAttr]))
                 all_goals try omega
                 all_goals exact hk _ _ _
           · rw [if_neg oz] at hk
             by_cases oe : f = 1
             · have _t := trivial
               have q3 : (f - 1 < 0) = False := eq_false (by omega)
               have q4 : (f - 1 = 0) = True := eq_true (by omega)
               simp -dsimp -implicitDefEqProofs only [List.length_append, S168, R168, hx, hcn, w32, hix, FzW5u0, ↓Ev.P, Ev.Q, Ev.Z, simprocAttr]
               repeat' (first | with_reducible assumption | refine And.intro ?_ ?_ | intro _ | (rw [Ev.xStp_eq]; simp -dsimp -implicitDefEqProofs only [List.length_append, hx, hcn, w32, hix, FzW5u0, ↓Ev.P, Ev.Q, Ev.Z, simprocAttr]))
               all_goals try omega
               refine xLoop_intro (fun n2 st => (n2 = 2 ∧ st = ⟨[(0, .ptr 0 0), (1, .ptr 1 0), (4, .ptr 2 0), (6, .ptr 3 0), (8, .d (.v (.bool true))), (40, .agg [.d (.v (.bool false)), .d (.v (.bool true))]), (41, .d (.v (.int .i64 0)))], 4, [(0, .cells t [.d (.sl (strRows L)), .d (.v (.int .i64 ((k : Int) + 1)))]), (1, .cells t2 [.d (.v (.int .i64 o)), .d (.v (.int .i64 f))]), (2, .cells 103 [.d (.v (.int .u8 0)), .d (.v (.string ⟨#[]⟩))]), (3, .cells 103 [.d (.v (.int .u8 43)), .d (.v (.string ⟨r.toArray⟩))])]⟩) ∨ (n2 = 1 ∧ st = ⟨[(0, .ptr 0 0), (1, .ptr 1 0), (4, .ptr 2 0), (6, .ptr 3 0), (8, .d (.v (.bool true))), (40, .agg [.d (.v (.bool false)), .d (.v (.bool true))]), (41, .d (.v (.int .i64 1)))], 4, [(0, .cells t [.d (.sl (strRows L)), .d (.v (.int .i64 ((k : Int) + 1)))]), (1, .cells t2 [.d (.v (.int .i64 o)), .d (.v (.int .i64 f))]), (2, .cells 103 [.d (.v (.int .u8 0)), .d (.v (.string ⟨#[]⟩))]), (3, .cells 103 [.d (.v (.int .u8 43)), .d (.v (.string ⟨r.toArray⟩))])]⟩) ∨ (n2 = 0 ∧ st = ⟨[(0, .ptr 0 0), (1, .ptr 1 0), (4, .ptr 2 0), (6, .ptr 3 0), (8, .d (.v (.bool true))), (40, .agg [.d (.v (.bool false)), .d (.v (.bool true))]), (41, .d (.v (.int .i64 2)))], 4, [(0, .cells t [.d (.sl (strRows L)), .d (.v (.int .i64 ((k : Int) + 1)))]), (1, .cells t2 [.d (.v (.int .i64 o)), .d (.v (.int .i64 (f - 1)))]), (2, .cells 103 [.d (.v (.int .u8 0)), .d (.v (.string ⟨#[]⟩))]), (3, .cells 103 [.d (.v (.int .u8 43)), .d (.v (.string ⟨r.toArray⟩))])]⟩)) 2 [0, 1, 2, 3] ?_ ?_ ?_
               · simp -dsimp -implicitDefEqProofs only [↓Ev.xStp_eq, ↓Ev.P, Ev.Q, Ev.Z, simprocAttr]
               · simp -dsimp -implicitDefEqProofs only [↓Ev.xStp_eq, ↓Ev.P, Ev.Q, Ev.Z, simprocAttr]
                 all_goals first | exact .inl ⟨rfl, rfl⟩ | exact .inl rfl | exact ⟨rfl, rfl⟩ | rfl | trivial
               · rintro n2 st2 (⟨rfl, rfl⟩ | ⟨rfl, rfl⟩ | ⟨rfl, rfl⟩)
                 · have _t := trivial
                   simp -dsimp -implicitDefEqProofs only [List.length_append, S168, R168, q3, q4, FzW5u0, ↓Ev.P, Ev.Q, Ev.Z, simprocAttr]
                   repeat' (first | with_reducible assumption | refine And.intro ?_ ?_ | intro _ | (rw [Ev.xStp_eq]; simp -dsimp -implicitDefEqProofs only [List.length_append, q3, q4, FzW5u0, ↓Ev.P, Ev.Q, Ev.Z, simprocAttr]))
                   all_goals try omega
                   all_goals refine xAgain_intro 1 [0, 1, 2, 3] (by omega) (by simp -dsimp -implicitDefEqProofs only [↓Ev.xStp_eq, ↓Ev.P, Ev.Q, Ev.Z, simprocAttr]) (.inr (.inl ⟨rfl, ?_⟩))
                   all_goals simp -dsimp -implicitDefEqProofs only [↓Ev.xStp_eq, ↓Ev.P, Ev.Q, Ev.Z, simprocAttr]
                   all_goals rfl
                 · have _t := trivial
                   simp -dsimp -implicitDefEqProofs only [List.length_append, S168, R168, q3, q4, FzW5u0, ↓Ev.P, Ev.Q, Ev.Z, simprocAttr]
                   repeat' (first | with_reducible assumption | refine And.intro ?_ ?_ | intro _ | (rw [Ev.xStp_eq]; simp -dsimp -implicitDefEqProofs only [List.length_append, q3, q4, FzW5u0, ↓Ev.P, Ev.Q, Ev.Z, simprocAttr]))
                   all_goals try omega
                   all_goals refine xAgain_intro 0 [0, 1, 2, 3] (by omega) (by simp -dsimp -implicitDefEqProofs only [↓Ev.xStp_eq, ↓Ev.P, Ev.Q, Ev.Z, simprocAttr]) (.inr (.inr ⟨rfl, ?_⟩))
                   all_goals simp -dsimp -implicitDefEqProofs only [↓Ev.xStp_eq, ↓Ev.P, Ev.Q, Ev.Z, simprocAttr]
                   all_goals rfl
                 · have _t := trivial
                   by_cases hr : r = []
                   · rw [if_neg (fun h => h.1.2 hr)] at hk; dsimp only [lnK] at hk; simp only [ec] at hk
                     simp -dsimp -implicitDefEqProofs only [List.length_append, S168, R168, q3, q4, hr, FzW5u0, ↓Ev.P, Ev.Q, Ev.Z, simprocAttr]
                     repeat' (first | with_reducible assumption | refine And.intro ?_ ?_ | intro _ | (rw [Ev.xStp_eq]; simp -dsimp -implicitDefEqProofs only [List.length_append, q3, q4, hr, FzW5u0, ↓Ev.P, Ev.Q, Ev.Z, simprocAttr]))
                     all_goals try omega
                     all_goals first | exact hk | (simp only [hr] at hk ⊢; exact hk)
                   · by_cases hb2 : k + 1 < L.length
                     · have hl2 : (((k : Int) + 1) < (L.length : Int)) = True := eq_true (by omega)
                       have hg := strRows_get hb2
                       have hg2 : (strRows L).getD (k + 1) [] = [.v (.string ⟨(L.getD (k + 1) []).toArray⟩)] := by rw [List.getD_eq_getElem?_getD, hg]; rfl
                       have e1 : ((k : Int) + 1).toNat = k + 1 := by omega
                       by_cases hm : L.getD (k + 1) [] = markS
                       · have hl3 : (L.getD (k + 1) [] = [92, 32, 78, 111, 32, 110, 101, 119, 108, 105, 110, 101, 32, 97, 116, 32, 101, 110, 100, 32, 111, 102, 32, 102, 105, 108, 101, 10]) = True := eq_true hm
                         rw [if_pos ⟨⟨by omega, hr⟩, hb2, hm⟩] at hk; dsimp only [lnK] at hk; simp only [ec2] at hk
                         simp -dsimp -implicitDefEqProofs only [List.length_append, S168, R168, q3, q4, hr, hl2, hl3, hg, hg2, e1, FzW5u0, ↓Ev.P, Ev.Q, Ev.Z, simprocAttr]
                         repeat' (first | with_reducible assumption | refine And.intro ?_ ?_ | intro _ | (rw [Ev.xStp_eq]; simp -dsimp -implicitDefEqProofs only [List.length_append, q3, q4, hr, hl2, hl3, hg, hg2, e1, FzW5u0, ↓Ev.P, Ev.Q, Ev.Z, simprocAttr]))
                         all_goals try omega
                         all_goals exact hk
                       · have hl3 : (L.getD (k + 1) [] = [92, 32, 78, 111, 32, 110, 101, 119, 108, 105, 110, 101, 32, 97, 116, 32, 101, 110, 100, 32, 111, 102, 32, 102, 105, 108, 101, 10]) = False := eq_false hm
                         rw [if_neg (fun h => hm h.2.2)] at hk; dsimp only [lnK] at hk; simp only [ec] at hk
                         simp -dsimp -implicitDefEqProofs only [List.length_append, S168, R168, q3, q4, hr, hl2, hl3, hg, hg2, e1, FzW5u0, ↓Ev.P, Ev.Q, Ev.Z, simprocAttr]
                         repeat' (first | with_reducible assumption | refine And.intro ?_ ?_ | intro _ | (rw [Ev.xStp_eq]; simp -dsimp -implicitDefEqProofs only [List.length_append, q3, q4, hr, hl2, hl3, hg, hg2, e1, FzW5u0, ↓Ev.P, Ev.Q, Ev.Z, simprocAttr]))
                         all_goals try omega
                         all_goals exact hk
                     · have hl2 : (((k : Int) + 1) < (L.length : Int)) = False := eq_false (by omega)
                       rw [if_neg (fun h => hb2 h.2.1)] at hk; dsimp only [lnK] at hk; simp only [ec] at hk
                       simp -dsimp -implicitDefEqProofs only [List.length_append, S168, R168, q3, q4, hr, hl2, FzW5u0, ↓Ev.P, Ev.Q, Ev.Z, simprocAttr]
                       repeat' (first | with_reducible assumption | refine And.intro ?_ ?_ | intro _ | (rw [Ev.xStp_eq]; simp -dsimp -implicitDefEqProofs only [List.length_append, q3, q4, hr, hl2, FzW5u0, ↓Ev.P, Ev.Q, Ev.Z, simprocAttr]))
                       all_goals try omega
                       all_goals exact hk
             · have _t := trivial
               have q3 : (f - 1 < 0) = False := eq_false (by omega)
               have q4 : (f - 1 = 0) = False := eq_false (by omega)
               simp -dsimp -implicitDefEqProofs only [List.length_append, S168, R168, hx, hcn, w32, hix, FzW5u0, ↓Ev.P, Ev.Q, Ev.Z, simprocAttr]
               repeat' (first | with_reducible assumption | refine And.intro ?_ ?_ | intro _ | (rw [Ev.xStp_eq]; simp -dsimp -implicitDefEqProofs only [List.length_append, hx, hcn, w32, hix, FzW5u0, ↓Ev.P, Ev.Q, Ev.Z, simprocAttr]))
               all_goals try omega
               refine xLoop_intro (fun n2 st => (n2 = 2 ∧ st = ⟨[(0, .ptr 0 0), (1, .ptr 1 0), (4, .ptr 2 0), (6, .ptr 3 0), (8, .d (.v (.bool true))), (40, .agg [.d (.v (.bool false)), .d (.v (.bool true))]), (41, .d (.v (.int .i64 0)))], 4, [(0, .cells t [.d (.sl (strRows L)), .d (.v (.int .i64 ((k : Int) + 1)))]), (1, .cells t2 [.d (.v (.int .i64 o)), .d (.v (.int .i64 f))]), (2, .cells 103 [.d (.v (.int .u8 0)), .d (.v (.string ⟨#[]⟩))]), (3, .cells 103 [.d (.v (.int .u8 43)), .d (.v (.string ⟨r.toArray⟩))])]⟩) ∨ (n2 = 1 ∧ st = ⟨[(0, .ptr 0 0), (1, .ptr 1 0), (4, .ptr 2 0), (6, .ptr 3 0), (8, .d (.v (.bool true))), (40, .agg [.d (.v (.bool false)), .d (.v (.bool true))]), (41, .d (.v (.int .i64 1)))], 4, [(0, .cells t [.d (.sl (strRows L)), .d (.v (.int .i64 ((k : Int) + 1)))]), (1, .cells t2 [.d (.v (.int .i64 o)), .d (.v (.int .i64 f))]), (2, .cells 103 [.d (.v (.int .u8 0)), .d (.v (.string ⟨#[]⟩))]), (3, .cells 103 [.d (.v (.int .u8 43)), .d (.v (.string ⟨r.toArray⟩))])]⟩) ∨ (n2 = 0 ∧ st = ⟨[(0, .ptr 0 0), (1, .ptr 1 0), (4, .ptr 2 0), (6, .ptr 3 0), (8, .d (.v (.bool false))), (40, .agg [.d (.v (.bool false)), .d (.v (.bool true))]), (41, .d (.v (.int .i64 2)))], 4, [(0, .cells t [.d (.sl (strRows L)), .d (.v (.int .i64 ((k : Int) + 1)))]), (1, .cells t2 [.d (.v (.int .i64 o)), .d (.v (.int .i64 (f - 1)))]), (2, .cells 103 [.d (.v (.int .u8 0)), .d (.v (.string ⟨#[]⟩))]), (3, .cells 103 [.d (.v (.int .u8 43)), .d (.v (.string ⟨r.toArray⟩))])]⟩)) 2 [0, 1, 2, 3] ?_ ?_ ?_
               · simp -dsimp -implicitDefEqProofs only [↓Ev.xStp_eq, ↓Ev.P, Ev.Q, Ev.Z, simprocAttr]
               · simp -dsimp -implicitDefEqProofs only [↓Ev.xStp_eq, ↓Ev.P, Ev.Q, Ev.Z, simprocAttr]
                 all_goals first | exact .inl ⟨rfl, rfl⟩ | exact .inl rfl | exact ⟨rfl, rfl⟩ | rfl | trivial
               · rintro n2 st2 (⟨rfl, rfl⟩ | ⟨rfl, rfl⟩ | ⟨rfl, rfl⟩)
                 · have _t := trivial
                   simp -dsimp -implicitDefEqProofs only [List.length_append, S168, R168, q3, q4, FzW5u0, ↓Ev.P, Ev.Q, Ev.Z, simprocAttr]
                   repeat' (first | with_reducible assumption | refine And.intro ?_ ?_ | intro _ | (rw [Ev.xStp_eq]; simp -dsimp -implicitDefEqProofs only [List.length_append, q3, q4, FzW5u0, ↓Ev.P, Ev.Q, Ev.Z, simprocAttr]))
                   all_goals try omega
                   all_goals refine xAgain_intro 1 [0, 1, 2, 3] (by omega) (by simp -dsimp -implicitDefEqProofs only [↓Ev.xStp_eq, ↓Ev.P, Ev.Q, Ev.Z, simprocAttr]) (.inr (.inl ⟨rfl, ?_⟩))
                   all_goals simp -dsimp -implicitDefEqProofs only [↓Ev.xStp_eq, ↓Ev.P, Ev.Q, Ev.Z, simprocAttr]
                   all_goals rfl
                 · have _t := trivial
                   simp -dsimp -implicitDefEqProofs only [List.length_append, S168, R168, q3, q4, FzW5u0, ↓Ev.P, Ev.Q, Ev.Z, simprocAttr]
                   repeat' (first | with_reducible assumption | refine And.intro ?_ ?_ | intro _ | (rw [Ev.xStp_eq]; simp -dsimp -implicitDefEqProofs only [List.length_append, q3, q4, FzW5u0, ↓Ev.P, Ev.Q, Ev.Z, simprocAttr]))
                   all_goals try omega
                   all_goals refine xAgain_intro 0 [0, 1, 2, 3] (by omega) (by simp -dsimp -implicitDefEqProofs only [↓Ev.xStp_eq, ↓Ev.P, Ev.Q, Ev.Z, simprocAttr]) (.inr (.inr ⟨rfl, ?_⟩))
                   all_goals simp -dsimp -implicitDefEqProofs only [↓Ev.xStp_eq, ↓Ev.P, Ev.Q, Ev.Z, simprocAttr]
                   all_goals rfl
                 · have _t := trivial
                   rw [if_neg (fun h => by have := h.1.1; omega)] at hk; dsimp only [lnK] at hk; simp only [ec] at hk
                   simp -dsimp -implicitDefEqProofs only [List.length_append, S168, R168, q3, q4, FzW5u0, ↓Ev.P, Ev.Q, Ev.Z, simprocAttr]
                   repeat' (first | with_reducible assumption | refine And.intro ?_ ?_ | intro _ | (rw [Ev.xStp_eq]; simp -dsimp -implicitDefEqProofs only [List.length_append, q3, q4, FzW5u0, ↓Ev.P, Ev.Q, Ev.Z, simprocAttr]))
                   all_goals try omega
                   all_goals exact hk
         · rw [if_neg hc] at hk
           have hix := idxM_no hc32 hc45 hc
           have hcl := c.toNat_lt
           dsimp only [lnK] at hk; unfold fltV at hk; simp only [ec] at hk
           simp -dsimp -implicitDefEqProofs only [List.length_append, S168, R168, hx, w32, hix, FzW5u0, ↓Ev.P, Ev.Q, Ev.Z, simprocAttr]
           repeat' (first | with_reducible assumption | refine And.intro ?_ ?_ | intro _ | (rw [Ev.xStp_eq]; simp -dsimp -implicitDefEqProofs only [List.length_append, hx, w32, hix, FzW5u0, ↓Ev.P, Ev.Q, Ev.Z, simprocAttr]))
           all_goals try omega
           all_goals exact hk _ _ _
theorem lnK_ok {t t2 : TypeId} {rows : List (List D)} {K : Out → Store → Prop} {m : Mk} {o f : Int} {a : Nat} : lnK t t2 rows K (.ok ((m, o, f), a)) = K (.ret (.agg [.d (.v (.int .u8 m.1)), .d (.v (.string ⟨m.2.toArray⟩))])) ⟨2, [(0, .cells t [.d (.sl rows), .d (.v (.int .i64 (a : Nat)))]), (1, .cells t2 [.d (.v (.int .i64 o)), .d (.v (.int .i64 f))])]⟩ := rfl
theorem lnK_err {t t2 : TypeId} {rows : List (List D)} {K : Out → Store → Prop} {a e : Int} : lnK t t2 rows K (.error (a, e)) = ∀ i o f : Int, K (.pan (.d (fltV a e))) ⟨2, [(0, .cells t [.d (.sl rows), .d (.v (.int .i64 i))]), (1, .cells t2 [.d (.v (.int .i64 o)), .d (.v (.int .i64 f))])]⟩ := rfl
def CHunkU : Contract := uhC fun L at_ rest => match rest with
 | [.d (.v (.int .i64 ahead))] => some (((0 ≤ at_ ∧ at_ ≤ L.length) ∧ smL L ∧ ∀ x ∈ L, x.length ≤ 1048576), (hkU L ahead at_.toNat).map hkA)
 | _ => none
theorem any_snocM (ms : List Mk) (m : Mk) : (ms ++ [m]).any chgM = (ms.any chgM || chgM m) := by simp
theorem FzW6u0 : type_of% (And.intro @impF (And.intro @CNextU.eq_1 (And.intro @CStopU.eq_1 (And.intro @CHead.eq_1 (And.intro @CLnP_wp (And.intro @lnK_ok (And.intro @lnK_err (And.intro @hkA.eq_1 (And.intro @fltV.eq_1 (And.intro @Ev.panK.eq_1 (And.intro @uhC_wp (And.intro @uhK_ok (And.intro @uhK_error (And.intro @map_ok (And.intro @map_error (And.intro @strA.eq_1 (And.intro @unStr_rows (And.intro @strRows_len (And.intro @mkRows_len (@mkRows_all)))))))))))))))))))) := And.intro @impF (And.intro @CNextU.eq_1 (And.intro @CStopU.eq_1 (And.intro @CHead.eq_1 (And.intro @CLnP_wp (And.intro @lnK_ok (And.intro @lnK_err (And.intro @hkA.eq_1 (And.intro @fltV.eq_1 (And.intro @Ev.panK.eq_1 (And.intro @uhC_wp (And.intro @uhK_ok (And.intro @uhK_error (And.intro @map_ok (And.intro @map_error (And.intro @strA.eq_1 (And.intro @unStr_rows (And.intro @strRows_len (And.intro @mkRows_len (@mkRows_all)))))))))))))))))))
set_option maxHeartbeats 64000000 in
theorem s122 (hE : ∀ w, G w → ErrR w) (hM : ∀ w, G w → MaxL w) : Sound G Tryz.prog 122 CHunkU := by
 refine sd122 (T := tabT [(164, CNextU), (167, CHead), (120, CStopU), (168, CLnP)]) (tab_cons s164 (tab_cons (s167 hE hM) (tab_cons s120 (tab_cons s168 tab_nil)))) (uhC_lawful _) (uh_hX fun t L at_ rest pp z K h hp hk => ?_)
 split at h <;> simp only [Option.some.injEq, Prod.mk.injEq, reduceCtorEq] at h
 obtain ⟨rfl, rfl⟩ := h
 rename_i ahead
 obtain ⟨⟨h1, h3⟩, ⟨hLl, hL⟩, hL1⟩ := hp
 have hsm : smL L := ⟨hLl, hL⟩
 obtain ⟨k0, rfl⟩ := Int.eq_ofNat_of_zero_le h1
 rw [Int.toNat_natCast] at hk
 refine ⟨Nat.le_of_ble_eq_true rfl, ?_⟩
 unfold hkU at hk
 cases hx : nextL L k0 with
 | error xe =>
   obtain ⟨xa, xe⟩ := xe
   rw [hx] at hk; dsimp only at hk; rw [map_error, uhK_error] at hk; unfold fltV at hk
   simp -dsimp -implicitDefEqProofs only [List.length_append, S122, S122_0, S122r1, S122_1, S122r2, S122_2, S122r3, S122_3, S122r4, S122_4, S122r5, S122_5, S122r6, S122_6, S122r7, S122_7, S122r8, R122, hx, FzW6u0, ↓Ev.P, Ev.Q, Ev.Z, simprocAttr]
   repeat' (first | with_reducible assumption | refine And.intro ?_ ?_ | intro _ | (rw [Ev.xStp_eq]; simp -dsimp -implicitDefEqProofs only [List.length_append, S122, S122_0, S122r1, S122_1, S122r2, S122_2, S122r3, S122_3, S122r4, S122_4, S122r5, S122_5, S122r6, S122_6, S122r7, S122_7, S122r8, R122, hx, FzW6u0, ↓Ev.P, Ev.Q, Ev.Z, simprocAttr]))
   all_goals try omega
   all_goals first | exact hk | exact hk _
 | ok x =>
   obtain ⟨s, a⟩ := x
   obtain ⟨rfl, hlt, hs⟩ := nextL_le hx
   have hsz := hL1 _ (getD_in hlt)
   have hsl : s.length ≤ 1048576 := by rw [hs]; exact Nat.le_trans (bare_len _) hsz
   rw [hx] at hk; dsimp only at hk
   clear hs hsz
   have ec : ((k0 + 1 : Nat) : Int) = (k0 : Int) + 1 := by omega
   cases hcm : hdU s with
   | none =>
     have hcA : hdA s = .tup [.agg [.d (.v (.int .i64 (hdQ s).1)), .d (.v (.int .i64 (hdQ s).2.1)), .d (.v (.int .i64 (hdQ s).2.2.1)), .d (.v (.int .i64 (hdQ s).2.2.2)), .own 0], .d (.v (.bool false))] := by rw [hdA, hcm]; rfl
     rw [hcm] at hk; dsimp only at hk; rw [map_error, uhK_error] at hk; unfold fltV at hk; simp only [ec] at hk
     simp -dsimp -implicitDefEqProofs only [List.length_append, S122, S122_0, S122r1, S122_1, S122r2, S122_2, S122r3, S122_3, S122r4, S122_4, S122r5, S122_5, S122r6, S122_6, S122r7, S122_7, S122r8, R122, hx, hcA, FzW6u0, ↓Ev.P, Ev.Q, Ev.Z, simprocAttr]
     repeat' (first | with_reducible assumption | refine And.intro ?_ ?_ | intro _ | (rw [Ev.xStp_eq]; simp -dsimp -implicitDefEqProofs only [List.length_append, S122, S122_0, S122r1, S122_1, S122r2, S122_2, S122r3, S122_3, S122r4, S122_4, S122r5, S122_5, S122r6, S122_6, S122r7, S122_7, S122r8, R122, hx, hcA, FzW6u0, ↓Ev.P, Ev.Q, Ev.Z, simprocAttr]))
     all_goals try omega
     all_goals first | exact hk | exact hk _
   | some c =>
     have hcA : hdA s = .tup [.agg [.d (.v (.int .i64 c.1)), .d (.v (.int .i64 c.2.1)), .d (.v (.int .i64 c.2.2.1)), .d (.v (.int .i64 c.2.2.2)), .own 0], .d (.v (.bool true))] := by rw [hdA, hdQ_eq hcm, hcm]; rfl
     obtain ⟨d1, d2, d3, d4⟩ := hdU_bd hcm
     rw [hcm] at hk; dsimp only at hk
     clear hcm
     obtain ⟨A, AN, B, BN⟩ := c
     dsimp only at hcA d1 d2 d3 d4 hk
     by_cases ha : 4096 ≤ ahead
     · rw [if_pos ha] at hk; rw [map_error, uhK_error] at hk; unfold fltV at hk; simp only [ec] at hk
       simp -dsimp -implicitDefEqProofs only [List.length_append, S122, S122_0, S122r1, S122_1, S122r2, S122_2, S122r3, S122_3, S122r4, S122_4, S122r5, S122_5, S122r6, S122_6, S122r7, S122_7, S122r8, R122, hx, hcA, ha, FzW6u0, ↓Ev.P, Ev.Q, Ev.Z, simprocAttr]
       repeat' (first | with_reducible assumption | refine And.intro ?_ ?_ | intro _ | (rw [Ev.xStp_eq]; simp -dsimp -implicitDefEqProofs only [List.length_append, S122, S122_0, S122r1, S122_1, S122r2, S122_2, S122r3, S122_3, S122r4, S122_4, S122r5, S122_5, S122r6, S122_6, S122r7, S122_7, S122r8, R122, hx, hcA, ha, FzW6u0, ↓Ev.P, Ev.Q, Ev.Z, simprocAttr]))
       all_goals try omega
       all_goals first | exact hk | exact hk _
     · rw [if_neg ha] at hk
       by_cases r1 : A < 1 ∧ 0 < AN
       · have q1 : (A < min 1 AN) = True := eq_true (by omega)
         rw [if_pos (.inl r1)] at hk; rw [map_error, uhK_error] at hk; unfold fltV at hk; simp only [ec] at hk
         simp -dsimp -implicitDefEqProofs only [List.length_append, S122, S122_0, S122r1, S122_1, S122r2, S122_2, S122r3, S122_3, S122r4, S122_4, S122r5, S122_5, S122r6, S122_6, S122r7, S122_7, S122r8, R122, hx, hcA, ha, q1, FzW6u0, ↓Ev.P, Ev.Q, Ev.Z, simprocAttr]
         repeat' (first | with_reducible assumption | refine And.intro ?_ ?_ | intro _ | (rw [Ev.xStp_eq]; simp -dsimp -implicitDefEqProofs only [List.length_append, S122, S122_0, S122r1, S122_1, S122r2, S122_2, S122r3, S122_3, S122r4, S122_4, S122r5, S122_5, S122r6, S122_6, S122r7, S122_7, S122r8, R122, hx, hcA, ha, q1, FzW6u0, ↓Ev.P, Ev.Q, Ev.Z, simprocAttr]))
         all_goals try omega
         all_goals first | exact hk | exact hk _
       · have q1 : (A < min 1 AN) = False := eq_false (by omega)
         by_cases r2 : B < 1 ∧ 0 < BN
         · have q2 : (B < min 1 BN) = True := eq_true (by omega)
           rw [if_pos (.inr r2)] at hk; rw [map_error, uhK_error] at hk; unfold fltV at hk; simp only [ec] at hk
           simp -dsimp -implicitDefEqProofs only [List.length_append, S122, S122_0, S122r1, S122_1, S122r2, S122_2, S122r3, S122_3, S122r4, S122_4, S122r5, S122_5, S122r6, S122_6, S122r7, S122_7, S122r8, R122, hx, hcA, ha, q1, q2, FzW6u0, ↓Ev.P, Ev.Q, Ev.Z, simprocAttr]
           repeat' (first | with_reducible assumption | refine And.intro ?_ ?_ | intro _ | (rw [Ev.xStp_eq]; simp -dsimp -implicitDefEqProofs only [List.length_append, S122, S122_0, S122r1, S122_1, S122r2, S122_2, S122r3, S122_3, S122r4, S122_4, S122r5, S122_5, S122r6, S122_6, S122r7, S122_7, S122r8, R122, hx, hcA, ha, q1, q2, FzW6u0, ↓Ev.P, Ev.Q, Ev.Z, simprocAttr]))
           all_goals try omega
           all_goals first | exact hk | exact hk _
         · have q2 : (B < min 1 BN) = False := eq_false (by omega)
           rw [if_neg (fun h => h.elim r1 r2)] at hk
           generalize hY : lnsU L (AN + BN).toNat AN BN (k0 + 1) [] = Y at hk
           simp -dsimp -implicitDefEqProofs only [List.length_append, S122, S122_0, S122r1, S122_1, S122r2, S122_2, S122r3, S122_3, S122r4, S122_4, S122r5, S122_5, S122r6, S122_6, S122r7, S122_7, S122r8, R122, hx, hcA, ha, q1, q2, FzW6u0, ↓Ev.P, Ev.Q, Ev.Z, simprocAttr]
           repeat' (first | with_reducible assumption | refine And.intro ?_ ?_ | intro _ | (rw [Ev.xStp_eq]; simp -dsimp -implicitDefEqProofs only [List.length_append, S122, S122_0, S122r1, S122_1, S122r2, S122_2, S122r3, S122_3, S122r4, S122_4, S122r5, S122_5, S122r6, S122_6, S122r7, S122_7, S122r8, R122, hx, hcA, ha, q1, q2, FzW6u0, ↓Ev.P, Ev.Q, Ev.Z, simprocAttr]))
           all_goals try omega
           refine xLoop_intro (fun n2 st => ∃ (o f : Int) (at_ : Nat) (ms : List Mk) (b : Bool), ((0 ≤ o ∧ o ≤ 2147483647) ∧ 0 ≤ f ∧ f ≤ 2147483647) ∧ o + f ≤ n2 ∧ at_ ≤ L.length ∧ ms.length ≤ at_ ∧ b = ms.any chgM ∧ lnsU L n2 o f at_ ms = Y ∧ st = ⟨[(0, .ptr 0 0), (4, .ptr 1 0), (5, .ptr 2 0), (7, .d (.v (.int .i64 ((k0 : Int) + 1)))), (8, .d (.v (.bool b))), (9, .ptr 4 0)], 5, [(0, .cells t [.d (.sl (strRows L)), .d (.v (.int .i64 (at_ : Nat)))]), (1, .cells 47 [.d (.v (.int .i64 0)), .d (.v (.int .i64 0)), .d (.v (.int .i64 0)), .d (.v (.int .i64 0)), .d (.v (.slice none 0 0))]), (2, .cells 47 [.d (.v (.int .i64 A)), .d (.v (.int .i64 AN)), .d (.v (.int .i64 B)), .d (.v (.int .i64 BN)), .own 3]), (3, .row 103 2 (mkRows ms)), (4, .cells 220 [.d (.v (.int .i64 o)), .d (.v (.int .i64 f))])]⟩) (AN + BN).toNat [0, 1, 3, 2, 4] ?_ ?_ ?_
           · simp -dsimp -implicitDefEqProofs only [↓Ev.xStp_eq, ↓Ev.P, Ev.Q, Ev.Z, simprocAttr]
           · simp -dsimp -implicitDefEqProofs only [↓Ev.xStp_eq, ↓Ev.P, Ev.Q, Ev.Z, simprocAttr]
             refine ⟨AN, BN, k0 + 1, [], false, ⟨d2, d4⟩, by omega, by omega, by simp, rfl, hY, ?_⟩
             all_goals rfl
           · rintro n2 st2 ⟨o, f, at_, ms, b, ⟨⟨o0, o1⟩, f0, f1⟩, hn2, hat, hml, hb, hgo, rfl⟩
             by_cases h0 : o = 0 ∧ f = 0
             · obtain ⟨rfl, rfl⟩ := h0
               have hgo2 : Y = .ok (ms, at_) := by
                 rw [← hgo]; cases n2 with
                 | zero => rfl
                 | succ n => rw [lnsU, if_pos ⟨rfl, rfl⟩]
               rw [hgo2] at hk; dsimp only at hk
               cases b with
               | true =>
                 rw [if_pos hb.symm, map_ok, hkA, uhK_ok] at hk; dsimp only at hk
                 simp -dsimp -implicitDefEqProofs only [List.length_append, S122, S122_0, S122r1, S122_1, S122r2, S122_2, S122r3, S122_3, S122r4, S122_4, S122r5, S122_5, S122r6, S122_6, S122r7, S122_7, S122r8, R122, FzW6u0, ↓Ev.P, Ev.Q, Ev.Z, simprocAttr]
                 repeat' (first | with_reducible assumption | refine And.intro ?_ ?_ | intro _ | (rw [Ev.xStp_eq]; simp -dsimp -implicitDefEqProofs only [List.length_append, S122, S122_0, S122r1, S122_1, S122r2, S122_2, S122r3, S122_3, S122r4, S122_4, S122r5, S122_5, S122r6, S122_6, S122r7, S122_7, S122r8, R122, FzW6u0, ↓Ev.P, Ev.Q, Ev.Z, simprocAttr]))
                 all_goals try omega
                 all_goals first | exact hk | exact hk _
               | false =>
                 rw [if_neg (by rw [← hb]; decide)] at hk; rw [map_error, uhK_error] at hk; unfold fltV at hk; simp only [ec] at hk
                 simp -dsimp -implicitDefEqProofs only [List.length_append, S122, S122_0, S122r1, S122_1, S122r2, S122_2, S122r3, S122_3, S122r4, S122_4, S122r5, S122_5, S122r6, S122_6, S122r7, S122_7, S122r8, R122, FzW6u0, ↓Ev.P, Ev.Q, Ev.Z, simprocAttr]
                 repeat' (first | with_reducible assumption | refine And.intro ?_ ?_ | intro _ | (rw [Ev.xStp_eq]; simp -dsimp -implicitDefEqProofs only [List.length_append, S122, S122_0, S122r1, S122_1, S122r2, S122_2, S122r3, S122_3, S122r4, S122_4, S122r5, S122_5, S122r6, S122_6, S122r7, S122_7, S122r8, R122, FzW6u0, ↓Ev.P, Ev.Q, Ev.Z, simprocAttr]))
                 all_goals try omega
                 all_goals first | exact hk | exact hk _
             · obtain ⟨n3, rfl⟩ : ∃ m, n2 = m + 1 := ⟨n2 - 1, by omega⟩
               rw [lnsU, if_neg h0] at hgo
               have hne : (decide (o = 0) && decide (f = 0)) = false := by
                 rw [Bool.eq_false_iff]; intro h; simp only [Bool.and_eq_true, decide_eq_true_eq] at h; exact h0 h
               cases hl : lnU L o f at_ with
               | error xe =>
                 obtain ⟨xa, xe⟩ := xe
                 rw [hl] at hgo; dsimp only at hgo; subst hgo; dsimp only at hk; rw [map_error, uhK_error] at hk; unfold fltV at hk
                 simp -dsimp -implicitDefEqProofs only [List.length_append, S122, S122_0, S122r1, S122_1, S122r2, S122_2, S122r3, S122_3, S122r4, S122_4, S122r5, S122_5, S122r6, S122_6, S122r7, S122_7, S122r8, R122, hne, hl, FzW6u0, ↓Ev.P, Ev.Q, Ev.Z, simprocAttr]
                 repeat' (first | with_reducible assumption | refine And.intro ?_ ?_ | intro _ | (rw [Ev.xStp_eq]; simp -dsimp -implicitDefEqProofs only [List.length_append, S122, S122_0, S122r1, S122_1, S122r2, S122_2, S122r3, S122_3, S122r4, S122_4, S122r5, S122_5, S122r6, S122_6, S122r7, S122_7, S122r8, R122, hne, hl, FzW6u0, ↓Ev.P, Ev.Q, Ev.Z, simprocAttr]))
                 all_goals try omega
                 all_goals first | exact hk | exact hk _
               | ok x =>
                 obtain ⟨⟨⟨sg, tx⟩, o', f'⟩, a1⟩ := x
                 obtain ⟨⟨g1, g2⟩, ⟨g3, g4⟩, g5, g6, g7⟩ := lnU_le hl o0 f0
                 have hcap := any_snocM ms (sg, tx)
                 rw [hl] at hgo; dsimp only at hgo
                 cases b with
                 | true =>
                   rw [← hb] at hcap
                   simp -dsimp -implicitDefEqProofs only [List.length_append, S122, S122_0, S122r1, S122_1, S122r2, S122_2, S122r3, S122_3, S122r4, S122_4, S122r5, S122_5, S122r6, S122_6, S122r7, S122_7, S122r8, R122, hne, hl, FzW6u0, ↓Ev.P, Ev.Q, Ev.Z, simprocAttr]
                   repeat' (first | with_reducible assumption | refine And.intro ?_ ?_ | intro _ | (rw [Ev.xStp_eq]; simp -dsimp -implicitDefEqProofs only [List.length_append, S122, S122_0, S122r1, S122_1, S122r2, S122_2, S122r3, S122_3, S122r4, S122_4, S122r5, S122_5, S122r6, S122_6, S122r7, S122_7, S122r8, R122, hne, hl, FzW6u0, ↓Ev.P, Ev.Q, Ev.Z, simprocAttr]))
                   all_goals try omega
                   all_goals refine xAgain_intro n3 [0, 1, 2, 7, 8] (by omega) (by simp -dsimp -implicitDefEqProofs only [↓Ev.xStp_eq, ↓Ev.P, Ev.Q, Ev.Z, simprocAttr]) ⟨o', f', a1, ms ++ [(sg, tx)], true, ⟨⟨g3, by omega⟩, g4, by omega⟩, by omega, g2, by rw [List.length_append, List.length_singleton]; omega, by rw [hcap]; rfl, hgo, ?_⟩
                   all_goals rw [← mkRows_snoc]
                   all_goals simp -dsimp -implicitDefEqProofs only [↓Ev.xStp_eq, ↓Ev.P, Ev.Q, Ev.Z, simprocAttr]
                   all_goals rfl
                 | false =>
                   rw [← hb] at hcap
                   by_cases hs : sg = 32
                   · have hch : chgM (sg, tx) = false := by simp [chgM, hs]
                     rw [hch] at hcap
                     simp -dsimp -implicitDefEqProofs only [List.length_append, S122, S122_0, S122r1, S122_1, S122r2, S122_2, S122r3, S122_3, S122r4, S122_4, S122r5, S122_5, S122r6, S122_6, S122r7, S122_7, S122r8, R122, hne, hl, hs, FzW6u0, ↓Ev.P, Ev.Q, Ev.Z, simprocAttr]
                     repeat' (first | with_reducible assumption | refine And.intro ?_ ?_ | intro _ | (rw [Ev.xStp_eq]; simp -dsimp -implicitDefEqProofs only [List.length_append, S122, S122_0, S122r1, S122_1, S122r2, S122_2, S122r3, S122_3, S122r4, S122_4, S122r5, S122_5, S122r6, S122_6, S122r7, S122_7, S122r8, R122, hne, hl, hs, FzW6u0, ↓Ev.P, Ev.Q, Ev.Z, simprocAttr]))
                     all_goals try omega
                     all_goals refine xAgain_intro n3 [0, 1, 2, 7, 8] (by omega) (by simp -dsimp -implicitDefEqProofs only [↓Ev.xStp_eq, ↓Ev.P, Ev.Q, Ev.Z, simprocAttr]) ⟨o', f', a1, ms ++ [(sg, tx)], false, ⟨⟨g3, by omega⟩, g4, by omega⟩, by omega, g2, by rw [List.length_append, List.length_singleton]; omega, by rw [hcap]; rfl, hgo, ?_⟩
                     all_goals rw [← mkRows_snoc]
                     all_goals simp -dsimp -implicitDefEqProofs only [hs, ↓Ev.xStp_eq, ↓Ev.P, Ev.Q, Ev.Z, simprocAttr]
                     all_goals first | rfl | (simp only [hs]; rfl)
                   · have hch : chgM (sg, tx) = true := by simp [chgM, hs]
                     rw [hch] at hcap
                     simp -dsimp -implicitDefEqProofs only [List.length_append, S122, S122_0, S122r1, S122_1, S122r2, S122_2, S122r3, S122_3, S122r4, S122_4, S122r5, S122_5, S122r6, S122_6, S122r7, S122_7, S122r8, R122, hne, hl, hs, FzW6u0, ↓Ev.P, Ev.Q, Ev.Z, simprocAttr]
                     repeat' (first | with_reducible assumption | refine And.intro ?_ ?_ | intro _ | (rw [Ev.xStp_eq]; simp -dsimp -implicitDefEqProofs only [List.length_append, S122, S122_0, S122r1, S122_1, S122r2, S122_2, S122r3, S122_3, S122r4, S122_4, S122r5, S122_5, S122r6, S122_6, S122r7, S122_7, S122r8, R122, hne, hl, hs, FzW6u0, ↓Ev.P, Ev.Q, Ev.Z, simprocAttr]))
                     all_goals try omega
                     all_goals refine xAgain_intro n3 [0, 1, 2, 7, 8] (by omega) (by simp -dsimp -implicitDefEqProofs only [↓Ev.xStp_eq, ↓Ev.P, Ev.Q, Ev.Z, simprocAttr]) ⟨o', f', a1, ms ++ [(sg, tx)], true, ⟨⟨g3, by omega⟩, g4, by omega⟩, by omega, g2, by rw [List.length_append, List.length_singleton]; omega, by rw [hcap]; rfl, hgo, ?_⟩
                     all_goals rw [← mkRows_snoc]
                     all_goals simp -dsimp -implicitDefEqProofs only [hs, ↓Ev.xStp_eq, ↓Ev.P, Ev.Q, Ev.Z, simprocAttr]
                     all_goals first | rfl | (simp only [hs]; rfl)
def ptA (x : Pt × Nat) : SV × Int := (.agg [.d (.v (.string ⟨x.1.1.1.toArray⟩)), .d (.v (.string ⟨x.1.1.2.toArray⟩)), .d (.sl (hkRows x.1.2))], (x.2 : Int))
def CPtU (hk : HkF) (bg p1 p2 : List UInt8) : Contract := uhC fun L at_ rest => match rest with
 | [.d (.v (.int .i64 ahead))] => some (((0 ≤ at_ ∧ at_ ≤ L.length) ∧ smL L ∧ L.length ≤ 1099511627776 ∧ ∀ x ∈ L, x.length ≤ 1048576), (ptG hk bg p1 p2 L ahead at_.toNat).map ptA)
 | _ => none
theorem FzW10u0 : type_of% (And.intro @hkA.eq_1 (And.intro @fltV.eq_1 (And.intro @Ev.panK.eq_1 (And.intro @uhC_wp (And.intro @uhK_ok (And.intro @uhK_error (And.intro @map_ok (And.intro @map_error (And.intro @strA.eq_1 (And.intro @unStr_rows (And.intro @strRows_len (And.intro @hkRows_len (And.intro @hkRows_all (And.intro @mkRows_len (And.intro @mkRows_all (@hkRows_one)))))))))))))))) := And.intro @hkA.eq_1 (And.intro @fltV.eq_1 (And.intro @Ev.panK.eq_1 (And.intro @uhC_wp (And.intro @uhK_ok (And.intro @uhK_error (And.intro @map_ok (And.intro @map_error (And.intro @strA.eq_1 (And.intro @unStr_rows (And.intro @strRows_len (And.intro @hkRows_len (And.intro @hkRows_all (And.intro @mkRows_len (And.intro @mkRows_all (@hkRows_one)))))))))))))))
set_option maxHeartbeats 64000000 in
theorem s66 (hE : ∀ w, G w → ErrR w) (hM : ∀ w, G w → MaxL w) : Sound G Tryz.prog 66 (CPtU hkU [64, 64] [45, 45, 45, 32] [43, 43, 43, 32]) := by
 refine sd66 (T := tabT [(119, CNmU), (120, CStopU), (65, CMoreU), (122, CHunkU), (121, C166)]) (tab_cons s119 (tab_cons s120 (tab_cons s65 (tab_cons (s122 hE hM) (tab_cons s121 tab_nil))))) (uhC_lawful _) (uh_hX fun t L at_ rest pp z K h hp hk => ?_)
 split at h <;> simp only [Option.some.injEq, Prod.mk.injEq, reduceCtorEq] at h
 obtain ⟨rfl, rfl⟩ := h
 rename_i ahead
 obtain ⟨⟨h1, h3⟩, ⟨hLl, hL⟩, hLt, hL1⟩ := hp
 have hsm : smL L := ⟨hLl, hL⟩
 obtain ⟨k0, rfl⟩ := Int.eq_ofNat_of_zero_le h1
 rw [Int.toNat_natCast] at hk
 refine ⟨Nat.le_of_ble_eq_true rfl, ?_⟩
 unfold ptG at hk
 cases hx1 : nmG [45, 45, 45, 32] L k0 with
 | error xe =>
   obtain ⟨xa, xe⟩ := xe
   rw [hx1] at hk; dsimp only at hk; rw [map_error, uhK_error] at hk; unfold fltV at hk
   simp -dsimp -implicitDefEqProofs only [List.length_append, S66, R66, hx1, impF, CNmU, CStopU, CMoreU, CHunkU, C166, hasPre_list, FzW10u0, ↓Ev.P, Ev.Q, Ev.Z, simprocAttr]
   repeat' (first | with_reducible assumption | refine And.intro ?_ ?_ | intro _ | (rw [Ev.xStp_eq]; simp -dsimp -implicitDefEqProofs only [List.length_append, hx1, impF, CNmU, CStopU, CMoreU, CHunkU, C166, hasPre_list, FzW10u0, ↓Ev.P, Ev.Q, Ev.Z, simprocAttr]))
   all_goals try omega
   all_goals exact hk _
 | ok x =>
   obtain ⟨o, a⟩ := x
   obtain ⟨rfl, hlt1, ho1⟩ := nmG_le hx1
   rw [hx1] at hk; dsimp only at hk
   have ec : ((k0 + 1 : Nat) : Int) = (k0 : Int) + 1 := by omega
   have ec2 : ((k0 : Int) + 1).toNat = k0 + 1 := by omega
   by_cases ha : 64 ≤ ahead
   · rw [if_pos ha] at hk; rw [map_error, uhK_error] at hk; unfold fltV at hk; simp only [ec] at hk
     simp -dsimp -implicitDefEqProofs only [List.length_append, S66, R66, hx1, ha, impF, CNmU, CStopU, CMoreU, CHunkU, C166, hasPre_list, FzW10u0, ↓Ev.P, Ev.Q, Ev.Z, simprocAttr]
     repeat' (first | with_reducible assumption | refine And.intro ?_ ?_ | intro _ | (rw [Ev.xStp_eq]; simp -dsimp -implicitDefEqProofs only [List.length_append, hx1, ha, impF, CNmU, CStopU, CMoreU, CHunkU, C166, hasPre_list, FzW10u0, ↓Ev.P, Ev.Q, Ev.Z, simprocAttr]))
     all_goals try omega
     all_goals exact hk _
   · rw [if_neg ha] at hk
     cases hx2 : nmG [43, 43, 43, 32] L (k0 + 1) with
     | error xe =>
       obtain ⟨xa, xe⟩ := xe
       rw [hx2] at hk; dsimp only at hk; rw [map_error, uhK_error] at hk; unfold fltV at hk
       simp -dsimp -implicitDefEqProofs only [List.length_append, S66, R66, hx1, ha, hx2, ec2, impF, CNmU, CStopU, CMoreU, CHunkU, C166, hasPre_list, FzW10u0, ↓Ev.P, Ev.Q, Ev.Z, simprocAttr]
       repeat' (first | with_reducible assumption | refine And.intro ?_ ?_ | intro _ | (rw [Ev.xStp_eq]; simp -dsimp -implicitDefEqProofs only [List.length_append, hx1, ha, hx2, ec2, impF, CNmU, CStopU, CMoreU, CHunkU, C166, hasPre_list, FzW10u0, ↓Ev.P, Ev.Q, Ev.Z, simprocAttr]))
       all_goals try omega
       all_goals exact hk _
     | ok x =>
       obtain ⟨nn, a⟩ := x
       obtain ⟨rfl, hlt2, ho2⟩ := nmG_le hx2
       rw [hx2] at hk; dsimp only at hk
       generalize hY : hksG hkU [64, 64] L (L.length + 1) (k0 + 1 + 1) [] = Y at hk
       simp -dsimp -implicitDefEqProofs only [List.length_append, S66, R66, hx1, ha, hx2, ec2, impF, CNmU, CStopU, CMoreU, CHunkU, C166, hasPre_list, FzW10u0, ↓Ev.P, Ev.Q, Ev.Z, simprocAttr]
       repeat' (first | with_reducible assumption | refine And.intro ?_ ?_ | intro _ | (rw [Ev.xStp_eq]; simp -dsimp -implicitDefEqProofs only [List.length_append, hx1, ha, hx2, ec2, impF, CNmU, CStopU, CMoreU, CHunkU, C166, hasPre_list, FzW10u0, ↓Ev.P, Ev.Q, Ev.Z, simprocAttr]))
       all_goals try omega
       refine xLoop_intro (fun n2 st => (n2 = L.length + 2 ∧ st = ⟨[(0, .ptr 0 0), (4, .ptr 1 0), (5, .ptr 2 0)], 3, [(0, .cells t [.d (.sl (strRows L)), .d (.v (.int .i64 ((k0 + 1 + 1 : Nat) : Int)))]), (1, .cells 55 [.d (.v (.string ⟨#[]⟩)), .d (.v (.string ⟨#[]⟩)), .d (.v (.slice none 0 0))]), (2, .cells 55 [.d (.v (.string ⟨o.toArray⟩)), .d (.v (.string ⟨nn.toArray⟩)), .d (.v (.slice none 0 0))])]⟩) ∨ (∃ (f at_ : Nat) (hs : List Hk), ¬ hs = [] ∧ at_ ≤ L.length ∧ n2 = L.length - at_ + 1 ∧ L.length - at_ ≤ f ∧ hs.length ≤ 4096 ∧ hksG hkU [64, 64] L f at_ hs = Y ∧ st = ⟨[(0, .ptr 0 0), (4, .ptr 1 0), (5, .ptr 2 0)], 4, [(0, .cells t [.d (.sl (strRows L)), .d (.v (.int .i64 (at_ : Nat)))]), (1, .cells 55 [.d (.v (.string ⟨#[]⟩)), .d (.v (.string ⟨#[]⟩)), .d (.v (.slice none 0 0))]), (2, .cells 55 [.d (.v (.string ⟨o.toArray⟩)), .d (.v (.string ⟨nn.toArray⟩)), .own 3]), (3, .row 47 5 (hkRows hs))]⟩)) (L.length + 2) [0, 1, 2] ?_ ?_ ?_
       · simp -dsimp -implicitDefEqProofs only [↓Ev.xStp_eq, ↓Ev.P, Ev.Q, Ev.Z, simprocAttr]
       · simp -dsimp -implicitDefEqProofs only [↓Ev.xStp_eq, ↓Ev.P, Ev.Q, Ev.Z, simprocAttr]
         all_goals first | exact .inl ⟨rfl, rfl⟩ | exact .inl rfl | exact ⟨rfl, rfl⟩ | trivial
       · rintro n2 st2 (⟨rfl, rfl⟩ | ⟨f, at_, hs, hne, hat, rfl, hf, hhs, hgo, rfl⟩)
         · have _t := trivial
           have hgo := hY
           rw [hksG, if_pos (by rfl)] at hgo
           have e0 : ((([] : List Hk).length : Nat) : Int) = 0 := rfl
           rw [e0] at hgo
           cases hx : hkU L 0 (k0 + 1 + 1) with
           | error xe =>
             obtain ⟨xa, xe⟩ := xe
             rw [hx] at hgo; dsimp only at hgo; subst hgo; dsimp only at hk; rw [map_error, uhK_error] at hk; unfold fltV at hk
             simp -dsimp -implicitDefEqProofs only [List.length_append, S66, R66, hx, impF, CNmU, CStopU, CMoreU, CHunkU, C166, hasPre_list, FzW10u0, ↓Ev.P, Ev.Q, Ev.Z, simprocAttr]
             repeat' (first | with_reducible assumption | refine And.intro ?_ ?_ | intro _ | (rw [Ev.xStp_eq]; simp -dsimp -implicitDefEqProofs only [List.length_append, hx, impF, CNmU, CStopU, CMoreU, CHunkU, C166, hasPre_list, FzW10u0, ↓Ev.P, Ev.Q, Ev.Z, simprocAttr]))
             all_goals try omega
             all_goals exact hk _
           | ok x =>
             obtain ⟨h, a1⟩ := x
             obtain ⟨b1, b2, b3, b4⟩ := hkU_ok.le hx
             rw [hx] at hgo; dsimp only at hgo
             obtain ⟨⟨hA, hAN, hB, hBN⟩, hms⟩ := h
             simp -dsimp -implicitDefEqProofs only [List.length_append, S66, R66, hx, impF, CNmU, CStopU, CMoreU, CHunkU, C166, hasPre_list, FzW10u0, ↓Ev.P, Ev.Q, Ev.Z, simprocAttr]
             repeat' (first | with_reducible assumption | refine And.intro ?_ ?_ | intro _ | (rw [Ev.xStp_eq]; simp -dsimp -implicitDefEqProofs only [List.length_append, hx, impF, CNmU, CStopU, CMoreU, CHunkU, C166, hasPre_list, FzW10u0, ↓Ev.P, Ev.Q, Ev.Z, simprocAttr]))
             all_goals try omega
             all_goals refine xAgain_intro (L.length - a1 + 1) [0, 1, 2, 4] (by omega) (by simp -dsimp -implicitDefEqProofs only [↓Ev.xStp_eq, ↓Ev.P, Ev.Q, Ev.Z, simprocAttr]) (.inr ⟨L.length, a1, [] ++ [((hA, hAN, hB, hBN), hms)], by simp, b2, rfl, by omega, by first | (rw [List.length_append, List.length_singleton]; omega) | simp, hgo, ?_⟩)
             all_goals simp -dsimp -implicitDefEqProofs only [↓Ev.xStp_eq, ↓Ev.P, Ev.Q, Ev.Z, simprocAttr]
             all_goals rfl
         · have _t := trivial
           have hl0 : ((hs.length : Int) = 0) = False := eq_false (fun h => hne (List.length_eq_zero_iff.1 (by omega)))
           by_cases hlt : at_ < L.length
           · have hi3 : ((at_ : Int) < (L.length : Int)) = True := eq_true (by omega)
             have hg := strRows_get hlt
             have hg2 : (strRows L).getD at_ [] = [.v (.string ⟨(L.getD at_ []).toArray⟩)] := by rw [List.getD_eq_getElem?_getD, hg]; rfl
             by_cases hpre : (L.getD at_ []).take 2 = [64, 64]
             · obtain ⟨f, rfl⟩ : ∃ g, f = g + 1 := ⟨f - 1, by omega⟩
               have hgoes : goesH [64, 64] L at_ hs = true := by
                 rw [goesH, decide_eq_true hlt]
                 simp only [List.length_cons, List.length_nil, Nat.zero_add, Nat.reduceAdd]
                 rw [decide_eq_true hpre]; simp
               rw [hksG, if_pos hgoes] at hgo
               cases hx : hkU L hs.length at_ with
               | error xe =>
                 obtain ⟨xa, xe⟩ := xe
                 rw [hx] at hgo; dsimp only at hgo; subst hgo; dsimp only at hk; rw [map_error, uhK_error] at hk; unfold fltV at hk
                 simp -dsimp -implicitDefEqProofs only [List.length_append, S66, R66, hl0, hi3, hg, hg2, hpre, hx, impF, CNmU, CStopU, CMoreU, CHunkU, C166, hasPre_list, FzW10u0, ↓Ev.P, Ev.Q, Ev.Z, simprocAttr]
                 repeat' (first | with_reducible assumption | refine And.intro ?_ ?_ | intro _ | (rw [Ev.xStp_eq]; simp -dsimp -implicitDefEqProofs only [List.length_append, hl0, hi3, hg, hg2, hpre, hx, impF, CNmU, CStopU, CMoreU, CHunkU, C166, hasPre_list, FzW10u0, ↓Ev.P, Ev.Q, Ev.Z, simprocAttr]))
                 all_goals try omega
                 all_goals exact hk _
               | ok x =>
                 obtain ⟨h, a1⟩ := x
                 obtain ⟨b1, b2, b3, b4⟩ := hkU_ok.le hx
                 rw [hx] at hgo; dsimp only at hgo
                 obtain ⟨⟨hA, hAN, hB, hBN⟩, hms⟩ := h
                 simp -dsimp -implicitDefEqProofs only [List.length_append, S66, R66, hl0, hi3, hg, hg2, hpre, hx, impF, CNmU, CStopU, CMoreU, CHunkU, C166, hasPre_list, FzW10u0, ↓Ev.P, Ev.Q, Ev.Z, simprocAttr]
                 repeat' (first | with_reducible assumption | refine And.intro ?_ ?_ | intro _ | (rw [Ev.xStp_eq]; simp -dsimp -implicitDefEqProofs only [List.length_append, hl0, hi3, hg, hg2, hpre, hx, impF, CNmU, CStopU, CMoreU, CHunkU, C166, hasPre_list, FzW10u0, ↓Ev.P, Ev.Q, Ev.Z, simprocAttr]))
                 all_goals try omega
                 all_goals refine xAgain_intro (L.length - a1 + 1) [0, 1, 2, 5] (by omega) (by simp -dsimp -implicitDefEqProofs only [↓Ev.xStp_eq, ↓Ev.P, Ev.Q, Ev.Z, simprocAttr]) (.inr ⟨f, a1, hs ++ [((hA, hAN, hB, hBN), hms)], by simp, b2, rfl, by omega, by first | (rw [List.length_append, List.length_singleton]; omega) | simp, hgo, ?_⟩)
                 all_goals simp -dsimp -implicitDefEqProofs only [↓Ev.xStp_eq, ↓Ev.P, Ev.Q, Ev.Z, simprocAttr]
                 all_goals rfl
             · have _t := trivial
               have hgoes : goesH [64, 64] L at_ hs = false := by
                 rw [goesH, decide_eq_false hne, decide_eq_true hlt]
                 simp only [List.length_cons, List.length_nil, Nat.zero_add, Nat.reduceAdd]
                 rw [decide_eq_false hpre]; rfl
               rw [hksG_end hgoes] at hgo; subst hgo
               dsimp only at hk; rw [map_ok, ptA, uhK_ok] at hk; dsimp only at hk
               simp -dsimp -implicitDefEqProofs only [List.length_append, S66, R66, hl0, hi3, hg, hg2, hpre, impF, CNmU, CStopU, CMoreU, CHunkU, C166, hasPre_list, FzW10u0, ↓Ev.P, Ev.Q, Ev.Z, simprocAttr]
               repeat' (first | with_reducible assumption | refine And.intro ?_ ?_ | intro _ | (rw [Ev.xStp_eq]; simp -dsimp -implicitDefEqProofs only [List.length_append, hl0, hi3, hg, hg2, hpre, impF, CNmU, CStopU, CMoreU, CHunkU, C166, hasPre_list, FzW10u0, ↓Ev.P, Ev.Q, Ev.Z, simprocAttr]))
               all_goals try omega
               all_goals first | exact hk | exact hk _
           · have hi3 : ((at_ : Int) < (L.length : Int)) = False := eq_false (by omega)
             have hgoes : goesH [64, 64] L at_ hs = false := by
               rw [goesH, decide_eq_false hne, decide_eq_false hlt]
               rfl
             rw [hksG_end hgoes] at hgo; subst hgo
             dsimp only at hk; rw [map_ok, ptA, uhK_ok] at hk; dsimp only at hk
             simp -dsimp -implicitDefEqProofs only [List.length_append, S66, R66, hl0, hi3, impF, CNmU, CStopU, CMoreU, CHunkU, C166, hasPre_list, FzW10u0, ↓Ev.P, Ev.Q, Ev.Z, simprocAttr]
             repeat' (first | with_reducible assumption | refine And.intro ?_ ?_ | intro _ | (rw [Ev.xStp_eq]; simp -dsimp -implicitDefEqProofs only [List.length_append, hl0, hi3, impF, CNmU, CStopU, CMoreU, CHunkU, C166, hasPre_list, FzW10u0, ↓Ev.P, Ev.Q, Ev.Z, simprocAttr]))
             all_goals try omega
             all_goals first | exact hk | exact hk _
end Go.Proofs.YtlghobefhmpfkaaGreatDoor
namespace Go.Proofs.YtlghobefhmpfkaaGreatDoor
open Go Go.RowKit
set_option maxRecDepth 100000
theorem ta_fltU (v : Value) (xT : TypeId) (w : World) : (Instr.typeAssert (.iface 79 v) xT 79 true).run Tryz.prog w = .ok (.tuple #[v, .bool true]) w := by kernel_rfl
set_option maxHeartbeats 1000000 in
theorem catch_panU (p0 p1 : Addr) (q : Addr) (x0 x1 : Value) (w : World) (h0 : w.cell? p0 = some x0) (h1 : w.cell? p1 = some x1) (f0 : w.frozen? p0 = false) (f1 : w.frozen? p1 = false) (hne : p0.block ≠ p1.block) :
   CallsDIn Fence.wide 0 Tryz.prog 64 #[.pointer (some p0), .pointer (some p1)] (.panicking [{ v := .iface 79 (.pointer (some q)), recovered := false }]) w fun e u w' =>
     e = .returned (.tuple #[]) ∧ u = .panicking [{ v := .iface 79 (.pointer (some q)), recovered := true }] ∧ w' = (w.setCell p0 (.slice none 0 0)).setCell p1 (.iface 79 (.pointer (some q))) := by
 have hta := ta_fltU
 refine callsDIn_of_wpSIn Tryz.func64 rfl trivial fun c₀ cs hu => ?_
 refine wpSIn_seq (wpSIn_region ?_)
 simp [wpOpsSIn, go_sem, recoverD, hu, Tryz.ntmps64, Exit.thenS]
 refine wpSIn_of_wpIn rfl (wpIn_wide.2 ?_)
 have f1' : (w.setCell p0 (.slice none 0 0)).frozen? p1 = false := by rw [World.frozen?_setCell]; exact f1
 have h1' : (w.setCell p0 (.slice none 0 0)).cell? p1 = some x1 := by rw [World.cell?_setCell_other _ _ _ _ (fun e => hne (by rw [e]))]; exact h1
 go_wp2
 exact ⟨rfl, _, rfl, _, results_none rfl _ _ _, rfl, rfl, rfl⟩
theorem catch_idleU (p0 p1 : Addr) (w : World) :
   CallsDIn Fence.wide 0 Tryz.prog 64 #[.pointer (some p0), .pointer (some p1)] .returning w fun e u w' => e = .returned (.tuple #[]) ∧ u = .returning ∧ w' = w := by
 refine callsDIn_of_wpSIn Tryz.func64 rfl trivial fun c₀ cs hu => ?_
 refine wpSIn_seq (wpSIn_region ?_)
 simp [wpOpsSIn, go_sem, recoverD, hu, Tryz.ntmps64, Exit.thenS]
 refine wpSIn_of_wpIn rfl (wpIn_wide.2 ?_)
 go_wp2
 refine ⟨rfl, .returning, ?_, _, results_none rfl _ _ _, rfl, rfl, rfl⟩
 cases c₀
 simp_all
end Go.Proofs.YtlghobefhmpfkaaGreatDoor
namespace Go.Proofs.YtlghobefhmpfkaaGreatDoor
open Go Go.Ev
set_option maxRecDepth 100000
variable {G : World → Prop}
def DCatchU (tf : TypeId) : DCon := fun x caps s K => match x, caps with
 | none, [.ptr _ 0, .ptr _ 0] => K s
 | some (.d (.ifc t (.pt cells))), [.ptr o1 0, .ptr o2 0] => match lk s.ob o1, lk s.ob o2 with
   | some (.cells t1 [x1]), some (.cells t2 [x2]) => (t = tf ∧ o1 ≠ o2) ∧ K ⟨s.n, (o2, .cells t2 [.d (.ifc t (.pt cells))]) :: (o1, .cells t1 [.d (.v (.slice none 0 0))]) :: s.ob⟩
   | _, _ => False
 | _, _ => False
theorem heap_setU {w : World} {b : Nat} {c : Value} {t : TypeId} (h : w.heap[b]? = some (.cells #[c] t (0, 0))) (u : Value) : (w.setCell ⟨b, 0, none⟩ u).heap[b]? = some (.cells #[u] t (0, 0)) := by
 simp only [World.setCell, Array.getElem?_modify, if_true, h, Option.map_some]
 rfl
theorem one_cellU {cs : Array Value} {m : Nat → Value} {n : Nat} {c : Rdr} {x : SV} (h : CnL m n c [x] cs.toList) : ∃ v, cs = #[v] ∧ Cn m n c x v := by
 obtain ⟨l⟩ := cs
 match l, h with
 | [v], h => exact ⟨v, rfl, by simpa [CnL] using h⟩
 | [], h => simp [CnL] at h
 | _ :: _ :: _, h => simp [CnL] at h
theorem set_oneU {H : Hd G} {w : World} {m : Nat → Value} {B : Nat → Nat → Prop} {s : Store} (hO : SOk H w m B s) {o b : Nat} {t : TypeId} {x : SV} (ho : lk s.ob o = some (.cells t [x])) (hb : m o = .pointer (some ⟨b, 0, none⟩)) {y : SV} {u : Value} (hy : Cn m s.n (vw H w B s.ob) y u) (hu : u.oneCell' = true) :
   ∃ c, w.heap[b]? = some (.cells #[c] t (0, 0)) ∧ (∀ z, B o z ↔ z = b) ∧ ∃ B', Since w m B s (w.setCell ⟨b, 0, none⟩ u) m B' ⟨s.n, (o, .cells t [y]) :: s.ob⟩ ∧ SOk H (w.setCell ⟨b, 0, none⟩ u) m B' ⟨s.n, (o, .cells t [y]) :: s.ob⟩ ∧ ∀ k, k ≠ o → ∀ z, B' k z ↔ B k z := by
 obtain ⟨b', cs, g1, g2, g3, g4, g5⟩ := hO.obs o _ ho
 rw [hb] at g1
 simp only [Value.pointer.injEq, Option.some.injEq, Addr.mk.injEq, and_true] at g1
 subst g1
 obtain ⟨c, rfl, _⟩ := one_cellU g3
 have hs := heap_setU g2 u
 have hsz : (w.setCell ⟨b, 0, none⟩ u).heap.size = w.heap.size := by simp [World.setCell]
 have hup := SOk.upd (w1 := w.setCell ⟨b, 0, none⟩ u) hO o _ (.cells t [y]) ho rfl (fun z => z = b) rfl rfl rfl (by omega) (fun j _ hj => RowKit.Below.heap_setCell _ _ _ _ (fun e => hj ((g5 j).2 e)))
   (fun j _ hj => by subst hj; exact ⟨by rw [hsz]; exact (Array.getElem?_eq_some_iff.1 g2).1, .inl ((g5 j).2 rfl)⟩) (fun c' hc1 _ => by
     refine ⟨b, _, hb, hs, ?_, ?_, fun z => Iff.rfl⟩
     · simp only [CnL, and_true]; exact Cn_mono (Nat.le_refl _) (fun _ _ => rfl) hc1 _ _ hy
     · intro z hz; simp at hz; subst hz; exact hu)
 exact ⟨c, g2, g5, _, hup.1, hup.2, fun k hk z => by simp [hk]⟩
theorem sCatchU : SoundD G Tryz.prog 64 (DCatchU 79) := by
 intro H w m B s caps vs hO hc
 refine ⟨⟨Tryz.f64, by kernel_rfl, by kernel_rfl, by kernel_rfl⟩, fun K hK => ?_, fun x v K hx hK => ?_⟩
 · unfold DCatchU at hK
   split at hK
   · rename_i o1 o2 _
     match vs, hc with
     | [a, b], hc =>
       simp only [CnL, Cn, and_true] at hc
       obtain ⟨⟨n1, b1, e1, rfl⟩, n2, b2, e2, rfl⟩ := hc
       refine (catch_idleU ⟨b1, 0, none⟩ ⟨b2, 0, none⟩ w).mono ?_
       rintro e u w' ⟨rfl, rfl, rfl⟩
       exact ⟨⟨_, rfl⟩, rfl, m, B, s, hK, hO, Since.refl _ _ _ _⟩
     | [], hc => simp [CnL] at hc
     | [_], hc => simp [CnL] at hc
     | _ :: _ :: _ :: _, hc => simp [CnL] at hc
   · rename_i h; cases h
   · exact hK.elim
 · unfold DCatchU at hK
   split at hK
   · rename_i h; cases h
   · rename_i t cells o1 o2 h
     simp only [Option.some.injEq] at h
     subst h
     split at hK
     · rename_i t1 x1 t2 x2 l1 l2
       obtain ⟨⟨rfl, hne⟩, hK⟩ := hK
       match vs, hc with
       | [a, b], hc =>
         simp only [CnL, Cn, and_true] at hc
         obtain ⟨⟨n1, b1, e1, rfl⟩, n2, b2, e2, rfl⟩ := hc
         simp only [Cn, Rd] at hx
         obtain ⟨z, rfl, ad, rfl, hcells⟩ := hx
         obtain ⟨c1, p1, p2, B1, p3, p4, p5⟩ := set_oneU hO l1 e1 (y := .d (.v (.slice none 0 0))) (u := .slice none 0 0) ⟨rfl, rfl⟩ rfl
         have l2' : lk ((o1, Ob.cells t1 [.d (.v (.slice none 0 0))]) :: s.ob) o2 = some (.cells t2 [x2]) := by rw [lk_cons, if_neg hne]; exact l2
         have hcells2 := RdCells_mono p3.vw ad 0 cells hcells
         obtain ⟨c2, q1, q2, B2, q3, q4, q5⟩ := set_oneU p4 l2' e2 (y := .d (.ifc 79 (.pt cells))) (u := .iface 79 (.pointer (some ad))) (by simp only [Cn, Rd]; exact ⟨_, rfl, ad, rfl, hcells2⟩) rfl
         obtain ⟨c2', q1', q2', _⟩ := set_oneU hO l2 e2 (y := .d (.v (.slice none 0 0))) (u := .slice none 0 0) ⟨rfl, rfl⟩ rfl
         have hb : b1 ≠ b2 := fun e => hO.sep o1 o2 _ _ l1 l2 rfl rfl hne b1 ((p2 b1).2 rfl) ((q2' b1).2 e)
         refine (catch_panU ⟨b1, 0, none⟩ ⟨b2, 0, none⟩ ad c1 c2' w (by rw [cell_at p1]; rfl) (by rw [cell_at q1']; rfl) ?_ ?_ hb).mono ?_
         · simp [World.frozen?, p1]
         · simp [World.frozen?, q1']
         · rintro e u w' ⟨rfl, rfl, rfl⟩
           exact ⟨⟨_, rfl⟩, rfl, m, B2, _, hK, q4, p3.trans q3⟩
       | [], hc => simp [CnL] at hc
       | [_], hc => simp [CnL] at hc
       | _ :: _ :: _ :: _, hc => simp [CnL] at hc
     · exact hK.elim
   · exact hK.elim
end Go.Proofs.YtlghobefhmpfkaaGreatDoor
namespace Go.Proofs.YtlghobefhmpfkaaGreatDoor
open Go Go.Ev Go.Rcs
set_option maxRecDepth 100000
variable {G : World → Prop}
theorem defE_nU {D : DCon} {rs : List RR} {n0 : Nat} {os : List Nat} {K : Out → Store → Prop} {caps : List SV} {st : St} : Ev.defE D rs n0 os K caps .normal st = Ev.defK D rs n0 os K none caps st := rfl
theorem defE_rU {D : DCon} {rs : List RR} {n0 : Nat} {os : List Nat} {K : Out → Store → Prop} {caps : List SV} {st : St} : Ev.defE D rs n0 os K caps .ret st = Ev.defK D rs n0 os K none caps st := rfl
def parPU : Except Fl (List Pt) → SV × Store
 | .ok ps => (.tup [.own 0, .d (.v .nilIface)], ⟨1, [(0, .row 55 3 (ptRows ps))]⟩)
 | .error (a, e) => (.tup [.d (.sl []), .d (fltV a e)], ⟨0, []⟩)
def CParPU (hk : HkF) (bg p1 p2 : List UInt8) : Contract := stC fun args st => match args, st with
 | [.d (.v (.string s))], ⟨0, []⟩ => some (s.size ≤ 1099511627776, parPU (parG hk bg p1 p2 s.data.toList))
 | _, _ => none
theorem FzW11u0 : type_of% (And.intro @impF (And.intro @CSplit.eq_1 (And.intro @CMoreU.eq_1 (And.intro @CPtU.eq_1 (And.intro @ptA.eq_1 (And.intro @DCatchU.eq_1 (And.intro @DCatchU.eq_2 (And.intro @DCatchU.eq_3 (And.intro @Ev.defK.eq_1 (And.intro @defE_nU (And.intro @defE_rU (And.intro @Ev.endK.eq_1 (And.intro @Ev.xvs.eq_1 (And.intro @Ev.xvs.eq_2 (And.intro @uhC_wp (And.intro @uhK_ok (And.intro @uhK_error (And.intro @map_ok (And.intro @map_error (And.intro @fltV.eq_1 (And.intro @unStr_rows (And.intro @strRows_len (And.intro @ptRows_len (And.intro @ptRows_all (And.intro @ptRows_one (And.intro @Ev.St.giveC.eq_1 (@Ev.St.giveC.eq_2))))))))))))))))))))))))))) := And.intro @impF (And.intro @CSplit.eq_1 (And.intro @CMoreU.eq_1 (And.intro @CPtU.eq_1 (And.intro @ptA.eq_1 (And.intro @DCatchU.eq_1 (And.intro @DCatchU.eq_2 (And.intro @DCatchU.eq_3 (And.intro @Ev.defK.eq_1 (And.intro @defE_nU (And.intro @defE_rU (And.intro @Ev.endK.eq_1 (And.intro @Ev.xvs.eq_1 (And.intro @Ev.xvs.eq_2 (And.intro @uhC_wp (And.intro @uhK_ok (And.intro @uhK_error (And.intro @map_ok (And.intro @map_error (And.intro @fltV.eq_1 (And.intro @unStr_rows (And.intro @strRows_len (And.intro @ptRows_len (And.intro @ptRows_all (And.intro @ptRows_one (And.intro @Ev.St.giveC.eq_1 (@Ev.St.giveC.eq_2))))))))))))))))))))))))))
set_option maxHeartbeats 32000000 in
theorem s24 (hH : Sound G Tryz.prog 66 (CPtU hkU [64, 64] [45, 45, 45, 32] [43, 43, 43, 32])) : Sound G Tryz.prog 24 (CParPU hkU [64, 64] [45, 45, 45, 32] [43, 43, 43, 32]) := by
 refine sd24 (T := tabT [(34, CSplit), (65, CMoreU), (66, CPtU hkU [64, 64] [45, 45, 45, 32] [43, 43, 43, 32])]) (tab_cons s34 (tab_cons s65 (tab_cons hH tab_nil))) sCatchU (stC_lawful _) (fun args st K hW => ?_)
 replace hW := (stC_wp _ args st K).mp hW
 obtain ⟨z, h, hp, hk⟩ := need_ex hW
 split at h <;> simp only [Option.some.injEq, Prod.mk.injEq, reduceCtorEq] at h
 obtain ⟨rfl⟩ := h
 rename_i s
 obtain ⟨s, rfl⟩ := ex_str s
 simp only [sem_str] at hp hk
 refine ⟨Nat.le_of_ble_eq_true rfl, ?_⟩
 by_cases h4 : 1048576 < s.length
 · have h4' : (1048576 : Int) < (s.length : Int) := by omega
   have h5 : parG hkU [64, 64] [45, 45, 45, 32] [43, 43, 43, 32] s = .error (0, 9) := by rw [parG, if_pos h4]
   rw [h5] at hk; simp only [parPU] at hk; unfold fltV at hk
   refine ⟨[], ?_⟩
   simp -dsimp -implicitDefEqProofs only [List.length_append, S24, SP24, R24, h4', FzW11u0, ↓Ev.P, Ev.Q, Ev.Z, simprocAttr]
   repeat' (first | with_reducible assumption | refine And.intro ?_ ?_ | intro _ | (rw [Ev.xStp_eq]; simp -dsimp -implicitDefEqProofs only [List.length_append, S24, SP24, R24, h4', FzW11u0, ↓Ev.P, Ev.Q, Ev.Z, simprocAttr]))
   all_goals try omega
   all_goals exact hk
 · have h4' : ¬ (1048576 : Int) < (s.length : Int) := by omega
   have h5 : parG hkU [64, 64] [45, 45, 45, 32] [43, 43, 43, 32] s = psG hkU [64, 64] [45, 45, 45, 32] [43, 43, 43, 32] (lns s) (lns s).length 0 [] := by rw [parG, if_neg h4]
   rw [h5] at hk
   obtain ⟨hLl, hL0⟩ := lns_szN s (by omega)
   generalize hLs : lns s = L at hk hLl hL0
   have hL : ∀ x ∈ L, x.length ≤ 1099511627776 := fun x hx => Nat.le_trans (hL0 x hx) (by omega)
   have hsm : smL L := ⟨by omega, hL⟩
   have hLt : L.length ≤ 1099511627776 := by omega
   cases hY : psG hkU [64, 64] [45, 45, 45, 32] [43, 43, 43, 32] L L.length 0 [] with
   | error xe =>
     obtain ⟨a, e⟩ := xe
     rw [hY] at hk; simp only [parPU] at hk; unfold fltV at hk
     refine ⟨[], ?_⟩
     simp -dsimp -implicitDefEqProofs only [List.length_append, S24, SP24, R24, h4', hLs, FzW11u0, ↓Ev.P, Ev.Q, Ev.Z, simprocAttr]
     repeat' (first | with_reducible assumption | refine And.intro ?_ ?_ | intro _ | (rw [Ev.xStp_eq]; simp -dsimp -implicitDefEqProofs only [List.length_append, S24, SP24, R24, h4', hLs, FzW11u0, ↓Ev.P, Ev.Q, Ev.Z, simprocAttr]))
     all_goals try omega
     refine xLoop_intro (fun n2 st => (n2 = L.length + 2 ∧ st = ⟨[(2, .ptr 1 0), (3, .ptr 2 0), (4, .ptr 3 0)], 4, [(0, .row 55 3 (ptRows [])), (1, .cells 49 [.own 0]), (2, .cells 24 [.d (.v .nilIface)]), (3, .cells 112 [.d (.sl (strRows L)), .d (.v (.int .i64 0))])]⟩) ∨ (∃ (f at_ : Nat) (hs : List Pt), at_ ≤ L.length ∧ n2 = L.length - at_ + 1 ∧ L.length - at_ ≤ f ∧ hs.length ≤ 64 ∧ psG hkU [64, 64] [45, 45, 45, 32] [43, 43, 43, 32] L f at_ hs = .error (a, e) ∧ st = ⟨[(2, .ptr 1 0), (3, .ptr 2 0), (4, .ptr 3 0)], 5, [(0, .dead), (1, .cells 49 [.own 4]), (2, .cells 24 [.d (.v .nilIface)]), (3, .cells 112 [.d (.sl (strRows L)), .d (.v (.int .i64 (at_ : Nat)))]), (4, .row 55 3 (ptRows hs))]⟩)) (L.length + 2) [0, 1, 2, 3] ?_ ?_ ?_
     · simp -dsimp -implicitDefEqProofs only [↓Ev.xStp_eq, ↓Ev.P, Ev.Q, Ev.Z, simprocAttr]
     · simp -dsimp -implicitDefEqProofs only [↓Ev.xStp_eq, ↓Ev.P, Ev.Q, Ev.Z, simprocAttr]
       first | exact .inl ⟨rfl, rfl⟩ | exact .inl rfl
     · rintro n2 st2 (⟨rfl, rfl⟩ | ⟨f, at_, hs, hat, rfl, hf, hhs, hgo, rfl⟩)
       · have _t := trivial
         by_cases hlt : 0 < L.length
         · have hi3 : (0 : Int) < L.length := by omega
           have hgo := hY
           obtain ⟨f, hf⟩ : ∃ g, L.length = g + 1 := ⟨L.length - 1, by omega⟩
           rw [hf, psG, if_pos (by omega)] at hgo
           cases hx : ptG hkU [64, 64] [45, 45, 45, 32] [43, 43, 43, 32] L ([] : List Pt).length 0 with
           | error xe =>
             obtain ⟨xa, xe⟩ := xe
             rw [hx] at hgo; cases hgo
             have hx0 := hx; simp only [List.length_nil, Int.natCast_zero] at hx0
             simp -dsimp -implicitDefEqProofs only [List.length_append, S24, SP24, R24, hi3, hx, hx0, FzW11u0, ↓Ev.P, Ev.Q, Ev.Z, simprocAttr]
             repeat' (first | with_reducible assumption | refine And.intro ?_ ?_ | intro _ | (rw [Ev.xStp_eq]; simp -dsimp -implicitDefEqProofs only [List.length_append, S24, SP24, R24, hi3, hx, hx0, FzW11u0, ↓Ev.P, Ev.Q, Ev.Z, simprocAttr]))
             all_goals try omega
             all_goals exact hk
           | ok x =>
             obtain ⟨h, a1⟩ := x
             obtain ⟨b1, b2, b3⟩ := ptG_le hkU_ok hx
             rw [hx] at hgo; dsimp only at hgo
             obtain ⟨⟨po, pn⟩, ph⟩ := h
             have hx0 := hx; simp only [List.length_nil, Int.natCast_zero] at hx0
             simp -dsimp -implicitDefEqProofs only [List.length_append, S24, SP24, R24, hi3, hx, hx0, FzW11u0, ↓Ev.P, Ev.Q, Ev.Z, simprocAttr]
             repeat' (first | with_reducible assumption | refine And.intro ?_ ?_ | intro _ | (rw [Ev.xStp_eq]; simp -dsimp -implicitDefEqProofs only [List.length_append, S24, SP24, R24, hi3, hx, hx0, FzW11u0, ↓Ev.P, Ev.Q, Ev.Z, simprocAttr]))
             all_goals try omega
             all_goals try refine xAgain_intro (L.length - a1 + 1) [0, 1, 2, 3, 5] (by omega) (by simp -dsimp -implicitDefEqProofs only [↓Ev.xStp_eq, ↓Ev.P, Ev.Q, Ev.Z, simprocAttr]) (.inr ⟨f, a1, [] ++ [((po, pn), ph)], b2, rfl, by omega, by rw [List.length_append, List.length_singleton]; omega, hgo, ?_⟩)
             all_goals simp -dsimp -implicitDefEqProofs only [↓Ev.xStp_eq, ↓Ev.P, Ev.Q, Ev.Z, simprocAttr]
             all_goals rfl
         · have hi3 : ¬ (0 : Int) < L.length := by omega
           rw [psG_end (n := L.length) hlt] at hY; cases hY
       · have _t := trivial
         by_cases hlt : at_ < L.length
         · have hi3 : (at_ : Int) < L.length := by omega
           obtain ⟨f, rfl⟩ : ∃ g, f = g + 1 := ⟨f - 1, by omega⟩
           rw [psG, if_pos hlt] at hgo
           cases hx : ptG hkU [64, 64] [45, 45, 45, 32] [43, 43, 43, 32] L (hs : List Pt).length at_ with
           | error xe =>
             obtain ⟨xa, xe⟩ := xe
             rw [hx] at hgo; cases hgo
             simp -dsimp -implicitDefEqProofs only [List.length_append, S24, SP24, R24, hi3, hx, FzW11u0, ↓Ev.P, Ev.Q, Ev.Z, simprocAttr]
             repeat' (first | with_reducible assumption | refine And.intro ?_ ?_ | intro _ | (rw [Ev.xStp_eq]; simp -dsimp -implicitDefEqProofs only [List.length_append, S24, SP24, R24, hi3, hx, FzW11u0, ↓Ev.P, Ev.Q, Ev.Z, simprocAttr]))
             all_goals try omega
             all_goals exact hk
           | ok x =>
             obtain ⟨h, a1⟩ := x
             obtain ⟨b1, b2, b3⟩ := ptG_le hkU_ok hx
             rw [hx] at hgo; dsimp only at hgo
             obtain ⟨⟨po, pn⟩, ph⟩ := h
             simp -dsimp -implicitDefEqProofs only [List.length_append, S24, SP24, R24, hi3, hx, FzW11u0, ↓Ev.P, Ev.Q, Ev.Z, simprocAttr]
             repeat' (first | with_reducible assumption | refine And.intro ?_ ?_ | intro _ | (rw [Ev.xStp_eq]; simp -dsimp -implicitDefEqProofs only [List.length_append, S24, SP24, R24, hi3, hx, FzW11u0, ↓Ev.P, Ev.Q, Ev.Z, simprocAttr]))
             all_goals try omega
             all_goals try refine xAgain_intro (L.length - a1 + 1) [0, 1, 2, 3, 6] (by omega) (by simp -dsimp -implicitDefEqProofs only [↓Ev.xStp_eq, ↓Ev.P, Ev.Q, Ev.Z, simprocAttr]) (.inr ⟨f, a1, hs ++ [((po, pn), ph)], b2, rfl, by omega, by rw [List.length_append, List.length_singleton]; omega, hgo, ?_⟩)
             all_goals simp -dsimp -implicitDefEqProofs only [↓Ev.xStp_eq, ↓Ev.P, Ev.Q, Ev.Z, simprocAttr]
             all_goals rfl
         · have hi3 : ¬ (at_ : Int) < L.length := by omega
           rw [psG_end hlt] at hgo; cases hgo
   | ok hh =>
     rw [hY] at hk; simp only [parPU] at hk
     by_cases hl0 : 0 < L.length
     · refine ⟨[4], ?_⟩
       simp -dsimp -implicitDefEqProofs only [List.length_append, S24, SP24, R24, h4', hLs, FzW11u0, ↓Ev.P, Ev.Q, Ev.Z, simprocAttr]
       repeat' (first | with_reducible assumption | refine And.intro ?_ ?_ | intro _ | (rw [Ev.xStp_eq]; simp -dsimp -implicitDefEqProofs only [List.length_append, S24, SP24, R24, h4', hLs, FzW11u0, ↓Ev.P, Ev.Q, Ev.Z, simprocAttr]))
       all_goals try omega
       refine xLoop_intro (fun n2 st => (n2 = L.length + 2 ∧ st = ⟨[(2, .ptr 1 0), (3, .ptr 2 0), (4, .ptr 3 0)], 4, [(0, .row 55 3 (ptRows [])), (1, .cells 49 [.own 0]), (2, .cells 24 [.d (.v .nilIface)]), (3, .cells 112 [.d (.sl (strRows L)), .d (.v (.int .i64 0))])]⟩) ∨ (∃ (f at_ : Nat) (hs : List Pt), at_ ≤ L.length ∧ n2 = L.length - at_ + 1 ∧ L.length - at_ ≤ f ∧ hs.length ≤ 64 ∧ psG hkU [64, 64] [45, 45, 45, 32] [43, 43, 43, 32] L f at_ hs = .ok hh ∧ st = ⟨[(2, .ptr 1 0), (3, .ptr 2 0), (4, .ptr 3 0)], 5, [(0, .dead), (1, .cells 49 [.own 4]), (2, .cells 24 [.d (.v .nilIface)]), (3, .cells 112 [.d (.sl (strRows L)), .d (.v (.int .i64 (at_ : Nat)))]), (4, .row 55 3 (ptRows hs))]⟩)) (L.length + 2) [0, 1, 2, 3] ?_ ?_ ?_
       · simp -dsimp -implicitDefEqProofs only [↓Ev.xStp_eq, ↓Ev.P, Ev.Q, Ev.Z, simprocAttr]
       · simp -dsimp -implicitDefEqProofs only [↓Ev.xStp_eq, ↓Ev.P, Ev.Q, Ev.Z, simprocAttr]
         first | exact .inl ⟨rfl, rfl⟩ | exact .inl rfl
       · rintro n2 st2 (⟨rfl, rfl⟩ | ⟨f, at_, hs, hat, rfl, hf, hhs, hgo, rfl⟩)
         · have _t := trivial
           by_cases hlt : 0 < L.length
           · have hi3 : (0 : Int) < L.length := by omega
             have hgo := hY
             obtain ⟨f, hf⟩ : ∃ g, L.length = g + 1 := ⟨L.length - 1, by omega⟩
             rw [hf, psG, if_pos (by omega)] at hgo
             cases hx : ptG hkU [64, 64] [45, 45, 45, 32] [43, 43, 43, 32] L ([] : List Pt).length 0 with
             | error xe =>
               obtain ⟨xa, xe⟩ := xe
               rw [hx] at hgo; cases hgo
             | ok x =>
               obtain ⟨h, a1⟩ := x
               obtain ⟨b1, b2, b3⟩ := ptG_le hkU_ok hx
               rw [hx] at hgo; dsimp only at hgo
               obtain ⟨⟨po, pn⟩, ph⟩ := h
               have hx0 := hx; simp only [List.length_nil, Int.natCast_zero] at hx0
               simp -dsimp -implicitDefEqProofs only [List.length_append, S24, SP24, R24, hi3, hx, hx0, FzW11u0, ↓Ev.P, Ev.Q, Ev.Z, simprocAttr]
               repeat' (first | with_reducible assumption | refine And.intro ?_ ?_ | intro _ | (rw [Ev.xStp_eq]; simp -dsimp -implicitDefEqProofs only [List.length_append, S24, SP24, R24, hi3, hx, hx0, FzW11u0, ↓Ev.P, Ev.Q, Ev.Z, simprocAttr]))
               all_goals try omega
               all_goals try refine xAgain_intro (L.length - a1 + 1) [0, 1, 2, 3, 5] (by omega) (by simp -dsimp -implicitDefEqProofs only [↓Ev.xStp_eq, ↓Ev.P, Ev.Q, Ev.Z, simprocAttr]) (.inr ⟨f, a1, [] ++ [((po, pn), ph)], b2, rfl, by omega, by rw [List.length_append, List.length_singleton]; omega, hgo, ?_⟩)
               all_goals simp -dsimp -implicitDefEqProofs only [↓Ev.xStp_eq, ↓Ev.P, Ev.Q, Ev.Z, simprocAttr]
               all_goals rfl
           · have hi3 : ¬ (0 : Int) < L.length := by omega
             omega
         · have _t := trivial
           by_cases hlt : at_ < L.length
           · have hi3 : (at_ : Int) < L.length := by omega
             obtain ⟨f, rfl⟩ : ∃ g, f = g + 1 := ⟨f - 1, by omega⟩
             rw [psG, if_pos hlt] at hgo
             cases hx : ptG hkU [64, 64] [45, 45, 45, 32] [43, 43, 43, 32] L (hs : List Pt).length at_ with
             | error xe =>
               obtain ⟨xa, xe⟩ := xe
               rw [hx] at hgo; cases hgo
             | ok x =>
               obtain ⟨h, a1⟩ := x
               obtain ⟨b1, b2, b3⟩ := ptG_le hkU_ok hx
               rw [hx] at hgo; dsimp only at hgo
               obtain ⟨⟨po, pn⟩, ph⟩ := h
               simp -dsimp -implicitDefEqProofs only [List.length_append, S24, SP24, R24, hi3, hx, FzW11u0, ↓Ev.P, Ev.Q, Ev.Z, simprocAttr]
               repeat' (first | with_reducible assumption | refine And.intro ?_ ?_ | intro _ | (rw [Ev.xStp_eq]; simp -dsimp -implicitDefEqProofs only [List.length_append, S24, SP24, R24, hi3, hx, FzW11u0, ↓Ev.P, Ev.Q, Ev.Z, simprocAttr]))
               all_goals try omega
               all_goals try refine xAgain_intro (L.length - a1 + 1) [0, 1, 2, 3, 6] (by omega) (by simp -dsimp -implicitDefEqProofs only [↓Ev.xStp_eq, ↓Ev.P, Ev.Q, Ev.Z, simprocAttr]) (.inr ⟨f, a1, hs ++ [((po, pn), ph)], b2, rfl, by omega, by rw [List.length_append, List.length_singleton]; omega, hgo, ?_⟩)
               all_goals simp -dsimp -implicitDefEqProofs only [↓Ev.xStp_eq, ↓Ev.P, Ev.Q, Ev.Z, simprocAttr]
               all_goals rfl
           · have hi3 : ¬ (at_ : Int) < L.length := by omega
             rw [psG_end hlt] at hgo; cases hgo
             simp -dsimp -implicitDefEqProofs only [List.length_append, S24, SP24, R24, hi3, FzW11u0, ↓Ev.P, Ev.Q, Ev.Z, simprocAttr]
             repeat' (first | with_reducible assumption | refine And.intro ?_ ?_ | intro _ | (rw [Ev.xStp_eq]; simp -dsimp -implicitDefEqProofs only [List.length_append, S24, SP24, R24, hi3, FzW11u0, ↓Ev.P, Ev.Q, Ev.Z, simprocAttr]))
             all_goals try omega
             all_goals exact hk
     · refine ⟨[0], ?_⟩
       simp -dsimp -implicitDefEqProofs only [List.length_append, S24, SP24, R24, h4', hLs, FzW11u0, ↓Ev.P, Ev.Q, Ev.Z, simprocAttr]
       repeat' (first | with_reducible assumption | refine And.intro ?_ ?_ | intro _ | (rw [Ev.xStp_eq]; simp -dsimp -implicitDefEqProofs only [List.length_append, S24, SP24, R24, h4', hLs, FzW11u0, ↓Ev.P, Ev.Q, Ev.Z, simprocAttr]))
       all_goals try omega
       refine xLoop_intro (fun n2 st => (n2 = L.length + 2 ∧ st = ⟨[(2, .ptr 1 0), (3, .ptr 2 0), (4, .ptr 3 0)], 4, [(0, .row 55 3 (ptRows [])), (1, .cells 49 [.own 0]), (2, .cells 24 [.d (.v .nilIface)]), (3, .cells 112 [.d (.sl (strRows L)), .d (.v (.int .i64 0))])]⟩)) (L.length + 2) [0, 1, 2, 3] ?_ ?_ ?_
       · simp -dsimp -implicitDefEqProofs only [↓Ev.xStp_eq, ↓Ev.P, Ev.Q, Ev.Z, simprocAttr]
       · simp -dsimp -implicitDefEqProofs only [↓Ev.xStp_eq, ↓Ev.P, Ev.Q, Ev.Z, simprocAttr]
         all_goals first | rfl | exact ⟨rfl, rfl⟩ | trivial
       · rintro n2 st2 ⟨rfl, rfl⟩
         · have _t := trivial
           by_cases hlt : 0 < L.length
           · have hi3 : (0 : Int) < L.length := by omega
             omega
           · have hi3 : ¬ (0 : Int) < L.length := by omega
             rw [psG_end (n := L.length) hlt] at hY; cases hY
             simp -dsimp -implicitDefEqProofs only [List.length_append, S24, SP24, R24, hi3, FzW11u0, ↓Ev.P, Ev.Q, Ev.Z, simprocAttr]
             repeat' (first | with_reducible assumption | refine And.intro ?_ ?_ | intro _ | (rw [Ev.xStp_eq]; simp -dsimp -implicitDefEqProofs only [List.length_append, S24, SP24, R24, hi3, FzW11u0, ↓Ev.P, Ev.Q, Ev.Z, simprocAttr]))
             all_goals try omega
             all_goals exact hk
def CCutR : Contract := pureC fun args => match args with
 | [.d (.v (.string s)), .d (.v (.string p))] => some (s.size ≤ 1099511627776 ∧ 0 < p.size ∧ p.size ≤ 1048576, .tup [.d (.v (str (cutSG p.data.toList s.data.toList).1)), .d (.v (str (cutSG p.data.toList s.data.toList).2)), .d (.v (.bool (cutS p.data.toList s.data.toList).isSome))])
 | _ => none
set_option maxHeartbeats 4000000 in
theorem s185 : Sound G Tryz.prog 185 CCutR := by
 refine sd185 (T := tabT []) tab_nil (pureC_lawful _) (pure_hX fun args p x K h hp hk => ?_)
 split at h <;> simp only [Option.some.injEq, Prod.mk.injEq, reduceCtorEq] at h
 obtain ⟨rfl, rfl⟩ := h
 rename_i s q
 obtain ⟨q, rfl⟩ := ex_str q
 obtain ⟨s, rfl⟩ := ex_str s
 simp only [sem_str] at hp hk
 obtain ⟨h1, h2, h3⟩ := hp
 have hq : q ≠ [] := List.length_pos_iff.1 h2
 refine ⟨Nat.le_of_ble_eq_true rfl, ?_⟩
 simp -dsimp -implicitDefEqProofs only [S185, R185, ↓Ev.xStp_eq, ↓Ev.P, Ev.Q, Ev.Z, simprocAttr]
 refine xLoop_intro (fun n st => ∃ k : Nat, k ≤ s.length + 1 ∧ n = s.length + 1 - k ∧ Lib.NoOcc s q k ∧ st = ⟨[(0, .d (.v (.string ⟨s.toArray⟩))), (1, .d (.v (.string ⟨q.toArray⟩))), (7, .d (.v (.int .i64 k)))], 0, []⟩) (s.length + 1) [] ?_ ?_ ?_
 · simp -dsimp -implicitDefEqProofs only [↓Ev.xStp_eq, ↓Ev.P, Ev.Q, Ev.Z, simprocAttr]
 · simp -dsimp -implicitDefEqProofs only [↓Ev.xStp_eq, ↓Ev.P, Ev.Q, Ev.Z, simprocAttr]
   exact ⟨0, by omega, by omega, Lib.NoOcc.zero _ _, rfl⟩
 · rintro n st ⟨k, hk1, hn, hno, rfl⟩
   by_cases hkl : k + q.length ≤ s.length
   · have hi3 : (k : Int) + (q.length : Int) ≤ (s.length : Int) := by omega
     have e1 : ((k : Int) + (q.length : Int)).toNat = k + q.length := by omega
     have e2 : k + q.length - k = q.length := by omega
     by_cases hc : (s.drop k).take q.length = q
     · have hcut := cutS_at hno hkl hc
       have hG : cutSG q s = (s.take k, s.drop (k + q.length)) := by rw [cutSG, hcut]; rfl
       have e3 : (s.drop (k + q.length)).take (s.length - (k + q.length)) = s.drop (k + q.length) := List.take_of_length_le (by rw [List.length_drop]; omega)
       rw [hG, hcut] at hk; dsimp only at hk
       rw [Option.isSome_some] at hk
       simp -dsimp -implicitDefEqProofs only [hi3, e1, e2, e3, hc, ↓Ev.P, Ev.Q, Ev.Z, simprocAttr]
       repeat' (first | with_reducible assumption | refine And.intro ?_ ?_ | intro _ | (rw [Ev.xStp_eq]; simp -dsimp -implicitDefEqProofs only [hi3, e1, e2, e3, hc, ↓Ev.P, Ev.Q, Ev.Z, simprocAttr]))
       all_goals try omega
       all_goals exact hk
     · simp -dsimp -implicitDefEqProofs only [hi3, e1, e2, hc, ↓Ev.P, Ev.Q, Ev.Z, simprocAttr]
       repeat' (first | with_reducible assumption | refine And.intro ?_ ?_ | intro _ | (rw [Ev.xStp_eq]; simp -dsimp -implicitDefEqProofs only [hi3, e1, e2, hc, ↓Ev.P, Ev.Q, Ev.Z, simprocAttr]))
       all_goals try omega
       refine xAgain_intro (s.length + 1 - (k + 1)) [] (by omega) (by simp -dsimp -implicitDefEqProofs only [↓Ev.xStp_eq, ↓Ev.P, Ev.Q, Ev.Z, simprocAttr]) ⟨k + 1, by omega, rfl, noOcc_step hno hc, ?_⟩
       simp -dsimp -implicitDefEqProofs only [↓Ev.xStp_eq, ↓Ev.P, Ev.Q, Ev.Z, simprocAttr]
       all_goals rfl
   · have hi3 : ¬ (k : Int) + (q.length : Int) ≤ (s.length : Int) := by omega
     have hcut := cutS_no hq hno (by omega)
     have hG : cutSG q s = (s, []) := by rw [cutSG, hcut]; rfl
     rw [hG, hcut] at hk; dsimp only at hk
     rw [Option.isSome_none] at hk
     simp -dsimp -implicitDefEqProofs only [hi3, ↓Ev.P, Ev.Q, Ev.Z, simprocAttr]
     repeat' (first | with_reducible assumption | refine And.intro ?_ ?_ | intro _ | (rw [Ev.xStp_eq]; simp -dsimp -implicitDefEqProofs only [hi3, ↓Ev.P, Ev.Q, Ev.Z, simprocAttr]))
     all_goals try omega
     all_goals exact hk
set_option maxHeartbeats 4000000 in
theorem s186 : Sound G Tryz.prog 186 CNumC := by
 refine sd186 (T := tabT [(90, CParse)]) (tab_cons s90 tab_nil) (pureC_lawful _) (pure_hX fun args p x K h hp hk => ?_)
 split at h <;> simp only [Option.some.injEq, Prod.mk.injEq, reduceCtorEq] at h
 obtain ⟨rfl, rfl⟩ := h
 rename_i s
 obtain ⟨s, rfl⟩ := ex_str s
 simp only [sem_str] at hp hk
 refine ⟨Nat.le_of_ble_eq_true rfl, ?_⟩
 simp -dsimp -implicitDefEqProofs only [S186, R186, ↓Ev.xStp_eq, ↓Ev.P, Ev.Q, Ev.Z, simprocAttr]
 refine xLoop_intro (fun n st => ∃ k : Nat, k ≤ s.length ∧ n = s.length - k ∧ 44 ∉ s.take k ∧ st = ⟨[(0, .d (.v (.string ⟨s.toArray⟩))), (5, .d (.v (.int .i64 k)))], 0, []⟩) s.length [] ?_ ?_ ?_
 · simp -dsimp -implicitDefEqProofs only [↓Ev.xStp_eq, ↓Ev.P, Ev.Q, Ev.Z, simprocAttr]
 · simp -dsimp -implicitDefEqProofs only [↓Ev.xStp_eq, ↓Ev.P, Ev.Q, Ev.Z, simprocAttr]
   exact ⟨0, by omega, by omega, by simp, rfl⟩
 · rintro n st ⟨k, hk1, hn, hno, rfl⟩
   by_cases hkl : k < s.length
   · have hi3 : (k : Int) < (s.length : Int) := by omega
     have v3 : (((s.getD k 0).toNat : Int) = 44) = (s.getD k 0 = 44) := u8_k _ 44 (by decide)
     by_cases hc : s.getD k 0 = 44
     · have hcut := cutK_at hkl hno hc
       unfold cntS at hk
       rw [hcut] at hk
       dsimp only at hk
       have v4 : (((s.getD k 0).toNat : Int) = 44) = True := v3.trans (eq_true hc)
       have e1 : ((k : Int) + 1).toNat = k + 1 := by omega
       have e3 : (s.drop (k + 1)).take (s.length - (k + 1)) = s.drop (k + 1) := List.take_of_length_le (by rw [List.length_drop]; omega)
       have l1 : (s.take k).length ≤ 1099511627776 := by rw [List.length_take]; omega
       have l2 : (s.drop (k + 1)).length ≤ 1099511627776 := by rw [List.length_drop]; omega
       by_cases h0 : (parseS (s.take k)).2 = 0
       · by_cases h1 : (parseS (s.drop (k + 1))).2 = 0
         · simp only [h0, h1, decide_true, Bool.and_true] at hk
           simp -dsimp -implicitDefEqProofs only [hi3, v4, e1, e3, h0, h1, CParse, ↓Ev.P, Ev.Q, Ev.Z, simprocAttr]
           repeat' (first | with_reducible assumption | refine And.intro ?_ ?_ | intro _ | (rw [Ev.xStp_eq]; simp -dsimp -implicitDefEqProofs only [hi3, v4, e1, e3, h0, h1, CParse, ↓Ev.P, Ev.Q, Ev.Z, simprocAttr]))
           all_goals try omega
           all_goals exact hk
         · simp only [h0, h1, decide_true, decide_false, Bool.and_false] at hk
           simp -dsimp -implicitDefEqProofs only [hi3, v4, e1, e3, h0, h1, CParse, ↓Ev.P, Ev.Q, Ev.Z, simprocAttr]
           repeat' (first | with_reducible assumption | refine And.intro ?_ ?_ | intro _ | (rw [Ev.xStp_eq]; simp -dsimp -implicitDefEqProofs only [hi3, v4, e1, e3, h0, h1, CParse, ↓Ev.P, Ev.Q, Ev.Z, simprocAttr]))
           all_goals try omega
           all_goals exact hk
       · simp only [h0, decide_false, Bool.false_and] at hk
         simp -dsimp -implicitDefEqProofs only [hi3, v4, e1, e3, h0, CParse, ↓Ev.P, Ev.Q, Ev.Z, simprocAttr]
         repeat' (first | with_reducible assumption | refine And.intro ?_ ?_ | intro _ | (rw [Ev.xStp_eq]; simp -dsimp -implicitDefEqProofs only [hi3, v4, e1, e3, h0, CParse, ↓Ev.P, Ev.Q, Ev.Z, simprocAttr]))
         all_goals try omega
         all_goals exact hk
     · simp -dsimp -implicitDefEqProofs only [hi3, v3, hc, CParse, ↓Ev.xStp_eq, ↓Ev.P, Ev.Q, Ev.Z, simprocAttr]
       repeat' (first | with_reducible assumption | refine And.intro ?_ ?_ | intro _)
       all_goals try omega
       refine xAgain_intro (s.length - (k + 1)) [] (by omega) (by simp -dsimp -implicitDefEqProofs only [↓Ev.xStp_eq, ↓Ev.P, Ev.Q, Ev.Z, simprocAttr]) ⟨k + 1, by omega, rfl, ?_, ?_⟩
       · rw [List.take_succ_eq_append_getElem hkl, List.mem_append]
         rintro (hm | hm)
         · exact hno hm
         · have e := List.mem_singleton.1 hm
           refine hc ?_
           rw [List.getD_eq_getElem?_getD, List.getElem?_eq_getElem hkl, Option.getD_some, e]
       · simp -dsimp -implicitDefEqProofs only [↓Ev.xStp_eq, ↓Ev.P, Ev.Q, Ev.Z, simprocAttr]
         all_goals rfl
   · have hi3 : ¬ (k : Int) < (s.length : Int) := by omega
     obtain rfl : k = s.length := by omega
     rw [List.take_length] at hno
     unfold cntS at hk
     rw [cutK_non hno] at hk
     dsimp only at hk
     simp -dsimp -implicitDefEqProofs only [hi3, CParse, ↓Ev.xStp_eq, ↓Ev.P, Ev.Q, Ev.Z, simprocAttr]
     exact ⟨hp, hk⟩
def hdR (s : List UInt8) : Int × Int × Int × Int := match pcsU s with
 | none => (0, 0, 0, 0)
 | some (old, fresh) => ((cntS old).1.1, (cntS old).1.2, (cntS fresh).1.1, (cntS fresh).1.2)
theorem hdR_eq {s : List UInt8} {c : Int × Int × Int × Int} (h : hdU s = some c) : hdR s = c := by
 unfold hdU at h
 unfold hdR
 split at h
 · cases h
 · rename_i old fresh e
   rw [e]
   split at h
   · simp only [Option.some.injEq] at h; exact h
   · cases h
def hdAR (s : List UInt8) : SV := .tup [.agg [.d (.v (.int .i64 (hdR s).1)), .d (.v (.int .i64 (hdR s).2.1)), .d (.v (.int .i64 (hdR s).2.2.1)), .d (.v (.int .i64 (hdR s).2.2.2)), .own 0], .d (.v (.bool (hdU s).isSome))]
def CHeadR : Contract := stC fun args st => match args, st with
 | [.d (.v (.string s))], ⟨0, []⟩ => some (s.size ≤ 1099511627776, hdAR s.data.toList, ⟨1, [(0, .row 103 2 [])]⟩)
 | _, _ => none
set_option maxHeartbeats 16000000 in
theorem s143 : Sound G Tryz.prog 143 CHeadR := by
 refine sd143 (T := tabT [(185, CCutR), (186, CNumC)]) (tab_cons s185 (tab_cons s186 tab_nil)) (stC_lawful _) (st_hX fun args st p x st' K h hp hk => ?_)
 split at h <;> simp only [Option.some.injEq, Prod.mk.injEq, reduceCtorEq] at h
 obtain ⟨rfl, rfl, rfl⟩ := h
 rename_i s
 obtain ⟨s, rfl⟩ := ex_str s
 simp only [sem_str] at hp hk
 refine ⟨Nat.le_of_ble_eq_true rfl, [1], ?_⟩
 unfold hdAR hdR hdU pcsU at hk
 by_cases h4 : s.take 4 = [64, 64, 32, 45]
 · rw [if_pos h4] at hk
   have hle : ¬ (s.length : Int) < 4 := by
     have := congrArg List.length h4
     rw [List.length_take] at this
     simp only [List.length_cons, List.length_nil] at this
     omega
   have e3 : (s.drop 4).take (s.length - 4) = s.drop 4 := List.take_of_length_le (by rw [List.length_drop]; omega)
   have l1 : (s.drop 4).length ≤ s.length := by rw [List.length_drop]; omega
   cases h1 : cutS [32, 43] (s.drop 4) with
   | none =>
     rw [h1] at hk; dsimp only at hk; rw [Option.isSome_none] at hk
     have g1 : cutSG [32, 43] (s.drop 4) = (s.drop 4, []) := by rw [cutSG, h1]; rfl
     have l2 := cutSG_len [32, 64, 64] []
     generalize hy : cutSG [32, 64, 64] [] = y at l2
     obtain ⟨f, t⟩ := y
     dsimp only at l2
     simp -dsimp -implicitDefEqProofs only [S143, R143, h4, hle, e3, h1, g1, hy, CCutR, CNumC, ↓Ev.P, Ev.Q, Ev.Z, simprocAttr]
     repeat' (first | with_reducible assumption | refine And.intro ?_ ?_ | intro _ | (rw [Ev.xStp_eq]; simp -dsimp -implicitDefEqProofs only [h4, hle, e3, h1, g1, hy, CCutR, CNumC, ↓Ev.P, Ev.Q, Ev.Z, simprocAttr]))
     all_goals try omega
     all_goals exact hk
   | some or_ =>
     obtain ⟨o, r⟩ := or_
     have g1 : cutSG [32, 43] (s.drop 4) = (o, r) := by rw [cutSG, h1]; rfl
     obtain ⟨k1, k2⟩ := cutS_len h1
     rw [h1] at hk; dsimp only at hk
     cases h2 : cutS [32, 64, 64] r with
     | none =>
       rw [h2] at hk; dsimp only at hk; rw [Option.isSome_none] at hk
       have g2 : cutSG [32, 64, 64] r = (r, []) := by rw [cutSG, h2]; rfl
       simp -dsimp -implicitDefEqProofs only [S143, R143, h4, hle, e3, h1, g1, h2, g2, CCutR, CNumC, ↓Ev.P, Ev.Q, Ev.Z, simprocAttr]
       repeat' (first | with_reducible assumption | refine And.intro ?_ ?_ | intro _ | (rw [Ev.xStp_eq]; simp -dsimp -implicitDefEqProofs only [h4, hle, e3, h1, g1, h2, g2, CCutR, CNumC, ↓Ev.P, Ev.Q, Ev.Z, simprocAttr]))
       all_goals try omega
       all_goals exact hk
     | some ft =>
       obtain ⟨f, t⟩ := ft
       have g2 : cutSG [32, 64, 64] r = (f, t) := by rw [cutSG, h2]; rfl
       obtain ⟨k3, k4⟩ := cutS_len h2
       rw [h2] at hk; dsimp only at hk
       have v32 : (((t.getD 0 0).toNat : Int) = 32) = (t.getD 0 0 = 32) := u8_k _ 32 (by decide)
       by_cases ht : t = [] ∨ t.getD 0 0 = 32
       · rw [if_pos ht] at hk; dsimp only at hk
         by_cases ht0 : t = []
         · subst ht0
           generalize hn1 : cntS o = y1 at hk
           generalize hn2 : cntS f = y2 at hk
           obtain ⟨⟨A, AN⟩, o1⟩ := y1
           obtain ⟨⟨B, BN⟩, o2⟩ := y2
           dsimp only at hk
           cases o1 with
           | false =>
             rw [if_neg (fun h => by cases h.1), Option.isSome_none] at hk
             simp -dsimp -implicitDefEqProofs only [S143, R143, h4, hle, e3, h1, g1, h2, g2, hn1, hn2, CCutR, CNumC, ↓Ev.P, Ev.Q, Ev.Z, simprocAttr]
             repeat' (first | with_reducible assumption | refine And.intro ?_ ?_ | intro _ | (rw [Ev.xStp_eq]; simp -dsimp -implicitDefEqProofs only [h4, hle, e3, h1, g1, h2, g2, hn1, hn2, CCutR, CNumC, ↓Ev.P, Ev.Q, Ev.Z, simprocAttr]))
             all_goals try omega
             all_goals exact hk
           | true =>
             cases o2 with
             | false =>
               rw [if_neg (fun h => by cases h.2), Option.isSome_none] at hk
               simp -dsimp -implicitDefEqProofs only [S143, R143, h4, hle, e3, h1, g1, h2, g2, hn1, hn2, CCutR, CNumC, ↓Ev.P, Ev.Q, Ev.Z, simprocAttr]
               repeat' (first | with_reducible assumption | refine And.intro ?_ ?_ | intro _ | (rw [Ev.xStp_eq]; simp -dsimp -implicitDefEqProofs only [h4, hle, e3, h1, g1, h2, g2, hn1, hn2, CCutR, CNumC, ↓Ev.P, Ev.Q, Ev.Z, simprocAttr]))
               all_goals try omega
               all_goals exact hk
             | true =>
               rw [if_pos ⟨rfl, rfl⟩, Option.isSome_some] at hk
               simp -dsimp -implicitDefEqProofs only [S143, R143, h4, hle, e3, h1, g1, h2, g2, hn1, hn2, CCutR, CNumC, ↓Ev.P, Ev.Q, Ev.Z, simprocAttr]
               repeat' (first | with_reducible assumption | refine And.intro ?_ ?_ | intro _ | (rw [Ev.xStp_eq]; simp -dsimp -implicitDefEqProofs only [h4, hle, e3, h1, g1, h2, g2, hn1, hn2, CCutR, CNumC, ↓Ev.P, Ev.Q, Ev.Z, simprocAttr]))
               all_goals try omega
               all_goals exact hk
         · have w32 := v32.trans (eq_true (ht.resolve_left ht0))
           have hl0 : 0 < t.length := List.length_pos_iff.2 ht0
           generalize hn1 : cntS o = y1 at hk
           generalize hn2 : cntS f = y2 at hk
           obtain ⟨⟨A, AN⟩, o1⟩ := y1
           obtain ⟨⟨B, BN⟩, o2⟩ := y2
           dsimp only at hk
           cases o1 with
           | false =>
             rw [if_neg (fun h => by cases h.1), Option.isSome_none] at hk
             simp -dsimp -implicitDefEqProofs only [S143, R143, h4, hle, e3, h1, g1, h2, g2, hn1, hn2, ht0, w32, CCutR, CNumC, ↓Ev.P, Ev.Q, Ev.Z, simprocAttr]
             repeat' (first | with_reducible assumption | refine And.intro ?_ ?_ | intro _ | (rw [Ev.xStp_eq]; simp -dsimp -implicitDefEqProofs only [h4, hle, e3, h1, g1, h2, g2, hn1, hn2, ht0, w32, CCutR, CNumC, ↓Ev.P, Ev.Q, Ev.Z, simprocAttr]))
             all_goals try omega
             all_goals exact hk
           | true =>
             cases o2 with
             | false =>
               rw [if_neg (fun h => by cases h.2), Option.isSome_none] at hk
               simp -dsimp -implicitDefEqProofs only [S143, R143, h4, hle, e3, h1, g1, h2, g2, hn1, hn2, ht0, w32, CCutR, CNumC, ↓Ev.P, Ev.Q, Ev.Z, simprocAttr]
               repeat' (first | with_reducible assumption | refine And.intro ?_ ?_ | intro _ | (rw [Ev.xStp_eq]; simp -dsimp -implicitDefEqProofs only [h4, hle, e3, h1, g1, h2, g2, hn1, hn2, ht0, w32, CCutR, CNumC, ↓Ev.P, Ev.Q, Ev.Z, simprocAttr]))
               all_goals try omega
               all_goals exact hk
             | true =>
               rw [if_pos ⟨rfl, rfl⟩, Option.isSome_some] at hk
               simp -dsimp -implicitDefEqProofs only [S143, R143, h4, hle, e3, h1, g1, h2, g2, hn1, hn2, ht0, w32, CCutR, CNumC, ↓Ev.P, Ev.Q, Ev.Z, simprocAttr]
               repeat' (first | with_reducible assumption | refine And.intro ?_ ?_ | intro _ | (rw [Ev.xStp_eq]; simp -dsimp -implicitDefEqProofs only [h4, hle, e3, h1, g1, h2, g2, hn1, hn2, ht0, w32, CCutR, CNumC, ↓Ev.P, Ev.Q, Ev.Z, simprocAttr]))
               all_goals try omega
               all_goals exact hk
       · rw [if_neg ht] at hk; dsimp only at hk; rw [Option.isSome_none] at hk
         have ht0 : ¬ t = [] := fun h => ht (.inl h)
         have w32 := v32.trans (eq_false fun h => ht (.inr h))
         have hl0 : 0 < t.length := List.length_pos_iff.2 ht0
         simp -dsimp -implicitDefEqProofs only [S143, R143, h4, hle, e3, h1, g1, h2, g2, ht0, w32, CCutR, CNumC, ↓Ev.P, Ev.Q, Ev.Z, simprocAttr]
         repeat' (first | with_reducible assumption | refine And.intro ?_ ?_ | intro _ | (rw [Ev.xStp_eq]; simp -dsimp -implicitDefEqProofs only [h4, hle, e3, h1, g1, h2, g2, ht0, w32, CCutR, CNumC, ↓Ev.P, Ev.Q, Ev.Z, simprocAttr]))
         all_goals try omega
         all_goals exact hk
 · rw [if_neg h4] at hk; dsimp only at hk; rw [Option.isSome_none] at hk
   by_cases hle : (s.length : Int) < 4
   · have _t := trivial
     simp -dsimp -implicitDefEqProofs only [S143, R143, hle, CCutR, CNumC, ↓Ev.P, Ev.Q, Ev.Z, simprocAttr]
     repeat' (first | with_reducible assumption | refine And.intro ?_ ?_ | intro _ | (rw [Ev.xStp_eq]; simp -dsimp -implicitDefEqProofs only [hle, CCutR, CNumC, ↓Ev.P, Ev.Q, Ev.Z, simprocAttr]))
     all_goals try omega
     all_goals exact hk
   · have _t := trivial
     simp -dsimp -implicitDefEqProofs only [S143, R143, h4, hle, CCutR, CNumC, ↓Ev.P, Ev.Q, Ev.Z, simprocAttr]
     repeat' (first | with_reducible assumption | refine And.intro ?_ ?_ | intro _ | (rw [Ev.xStp_eq]; simp -dsimp -implicitDefEqProofs only [h4, hle, CCutR, CNumC, ↓Ev.P, Ev.Q, Ev.Z, simprocAttr]))
     all_goals try omega
     all_goals exact hk
def nmR (t : TypeId) (rows : List (List D)) (fa : Int) : Except Fl (List UInt8 × Nat) → SV × Store
 | .ok (w, a) => (.d (.v (.string ⟨w.toArray⟩)), ⟨1, [(0, .cells t [.d (.sl rows), .d (.v (.int .i64 (a : Nat))), .d (.v (.int .i64 fa)), .d (.v (.int .i64 0))])]⟩)
 | .error (a, e) => (.d (.v (.string ⟨([] : List UInt8).toArray⟩)), ⟨1, [(0, .cells t [.d (.sl rows), .d (.v (.int .i64 a)), .d (.v (.int .i64 a)), .d (.v (.int .i64 e))])]⟩)
def CNmR : Contract := stC fun args st => match args, st with
 | [.ptr 0 0, .d (.v (.string p))], ⟨1, [(0, .cells t [.d (.sl rows), .d (.v (.int .i64 at_)), .d (.v (.int .i64 fa)), .d (.v (.int .i64 fe))])]⟩ =>
   (unStr rows).map fun L => (((0 ≤ at_ ∧ at_ ≤ 1099511627776) ∧ smL L ∧ p.size = 4), if fe = 0 then nmR t rows fa (nmG p.data.toList L at_.toNat) else (.d (.v (.string ⟨([] : List UInt8).toArray⟩)), ⟨1, [(0, .cells t [.d (.sl rows), .d (.v (.int .i64 at_)), .d (.v (.int .i64 fa)), .d (.v (.int .i64 fe))])]⟩))
 | _, _ => none
theorem nx_stop (a : List (List UInt8)) (at_ fa : Int) {fe : Int} (h : ¬ fe = 0) : nxC a at_ fa fe = ([], at_, fa, fe) := by rw [nxC, if_neg h]
theorem FzW7u0 : type_of% (And.intro @impF (And.intro @CNext.eq_1 (And.intro @CFail.eq_1 (And.intro @C165.eq_1 (And.intro @rdr.eq_1 (And.intro @unStr_rows (@strRows_len))))))) := And.intro @impF (And.intro @CNext.eq_1 (And.intro @CFail.eq_1 (And.intro @C165.eq_1 (And.intro @rdr.eq_1 (And.intro @unStr_rows (@strRows_len))))))
set_option maxHeartbeats 8000000 in
theorem s81 : Sound G Tryz.prog 81 CNmR := by
 refine sd81 (T := tabT [(42, CNext), (43, CFail), (142, C165)]) (tab_cons s42 (tab_cons s43 (tab_cons s142 tab_nil))) (stC_lawful _) (st_hX fun args st p x st' K h hp hk => ?_)
 split at h <;> simp only [Option.map_eq_some_iff, Prod.mk.injEq, reduceCtorEq] at h
 obtain ⟨L, hl, rfl, h2⟩ := h
 rename_i q t rows at_ fa fe
 rw [unStr_eq hl] at *
 obtain ⟨⟨h1, h3⟩, ⟨hLl, hL⟩, h4⟩ := hp
 obtain ⟨q, rfl⟩ := ex_str q
 simp only [sem_str] at h4 h2
 obtain ⟨k, rfl⟩ := Int.eq_ofNat_of_zero_le h1
 rw [Int.toNat_natCast] at h2
 refine ⟨Nat.le_of_ble_eq_true rfl, [0], ?_⟩
 by_cases h0 : fe = 0
 · subst h0
   rw [if_pos rfl] at h2
   unfold nmG at h2
   cases hx : nextL L k with
   | error xe =>
     obtain ⟨xa, xe⟩ := xe
     obtain ⟨hn, rfl, he⟩ := nx_next_err fa hx
     rw [hx] at h2; dsimp only [nmR] at h2; rw [Prod.mk.injEq] at h2; obtain ⟨rfl, rfl⟩ := h2
     simp -dsimp -implicitDefEqProofs only [S81, R81, hn, he, FzW7u0, ↓Ev.P, Ev.Q, Ev.Z, simprocAttr]
     repeat' (first | with_reducible assumption | refine And.intro ?_ ?_ | intro _ | (rw [Ev.xStp_eq]; simp -dsimp -implicitDefEqProofs only [hn, he, FzW7u0, ↓Ev.P, Ev.Q, Ev.Z, simprocAttr]))
     all_goals try omega
     all_goals exact hk
   | ok x =>
     obtain ⟨s, a⟩ := x
     have hn := nx_next_ok fa hx
     obtain ⟨rfl, hlt, hs⟩ := nextL_le hx
     have hsz := hL _ (getD_in hlt)
     have hsl : s.length ≤ 1099511627776 := by rw [hs]; exact Nat.le_trans (bare_len _) hsz
     rw [hx] at h2; dsimp only at h2
     clear hs hx
     have ec : ((k + 1 : Nat) : Int) = (k : Int) + 1 := by omega
     have hdl : (s.drop 4).length ≤ s.length := by rw [List.length_drop]; omega
     have e3 : (s.drop 4).take (s.length - 4) = s.drop 4 := List.take_of_length_le (by rw [List.length_drop]; omega)
     by_cases hpre : s.take 4 = q
     · have hle : ¬ (s.length : Int) < 4 := by
         have := congrArg List.length hpre
         rw [List.length_take] at this
         omega
       rw [if_pos hpre] at h2
       by_cases hne : (namedS (s.drop 4)).2 = 0
       · rw [if_pos hne] at h2; dsimp only [nmR] at h2; rw [Prod.mk.injEq] at h2; obtain ⟨rfl, rfl⟩ := h2
         simp only [ec] at hk
         simp -dsimp -implicitDefEqProofs only [S81, R81, hn, hpre, hle, hne, e3, FzW7u0, ↓Ev.P, Ev.Q, Ev.Z, simprocAttr]
         repeat' (first | with_reducible assumption | refine And.intro ?_ ?_ | intro _ | (rw [Ev.xStp_eq]; simp -dsimp -implicitDefEqProofs only [hn, hpre, hle, hne, e3, FzW7u0, ↓Ev.P, Ev.Q, Ev.Z, simprocAttr]))
         all_goals try omega
         all_goals exact hk
       · have hn0 : namedS (s.drop 4) = ([], 253) := by
           unfold namedS at hne ⊢
           split
           · rfl
           · rename_i h; rw [if_neg h] at hne; exact absurd rfl hne
         rw [if_neg hne] at h2; dsimp only [nmR] at h2; rw [Prod.mk.injEq] at h2; obtain ⟨rfl, rfl⟩ := h2
         simp only [ec] at hk
         simp -dsimp -implicitDefEqProofs only [S81, R81, hn, hpre, hle, hn0, e3, FzW7u0, ↓Ev.P, Ev.Q, Ev.Z, simprocAttr]
         repeat' (first | with_reducible assumption | refine And.intro ?_ ?_ | intro _ | (rw [Ev.xStp_eq]; simp -dsimp -implicitDefEqProofs only [hn, hpre, hle, hn0, e3, FzW7u0, ↓Ev.P, Ev.Q, Ev.Z, simprocAttr]))
         all_goals try omega
         all_goals exact hk
     · rw [if_neg hpre] at h2; dsimp only [nmR] at h2; rw [Prod.mk.injEq] at h2; obtain ⟨rfl, rfl⟩ := h2
       simp only [ec] at hk
       by_cases hle : (s.length : Int) < 4
       · have _t := trivial
         simp -dsimp -implicitDefEqProofs only [S81, R81, hn, hle, FzW7u0, ↓Ev.P, Ev.Q, Ev.Z, simprocAttr]
         repeat' (first | with_reducible assumption | refine And.intro ?_ ?_ | intro _ | (rw [Ev.xStp_eq]; simp -dsimp -implicitDefEqProofs only [hn, hle, FzW7u0, ↓Ev.P, Ev.Q, Ev.Z, simprocAttr]))
         all_goals try omega
         all_goals exact hk
       · have _t := trivial
         simp -dsimp -implicitDefEqProofs only [S81, R81, hn, hle, hpre, FzW7u0, ↓Ev.P, Ev.Q, Ev.Z, simprocAttr]
         repeat' (first | with_reducible assumption | refine And.intro ?_ ?_ | intro _ | (rw [Ev.xStp_eq]; simp -dsimp -implicitDefEqProofs only [hn, hle, hpre, FzW7u0, ↓Ev.P, Ev.Q, Ev.Z, simprocAttr]))
         all_goals try omega
         all_goals exact hk
 · rw [if_neg h0, Prod.mk.injEq] at h2; obtain ⟨rfl, rfl⟩ := h2
   have hn := nx_stop L (k : Int) fa h0
   simp -dsimp -implicitDefEqProofs only [S81, R81, hn, h0, FzW7u0, ↓Ev.P, Ev.Q, Ev.Z, simprocAttr]
   repeat' (first | with_reducible assumption | refine And.intro ?_ ?_ | intro _ | (rw [Ev.xStp_eq]; simp -dsimp -implicitDefEqProofs only [hn, h0, FzW7u0, ↓Ev.P, Ev.Q, Ev.Z, simprocAttr]))
   all_goals try omega
   all_goals exact hk
def CSameA : Contract := pureC fun args => match args with
 | [.d (.sl rows), .d (.sl rows')] => (unPt rows).bind fun l => (unPt rows').map fun m => (l = m ∧ smP l, .d (.v (.bool true)))
 | _ => none
set_option maxHeartbeats 4000000 in
theorem s30 : Sound G Tryz.prog 30 CSameA := by
 refine sd30 (T := tabT [(71, CSameP)]) (tab_cons s71 tab_nil) (pureC_lawful _) (pure_hX fun args p x K h hp hk => ?_)
 split at h <;> simp only [Option.bind_eq_some_iff, Option.map_eq_some_iff, Prod.mk.injEq, reduceCtorEq] at h
 obtain ⟨l, hl, m, hm, rfl, rfl⟩ := h
 rw [unPt_eq hl, unPt_eq hm] at *
 obtain ⟨rfl, h1, h2⟩ := hp
 refine ⟨Nat.le_of_ble_eq_true rfl, ?_⟩
 simp -dsimp -implicitDefEqProofs only [S30, R30, ptRows_len, ↓Ev.xStp_eq, ↓Ev.P, Ev.Q, Ev.Z, simprocAttr]
 refine xLoop_intro (fun n st => ∃ i : Nat, i ≤ l.length ∧ n = l.length - i ∧ st = ⟨[(0, .d (.sl (ptRows l))), (1, .d (.sl (ptRows l))), (5, .d (.v (.int .i64 i)))], 0, []⟩) l.length [] ?_ ?_ ?_
 · simp -dsimp -implicitDefEqProofs only [↓Ev.xStp_eq, ↓Ev.P, Ev.Q, Ev.Z, simprocAttr]
 · simp -dsimp -implicitDefEqProofs only [↓Ev.xStp_eq, ↓Ev.P, Ev.Q, Ev.Z, simprocAttr]
   exact ⟨0, by omega, by omega, rfl⟩
 · rintro n st ⟨i, hi, hn, rfl⟩
   by_cases hil : i < l.length
   · have hi3 : (i : Int) < l.length := by omega
     have hg := ptRows_get hil
     have hg2 : (ptRows l).getD i [] = ptRow (l.getD i pt0) := by rw [List.getD_eq_getElem?_getD, hg]; rfl
     have hm := h2 _ (pt_mem hil)
     generalize l.getD i pt0 = q at hg hg2 hm
     obtain ⟨⟨o, nn⟩, hs⟩ := q
     dsimp only at hm
     simp -dsimp -implicitDefEqProofs only [hg, hg2, hi3, ptRow, ptRows_len, CSameP, unHk_rows, Ev.St.giveC, ↓Ev.P, Ev.Q, Ev.Z, simprocAttr]
     repeat' (first | with_reducible assumption | refine And.intro ?_ ?_ | intro _ | (rw [Ev.xStp_eq]; simp -dsimp -implicitDefEqProofs only [hg, hg2, hi3, ptRow, ptRows_len, CSameP, unHk_rows, Ev.St.giveC, ↓Ev.P, Ev.Q, Ev.Z, simprocAttr]))
     all_goals try omega
     all_goals try rfl
     refine xAgain_intro (l.length - (i + 1)) [] (by omega) (by simp -dsimp -implicitDefEqProofs only [↓Ev.xStp_eq, ↓Ev.P, Ev.Q, Ev.Z, simprocAttr]) ⟨i + 1, by omega, rfl, ?_⟩
     simp -dsimp -implicitDefEqProofs only [↓Ev.xStp_eq, ↓Ev.P, Ev.Q, Ev.Z, simprocAttr]
     all_goals rfl
   · have hi3 : ¬ (i : Int) < l.length := by omega
     simp -dsimp -implicitDefEqProofs only [hi3, ptRows_len, ↓Ev.xStp_eq, ↓Ev.P, Ev.Q, Ev.Z, simprocAttr]
     exact hk
theorem s26 : Sound G Tryz.prog 26 CSameA := by
 refine sd26 (T := tabT [(30, CSameA)]) (tab_cons s30 tab_nil) (pureC_lawful _) (pure_hX fun args p x K h hp hk => ?_)
 split at h <;> simp only [Option.bind_eq_some_iff, Option.map_eq_some_iff, Prod.mk.injEq, reduceCtorEq] at h
 obtain ⟨l, hl, m, hm, rfl, rfl⟩ := h
 rw [unPt_eq hl, unPt_eq hm] at *
 obtain ⟨rfl, h1⟩ := hp
 refine ⟨Nat.le_of_ble_eq_true rfl, ?_⟩
 simp -dsimp -implicitDefEqProofs only [S26, R26, CSameA, unPt_rows, Ev.St.giveC, ↓Ev.P, Ev.Q, Ev.Z, simprocAttr]
 repeat' (first | with_reducible assumption | refine And.intro ?_ ?_ | intro _ | (rw [Ev.xStp_eq]; simp -dsimp -implicitDefEqProofs only [CSameA, unPt_rows, Ev.St.giveC, ↓Ev.P, Ev.Q, Ev.Z, simprocAttr]))
 all_goals first | rfl | exact h1 | exact hk
def lnR (t : TypeId) (rows : List (List D)) (fa : Int) : Except Fl ((Mk × Int × Int) × Nat) → SV × Store
 | .ok ((m, o, f), a) => (.tup [.agg [.d (.v (.int .u8 m.1)), .d (.v (.string ⟨m.2.toArray⟩))], .d (.v (.int .i64 o)), .d (.v (.int .i64 f))], ⟨1, [(0, .cells t [.d (.sl rows), .d (.v (.int .i64 (a : Nat))), .d (.v (.int .i64 fa)), .d (.v (.int .i64 0))])]⟩)
 | .error (a, e) => (.tup [.agg [.d (.v (.int .u8 0)), .d (.v (.string ⟨([] : List UInt8).toArray⟩))], .d (.v (.int .i64 0)), .d (.v (.int .i64 0))], ⟨1, [(0, .cells t [.d (.sl rows), .d (.v (.int .i64 a)), .d (.v (.int .i64 a)), .d (.v (.int .i64 e))])]⟩)
def CLnR : Contract := stC fun args st => match args, st with
 | [.ptr 0 0, .d (.v (.int .i64 o)), .d (.v (.int .i64 f))], ⟨1, [(0, .cells t [.d (.sl rows), .d (.v (.int .i64 at_)), .d (.v (.int .i64 fa)), .d (.v (.int .i64 fe))])]⟩ =>
   (unStr rows).map fun L => ((fe = 0 ∧ (0 ≤ at_ ∧ at_ ≤ L.length) ∧ smL L ∧ okM L ∧ (0 ≤ o ∧ o ≤ 2147483647) ∧ 0 ≤ f ∧ f ≤ 2147483647), lnR t rows fa (lnU L o f at_.toNat))
 | _, _ => none
theorem FzW8u0 : type_of% (And.intro @impF (And.intro @CNext.eq_1 (And.intro @CFail.eq_1 (And.intro @CPeek.eq_1 (And.intro @rdr.eq_1 (And.intro @unStr_rows (@strRows_len))))))) := And.intro @impF (And.intro @CNext.eq_1 (And.intro @CFail.eq_1 (And.intro @CPeek.eq_1 (And.intro @rdr.eq_1 (And.intro @unStr_rows (@strRows_len))))))
set_option maxHeartbeats 64000000 in
theorem s144 : Sound G Tryz.prog 144 CLnR := by
 refine sd144 (T := tabT [(42, CNext), (43, CFail), (79, CPeek)]) (tab_cons s42 (tab_cons s43 (tab_cons s79 tab_nil))) (stC_lawful _) (st_hX fun args st p x st' K h hp hk => ?_)
 split at h <;> simp only [Option.map_eq_some_iff, Prod.mk.injEq, reduceCtorEq] at h
 obtain ⟨L, hl, rfl, h2⟩ := h
 rename_i o f t rows at_ fa fe
 rw [unStr_eq hl] at *
 obtain ⟨rfl, ⟨h1, h3⟩, ⟨hLl, hL⟩, hM, ⟨o0, o1⟩, f0, f1⟩ := hp
 have hsm : smL L := ⟨hLl, hL⟩
 obtain ⟨k, rfl⟩ := Int.eq_ofNat_of_zero_le h1
 rw [Int.toNat_natCast] at h2
 refine ⟨Nat.le_of_ble_eq_true rfl, [0], ?_⟩
 unfold lnU at h2
 cases hx : nextL L k with
 | error xe =>
   obtain ⟨xa, xe⟩ := xe
   obtain ⟨hn, rfl, he⟩ := nx_next_err fa hx
   rw [hx] at h2; dsimp only [lnR] at h2; rw [Prod.mk.injEq] at h2; obtain ⟨rfl, rfl⟩ := h2
   simp -dsimp -implicitDefEqProofs only [List.length_append, S144, R144, hn, he, FzW8u0, ↓Ev.P, Ev.Q, Ev.Z, simprocAttr]
   repeat' (first | with_reducible assumption | refine And.intro ?_ ?_ | intro _ | (rw [Ev.xStp_eq]; simp -dsimp -implicitDefEqProofs only [List.length_append, hn, he, FzW8u0, ↓Ev.P, Ev.Q, Ev.Z, simprocAttr]))
   all_goals try omega
   all_goals exact hk
 | ok x =>
   obtain ⟨s, a⟩ := x
   have hn := nx_next_ok fa hx
   obtain ⟨rfl, hlt, hs⟩ := nextL_le hx
   have hsz := hL _ (getD_in hlt)
   have hsl : s.length ≤ 1099511627776 := by rw [hs]; exact Nat.le_trans (bare_len _) hsz
   rw [hx] at h2; dsimp only at h2
   clear hs hx hsz
   have ec : ((k + 1 : Nat) : Int) = (k : Int) + 1 := by omega
   have ec2 : ((k + 1 + 1 : Nat) : Int) = (k : Int) + 1 + 1 := by omega
   cases s with
   | nil =>
     dsimp only [lnR] at h2; rw [Prod.mk.injEq] at h2; obtain ⟨rfl, rfl⟩ := h2; simp only [ec] at hk
     simp -dsimp -implicitDefEqProofs only [List.length_append, S144, R144, hn, FzW8u0, ↓Ev.P, Ev.Q, Ev.Z, simprocAttr]
     repeat' (first | with_reducible assumption | refine And.intro ?_ ?_ | intro _ | (rw [Ev.xStp_eq]; simp -dsimp -implicitDefEqProofs only [List.length_append, hn, FzW8u0, ↓Ev.P, Ev.Q, Ev.Z, simprocAttr]))
     all_goals try omega
     all_goals exact hk
   | cons c r =>
     dsimp only at h2
     have hrl : r.length ≤ 1099511627776 := by rw [List.length_cons] at hsl; omega
     have hz : ¬ ((r.length : Int) + 1 = 0) := by omega
     have e3 : r.take r.length = r := List.take_length
     by_cases hc : c = 32
     · rw [if_pos hc] at h2
       have hcn : ((c.toNat : Nat) : Int) = 32 := by rw [hc]; rfl
       by_cases oz : o < 1
       · rw [if_pos (.inl oz)] at h2
         have q1 : (o - 1 < 0) = True := eq_true (by omega)
         dsimp only [lnR] at h2; rw [Prod.mk.injEq] at h2; obtain ⟨rfl, rfl⟩ := h2; simp only [ec] at hk
         simp -dsimp -implicitDefEqProofs only [List.length_append, S144, R144, hn, hcn, hz, q1, FzW8u0, ↓Ev.P, Ev.Q, Ev.Z, simprocAttr]
         repeat' (first | with_reducible assumption | refine And.intro ?_ ?_ | intro _ | (rw [Ev.xStp_eq]; simp -dsimp -implicitDefEqProofs only [List.length_append, hn, hcn, hz, q1, FzW8u0, ↓Ev.P, Ev.Q, Ev.Z, simprocAttr]))
         all_goals try omega
         all_goals exact hk
       · by_cases fz : f < 1
         · rw [if_pos (.inr fz)] at h2
           have q1 : (o - 1 < 0) = False := eq_false (by omega)
           have q3 : (f - 1 < 0) = True := eq_true (by omega)
           dsimp only [lnR] at h2; rw [Prod.mk.injEq] at h2; obtain ⟨rfl, rfl⟩ := h2; simp only [ec] at hk
           simp -dsimp -implicitDefEqProofs only [List.length_append, S144, R144, hn, hcn, hz, q1, q3, FzW8u0, ↓Ev.P, Ev.Q, Ev.Z, simprocAttr]
           repeat' (first | with_reducible assumption | refine And.intro ?_ ?_ | intro _ | (rw [Ev.xStp_eq]; simp -dsimp -implicitDefEqProofs only [List.length_append, hn, hcn, hz, q1, q3, FzW8u0, ↓Ev.P, Ev.Q, Ev.Z, simprocAttr]))
           all_goals try omega
           all_goals exact hk
         · rw [if_neg (fun h => h.elim oz fz)] at h2
           by_cases oe : o = 1
           · by_cases fe : f = 1
             · have _t := trivial
               have q1 : (o - 1 < 0) = False := eq_false (by omega)
               have q2 : (o - 1 = 0) = True := eq_true (by omega)
               have q3 : (f - 1 < 0) = False := eq_false (by omega)
               have q4 : (f - 1 = 0) = True := eq_true (by omega)
               by_cases hr : r = []
               · rw [if_neg (fun h => h.1.2 hr)] at h2; dsimp only [lnR] at h2; rw [Prod.mk.injEq] at h2; obtain ⟨rfl, rfl⟩ := h2; simp only [ec] at hk
                 subst hr
                 simp -dsimp -implicitDefEqProofs only [List.length_append, S144, R144, hn, hcn, hz, q1, q2, q3, q4, FzW8u0, ↓Ev.P, Ev.Q, Ev.Z, simprocAttr]
                 repeat' (first | with_reducible assumption | refine And.intro ?_ ?_ | intro _ | (rw [Ev.xStp_eq]; simp -dsimp -implicitDefEqProofs only [List.length_append, hn, hcn, hz, q1, q2, q3, q4, FzW8u0, ↓Ev.P, Ev.Q, Ev.Z, simprocAttr]))
                 all_goals try omega
                 all_goals exact hk
               · by_cases hb2 : k + 1 < L.length
                 · have hl2 : (((k : Int) + 1) < (L.length : Int)) = True := eq_true (by omega)
                   have e1 : ((k : Int) + 1).toNat = k + 1 := by omega
                   by_cases hm : L.getD (k + 1) [] = markS
                   · have hl3 : (List.take 28 (L.getD (k + 1) []) = [92, 32, 78, 111, 32, 110, 101, 119, 108, 105, 110, 101, 32, 97, 116, 32, 101, 110, 100, 32, 111, 102, 32, 102, 105, 108, 101, 10]) = True := eq_true (by rw [hm]; rfl)
                     rw [if_pos ⟨⟨by omega, hr⟩, hb2, hm⟩] at h2; dsimp only [lnR] at h2; rw [Prod.mk.injEq] at h2; obtain ⟨rfl, rfl⟩ := h2; simp only [ec2] at hk
                     simp -dsimp -implicitDefEqProofs only [List.length_append, S144, R144, hn, hcn, hz, q1, q2, q3, q4, hr, hl2, hl3, e1, FzW8u0, ↓Ev.P, Ev.Q, Ev.Z, simprocAttr]
                     repeat' (first | with_reducible assumption | refine And.intro ?_ ?_ | intro _ | (rw [Ev.xStp_eq]; simp -dsimp -implicitDefEqProofs only [List.length_append, hn, hcn, hz, q1, q2, q3, q4, hr, hl2, hl3, e1, FzW8u0, ↓Ev.P, Ev.Q, Ev.Z, simprocAttr]))
                     all_goals try omega
                     all_goals exact hk
                   · have hl3 : (List.take 28 (L.getD (k + 1) []) = [92, 32, 78, 111, 32, 110, 101, 119, 108, 105, 110, 101, 32, 97, 116, 32, 101, 110, 100, 32, 111, 102, 32, 102, 105, 108, 101, 10]) = False := eq_false fun h => hm (hM _ (getD_in hb2) h)
                     rw [if_neg (fun h => hm h.2.2)] at h2; dsimp only [lnR] at h2; rw [Prod.mk.injEq] at h2; obtain ⟨rfl, rfl⟩ := h2; simp only [ec] at hk
                     simp -dsimp -implicitDefEqProofs only [List.length_append, S144, R144, hn, hcn, hz, q1, q2, q3, q4, hr, hl2, hl3, e1, FzW8u0, ↓Ev.P, Ev.Q, Ev.Z, simprocAttr]
                     repeat' (first | with_reducible assumption | refine And.intro ?_ ?_ | intro _ | (rw [Ev.xStp_eq]; simp -dsimp -implicitDefEqProofs only [List.length_append, hn, hcn, hz, q1, q2, q3, q4, hr, hl2, hl3, e1, FzW8u0, ↓Ev.P, Ev.Q, Ev.Z, simprocAttr]))
                     all_goals try omega
                     all_goals exact hk
                 · have hl2 : (((k : Int) + 1) < (L.length : Int)) = False := eq_false (by omega)
                   rw [if_neg (fun h => hb2 h.2.1)] at h2; dsimp only [lnR] at h2; rw [Prod.mk.injEq] at h2; obtain ⟨rfl, rfl⟩ := h2; simp only [ec] at hk
                   simp -dsimp -implicitDefEqProofs only [List.length_append, S144, R144, hn, hcn, hz, q1, q2, q3, q4, hr, hl2, FzW8u0, ↓Ev.P, Ev.Q, Ev.Z, simprocAttr]
                   repeat' (first | with_reducible assumption | refine And.intro ?_ ?_ | intro _ | (rw [Ev.xStp_eq]; simp -dsimp -implicitDefEqProofs only [List.length_append, hn, hcn, hz, q1, q2, q3, q4, hr, hl2, FzW8u0, ↓Ev.P, Ev.Q, Ev.Z, simprocAttr]))
                   all_goals try omega
                   all_goals exact hk
             · have _t := trivial
               have q1 : (o - 1 < 0) = False := eq_false (by omega)
               have q2 : (o - 1 = 0) = True := eq_true (by omega)
               have q3 : (f - 1 < 0) = False := eq_false (by omega)
               have q4 : (f - 1 = 0) = False := eq_false (by omega)
               rw [if_neg (fun h => by have := h.1.1; omega)] at h2; dsimp only [lnR] at h2; rw [Prod.mk.injEq] at h2; obtain ⟨rfl, rfl⟩ := h2; simp only [ec] at hk
               simp -dsimp -implicitDefEqProofs only [List.length_append, S144, R144, hn, hcn, hz, q1, q2, q3, q4, FzW8u0, ↓Ev.P, Ev.Q, Ev.Z, simprocAttr]
               repeat' (first | with_reducible assumption | refine And.intro ?_ ?_ | intro _ | (rw [Ev.xStp_eq]; simp -dsimp -implicitDefEqProofs only [List.length_append, hn, hcn, hz, q1, q2, q3, q4, FzW8u0, ↓Ev.P, Ev.Q, Ev.Z, simprocAttr]))
               all_goals try omega
               all_goals exact hk
           · have _t := trivial
             have q1 : (o - 1 < 0) = False := eq_false (by omega)
             have q2 : (o - 1 = 0) = False := eq_false (by omega)
             have q3 : (f - 1 < 0) = False := eq_false (by omega)
             rw [if_neg (fun h => by have := h.1.1; omega)] at h2; dsimp only [lnR] at h2; rw [Prod.mk.injEq] at h2; obtain ⟨rfl, rfl⟩ := h2; simp only [ec] at hk
             simp -dsimp -implicitDefEqProofs only [List.length_append, S144, R144, hn, hcn, hz, q1, q2, q3, FzW8u0, ↓Ev.P, Ev.Q, Ev.Z, simprocAttr]
             repeat' (first | with_reducible assumption | refine And.intro ?_ ?_ | intro _ | (rw [Ev.xStp_eq]; simp -dsimp -implicitDefEqProofs only [List.length_append, hn, hcn, hz, q1, q2, q3, FzW8u0, ↓Ev.P, Ev.Q, Ev.Z, simprocAttr]))
             all_goals try omega
             all_goals exact hk
     · rw [if_neg hc] at h2
       have hc32 := hc; clear hc
       by_cases hc : c = 45
       · rw [if_pos hc] at h2
         have hcn : ((c.toNat : Nat) : Int) = 45 := by rw [hc]; rfl
         by_cases oz : o < 1
         · rw [if_pos oz] at h2
           have q1 : (o - 1 < 0) = True := eq_true (by omega)
           have q5 : (f < 0) = False := eq_false (by omega)
           dsimp only [lnR] at h2; rw [Prod.mk.injEq] at h2; obtain ⟨rfl, rfl⟩ := h2; simp only [ec] at hk
           simp -dsimp -implicitDefEqProofs only [List.length_append, S144, R144, hn, hcn, hz, q1, q5, FzW8u0, ↓Ev.P, Ev.Q, Ev.Z, simprocAttr]
           repeat' (first | with_reducible assumption | refine And.intro ?_ ?_ | intro _ | (rw [Ev.xStp_eq]; simp -dsimp -implicitDefEqProofs only [List.length_append, hn, hcn, hz, q1, q5, FzW8u0, ↓Ev.P, Ev.Q, Ev.Z, simprocAttr]))
           all_goals try omega
           all_goals exact hk
         · rw [if_neg oz] at h2
           by_cases oe : o = 1
           · have _t := trivial
             have q1 : (o - 1 < 0) = False := eq_false (by omega)
             have q2 : (o - 1 = 0) = True := eq_true (by omega)
             have q5 : (f < 0) = False := eq_false (by omega)
             by_cases hr : r = []
             · rw [if_neg (fun h => h.1.2 hr)] at h2; dsimp only [lnR] at h2; rw [Prod.mk.injEq] at h2; obtain ⟨rfl, rfl⟩ := h2; simp only [ec] at hk
               subst hr
               simp -dsimp -implicitDefEqProofs only [List.length_append, S144, R144, hn, hcn, hz, q1, q2, q5, FzW8u0, ↓Ev.P, Ev.Q, Ev.Z, simprocAttr]
               repeat' (first | with_reducible assumption | refine And.intro ?_ ?_ | intro _ | (rw [Ev.xStp_eq]; simp -dsimp -implicitDefEqProofs only [List.length_append, hn, hcn, hz, q1, q2, q5, FzW8u0, ↓Ev.P, Ev.Q, Ev.Z, simprocAttr]))
               all_goals try omega
               all_goals exact hk
             · by_cases hb2 : k + 1 < L.length
               · have hl2 : (((k : Int) + 1) < (L.length : Int)) = True := eq_true (by omega)
                 have e1 : ((k : Int) + 1).toNat = k + 1 := by omega
                 by_cases hm : L.getD (k + 1) [] = markS
                 · have hl3 : (List.take 28 (L.getD (k + 1) []) = [92, 32, 78, 111, 32, 110, 101, 119, 108, 105, 110, 101, 32, 97, 116, 32, 101, 110, 100, 32, 111, 102, 32, 102, 105, 108, 101, 10]) = True := eq_true (by rw [hm]; rfl)
                   rw [if_pos ⟨⟨by omega, hr⟩, hb2, hm⟩] at h2; dsimp only [lnR] at h2; rw [Prod.mk.injEq] at h2; obtain ⟨rfl, rfl⟩ := h2; simp only [ec2] at hk
                   simp -dsimp -implicitDefEqProofs only [List.length_append, S144, R144, hn, hcn, hz, q1, q2, q5, hr, hl2, hl3, e1, FzW8u0, ↓Ev.P, Ev.Q, Ev.Z, simprocAttr]
                   repeat' (first | with_reducible assumption | refine And.intro ?_ ?_ | intro _ | (rw [Ev.xStp_eq]; simp -dsimp -implicitDefEqProofs only [List.length_append, hn, hcn, hz, q1, q2, q5, hr, hl2, hl3, e1, FzW8u0, ↓Ev.P, Ev.Q, Ev.Z, simprocAttr]))
                   all_goals try omega
                   all_goals exact hk
                 · have hl3 : (List.take 28 (L.getD (k + 1) []) = [92, 32, 78, 111, 32, 110, 101, 119, 108, 105, 110, 101, 32, 97, 116, 32, 101, 110, 100, 32, 111, 102, 32, 102, 105, 108, 101, 10]) = False := eq_false fun h => hm (hM _ (getD_in hb2) h)
                   rw [if_neg (fun h => hm h.2.2)] at h2; dsimp only [lnR] at h2; rw [Prod.mk.injEq] at h2; obtain ⟨rfl, rfl⟩ := h2; simp only [ec] at hk
                   simp -dsimp -implicitDefEqProofs only [List.length_append, S144, R144, hn, hcn, hz, q1, q2, q5, hr, hl2, hl3, e1, FzW8u0, ↓Ev.P, Ev.Q, Ev.Z, simprocAttr]
                   repeat' (first | with_reducible assumption | refine And.intro ?_ ?_ | intro _ | (rw [Ev.xStp_eq]; simp -dsimp -implicitDefEqProofs only [List.length_append, hn, hcn, hz, q1, q2, q5, hr, hl2, hl3, e1, FzW8u0, ↓Ev.P, Ev.Q, Ev.Z, simprocAttr]))
                   all_goals try omega
                   all_goals exact hk
               · have hl2 : (((k : Int) + 1) < (L.length : Int)) = False := eq_false (by omega)
                 rw [if_neg (fun h => hb2 h.2.1)] at h2; dsimp only [lnR] at h2; rw [Prod.mk.injEq] at h2; obtain ⟨rfl, rfl⟩ := h2; simp only [ec] at hk
                 simp -dsimp -implicitDefEqProofs only [List.length_append, S144, R144, hn, hcn, hz, q1, q2, q5, hr, hl2, FzW8u0, ↓Ev.P, Ev.Q, Ev.Z, simprocAttr]
                 repeat' (first | with_reducible assumption | refine And.intro ?_ ?_ | intro _ | (rw [Ev.xStp_eq]; simp -dsimp -implicitDefEqProofs only [List.length_append, hn, hcn, hz, q1, q2, q5, hr, hl2, FzW8u0, ↓Ev.P, Ev.Q, Ev.Z, simprocAttr]))
                 all_goals try omega
                 all_goals exact hk
           · have _t := trivial
             have q1 : (o - 1 < 0) = False := eq_false (by omega)
             have q2 : (o - 1 = 0) = False := eq_false (by omega)
             have q5 : (f < 0) = False := eq_false (by omega)
             rw [if_neg (fun h => by have := h.1.1; omega)] at h2; dsimp only [lnR] at h2; rw [Prod.mk.injEq] at h2; obtain ⟨rfl, rfl⟩ := h2; simp only [ec] at hk
             simp -dsimp -implicitDefEqProofs only [List.length_append, S144, R144, hn, hcn, hz, q1, q2, q5, FzW8u0, ↓Ev.P, Ev.Q, Ev.Z, simprocAttr]
             repeat' (first | with_reducible assumption | refine And.intro ?_ ?_ | intro _ | (rw [Ev.xStp_eq]; simp -dsimp -implicitDefEqProofs only [List.length_append, hn, hcn, hz, q1, q2, q5, FzW8u0, ↓Ev.P, Ev.Q, Ev.Z, simprocAttr]))
             all_goals try omega
             all_goals exact hk
       · rw [if_neg hc] at h2
         have hc45 := hc; clear hc
         by_cases hc : c = 43
         · rw [if_pos hc] at h2
           have hcn : ((c.toNat : Nat) : Int) = 43 := by rw [hc]; rfl
           by_cases oz : f < 1
           · rw [if_pos oz] at h2
             have q3 : (f - 1 < 0) = True := eq_true (by omega)
             have q6 : (o < 0) = False := eq_false (by omega)
             dsimp only [lnR] at h2; rw [Prod.mk.injEq] at h2; obtain ⟨rfl, rfl⟩ := h2; simp only [ec] at hk
             simp -dsimp -implicitDefEqProofs only [List.length_append, S144, R144, hn, hcn, hz, q3, q6, FzW8u0, ↓Ev.P, Ev.Q, Ev.Z, simprocAttr]
             repeat' (first | with_reducible assumption | refine And.intro ?_ ?_ | intro _ | (rw [Ev.xStp_eq]; simp -dsimp -implicitDefEqProofs only [List.length_append, hn, hcn, hz, q3, q6, FzW8u0, ↓Ev.P, Ev.Q, Ev.Z, simprocAttr]))
             all_goals try omega
             all_goals exact hk
           · rw [if_neg oz] at h2
             by_cases oe : f = 1
             · have _t := trivial
               have q3 : (f - 1 < 0) = False := eq_false (by omega)
               have q4 : (f - 1 = 0) = True := eq_true (by omega)
               have q6 : (o < 0) = False := eq_false (by omega)
               by_cases hr : r = []
               · rw [if_neg (fun h => h.1.2 hr)] at h2; dsimp only [lnR] at h2; rw [Prod.mk.injEq] at h2; obtain ⟨rfl, rfl⟩ := h2; simp only [ec] at hk
                 subst hr
                 simp -dsimp -implicitDefEqProofs only [List.length_append, S144, R144, hn, hcn, hz, q3, q4, q6, FzW8u0, ↓Ev.P, Ev.Q, Ev.Z, simprocAttr]
                 repeat' (first | with_reducible assumption | refine And.intro ?_ ?_ | intro _ | (rw [Ev.xStp_eq]; simp -dsimp -implicitDefEqProofs only [List.length_append, hn, hcn, hz, q3, q4, q6, FzW8u0, ↓Ev.P, Ev.Q, Ev.Z, simprocAttr]))
                 all_goals try omega
                 all_goals exact hk
               · by_cases hb2 : k + 1 < L.length
                 · have hl2 : (((k : Int) + 1) < (L.length : Int)) = True := eq_true (by omega)
                   have e1 : ((k : Int) + 1).toNat = k + 1 := by omega
                   by_cases hm : L.getD (k + 1) [] = markS
                   · have hl3 : (List.take 28 (L.getD (k + 1) []) = [92, 32, 78, 111, 32, 110, 101, 119, 108, 105, 110, 101, 32, 97, 116, 32, 101, 110, 100, 32, 111, 102, 32, 102, 105, 108, 101, 10]) = True := eq_true (by rw [hm]; rfl)
                     rw [if_pos ⟨⟨by omega, hr⟩, hb2, hm⟩] at h2; dsimp only [lnR] at h2; rw [Prod.mk.injEq] at h2; obtain ⟨rfl, rfl⟩ := h2; simp only [ec2] at hk
                     simp -dsimp -implicitDefEqProofs only [List.length_append, S144, R144, hn, hcn, hz, q3, q4, q6, hr, hl2, hl3, e1, FzW8u0, ↓Ev.P, Ev.Q, Ev.Z, simprocAttr]
                     repeat' (first | with_reducible assumption | refine And.intro ?_ ?_ | intro _ | (rw [Ev.xStp_eq]; simp -dsimp -implicitDefEqProofs only [List.length_append, hn, hcn, hz, q3, q4, q6, hr, hl2, hl3, e1, FzW8u0, ↓Ev.P, Ev.Q, Ev.Z, simprocAttr]))
                     all_goals try omega
                     all_goals exact hk
                   · have hl3 : (List.take 28 (L.getD (k + 1) []) = [92, 32, 78, 111, 32, 110, 101, 119, 108, 105, 110, 101, 32, 97, 116, 32, 101, 110, 100, 32, 111, 102, 32, 102, 105, 108, 101, 10]) = False := eq_false fun h => hm (hM _ (getD_in hb2) h)
                     rw [if_neg (fun h => hm h.2.2)] at h2; dsimp only [lnR] at h2; rw [Prod.mk.injEq] at h2; obtain ⟨rfl, rfl⟩ := h2; simp only [ec] at hk
                     simp -dsimp -implicitDefEqProofs only [List.length_append, S144, R144, hn, hcn, hz, q3, q4, q6, hr, hl2, hl3, e1, FzW8u0, ↓Ev.P, Ev.Q, Ev.Z, simprocAttr]
                     repeat' (first | with_reducible assumption | refine And.intro ?_ ?_ | intro _ | (rw [Ev.xStp_eq]; simp -dsimp -implicitDefEqProofs only [List.length_append, hn, hcn, hz, q3, q4, q6, hr, hl2, hl3, e1, FzW8u0, ↓Ev.P, Ev.Q, Ev.Z, simprocAttr]))
                     all_goals try omega
                     all_goals exact hk
                 · have hl2 : (((k : Int) + 1) < (L.length : Int)) = False := eq_false (by omega)
                   rw [if_neg (fun h => hb2 h.2.1)] at h2; dsimp only [lnR] at h2; rw [Prod.mk.injEq] at h2; obtain ⟨rfl, rfl⟩ := h2; simp only [ec] at hk
                   simp -dsimp -implicitDefEqProofs only [List.length_append, S144, R144, hn, hcn, hz, q3, q4, q6, hr, hl2, FzW8u0, ↓Ev.P, Ev.Q, Ev.Z, simprocAttr]
                   repeat' (first | with_reducible assumption | refine And.intro ?_ ?_ | intro _ | (rw [Ev.xStp_eq]; simp -dsimp -implicitDefEqProofs only [List.length_append, hn, hcn, hz, q3, q4, q6, hr, hl2, FzW8u0, ↓Ev.P, Ev.Q, Ev.Z, simprocAttr]))
                   all_goals try omega
                   all_goals exact hk
             · have _t := trivial
               have q3 : (f - 1 < 0) = False := eq_false (by omega)
               have q4 : (f - 1 = 0) = False := eq_false (by omega)
               have q6 : (o < 0) = False := eq_false (by omega)
               rw [if_neg (fun h => by have := h.1.1; omega)] at h2; dsimp only [lnR] at h2; rw [Prod.mk.injEq] at h2; obtain ⟨rfl, rfl⟩ := h2; simp only [ec] at hk
               simp -dsimp -implicitDefEqProofs only [List.length_append, S144, R144, hn, hcn, hz, q3, q4, q6, FzW8u0, ↓Ev.P, Ev.Q, Ev.Z, simprocAttr]
               repeat' (first | with_reducible assumption | refine And.intro ?_ ?_ | intro _ | (rw [Ev.xStp_eq]; simp -dsimp -implicitDefEqProofs only [List.length_append, hn, hcn, hz, q3, q4, q6, FzW8u0, ↓Ev.P, Ev.Q, Ev.Z, simprocAttr]))
               all_goals try omega
               all_goals exact hk
         · rw [if_neg hc] at h2
           have v32 : (((c.toNat : Nat) : Int) = 32) = False := (u8_k c 32 (by decide)).trans (eq_false hc32)
           have v45 : (((c.toNat : Nat) : Int) = 45) = False := (u8_k c 45 (by decide)).trans (eq_false hc45)
           have v43 : (((c.toNat : Nat) : Int) = 43) = False := (u8_k c 43 (by decide)).trans (eq_false hc)
           dsimp only [lnR] at h2; rw [Prod.mk.injEq] at h2; obtain ⟨rfl, rfl⟩ := h2; simp only [ec] at hk
           simp -dsimp -implicitDefEqProofs only [List.length_append, S144, R144, hn, hz, v32, v45, v43, FzW8u0, ↓Ev.P, Ev.Q, Ev.Z, simprocAttr]
           repeat' (first | with_reducible assumption | refine And.intro ?_ ?_ | intro _ | (rw [Ev.xStp_eq]; simp -dsimp -implicitDefEqProofs only [List.length_append, hn, hz, v32, v45, v43, FzW8u0, ↓Ev.P, Ev.Q, Ev.Z, simprocAttr]))
           all_goals try omega
           all_goals exact hk
def hkRU (t : TypeId) (rows : List (List D)) (fa : Int) (K : Out → Store → Prop) : Except Fl (Hk × Nat) → Prop
 | .ok (h, a) => K (.ret (.agg [.d (.v (.int .i64 h.1.1)), .d (.v (.int .i64 h.1.2.1)), .d (.v (.int .i64 h.1.2.2.1)), .d (.v (.int .i64 h.1.2.2.2)), .d (.sl (mkRows h.2))])) ⟨1, [(0, .cells t [.d (.sl rows), .d (.v (.int .i64 (a : Nat))), .d (.v (.int .i64 fa)), .d (.v (.int .i64 0))])]⟩
 | .error (a, e) => ∀ (i A AN B BN : Int) (ms : List Mk), ms.length ≤ 8589934592 → K (.ret (.agg [.d (.v (.int .i64 A)), .d (.v (.int .i64 AN)), .d (.v (.int .i64 B)), .d (.v (.int .i64 BN)), .d (.sl (mkRows ms))])) ⟨1, [(0, .cells t [.d (.sl rows), .d (.v (.int .i64 i)), .d (.v (.int .i64 a)), .d (.v (.int .i64 e))])]⟩
def hkWU (hk : HkF) (args : List SV) (st : Store) (K : Out → Store → Prop) : Prop := match args, st with
 | [.ptr 0 0, .d (.v (.int .i64 ahead))], ⟨1, [(0, .cells t [.d (.sl rows), .d (.v (.int .i64 at_)), .d (.v (.int .i64 fa)), .d (.v (.int .i64 fe))])]⟩ =>
   need (unStr rows) fun L => (fe = 0 ∧ (0 ≤ at_ ∧ at_ ≤ L.length) ∧ smL L ∧ okM L ∧ L.length ≤ 1048576) ∧ hkRU t rows fa K (hk L ahead at_.toNat)
 | _, _ => False
def CHunkRU (hk : HkF) : Contract := wpC (hkWU hk)
theorem CHunkRU_wp {hk : HkF} {t : TypeId} {rows : List (List D)} {ahead at_ fa fe : Int} {K : Out → Store → Prop} :
 (CHunkRU hk).wp [.ptr 0 0, .d (.v (.int .i64 ahead))] ⟨1, [(0, .cells t [.d (.sl rows), .d (.v (.int .i64 at_)), .d (.v (.int .i64 fa)), .d (.v (.int .i64 fe))])]⟩ K = need (unStr rows) fun L => (fe = 0 ∧ (0 ≤ at_ ∧ at_ ≤ L.length) ∧ smL L ∧ okM L ∧ L.length ≤ 1048576) ∧ hkRU t rows fa K (hk L ahead at_.toNat) := rfl
@[congr] theorem CHunkRU_congr {hk : HkF} {l l' : List SV} {s s' : Store} {K : Out → Store → Prop} (h : l = l') (h2 : s = s') : (CHunkRU hk).wp l s K = (CHunkRU hk).wp l' s' K := by rw [h, h2]
theorem hdR_bd (s : List UInt8) : (0 ≤ (hdR s).2.1 ∧ (hdR s).2.1 ≤ 2147483647) ∧ 0 ≤ (hdR s).2.2.2 ∧ (hdR s).2.2.2 ≤ 2147483647 := by
 unfold hdR
 split
 · decide
 · exact ⟨(cntS_bd _).2, (cntS_bd _).2⟩
theorem FzW9u0 : type_of% (And.intro @impF (And.intro @CNext.eq_1 (And.intro @CFail.eq_1 (And.intro @CHeadR.eq_1 (And.intro @CLnR.eq_1 (And.intro @lnR.eq_1 (And.intro @lnR.eq_2 (And.intro @rdr.eq_1 (And.intro @unStr_rows (And.intro @strRows_len (And.intro @mkRows_len (@mkRows_all)))))))))))) := And.intro @impF (And.intro @CNext.eq_1 (And.intro @CFail.eq_1 (And.intro @CHeadR.eq_1 (And.intro @CLnR.eq_1 (And.intro @lnR.eq_1 (And.intro @lnR.eq_2 (And.intro @rdr.eq_1 (And.intro @unStr_rows (And.intro @strRows_len (And.intro @mkRows_len (@mkRows_all)))))))))))
set_option maxHeartbeats 64000000 in
theorem s82 : Sound G Tryz.prog 82 (CHunkRU hkU) := by
 refine sd82 (T := tabT [(42, CNext), (143, CHeadR), (43, CFail), (144, CLnR)]) (tab_cons s42 (tab_cons s143 (tab_cons s43 (tab_cons s144 tab_nil)))) (wpC_lawful _) (fun args st K hW => ?_)
 replace hW : hkWU hkU args st K := hW
 unfold hkWU at hW
 split at hW
 rotate_left
 · exact hW.elim
 rename_i ahead t rows at_ fa fe
 obtain ⟨L, hL0, ⟨rfl, ⟨h1, h3⟩, ⟨hLl, hL⟩, hM, hLt⟩, hk⟩ := need_ex hW
 rw [unStr_eq hL0] at *
 have hsm : smL L := ⟨hLl, hL⟩
 obtain ⟨k0, rfl⟩ := Int.eq_ofNat_of_zero_le h1
 rw [Int.toNat_natCast] at hk
 refine ⟨Nat.le_of_ble_eq_true rfl, [0], [0], ?_⟩
 unfold hkU at hk
 cases hx : nextL L k0 with
 | error xe =>
   obtain ⟨xa, xe⟩ := xe
   obtain ⟨hn, rfl, he⟩ := nx_next_err fa hx
   rw [hx] at hk; dsimp only [hkRU] at hk
   have hcA : hdAR [] = .tup [.agg [.d (.v (.int .i64 0)), .d (.v (.int .i64 0)), .d (.v (.int .i64 0)), .d (.v (.int .i64 0)), .own 0], .d (.v (.bool false))] := rfl
   simp -dsimp -implicitDefEqProofs only [List.length_append, S82, S82_0, S82r1, S82_1, S82r2, S82_2, S82r3, S82_3, S82r4, S82_4, S82r5, S82_5, S82r6, S82_6, S82r7, S82_7, S82r8, S82_8, S82r9, S82_9, S82r10, R82, hn, hcA, he, FzW9u0, ↓Ev.P, Ev.Q, Ev.Z, simprocAttr]
   repeat' (first | with_reducible assumption | refine And.intro ?_ ?_ | intro _ | (rw [Ev.xStp_eq]; simp -dsimp -implicitDefEqProofs only [List.length_append, S82, S82_0, S82r1, S82_1, S82r2, S82_2, S82r3, S82_3, S82r4, S82_4, S82r5, S82_5, S82r6, S82_6, S82r7, S82_7, S82r8, S82_8, S82r9, S82_9, S82r10, R82, hn, hcA, he, FzW9u0, ↓Ev.P, Ev.Q, Ev.Z, simprocAttr]))
   all_goals try omega
   refine xLoop_intro (fun n2 st => n2 = 0 ∧ st = ⟨[(0, .ptr 0 0), (4, .ptr 1 0), (6, .d (.v (.int .i64 ((k0 : Int) + 1)))), (7, .ptr 2 0), (9, .d (.v (.int .i64 0))), (10, .d (.v (.int .i64 0))), (11, .d (.v (.bool false)))], 4, [(0, .cells t [.d (.sl (strRows L)), .d (.v (.int .i64 ((k0 : Int) + 1))), .d (.v (.int .i64 ((k0 : Int) + 1))), .d (.v (.int .i64 xe))]), (1, .cells 47 [.d (.v (.int .i64 0)), .d (.v (.int .i64 0)), .d (.v (.int .i64 0)), .d (.v (.int .i64 0)), .d (.v (.slice none 0 0))]), (2, .cells 47 [.d (.v (.int .i64 0)), .d (.v (.int .i64 0)), .d (.v (.int .i64 0)), .d (.v (.int .i64 0)), .own 3]), (3, .row 103 2 (mkRows []))]⟩) 0 [0, 1, 3, 2] ?_ ?_ ?_
   · simp -dsimp -implicitDefEqProofs only [↓Ev.xStp_eq, ↓Ev.P, Ev.Q, Ev.Z, simprocAttr]
   · simp -dsimp -implicitDefEqProofs only [↓Ev.xStp_eq, ↓Ev.P, Ev.Q, Ev.Z, simprocAttr]
     all_goals first | rfl | exact ⟨rfl, rfl⟩ | trivial
   · rintro n2 st2 ⟨rfl, rfl⟩
     by_cases hs : 0 < 0 + 0
     · have _t := trivial
       simp -dsimp -implicitDefEqProofs only [List.length_append, S82, S82_0, S82r1, S82_1, S82r2, S82_2, S82r3, S82_3, S82r4, S82_4, S82r5, S82_5, S82r6, S82_6, S82r7, S82_7, S82r8, S82_8, S82r9, S82_9, S82r10, R82, hs, he, FzW9u0, ↓Ev.P, Ev.Q, Ev.Z, simprocAttr]
       repeat' (first | with_reducible assumption | refine And.intro ?_ ?_ | intro _ | (rw [Ev.xStp_eq]; simp -dsimp -implicitDefEqProofs only [List.length_append, S82, S82_0, S82r1, S82_1, S82r2, S82_2, S82r3, S82_3, S82r4, S82_4, S82r5, S82_5, S82r6, S82_6, S82r7, S82_7, S82r8, S82_8, S82r9, S82_9, S82r10, R82, hs, he, FzW9u0, ↓Ev.P, Ev.Q, Ev.Z, simprocAttr]))
       all_goals try omega
       all_goals exact hk _ _ _ _ _ [] (by simp)
     · have _t := trivial
       simp -dsimp -implicitDefEqProofs only [List.length_append, S82, S82_0, S82r1, S82_1, S82r2, S82_2, S82r3, S82_3, S82r4, S82_4, S82r5, S82_5, S82r6, S82_6, S82r7, S82_7, S82r8, S82_8, S82r9, S82_9, S82r10, R82, hs, he, FzW9u0, ↓Ev.P, Ev.Q, Ev.Z, simprocAttr]
       repeat' (first | with_reducible assumption | refine And.intro ?_ ?_ | intro _ | (rw [Ev.xStp_eq]; simp -dsimp -implicitDefEqProofs only [List.length_append, S82, S82_0, S82r1, S82_1, S82r2, S82_2, S82r3, S82_3, S82r4, S82_4, S82r5, S82_5, S82r6, S82_6, S82r7, S82_7, S82r8, S82_8, S82r9, S82_9, S82r10, R82, hs, he, FzW9u0, ↓Ev.P, Ev.Q, Ev.Z, simprocAttr]))
       all_goals try omega
       all_goals exact hk _ _ _ _ _ [] (by simp)
 | ok x =>
   obtain ⟨s, a⟩ := x
   have hn := nx_next_ok fa hx
   obtain ⟨rfl, hlt, hs⟩ := nextL_le hx
   have hsz := hL _ (getD_in hlt)
   have hsl : s.length ≤ 1099511627776 := by rw [hs]; exact Nat.le_trans (bare_len _) hsz
   rw [hx] at hk; dsimp only at hk
   clear hs hx hsz
   have ec : ((k0 + 1 : Nat) : Int) = (k0 : Int) + 1 := by omega
   cases hcm : hdU s with
   | none =>
     have hcA : hdAR s = .tup [.agg [.d (.v (.int .i64 (hdR s).1)), .d (.v (.int .i64 (hdR s).2.1)), .d (.v (.int .i64 (hdR s).2.2.1)), .d (.v (.int .i64 (hdR s).2.2.2)), .own 0], .d (.v (.bool false))] := by rw [hdAR, hcm]; rfl
     have hbd := hdR_bd s
     generalize hdR s = c at hcA hbd
     obtain ⟨A, AN, B, BN⟩ := c
     dsimp only at hcA hbd
     obtain ⟨⟨d1, d2⟩, d3, d4⟩ := hbd
     rw [hcm] at hk; dsimp only [hkRU] at hk; simp only [ec] at hk
     have he : ¬ (3 : Int) = 0 := by decide
     simp -dsimp -implicitDefEqProofs only [List.length_append, S82, S82_0, S82r1, S82_1, S82r2, S82_2, S82r3, S82_3, S82r4, S82_4, S82r5, S82_5, S82r6, S82_6, S82r7, S82_7, S82r8, S82_8, S82r9, S82_9, S82r10, R82, hn, hcA, FzW9u0, ↓Ev.P, Ev.Q, Ev.Z, simprocAttr]
     repeat' (first | with_reducible assumption | refine And.intro ?_ ?_ | intro _ | (rw [Ev.xStp_eq]; simp -dsimp -implicitDefEqProofs only [List.length_append, S82, S82_0, S82r1, S82_1, S82r2, S82_2, S82r3, S82_3, S82r4, S82_4, S82r5, S82_5, S82r6, S82_6, S82r7, S82_7, S82r8, S82_8, S82r9, S82_9, S82r10, R82, hn, hcA, FzW9u0, ↓Ev.P, Ev.Q, Ev.Z, simprocAttr]))
     all_goals try omega
     refine xLoop_intro (fun n2 st => n2 = 0 ∧ st = ⟨[(0, .ptr 0 0), (4, .ptr 1 0), (6, .d (.v (.int .i64 ((k0 : Int) + 1)))), (7, .ptr 2 0), (9, .d (.v (.int .i64 AN))), (10, .d (.v (.int .i64 BN))), (11, .d (.v (.bool false)))], 4, [(0, .cells t [.d (.sl (strRows L)), .d (.v (.int .i64 ((k0 : Int) + 1))), .d (.v (.int .i64 ((k0 : Int) + 1))), .d (.v (.int .i64 3))]), (1, .cells 47 [.d (.v (.int .i64 0)), .d (.v (.int .i64 0)), .d (.v (.int .i64 0)), .d (.v (.int .i64 0)), .d (.v (.slice none 0 0))]), (2, .cells 47 [.d (.v (.int .i64 A)), .d (.v (.int .i64 AN)), .d (.v (.int .i64 B)), .d (.v (.int .i64 BN)), .own 3]), (3, .row 103 2 (mkRows []))]⟩) 0 [0, 1, 3, 2] ?_ ?_ ?_
     · simp -dsimp -implicitDefEqProofs only [↓Ev.xStp_eq, ↓Ev.P, Ev.Q, Ev.Z, simprocAttr]
     · simp -dsimp -implicitDefEqProofs only [↓Ev.xStp_eq, ↓Ev.P, Ev.Q, Ev.Z, simprocAttr]
       all_goals first | rfl | exact ⟨rfl, rfl⟩ | trivial
     · rintro n2 st2 ⟨rfl, rfl⟩
       by_cases hs : 0 < AN + BN
       · have _t := trivial
         simp -dsimp -implicitDefEqProofs only [List.length_append, S82, S82_0, S82r1, S82_1, S82r2, S82_2, S82r3, S82_3, S82r4, S82_4, S82r5, S82_5, S82r6, S82_6, S82r7, S82_7, S82r8, S82_8, S82r9, S82_9, S82r10, R82, hs, he, FzW9u0, ↓Ev.P, Ev.Q, Ev.Z, simprocAttr]
         repeat' (first | with_reducible assumption | refine And.intro ?_ ?_ | intro _ | (rw [Ev.xStp_eq]; simp -dsimp -implicitDefEqProofs only [List.length_append, S82, S82_0, S82r1, S82_1, S82r2, S82_2, S82r3, S82_3, S82r4, S82_4, S82r5, S82_5, S82r6, S82_6, S82r7, S82_7, S82r8, S82_8, S82r9, S82_9, S82r10, R82, hs, he, FzW9u0, ↓Ev.P, Ev.Q, Ev.Z, simprocAttr]))
         all_goals try omega
         all_goals exact hk _ _ _ _ _ [] (by simp)
       · have _t := trivial
         simp -dsimp -implicitDefEqProofs only [List.length_append, S82, S82_0, S82r1, S82_1, S82r2, S82_2, S82r3, S82_3, S82r4, S82_4, S82r5, S82_5, S82r6, S82_6, S82r7, S82_7, S82r8, S82_8, S82r9, S82_9, S82r10, R82, hs, he, FzW9u0, ↓Ev.P, Ev.Q, Ev.Z, simprocAttr]
         repeat' (first | with_reducible assumption | refine And.intro ?_ ?_ | intro _ | (rw [Ev.xStp_eq]; simp -dsimp -implicitDefEqProofs only [List.length_append, S82, S82_0, S82r1, S82_1, S82r2, S82_2, S82r3, S82_3, S82r4, S82_4, S82r5, S82_5, S82r6, S82_6, S82r7, S82_7, S82r8, S82_8, S82r9, S82_9, S82r10, R82, hs, he, FzW9u0, ↓Ev.P, Ev.Q, Ev.Z, simprocAttr]))
         all_goals try omega
         all_goals exact hk _ _ _ _ _ [] (by simp)
   | some c =>
     have hcA : hdAR s = .tup [.agg [.d (.v (.int .i64 c.1)), .d (.v (.int .i64 c.2.1)), .d (.v (.int .i64 c.2.2.1)), .d (.v (.int .i64 c.2.2.2)), .own 0], .d (.v (.bool true))] := by rw [hdAR, hdR_eq hcm, hcm]; rfl
     obtain ⟨d1, d2, d3, d4⟩ := hdU_bd hcm
     rw [hcm] at hk; dsimp only at hk
     clear hcm
     obtain ⟨A, AN, B, BN⟩ := c
     dsimp only at hcA d1 d2 d3 d4 hk
     by_cases ha : 4096 ≤ ahead
     · rw [if_pos ha] at hk; dsimp only [hkRU] at hk; simp only [ec] at hk
       have he : ¬ (9 : Int) = 0 := by decide
       simp -dsimp -implicitDefEqProofs only [List.length_append, S82, S82_0, S82r1, S82_1, S82r2, S82_2, S82r3, S82_3, S82r4, S82_4, S82r5, S82_5, S82r6, S82_6, S82r7, S82_7, S82r8, S82_8, S82r9, S82_9, S82r10, R82, hn, hcA, ha, FzW9u0, ↓Ev.P, Ev.Q, Ev.Z, simprocAttr]
       repeat' (first | with_reducible assumption | refine And.intro ?_ ?_ | intro _ | (rw [Ev.xStp_eq]; simp -dsimp -implicitDefEqProofs only [List.length_append, S82, S82_0, S82r1, S82_1, S82r2, S82_2, S82r3, S82_3, S82r4, S82_4, S82r5, S82_5, S82r6, S82_6, S82r7, S82_7, S82r8, S82_8, S82r9, S82_9, S82r10, R82, hn, hcA, ha, FzW9u0, ↓Ev.P, Ev.Q, Ev.Z, simprocAttr]))
       all_goals try omega
       refine xLoop_intro (fun n2 st => n2 = 0 ∧ st = ⟨[(0, .ptr 0 0), (4, .ptr 1 0), (6, .d (.v (.int .i64 ((k0 : Int) + 1)))), (7, .ptr 2 0), (9, .d (.v (.int .i64 AN))), (10, .d (.v (.int .i64 BN))), (11, .d (.v (.bool false)))], 4, [(0, .cells t [.d (.sl (strRows L)), .d (.v (.int .i64 ((k0 : Int) + 1))), .d (.v (.int .i64 ((k0 : Int) + 1))), .d (.v (.int .i64 9))]), (1, .cells 47 [.d (.v (.int .i64 0)), .d (.v (.int .i64 0)), .d (.v (.int .i64 0)), .d (.v (.int .i64 0)), .d (.v (.slice none 0 0))]), (2, .cells 47 [.d (.v (.int .i64 A)), .d (.v (.int .i64 AN)), .d (.v (.int .i64 B)), .d (.v (.int .i64 BN)), .own 3]), (3, .row 103 2 (mkRows []))]⟩) 0 [0, 1, 3, 2] ?_ ?_ ?_
       · simp -dsimp -implicitDefEqProofs only [↓Ev.xStp_eq, ↓Ev.P, Ev.Q, Ev.Z, simprocAttr]
       · simp -dsimp -implicitDefEqProofs only [↓Ev.xStp_eq, ↓Ev.P, Ev.Q, Ev.Z, simprocAttr]
         all_goals first | rfl | exact ⟨rfl, rfl⟩ | trivial
       · rintro n2 st2 ⟨rfl, rfl⟩
         by_cases hs : 0 < AN + BN
         · have _t := trivial
           simp -dsimp -implicitDefEqProofs only [List.length_append, S82, S82_0, S82r1, S82_1, S82r2, S82_2, S82r3, S82_3, S82r4, S82_4, S82r5, S82_5, S82r6, S82_6, S82r7, S82_7, S82r8, S82_8, S82r9, S82_9, S82r10, R82, hs, he, FzW9u0, ↓Ev.P, Ev.Q, Ev.Z, simprocAttr]
           repeat' (first | with_reducible assumption | refine And.intro ?_ ?_ | intro _ | (rw [Ev.xStp_eq]; simp -dsimp -implicitDefEqProofs only [List.length_append, S82, S82_0, S82r1, S82_1, S82r2, S82_2, S82r3, S82_3, S82r4, S82_4, S82r5, S82_5, S82r6, S82_6, S82r7, S82_7, S82r8, S82_8, S82r9, S82_9, S82r10, R82, hs, he, FzW9u0, ↓Ev.P, Ev.Q, Ev.Z, simprocAttr]))
           all_goals try omega
           all_goals exact hk _ _ _ _ _ [] (by simp)
         · have _t := trivial
           simp -dsimp -implicitDefEqProofs only [List.length_append, S82, S82_0, S82r1, S82_1, S82r2, S82_2, S82r3, S82_3, S82r4, S82_4, S82r5, S82_5, S82r6, S82_6, S82r7, S82_7, S82r8, S82_8, S82r9, S82_9, S82r10, R82, hs, he, FzW9u0, ↓Ev.P, Ev.Q, Ev.Z, simprocAttr]
           repeat' (first | with_reducible assumption | refine And.intro ?_ ?_ | intro _ | (rw [Ev.xStp_eq]; simp -dsimp -implicitDefEqProofs only [List.length_append, S82, S82_0, S82r1, S82_1, S82r2, S82_2, S82r3, S82_3, S82r4, S82_4, S82r5, S82_5, S82r6, S82_6, S82r7, S82_7, S82r8, S82_8, S82r9, S82_9, S82r10, R82, hs, he, FzW9u0, ↓Ev.P, Ev.Q, Ev.Z, simprocAttr]))
           all_goals try omega
           all_goals exact hk _ _ _ _ _ [] (by simp)
     · rw [if_neg ha] at hk
       by_cases r1 : A < 1 ∧ 0 < AN
       · have q1 : (A = 0) = True := eq_true (by omega)
         have q2 : (0 < AN) = True := eq_true r1.2
         rw [if_pos (.inl r1)] at hk; dsimp only [hkRU] at hk; simp only [ec] at hk
         have he : ¬ (2 : Int) = 0 := by decide
         obtain rfl : A = 0 := by omega
         simp -dsimp -implicitDefEqProofs only [List.length_append, S82, S82_0, S82r1, S82_1, S82r2, S82_2, S82r3, S82_3, S82r4, S82_4, S82r5, S82_5, S82r6, S82_6, S82r7, S82_7, S82r8, S82_8, S82r9, S82_9, S82r10, R82, hn, hcA, ha, q2, FzW9u0, ↓Ev.P, Ev.Q, Ev.Z, simprocAttr]
         repeat' (first | with_reducible assumption | refine And.intro ?_ ?_ | intro _ | (rw [Ev.xStp_eq]; simp -dsimp -implicitDefEqProofs only [List.length_append, S82, S82_0, S82r1, S82_1, S82r2, S82_2, S82r3, S82_3, S82r4, S82_4, S82r5, S82_5, S82r6, S82_6, S82r7, S82_7, S82r8, S82_8, S82r9, S82_9, S82r10, R82, hn, hcA, ha, q2, FzW9u0, ↓Ev.P, Ev.Q, Ev.Z, simprocAttr]))
         all_goals try omega
         refine xLoop_intro (fun n2 st => n2 = 0 ∧ st = ⟨[(0, .ptr 0 0), (4, .ptr 1 0), (6, .d (.v (.int .i64 ((k0 : Int) + 1)))), (7, .ptr 2 0), (9, .d (.v (.int .i64 AN))), (10, .d (.v (.int .i64 BN))), (11, .d (.v (.bool false)))], 4, [(0, .cells t [.d (.sl (strRows L)), .d (.v (.int .i64 ((k0 : Int) + 1))), .d (.v (.int .i64 ((k0 : Int) + 1))), .d (.v (.int .i64 2))]), (1, .cells 47 [.d (.v (.int .i64 0)), .d (.v (.int .i64 0)), .d (.v (.int .i64 0)), .d (.v (.int .i64 0)), .d (.v (.slice none 0 0))]), (2, .cells 47 [.d (.v (.int .i64 0)), .d (.v (.int .i64 AN)), .d (.v (.int .i64 B)), .d (.v (.int .i64 BN)), .own 3]), (3, .row 103 2 (mkRows []))]⟩) 0 [0, 1, 3, 2] ?_ ?_ ?_
         · simp -dsimp -implicitDefEqProofs only [↓Ev.xStp_eq, ↓Ev.P, Ev.Q, Ev.Z, simprocAttr]
         · simp -dsimp -implicitDefEqProofs only [↓Ev.xStp_eq, ↓Ev.P, Ev.Q, Ev.Z, simprocAttr]
           all_goals first | rfl | exact ⟨rfl, rfl⟩ | trivial
         · rintro n2 st2 ⟨rfl, rfl⟩
           by_cases hs : 0 < AN + BN
           · have _t := trivial
             simp -dsimp -implicitDefEqProofs only [List.length_append, S82, S82_0, S82r1, S82_1, S82r2, S82_2, S82r3, S82_3, S82r4, S82_4, S82r5, S82_5, S82r6, S82_6, S82r7, S82_7, S82r8, S82_8, S82r9, S82_9, S82r10, R82, hs, he, FzW9u0, ↓Ev.P, Ev.Q, Ev.Z, simprocAttr]
             repeat' (first | with_reducible assumption | refine And.intro ?_ ?_ | intro _ | (rw [Ev.xStp_eq]; simp -dsimp -implicitDefEqProofs only [List.length_append, S82, S82_0, S82r1, S82_1, S82r2, S82_2, S82r3, S82_3, S82r4, S82_4, S82r5, S82_5, S82r6, S82_6, S82r7, S82_7, S82r8, S82_8, S82r9, S82_9, S82r10, R82, hs, he, FzW9u0, ↓Ev.P, Ev.Q, Ev.Z, simprocAttr]))
             all_goals try omega
             all_goals exact hk _ _ _ _ _ [] (by simp)
           · have _t := trivial
             simp -dsimp -implicitDefEqProofs only [List.length_append, S82, S82_0, S82r1, S82_1, S82r2, S82_2, S82r3, S82_3, S82r4, S82_4, S82r5, S82_5, S82r6, S82_6, S82r7, S82_7, S82r8, S82_8, S82r9, S82_9, S82r10, R82, hs, he, FzW9u0, ↓Ev.P, Ev.Q, Ev.Z, simprocAttr]
             repeat' (first | with_reducible assumption | refine And.intro ?_ ?_ | intro _ | (rw [Ev.xStp_eq]; simp -dsimp -implicitDefEqProofs only [List.length_append, S82, S82_0, S82r1, S82_1, S82r2, S82_2, S82r3, S82_3, S82r4, S82_4, S82r5, S82_5, S82r6, S82_6, S82r7, S82_7, S82r8, S82_8, S82r9, S82_9, S82r10, R82, hs, he, FzW9u0, ↓Ev.P, Ev.Q, Ev.Z, simprocAttr]))
             all_goals try omega
             all_goals exact hk _ _ _ _ _ [] (by simp)
       · by_cases r2 : B < 1 ∧ 0 < BN
         · obtain rfl : B = 0 := by omega
           have q2 : (0 < BN) = True := eq_true r2.2
           rw [if_pos (.inr r2)] at hk; dsimp only [hkRU] at hk; simp only [ec] at hk
           have he : ¬ (2 : Int) = 0 := by decide
           simp -dsimp -implicitDefEqProofs only [List.length_append, S82, S82_0, S82r1, S82_1, S82r2, S82_2, S82r3, S82_3, S82r4, S82_4, S82r5, S82_5, S82r6, S82_6, S82r7, S82_7, S82r8, S82_8, S82r9, S82_9, S82r10, R82, hn, hcA, ha, q2, FzW9u0, ↓Ev.P, Ev.Q, Ev.Z, simprocAttr]
           repeat' (first | with_reducible assumption | refine And.intro ?_ ?_ | intro _ | (rw [Ev.xStp_eq]; simp -dsimp -implicitDefEqProofs only [List.length_append, S82, S82_0, S82r1, S82_1, S82r2, S82_2, S82r3, S82_3, S82r4, S82_4, S82r5, S82_5, S82r6, S82_6, S82r7, S82_7, S82r8, S82_8, S82r9, S82_9, S82r10, R82, hn, hcA, ha, q2, FzW9u0, ↓Ev.P, Ev.Q, Ev.Z, simprocAttr]))
           all_goals try omega
           refine xLoop_intro (fun n2 st => n2 = 0 ∧ st = ⟨[(0, .ptr 0 0), (4, .ptr 1 0), (6, .d (.v (.int .i64 ((k0 : Int) + 1)))), (7, .ptr 2 0), (9, .d (.v (.int .i64 AN))), (10, .d (.v (.int .i64 BN))), (11, .d (.v (.bool false)))], 4, [(0, .cells t [.d (.sl (strRows L)), .d (.v (.int .i64 ((k0 : Int) + 1))), .d (.v (.int .i64 ((k0 : Int) + 1))), .d (.v (.int .i64 2))]), (1, .cells 47 [.d (.v (.int .i64 0)), .d (.v (.int .i64 0)), .d (.v (.int .i64 0)), .d (.v (.int .i64 0)), .d (.v (.slice none 0 0))]), (2, .cells 47 [.d (.v (.int .i64 A)), .d (.v (.int .i64 AN)), .d (.v (.int .i64 0)), .d (.v (.int .i64 BN)), .own 3]), (3, .row 103 2 (mkRows []))]⟩) 0 [0, 1, 3, 2] ?_ ?_ ?_
           · simp -dsimp -implicitDefEqProofs only [↓Ev.xStp_eq, ↓Ev.P, Ev.Q, Ev.Z, simprocAttr]
           · simp -dsimp -implicitDefEqProofs only [↓Ev.xStp_eq, ↓Ev.P, Ev.Q, Ev.Z, simprocAttr]
             all_goals first | rfl | exact ⟨rfl, rfl⟩ | trivial
           · rintro n2 st2 ⟨rfl, rfl⟩
             by_cases hs : 0 < AN + BN
             · have _t := trivial
               simp -dsimp -implicitDefEqProofs only [List.length_append, S82, S82_0, S82r1, S82_1, S82r2, S82_2, S82r3, S82_3, S82r4, S82_4, S82r5, S82_5, S82r6, S82_6, S82r7, S82_7, S82r8, S82_8, S82r9, S82_9, S82r10, R82, hs, he, FzW9u0, ↓Ev.P, Ev.Q, Ev.Z, simprocAttr]
               repeat' (first | with_reducible assumption | refine And.intro ?_ ?_ | intro _ | (rw [Ev.xStp_eq]; simp -dsimp -implicitDefEqProofs only [List.length_append, S82, S82_0, S82r1, S82_1, S82r2, S82_2, S82r3, S82_3, S82r4, S82_4, S82r5, S82_5, S82r6, S82_6, S82r7, S82_7, S82r8, S82_8, S82r9, S82_9, S82r10, R82, hs, he, FzW9u0, ↓Ev.P, Ev.Q, Ev.Z, simprocAttr]))
               all_goals try omega
               all_goals exact hk _ _ _ _ _ [] (by simp)
             · have _t := trivial
               simp -dsimp -implicitDefEqProofs only [List.length_append, S82, S82_0, S82r1, S82_1, S82r2, S82_2, S82r3, S82_3, S82r4, S82_4, S82r5, S82_5, S82r6, S82_6, S82r7, S82_7, S82r8, S82_8, S82r9, S82_9, S82r10, R82, hs, he, FzW9u0, ↓Ev.P, Ev.Q, Ev.Z, simprocAttr]
               repeat' (first | with_reducible assumption | refine And.intro ?_ ?_ | intro _ | (rw [Ev.xStp_eq]; simp -dsimp -implicitDefEqProofs only [List.length_append, S82, S82_0, S82r1, S82_1, S82r2, S82_2, S82r3, S82_3, S82r4, S82_4, S82r5, S82_5, S82r6, S82_6, S82r7, S82_7, S82r8, S82_8, S82r9, S82_9, S82r10, R82, hs, he, FzW9u0, ↓Ev.P, Ev.Q, Ev.Z, simprocAttr]))
               all_goals try omega
               all_goals exact hk _ _ _ _ _ [] (by simp)
         · rw [if_neg (fun h => h.elim r1 r2)] at hk
           generalize hY : lnsU L (AN + BN).toNat AN BN (k0 + 1) [] = Y at hk
           simp -dsimp -implicitDefEqProofs only [List.length_append, S82, S82_0, S82r1, S82_1, S82r2, S82_2, S82r3, S82_3, S82r4, S82_4, S82r5, S82_5, S82r6, S82_6, S82r7, S82_7, S82r8, S82_8, S82r9, S82_9, S82r10, R82, hn, hcA, ha, FzW9u0, ↓Ev.P, Ev.Q, Ev.Z, simprocAttr]
           repeat' (first | with_reducible assumption | refine And.intro ?_ ?_ | intro _ | (rw [Ev.xStp_eq]; simp -dsimp -implicitDefEqProofs only [List.length_append, S82, S82_0, S82r1, S82_1, S82r2, S82_2, S82r3, S82_3, S82r4, S82_4, S82r5, S82_5, S82r6, S82_6, S82r7, S82_7, S82r8, S82_8, S82r9, S82_9, S82r10, R82, hn, hcA, ha, FzW9u0, ↓Ev.P, Ev.Q, Ev.Z, simprocAttr]))
           all_goals try omega
           refine xLoop_intro (fun n2 st => (∃ (o f : Int) (at_ : Nat) (ms : List Mk) (b : Bool), ((0 ≤ o ∧ o ≤ 2147483647) ∧ 0 ≤ f ∧ f ≤ 2147483647) ∧ o + f ≤ n2 ∧ at_ ≤ L.length ∧ ms.length ≤ at_ ∧ b = ms.any chgM ∧ lnsU L n2 o f at_ ms = Y ∧ st = ⟨[(0, .ptr 0 0), (4, .ptr 1 0), (6, .d (.v (.int .i64 ((k0 : Int) + 1)))), (7, .ptr 2 0), (9, .d (.v (.int .i64 o))), (10, .d (.v (.int .i64 f))), (11, .d (.v (.bool b)))], 4, [(0, .cells t [.d (.sl (strRows L)), .d (.v (.int .i64 (at_ : Nat))), .d (.v (.int .i64 fa)), .d (.v (.int .i64 0))]), (1, .cells 47 [.d (.v (.int .i64 0)), .d (.v (.int .i64 0)), .d (.v (.int .i64 0)), .d (.v (.int .i64 0)), .d (.v (.slice none 0 0))]), (2, .cells 47 [.d (.v (.int .i64 A)), .d (.v (.int .i64 AN)), .d (.v (.int .i64 B)), .d (.v (.int .i64 BN)), .own 3]), (3, .row 103 2 (mkRows ms))]⟩) ∨ (n2 = 0 ∧ ∃ (a e : Int) (ms : List Mk), ¬ e = 0 ∧ ms.length ≤ 8589934592 ∧ Y = .error (a, e) ∧ st = ⟨[(0, .ptr 0 0), (4, .ptr 1 0), (6, .d (.v (.int .i64 ((k0 : Int) + 1)))), (7, .ptr 2 0), (9, .d (.v (.int .i64 0))), (10, .d (.v (.int .i64 0))), (11, .d (.v (.bool true)))], 4, [(0, .cells t [.d (.sl (strRows L)), .d (.v (.int .i64 a)), .d (.v (.int .i64 a)), .d (.v (.int .i64 e))]), (1, .cells 47 [.d (.v (.int .i64 0)), .d (.v (.int .i64 0)), .d (.v (.int .i64 0)), .d (.v (.int .i64 0)), .d (.v (.slice none 0 0))]), (2, .cells 47 [.d (.v (.int .i64 A)), .d (.v (.int .i64 AN)), .d (.v (.int .i64 B)), .d (.v (.int .i64 BN)), .own 3]), (3, .row 103 2 (mkRows ms))]⟩)) (AN + BN).toNat [0, 1, 3, 2] ?_ ?_ ?_
           · simp -dsimp -implicitDefEqProofs only [↓Ev.xStp_eq, ↓Ev.P, Ev.Q, Ev.Z, simprocAttr]
           · simp -dsimp -implicitDefEqProofs only [↓Ev.xStp_eq, ↓Ev.P, Ev.Q, Ev.Z, simprocAttr]
             refine .inl ⟨AN, BN, k0 + 1, [], false, ⟨d2, d4⟩, by omega, by omega, by simp, rfl, hY, ?_⟩
             all_goals rfl
           · rintro n2 st2 (⟨o, f, at_, ms, b, ⟨⟨o0, o1⟩, f0, f1⟩, hn2, hat, hml, hb, hgo, rfl⟩ | ⟨rfl, a, e, ms, he, hml, hYe, rfl⟩)
             · by_cases h0 : o = 0 ∧ f = 0
               · obtain ⟨rfl, rfl⟩ := h0
                 have hgo2 : Y = .ok (ms, at_) := by
                   rw [← hgo]; cases n2 with
                   | zero => rfl
                   | succ n => rw [lnsU, if_pos ⟨rfl, rfl⟩]
                 rw [hgo2] at hk; dsimp only at hk
                 cases b with
                 | true =>
                   rw [if_pos hb.symm] at hk; dsimp only [hkRU] at hk
                   simp -dsimp -implicitDefEqProofs only [List.length_append, S82, S82_0, S82r1, S82_1, S82r2, S82_2, S82r3, S82_3, S82r4, S82_4, S82r5, S82_5, S82r6, S82_6, S82r7, S82_7, S82r8, S82_8, S82r9, S82_9, S82r10, R82, FzW9u0, ↓Ev.P, Ev.Q, Ev.Z, simprocAttr]
                   repeat' (first | with_reducible assumption | refine And.intro ?_ ?_ | intro _ | (rw [Ev.xStp_eq]; simp -dsimp -implicitDefEqProofs only [List.length_append, S82, S82_0, S82r1, S82_1, S82r2, S82_2, S82r3, S82_3, S82r4, S82_4, S82r5, S82_5, S82r6, S82_6, S82r7, S82_7, S82r8, S82_8, S82r9, S82_9, S82r10, R82, FzW9u0, ↓Ev.P, Ev.Q, Ev.Z, simprocAttr]))
                   all_goals try omega
                   all_goals exact hk
                 | false =>
                   rw [if_neg (by rw [← hb]; decide)] at hk; dsimp only [hkRU] at hk; simp only [ec] at hk
                   simp -dsimp -implicitDefEqProofs only [List.length_append, S82, S82_0, S82r1, S82_1, S82r2, S82_2, S82r3, S82_3, S82r4, S82_4, S82r5, S82_5, S82r6, S82_6, S82r7, S82_7, S82r8, S82_8, S82r9, S82_9, S82r10, R82, FzW9u0, ↓Ev.P, Ev.Q, Ev.Z, simprocAttr]
                   repeat' (first | with_reducible assumption | refine And.intro ?_ ?_ | intro _ | (rw [Ev.xStp_eq]; simp -dsimp -implicitDefEqProofs only [List.length_append, S82, S82_0, S82r1, S82_1, S82r2, S82_2, S82r3, S82_3, S82r4, S82_4, S82r5, S82_5, S82r6, S82_6, S82r7, S82_7, S82r8, S82_8, S82r9, S82_9, S82r10, R82, FzW9u0, ↓Ev.P, Ev.Q, Ev.Z, simprocAttr]))
                   all_goals try omega
                   all_goals exact hk _ _ _ _ _ ms (by omega)
               · obtain ⟨n3, rfl⟩ : ∃ m, n2 = m + 1 := ⟨n2 - 1, by omega⟩
                 rw [lnsU, if_neg h0] at hgo
                 have hs : 0 < o + f := by omega
                 cases hl : lnU L o f at_ with
                 | error xe =>
                   obtain ⟨xa, xe⟩ := xe
                   have hxe := lnU_err hl
                   rw [hl] at hgo; dsimp only at hgo
                   cases b with
                   | true =>
                     simp -dsimp -implicitDefEqProofs only [List.length_append, S82, S82_0, S82r1, S82_1, S82r2, S82_2, S82r3, S82_3, S82r4, S82_4, S82r5, S82_5, S82r6, S82_6, S82r7, S82_7, S82r8, S82_8, S82r9, S82_9, S82r10, R82, hs, hl, hxe, FzW9u0, ↓Ev.P, Ev.Q, Ev.Z, simprocAttr]
                     repeat' (first | with_reducible assumption | refine And.intro ?_ ?_ | intro _ | (rw [Ev.xStp_eq]; simp -dsimp -implicitDefEqProofs only [List.length_append, S82, S82_0, S82r1, S82_1, S82r2, S82_2, S82r3, S82_3, S82r4, S82_4, S82r5, S82_5, S82r6, S82_6, S82r7, S82_7, S82r8, S82_8, S82r9, S82_9, S82r10, R82, hs, hl, hxe, FzW9u0, ↓Ev.P, Ev.Q, Ev.Z, simprocAttr]))
                     all_goals try omega
                     all_goals refine xAgain_intro 0 [0, 1, 2, 6] (by omega) (by simp -dsimp -implicitDefEqProofs only [↓Ev.xStp_eq, ↓Ev.P, Ev.Q, Ev.Z, simprocAttr]) (.inr ⟨rfl, xa, xe, ms ++ [(0, [])], hxe, by rw [List.length_append, List.length_singleton]; omega, hgo.symm, ?_⟩)
                     all_goals rw [← mkRows_snoc]
                     all_goals simp -dsimp -implicitDefEqProofs only [↓Ev.xStp_eq, ↓Ev.P, Ev.Q, Ev.Z, simprocAttr]
                     all_goals rfl
                   | false =>
                     simp -dsimp -implicitDefEqProofs only [List.length_append, S82, S82_0, S82r1, S82_1, S82r2, S82_2, S82r3, S82_3, S82r4, S82_4, S82r5, S82_5, S82r6, S82_6, S82r7, S82_7, S82r8, S82_8, S82r9, S82_9, S82r10, R82, hs, hl, hxe, FzW9u0, ↓Ev.P, Ev.Q, Ev.Z, simprocAttr]
                     repeat' (first | with_reducible assumption | refine And.intro ?_ ?_ | intro _ | (rw [Ev.xStp_eq]; simp -dsimp -implicitDefEqProofs only [List.length_append, S82, S82_0, S82r1, S82_1, S82r2, S82_2, S82r3, S82_3, S82r4, S82_4, S82r5, S82_5, S82r6, S82_6, S82r7, S82_7, S82r8, S82_8, S82r9, S82_9, S82r10, R82, hs, hl, hxe, FzW9u0, ↓Ev.P, Ev.Q, Ev.Z, simprocAttr]))
                     all_goals try omega
                     all_goals refine xAgain_intro 0 [0, 1, 2, 6] (by omega) (by simp -dsimp -implicitDefEqProofs only [↓Ev.xStp_eq, ↓Ev.P, Ev.Q, Ev.Z, simprocAttr]) (.inr ⟨rfl, xa, xe, ms ++ [(0, [])], hxe, by rw [List.length_append, List.length_singleton]; omega, hgo.symm, ?_⟩)
                     all_goals rw [← mkRows_snoc]
                     all_goals simp -dsimp -implicitDefEqProofs only [↓Ev.xStp_eq, ↓Ev.P, Ev.Q, Ev.Z, simprocAttr]
                     all_goals rfl
                 | ok x =>
                   obtain ⟨⟨⟨sg, tx⟩, o', f'⟩, a1⟩ := x
                   obtain ⟨⟨g1, g2⟩, ⟨g3, g4⟩, g5, g6, g7⟩ := lnU_le hl o0 f0
                   have hcap := any_snocM ms (sg, tx)
                   rw [hl] at hgo; dsimp only at hgo
                   cases b with
                   | true =>
                     rw [← hb] at hcap
                     simp -dsimp -implicitDefEqProofs only [List.length_append, S82, S82_0, S82r1, S82_1, S82r2, S82_2, S82r3, S82_3, S82r4, S82_4, S82r5, S82_5, S82r6, S82_6, S82r7, S82_7, S82r8, S82_8, S82r9, S82_9, S82r10, R82, hs, hl, FzW9u0, ↓Ev.P, Ev.Q, Ev.Z, simprocAttr]
                     repeat' (first | with_reducible assumption | refine And.intro ?_ ?_ | intro _ | (rw [Ev.xStp_eq]; simp -dsimp -implicitDefEqProofs only [List.length_append, S82, S82_0, S82r1, S82_1, S82r2, S82_2, S82r3, S82_3, S82r4, S82_4, S82r5, S82_5, S82r6, S82_6, S82r7, S82_7, S82r8, S82_8, S82r9, S82_9, S82r10, R82, hs, hl, FzW9u0, ↓Ev.P, Ev.Q, Ev.Z, simprocAttr]))
                     all_goals try omega
                     all_goals refine xAgain_intro n3 [0, 1, 2, 6] (by omega) (by simp -dsimp -implicitDefEqProofs only [↓Ev.xStp_eq, ↓Ev.P, Ev.Q, Ev.Z, simprocAttr]) (.inl ⟨o', f', a1, ms ++ [(sg, tx)], true, ⟨⟨g3, by omega⟩, g4, by omega⟩, by omega, g2, by rw [List.length_append, List.length_singleton]; omega, by rw [hcap]; rfl, hgo, ?_⟩)
                     all_goals rw [← mkRows_snoc]
                     all_goals simp -dsimp -implicitDefEqProofs only [↓Ev.xStp_eq, ↓Ev.P, Ev.Q, Ev.Z, simprocAttr]
                     all_goals rfl
                   | false =>
                     rw [← hb] at hcap
                     by_cases h32 : sg = 32
                     · have hch : chgM (sg, tx) = false := by simp [chgM, h32]
                       rw [hch] at hcap
                       subst h32
                       simp -dsimp -implicitDefEqProofs only [List.length_append, S82, S82_0, S82r1, S82_1, S82r2, S82_2, S82r3, S82_3, S82r4, S82_4, S82r5, S82_5, S82r6, S82_6, S82r7, S82_7, S82r8, S82_8, S82r9, S82_9, S82r10, R82, hs, hl, FzW9u0, ↓Ev.P, Ev.Q, Ev.Z, simprocAttr]
                       repeat' (first | with_reducible assumption | refine And.intro ?_ ?_ | intro _ | (rw [Ev.xStp_eq]; simp -dsimp -implicitDefEqProofs only [List.length_append, S82, S82_0, S82r1, S82_1, S82r2, S82_2, S82r3, S82_3, S82r4, S82_4, S82r5, S82_5, S82r6, S82_6, S82r7, S82_7, S82r8, S82_8, S82r9, S82_9, S82r10, R82, hs, hl, FzW9u0, ↓Ev.P, Ev.Q, Ev.Z, simprocAttr]))
                       all_goals try omega
                       all_goals refine xAgain_intro n3 [0, 1, 2, 6] (by omega) (by simp -dsimp -implicitDefEqProofs only [↓Ev.xStp_eq, ↓Ev.P, Ev.Q, Ev.Z, simprocAttr]) (.inl ⟨o', f', a1, ms ++ [(32, tx)], false, ⟨⟨g3, by omega⟩, g4, by omega⟩, by omega, g2, by rw [List.length_append, List.length_singleton]; omega, by rw [hcap]; rfl, hgo, ?_⟩)
                       all_goals rw [← mkRows_snoc]
                       all_goals simp -dsimp -implicitDefEqProofs only [↓Ev.xStp_eq, ↓Ev.P, Ev.Q, Ev.Z, simprocAttr]
                       all_goals rfl
                     · have hch : chgM (sg, tx) = true := by simp [chgM, h32]
                       rw [hch] at hcap
                       simp -dsimp -implicitDefEqProofs only [List.length_append, S82, S82_0, S82r1, S82_1, S82r2, S82_2, S82r3, S82_3, S82r4, S82_4, S82r5, S82_5, S82r6, S82_6, S82r7, S82_7, S82r8, S82_8, S82r9, S82_9, S82r10, R82, hs, hl, h32, FzW9u0, ↓Ev.P, Ev.Q, Ev.Z, simprocAttr]
                       repeat' (first | with_reducible assumption | refine And.intro ?_ ?_ | intro _ | (rw [Ev.xStp_eq]; simp -dsimp -implicitDefEqProofs only [List.length_append, S82, S82_0, S82r1, S82_1, S82r2, S82_2, S82r3, S82_3, S82r4, S82_4, S82r5, S82_5, S82r6, S82_6, S82r7, S82_7, S82r8, S82_8, S82r9, S82_9, S82r10, R82, hs, hl, h32, FzW9u0, ↓Ev.P, Ev.Q, Ev.Z, simprocAttr]))
                       all_goals try omega
                       all_goals refine xAgain_intro n3 [0, 1, 2, 6] (by omega) (by simp -dsimp -implicitDefEqProofs only [↓Ev.xStp_eq, ↓Ev.P, Ev.Q, Ev.Z, simprocAttr]) (.inl ⟨o', f', a1, ms ++ [(sg, tx)], true, ⟨⟨g3, by omega⟩, g4, by omega⟩, by omega, g2, by rw [List.length_append, List.length_singleton]; omega, by rw [hcap]; rfl, hgo, ?_⟩)
                       all_goals rw [← mkRows_snoc]
                       all_goals simp -dsimp -implicitDefEqProofs only [↓Ev.xStp_eq, ↓Ev.P, Ev.Q, Ev.Z, simprocAttr]
                       all_goals rfl
             · rw [hYe] at hk; dsimp only [hkRU] at hk
               simp -dsimp -implicitDefEqProofs only [List.length_append, S82, S82_0, S82r1, S82_1, S82r2, S82_2, S82r3, S82_3, S82r4, S82_4, S82r5, S82_5, S82r6, S82_6, S82r7, S82_7, S82r8, S82_8, S82r9, S82_9, S82r10, R82, he, FzW9u0, ↓Ev.P, Ev.Q, Ev.Z, simprocAttr]
               repeat' (first | with_reducible assumption | refine And.intro ?_ ?_ | intro _ | (rw [Ev.xStp_eq]; simp -dsimp -implicitDefEqProofs only [List.length_append, S82, S82_0, S82r1, S82_1, S82r2, S82_2, S82r3, S82_3, S82r4, S82_4, S82r5, S82_5, S82r6, S82_6, S82r7, S82_7, S82r8, S82_8, S82r9, S82_9, S82r10, R82, he, FzW9u0, ↓Ev.P, Ev.Q, Ev.Z, simprocAttr]))
               all_goals try omega
               all_goals exact hk _ _ _ _ _ ms hml
theorem nmG_errA {p : List UInt8} {L : List (List UInt8)} {k : Nat} {a e : Int} (h : nmG p L k = .error (a, e)) : a = (k : Int) + 1 := by
 unfold nmG at h
 split at h
 · rename_i x hx; cases h; exact (nx_next_err 0 hx).2.1
 · rename_i s a1 e1
   obtain ⟨rfl, _, _⟩ := nextL_le e1
   split at h
   · split at h
     · cases h
     · simp only [Except.error.injEq, Prod.mk.injEq] at h; omega
   · simp only [Except.error.injEq, Prod.mk.injEq] at h; omega
def parRU : Except Fl (List Pt) → SV × Store
 | .ok ps => (.tup [.own 0, .agg [.d (.v (.int .i64 0)), .d (.v (.int .i64 0))]], ⟨1, [(0, .row 55 3 (ptRows ps))]⟩)
 | .error (a, e) => (.tup [.d (.sl []), .agg [.d (.v (.int .i64 a)), .d (.v (.int .i64 e))]], ⟨0, []⟩)
def CParRU (hk : HkF) (bg p1 p2 : List UInt8) : Contract := stC fun args st => match args, st with
 | [.d (.v (.string s))], ⟨0, []⟩ => some (s.size ≤ 1099511627776, parRU (parG hk bg p1 p2 s.data.toList))
 | _, _ => none
theorem FzW12u0 : type_of% (And.intro @impF (And.intro @CRdr.eq_1 (And.intro @CMore.eq_1 (And.intro @CNmR.eq_1 (And.intro @nmR.eq_1 (And.intro @nmR.eq_2 (And.intro @CFail.eq_1 (And.intro @CPeek.eq_1 (And.intro @CHunkRU_wp (And.intro @hkRU.eq_1 (And.intro @hkRU.eq_2 (And.intro @nilS.eq_1 (And.intro @rdr.eq_1 (And.intro @unStr_rows (And.intro @strRows_len (And.intro @ptRows_len (And.intro @ptRows_all (And.intro @ptRows_one (And.intro @hkRows_len (And.intro @hkRows_all (And.intro @hkRows_one (And.intro @mkRows_len (And.intro @mkRows_all (And.intro @Ev.St.giveC.eq_1 (@Ev.St.giveC.eq_2))))))))))))))))))))))))) := And.intro @impF (And.intro @CRdr.eq_1 (And.intro @CMore.eq_1 (And.intro @CNmR.eq_1 (And.intro @nmR.eq_1 (And.intro @nmR.eq_2 (And.intro @CFail.eq_1 (And.intro @CPeek.eq_1 (And.intro @CHunkRU_wp (And.intro @hkRU.eq_1 (And.intro @hkRU.eq_2 (And.intro @nilS.eq_1 (And.intro @rdr.eq_1 (And.intro @unStr_rows (And.intro @strRows_len (And.intro @ptRows_len (And.intro @ptRows_all (And.intro @ptRows_one (And.intro @hkRows_len (And.intro @hkRows_all (And.intro @hkRows_one (And.intro @mkRows_len (And.intro @mkRows_all (And.intro @Ev.St.giveC.eq_1 (@Ev.St.giveC.eq_2))))))))))))))))))))))))
set_option maxHeartbeats 64000000 in
theorem s32 : Sound G Tryz.prog 32 (CParRU hkU [64, 64] [45, 45, 45, 32] [43, 43, 43, 32]) := by
 refine sd32 (T := tabT [(39, CRdr), (40, CMore), (81, CNmR), (43, CFail), (79, CPeek), (82, CHunkRU hkU)]) (tab_cons s39 (tab_cons s40 (tab_cons s81 (tab_cons s43 (tab_cons s79 (tab_cons s82 tab_nil)))))) (stC_lawful _) (st_hX fun args st pp x st' K h hp hk => ?_)
 split at h <;> simp only [Option.some.injEq, Prod.mk.injEq, reduceCtorEq] at h
 obtain ⟨rfl, h2⟩ := h
 rename_i s
 obtain ⟨s, rfl⟩ := ex_str s
 simp only [sem_str] at hp h2
 refine ⟨Nat.le_of_ble_eq_true rfl, ?_⟩
 by_cases h4 : 1048576 < s.length
 · have h5 : parG hkU [64, 64] [45, 45, 45, 32] [43, 43, 43, 32] s = .error (0, 9) := by rw [parG, if_pos h4]
   rw [h5] at h2; simp only [parRU, Prod.mk.injEq] at h2; obtain ⟨rfl, rfl⟩ := h2
   refine ⟨[], ?_⟩
   simp -dsimp -implicitDefEqProofs only [List.length_append, S32, R32, h4, FzW12u0, ↓Ev.P, Ev.Q, Ev.Z, simprocAttr]
   repeat' (first | with_reducible assumption | refine And.intro ?_ ?_ | intro _ | (rw [Ev.xStp_eq]; simp -dsimp -implicitDefEqProofs only [List.length_append, S32, R32, h4, FzW12u0, ↓Ev.P, Ev.Q, Ev.Z, simprocAttr]))
   all_goals try omega
   refine xLoop_intro (fun n st => n = 0 ∧ st = ⟨[(3, .ptr 0 0), (4, .ptr 1 0), (5, .own 2)], 3, [(0, .cells 29 [.d (.v (.int .i64 0)), .d (.v (.int .i64 0))]), (1, .cells 77 [.d (.v (.slice none 0 0)), .d (.v (.int .i64 0)), .d (.v (.int .i64 0)), .d (.v (.int .i64 9))]), (2, .row 55 3 [])]⟩) 0 [0, 1, 2] ?_ ?_ ?_
   · simp -dsimp -implicitDefEqProofs only [↓Ev.xStp_eq, ↓Ev.P, Ev.Q, Ev.Z, simprocAttr]
   · simp -dsimp -implicitDefEqProofs only [nilS, ↓Ev.xStp_eq, ↓Ev.P, Ev.Q, Ev.Z, simprocAttr]
     all_goals first | rfl | exact ⟨rfl, rfl⟩ | trivial
   · rintro n2 st2 ⟨rfl, rfl⟩
     simp -dsimp -implicitDefEqProofs only [List.length_append, S32, R32, FzW12u0, ↓Ev.P, Ev.Q, Ev.Z, simprocAttr]
     repeat' (first | with_reducible assumption | refine And.intro ?_ ?_ | intro _ | (rw [Ev.xStp_eq]; simp -dsimp -implicitDefEqProofs only [List.length_append, S32, R32, FzW12u0, ↓Ev.P, Ev.Q, Ev.Z, simprocAttr]))
     all_goals try omega
     all_goals exact hk
 · have h5 : parG hkU [64, 64] [45, 45, 45, 32] [43, 43, 43, 32] s = psG hkU [64, 64] [45, 45, 45, 32] [43, 43, 43, 32] (lns s) (lns s).length 0 [] := by rw [parG, if_neg h4]
   rw [h5] at h2
   obtain ⟨hLl, hL0⟩ := lns_szN s (by omega)
   have hM := lns_okM s
   generalize hLs : lns s = L at h2 hLl hL0 hM
   have hL : ∀ x ∈ L, x.length ≤ 1099511627776 := fun x hx => Nat.le_trans (hL0 x hx) (by omega)
   have hsm : smL L := ⟨by omega, hL⟩
   have hLt : L.length ≤ 1048576 := hLl
   generalize hY : psG hkU [64, 64] [45, 45, 45, 32] [43, 43, 43, 32] L L.length 0 [] = Y at h2
   have key : ∀ os, (∀ a e, Y = .error (a, e) → os = []) → (∀ pp, Y = .ok pp → os = [2]) → xv (tabT [(39, CRdr), (40, CMore), (81, CNmR), (43, CFail), (79, CPeek), (82, CHunkRU hkU)]) 0 S32 (st0 [.d (.v (.string ⟨s.toArray⟩))] ⟨0, []⟩) (retK R32 0 os K) (panK 0 [] K) := by
     intro os hos1 hos2
     simp -dsimp -implicitDefEqProofs only [List.length_append, S32, R32, h4, hLs, FzW12u0, ↓Ev.P, Ev.Q, Ev.Z, simprocAttr]
     repeat' (first | with_reducible assumption | refine And.intro ?_ ?_ | intro _ | (rw [Ev.xStp_eq]; simp -dsimp -implicitDefEqProofs only [List.length_append, S32, R32, h4, hLs, FzW12u0, ↓Ev.P, Ev.Q, Ev.Z, simprocAttr]))
     all_goals try omega
     refine xLoop_intro (fun n2 st => (∃ (f at_ : Nat) (ps : List Pt), at_ ≤ L.length ∧ n2 = L.length - at_ + 1 ∧ L.length - at_ ≤ f ∧ ps.length ≤ 64 ∧ psG hkU [64, 64] [45, 45, 45, 32] [43, 43, 43, 32] L f at_ ps = Y ∧ st = ⟨[(3, .ptr 0 0), (4, .ptr 1 0), (5, .own 2)], 3, [(0, .cells 29 [.d (.v (.int .i64 0)), .d (.v (.int .i64 0))]), (1, .cells 77 [.d (.sl (strRows L)), .d (.v (.int .i64 (at_ : Nat))), .d (.v (.int .i64 0)), .d (.v (.int .i64 0))]), (2, .row 55 3 (ptRows ps))]⟩) ∨ (n2 = 0 ∧ ∃ (i a e : Int) (rw_ : List (List D)), ¬ e = 0 ∧ Y = .error (a, e) ∧ st = ⟨[(3, .ptr 0 0), (4, .ptr 1 0), (5, .own 2)], 3, [(0, .cells 29 [.d (.v (.int .i64 0)), .d (.v (.int .i64 0))]), (1, .cells 77 [.d (.sl (strRows L)), .d (.v (.int .i64 i)), .d (.v (.int .i64 a)), .d (.v (.int .i64 e))]), (2, .row 55 3 rw_)]⟩)) (L.length + 1) [0, 1, 2] ?_ ?_ ?_
     · simp -dsimp -implicitDefEqProofs only [↓Ev.xStp_eq, ↓Ev.P, Ev.Q, Ev.Z, simprocAttr]
     · simp -dsimp -implicitDefEqProofs only [↓Ev.xStp_eq, ↓Ev.P, Ev.Q, Ev.Z, simprocAttr]
       exact .inl ⟨L.length, 0, [], by omega, by omega, by omega, by simp, hY, rfl⟩
     · rintro n2 st2 (⟨f, at_, ps, hat, rfl, hf, hps, hgo, rfl⟩ | ⟨rfl, i, a, e, rw_, he, hYe, rfl⟩)
       · by_cases hlt : at_ < L.length
         · have hi3 : (at_ : Int) < L.length := by omega
           obtain ⟨f, rfl⟩ : ∃ g, f = g + 1 := ⟨f - 1, by omega⟩
           rw [psG, if_pos hlt] at hgo
           unfold ptG at hgo
           cases hx1 : nmG [45, 45, 45, 32] L at_ with
           | error xe =>
             obtain ⟨xa, xe⟩ := xe
             have hxe := nmG_err hx1
             have hxa := nmG_errA hx1
             rw [hx1] at hgo; dsimp only at hgo
             by_cases h64 : (64 : Int) ≤ (ps.length : Int)
             · have _t := trivial
               simp -dsimp -implicitDefEqProofs only [List.length_append, S32, R32, hi3, hx1, hxe, h64, FzW12u0, ↓Ev.P, Ev.Q, Ev.Z, simprocAttr]
               repeat' (first | with_reducible assumption | refine And.intro ?_ ?_ | intro _ | (rw [Ev.xStp_eq]; simp -dsimp -implicitDefEqProofs only [List.length_append, S32, R32, hi3, hx1, hxe, h64, FzW12u0, ↓Ev.P, Ev.Q, Ev.Z, simprocAttr]))
               all_goals try omega
               all_goals refine xLoop_intro (fun n3 st => n3 = 0 ∧ st = ⟨[(3, .ptr 0 0), (4, .ptr 1 0), (5, .own 2), (6, .ptr 3 0)], 5, [(0, .cells 29 [.d (.v (.int .i64 0)), .d (.v (.int .i64 0))]), (1, .cells 77 [.d (.sl (strRows L)), .d (.v (.int .i64 xa)), .d (.v (.int .i64 xa)), .d (.v (.int .i64 xe))]), (2, .row 55 3 (ptRows ps)), (3, .cells 55 [.d (.v (.string ⟨([] : List UInt8).toArray⟩)), .d (.v (.string ⟨([] : List UInt8).toArray⟩)), .own 4]), (4, .row 47 5 (hkRows []))]⟩) 0 [0, 1, 2, 4, 3] ?_ ?_ ?_
               all_goals try (simp -dsimp -implicitDefEqProofs only [↓Ev.xStp_eq, ↓Ev.P, Ev.Q, Ev.Z, simprocAttr]; done)
               all_goals try (simp -dsimp -implicitDefEqProofs only [↓Ev.xStp_eq, ↓Ev.P, Ev.Q, Ev.Z, simprocAttr]; first | rfl | exact ⟨rfl, rfl⟩ | trivial)
               all_goals
                 rintro n3 st3 ⟨rfl, rfl⟩
                 simp -dsimp -implicitDefEqProofs only [List.length_append, S32, R32, hxe, FzW12u0, ↓Ev.P, Ev.Q, Ev.Z, simprocAttr]
                 repeat' (first | with_reducible assumption | refine And.intro ?_ ?_ | intro _ | (rw [Ev.xStp_eq]; simp -dsimp -implicitDefEqProofs only [List.length_append, S32, R32, hxe, FzW12u0, ↓Ev.P, Ev.Q, Ev.Z, simprocAttr]))
                 all_goals try omega
                 refine xAgain_intro 0 [0, 1, 6] (by omega) (by simp -dsimp -implicitDefEqProofs only [↓Ev.xStp_eq, ↓Ev.P, Ev.Q, Ev.Z, simprocAttr]) (.inr ⟨rfl, xa, xa, xe, ptRows (ps ++ [(([], []), [])]), hxe, hgo.symm, ?_⟩)
                 simp -dsimp -implicitDefEqProofs only [↓Ev.xStp_eq, ↓Ev.P, Ev.Q, Ev.Z, simprocAttr]
                 all_goals rfl
             · have _t := trivial
               simp -dsimp -implicitDefEqProofs only [List.length_append, S32, R32, hi3, hx1, hxe, h64, FzW12u0, ↓Ev.P, Ev.Q, Ev.Z, simprocAttr]
               repeat' (first | with_reducible assumption | refine And.intro ?_ ?_ | intro _ | (rw [Ev.xStp_eq]; simp -dsimp -implicitDefEqProofs only [List.length_append, S32, R32, hi3, hx1, hxe, h64, FzW12u0, ↓Ev.P, Ev.Q, Ev.Z, simprocAttr]))
               all_goals try omega
               all_goals refine xLoop_intro (fun n3 st => n3 = 0 ∧ st = ⟨[(3, .ptr 0 0), (4, .ptr 1 0), (5, .own 2), (6, .ptr 3 0)], 5, [(0, .cells 29 [.d (.v (.int .i64 0)), .d (.v (.int .i64 0))]), (1, .cells 77 [.d (.sl (strRows L)), .d (.v (.int .i64 xa)), .d (.v (.int .i64 xa)), .d (.v (.int .i64 xe))]), (2, .row 55 3 (ptRows ps)), (3, .cells 55 [.d (.v (.string ⟨([] : List UInt8).toArray⟩)), .d (.v (.string ⟨([] : List UInt8).toArray⟩)), .own 4]), (4, .row 47 5 (hkRows []))]⟩) 0 [0, 1, 2, 4, 3] ?_ ?_ ?_
               all_goals try (simp -dsimp -implicitDefEqProofs only [↓Ev.xStp_eq, ↓Ev.P, Ev.Q, Ev.Z, simprocAttr]; done)
               all_goals try (simp -dsimp -implicitDefEqProofs only [↓Ev.xStp_eq, ↓Ev.P, Ev.Q, Ev.Z, simprocAttr]; first | rfl | exact ⟨rfl, rfl⟩ | trivial)
               all_goals
                 rintro n3 st3 ⟨rfl, rfl⟩
                 simp -dsimp -implicitDefEqProofs only [List.length_append, S32, R32, hxe, FzW12u0, ↓Ev.P, Ev.Q, Ev.Z, simprocAttr]
                 repeat' (first | with_reducible assumption | refine And.intro ?_ ?_ | intro _ | (rw [Ev.xStp_eq]; simp -dsimp -implicitDefEqProofs only [List.length_append, S32, R32, hxe, FzW12u0, ↓Ev.P, Ev.Q, Ev.Z, simprocAttr]))
                 all_goals try omega
                 refine xAgain_intro 0 [0, 1, 6] (by omega) (by simp -dsimp -implicitDefEqProofs only [↓Ev.xStp_eq, ↓Ev.P, Ev.Q, Ev.Z, simprocAttr]) (.inr ⟨rfl, xa, xa, xe, ptRows (ps ++ [(([], []), [])]), hxe, hgo.symm, ?_⟩)
                 simp -dsimp -implicitDefEqProofs only [↓Ev.xStp_eq, ↓Ev.P, Ev.Q, Ev.Z, simprocAttr]
                 all_goals rfl
           | ok x =>
             obtain ⟨o, a1⟩ := x
             obtain ⟨rfl, hlt1, ho1⟩ := nmG_le hx1
             rw [hx1] at hgo; dsimp only at hgo
             have ec : ((at_ + 1 : Nat) : Int) = (at_ : Int) + 1 := by omega
             have ec2 : ((at_ : Int) + 1).toNat = at_ + 1 := by omega
             by_cases h64 : (64 : Int) ≤ (ps.length : Int)
             · rw [if_pos h64] at hgo; dsimp only at hgo; simp only [ec] at hgo
               have he9 : ¬ (9 : Int) = 0 := by decide
               simp -dsimp -implicitDefEqProofs only [List.length_append, S32, R32, hi3, hx1, h64, ec, FzW12u0, ↓Ev.P, Ev.Q, Ev.Z, simprocAttr]
               repeat' (first | with_reducible assumption | refine And.intro ?_ ?_ | intro _ | (rw [Ev.xStp_eq]; simp -dsimp -implicitDefEqProofs only [List.length_append, S32, R32, hi3, hx1, h64, ec, FzW12u0, ↓Ev.P, Ev.Q, Ev.Z, simprocAttr]))
               all_goals try omega
               all_goals refine xLoop_intro (fun n3 st => n3 = 0 ∧ st = ⟨[(3, .ptr 0 0), (4, .ptr 1 0), (5, .own 2), (6, .ptr 3 0)], 5, [(0, .cells 29 [.d (.v (.int .i64 0)), .d (.v (.int .i64 0))]), (1, .cells 77 [.d (.sl (strRows L)), .d (.v (.int .i64 ((at_ : Int) + 1))), .d (.v (.int .i64 ((at_ : Int) + 1))), .d (.v (.int .i64 9))]), (2, .row 55 3 (ptRows ps)), (3, .cells 55 [.d (.v (.string ⟨(o : List UInt8).toArray⟩)), .d (.v (.string ⟨([] : List UInt8).toArray⟩)), .own 4]), (4, .row 47 5 (hkRows []))]⟩) 0 [0, 1, 2, 4, 3] ?_ ?_ ?_
               all_goals try (simp -dsimp -implicitDefEqProofs only [↓Ev.xStp_eq, ↓Ev.P, Ev.Q, Ev.Z, simprocAttr]; done)
               all_goals try (simp -dsimp -implicitDefEqProofs only [↓Ev.xStp_eq, ↓Ev.P, Ev.Q, Ev.Z, simprocAttr]; first | rfl | exact ⟨rfl, rfl⟩ | trivial)
               all_goals
                 rintro n3 st3 ⟨rfl, rfl⟩
                 simp -dsimp -implicitDefEqProofs only [List.length_append, S32, R32, he9, FzW12u0, ↓Ev.P, Ev.Q, Ev.Z, simprocAttr]
                 repeat' (first | with_reducible assumption | refine And.intro ?_ ?_ | intro _ | (rw [Ev.xStp_eq]; simp -dsimp -implicitDefEqProofs only [List.length_append, S32, R32, he9, FzW12u0, ↓Ev.P, Ev.Q, Ev.Z, simprocAttr]))
                 all_goals try omega
                 refine xAgain_intro 0 [0, 1, 6] (by omega) (by simp -dsimp -implicitDefEqProofs only [↓Ev.xStp_eq, ↓Ev.P, Ev.Q, Ev.Z, simprocAttr]) (.inr ⟨rfl, ((at_ : Int) + 1), ((at_ : Int) + 1), 9, ptRows (ps ++ [((o, []), [])]), he9, hgo.symm, ?_⟩)
                 simp -dsimp -implicitDefEqProofs only [↓Ev.xStp_eq, ↓Ev.P, Ev.Q, Ev.Z, simprocAttr]
                 all_goals rfl
             · rw [if_neg h64] at hgo
               cases hx2 : nmG [43, 43, 43, 32] L (at_ + 1) with
               | error xe =>
                 obtain ⟨xa, xe⟩ := xe
                 have hxe := nmG_err hx2
                 have hxa := nmG_errA hx2
                 rw [hx2] at hgo; dsimp only at hgo
                 simp -dsimp -implicitDefEqProofs only [List.length_append, S32, R32, hi3, hx1, h64, ec, ec2, hx2, hxe, FzW12u0, ↓Ev.P, Ev.Q, Ev.Z, simprocAttr]
                 repeat' (first | with_reducible assumption | refine And.intro ?_ ?_ | intro _ | (rw [Ev.xStp_eq]; simp -dsimp -implicitDefEqProofs only [List.length_append, S32, R32, hi3, hx1, h64, ec, ec2, hx2, hxe, FzW12u0, ↓Ev.P, Ev.Q, Ev.Z, simprocAttr]))
                 all_goals try omega
                 all_goals refine xLoop_intro (fun n3 st => n3 = 0 ∧ st = ⟨[(3, .ptr 0 0), (4, .ptr 1 0), (5, .own 2), (6, .ptr 3 0)], 5, [(0, .cells 29 [.d (.v (.int .i64 0)), .d (.v (.int .i64 0))]), (1, .cells 77 [.d (.sl (strRows L)), .d (.v (.int .i64 xa)), .d (.v (.int .i64 xa)), .d (.v (.int .i64 xe))]), (2, .row 55 3 (ptRows ps)), (3, .cells 55 [.d (.v (.string ⟨(o : List UInt8).toArray⟩)), .d (.v (.string ⟨([] : List UInt8).toArray⟩)), .own 4]), (4, .row 47 5 (hkRows []))]⟩) 0 [0, 1, 2, 4, 3] ?_ ?_ ?_
                 all_goals try (simp -dsimp -implicitDefEqProofs only [↓Ev.xStp_eq, ↓Ev.P, Ev.Q, Ev.Z, simprocAttr]; done)
                 all_goals try (simp -dsimp -implicitDefEqProofs only [↓Ev.xStp_eq, ↓Ev.P, Ev.Q, Ev.Z, simprocAttr]; first | rfl | exact ⟨rfl, rfl⟩ | trivial)
                 all_goals
                   rintro n3 st3 ⟨rfl, rfl⟩
                   simp -dsimp -implicitDefEqProofs only [List.length_append, S32, R32, hxe, FzW12u0, ↓Ev.P, Ev.Q, Ev.Z, simprocAttr]
                   repeat' (first | with_reducible assumption | refine And.intro ?_ ?_ | intro _ | (rw [Ev.xStp_eq]; simp -dsimp -implicitDefEqProofs only [List.length_append, S32, R32, hxe, FzW12u0, ↓Ev.P, Ev.Q, Ev.Z, simprocAttr]))
                   all_goals try omega
                   refine xAgain_intro 0 [0, 1, 6] (by omega) (by simp -dsimp -implicitDefEqProofs only [↓Ev.xStp_eq, ↓Ev.P, Ev.Q, Ev.Z, simprocAttr]) (.inr ⟨rfl, xa, xa, xe, ptRows (ps ++ [((o, []), [])]), hxe, hgo.symm, ?_⟩)
                   simp -dsimp -implicitDefEqProofs only [↓Ev.xStp_eq, ↓Ev.P, Ev.Q, Ev.Z, simprocAttr]
                   all_goals rfl
               | ok x =>
                 obtain ⟨nn, a2⟩ := x
                 obtain ⟨rfl, hlt2, ho2⟩ := nmG_le hx2
                 rw [hx2] at hgo; dsimp only at hgo
                 generalize hYh : hksG hkU [64, 64] L (L.length + 1) (at_ + 1 + 1) [] = Yh at hgo
                 simp -dsimp -implicitDefEqProofs only [List.length_append, S32, R32, hi3, hx1, h64, ec, ec2, hx2, FzW12u0, ↓Ev.P, Ev.Q, Ev.Z, simprocAttr]
                 repeat' (first | with_reducible assumption | refine And.intro ?_ ?_ | intro _ | (rw [Ev.xStp_eq]; simp -dsimp -implicitDefEqProofs only [List.length_append, S32, R32, hi3, hx1, h64, ec, ec2, hx2, FzW12u0, ↓Ev.P, Ev.Q, Ev.Z, simprocAttr]))
                 all_goals try omega
                 refine xLoop_intro (fun n3 st => (∃ (g b : Nat) (hs : List Hk), at_ + 1 < b ∧ b ≤ L.length ∧ n3 = L.length - b + 1 ∧ L.length - b + 1 ≤ g ∧ hs.length ≤ 4096 ∧ hksG hkU [64, 64] L g b hs = Yh ∧ st = ⟨[(3, .ptr 0 0), (4, .ptr 1 0), (5, .own 2), (6, .ptr 3 0)], 5, [(0, .cells 29 [.d (.v (.int .i64 0)), .d (.v (.int .i64 0))]), (1, .cells 77 [.d (.sl (strRows L)), .d (.v (.int .i64 (b : Nat))), .d (.v (.int .i64 0)), .d (.v (.int .i64 0))]), (2, .row 55 3 (ptRows ps)), (3, .cells 55 [.d (.v (.string ⟨(o : List UInt8).toArray⟩)), .d (.v (.string ⟨(nn : List UInt8).toArray⟩)), .own 4]), (4, .row 47 5 (hkRows hs))]⟩) ∨ (n3 = 0 ∧ ∃ (i a e : Int) (hs : List Hk), ¬ e = 0 ∧ hs.length ≤ 4097 ∧ Yh = .error (a, e) ∧ st = ⟨[(3, .ptr 0 0), (4, .ptr 1 0), (5, .own 2), (6, .ptr 3 0)], 5, [(0, .cells 29 [.d (.v (.int .i64 0)), .d (.v (.int .i64 0))]), (1, .cells 77 [.d (.sl (strRows L)), .d (.v (.int .i64 i)), .d (.v (.int .i64 a)), .d (.v (.int .i64 e))]), (2, .row 55 3 (ptRows ps)), (3, .cells 55 [.d (.v (.string ⟨(o : List UInt8).toArray⟩)), .d (.v (.string ⟨(nn : List UInt8).toArray⟩)), .own 4]), (4, .row 47 5 (hkRows hs))]⟩)) (L.length - (at_ + 1 + 1) + 1) [0, 1, 2, 4, 3] ?_ ?_ ?_
                 · simp -dsimp -implicitDefEqProofs only [↓Ev.xStp_eq, ↓Ev.P, Ev.Q, Ev.Z, simprocAttr]
                 · simp -dsimp -implicitDefEqProofs only [↓Ev.xStp_eq, ↓Ev.P, Ev.Q, Ev.Z, simprocAttr]
                   exact .inl ⟨L.length + 1, at_ + 1 + 1, [], by omega, by omega, by omega, by omega, by simp, hYh, rfl⟩
                 · rintro n3 st3 (⟨g, b, hs, hb0, hb, rfl, hg, hhs, hgh, rfl⟩ | ⟨rfl, i, a, e, hs, he, hhs, hYe, rfl⟩)
                   · obtain ⟨g, rfl⟩ : ∃ q, g = q + 1 := ⟨g - 1, by omega⟩
                     by_cases hne : hs = []
                     · subst hne
                       rw [hksG, if_pos (by rfl)] at hgh
                       have e0 : ((([] : List Hk).length : Nat) : Int) = 0 := rfl
                       rw [e0] at hgh
                       cases hx : hkU L 0 b with
                       | error xe =>
                         obtain ⟨xa, xe⟩ := xe
                         have hxe := hkU_ok.err hx
                         rw [hx] at hgh; dsimp only at hgh
                         simp -dsimp -implicitDefEqProofs only [List.length_append, S32, R32, e0, hx, hxe, FzW12u0, ↓Ev.P, Ev.Q, Ev.Z, simprocAttr]
                         repeat' (first | with_reducible assumption | refine And.intro ?_ ?_ | intro _ | (rw [Ev.xStp_eq]; simp -dsimp -implicitDefEqProofs only [List.length_append, S32, R32, e0, hx, hxe, FzW12u0, ↓Ev.P, Ev.Q, Ev.Z, simprocAttr]))
                         all_goals try omega
                         all_goals rename_i ri rA rAN rB rBN rms hrms
                         all_goals refine xAgain_intro 0 [0, 1, 2, 3, 6] (by omega) (by simp -dsimp -implicitDefEqProofs only [↓Ev.xStp_eq, ↓Ev.P, Ev.Q, Ev.Z, simprocAttr]) (.inr ⟨rfl, ri, xa, xe, [] ++ [((rA, rAN, rB, rBN), rms)], hxe, ?_, hgh.symm, ?_⟩)
                         all_goals first | (simp -dsimp -implicitDefEqProofs only [↓Ev.xStp_eq, ↓Ev.P, Ev.Q, Ev.Z, simprocAttr]; rfl) | (simp -dsimp -implicitDefEqProofs only [hkRows_one, ↓Ev.xStp_eq, ↓Ev.P, Ev.Q, Ev.Z, simprocAttr]; rfl) | (simp -dsimp -implicitDefEqProofs only [List.nil_append, ↓Ev.xStp_eq, ↓Ev.P, Ev.Q, Ev.Z, simprocAttr]; first | done | rfl) | (rw [List.length_append, List.length_singleton]; omega)
                       | ok x =>
                         obtain ⟨h, a1⟩ := x
                         obtain ⟨b1, b2, b3, b4⟩ := hkU_ok.le hx
                         rw [hx] at hgh; dsimp only at hgh
                         obtain ⟨⟨hA, hAN, hB, hBN⟩, hms⟩ := h
                         dsimp only at b3
                         simp -dsimp -implicitDefEqProofs only [List.length_append, S32, R32, e0, hx, FzW12u0, ↓Ev.P, Ev.Q, Ev.Z, simprocAttr]
                         repeat' (first | with_reducible assumption | refine And.intro ?_ ?_ | intro _ | (rw [Ev.xStp_eq]; simp -dsimp -implicitDefEqProofs only [List.length_append, S32, R32, e0, hx, FzW12u0, ↓Ev.P, Ev.Q, Ev.Z, simprocAttr]))
                         all_goals try omega
                         all_goals refine xAgain_intro (L.length - a1 + 1) [0, 1, 2, 3, 6] (by omega) (by simp -dsimp -implicitDefEqProofs only [↓Ev.xStp_eq, ↓Ev.P, Ev.Q, Ev.Z, simprocAttr]) (.inl ⟨g, a1, _ ++ [((hA, hAN, hB, hBN), hms)], by omega, b2, rfl, by omega, ?_, hgh, ?_⟩)
                         all_goals first | (simp -dsimp -implicitDefEqProofs only [↓Ev.xStp_eq, ↓Ev.P, Ev.Q, Ev.Z, simprocAttr]; rfl) | (simp -dsimp -implicitDefEqProofs only [hkRows_one, ↓Ev.xStp_eq, ↓Ev.P, Ev.Q, Ev.Z, simprocAttr]; rfl) | (simp -dsimp -implicitDefEqProofs only [List.nil_append, ↓Ev.xStp_eq, ↓Ev.P, Ev.Q, Ev.Z, simprocAttr]; first | done | rfl) | (rw [List.length_append, List.length_singleton]; omega)
                     · have hl0 : ((hs.length : Int) = 0) = False := eq_false (fun h => hne (List.length_eq_zero_iff.1 (by omega)))
                       by_cases hltb : b < L.length
                       · have hb3 : ((b : Int) < (L.length : Int)) = True := eq_true (by omega)
                         by_cases hpre : (L.getD b []).take 2 = [64, 64]
                         · have hgoes : goesH [64, 64] L b hs = true := by
                             rw [goesH, decide_eq_true hltb]
                             simp only [List.length_cons, List.length_nil, Nat.zero_add, Nat.reduceAdd]
                             rw [decide_eq_true hpre]; simp
                           rw [hksG, if_pos hgoes] at hgh
                           cases hx : hkU L hs.length b with
                           | error xe =>
                             obtain ⟨xa, xe⟩ := xe
                             have hxe := hkU_ok.err hx
                             rw [hx] at hgh; dsimp only at hgh
                             simp -dsimp -implicitDefEqProofs only [List.length_append, S32, R32, hl0, hb3, hpre, hx, hxe, FzW12u0, ↓Ev.P, Ev.Q, Ev.Z, simprocAttr]
                             repeat' (first | with_reducible assumption | refine And.intro ?_ ?_ | intro _ | (rw [Ev.xStp_eq]; simp -dsimp -implicitDefEqProofs only [List.length_append, S32, R32, hl0, hb3, hpre, hx, hxe, FzW12u0, ↓Ev.P, Ev.Q, Ev.Z, simprocAttr]))
                             all_goals try omega
                             all_goals rename_i ri rA rAN rB rBN rms hrms
                             all_goals refine xAgain_intro 0 [0, 1, 2, 3, 6] (by omega) (by simp -dsimp -implicitDefEqProofs only [↓Ev.xStp_eq, ↓Ev.P, Ev.Q, Ev.Z, simprocAttr]) (.inr ⟨rfl, ri, xa, xe, hs ++ [((rA, rAN, rB, rBN), rms)], hxe, ?_, hgh.symm, ?_⟩)
                             all_goals first | (simp -dsimp -implicitDefEqProofs only [↓Ev.xStp_eq, ↓Ev.P, Ev.Q, Ev.Z, simprocAttr]; rfl) | (simp -dsimp -implicitDefEqProofs only [hkRows_one, ↓Ev.xStp_eq, ↓Ev.P, Ev.Q, Ev.Z, simprocAttr]; rfl) | (simp -dsimp -implicitDefEqProofs only [List.nil_append, ↓Ev.xStp_eq, ↓Ev.P, Ev.Q, Ev.Z, simprocAttr]; first | done | rfl) | (rw [List.length_append, List.length_singleton]; omega)
                           | ok x =>
                             obtain ⟨h, a1⟩ := x
                             obtain ⟨b1, b2, b3, b4⟩ := hkU_ok.le hx
                             rw [hx] at hgh; dsimp only at hgh
                             obtain ⟨⟨hA, hAN, hB, hBN⟩, hms⟩ := h
                             dsimp only at b3
                             simp -dsimp -implicitDefEqProofs only [List.length_append, S32, R32, hl0, hb3, hpre, hx, FzW12u0, ↓Ev.P, Ev.Q, Ev.Z, simprocAttr]
                             repeat' (first | with_reducible assumption | refine And.intro ?_ ?_ | intro _ | (rw [Ev.xStp_eq]; simp -dsimp -implicitDefEqProofs only [List.length_append, S32, R32, hl0, hb3, hpre, hx, FzW12u0, ↓Ev.P, Ev.Q, Ev.Z, simprocAttr]))
                             all_goals try omega
                             all_goals refine xAgain_intro (L.length - a1 + 1) [0, 1, 2, 3, 6] (by omega) (by simp -dsimp -implicitDefEqProofs only [↓Ev.xStp_eq, ↓Ev.P, Ev.Q, Ev.Z, simprocAttr]) (.inl ⟨g, a1, _ ++ [((hA, hAN, hB, hBN), hms)], by omega, b2, rfl, by omega, ?_, hgh, ?_⟩)
                             all_goals first | (simp -dsimp -implicitDefEqProofs only [↓Ev.xStp_eq, ↓Ev.P, Ev.Q, Ev.Z, simprocAttr]; rfl) | (simp -dsimp -implicitDefEqProofs only [hkRows_one, ↓Ev.xStp_eq, ↓Ev.P, Ev.Q, Ev.Z, simprocAttr]; rfl) | (simp -dsimp -implicitDefEqProofs only [List.nil_append, ↓Ev.xStp_eq, ↓Ev.P, Ev.Q, Ev.Z, simprocAttr]; first | done | rfl) | (rw [List.length_append, List.length_singleton]; omega)
                         · have _t := trivial
                           have hgoes : goesH [64, 64] L b hs = false := by
                             rw [goesH, decide_eq_false hne, decide_eq_true hltb]
                             simp only [List.length_cons, List.length_nil, Nat.zero_add, Nat.reduceAdd]
                             rw [decide_eq_false hpre]; rfl
                           rw [hksG_end hgoes] at hgh; subst hgh; dsimp only at hgo
                           simp -dsimp -implicitDefEqProofs only [List.length_append, S32, R32, hl0, hb3, hpre, FzW12u0, ↓Ev.P, Ev.Q, Ev.Z, simprocAttr]
                           repeat' (first | with_reducible assumption | refine And.intro ?_ ?_ | intro _ | (rw [Ev.xStp_eq]; simp -dsimp -implicitDefEqProofs only [List.length_append, S32, R32, hl0, hb3, hpre, FzW12u0, ↓Ev.P, Ev.Q, Ev.Z, simprocAttr]))
                           all_goals try omega
                           all_goals refine xAgain_intro (L.length - b + 1) [0, 1, 6] (by omega) (by simp -dsimp -implicitDefEqProofs only [↓Ev.xStp_eq, ↓Ev.P, Ev.Q, Ev.Z, simprocAttr]) (.inl ⟨f, b, ps ++ [((o, nn), hs)], hb, rfl, by omega, by rw [List.length_append, List.length_singleton]; omega, hgo, ?_⟩)
                           all_goals simp -dsimp -implicitDefEqProofs only [↓Ev.xStp_eq, ↓Ev.P, Ev.Q, Ev.Z, simprocAttr]
                           all_goals rfl
                       · have hb3 : ((b : Int) < (L.length : Int)) = False := eq_false (by omega)
                         have hgoes : goesH [64, 64] L b hs = false := by
                           rw [goesH, decide_eq_false hne, decide_eq_false hltb]
                           rfl
                         rw [hksG_end hgoes] at hgh; subst hgh; dsimp only at hgo
                         simp -dsimp -implicitDefEqProofs only [List.length_append, S32, R32, hl0, hb3, FzW12u0, ↓Ev.P, Ev.Q, Ev.Z, simprocAttr]
                         repeat' (first | with_reducible assumption | refine And.intro ?_ ?_ | intro _ | (rw [Ev.xStp_eq]; simp -dsimp -implicitDefEqProofs only [List.length_append, S32, R32, hl0, hb3, FzW12u0, ↓Ev.P, Ev.Q, Ev.Z, simprocAttr]))
                         all_goals try omega
                         all_goals refine xAgain_intro (L.length - b + 1) [0, 1, 6] (by omega) (by simp -dsimp -implicitDefEqProofs only [↓Ev.xStp_eq, ↓Ev.P, Ev.Q, Ev.Z, simprocAttr]) (.inl ⟨f, b, ps ++ [((o, nn), hs)], hb, rfl, by omega, by rw [List.length_append, List.length_singleton]; omega, hgo, ?_⟩)
                         all_goals simp -dsimp -implicitDefEqProofs only [↓Ev.xStp_eq, ↓Ev.P, Ev.Q, Ev.Z, simprocAttr]
                         all_goals rfl
                   · subst hYe; dsimp only at hgo
                     simp -dsimp -implicitDefEqProofs only [List.length_append, S32, R32, he, FzW12u0, ↓Ev.P, Ev.Q, Ev.Z, simprocAttr]
                     repeat' (first | with_reducible assumption | refine And.intro ?_ ?_ | intro _ | (rw [Ev.xStp_eq]; simp -dsimp -implicitDefEqProofs only [List.length_append, S32, R32, he, FzW12u0, ↓Ev.P, Ev.Q, Ev.Z, simprocAttr]))
                     all_goals try omega
                     refine xAgain_intro 0 [0, 1, 6] (by omega) (by simp -dsimp -implicitDefEqProofs only [↓Ev.xStp_eq, ↓Ev.P, Ev.Q, Ev.Z, simprocAttr]) (.inr ⟨rfl, i, a, e, ptRows (ps ++ [((o, nn), hs)]), he, hgo.symm, ?_⟩)
                     simp -dsimp -implicitDefEqProofs only [↓Ev.xStp_eq, ↓Ev.P, Ev.Q, Ev.Z, simprocAttr]
                     all_goals rfl
         · have hi3 : ¬ (at_ : Int) < L.length := by omega
           rw [psG_end hlt] at hgo; subst hgo
           rw [hos2 _ rfl]
           simp only [parRU, Prod.mk.injEq] at h2; obtain ⟨rfl, rfl⟩ := h2
           simp -dsimp -implicitDefEqProofs only [List.length_append, S32, R32, hi3, FzW12u0, ↓Ev.P, Ev.Q, Ev.Z, simprocAttr]
           repeat' (first | with_reducible assumption | refine And.intro ?_ ?_ | intro _ | (rw [Ev.xStp_eq]; simp -dsimp -implicitDefEqProofs only [List.length_append, S32, R32, hi3, FzW12u0, ↓Ev.P, Ev.Q, Ev.Z, simprocAttr]))
           all_goals try omega
           all_goals exact hk
       · rw [hos1 _ _ hYe]
         subst hYe; simp only [parRU, Prod.mk.injEq] at h2; obtain ⟨rfl, rfl⟩ := h2
         simp -dsimp -implicitDefEqProofs only [List.length_append, S32, R32, he, FzW12u0, ↓Ev.P, Ev.Q, Ev.Z, simprocAttr]
         repeat' (first | with_reducible assumption | refine And.intro ?_ ?_ | intro _ | (rw [Ev.xStp_eq]; simp -dsimp -implicitDefEqProofs only [List.length_append, S32, R32, he, FzW12u0, ↓Ev.P, Ev.Q, Ev.Z, simprocAttr]))
         all_goals try omega
         all_goals exact hk
   cases Y with
   | error xe => exact ⟨[], key _ (fun _ _ _ => rfl) (fun _ h => by cases h)⟩
   | ok pp => exact ⟨[2], key _ (fun _ _ h => by cases h) (fun _ _ => rfl)⟩
end Go.Proofs.YtlghobefhmpfkaaGreatDoor
namespace Go.Proofs.YtlghobefhmpfkaaGreatDoor
open Go.RowKit Go.Extern.Stop Go.Stop Go.Extern Go
def ErrT (w : World) : Prop := w.cell? ⟨0, 0, none⟩ = some (.iface 199 (.agg #[.pointer (some ⟨9, 24, none⟩)]))
theorem rlm (z : Sem Value) (f : TypeId → Addr → Nat → Nat → Sem Value) (v : Value) :
 ReflectliteValue.method z f #[v] = (do match ← ReflectliteValue.parts v with | none => z | some (t, a, fl) => f t a fl (fl % 32)) := rfl
theorem rls (v x : Value) : ReflectliteValue.set #[v, x] = (do
 let (some (dst, a, fl), some (src, b, _)) := (← ReflectliteValue.parts v, ← ReflectliteValue.parts x)
   | unsupported (.noEntry "extern/(internal/reflectlite.Value).Set.zeroValue")
 if fl / ReflectliteValue.flagAddr % 2 == 0 then unsupported (.noEntry "extern/(internal/reflectlite.Value).Set.unaddressable")
 let val ← loadVar src b
 if ← Rtype.directlyAssignable dst src then storeVar dst a val
 else if ← Rtype.implements dst src then
   if (← Rtype.kind src) == 20 then
     match val with
     | .nilIface => unsupported (.noEntry "extern/reflectlite: a nil value of one interface type handed on as a value of another")
     | _ => storeVar dst a val
   else storeVar dst a (.iface src val)
 else panicString ("reflectlite.Set: value of type " ++ (← Rtype.spelt src) ++ " is not assignable to type " ++ (← Rtype.spelt dst))
 pure (.tuple #[])) := rfl
theorem mKind (h : Value) (w : World) : (Go.method 423 199 (.agg #[h]) "Kind").run Tryz.prog w = .ok (249, h) w := by kernel_rfl
theorem mElem (h : Value) (w : World) : (Go.method 423 199 (.agg #[h]) "Elem").run Tryz.prog w = .ok (262, .agg #[h]) w := by kernel_rfl
theorem mImplements (h : Value) (w : World) : (Go.method 423 199 (.agg #[h]) "Implements").run Tryz.prog w = .ok (263, .agg #[h]) w := by kernel_rfl
theorem mAssignableTo (h : Value) (w : World) : (Go.method 423 199 (.agg #[h]) "AssignableTo").run Tryz.prog w = .ok (260, .agg #[h]) w := by kernel_rfl
theorem valueOfP_flt (t : Addr) (w : World) : (ReflectliteValue.unpack (.iface 81 (.pointer (some t)))).run Tryz.prog w
 = .ok (.agg #[.pointer (some ⟨9, 81, none⟩), .pointer (some ⟨w.heap.size, 0, none⟩), .int .u64 150]) (w.alloc (.cells #[.pointer (some t)] 81)) := by kernel_rfl
theorem typeP_flt (t : Addr) (w : World) : (ReflectliteValue.methodAny (ReflectliteValue.valueError "reflectlite.Value.Type" 0) (fun t _ _ _ => ReflectliteType.toType t) #[.agg #[.pointer (some ⟨9, 81, none⟩), .pointer (some t), .int .u64 150]]).run Tryz.prog w
 = .ok (.iface 199 (.agg #[.pointer (some ⟨9, 81, none⟩)])) w := by kernel_rfl
theorem kindP_flt (w : World) : ((ReflectliteType.abiMethod fun t => (fun a : Nat => Value.int IntKind.u8 (a : Int)) <$> Rtype.kind t) #[.pointer (some ⟨9, 81, none⟩)]).run Tryz.prog w = .ok (.int .u8 22) w := by kernel_rfl
theorem kindE_flt (w : World) : ((ReflectliteType.abiMethod fun t => (fun a : Nat => Value.int IntKind.u8 (a : Int)) <$> Rtype.kind t) #[.pointer (some ⟨9, 79, none⟩)]).run Tryz.prog w = .ok (.int .u8 22) w := by kernel_rfl
theorem partsP_flt (a : Addr) (w : World) : (ReflectliteValue.parts (.agg #[.pointer (some ⟨9, 81, none⟩), .pointer (some a), .int .u64 150])).run Tryz.prog w = .ok (some (81, a, 150)) w := by kernel_rfl
theorem isNilP_flt (a p : Addr) (W : World) (ha : W.cell? a = some (.pointer (some p))) :
   (ReflectliteValue.method (ReflectliteValue.valueError "reflectlite.Value.IsNil" 0) ReflectliteValue.isNil #[.agg #[.pointer (some ⟨9, 81, none⟩), .pointer (some a), .int .u64 150]]).run Tryz.prog W = .ok (.bool false) W := by
 rw [rlm]
 simp only [Sem.run_bind, partsP_flt, Result.andThen]
 simp [ReflectliteValue.isNil, loadVar, isAgg, underlying, Tryz.underlying81, ha, Result.andThen]
theorem elemP_flt (w : World) : (ReflectliteType.method ReflectliteType.elem #[.agg #[.pointer (some ⟨9, 81, none⟩)]]).run Tryz.prog w = .ok (.iface 199 (.agg #[.pointer (some ⟨9, 79, none⟩)])) w := by kernel_rfl
theorem implE_flt (w : World) : (ReflectliteType.relation "Implements" ReflectliteType.implements_ #[.agg #[.pointer (some ⟨9, 79, none⟩)], .iface 199 (.agg #[.pointer (some ⟨9, 24, none⟩)])]).run Tryz.prog w = .ok (.bool true) w := by kernel_rfl
theorem typeOf_flt (v : Value) (w : World) : (ReflectliteType.typeOf #[.iface 79 v]).run Tryz.prog w = .ok (.iface 199 (.agg #[.pointer (some ⟨9, 79, none⟩)])) w := by kernel_rfl
theorem assign_flt (w : World) : (ReflectliteType.relation "AssignableTo" ReflectliteType.assignableTo #[.agg #[.pointer (some ⟨9, 79, none⟩)], .iface 199 (.agg #[.pointer (some ⟨9, 79, none⟩)])]).run Tryz.prog w = .ok (.bool true) w := by kernel_rfl
theorem valueOf_flt (e : Addr) (w : World) : (ReflectliteValue.unpack (.iface 79 (.pointer (some e)))).run Tryz.prog w
 = .ok (.agg #[.pointer (some ⟨9, 79, none⟩), .pointer (some ⟨w.heap.size, 0, none⟩), .int .u64 150]) (w.alloc (.cells #[(.pointer (some e))] 79)) := by kernel_rfl
theorem elemOf_flt (w : World) : (Rtype.elem? 81).run Tryz.prog w = .ok (some 79) w := by kernel_rfl
theorem mkE_flt (p : Addr) (w : World) : (ReflectliteValue.mk 79 p ReflectliteValue.flagAddr).run Tryz.prog w = .ok (.agg #[.pointer (some ⟨9, 79, none⟩), .pointer (some p), .int .u64 406]) w := by kernel_rfl
theorem elemV_flt (a p : Addr) (W : World) (ha : W.cell? a = some (.pointer (some p))) :
   (ReflectliteValue.method (ReflectliteValue.valueError "reflectlite.Value.Elem" 0) ReflectliteValue.elem #[.agg #[.pointer (some ⟨9, 81, none⟩), .pointer (some a), .int .u64 150]]).run Tryz.prog W
     = .ok (.agg #[.pointer (some ⟨9, 79, none⟩), .pointer (some p), .int .u64 406]) W := by
 rw [rlm]
 simp only [Sem.run_bind, partsP_flt, Result.andThen]
 simp [ReflectliteValue.elem, loadVar, isAgg, underlying, Tryz.underlying81, ha, Result.andThen, elemOf_flt, mkE_flt]
theorem partsA_flt (a : Addr) (w : World) : (ReflectliteValue.parts (.agg #[.pointer (some ⟨9, 79, none⟩), .pointer (some a), .int .u64 406])).run Tryz.prog w = .ok (some (79, a, 406)) w := by kernel_rfl
theorem partsB_flt (a : Addr) (w : World) : (ReflectliteValue.parts (.agg #[.pointer (some ⟨9, 79, none⟩), .pointer (some a), .int .u64 150])).run Tryz.prog w = .ok (some (79, a, 150)) w := by kernel_rfl
theorem direct_flt (w : World) : (Rtype.directlyAssignable 79 79).run Tryz.prog w = .ok true w := by kernel_rfl
theorem set_flt (ta b : Addr) (e : Addr) (old : Value) (W : World) (hb : W.cell? b = some (.pointer (some e))) (ht : W.cell? ta = some old) (hf : W.frozen? ta = false) :
   (ReflectliteValue.set #[.agg #[.pointer (some ⟨9, 79, none⟩), .pointer (some ta), .int .u64 406], .agg #[.pointer (some ⟨9, 79, none⟩), .pointer (some b), .int .u64 150]]).run Tryz.prog W
     = .ok (.tuple #[]) (W.setCell ta (.pointer (some e))) := by
 rw [rls]
 simp only [Sem.run_bind, partsA_flt, partsB_flt, Result.andThen]
 simp [ReflectliteValue.flagAddr, loadVar, isAgg, underlying, Tryz.underlying79, hb, Result.andThen, direct_flt, storeVar, Value.cells, storeCells, Addr.add]
 rw [run_store Tryz.prog W ta _ _ (by rfl)]
 simp [ht, hf]
set_option maxHeartbeats 4000000 in
theorem asHit_flt (e : Addr) (t : Addr) (old : Value) (w : World) (hg : ErrT w) (ht0 : w.cell? t = some old) (hf0 : w.frozen? t = false) :
   Calls Tryz.prog 45 #[.iface 79 (.pointer (some e)), .iface 81 (.pointer (some t))] w fun ev w' => ev = .returned (.bool true) ∧ w' = ((((w.alloc (.cells #[.pointer (some t)] 81)).alloc (.cells #[.pointer (some ⟨9, 81, none⟩), .pointer (some ⟨w.heap.size, 0, none⟩), .int .u64 150] 142)).alloc (.cells #[.pointer (some ⟨9, 81, none⟩), .pointer (some ⟨w.heap.size, 0, none⟩), .int .u64 150] 142)).alloc (.cells #[(.pointer (some e))] 79)).setCell t (.pointer (some e)) := by
 have h6 := @run_callFunc_extern Tryz.prog 91 _ (fun args => ReflectliteValue.unpack (args.getD 0 (.tuple #[]))) Tryz.func91 (by kernel_rfl) (by kernel_rfl) (by kernel_rfl) (by kernel_rfl)
 have h7 := @run_callFunc_extern Tryz.prog 92 _ (ReflectliteValue.methodAny (ReflectliteValue.valueError "reflectlite.Value.Type" 0) (fun t _ _ _ => ReflectliteType.toType t)) Tryz.func92 (by kernel_rfl) (by kernel_rfl) (by kernel_rfl) (by kernel_rfl)
 have h8 := @run_callFunc_extern Tryz.prog 93 _ (ReflectliteValue.method (ReflectliteValue.valueError "reflectlite.Value.IsNil" 0) ReflectliteValue.isNil) Tryz.func93 (by kernel_rfl) (by kernel_rfl) (by kernel_rfl) (by kernel_rfl)
 have h27 := @run_callFunc_extern Tryz.prog 249 _ (ReflectliteType.abiMethod fun t => do pure (.int .u8 (← Rtype.kind t))) Tryz.func249 (by kernel_rfl) (by kernel_rfl) (by kernel_rfl) (by kernel_rfl)
 have h37 := @run_callFunc_extern Tryz.prog 262 _ (ReflectliteType.method ReflectliteType.elem) Tryz.func262 (by kernel_rfl) (by kernel_rfl) (by kernel_rfl) (by kernel_rfl)
 have h38 := @run_callFunc_extern Tryz.prog 263 _ (ReflectliteType.relation "Implements" ReflectliteType.implements_) Tryz.func263 (by kernel_rfl) (by kernel_rfl) (by kernel_rfl) (by kernel_rfl)
 have h10 := @run_callFunc_extern Tryz.prog 150 _ ReflectliteType.typeOf Tryz.func150 (by kernel_rfl) (by kernel_rfl) (by kernel_rfl) (by kernel_rfl)
 have h35 := @run_callFunc_extern Tryz.prog 260 _ (ReflectliteType.relation "AssignableTo" ReflectliteType.assignableTo) Tryz.func260 (by kernel_rfl) (by kernel_rfl) (by kernel_rfl) (by kernel_rfl)
 have h11 := @run_callFunc_extern Tryz.prog 151 _ (ReflectliteValue.method (ReflectliteValue.valueError "reflectlite.Value.Elem" 0) ReflectliteValue.elem) Tryz.func151 (by kernel_rfl) (by kernel_rfl) (by kernel_rfl) (by kernel_rfl)
 have h12 := @run_callFunc_extern Tryz.prog 152 _ ReflectliteValue.set Tryz.func152 (by kernel_rfl) (by kernel_rfl) (by kernel_rfl) (by kernel_rfl)
 have f6 := valueOfP_flt
 have f7 := typeP_flt
 have tO := typeOf_flt
 have a25 := assign_flt
 have v25 := valueOf_flt
 have mA := mAssignableTo
 have mK := mKind
 have mE := mElem
 have mI := mImplements
 have k27 := kindP_flt
 have k25 := kindE_flt
 have e27 := elemP_flt
 have i25 := implE_flt
 have n8 := isNilP_flt ⟨w.heap.size, 0, none⟩ t ((w.alloc (.cells #[.pointer (some t)] 81)).alloc (.cells #[.pointer (some ⟨9, 81, none⟩), .pointer (some ⟨w.heap.size, 0, none⟩), .int .u64 150] 142)) (by simp)
 unfold ErrT at hg
 have hlt : 0 < w.heap.size := by
   rcases Nat.eq_zero_or_pos w.heap.size with h0 | h
   · simp [World.cell?, h0] at hg
   · exact h
 have hg2 : ((w.alloc (.cells #[.pointer (some t)] 81)).alloc (.cells #[.pointer (some ⟨9, 81, none⟩), .pointer (some ⟨w.heap.size, 0, none⟩), .int .u64 150] 142)).cell? ⟨0, 0, none⟩ = some (.iface 199 (.agg #[.pointer (some ⟨9, 24, none⟩)])) := by
   rw [World.cell?_alloc_lt _ _ ⟨0, 0, none⟩ (by simp), World.cell?_alloc_lt _ _ ⟨0, 0, none⟩ hlt]; exact hg
 have htl : t.block < w.heap.size := by
   rcases Nat.lt_or_ge t.block w.heap.size with h | h
   · exact h
   · simp [World.cell?, Array.getElem?_eq_none h] at ht0
 have el := elemV_flt ⟨w.heap.size, 0, none⟩ t (((w.alloc (.cells #[.pointer (some t)] 81)).alloc (.cells #[.pointer (some ⟨9, 81, none⟩), .pointer (some ⟨w.heap.size, 0, none⟩), .int .u64 150] 142)).alloc (.cells #[.pointer (some ⟨9, 81, none⟩), .pointer (some ⟨w.heap.size, 0, none⟩), .int .u64 150] 142)) (by rw [World.cell?_alloc_lt _ _ ⟨w.heap.size, 0, none⟩ (by simp; omega)]; simp)
 have st := set_flt t ⟨w.heap.size + 1 + 1 + 1, 0, none⟩ e old ((((w.alloc (.cells #[.pointer (some t)] 81)).alloc (.cells #[.pointer (some ⟨9, 81, none⟩), .pointer (some ⟨w.heap.size, 0, none⟩), .int .u64 150] 142)).alloc (.cells #[.pointer (some ⟨9, 81, none⟩), .pointer (some ⟨w.heap.size, 0, none⟩), .int .u64 150] 142)).alloc (.cells #[(.pointer (some e))] 79))
   (by rw [World.cell?_alloc_at _ _ _ _ (by simp)]; rfl)
   (by rw [World.cell?_alloc_lt _ _ t (by simp; omega), World.cell?_alloc_lt _ _ t (by simp; omega), World.cell?_alloc_lt _ _ t (by simp; omega), World.cell?_alloc_lt _ _ t htl]; exact ht0)
   (by rw [World.frozen?_alloc_old _ _ t (by simp; omega), World.frozen?_alloc_old _ _ t (by simp; omega), World.frozen?_alloc_old _ _ t (by simp; omega), World.frozen?_alloc_old _ _ t (Nat.ne_of_lt htl)]; exact hf0)
 go_enter Tryz.func45, Tryz.ntmps45
 go_wp2
 refine wp_loop_rounds 1 ?_
 rw [rounds_succ]
 go_wp2
 go_ret
 exact ⟨rfl, rfl⟩
theorem valueOfP_errno (t : Addr) (w : World) : (ReflectliteValue.unpack (.iface 84 (.pointer (some t)))).run Tryz.prog w
 = .ok (.agg #[.pointer (some ⟨9, 84, none⟩), .pointer (some ⟨w.heap.size, 0, none⟩), .int .u64 150]) (w.alloc (.cells #[.pointer (some t)] 84)) := by kernel_rfl
theorem typeP_errno (t : Addr) (w : World) : (ReflectliteValue.methodAny (ReflectliteValue.valueError "reflectlite.Value.Type" 0) (fun t _ _ _ => ReflectliteType.toType t) #[.agg #[.pointer (some ⟨9, 84, none⟩), .pointer (some t), .int .u64 150]]).run Tryz.prog w
 = .ok (.iface 199 (.agg #[.pointer (some ⟨9, 84, none⟩)])) w := by kernel_rfl
theorem kindP_errno (w : World) : ((ReflectliteType.abiMethod fun t => (fun a : Nat => Value.int IntKind.u8 (a : Int)) <$> Rtype.kind t) #[.pointer (some ⟨9, 84, none⟩)]).run Tryz.prog w = .ok (.int .u8 22) w := by kernel_rfl
theorem kindE_errno (w : World) : ((ReflectliteType.abiMethod fun t => (fun a : Nat => Value.int IntKind.u8 (a : Int)) <$> Rtype.kind t) #[.pointer (some ⟨9, 27, none⟩)]).run Tryz.prog w = .ok (.int .u8 2) w := by kernel_rfl
theorem partsP_errno (a : Addr) (w : World) : (ReflectliteValue.parts (.agg #[.pointer (some ⟨9, 84, none⟩), .pointer (some a), .int .u64 150])).run Tryz.prog w = .ok (some (84, a, 150)) w := by kernel_rfl
theorem isNilP_errno (a p : Addr) (W : World) (ha : W.cell? a = some (.pointer (some p))) :
   (ReflectliteValue.method (ReflectliteValue.valueError "reflectlite.Value.IsNil" 0) ReflectliteValue.isNil #[.agg #[.pointer (some ⟨9, 84, none⟩), .pointer (some a), .int .u64 150]]).run Tryz.prog W = .ok (.bool false) W := by
 rw [rlm]
 simp only [Sem.run_bind, partsP_errno, Result.andThen]
 simp [ReflectliteValue.isNil, loadVar, isAgg, underlying, Tryz.underlying84, ha, Result.andThen]
theorem elemP_errno (w : World) : (ReflectliteType.method ReflectliteType.elem #[.agg #[.pointer (some ⟨9, 84, none⟩)]]).run Tryz.prog w = .ok (.iface 199 (.agg #[.pointer (some ⟨9, 27, none⟩)])) w := by kernel_rfl
theorem implE_errno (w : World) : (ReflectliteType.relation "Implements" ReflectliteType.implements_ #[.agg #[.pointer (some ⟨9, 27, none⟩)], .iface 199 (.agg #[.pointer (some ⟨9, 24, none⟩)])]).run Tryz.prog w = .ok (.bool true) w := by kernel_rfl
theorem typeOf_errno (v : Value) (w : World) : (ReflectliteType.typeOf #[.iface 27 v]).run Tryz.prog w = .ok (.iface 199 (.agg #[.pointer (some ⟨9, 27, none⟩)])) w := by kernel_rfl
theorem assign_errno (w : World) : (ReflectliteType.relation "AssignableTo" ReflectliteType.assignableTo #[.agg #[.pointer (some ⟨9, 27, none⟩)], .iface 199 (.agg #[.pointer (some ⟨9, 27, none⟩)])]).run Tryz.prog w = .ok (.bool true) w := by kernel_rfl
theorem valueOf_errno (e : Int) (w : World) : (ReflectliteValue.unpack (.iface 27 (.int .i64 e))).run Tryz.prog w
 = .ok (.agg #[.pointer (some ⟨9, 27, none⟩), .pointer (some ⟨w.heap.size, 0, none⟩), .int .u64 130]) (w.alloc (.cells #[(.int .i64 e)] 27)) := by kernel_rfl
theorem elemOf_errno (w : World) : (Rtype.elem? 84).run Tryz.prog w = .ok (some 27) w := by kernel_rfl
theorem mkE_errno (p : Addr) (w : World) : (ReflectliteValue.mk 27 p ReflectliteValue.flagAddr).run Tryz.prog w = .ok (.agg #[.pointer (some ⟨9, 27, none⟩), .pointer (some p), .int .u64 386]) w := by kernel_rfl
theorem elemV_errno (a p : Addr) (W : World) (ha : W.cell? a = some (.pointer (some p))) :
   (ReflectliteValue.method (ReflectliteValue.valueError "reflectlite.Value.Elem" 0) ReflectliteValue.elem #[.agg #[.pointer (some ⟨9, 84, none⟩), .pointer (some a), .int .u64 150]]).run Tryz.prog W
     = .ok (.agg #[.pointer (some ⟨9, 27, none⟩), .pointer (some p), .int .u64 386]) W := by
 rw [rlm]
 simp only [Sem.run_bind, partsP_errno, Result.andThen]
 simp [ReflectliteValue.elem, loadVar, isAgg, underlying, Tryz.underlying84, ha, Result.andThen, elemOf_errno, mkE_errno]
theorem partsA_errno (a : Addr) (w : World) : (ReflectliteValue.parts (.agg #[.pointer (some ⟨9, 27, none⟩), .pointer (some a), .int .u64 386])).run Tryz.prog w = .ok (some (27, a, 386)) w := by kernel_rfl
theorem partsB_errno (a : Addr) (w : World) : (ReflectliteValue.parts (.agg #[.pointer (some ⟨9, 27, none⟩), .pointer (some a), .int .u64 130])).run Tryz.prog w = .ok (some (27, a, 130)) w := by kernel_rfl
theorem direct_errno (w : World) : (Rtype.directlyAssignable 27 27).run Tryz.prog w = .ok true w := by kernel_rfl
theorem set_errno (ta b : Addr) (e : Int) (old : Value) (W : World) (hb : W.cell? b = some (.int .i64 e)) (ht : W.cell? ta = some old) (hf : W.frozen? ta = false) :
   (ReflectliteValue.set #[.agg #[.pointer (some ⟨9, 27, none⟩), .pointer (some ta), .int .u64 386], .agg #[.pointer (some ⟨9, 27, none⟩), .pointer (some b), .int .u64 130]]).run Tryz.prog W
     = .ok (.tuple #[]) (W.setCell ta (.int .i64 e)) := by
 rw [rls]
 simp only [Sem.run_bind, partsA_errno, partsB_errno, Result.andThen]
 simp [ReflectliteValue.flagAddr, loadVar, isAgg, underlying, Tryz.underlying27, hb, Result.andThen, direct_errno, storeVar, Value.cells, storeCells, Addr.add]
 rw [run_store Tryz.prog W ta _ _ (by rfl)]
 simp [ht, hf]
set_option maxHeartbeats 4000000 in
theorem asHit_errno (e : Int) (t : Addr) (old : Value) (w : World) (hg : ErrT w) (ht0 : w.cell? t = some old) (hf0 : w.frozen? t = false) :
   Calls Tryz.prog 45 #[.iface 27 (.int .i64 e), .iface 84 (.pointer (some t))] w fun ev w' => ev = .returned (.bool true) ∧ w' = ((((w.alloc (.cells #[.pointer (some t)] 84)).alloc (.cells #[.pointer (some ⟨9, 84, none⟩), .pointer (some ⟨w.heap.size, 0, none⟩), .int .u64 150] 142)).alloc (.cells #[.pointer (some ⟨9, 84, none⟩), .pointer (some ⟨w.heap.size, 0, none⟩), .int .u64 150] 142)).alloc (.cells #[(.int .i64 e)] 27)).setCell t (.int .i64 e) := by
 have h6 := @run_callFunc_extern Tryz.prog 91 _ (fun args => ReflectliteValue.unpack (args.getD 0 (.tuple #[]))) Tryz.func91 (by kernel_rfl) (by kernel_rfl) (by kernel_rfl) (by kernel_rfl)
 have h7 := @run_callFunc_extern Tryz.prog 92 _ (ReflectliteValue.methodAny (ReflectliteValue.valueError "reflectlite.Value.Type" 0) (fun t _ _ _ => ReflectliteType.toType t)) Tryz.func92 (by kernel_rfl) (by kernel_rfl) (by kernel_rfl) (by kernel_rfl)
 have h8 := @run_callFunc_extern Tryz.prog 93 _ (ReflectliteValue.method (ReflectliteValue.valueError "reflectlite.Value.IsNil" 0) ReflectliteValue.isNil) Tryz.func93 (by kernel_rfl) (by kernel_rfl) (by kernel_rfl) (by kernel_rfl)
 have h27 := @run_callFunc_extern Tryz.prog 249 _ (ReflectliteType.abiMethod fun t => do pure (.int .u8 (← Rtype.kind t))) Tryz.func249 (by kernel_rfl) (by kernel_rfl) (by kernel_rfl) (by kernel_rfl)
 have h37 := @run_callFunc_extern Tryz.prog 262 _ (ReflectliteType.method ReflectliteType.elem) Tryz.func262 (by kernel_rfl) (by kernel_rfl) (by kernel_rfl) (by kernel_rfl)
 have h38 := @run_callFunc_extern Tryz.prog 263 _ (ReflectliteType.relation "Implements" ReflectliteType.implements_) Tryz.func263 (by kernel_rfl) (by kernel_rfl) (by kernel_rfl) (by kernel_rfl)
 have h10 := @run_callFunc_extern Tryz.prog 150 _ ReflectliteType.typeOf Tryz.func150 (by kernel_rfl) (by kernel_rfl) (by kernel_rfl) (by kernel_rfl)
 have h35 := @run_callFunc_extern Tryz.prog 260 _ (ReflectliteType.relation "AssignableTo" ReflectliteType.assignableTo) Tryz.func260 (by kernel_rfl) (by kernel_rfl) (by kernel_rfl) (by kernel_rfl)
 have h11 := @run_callFunc_extern Tryz.prog 151 _ (ReflectliteValue.method (ReflectliteValue.valueError "reflectlite.Value.Elem" 0) ReflectliteValue.elem) Tryz.func151 (by kernel_rfl) (by kernel_rfl) (by kernel_rfl) (by kernel_rfl)
 have h12 := @run_callFunc_extern Tryz.prog 152 _ ReflectliteValue.set Tryz.func152 (by kernel_rfl) (by kernel_rfl) (by kernel_rfl) (by kernel_rfl)
 have f6 := valueOfP_errno
 have f7 := typeP_errno
 have tO := typeOf_errno
 have a25 := assign_errno
 have v25 := valueOf_errno
 have mA := mAssignableTo
 have mK := mKind
 have mE := mElem
 have mI := mImplements
 have k27 := kindP_errno
 have k25 := kindE_errno
 have e27 := elemP_errno
 have i25 := implE_errno
 have n8 := isNilP_errno ⟨w.heap.size, 0, none⟩ t ((w.alloc (.cells #[.pointer (some t)] 84)).alloc (.cells #[.pointer (some ⟨9, 84, none⟩), .pointer (some ⟨w.heap.size, 0, none⟩), .int .u64 150] 142)) (by simp)
 unfold ErrT at hg
 have hlt : 0 < w.heap.size := by
   rcases Nat.eq_zero_or_pos w.heap.size with h0 | h
   · simp [World.cell?, h0] at hg
   · exact h
 have hg2 : ((w.alloc (.cells #[.pointer (some t)] 84)).alloc (.cells #[.pointer (some ⟨9, 84, none⟩), .pointer (some ⟨w.heap.size, 0, none⟩), .int .u64 150] 142)).cell? ⟨0, 0, none⟩ = some (.iface 199 (.agg #[.pointer (some ⟨9, 24, none⟩)])) := by
   rw [World.cell?_alloc_lt _ _ ⟨0, 0, none⟩ (by simp), World.cell?_alloc_lt _ _ ⟨0, 0, none⟩ hlt]; exact hg
 have htl : t.block < w.heap.size := by
   rcases Nat.lt_or_ge t.block w.heap.size with h | h
   · exact h
   · simp [World.cell?, Array.getElem?_eq_none h] at ht0
 have el := elemV_errno ⟨w.heap.size, 0, none⟩ t (((w.alloc (.cells #[.pointer (some t)] 84)).alloc (.cells #[.pointer (some ⟨9, 84, none⟩), .pointer (some ⟨w.heap.size, 0, none⟩), .int .u64 150] 142)).alloc (.cells #[.pointer (some ⟨9, 84, none⟩), .pointer (some ⟨w.heap.size, 0, none⟩), .int .u64 150] 142)) (by rw [World.cell?_alloc_lt _ _ ⟨w.heap.size, 0, none⟩ (by simp; omega)]; simp)
 have st := set_errno t ⟨w.heap.size + 1 + 1 + 1, 0, none⟩ e old ((((w.alloc (.cells #[.pointer (some t)] 84)).alloc (.cells #[.pointer (some ⟨9, 84, none⟩), .pointer (some ⟨w.heap.size, 0, none⟩), .int .u64 150] 142)).alloc (.cells #[.pointer (some ⟨9, 84, none⟩), .pointer (some ⟨w.heap.size, 0, none⟩), .int .u64 150] 142)).alloc (.cells #[(.int .i64 e)] 27))
   (by rw [World.cell?_alloc_at _ _ _ _ (by simp)]; rfl)
   (by rw [World.cell?_alloc_lt _ _ t (by simp; omega), World.cell?_alloc_lt _ _ t (by simp; omega), World.cell?_alloc_lt _ _ t (by simp; omega), World.cell?_alloc_lt _ _ t htl]; exact ht0)
   (by rw [World.frozen?_alloc_old _ _ t (by simp; omega), World.frozen?_alloc_old _ _ t (by simp; omega), World.frozen?_alloc_old _ _ t (by simp; omega), World.frozen?_alloc_old _ _ t (Nat.ne_of_lt htl)]; exact hf0)
 go_enter Tryz.func45, Tryz.ntmps45
 go_wp2
 refine wp_loop_rounds 1 ?_
 rw [rounds_succ]
 go_wp2
 go_ret
 exact ⟨rfl, rfl⟩
end Go.Proofs.YtlghobefhmpfkaaGreatDoor
