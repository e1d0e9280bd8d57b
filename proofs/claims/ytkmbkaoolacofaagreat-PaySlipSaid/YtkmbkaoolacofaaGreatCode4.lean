import Derived.Test.YtkmbkaoolacofaaGreatCode3
set_option maxRecDepth 8000
set_option maxHeartbeats 4000000
namespace Go.Proofs.YtkmbkaoolacofaaGreat
open Go.RowKit
def f54 (x0 : Int) (x1 : Int) (x2 : List Int) : Option (Bool) :=
 (f68 x2 ((fun a0 => f78 a0 x0 x1))).bind fun y4 =>
 some ((!y4))
theorem en54 : Enters Tryz.prog 54 := enters_of Tryz.func54 (by kernel_rfl) rfl
theorem wk54 {gI : Gh} {wI : World} {x0 : Int} {x1 : Int} {x2 : List Int} {up2 : Value} (rp2 : RV gI.m wI x2 up2) {r : Bool} (h : f54 x0 x1 x2 = some r) : Fn Tryz.prog 54 #[.int .i64 (x0), .int .i64 (x1), up2] gI wI (fun _ _ v => v = .bool (r)) := by
 unfold f54 at h
 refine fn_of_E Tryz.func54 rfl (Nat.le_of_ble_eq_true rfl) fun g0 hm hfr => ?_
 have rp2 : RV g0.m wI x2 up2 := hm ▸ rp2
 show E _ 11 none _ _ _ _ _
 refine E_seq (E_region (EL_do .plain rfl (D_box (g := g0) rfl (RV_int.2 rfl) fun g1 w1 p1 hs q1 => ?_)))
 have hfr := hfr.ext hs
 have rp2 := rp2.ext hs
 refine EL_do .plain rfl (D_box (g := g1) rfl (RV_int.2 rfl) fun g2 w2 p2 hs q2 => ?_)
 have hfr := hfr.ext hs
 have rp2 := rp2.ext hs
 have q1 := q1.ext hs
 refine EL_at (.bool false) rfl rfl ?_
 refine EL_nil (thn_n (E_seq (E_region (EL_mw up2 rfl rfl ?_))))
 refine EL_p ((.func (.func 78) #[] #[p1, p2])) (P_makeFunc (capf_0_2 (show ev _ _ = p1 from rfl) (show ev _ _ = p2 from rfl))) rfl ?_
 obtain ⟨y4, o0, h⟩ := bsome h
 refine EL_do .plain rfl (D_call (g := g2) (vs := [up2, (.func (.func 78) #[] #[p1, p2])]) en68 (.cons rfl (.cons rfl .nil)) (wk68 rp2 ⟨78, #[], #[p1, p2], rfl, en78, fun g' w' hch a0 b0 r hu0 hr => by obtain rfl := RV_int.1 hu0; exact Fn.mono (wk78  (q1.ch hch) (q2.ch hch) hr) fun _ _ _ h => RV_bool.2 h⟩ o0) fun g3 w3_ v3 hs hr => ?_)
 have hfr := hfr.ext hs
 subst hr
 refine EL_p (.bool (!y4)) (P_not rfl) rfl ?_
 refine EL_at (.bool (!y4)) rfl rfl ?_
 refine EL_nil (thn_n (E_ret ?_))
 obtain rfl := sinj h
 exact end1 rfl rfl (show _ = .bool (!y4) from rfl) ⟨_, hfr, rfl⟩
def f72 (x0 : List Int) : Option (Bool) :=
 (f54 ((0 : Int)) ((1000000000 : Int)) x0).bind fun y2 =>
 some (y2)
theorem en72 : Enters Tryz.prog 72 := enters_of Tryz.func72 (by kernel_rfl) rfl
theorem wk72 {gI : Gh} {wI : World} {x0 : List Int} {up0 : Value} (rp0 : RV gI.m wI x0 up0) {r : Bool} (h : f72 x0 = some r) : Fn Tryz.prog 72 #[up0] gI wI (fun _ _ v => v = .bool (r)) := by
 unfold f72 at h
 refine fn_of_E Tryz.func72 rfl (Nat.le_of_ble_eq_true rfl) fun g0 hm hfr => ?_
 have rp0 : RV g0.m wI x0 up0 := hm ▸ rp0
 show E _ 5 none _ _ _ _ _
 refine E_seq (E_region (EL_at (.bool false) rfl rfl ?_))
 refine EL_nil (thn_n (E_seq (E_region (EL_mw up0 rfl rfl ?_))))
 obtain ⟨y2, hy2, h⟩ := bsome h
 refine EL_do .plain rfl (D_call (g := g0) (vs := [.int .i64 (0), .int .i64 (1000000000), up0]) en54 (.cons rfl (.cons rfl (.cons rfl .nil))) (wk54 rp0 hy2) fun g1 w1_ v1 hs hr => ?_)
 have hfr := hfr.ext hs
 subst hr
 refine EL_at (.bool (y2)) rfl rfl ?_
 refine EL_nil (thn_n (E_ret ?_))
 obtain rfl := sinj h
 exact end1 rfl rfl (show _ = .bool (y2) from rfl) ⟨_, hfr, rfl⟩
def f84 (x0 : PaySheet) : Option (Bool) :=
 Option.bind (α := Bool) (
  bif (decide (((((x0).PayTable).Rows).length : Int) > (6 : Int))) then
   some (true)
  else
   (f108 (((x0).PayTable).Rows) ((fun a0 => f109 a0))).bind fun l5 =>
   some (l5)
  ) fun u3 =>
 some (u3)
theorem en84 : Enters Tryz.prog 84 := enters_of Tryz.func84 (by kernel_rfl) rfl
theorem wk84 {gI : Gh} {wI : World} {x0 : PaySheet} {up0 : Value} (rp0 : RV gI.m wI x0 up0) {r : Bool} (h : f84 x0 = some r) : Fn Tryz.prog 84 #[up0] gI wI (fun _ _ v => v = .bool (r)) := by
 unfold f84 at h
 refine fn_of_E Tryz.func84 rfl (Nat.le_of_ble_eq_true rfl) fun g0 hm hfr => ?_
 have rp0 : RV g0.m wI x0 up0 := hm ▸ rp0
 show E _ 14 none _ _ _ _ _
 refine E_seq (E_region (EL_do .plain rfl (D_box (g := g0) rfl rp0 fun g1 w1 p1 hs q1 => ?_)))
 have hfr := hfr.ext hs
 refine EL_at (.bool false) rfl rfl ?_
 refine EL_nil (thn_n ?_)
 obtain ⟨u3, hx, h⟩ := bsome h
 refine E_join (fun e w => ∃ (g : Gh) , Fr gI wI g w ∧ e 2 = .bool (u3)) (fun Q' hQ => ?_) (fun m8 r8 hR => ?_)
 ·replace h := hx
  clear hx
  refine E_region (EL_p (fPtr p1 0) (P_fieldAddr at_132_0 rfl (PT.ptr q1)) rfl ?_)
  have x5 := PT_field (part_PaySheet_0).1 q1
  refine EL_p (fPtr (fPtr p1 0) 0) (P_fieldAddr at_58_0 rfl (PT.ptr x5)) rfl ?_
  have y6 := PT_field (part_PayTable_0).1 x5
  refine EL_do .plain rfl (D_load (g := g1) Tryz.isAgg56 Tryz.sizeOf56 rfl y6 fun v8 i7 => ?_)
  refine EL_p (.int .i64 ((((x0).PayTable).Rows).length : Int)) (P_len Tryz.underlying56 rfl i7) rfl ?_
  refine EL_p (.bool ((decide (((((x0).PayTable).Rows).length : Int) > (6 : Int))))) (P_int rfl rfl rfl) rfl ?_
  refine EL_p (.bool ((decide (((((x0).PayTable).Rows).length : Int) > (6 : Int))))) (P_move rfl) rfl ?_
  rcases csome h with ⟨o0, h⟩ | ⟨o0, h⟩
  ·refine EL_s rfl rfl o0 rfl rfl ?_
   iterate 3 refine EL_s rfl rfl o0 rfl rfl ?_
   refine EL_p (.bool true) (P_pick (b := (decide (((((x0).PayTable).Rows).length : Int) > (6 : Int)))) rfl (pick_t o0 rfl)) rfl ?_
   refine EL_at (.bool true) rfl rfl ?_
   refine EL_nil ?_
   obtain rfl := sinj h
   exact hQ _ _ ⟨g1, hfr, rfl⟩
  ·refine EL_y (fPtr p1 0) (P_fieldAddr at_132_0 rfl (PT.ptr q1)) rfl rfl o0 rfl ?_
   have i6 := PT_field (part_PaySheet_0).1 q1
   refine EL_y (fPtr (fPtr p1 0) 0) (P_fieldAddr at_58_0 rfl (PT.ptr i6)) rfl rfl o0 rfl ?_
   have m7 := PT_field (part_PayTable_0).1 i6
   refine EL_do (.yes2 rfl rfl o0) rfl (D_load (g := g1) Tryz.isAgg56 Tryz.sizeOf56 rfl m7 fun g8 k8 => ?_)
   obtain ⟨l5, x6, h⟩ := bsome h
   refine EL_do (.yes2 rfl rfl o0) rfl (D_call (g := g1) (vs := [g8, .func (.func 109) #[] #[]]) en108 (.cons rfl (.cons rfl .nil)) (wk108 k8 ⟨109, #[], #[], rfl, en109, fun g' w' hch a0 b0 r hu0 hr => by exact Fn.mono (wk109 hu0  hr) fun _ _ _ h => RV_bool.2 h⟩ x6) fun l8 n8 x8 hs hr => ?_)
   have hfr := hfr.ext hs
   subst hr
   refine EL_p (.bool (l5)) (P_pick (b := (decide (((((x0).PayTable).Rows).length : Int) > (6 : Int)))) rfl (pick_f o0 rfl)) rfl ?_
   refine EL_at (.bool (l5)) rfl rfl ?_
   refine EL_nil ?_
   obtain rfl := sinj h
   exact hQ _ _ ⟨l8, hfr, rfl⟩
 ·clear hx
  obtain ⟨a9, hfr, t5⟩ := hR
  refine E_ret ?_
  obtain rfl := sinj h
  exact end1 rfl rfl (show _ = .bool (u3) from t5) ⟨_, hfr, rfl⟩
def f85 (x0 : PaySheet) : Option (Bool) :=
 jn (σ := Unit) (fun _ =>
  (f108 (((x0).PayTable).Rows) ((fun a0 => f110 a0 x0))).bind fun i7 =>
  some ((!i7))
  ) fun rA =>
 Option.bind (α := Bool) (
  bif (((((x0).PayTable).Rows).length : Int) == (0 : Int)) then
   some (true)
  else
   (idx (((x0).PayTable).Rows) (0 : Int)).bind fun t5 =>
   bif (((t5).length : Int) == (0 : Int)) then
    some (true)
   else
    bif (((((x0).PayTable).Across).length : Int) != ((((x0).PayTable).Rows).length : Int)) then
     some (true)
    else
     (idx (((x0).PayTable).Rows) (0 : Int)).bind fun m7 =>
     some ((((((x0).PayTable).Down).length : Int) != ((m7).length : Int)))
  ) fun x5 =>
 bif x5 then
  some (false)
 else
  rA ()
theorem en85 : Enters Tryz.prog 85 := enters_of Tryz.func85 (by kernel_rfl) rfl
theorem wk85 {gI : Gh} {wI : World} {x0 : PaySheet} {up0 : Value} (rp0 : RV gI.m wI x0 up0) {r : Bool} (h : f85 x0 = some r) : Fn Tryz.prog 85 #[up0] gI wI (fun _ _ v => v = .bool (r)) := by
 unfold f85 at h
 refine fn_of_E Tryz.func85 rfl (Nat.le_of_ble_eq_true rfl) fun g0 hm hfr => ?_
 have rp0 : RV g0.m wI x0 up0 := hm ▸ rp0
 show E _ 47 none _ _ _ _ _
 refine E_seq (E_region (EL_do .plain rfl (D_box (g := g0) rfl rp0 fun g1 w1 p1 hs q1 => ?_)))
 have hfr := hfr.ext hs
 refine EL_at (.bool false) rfl rfl ?_
 refine EL_nil (thn_n (E_joinC h (fun (s : Unit) e w => ∃ (g : Gh) , Fr gI wI g w ∧ e 1 = p1 ∧ PT g.m w (x0 : PaySheet) p1) (fun X395 rA cC h => ?_) ?_))
 ·obtain ⟨x5, hx, h⟩ := bsome h
  refine E_join (fun e w => ∃ (g : Gh) , Fr gI wI g w ∧ e 1 = p1 ∧ PT g.m w (x0 : PaySheet) p1 ∧ e 40 = .bool (x5)) (fun Q' hQ => ?_) (fun iE nE hR => ?_)
  ·replace h := hx
   clear hx
   have g8 := PT_field (part_PaySheet_0).1 q1
   have vC := PT_field (part_PayTable_0).1 g8
   refine L_load (x := .tmp 4) Tryz.isAgg56 Tryz.sizeOf56 vC fun m8 n8 x6 => ?_
   rcases csome h with ⟨o0, h⟩ | ⟨o0, h⟩
   ·refine E_drawL (g := g1) (n := 38) [] [0, 1, 2, 3, 4, 5, 6, 7, 8, 9, 10, 11, 12, 13, 14, 15, 16, 17, 18, 19, 20, 21, 22, 23, 24, 25, 26, 27, 28, 29, 30, 31, 32, 33, 34, 35, 36, 37] rfl mixed (by kernel_rfl) trivial ?_
    refine L_p (fPtr p1 0) rfl rfl (P_fieldAddr at_132_0 rfl (PT.ptr q1)) ?_
    refine L_p (fPtr (fPtr p1 0) 0) rfl rfl (P_fieldAddr at_58_0 rfl (PT.ptr g8)) ?_
    refine L_ld (c := m8) rfl rfl .plain (fun _ _ h => h.ch) x6 rfl ?_
    refine L_p (.int .i64 ((((x0).PayTable).Rows).length : Int)) rfl rfl (P_len Tryz.underlying56 rfl n8) ?_
    refine L_p (.bool ((((((x0).PayTable).Rows).length : Int) == (0 : Int)))) rfl rfl (P_int rfl rfl rfl) ?_
    refine L_p (.bool ((((((x0).PayTable).Rows).length : Int) == (0 : Int)))) rfl rfl (P_move rfl) ?_
    iterate 7 refine L_s rfl rfl rfl o0 rfl ?_
    refine L_p (.bool true) rfl rfl (P_pick (b := (((((x0).PayTable).Rows).length : Int) == (0 : Int))) rfl (pick_t o0 rfl)) ?_
    refine L_dead (fun _ => rfl) 24 rfl ?_
    refine L_nl fun aD oE hs => ?_
    have hfr := hfr.ext hs
    have q1 := q1.ext hs
    clear hs
    refine EL_nil ?_
    obtain rfl := sinj h
    exact hQ _ _ ⟨aD, hfr, rfl, q1, rfl⟩
   ·have r8 := PT_field (part_PaySheet_0).1 q1
    have bD := PT_field (part_PayTable_0).1 r8
    refine L_load (x := .tmp 10) Tryz.isAgg56 Tryz.sizeOf56 bD fun i6 v8 x8 => ?_
    obtain ⟨t5, y6, h⟩ := bsome h
    have cD := PT_idx v8 y6
    refine L_load (x := .tmp 12) Tryz.isAgg23 Tryz.sizeOf23 cD fun l9 n9 a9 => ?_
    rcases csome h with ⟨u3, h⟩ | ⟨u3, h⟩
    ·refine E_drawL (g := g1) (n := 38) [] [0, 1, 2, 3, 4, 5, 6, 7, 8, 9, 10, 11, 12, 13, 14, 15, 16, 17, 18, 19, 20, 21, 22, 23, 24, 25, 26, 27, 28, 29, 30, 31, 32, 33, 34, 35, 36, 37] rfl mixed (by kernel_rfl) trivial ?_
     refine L_p (fPtr p1 0) rfl rfl (P_fieldAddr at_132_0 rfl (PT.ptr q1)) ?_
     refine L_p (fPtr (fPtr p1 0) 0) rfl rfl (P_fieldAddr at_58_0 rfl (PT.ptr g8)) ?_
     refine L_ld (c := m8) rfl rfl .plain (fun _ _ h => h.ch) x6 rfl ?_
     refine L_p (.int .i64 ((((x0).PayTable).Rows).length : Int)) rfl rfl (P_len Tryz.underlying56 rfl n8) ?_
     refine L_p (.bool ((((((x0).PayTable).Rows).length : Int) == (0 : Int)))) rfl rfl (P_int rfl rfl rfl) ?_
     refine L_p (.bool ((((((x0).PayTable).Rows).length : Int) == (0 : Int)))) rfl rfl (P_move rfl) ?_
     refine L_y (fPtr p1 0) rfl rfl rfl rfl o0 (P_fieldAddr at_132_0 rfl (PT.ptr q1)) ?_
     refine L_y (fPtr (fPtr p1 0) 0) rfl rfl rfl rfl o0 (P_fieldAddr at_58_0 rfl (PT.ptr r8)) ?_
     refine L_ld (c := i6) rfl rfl (.yes2 rfl rfl o0) (fun _ _ h => h.ch) x8 rfl ?_
     refine L_y (ePtr i6 (0 : Int) 1) rfl rfl rfl rfl o0 (P_indexAddr (α := List Int) Tryz.underlying56 Tryz.sizeOf23 rfl v8 rfl y6) ?_
     refine L_ld (c := l9) rfl rfl (.yes2 rfl rfl o0) (fun _ _ h => h.ch) a9 rfl ?_
     refine L_y (.int .i64 ((t5).length : Int)) rfl rfl rfl rfl o0 (P_len Tryz.underlying23 rfl n9) ?_
     refine L_y (.bool ((((t5).length : Int) == (0 : Int)))) rfl rfl rfl rfl o0 (P_int rfl rfl rfl) ?_
     refine L_p (.bool ((((t5).length : Int) == (0 : Int)))) rfl rfl (P_pick (b := (((((x0).PayTable).Rows).length : Int) == (0 : Int))) rfl (pick_f o0 rfl)) ?_
     refine L_p (.bool ((((t5).length : Int) == (0 : Int)))) rfl rfl (P_move rfl) ?_
     iterate 9 refine L_s rfl rfl rfl u3 rfl ?_
     refine L_p (.bool true) rfl rfl (P_pick (b := (((t5).length : Int) == (0 : Int))) rfl (pick_t u3 rfl)) ?_
     refine L_dead (fun _ => rfl) 13 rfl ?_
     refine L_nl fun eD rE hs => ?_
     have hfr := hfr.ext hs
     have q1 := q1.ext hs
     clear hs
     refine EL_nil ?_
     obtain rfl := sinj h
     exact hQ _ _ ⟨eD, hfr, rfl, q1, rfl⟩
    ·have u9 := PT_field (part_PaySheet_0).1 q1
     have gD := PT_field (part_PayTable_1).1 u9
     refine L_load (x := .tmp 19) Tryz.isAgg23 Tryz.sizeOf23 gD fun yA aB z9 => ?_
     have y9 := PT_field (part_PaySheet_0).1 q1
     have iD := PT_field (part_PayTable_0).1 y9
     refine L_load (x := .tmp 23) Tryz.isAgg56 Tryz.sizeOf56 iD fun dB iB bA => ?_
     rcases csome h with ⟨l5, h⟩ | ⟨l5, h⟩
     ·refine E_drawL (g := g1) (n := 38) [] [0, 1, 2, 3, 4, 5, 6, 7, 8, 9, 10, 11, 12, 13, 14, 15, 16, 17, 18, 19, 20, 21, 22, 23, 24, 25, 26, 27, 28, 29, 30, 31, 32, 33, 34, 35, 36, 37] rfl mixed (by kernel_rfl) trivial ?_
      refine L_p (fPtr p1 0) rfl rfl (P_fieldAddr at_132_0 rfl (PT.ptr q1)) ?_
      refine L_p (fPtr (fPtr p1 0) 0) rfl rfl (P_fieldAddr at_58_0 rfl (PT.ptr g8)) ?_
      refine L_ld (c := m8) rfl rfl .plain (fun _ _ h => h.ch) x6 rfl ?_
      refine L_p (.int .i64 ((((x0).PayTable).Rows).length : Int)) rfl rfl (P_len Tryz.underlying56 rfl n8) ?_
      refine L_p (.bool ((((((x0).PayTable).Rows).length : Int) == (0 : Int)))) rfl rfl (P_int rfl rfl rfl) ?_
      refine L_p (.bool ((((((x0).PayTable).Rows).length : Int) == (0 : Int)))) rfl rfl (P_move rfl) ?_
      refine L_y (fPtr p1 0) rfl rfl rfl rfl o0 (P_fieldAddr at_132_0 rfl (PT.ptr q1)) ?_
      refine L_y (fPtr (fPtr p1 0) 0) rfl rfl rfl rfl o0 (P_fieldAddr at_58_0 rfl (PT.ptr r8)) ?_
      refine L_ld (c := i6) rfl rfl (.yes2 rfl rfl o0) (fun _ _ h => h.ch) x8 rfl ?_
      refine L_y (ePtr i6 (0 : Int) 1) rfl rfl rfl rfl o0 (P_indexAddr (α := List Int) Tryz.underlying56 Tryz.sizeOf23 rfl v8 rfl y6) ?_
      refine L_ld (c := l9) rfl rfl (.yes2 rfl rfl o0) (fun _ _ h => h.ch) a9 rfl ?_
      refine L_y (.int .i64 ((t5).length : Int)) rfl rfl rfl rfl o0 (P_len Tryz.underlying23 rfl n9) ?_
      refine L_y (.bool ((((t5).length : Int) == (0 : Int)))) rfl rfl rfl rfl o0 (P_int rfl rfl rfl) ?_
      refine L_p (.bool ((((t5).length : Int) == (0 : Int)))) rfl rfl (P_pick (b := (((((x0).PayTable).Rows).length : Int) == (0 : Int))) rfl (pick_f o0 rfl)) ?_
      refine L_p (.bool ((((t5).length : Int) == (0 : Int)))) rfl rfl (P_move rfl) ?_
      refine L_y (fPtr p1 0) rfl rfl rfl rfl u3 (P_fieldAddr at_132_0 rfl (PT.ptr q1)) ?_
      refine L_y (fPtr (fPtr p1 0) 1) rfl rfl rfl rfl u3 (P_fieldAddr at_58_1 rfl (PT.ptr u9)) ?_
      refine L_ld (c := yA) rfl rfl (.yes2 rfl rfl u3) (fun _ _ h => h.ch) z9 rfl ?_
      refine L_y (.int .i64 ((((x0).PayTable).Across).length : Int)) rfl rfl rfl rfl u3 (P_len Tryz.underlying23 rfl aB) ?_
      refine L_y (fPtr p1 0) rfl rfl rfl rfl u3 (P_fieldAddr at_132_0 rfl (PT.ptr q1)) ?_
      refine L_y (fPtr (fPtr p1 0) 0) rfl rfl rfl rfl u3 (P_fieldAddr at_58_0 rfl (PT.ptr y9)) ?_
      refine L_ld (c := dB) rfl rfl (.yes2 rfl rfl u3) (fun _ _ h => h.ch) bA rfl ?_
      refine L_y (.int .i64 ((((x0).PayTable).Rows).length : Int)) rfl rfl rfl rfl u3 (P_len Tryz.underlying56 rfl iB) ?_
      refine L_y (.bool ((((((x0).PayTable).Across).length : Int) != ((((x0).PayTable).Rows).length : Int)))) rfl rfl rfl rfl u3 (P_int rfl rfl rfl) ?_
      refine L_p (.bool ((((((x0).PayTable).Across).length : Int) != ((((x0).PayTable).Rows).length : Int)))) rfl rfl (P_pick (b := (((t5).length : Int) == (0 : Int))) rfl (pick_f u3 rfl)) ?_
      refine L_p (.bool ((((((x0).PayTable).Across).length : Int) != ((((x0).PayTable).Rows).length : Int)))) rfl rfl (P_move rfl) ?_
      iterate 11 refine L_s rfl rfl rfl l5 rfl ?_
      refine L_p (.bool true) rfl rfl (P_pick (b := (((((x0).PayTable).Across).length : Int) != ((((x0).PayTable).Rows).length : Int))) rfl (pick_t l5 rfl)) ?_
      refine L_nl fun jD uE hs => ?_
      have hfr := hfr.ext hs
      have q1 := q1.ext hs
      clear hs
      refine EL_nil ?_
      obtain rfl := sinj h
      exact hQ _ _ ⟨jD, hfr, rfl, q1, rfl⟩
     ·have lB := PT_field (part_PaySheet_0).1 q1
      have lD := PT_field (part_PayTable_2).1 lB
      refine L_load (x := .tmp 30) Tryz.isAgg23 Tryz.sizeOf23 lD fun nD oD mC => ?_
      have mB := PT_field (part_PaySheet_0).1 q1
      have sD := PT_field (part_PayTable_0).1 mB
      refine L_load (x := .tmp 34) Tryz.isAgg56 Tryz.sizeOf56 sD fun nB oB qC => ?_
      obtain ⟨m7, iA, h⟩ := bsome h
      have tD := PT_idx oB iA
      refine L_load (x := .tmp 36) Tryz.isAgg23 Tryz.sizeOf23 tD fun uD vD rC => ?_
      refine E_drawL (g := g1) (n := 38) [] [0, 1, 2, 3, 4, 5, 6, 7, 8, 9, 10, 11, 12, 13, 14, 15, 16, 17, 18, 19, 20, 21, 22, 23, 24, 25, 26, 27, 28, 29, 30, 31, 32, 33, 34, 35, 36, 37] rfl mixed (by kernel_rfl) trivial ?_
      refine L_p (fPtr p1 0) rfl rfl (P_fieldAddr at_132_0 rfl (PT.ptr q1)) ?_
      refine L_p (fPtr (fPtr p1 0) 0) rfl rfl (P_fieldAddr at_58_0 rfl (PT.ptr g8)) ?_
      refine L_ld (c := m8) rfl rfl .plain (fun _ _ h => h.ch) x6 rfl ?_
      refine L_p (.int .i64 ((((x0).PayTable).Rows).length : Int)) rfl rfl (P_len Tryz.underlying56 rfl n8) ?_
      refine L_p (.bool ((((((x0).PayTable).Rows).length : Int) == (0 : Int)))) rfl rfl (P_int rfl rfl rfl) ?_
      refine L_p (.bool ((((((x0).PayTable).Rows).length : Int) == (0 : Int)))) rfl rfl (P_move rfl) ?_
      refine L_y (fPtr p1 0) rfl rfl rfl rfl o0 (P_fieldAddr at_132_0 rfl (PT.ptr q1)) ?_
      refine L_y (fPtr (fPtr p1 0) 0) rfl rfl rfl rfl o0 (P_fieldAddr at_58_0 rfl (PT.ptr r8)) ?_
      refine L_ld (c := i6) rfl rfl (.yes2 rfl rfl o0) (fun _ _ h => h.ch) x8 rfl ?_
      refine L_y (ePtr i6 (0 : Int) 1) rfl rfl rfl rfl o0 (P_indexAddr (α := List Int) Tryz.underlying56 Tryz.sizeOf23 rfl v8 rfl y6) ?_
      refine L_ld (c := l9) rfl rfl (.yes2 rfl rfl o0) (fun _ _ h => h.ch) a9 rfl ?_
      refine L_y (.int .i64 ((t5).length : Int)) rfl rfl rfl rfl o0 (P_len Tryz.underlying23 rfl n9) ?_
      refine L_y (.bool ((((t5).length : Int) == (0 : Int)))) rfl rfl rfl rfl o0 (P_int rfl rfl rfl) ?_
      refine L_p (.bool ((((t5).length : Int) == (0 : Int)))) rfl rfl (P_pick (b := (((((x0).PayTable).Rows).length : Int) == (0 : Int))) rfl (pick_f o0 rfl)) ?_
      refine L_p (.bool ((((t5).length : Int) == (0 : Int)))) rfl rfl (P_move rfl) ?_
      refine L_y (fPtr p1 0) rfl rfl rfl rfl u3 (P_fieldAddr at_132_0 rfl (PT.ptr q1)) ?_
      refine L_y (fPtr (fPtr p1 0) 1) rfl rfl rfl rfl u3 (P_fieldAddr at_58_1 rfl (PT.ptr u9)) ?_
      refine L_ld (c := yA) rfl rfl (.yes2 rfl rfl u3) (fun _ _ h => h.ch) z9 rfl ?_
      refine L_y (.int .i64 ((((x0).PayTable).Across).length : Int)) rfl rfl rfl rfl u3 (P_len Tryz.underlying23 rfl aB) ?_
      refine L_y (fPtr p1 0) rfl rfl rfl rfl u3 (P_fieldAddr at_132_0 rfl (PT.ptr q1)) ?_
      refine L_y (fPtr (fPtr p1 0) 0) rfl rfl rfl rfl u3 (P_fieldAddr at_58_0 rfl (PT.ptr y9)) ?_
      refine L_ld (c := dB) rfl rfl (.yes2 rfl rfl u3) (fun _ _ h => h.ch) bA rfl ?_
      refine L_y (.int .i64 ((((x0).PayTable).Rows).length : Int)) rfl rfl rfl rfl u3 (P_len Tryz.underlying56 rfl iB) ?_
      refine L_y (.bool ((((((x0).PayTable).Across).length : Int) != ((((x0).PayTable).Rows).length : Int)))) rfl rfl rfl rfl u3 (P_int rfl rfl rfl) ?_
      refine L_p (.bool ((((((x0).PayTable).Across).length : Int) != ((((x0).PayTable).Rows).length : Int)))) rfl rfl (P_pick (b := (((t5).length : Int) == (0 : Int))) rfl (pick_f u3 rfl)) ?_
      refine L_p (.bool ((((((x0).PayTable).Across).length : Int) != ((((x0).PayTable).Rows).length : Int)))) rfl rfl (P_move rfl) ?_
      refine L_y (fPtr p1 0) rfl rfl rfl rfl l5 (P_fieldAddr at_132_0 rfl (PT.ptr q1)) ?_
      refine L_y (fPtr (fPtr p1 0) 2) rfl rfl rfl rfl l5 (P_fieldAddr at_58_2 rfl (PT.ptr lB)) ?_
      refine L_ld (c := nD) rfl rfl (.yes2 rfl rfl l5) (fun _ _ h => h.ch) mC rfl ?_
      refine L_y (.int .i64 ((((x0).PayTable).Down).length : Int)) rfl rfl rfl rfl l5 (P_len Tryz.underlying23 rfl oD) ?_
      refine L_y (fPtr p1 0) rfl rfl rfl rfl l5 (P_fieldAddr at_132_0 rfl (PT.ptr q1)) ?_
      refine L_y (fPtr (fPtr p1 0) 0) rfl rfl rfl rfl l5 (P_fieldAddr at_58_0 rfl (PT.ptr mB)) ?_
      refine L_ld (c := nB) rfl rfl (.yes2 rfl rfl l5) (fun _ _ h => h.ch) qC rfl ?_
      refine L_y (ePtr nB (0 : Int) 1) rfl rfl rfl rfl l5 (P_indexAddr (α := List Int) Tryz.underlying56 Tryz.sizeOf23 rfl oB rfl iA) ?_
      refine L_ld (c := uD) rfl rfl (.yes2 rfl rfl l5) (fun _ _ h => h.ch) rC rfl ?_
      refine L_y (.int .i64 ((m7).length : Int)) rfl rfl rfl rfl l5 (P_len Tryz.underlying23 rfl vD) ?_
      refine L_y (.bool ((((((x0).PayTable).Down).length : Int) != ((m7).length : Int)))) rfl rfl rfl rfl l5 (P_int rfl rfl rfl) ?_
      refine L_p (.bool ((((((x0).PayTable).Down).length : Int) != ((m7).length : Int)))) rfl rfl (P_pick (b := (((((x0).PayTable).Across).length : Int) != ((((x0).PayTable).Rows).length : Int))) rfl (pick_f l5 rfl)) ?_
      refine L_nl fun xD vE hs => ?_
      have hfr := hfr.ext hs
      have q1 := q1.ext hs
      clear hs
      refine EL_nil ?_
      obtain rfl := sinj h
      exact hQ _ _ ⟨xD, hfr, rfl, q1, rfl⟩
  ·clear hx
   obtain ⟨yD, hfr, tB, vB, l8⟩ := hR
   rcases csome h with ⟨d9, h⟩ | ⟨d9, h⟩
   ·refine E_cond_true (Eq.trans (show ev _ _ = .bool (x5) from l8) (congrArg Value.bool d9)) ?_
    refine E_seq (E_region (EL_at (.bool false) rfl rfl ?_))
    refine EL_nil (thn_n (E_ret (thn_r ?_)))
    obtain rfl := sinj h
    exact end1 rfl rfl (show _ = .bool false from rfl) ⟨_, hfr, rfl⟩
   ·refine E_cond_false (Eq.trans (show ev _ _ = .bool (x5) from l8) (congrArg Value.bool d9)) ?_
    exact E_skip (thn_n (cC () _ _ ⟨yD, hfr, tB, vB⟩ h))
 ·rintro _ lE xE ⟨yB, hfr, k9, k8⟩ h
  refine E_seq (E_region (EL_p (fPtr p1 0) (P_fieldAddr at_132_0 k9 (PT.ptr k8)) rfl ?_))
  have zB := PT_field (part_PaySheet_0).1 k8
  refine EL_p (fPtr (fPtr p1 0) 0) (P_fieldAddr at_58_0 rfl (PT.ptr zB)) rfl ?_
  have zD := PT_field (part_PayTable_0).1 zB
  refine EL_do .plain rfl (D_load (g := yB) Tryz.isAgg56 Tryz.sizeOf56 rfl zD fun aE bE => ?_)
  refine EL_p ((.func (.func 110) #[] #[p1])) (P_makeFunc (capf_0_1 (show ev _ _ = p1 from k9))) rfl ?_
  obtain ⟨i7, uC, h⟩ := bsome h
  refine EL_do .plain rfl (D_call (g := yB) (vs := [aE, (.func (.func 110) #[] #[p1])]) en108 (.cons rfl (.cons rfl .nil)) (wk108 bE ⟨110, #[], #[p1], rfl, en110, fun g' w' hch a0 b0 r hu0 hr => by exact Fn.mono (wk110 hu0 (k8.ch hch) hr) fun _ _ _ h => RV_bool.2 h⟩ uC) fun yE mE zE hs hr => ?_)
  have hfr := hfr.ext hs
  subst hr
  refine EL_p (.bool (!i7)) (P_not rfl) rfl ?_
  refine EL_at (.bool (!i7)) rfl rfl ?_
  refine EL_nil (thn_n (E_ret ?_))
  obtain rfl := sinj h
  exact end1 rfl rfl (show _ = .bool (!i7) from rfl) ⟨_, hfr, rfl⟩
def f86 (x0 : List Int) : Option (Bool) :=
 (f54 ((-1 : Int)) ((1000000 : Int)) x0).bind fun y2 =>
 some (y2)
theorem en86 : Enters Tryz.prog 86 := enters_of Tryz.func86 (by kernel_rfl) rfl
theorem wk86 {gI : Gh} {wI : World} {x0 : List Int} {up0 : Value} (rp0 : RV gI.m wI x0 up0) {r : Bool} (h : f86 x0 = some r) : Fn Tryz.prog 86 #[up0] gI wI (fun _ _ v => v = .bool (r)) := by
 unfold f86 at h
 refine fn_of_E Tryz.func86 rfl (Nat.le_of_ble_eq_true rfl) fun g0 hm hfr => ?_
 have rp0 : RV g0.m wI x0 up0 := hm ▸ rp0
 show E _ 5 none _ _ _ _ _
 refine E_seq (E_region (EL_at (.bool false) rfl rfl ?_))
 refine EL_nil (thn_n (E_seq (E_region (EL_mw up0 rfl rfl ?_))))
 obtain ⟨y2, hy2, h⟩ := bsome h
 refine EL_do .plain rfl (D_call (g := g0) (vs := [.int .i64 (-1), .int .i64 (1000000), up0]) en54 (.cons rfl (.cons rfl (.cons rfl .nil))) (wk54 rp0 hy2) fun g1 w1_ v1 hs hr => ?_)
 have hfr := hfr.ext hs
 subst hr
 refine EL_at (.bool (y2)) rfl rfl ?_
 refine EL_nil (thn_n (E_ret ?_))
 obtain rfl := sinj h
 exact end1 rfl rfl (show _ = .bool (y2) from rfl) ⟨_, hfr, rfl⟩
def f63 (x0 : PayTable) : Option (PaySheet × Int) :=
 jn (σ := PaySheet) (fun aB =>
  some ((⟨x0⟩ : PaySheet), (0 : Int))
  ) fun aD =>
 (f84 ((⟨x0⟩ : PaySheet))).bind fun dB =>
 bif dB then
  some ((⟨x0⟩ : PaySheet), (5 : Int))
 else
  (f85 ((⟨x0⟩ : PaySheet))).bind fun iA =>
  bif (!iA) then
   some ((⟨x0⟩ : PaySheet), (4 : Int))
  else
   Option.bind (α := Bool) (
    (f69 ((x0).Rows)).bind fun iB =>
    (f86 iB).bind fun i7 =>
    bif (!i7) then
     some ((!i7))
    else
     (f72 ((x0).Across)).bind fun m7 =>
     bif (!m7) then
      some ((!m7))
     else
      (f72 ((x0).Down)).bind fun g8 =>
      bif (!g8) then
       some ((!g8))
      else
       (f72 (([(x0).Total] : List Int))).bind fun m8 =>
       some ((!m8))
    ) fun t5 =>
   bif t5 then
    some ((⟨x0⟩ : PaySheet), (2 : Int))
   else
    (f87 ((⟨x0⟩ : PaySheet))).bind fun k8 =>
    bif (decide (((k8).length : Int) > (12 : Int))) then
     some ((⟨x0⟩ : PaySheet), (8 : Int))
    else
     aD ((⟨⟨[], [], [], 0⟩⟩ : PaySheet))
theorem en63 : Enters Tryz.prog 63 := enters_of Tryz.func63 (by kernel_rfl) rfl
theorem wk63 {gI : Gh} {wI : World} {x0 : PayTable} {up0 : Value} (rp0 : RV gI.m wI x0 up0) {r : PaySheet × Int} (h : f63 x0 = some r) : Fn Tryz.prog 63 #[up0] gI wI (fun m w v => ∃ y0 y1, v = .tuple #[y0, y1] ∧ RV m w (r.1) y0 ∧ y1 = .int .i64 (r.2)) := by
 unfold f63 at h
 refine fn_of_E Tryz.func63 rfl (Nat.le_of_ble_eq_true rfl) fun g0 hm hfr => ?_
 have rp0 : RV g0.m wI x0 up0 := hm ▸ rp0
 show E _ 47 none _ _ _ _ _
 refine E_seq (E_region (EL_do .plain rfl (D_box (g := g0) rfl rp0 fun g1 w1 p1 hs q1 => ?_)))
 have hfr := hfr.ext hs
 refine EL_do .plain rfl (D_allocOc (g := g1) 2002 (⟨⟨[], [], [], 0⟩⟩ : PaySheet) Tryz.zeroValue132 (fun m w => ⟨_, (rep_two rep_nil (rep_two rep_nil (rep_two rep_nil rep_int))), rfl⟩) fun g2 w2 p2 hs b2 cb => ?_)
 have hfr := hfr.stp hs
 have q1 := q1.stp hs
 have o0 : OSF 2002 60200 0 g2 w2 23 132 ([] : List (List Int)) p2 := cb.osf (by rfl)
 have u3 : OSF 2002 60201 1 g2 w2 3 132 ([] : List Int) p2 := cb.osf (by rfl)
 have l5 : OSF 2002 60202 2 g2 w2 3 132 ([] : List Int) p2 := cb.osf (by rfl)
 clear cb
 refine EL_at (.int .i64 (0)) rfl rfl ?_
 refine EL_nil (thn_n (E_seq (E_region (EL_do .plain rfl (D_load (g := g2) Tryz.isAgg58 Tryz.sizeOf58 rfl q1 fun v3 r3 => ?_)))))
 have r4 : RV g2.m _ (⟨x0⟩ : PaySheet) (.agg (setCh [[.slice none 0 0, .slice none 0 0, .slice none 0 0, .int .i64 0]] [(0, v3)]).flatten.toArray) := RV_build rfl (rep_last (RV.cells r3))
 generalize yE : (Value.agg (setCh [[.slice none 0 0, .slice none 0 0, .slice none 0 0, .int .i64 0]] [(0, v3)]).flatten.toArray) = v4 at r4
 refine EL_p v4 (yE ▸ P_build (vs := [(0, v3)]) [[.slice none 0 0, .slice none 0 0, .slice none 0 0, .int .i64 0]] lay_132 rfl rfl (.cons rfl .nil) ⟨⟨_, rfl, cells_size r3⟩, trivial⟩) rfl ?_
 refine EL_do .plain rfl (D_allocOc (g := g2) 2004 (⟨⟨[], [], [], 0⟩⟩ : PaySheet) Tryz.zeroValue132 (fun m w => ⟨_, (rep_two rep_nil (rep_two rep_nil (rep_two rep_nil rep_int))), rfl⟩) fun g5 w5 p5 hs b5 cb => ?_)
 have hfr := hfr.stp hs
 have o0 := o0.stp hs rfl
 have u3 := u3.stp hs rfl
 have l5 := l5.stp hs rfl
 have b2 := b2.stp hs rfl
 have r4 := r4.stp hs
 have gG : OSF 2004 60400 0 g5 w5 23 132 ([] : List (List Int)) p5 := cb.osf (by rfl)
 have hG : OSF 2004 60401 1 g5 w5 3 132 ([] : List Int) p5 := cb.osf (by rfl)
 have iG : OSF 2004 60402 2 g5 w5 3 132 ([] : List Int) p5 := cb.osf (by rfl)
 clear cb
 refine EL_do .plain rfl (D_storeOc (g := g5) (v := v4) Tryz.sizeOf132 rfl b5 rfl r4 fun g6 w6 hs b6 cb => ?_)
 clear cb
 have hfr := hfr.stp hs
 have o0 := o0.stp hs rfl
 have u3 := u3.stp hs rfl
 have l5 := l5.stp hs rfl
 have b2 := b2.stp hs rfl
 refine EL_nil (thn_n (E_joinC h (fun (s : PaySheet) e w => ∃ (g : Gh) , Fr gI wI g w ∧ e 2 = p2 ∧ OB 2002 g w 132 (s : PaySheet) p2 ∧ OSF 2002 60200 0 g w 23 132 (((s).PayTable).Rows) p2 ∧ OSF 2002 60201 1 g w 3 132 (((s).PayTable).Across) p2 ∧ OSF 2002 60202 2 g w 3 132 (((s).PayTable).Down) p2 ∧ e 4 = p5 ∧ OB 2004 g w 132 ((⟨x0⟩ : PaySheet) : PaySheet) p5) (fun X86 aD bD h => ?_) ?_))
 ·refine E_block ?_
  refine E_seq (E_region (EL_do .plain rfl (D_loadO (g := g6) Tryz.isAgg132 Tryz.sizeOf132 rfl b6 fun zE cF => ?_)))
  obtain ⟨dB, cD, h⟩ := bsome h
  refine EL_do .plain rfl (D_call (g := g6) (vs := [zE]) en84 (.cons rfl .nil) (wk84 cF cD) fun rA jG nH hs hr => ?_)
  have hfr := hfr.ext hs
  have o0 := o0.ext hs
  have u3 := u3.ext hs
  have l5 := l5.ext hs
  have b2 := b2.ext hs
  have b6 := b6.ext hs
  subst hr
  refine EL_at (.bool (dB)) rfl rfl ?_
  refine EL_nil (thn_n ?_)
  rcases csome h with ⟨l9, h⟩ | ⟨l9, h⟩
  ·refine E_ct l9 rfl ?_
   refine E_seq (E_region (EL_do .plain rfl (D_loadO (g := rA) Tryz.isAgg132 Tryz.sizeOf132 rfl b6 fun dF eF => ?_)))
   refine EL_do .plain rfl (D_storeOc (g := rA) (v := dF) Tryz.sizeOf132 rfl b2 rfl eF fun oH pH hs b92 cb => ?_)
   clear cb
   have hfr := hfr.stp hs
   refine EL_at (.int .i64 (5)) rfl rfl ?_
   refine EL_nil (thn_n (E_ret (blk_r ?_)))
   refine thn_r ?_
   obtain rfl := sinj h
   obtain ⟨ad93, cv93, hp93, eD, cr93⟩ := ob_read Tryz.isAgg132 Tryz.sizeOf132 b92
   exact endm_ct rfl rfl ((show _ = p2 from rfl).trans hp93) eD (show _ = .int .i64 (5) from rfl) ⟨_, hfr, _, _, rfl, cr93, rfl⟩
  ·refine E_cf l9 rfl ?_
   refine E_seq (E_region (EL_do .plain rfl (D_loadO (g := rA) Tryz.isAgg132 Tryz.sizeOf132 rfl b6 fun rF sF => ?_)))
   obtain ⟨iA, gD, h⟩ := bsome h
   refine EL_do .plain rfl (D_call (g := rA) (vs := [rF]) en85 (.cons rfl .nil) (wk85 sF gD) fun yA kG qH hs hr => ?_)
   have hfr := hfr.ext hs
   have o0 := o0.ext hs
   have u3 := u3.ext hs
   have l5 := l5.ext hs
   have b2 := b2.ext hs
   have b6 := b6.ext hs
   subst hr
   refine EL_p (.bool (!iA)) (P_not rfl) rfl ?_
   refine EL_at (.bool (!iA)) rfl rfl ?_
   refine EL_nil (thn_n ?_)
   rcases csome h with ⟨n9, h⟩ | ⟨n9, h⟩
   ·refine E_ct n9 rfl ?_
    refine E_seq (E_region (EL_do .plain rfl (D_loadO (g := yA) Tryz.isAgg132 Tryz.sizeOf132 rfl b6 fun tF uF => ?_)))
    refine EL_do .plain rfl (D_storeOc (g := yA) (v := tF) Tryz.sizeOf132 rfl b2 rfl uF fun sH tH hs b99 cb => ?_)
    clear cb
    have hfr := hfr.stp hs
    refine EL_at (.int .i64 (4)) rfl rfl ?_
    refine EL_nil (thn_n (E_ret (blk_r ?_)))
    refine thn_r ?_
    obtain rfl := sinj h
    obtain ⟨ad100, cv100, hp100, tB, cr100⟩ := ob_read Tryz.isAgg132 Tryz.sizeOf132 b99
    exact endm_ct rfl rfl ((show _ = p2 from rfl).trans hp100) tB (show _ = .int .i64 (4) from rfl) ⟨_, hfr, _, _, rfl, cr100, rfl⟩
   ·refine E_cf n9 rfl ?_
    obtain ⟨t5, hx, h⟩ := bsome h
    refine E_join (fun e w => ∃ (g : Gh) , Fr gI wI g w ∧ e 2 = p2 ∧ OB 2002 g w 132 ((⟨⟨[], [], [], 0⟩⟩ : PaySheet) : PaySheet) p2 ∧ OSF 2002 60200 0 g w 23 132 ((((⟨⟨[], [], [], 0⟩⟩ : PaySheet)).PayTable).Rows) p2 ∧ OSF 2002 60201 1 g w 3 132 ((((⟨⟨[], [], [], 0⟩⟩ : PaySheet)).PayTable).Across) p2 ∧ OSF 2002 60202 2 g w 3 132 ((((⟨⟨[], [], [], 0⟩⟩ : PaySheet)).PayTable).Down) p2 ∧ e 4 = p5 ∧ OB 2004 g w 132 ((⟨x0⟩ : PaySheet) : PaySheet) p5 ∧ e 16 = .bool (t5)) (fun Q' hQ => ?_) (fun vF lG hR => ?_)
    ·replace h := hx
     clear hx
     refine E_seq (E_region (EL_p (fPtr p5 0) (P_fieldAddr at_132_0 rfl (OB.ptr b6)) rfl ?_))
     refine EL_p (fPtr p5 0) (P_fieldAddr2 (o1 := 0) rfl at_58_0 rfl (OB.ptr b6)) rfl ?_
     refine EL_do .plain rfl (D_loadF (g := yA) (SubS.comp part_PaySheet_0 part_PayTable_0 rfl).1 Tryz.isAgg56 Tryz.sizeOf56 rfl b6 fun iD jD => ?_)
     obtain ⟨iB, vB, h⟩ := bsome h
     refine EL_do .plain rfl (D_call (g := yA) (vs := [iD]) en69 (.cons rfl .nil) (wk69 jD vB) fun lD xF nD hs hr => ?_)
     have hfr := hfr.ext hs
     have o0 := o0.ext hs
     have u3 := u3.ext hs
     have l5 := l5.ext hs
     have b2 := b2.ext hs
     have b6 := b6.ext hs
     have oD := hr
     obtain ⟨i7, yB, h⟩ := bsome h
     refine EL_do .plain rfl (D_call (g := lD) (vs := [nD]) en86 (.cons rfl .nil) (wk86 oD yB) fun u9 yF mG hs hr => ?_)
     have hfr := hfr.ext hs
     have o0 := o0.ext hs
     have u3 := u3.ext hs
     have l5 := l5.ext hs
     have b2 := b2.ext hs
     have b6 := b6.ext hs
     subst hr
     refine EL_p (.bool (!i7)) (P_not rfl) rfl ?_
     refine EL_at (.bool (!i7)) rfl rfl ?_
     refine EL_nil (thn_n ?_)
     rcases csome h with ⟨n8, h⟩ | ⟨n8, h⟩
     ·refine E_ct n8 rfl ?_
      refine E_skip ?_
      obtain rfl := sinj h
      exact hQ _ _ ⟨u9, hfr, rfl, b2, o0, u3, l5, rfl, b6, rfl⟩
     ·refine E_cf n8 rfl ?_
      refine E_seq (E_region (EL_p (fPtr p5 0) (P_fieldAddr at_132_0 rfl (OB.ptr b6)) rfl ?_))
      refine EL_p (fPtr p5 1) (P_fieldAddr2 (o1 := 0) rfl at_58_1 rfl (OB.ptr b6)) rfl ?_
      refine EL_do .plain rfl (D_loadF (g := u9) (SubS.comp part_PaySheet_0 part_PayTable_1 rfl).1 Tryz.isAgg23 Tryz.sizeOf23 rfl b6 fun sD tD => ?_)
      obtain ⟨m7, zB, h⟩ := bsome h
      refine EL_do .plain rfl (D_call (g := u9) (vs := [sD]) en72 (.cons rfl .nil) (wk72 tD zB) fun y9 zF sG hs hr => ?_)
      have hfr := hfr.ext hs
      have o0 := o0.ext hs
      have u3 := u3.ext hs
      have l5 := l5.ext hs
      have b2 := b2.ext hs
      have b6 := b6.ext hs
      subst hr
      refine EL_p (.bool (!m7)) (P_not rfl) rfl ?_
      refine EL_at (.bool (!m7)) rfl rfl ?_
      refine EL_nil (thn_n ?_)
      rcases csome h with ⟨r8, h⟩ | ⟨r8, h⟩
      ·refine E_ct r8 rfl ?_
       refine E_skip ?_
       obtain rfl := sinj h
       exact hQ _ _ ⟨y9, hfr, rfl, b2, o0, u3, l5, rfl, b6, rfl⟩
      ·refine E_cf r8 rfl ?_
       refine E_seq (E_region (EL_p (fPtr p5 0) (P_fieldAddr at_132_0 rfl (OB.ptr b6)) rfl ?_))
       refine EL_p (fPtr p5 2) (P_fieldAddr2 (o1 := 0) rfl at_58_2 rfl (OB.ptr b6)) rfl ?_
       refine EL_do .plain rfl (D_loadF (g := y9) (SubS.comp part_PaySheet_0 part_PayTable_2 rfl).1 Tryz.isAgg23 Tryz.sizeOf23 rfl b6 fun uD vD => ?_)
       obtain ⟨g8, cC, h⟩ := bsome h
       refine EL_do .plain rfl (D_call (g := y9) (vs := [uD]) en72 (.cons rfl .nil) (wk72 vD cC) fun z9 aG xG hs hr => ?_)
       have hfr := hfr.ext hs
       have o0 := o0.ext hs
       have u3 := u3.ext hs
       have l5 := l5.ext hs
       have b2 := b2.ext hs
       have b6 := b6.ext hs
       subst hr
       refine EL_p (.bool (!g8)) (P_not rfl) rfl ?_
       refine EL_at (.bool (!g8)) rfl rfl ?_
       refine EL_nil (thn_n ?_)
       rcases csome h with ⟨v8, h⟩ | ⟨v8, h⟩
       ·refine E_ct v8 rfl ?_
        refine E_skip ?_
        obtain rfl := sinj h
        exact hQ _ _ ⟨z9, hfr, rfl, b2, o0, u3, l5, rfl, b6, rfl⟩
       ·refine E_cf v8 rfl ?_
        refine E_region (EL_p (fPtr p5 0) (P_fieldAddr at_132_0 rfl (OB.ptr b6)) rfl ?_)
        refine EL_p (fPtr p5 3) (P_fieldAddr2 (o1 := 0) rfl at_58_3 rfl (OB.ptr b6)) rfl ?_
        refine EL_do .plain rfl (D_loadF (g := z9) (SubS.comp part_PaySheet_0 part_PayTable_3 rfl).1 Tryz.isAgg3 Tryz.sizeOf3 rfl b6 fun yG xD => ?_)
        obtain rfl := RV_int.1 xD
        refine EL_do .plain rfl (D_buildSlice (g := z9) 3036 (xs := ([(x0).Total] : List Int)) (vs := [.int .i64 ((x0).Total)]) Tryz.underlying23 Tryz.sizeOf3 Tryz.zeroValue3 rfl rfl (.cons rfl .nil) (RVs.cons (RV_int.2 rfl) RVs.nil) rfl rfl fun yD zG zD hs o150 aE hxt hfl => ?_)
        have hfr := hfr.stp hs
        have o0 := o0.stp hs rfl
        have u3 := u3.stp hs rfl
        have l5 := l5.stp hs rfl
        have b2 := b2.stp hs rfl
        have b6 := b6.stp hs rfl
        obtain ⟨m8, mC, h⟩ := bsome h
        refine EL_do .plain rfl (D_call (g := yD) (vs := [zD]) en72 (.cons rfl .nil) (wk72 aE mC) fun bE bG aH hs hr => ?_)
        have hfr := hfr.ext hs
        have o0 := o0.ext hs
        have u3 := u3.ext hs
        have l5 := l5.ext hs
        have b2 := b2.ext hs
        have b6 := b6.ext hs
        subst hr
        refine EL_p (.bool (!m8)) (P_not rfl) rfl ?_
        refine EL_at (.bool (!m8)) rfl rfl ?_
        refine EL_nil ?_
        obtain rfl := sinj h
        exact hQ _ _ ⟨bE, hfr, rfl, b2, o0, u3, l5, rfl, b6, rfl⟩
    ·clear hx
     obtain ⟨x8, hfr, i6, x6, u2_0_153, u2_1_153, u2_2_153, y6, x5, l8⟩ := hR
     rcases csome h with ⟨a9, h⟩ | ⟨a9, h⟩
     ·refine E_cond_true (Eq.trans (show ev _ _ = .bool (t5) from l8) (congrArg Value.bool a9)) ?_
      refine E_seq (E_region (EL_do .plain rfl (D_loadO (g := x8) Tryz.isAgg132 Tryz.sizeOf132 y6 x5 fun iE lE => ?_)))
      refine EL_do .plain rfl (D_storeOc (g := x8) (v := iE) Tryz.sizeOf132 i6 x6 rfl lE fun cH dH hs b156 cb => ?_)
      clear cb
      have hfr := hfr.stp hs
      refine EL_at (.int .i64 (2)) rfl rfl ?_
      refine EL_nil (thn_n (E_ret (blk_r ?_)))
      refine thn_r ?_
      obtain rfl := sinj h
      obtain ⟨ad157, cv157, hp157, qC, cr157⟩ := ob_read Tryz.isAgg132 Tryz.sizeOf132 b156
      exact endm_ct rfl rfl ((show _ = p2 from i6).trans hp157) qC (show _ = .int .i64 (2) from rfl) ⟨_, hfr, _, _, rfl, cr157, rfl⟩
     ·refine E_cond_false (Eq.trans (show ev _ _ = .bool (t5) from l8) (congrArg Value.bool a9)) ?_
      refine E_seq (E_region (EL_do .plain rfl (D_loadO (g := x8) Tryz.isAgg132 Tryz.sizeOf132 y6 x5 fun mE nE => ?_)))
      obtain ⟨k8, rC, h⟩ := bsome h
      refine EL_do .plain rfl (D_call (g := x8) (vs := [mE]) en87 (.cons rfl .nil) (wk87 nE rC) fun bA cG gH hs hr => ?_)
      have hfr := hfr.ext hs
      have u2_0_153 := u2_0_153.ext hs
      have u2_1_153 := u2_1_153.ext hs
      have u2_2_153 := u2_2_153.ext hs
      have x6 := x6.ext hs
      have x5 := x5.ext hs
      have oE := hr
      refine EL_p (.int .i64 ((k8).length : Int)) (P_len Tryz.underlying138 rfl oE) rfl ?_
      refine EL_in (.bool ((decide (((k8).length : Int) > (12 : Int))))) rfl rfl rfl rfl ?_
      refine EL_at (.bool ((decide (((k8).length : Int) > (12 : Int))))) rfl rfl ?_
      refine EL_nil (thn_n ?_)
      rcases csome h with ⟨d9, h⟩ | ⟨d9, h⟩
      ·refine E_ct d9 rfl ?_
       refine E_seq (E_region (EL_do .plain rfl (D_loadO (g := bA) Tryz.isAgg132 Tryz.sizeOf132 y6 x5 fun rE uE => ?_)))
       refine EL_do .plain rfl (D_storeOc (g := bA) (v := rE) Tryz.sizeOf132 i6 x6 rfl uE fun iH jH hs b163 cb => ?_)
       clear cb
       have hfr := hfr.stp hs
       refine EL_at (.int .i64 (8)) rfl rfl ?_
       refine EL_nil (thn_n (E_ret (blk_r ?_)))
       refine thn_r ?_
       obtain rfl := sinj h
       obtain ⟨ad164, cv164, hp164, uC, cr164⟩ := ob_read Tryz.isAgg132 Tryz.sizeOf132 b163
       exact endm_ct rfl rfl ((show _ = p2 from i6).trans hp164) uC (show _ = .int .i64 (8) from rfl) ⟨_, hfr, _, _, rfl, cr164, rfl⟩
      ·refine E_cf d9 rfl ?_
       exact E_skip (blk_n (thn_n (bD ((⟨⟨[], [], [], 0⟩⟩ : PaySheet)) _ _ ⟨bA, hfr, i6, x6, u2_0_153, u2_1_153, u2_2_153, y6, x5⟩ h)))
 ·rintro aB eG kH ⟨lB, hfr, k9, mB, u2_0_165, u2_1_165, u2_2_165, nB, oB⟩ h
  refine E_seq (E_region (EL_do .plain rfl (D_loadO (g := lB) Tryz.isAgg132 Tryz.sizeOf132 nB oB fun vE xE => ?_)))
  refine EL_do .plain rfl (D_storeOc (g := lB) (v := vE) Tryz.sizeOf132 k9 mB rfl xE fun lH mH hs b167 cb => ?_)
  clear cb
  have hfr := hfr.stp hs
  refine EL_at (.int .i64 (0)) rfl rfl ?_
  refine EL_nil (thn_n (E_ret ?_))
  obtain rfl := sinj h
  obtain ⟨ad168, cv168, hp168, vC, cr168⟩ := ob_read Tryz.isAgg132 Tryz.sizeOf132 b167
  exact endm_ct rfl rfl ((show _ = p2 from k9).trans hp168) vC (show _ = .int .i64 (0) from rfl) ⟨_, hfr, _, _, rfl, cr168, rfl⟩
def f66 (x0 : PayTable) : Option (PaySheet × Int) :=
 (f63 x0).bind fun y5 =>
 Option.bind (α := Int) (
  Option.bind (α := Bool) (
   bif (y5.2 == (0 : Int)) then
    (f87 (y5.1)).bind fun x6 =>
    some ((decide (((x6).length : Int) > (0 : Int))))
   else
    some (false)
   ) fun x5 =>
  bif x5 then
   some ((7 : Int))
  else
   some (y5.2)
  ) fun i6 =>
 some (y5.1, i6)
theorem en66 : Enters Tryz.prog 66 := enters_of Tryz.func66 (by kernel_rfl) rfl
theorem wk66 {gI : Gh} {wI : World} {x0 : PayTable} {up0 : Value} (rp0 : RV gI.m wI x0 up0) {r : PaySheet × Int} (h : f66 x0 = some r) : Fn Tryz.prog 66 #[up0] gI wI (fun m w v => ∃ y0 y1, v = .tuple #[y0, y1] ∧ RV m w (r.1) y0 ∧ y1 = .int .i64 (r.2)) := by
 unfold f66 at h
 refine fn_of_E Tryz.func66 rfl (Nat.le_of_ble_eq_true rfl) fun g0 hm hfr => ?_
 have rp0 : RV g0.m wI x0 up0 := hm ▸ rp0
 show E _ 21 none _ _ _ _ _
 refine E_seq (E_region (EL_do .plain rfl (D_box (g := g0) rfl rp0 fun g1 w1 p1 hs q1 => ?_)))
 have hfr := hfr.ext hs
 refine EL_do .plain rfl (D_allocOc (g := g1) 2002 (⟨⟨[], [], [], 0⟩⟩ : PaySheet) Tryz.zeroValue132 (fun m w => ⟨_, (rep_two rep_nil (rep_two rep_nil (rep_two rep_nil rep_int))), rfl⟩) fun g2 w2 p2 hs b2 cb => ?_)
 have hfr := hfr.stp hs
 have q1 := q1.stp hs
 have o0 : OSF 2002 60200 0 g2 w2 23 132 ([] : List (List Int)) p2 := cb.osf (by rfl)
 have u3 : OSF 2002 60201 1 g2 w2 3 132 ([] : List Int) p2 := cb.osf (by rfl)
 have l5 : OSF 2002 60202 2 g2 w2 3 132 ([] : List Int) p2 := cb.osf (by rfl)
 clear cb
 refine EL_at (.int .i64 (0)) rfl rfl ?_
 refine EL_nil (thn_n (E_seq (E_region (EL_do .plain rfl (D_load (g := g2) Tryz.isAgg58 Tryz.sizeOf58 rfl q1 fun v3 r3 => ?_)))))
 obtain ⟨y5, hy5, h⟩ := bsome h
 refine EL_do .plain rfl (D_call (g := g2) (vs := [v3]) en63 (.cons rfl .nil) (wk63 r3 hy5) fun g4 w4_ v4 hs hr => ?_)
 have hfr := hfr.ext hs
 have o0 := o0.ext hs
 have u3 := u3.ext hs
 have l5 := l5.ext hs
 have b2 := b2.ext hs
 obtain ⟨i7, dB, rfl, m7, rfl⟩ := hr
 refine EL_mw (.tuple #[i7, .int .i64 (y5.2)]) rfl rfl ?_
 refine EL_p i7 (P_extract rfl rfl) rfl ?_
 refine EL_p (.int .i64 (y5.2)) (P_extract rfl rfl) rfl ?_
 refine EL_do .plain rfl (D_allocOc (g := g4) 2004 (⟨⟨[], [], [], 0⟩⟩ : PaySheet) Tryz.zeroValue132 (fun m w => ⟨_, (rep_two rep_nil (rep_two rep_nil (rep_two rep_nil rep_int))), rfl⟩) fun g6 w6 p6 hs b6 cb => ?_)
 have hfr := hfr.stp hs
 have o0 := o0.stp hs rfl
 have u3 := u3.stp hs rfl
 have l5 := l5.stp hs rfl
 have b2 := b2.stp hs rfl
 have m7 := m7.stp hs
 have iB : OSF 2004 60400 0 g6 w6 23 132 ([] : List (List Int)) p6 := cb.osf (by rfl)
 have lB : OSF 2004 60401 1 g6 w6 3 132 ([] : List Int) p6 := cb.osf (by rfl)
 have mB : OSF 2004 60402 2 g6 w6 3 132 ([] : List Int) p6 := cb.osf (by rfl)
 clear cb
 refine EL_do .plain rfl (D_storeOc (g := g6) (v := i7) Tryz.sizeOf132 rfl b6 rfl m7 fun g7 w7 hs b7 cb => ?_)
 clear cb
 have hfr := hfr.stp hs
 have o0 := o0.stp hs rfl
 have u3 := u3.stp hs rfl
 have l5 := l5.stp hs rfl
 have b2 := b2.stp hs rfl
 refine EL_at (.int .i64 (y5.2)) rfl rfl ?_
 refine EL_nil (thn_n ?_)
 obtain ⟨i6, hx, h⟩ := bsome h
 refine E_join (fun e w => ∃ (g : Gh) , Fr gI wI g w ∧ e 2 = p2 ∧ OB 2002 g w 132 ((⟨⟨[], [], [], 0⟩⟩ : PaySheet) : PaySheet) p2 ∧ OSF 2002 60200 0 g w 23 132 ((((⟨⟨[], [], [], 0⟩⟩ : PaySheet)).PayTable).Rows) p2 ∧ OSF 2002 60201 1 g w 3 132 ((((⟨⟨[], [], [], 0⟩⟩ : PaySheet)).PayTable).Across) p2 ∧ OSF 2002 60202 2 g w 3 132 ((((⟨⟨[], [], [], 0⟩⟩ : PaySheet)).PayTable).Down) p2 ∧ e 4 = p6 ∧ OB 2004 g w 132 (y5.1 : PaySheet) p6 ∧ e 5 = .int .i64 (i6)) (fun Q' hQ => ?_) (fun nB vB hR => ?_)
 ·replace h := hx
  clear hx
  obtain ⟨x5, hx, h⟩ := bsome h
  refine E_join (fun e w => ∃ (g : Gh) , Fr gI wI g w ∧ e 2 = p2 ∧ OB 2002 g w 132 ((⟨⟨[], [], [], 0⟩⟩ : PaySheet) : PaySheet) p2 ∧ OSF 2002 60200 0 g w 23 132 ((((⟨⟨[], [], [], 0⟩⟩ : PaySheet)).PayTable).Rows) p2 ∧ OSF 2002 60201 1 g w 3 132 ((((⟨⟨[], [], [], 0⟩⟩ : PaySheet)).PayTable).Across) p2 ∧ OSF 2002 60202 2 g w 3 132 ((((⟨⟨[], [], [], 0⟩⟩ : PaySheet)).PayTable).Down) p2 ∧ e 4 = p6 ∧ OB 2004 g w 132 (y5.1 : PaySheet) p6 ∧ e 5 = .int .i64 (y5.2) ∧ e 18 = .bool (x5)) (fun Q' hQ => ?_) (fun oB yB hR => ?_)
  ·replace h := hx
   clear hx
   refine E_region (EL_mw (.int .i64 (y5.2)) rfl rfl ?_)
   refine EL_in (.bool ((y5.2 == (0 : Int)))) rfl rfl rfl rfl ?_
   refine EL_mw (.bool ((y5.2 == (0 : Int)))) rfl rfl ?_
   rcases csome h with ⟨t5, h⟩ | ⟨t5, h⟩
   ·refine EL_do (.yes2 rfl rfl t5) rfl (D_loadO (g := g7) Tryz.isAgg132 Tryz.sizeOf132 rfl b7 fun z9 bA => ?_)
    obtain ⟨x6, u9, h⟩ := bsome h
    refine EL_do (.yes2 rfl rfl t5) rfl (D_call (g := g7) (vs := [z9]) en87 (.cons rfl .nil) (wk87 bA u9) fun iA tB zB hs hr => ?_)
    have hfr := hfr.ext hs
    have o0 := o0.ext hs
    have u3 := u3.ext hs
    have l5 := l5.ext hs
    have b2 := b2.ext hs
    have b7 := b7.ext hs
    have rA := hr
    refine EL_y (.int .i64 ((x6).length : Int)) (P_len Tryz.underlying138 rfl rA) rfl rfl t5 rfl ?_
    refine EL_y (.bool ((decide (((x6).length : Int) > (0 : Int))))) (P_int rfl rfl rfl) rfl rfl t5 rfl ?_
    refine EL_p (.bool ((decide (((x6).length : Int) > (0 : Int))))) (P_pick (b := (y5.2 == (0 : Int))) rfl (pick_t t5 rfl)) rfl ?_
    refine EL_nil ?_
    obtain rfl := sinj h
    exact hQ _ _ ⟨iA, hfr, rfl, b2, o0, u3, l5, rfl, b7, rfl, rfl⟩
   ·refine EL_s rfl rfl t5 rfl rfl ?_
    iterate 3 refine EL_s rfl rfl t5 rfl rfl ?_
    refine EL_p (.bool false) (P_pick (b := (y5.2 == (0 : Int))) rfl (pick_f t5 rfl)) rfl ?_
    refine EL_nil ?_
    obtain rfl := sinj h
    exact hQ _ _ ⟨g7, hfr, rfl, b2, o0, u3, l5, rfl, b7, rfl, rfl⟩
  ·clear hx
   obtain ⟨l9, hfr, k8, l8, u2_0_26, u2_1_26, u2_2_26, m8, n8, v8, y6⟩ := hR
   rcases csome h with ⟨g8, h⟩ | ⟨g8, h⟩
   ·refine E_cond_true (Eq.trans (show ev _ _ = .bool (x5) from y6) (congrArg Value.bool g8)) ?_
    refine E_region (EL_at (.int .i64 (7)) rfl rfl ?_)
    refine EL_nil ?_
    obtain rfl := sinj h
    exact hQ _ _ ⟨l9, hfr, k8, l8, u2_0_26, u2_1_26, u2_2_26, m8, n8, rfl⟩
   ·refine E_cond_false (Eq.trans (show ev _ _ = .bool (x5) from y6) (congrArg Value.bool g8)) ?_
    refine E_skip ?_
    obtain rfl := sinj h
    exact hQ _ _ ⟨l9, hfr, k8, l8, u2_0_26, u2_1_26, u2_2_26, m8, n8, v8⟩
 ·clear hx
  obtain ⟨n9, hfr, r8, x8, u2_0_28, u2_1_28, u2_2_28, a9, d9, k9⟩ := hR
  refine E_seq (E_region (EL_do .plain rfl (D_loadO (g := n9) Tryz.isAgg132 Tryz.sizeOf132 a9 d9 fun yA aB => ?_)))
  refine EL_mv k9 rfl ?_
  refine EL_do .plain rfl (D_storeOc (g := n9) (v := yA) Tryz.sizeOf132 r8 x8 rfl aB fun cC mC hs b30 cb => ?_)
  clear cb
  have hfr := hfr.stp hs
  refine EL_at (.int .i64 (i6)) rfl rfl ?_
  refine EL_nil (thn_n (E_ret ?_))
  obtain rfl := sinj h
  obtain ⟨ad31, cv31, hp31, y9, cr31⟩ := ob_read Tryz.isAgg132 Tryz.sizeOf132 b30
  exact endm_ct rfl rfl ((show _ = p2 from r8).trans hp31) y9 (show _ = .int .i64 (i6) from rfl) ⟨_, hfr, _, _, rfl, cr31, rfl⟩
def f41 (x0 : PayTable) : Option (Bool × Int) :=
 (f66 x0).bind fun y4 =>
 jn (σ := Unit) (fun _ =>
  (f67 (y4.1)).bind fun o0 =>
  (f69 (([o0.1, o0.2.1, ([o0.2.2.1, o0.2.2.2] : List Int)] : List (List Int)))).bind fun l8 =>
  (f68 l8 ((fun a0 => f70 a0))).bind fun i6 =>
  some ((!i6), (0 : Int))
  ) fun k8 =>
 bif (y4.2 != (0 : Int)) then
  some (false, y4.2)
 else
  k8 ()
theorem en41 : Enters Tryz.prog 41 := enters_of Tryz.func41 (by kernel_rfl) rfl
theorem wk41 {gI : Gh} {wI : World} {x0 : PayTable} {up0 : Value} (rp0 : RV gI.m wI x0 up0) {r : Bool × Int} (h : f41 x0 = some r) : Fn Tryz.prog 41 #[up0] gI wI (fun m w v => ∃ y0 y1, v = .tuple #[y0, y1] ∧ y0 = .bool (r.1) ∧ y1 = .int .i64 (r.2)) := by
 unfold f41 at h
 refine fn_of_E Tryz.func41 rfl (Nat.le_of_ble_eq_true rfl) fun g0 hm hfr => ?_
 have rp0 : RV g0.m wI x0 up0 := hm ▸ rp0
 show E _ 34 none _ _ _ _ _
 refine E_seq (E_region (EL_do .plain rfl (D_box (g := g0) rfl rp0 fun g1 w1 p1 hs q1 => ?_)))
 have hfr := hfr.ext hs
 refine EL_at (.bool false) rfl rfl ?_
 refine EL_at (.int .i64 (0)) rfl rfl ?_
 refine EL_nil (thn_n (E_seq (E_region (EL_do .plain rfl (D_load (g := g1) Tryz.isAgg58 Tryz.sizeOf58 rfl q1 fun v2 r2 => ?_)))))
 obtain ⟨y4, x8, h⟩ := bsome h
 refine EL_do .plain rfl (D_call (g := g1) (vs := [v2]) en66 (.cons rfl .nil) (wk66 r2 x8) fun g3 w3_ v3 hs hr => ?_)
 have hfr := hfr.ext hs
 obtain ⟨x6, lB, rfl, y6, rfl⟩ := hr
 refine EL_mw (.tuple #[x6, .int .i64 (y4.2)]) rfl rfl ?_
 refine EL_p x6 (P_extract rfl rfl) rfl ?_
 refine EL_p (.int .i64 (y4.2)) (P_extract rfl rfl) rfl ?_
 refine EL_do .plain rfl (D_allocOc (g := g3) 2004 (⟨⟨[], [], [], 0⟩⟩ : PaySheet) Tryz.zeroValue132 (fun m w => ⟨_, (rep_two rep_nil (rep_two rep_nil (rep_two rep_nil rep_int))), rfl⟩) fun g5 w5 p5 hs b5 cb => ?_)
 have hfr := hfr.stp hs
 have y6 := y6.stp hs
 have mB : OSF 2004 60400 0 g5 w5 23 132 ([] : List (List Int)) p5 := cb.osf (by rfl)
 have nB : OSF 2004 60401 1 g5 w5 3 132 ([] : List Int) p5 := cb.osf (by rfl)
 have oB : OSF 2004 60402 2 g5 w5 3 132 ([] : List Int) p5 := cb.osf (by rfl)
 clear cb
 refine EL_do .plain rfl (D_storeOc (g := g5) (v := x6) Tryz.sizeOf132 rfl b5 rfl y6 fun g6 w6 hs b6 cb => ?_)
 clear cb
 have hfr := hfr.stp hs
 refine EL_at (.int .i64 (y4.2)) rfl rfl ?_
 refine EL_nil (thn_n (E_joinC h (fun (s : Unit) e w => ∃ (g : Gh) , Fr gI wI g w ∧ e 4 = p5 ∧ OB 2004 g w 132 (y4.1 : PaySheet) p5) (fun X8 k8 a9 h => ?_) ?_))
 ·refine E_seq (E_region (EL_mw (.int .i64 (y4.2)) rfl rfl ?_))
  refine EL_in (.bool ((y4.2 != (0 : Int)))) rfl rfl rfl rfl ?_
  refine EL_nil (thn_n ?_)
  rcases csome h with ⟨i7, h⟩ | ⟨i7, h⟩
  ·refine E_ct i7 rfl ?_
   refine E_seq (E_region (EL_mw (.int .i64 (y4.2)) rfl rfl ?_))
   refine EL_at (.bool false) rfl rfl ?_
   refine EL_at (.int .i64 (y4.2)) rfl rfl ?_
   refine EL_nil (thn_n (E_ret (thn_r ?_)))
   obtain rfl := sinj h
   exact end2 rfl rfl (show _ = .bool false from rfl) (show _ = .int .i64 (y4.2) from rfl) ⟨_, hfr, _, _, rfl, rfl, rfl⟩
  ·refine E_cf i7 rfl ?_
   exact E_skip (thn_n (a9 () _ _ ⟨g6, hfr, rfl, b6⟩ h))
 ·rintro _ tB cC ⟨m8, hfr, m7, g8⟩ h
  refine E_seq (E_region (EL_do .plain rfl (D_loadO (g := m8) Tryz.isAgg132 Tryz.sizeOf132 m7 g8 fun d9 k9 => ?_)))
  obtain ⟨o0, n8, h⟩ := bsome h
  refine EL_do .plain rfl (D_call (g := m8) (vs := [d9]) en67 (.cons rfl .nil) (wk67 k9 n8) fun l9 vB mC hs hr => ?_)
  have hfr := hfr.ext hs
  obtain ⟨u3, l5, dB, iB, rfl, t5, x5, rfl, rfl⟩ := hr
  refine EL_mw (.tuple #[u3, l5, .int .i64 (o0.2.2.1), .int .i64 (o0.2.2.2)]) rfl rfl ?_
  refine EL_p u3 (P_extract rfl rfl) rfl ?_
  refine EL_p l5 (P_extract rfl rfl) rfl ?_
  refine EL_p (.int .i64 (o0.2.2.1)) (P_extract rfl rfl) rfl ?_
  refine EL_p (.int .i64 (o0.2.2.2)) (P_extract rfl rfl) rfl ?_
  refine EL_at u3 rfl rfl ?_
  refine EL_at l5 rfl rfl ?_
  refine EL_at (.int .i64 (o0.2.2.1)) rfl rfl ?_
  refine EL_at (.int .i64 (o0.2.2.2)) rfl rfl ?_
  refine EL_nil (thn_n (E_seq (E_region (EL_mw u3 rfl rfl ?_))))
  refine EL_mw l5 rfl rfl ?_
  refine EL_mw (.int .i64 (o0.2.2.1)) rfl rfl ?_
  refine EL_mw (.int .i64 (o0.2.2.2)) rfl rfl ?_
  refine EL_do .plain rfl (D_buildSlice (g := l9) 3029 (xs := ([o0.2.2.1, o0.2.2.2] : List Int)) (vs := [.int .i64 (o0.2.2.1), .int .i64 (o0.2.2.2)]) Tryz.underlying23 Tryz.sizeOf3 Tryz.zeroValue3 rfl rfl (.cons rfl (.cons rfl .nil)) (RVs.cons (RV_int.2 rfl) (RVs.cons (RV_int.2 rfl) RVs.nil)) rfl rfl fun n9 qC u9 hs o14 y9 hxt hfl => ?_)
  have hfr := hfr.stp hs
  have t5 := t5.stp hs
  have x5 := x5.stp hs
  refine EL_do .plain rfl (D_buildSlice (g := n9) 3030 (xs := ([o0.1, o0.2.1, ([o0.2.2.1, o0.2.2.2] : List Int)] : List (List Int))) (vs := [u3, l5, u9]) Tryz.underlying56 Tryz.sizeOf23 Tryz.zeroValue23 rfl rfl (.cons rfl (.cons rfl (.cons rfl .nil))) (RVs.cons t5 (RVs.cons x5 (RVs.cons y9 RVs.nil))) rfl rfl fun z9 w15 bA hs o15 iA hxt hfl => ?_)
  have hfr := hfr.stp hs
  obtain ⟨l8, r8, h⟩ := bsome h
  refine EL_do .plain rfl (D_call (g := z9) (vs := [bA]) en69 (.cons rfl .nil) (wk69 iA r8) fun rA yB yA hs hr => ?_)
  have hfr := hfr.ext hs
  have aB := hr
  obtain ⟨i6, v8, h⟩ := bsome h
  refine EL_do .plain rfl (D_call (g := rA) (vs := [yA, .func (.func 70) #[] #[]]) en68 (.cons rfl (.cons rfl .nil)) (wk68 aB ⟨70, #[], #[], rfl, en70, fun g' w' hch a0 b0 r hu0 hr => by obtain rfl := RV_int.1 hu0; exact Fn.mono (wk70   hr) fun _ _ _ h => RV_bool.2 h⟩ v8) fun rC zB uC hs hr => ?_)
  have hfr := hfr.ext hs
  subst hr
  refine EL_p (.bool (!i6)) (P_not rfl) rfl ?_
  refine EL_at (.bool (!i6)) rfl rfl ?_
  refine EL_at (.int .i64 (0)) rfl rfl ?_
  refine EL_nil (thn_n (E_ret ?_))
  obtain rfl := sinj h
  exact end2 rfl rfl (show _ = .bool (!i6) from rfl) (show _ = .int .i64 (0) from rfl) ⟨_, hfr, _, _, rfl, rfl, rfl⟩
def f42 (x0 : PayTable) : Option (PayEntry × Int) :=
 (f66 x0).bind fun y5 =>
 jn (σ := PayEntry) (fun nB =>
  (f67 (y5.1)).bind fun o0 =>
  (f71 (o0.1)).bind fun l5 =>
  (f71 (o0.2.1)).bind fun u3 =>
  jn (σ := PayEntry × Bool) (fun (iG, yF) =>
   jn (σ := PayEntry) (fun uH =>
    some (uH, (0 : Int))
    ) fun kJ =>
   bif (!yF) then
    some ((⟨0, 0, 0, 0⟩ : PayEntry), (9 : Int))
   else
    kJ (iG)
   ) fun jG =>
  Option.bind (α := Bool) (
   bif (l5.2 == (0 : Int)) then
    bif (u3.2 == (0 : Int)) then
     bif (o0.2.2.1 == (0 : Int)) then
      some ((o0.2.2.2 == (0 : Int)))
     else
      some (false)
    else
     some (false)
   else
    some (false)
   ) fun xD =>
  bif xD then
   some (nB, (0 : Int))
  else
   Option.bind (α := Bool) (
    bif (l5.2 == (1 : Int)) then
     bif (u3.2 == (1 : Int)) then
      bif (o0.2.2.1 == (0 : Int)) then
       bif (o0.2.2.2 == (0 : Int)) then
        (idx (o0.1) l5.1).bind fun kG =>
        (idx (o0.2.1) u3.1).bind fun lG =>
        some ((kG == lG))
       else
        some (false)
      else
       some (false)
     else
      some (false)
    else
     some (false)
    ) fun bD =>
   bif bD then
    (idx (((y5.1).PayTable).Rows) l5.1).bind fun lJ =>
    (idx lJ u3.1).bind fun v8 =>
    (idx (o0.1) l5.1).bind fun x8 =>
    (f54 ((0 : Int)) ((1000000 : Int)) (([(w64 (v8 - x8))] : List Int))).bind fun dH =>
    jG ((⟨(1 : Int), l5.1, u3.1, (w64 (v8 - x8))⟩ : PayEntry), dH)
   else
    Option.bind (α := Bool) (
     bif (l5.2 == (1 : Int)) then
      bif (u3.2 == (0 : Int)) then
       bif (o0.2.2.2 == (0 : Int)) then
        (idx (o0.1) l5.1).bind fun bG =>
        some ((bG == (w64 (0 - o0.2.2.1))))
       else
        some (false)
      else
       some (false)
     else
      some (false)
     ) fun aB =>
    bif aB then
     (idx (((y5.1).PayTable).Across) l5.1).bind fun oB =>
     (idx (o0.1) l5.1).bind fun tB =>
     jG ((⟨(2 : Int), l5.1, 0, (w64 (oB + tB))⟩ : PayEntry), true)
    else
     Option.bind (α := Bool) (
      bif (l5.2 == (0 : Int)) then
       bif (u3.2 == (1 : Int)) then
        bif (o0.2.2.1 == (0 : Int)) then
         (idx (o0.2.1) u3.1).bind fun cG =>
         some ((cG == (w64 (0 - o0.2.2.2))))
        else
         some (false)
       else
        some (false)
      else
       some (false)
      ) fun dB =>
     bif dB then
      (idx (((y5.1).PayTable).Down) u3.1).bind fun vB =>
      (idx (o0.2.1) u3.1).bind fun yB =>
      jG ((⟨(3 : Int), 0, u3.1, (w64 (vB + yB))⟩ : PayEntry), true)
     else
      Option.bind (α := Bool) (
       bif (l5.2 == (0 : Int)) then
        bif (u3.2 == (0 : Int)) then
         some ((o0.2.2.1 == o0.2.2.2))
        else
         some (false)
       else
        some (false)
       ) fun iB =>
      bif iB then
       (f72 (([(w64 (((y5.1).PayTable).Total + o0.2.2.1))] : List Int))).bind fun gH =>
       jG ((⟨(4 : Int), 0, 0, (w64 (((y5.1).PayTable).Total + o0.2.2.1))⟩ : PayEntry), gH)
      else
       jG (nB, false)
  ) fun aO =>
 bif (y5.2 != (0 : Int)) then
  some ((⟨0, 0, 0, 0⟩ : PayEntry), y5.2)
 else
  aO ((⟨0, 0, 0, 0⟩ : PayEntry))
theorem en42 : Enters Tryz.prog 42 := enters_of Tryz.func42 (by kernel_rfl) rfl
theorem wk42 {gI : Gh} {wI : World} {x0 : PayTable} {up0 : Value} (rp0 : RV gI.m wI x0 up0) {r : PayEntry × Int} (h : f42 x0 = some r) : Fn Tryz.prog 42 #[up0] gI wI (fun m w v => ∃ y0 y1, v = .tuple #[y0, y1] ∧ RV m w (r.1) y0 ∧ y1 = .int .i64 (r.2)) := by
 unfold f42 at h
 refine fn_of_E Tryz.func42 rfl (Nat.le_of_ble_eq_true rfl) fun g0 hm hfr => ?_
 have rp0 : RV g0.m wI x0 up0 := hm ▸ rp0
 show E _ 195 none _ _ _ _ _
 refine E_seq (E_region (EL_do .plain rfl (D_box (g := g0) rfl rp0 fun g1 w1 p1 hs q1 => ?_)))
 have hfr := hfr.ext hs
 refine EL_do .plain rfl (D_allocOc (g := g1) 2002 (⟨0, 0, 0, 0⟩ : PayEntry) Tryz.zeroValue100 (fun m w => ⟨_, (rep_two rep_int (rep_two rep_int (rep_two rep_int rep_int))), rfl⟩) fun g2 w2 p2 hs b2 cb => ?_)
 have hfr := hfr.stp hs
 have q1 := q1.stp hs
 clear cb
 refine EL_at (.int .i64 (0)) rfl rfl ?_
 refine EL_nil (thn_n (E_seq (E_region (EL_do .plain rfl (D_load (g := g2) Tryz.isAgg58 Tryz.sizeOf58 rfl q1 fun v3 r3 => ?_)))))
 obtain ⟨y5, hy5, h⟩ := bsome h
 refine EL_do .plain rfl (D_call (g := g2) (vs := [v3]) en66 (.cons rfl .nil) (wk66 r3 hy5) fun g4 w4_ v4 hs hr => ?_)
 have hfr := hfr.ext hs
 have b2 := b2.ext hs
 obtain ⟨vI, zQ, rfl, yI, rfl⟩ := hr
 refine EL_mw (.tuple #[vI, .int .i64 (y5.2)]) rfl rfl ?_
 refine EL_p vI (P_extract rfl rfl) rfl ?_
 refine EL_p (.int .i64 (y5.2)) (P_extract rfl rfl) rfl ?_
 refine EL_do .plain rfl (D_allocOc (g := g4) 2004 (⟨⟨[], [], [], 0⟩⟩ : PaySheet) Tryz.zeroValue132 (fun m w => ⟨_, (rep_two rep_nil (rep_two rep_nil (rep_two rep_nil rep_int))), rfl⟩) fun g6 w6 p6 hs b6 cb => ?_)
 have hfr := hfr.stp hs
 have b2 := b2.stp hs rfl
 have yI := yI.stp hs
 have aR : OSF 2004 60400 0 g6 w6 23 132 ([] : List (List Int)) p6 := cb.osf (by rfl)
 have bR : OSF 2004 60401 1 g6 w6 3 132 ([] : List Int) p6 := cb.osf (by rfl)
 have cR : OSF 2004 60402 2 g6 w6 3 132 ([] : List Int) p6 := cb.osf (by rfl)
 clear cb
 refine EL_do .plain rfl (D_storeOc (g := g6) (v := vI) Tryz.sizeOf132 rfl b6 rfl yI fun g7 w7 hs b7 cb => ?_)
 clear cb
 have hfr := hfr.stp hs
 have b2 := b2.stp hs rfl
 refine EL_at (.int .i64 (y5.2)) rfl rfl ?_
 refine EL_nil (thn_n (E_joinC h (fun (s : PayEntry) e w => ∃ (g : Gh) , Fr gI wI g w ∧ e 2 = p2 ∧ OB 2002 g w 100 (s : PayEntry) p2 ∧ e 4 = p6 ∧ OB 2004 g w 132 (y5.1 : PaySheet) p6) (fun X12 aO cO h => ?_) ?_))
 ·refine E_seq (E_region (EL_mw (.int .i64 (y5.2)) rfl rfl ?_))
  refine EL_in (.bool ((y5.2 != (0 : Int)))) rfl rfl rfl rfl ?_
  refine EL_nil (thn_n ?_)
  rcases csome h with ⟨zI, h⟩ | ⟨zI, h⟩
  ·refine E_ct zI rfl ?_
   refine E_seq (E_region (EL_do .plain rfl (D_loadO (g := g7) Tryz.isAgg100 Tryz.sizeOf100 rfl b2 fun tO uO => ?_)))
   refine EL_mw (.int .i64 (y5.2)) rfl rfl ?_
   refine EL_do .plain rfl (D_storeOc (g := g7) (v := tO) Tryz.sizeOf100 rfl b2 rfl uO fun vR w15 hs b15 cb => ?_)
   clear cb
   have hfr := hfr.stp hs
   refine EL_at (.int .i64 (y5.2)) rfl rfl ?_
   refine EL_nil (thn_n (E_ret (thn_r ?_)))
   obtain rfl := sinj h
   obtain ⟨ad16, cv16, hp16, dO, cr16⟩ := ob_read Tryz.isAgg100 Tryz.sizeOf100 b15
   exact endm_ct rfl rfl ((show _ = p2 from rfl).trans hp16) dO (show _ = .int .i64 (y5.2) from rfl) ⟨_, hfr, _, _, rfl, cr16, rfl⟩
  ·refine E_cf zI rfl ?_
   exact E_skip (thn_n (cO ((⟨0, 0, 0, 0⟩ : PayEntry)) _ _ ⟨g7, hfr, rfl, b2, rfl, b7⟩ h))
 ·rintro nB dR xR ⟨bO, hfr, iH, rA, eG, k9⟩ h
  refine E_seq (E_region (EL_do .plain rfl (D_loadO (g := bO) Tryz.isAgg132 Tryz.sizeOf132 eG k9 fun vO xO => ?_)))
  obtain ⟨o0, hy20, h⟩ := bsome h
  refine EL_do .plain rfl (D_call (g := bO) (vs := [vO]) en67 (.cons rfl .nil) (wk67 xO hy20) fun yO eR yR hs hr => ?_)
  have hfr := hfr.ext hs
  have rA := rA.ext hs
  have k9 := k9.ext hs
  obtain ⟨x6, y6, kP, lP, rfl, zB, cC, rfl, rfl⟩ := hr
  refine EL_mw (.tuple #[x6, y6, .int .i64 (o0.2.2.1), .int .i64 (o0.2.2.2)]) rfl rfl ?_
  refine EL_p x6 (P_extract rfl rfl) rfl ?_
  refine EL_p y6 (P_extract rfl rfl) rfl ?_
  refine EL_p (.int .i64 (o0.2.2.1)) (P_extract rfl rfl) rfl ?_
  refine EL_p (.int .i64 (o0.2.2.2)) (P_extract rfl rfl) rfl ?_
  refine EL_at x6 rfl rfl ?_
  refine EL_at y6 rfl rfl ?_
  refine EL_at (.int .i64 (o0.2.2.1)) rfl rfl ?_
  refine EL_at (.int .i64 (o0.2.2.2)) rfl rfl ?_
  refine EL_nil (thn_n (E_seq (E_region (EL_mw x6 rfl rfl ?_))))
  obtain ⟨l5, eO, h⟩ := bsome h
  refine EL_do .plain rfl (D_call (g := yO) (vs := [x6]) en71 (.cons rfl .nil) (wk71 zB eO) fun zO gR zR hs hr => ?_)
  have hfr := hfr.ext hs
  have rA := rA.ext hs
  have k9 := k9.ext hs
  have zB := zB.ext hs
  have cC := cC.ext hs
  obtain ⟨mP, nP, rfl, rfl, rfl⟩ := hr
  refine EL_mw (.tuple #[.int .i64 (l5.1), .int .i64 (l5.2)]) rfl rfl ?_
  refine EL_p (.int .i64 (l5.1)) (P_extract rfl rfl) rfl ?_
  refine EL_p (.int .i64 (l5.2)) (P_extract rfl rfl) rfl ?_
  refine EL_at (.int .i64 (l5.1)) rfl rfl ?_
  refine EL_at (.int .i64 (l5.2)) rfl rfl ?_
  refine EL_nil (thn_n (E_seq (E_region (EL_mw y6 rfl rfl ?_))))
  obtain ⟨u3, gO, h⟩ := bsome h
  refine EL_do .plain rfl (D_call (g := zO) (vs := [y6]) en71 (.cons rfl .nil) (wk71 cC gO) fun mJ iR aS hs hr => ?_)
  have hfr := hfr.ext hs
  have rA := rA.ext hs
  have k9 := k9.ext hs
  have zB := zB.ext hs
  have cC := cC.ext hs
  obtain ⟨oP, pP, rfl, rfl, rfl⟩ := hr
  refine EL_mw (.tuple #[.int .i64 (u3.1), .int .i64 (u3.2)]) rfl rfl ?_
  refine EL_p (.int .i64 (u3.1)) (P_extract rfl rfl) rfl ?_
  refine EL_p (.int .i64 (u3.2)) (P_extract rfl rfl) rfl ?_
  refine EL_at (.int .i64 (u3.1)) rfl rfl ?_
  refine EL_at (.int .i64 (u3.2)) rfl rfl ?_
  refine EL_nil (thn_n (E_seq (E_region (EL_at (.bool true) rfl rfl ?_))))
  refine EL_nil (thn_n (E_joinC h (fun (s : PayEntry × Bool) e w => ∃ (g : Gh) , Fr gI wI g w ∧ e 2 = p2 ∧ OB 2002 g w 100 (s.1 : PayEntry) p2 ∧ e 13 = .bool (s.2)) (fun X614 jG gG h => ?_) ?_))
  ·refine E_block ?_
   obtain ⟨xD, hx, h⟩ := bsome h
   refine E_join (fun e w => ∃ (g : Gh) , Fr gI wI g w ∧ e 2 = p2 ∧ OB 2002 g w 100 (nB : PayEntry) p2 ∧ e 4 = p6 ∧ OB 2004 g w 132 (y5.1 : PaySheet) p6 ∧ e 5 = x6 ∧ RV g.m w (o0.1 : List Int) x6 ∧ e 6 = y6 ∧ RV g.m w (o0.2.1 : List Int) y6 ∧ e 7 = .int .i64 (o0.2.2.1) ∧ e 8 = .int .i64 (o0.2.2.2) ∧ e 9 = .int .i64 (l5.1) ∧ e 10 = .int .i64 (l5.2) ∧ e 11 = .int .i64 (u3.1) ∧ e 12 = .int .i64 (u3.2) ∧ e 13 = .bool (true) ∧ e 40 = .bool (xD)) (fun Q' hQ => ?_) (fun sP jR hR => ?_)
   ·replace h := hx
    clear hx
    refine E_region (EL_mw (.int .i64 (l5.2)) rfl rfl ?_)
    refine EL_in (.bool ((l5.2 == (0 : Int)))) rfl rfl rfl rfl ?_
    refine EL_mw (.bool ((l5.2 == (0 : Int)))) rfl rfl ?_
    rcases csome h with ⟨xE, h⟩ | ⟨xE, h⟩
    ·refine EL_y (.int .i64 (u3.2)) (P_move rfl) rfl rfl xE rfl ?_
     refine EL_y (.bool ((u3.2 == (0 : Int)))) (P_int rfl rfl rfl) rfl rfl xE rfl ?_
     refine EL_p (.bool ((u3.2 == (0 : Int)))) (P_pick (b := (l5.2 == (0 : Int))) rfl (pick_t xE rfl)) rfl ?_
     refine EL_mw (.bool ((u3.2 == (0 : Int)))) rfl rfl ?_
     rcases csome h with ⟨yE, h⟩ | ⟨yE, h⟩
     ·refine EL_y (.int .i64 (o0.2.2.1)) (P_move rfl) rfl rfl yE rfl ?_
      refine EL_y (.bool ((o0.2.2.1 == (0 : Int)))) (P_int rfl rfl rfl) rfl rfl yE rfl ?_
      refine EL_p (.bool ((o0.2.2.1 == (0 : Int)))) (P_pick (b := (u3.2 == (0 : Int))) rfl (pick_t yE rfl)) rfl ?_
      refine EL_mw (.bool ((o0.2.2.1 == (0 : Int)))) rfl rfl ?_
      rcases csome h with ⟨zE, h⟩ | ⟨zE, h⟩
      ·refine EL_y (.int .i64 (o0.2.2.2)) (P_move rfl) rfl rfl zE rfl ?_
       refine EL_y (.bool ((o0.2.2.2 == (0 : Int)))) (P_int rfl rfl rfl) rfl rfl zE rfl ?_
       refine EL_p (.bool ((o0.2.2.2 == (0 : Int)))) (P_pick (b := (o0.2.2.1 == (0 : Int))) rfl (pick_t zE rfl)) rfl ?_
       refine EL_at (.bool ((o0.2.2.2 == (0 : Int)))) rfl rfl ?_
       refine EL_nil ?_
       obtain rfl := sinj h
       exact hQ _ _ ⟨mJ, hfr, iH, rA, eG, k9, rfl, zB, rfl, cC, rfl, rfl, rfl, rfl, rfl, rfl, rfl, rfl⟩
      ·refine EL_s rfl rfl zE rfl rfl ?_
       refine EL_s rfl rfl zE rfl rfl ?_
       refine EL_p (.bool false) (P_pick (b := (o0.2.2.1 == (0 : Int))) rfl (pick_f zE rfl)) rfl ?_
       refine EL_at (.bool false) rfl rfl ?_
       refine EL_nil ?_
       obtain rfl := sinj h
       exact hQ _ _ ⟨mJ, hfr, iH, rA, eG, k9, rfl, zB, rfl, cC, rfl, rfl, rfl, rfl, rfl, rfl, rfl, rfl⟩
     ·refine EL_s rfl rfl yE rfl rfl ?_
      refine EL_s rfl rfl yE rfl rfl ?_
      refine EL_p (.bool false) (P_pick (b := (u3.2 == (0 : Int))) rfl (pick_f yE rfl)) rfl ?_
      refine EL_dead 4 rfl ?_
      refine EL_at (.bool false) rfl rfl ?_
      refine EL_nil ?_
      obtain rfl := sinj h
      exact hQ _ _ ⟨mJ, hfr, iH, rA, eG, k9, rfl, zB, rfl, cC, rfl, rfl, rfl, rfl, rfl, rfl, rfl, rfl⟩
    ·refine EL_s rfl rfl xE rfl rfl ?_
     refine EL_s rfl rfl xE rfl rfl ?_
     refine EL_p (.bool false) (P_pick (b := (l5.2 == (0 : Int))) rfl (pick_f xE rfl)) rfl ?_
     refine EL_dead 8 rfl ?_
     refine EL_at (.bool false) rfl rfl ?_
     refine EL_nil ?_
     obtain rfl := sinj h
     exact hQ _ _ ⟨mJ, hfr, iH, rA, eG, k9, rfl, zB, rfl, cC, rfl, rfl, rfl, rfl, rfl, rfl, rfl, rfl⟩
   ·clear hx
    obtain ⟨zF, hfr, lB, t5, rF, i7, yD, x5, zD, i6, mB, cD, aE, l8, mC, m8, bE, xH⟩ := hR
    rcases csome h with ⟨iI, h⟩ | ⟨iI, h⟩
    ·refine E_cond_true (Eq.trans (show ev _ _ = .bool (xD) from xH) (congrArg Value.bool iI)) ?_
     refine E_seq (E_region (EL_do .plain rfl (D_loadO (g := zF) Tryz.isAgg100 Tryz.sizeOf100 lB t5 fun iO jO => ?_)))
     refine EL_do .plain rfl (D_storeOc (g := zF) (v := iO) Tryz.sizeOf100 lB t5 rfl jO fun lR mR hs b624 cb => ?_)
     clear cb
     have hfr := hfr.stp hs
     refine EL_at (.int .i64 (0)) rfl rfl ?_
     refine EL_nil (thn_n (E_ret (blk_r ?_)))
     refine thn_r ?_
     obtain rfl := sinj h
     obtain ⟨ad625, cv625, hp625, yL, cr625⟩ := ob_read Tryz.isAgg100 Tryz.sizeOf100 b624
     exact endm_ct rfl rfl ((show _ = p2 from lB).trans hp625) yL (show _ = .int .i64 (0) from rfl) ⟨_, hfr, _, _, rfl, cr625, rfl⟩
    ·refine E_cond_false (Eq.trans (show ev _ _ = .bool (xD) from xH) (congrArg Value.bool iI)) ?_
     obtain ⟨bD, hx, h⟩ := bsome h
     refine E_join (fun e w => ∃ (g : Gh) , Fr gI wI g w ∧ e 2 = p2 ∧ OB 2002 g w 100 (nB : PayEntry) p2 ∧ e 4 = p6 ∧ OB 2004 g w 132 (y5.1 : PaySheet) p6 ∧ e 5 = x6 ∧ RV g.m w (o0.1 : List Int) x6 ∧ e 6 = y6 ∧ RV g.m w (o0.2.1 : List Int) y6 ∧ e 7 = .int .i64 (o0.2.2.1) ∧ e 8 = .int .i64 (o0.2.2.2) ∧ e 9 = .int .i64 (l5.1) ∧ e 10 = .int .i64 (l5.2) ∧ e 11 = .int .i64 (u3.1) ∧ e 12 = .int .i64 (u3.2) ∧ e 13 = .bool (true) ∧ e 56 = .bool (bD)) (fun Q' hQ => ?_) (fun aP zL hR => ?_)
     ·replace h := hx
      clear hx
      rcases csome h with ⟨m7, h⟩ | ⟨m7, h⟩
      ·rcases csome h with ⟨n8, h⟩ | ⟨n8, h⟩
       ·rcases csome h with ⟨yA, h⟩ | ⟨yA, h⟩
        ·rcases csome h with ⟨r8, h⟩ | ⟨r8, h⟩
         ·obtain ⟨kG, nJ, h⟩ := bsome h
          have kO := PT_idx x5 nJ
          refine L_load (x := .tmp 74) Tryz.isAgg3 Tryz.sizeOf3 kO fun nR lO aM => ?_
          obtain rfl := RV_int.1 lO
          obtain ⟨lG, oJ, h⟩ := bsome h
          have mO := PT_idx i6 oJ
          refine L_load (x := .tmp 78) Tryz.isAgg3 Tryz.sizeOf3 mO fun oR nO bM => ?_
          obtain rfl := RV_int.1 nO
          refine E_drawL (g := zF) (n := 26) [] [0, 1, 2, 3, 4, 5, 6, 7, 8, 9, 10, 11, 12, 13, 14, 15, 16, 17, 18, 19, 20, 21, 22, 23, 24, 25] rfl mixed (by kernel_rfl) trivial ?_
          refine L_p (.int .i64 (l5.2)) rfl rfl (P_move l8) ?_
          refine L_p (.bool ((l5.2 == (1 : Int)))) rfl rfl (P_int rfl rfl rfl) ?_
          refine L_p (.bool ((l5.2 == (1 : Int)))) rfl rfl (P_move rfl) ?_
          refine L_y (.int .i64 (u3.2)) rfl rfl rfl rfl m7 (P_move m8) ?_
          refine L_y (.bool ((u3.2 == (1 : Int)))) rfl rfl rfl rfl m7 (P_int rfl rfl rfl) ?_
          refine L_p (.bool ((u3.2 == (1 : Int)))) rfl rfl (P_pick (b := (l5.2 == (1 : Int))) rfl (pick_t m7 rfl)) ?_
          refine L_p (.bool ((u3.2 == (1 : Int)))) rfl rfl (P_move rfl) ?_
          refine L_y (.int .i64 (o0.2.2.1)) rfl rfl rfl rfl n8 (P_move mB) ?_
          refine L_y (.bool ((o0.2.2.1 == (0 : Int)))) rfl rfl rfl rfl n8 (P_int rfl rfl rfl) ?_
          refine L_p (.bool ((o0.2.2.1 == (0 : Int)))) rfl rfl (P_pick (b := (u3.2 == (1 : Int))) rfl (pick_t n8 rfl)) ?_
          refine L_p (.bool ((o0.2.2.1 == (0 : Int)))) rfl rfl (P_move rfl) ?_
          refine L_y (.int .i64 (o0.2.2.2)) rfl rfl rfl rfl yA (P_move cD) ?_
          refine L_y (.bool ((o0.2.2.2 == (0 : Int)))) rfl rfl rfl rfl yA (P_int rfl rfl rfl) ?_
          refine L_p (.bool ((o0.2.2.2 == (0 : Int)))) rfl rfl (P_pick (b := (o0.2.2.1 == (0 : Int))) rfl (pick_t yA rfl)) ?_
          refine L_p (.bool ((o0.2.2.2 == (0 : Int)))) rfl rfl (P_move rfl) ?_
          refine L_y x6 rfl rfl rfl rfl r8 (P_move yD) ?_
          refine L_y (.int .i64 (l5.1)) rfl rfl rfl rfl r8 (P_move aE) ?_
          refine L_y (ePtr x6 l5.1 1) rfl rfl rfl rfl r8 (P_indexAddr (α := Int) Tryz.underlying23 Tryz.sizeOf3 rfl x5 rfl nJ) ?_
          refine L_ld (c := .int .i64 (kG)) rfl rfl (.yes2 rfl rfl r8) (fun _ _ h => h.ch) aM rfl ?_
          refine L_y y6 rfl rfl rfl rfl r8 (P_move zD) ?_
          refine L_y (.int .i64 (u3.1)) rfl rfl rfl rfl r8 (P_move mC) ?_
          refine L_y (ePtr y6 u3.1 1) rfl rfl rfl rfl r8 (P_indexAddr (α := Int) Tryz.underlying23 Tryz.sizeOf3 rfl i6 rfl oJ) ?_
          refine L_ld (c := .int .i64 (lG)) rfl rfl (.yes2 rfl rfl r8) (fun _ _ h => h.ch) bM rfl ?_
          refine L_y (.bool ((kG == lG))) rfl rfl rfl rfl r8 (P_int rfl rfl rfl) ?_
          refine L_p (.bool ((kG == lG))) rfl rfl (P_pick (b := (o0.2.2.2 == (0 : Int))) rfl (pick_t r8 rfl)) ?_
          refine L_p (.bool ((kG == lG))) rfl rfl (P_assign rfl) ?_
          refine L_nl fun oO pR hs => ?_
          have hfr := hfr.ext hs
          have t5 := t5.ext hs
          have i7 := i7.ext hs
          have x5 := x5.ext hs
          have i6 := i6.ext hs
          clear hs
          refine EL_nil ?_
          obtain rfl := sinj h
          exact hQ _ _ ⟨oO, hfr, lB, t5, rF, i7, yD, x5, zD, i6, mB, cD, aE, l8, mC, m8, bE, rfl⟩
         ·refine E_drawL (g := zF) (n := 26) [] [0, 1, 2, 3, 4, 5, 6, 7, 8, 9, 10, 11, 12, 13, 14, 15, 16, 17, 18, 19, 20, 21, 22, 23, 24, 25] rfl mixed (by kernel_rfl) trivial ?_
          refine L_p (.int .i64 (l5.2)) rfl rfl (P_move l8) ?_
          refine L_p (.bool ((l5.2 == (1 : Int)))) rfl rfl (P_int rfl rfl rfl) ?_
          refine L_p (.bool ((l5.2 == (1 : Int)))) rfl rfl (P_move rfl) ?_
          refine L_y (.int .i64 (u3.2)) rfl rfl rfl rfl m7 (P_move m8) ?_
          refine L_y (.bool ((u3.2 == (1 : Int)))) rfl rfl rfl rfl m7 (P_int rfl rfl rfl) ?_
          refine L_p (.bool ((u3.2 == (1 : Int)))) rfl rfl (P_pick (b := (l5.2 == (1 : Int))) rfl (pick_t m7 rfl)) ?_
          refine L_p (.bool ((u3.2 == (1 : Int)))) rfl rfl (P_move rfl) ?_
          refine L_y (.int .i64 (o0.2.2.1)) rfl rfl rfl rfl n8 (P_move mB) ?_
          refine L_y (.bool ((o0.2.2.1 == (0 : Int)))) rfl rfl rfl rfl n8 (P_int rfl rfl rfl) ?_
          refine L_p (.bool ((o0.2.2.1 == (0 : Int)))) rfl rfl (P_pick (b := (u3.2 == (1 : Int))) rfl (pick_t n8 rfl)) ?_
          refine L_p (.bool ((o0.2.2.1 == (0 : Int)))) rfl rfl (P_move rfl) ?_
          refine L_y (.int .i64 (o0.2.2.2)) rfl rfl rfl rfl yA (P_move cD) ?_
          refine L_y (.bool ((o0.2.2.2 == (0 : Int)))) rfl rfl rfl rfl yA (P_int rfl rfl rfl) ?_
          refine L_p (.bool ((o0.2.2.2 == (0 : Int)))) rfl rfl (P_pick (b := (o0.2.2.1 == (0 : Int))) rfl (pick_t yA rfl)) ?_
          refine L_p (.bool ((o0.2.2.2 == (0 : Int)))) rfl rfl (P_move rfl) ?_
          iterate 9 refine L_s rfl rfl rfl r8 rfl ?_
          refine L_p (.bool false) rfl rfl (P_pick (b := (o0.2.2.2 == (0 : Int))) rfl (pick_f r8 rfl)) ?_
          refine L_p (.bool false) rfl rfl (P_assign rfl) ?_
          refine L_nl fun pO qR hs => ?_
          have hfr := hfr.ext hs
          have t5 := t5.ext hs
          have i7 := i7.ext hs
          have x5 := x5.ext hs
          have i6 := i6.ext hs
          clear hs
          refine EL_nil ?_
          obtain rfl := sinj h
          exact hQ _ _ ⟨pO, hfr, lB, t5, rF, i7, yD, x5, zD, i6, mB, cD, aE, l8, mC, m8, bE, rfl⟩
        ·refine E_drawL (g := zF) (n := 26) [] [0, 1, 2, 3, 4, 5, 6, 7, 8, 9, 10, 11, 12, 13, 14, 15, 16, 17, 18, 19, 20, 21, 22, 23, 24, 25] rfl mixed (by kernel_rfl) trivial ?_
         refine L_p (.int .i64 (l5.2)) rfl rfl (P_move l8) ?_
         refine L_p (.bool ((l5.2 == (1 : Int)))) rfl rfl (P_int rfl rfl rfl) ?_
         refine L_p (.bool ((l5.2 == (1 : Int)))) rfl rfl (P_move rfl) ?_
         refine L_y (.int .i64 (u3.2)) rfl rfl rfl rfl m7 (P_move m8) ?_
         refine L_y (.bool ((u3.2 == (1 : Int)))) rfl rfl rfl rfl m7 (P_int rfl rfl rfl) ?_
         refine L_p (.bool ((u3.2 == (1 : Int)))) rfl rfl (P_pick (b := (l5.2 == (1 : Int))) rfl (pick_t m7 rfl)) ?_
         refine L_p (.bool ((u3.2 == (1 : Int)))) rfl rfl (P_move rfl) ?_
         refine L_y (.int .i64 (o0.2.2.1)) rfl rfl rfl rfl n8 (P_move mB) ?_
         refine L_y (.bool ((o0.2.2.1 == (0 : Int)))) rfl rfl rfl rfl n8 (P_int rfl rfl rfl) ?_
         refine L_p (.bool ((o0.2.2.1 == (0 : Int)))) rfl rfl (P_pick (b := (u3.2 == (1 : Int))) rfl (pick_t n8 rfl)) ?_
         refine L_p (.bool ((o0.2.2.1 == (0 : Int)))) rfl rfl (P_move rfl) ?_
         refine L_s rfl rfl rfl yA rfl ?_
         refine L_s rfl rfl rfl yA rfl ?_
         refine L_p (.bool false) rfl rfl (P_pick (b := (o0.2.2.1 == (0 : Int))) rfl (pick_f yA rfl)) ?_
         refine L_dead (fun _ => rfl) 11 rfl ?_
         refine L_p (.bool false) rfl rfl (P_assign rfl) ?_
         refine L_nl fun qO rR hs => ?_
         have hfr := hfr.ext hs
         have t5 := t5.ext hs
         have i7 := i7.ext hs
         have x5 := x5.ext hs
         have i6 := i6.ext hs
         clear hs
         refine EL_nil ?_
         obtain rfl := sinj h
         exact hQ _ _ ⟨qO, hfr, lB, t5, rF, i7, yD, x5, zD, i6, mB, cD, aE, l8, mC, m8, bE, rfl⟩
       ·refine E_drawL (g := zF) (n := 26) [] [0, 1, 2, 3, 4, 5, 6, 7, 8, 9, 10, 11, 12, 13, 14, 15, 16, 17, 18, 19, 20, 21, 22, 23, 24, 25] rfl mixed (by kernel_rfl) trivial ?_
        refine L_p (.int .i64 (l5.2)) rfl rfl (P_move l8) ?_
        refine L_p (.bool ((l5.2 == (1 : Int)))) rfl rfl (P_int rfl rfl rfl) ?_
        refine L_p (.bool ((l5.2 == (1 : Int)))) rfl rfl (P_move rfl) ?_
        refine L_y (.int .i64 (u3.2)) rfl rfl rfl rfl m7 (P_move m8) ?_
        refine L_y (.bool ((u3.2 == (1 : Int)))) rfl rfl rfl rfl m7 (P_int rfl rfl rfl) ?_
        refine L_p (.bool ((u3.2 == (1 : Int)))) rfl rfl (P_pick (b := (l5.2 == (1 : Int))) rfl (pick_t m7 rfl)) ?_
        refine L_p (.bool ((u3.2 == (1 : Int)))) rfl rfl (P_move rfl) ?_
        refine L_s rfl rfl rfl n8 rfl ?_
        refine L_s rfl rfl rfl n8 rfl ?_
        refine L_p (.bool false) rfl rfl (P_pick (b := (u3.2 == (1 : Int))) rfl (pick_f n8 rfl)) ?_
        refine L_dead (fun _ => rfl) 15 rfl ?_
        refine L_p (.bool false) rfl rfl (P_assign rfl) ?_
        refine L_nl fun rO tR hs => ?_
        have hfr := hfr.ext hs
        have t5 := t5.ext hs
        have i7 := i7.ext hs
        have x5 := x5.ext hs
        have i6 := i6.ext hs
        clear hs
        refine EL_nil ?_
        obtain rfl := sinj h
        exact hQ _ _ ⟨rO, hfr, lB, t5, rF, i7, yD, x5, zD, i6, mB, cD, aE, l8, mC, m8, bE, rfl⟩
      ·refine E_drawL (g := zF) (n := 26) [] [0, 1, 2, 3, 4, 5, 6, 7, 8, 9, 10, 11, 12, 13, 14, 15, 16, 17, 18, 19, 20, 21, 22, 23, 24, 25] rfl mixed (by kernel_rfl) trivial ?_
       refine L_p (.int .i64 (l5.2)) rfl rfl (P_move l8) ?_
       refine L_p (.bool ((l5.2 == (1 : Int)))) rfl rfl (P_int rfl rfl rfl) ?_
       refine L_p (.bool ((l5.2 == (1 : Int)))) rfl rfl (P_move rfl) ?_
       refine L_s rfl rfl rfl m7 rfl ?_
       refine L_s rfl rfl rfl m7 rfl ?_
       refine L_p (.bool false) rfl rfl (P_pick (b := (l5.2 == (1 : Int))) rfl (pick_f m7 rfl)) ?_
       refine L_dead (fun _ => rfl) 19 rfl ?_
       refine L_p (.bool false) rfl rfl (P_assign rfl) ?_
       refine L_nl fun sO uR hs => ?_
       have hfr := hfr.ext hs
       have t5 := t5.ext hs
       have i7 := i7.ext hs
       have x5 := x5.ext hs
       have i6 := i6.ext hs
       clear hs
       refine EL_nil ?_
       obtain rfl := sinj h
       exact hQ _ _ ⟨sO, hfr, lB, t5, rF, i7, yD, x5, zD, i6, mB, cD, aE, l8, mC, m8, bE, rfl⟩
     ·clear hx
      obtain ⟨cF, hfr, n9, u9, iE, y9, qC, a9, sF, tF, lE, mE, d9, eD, z9, gD, dF, nH⟩ := hR
      rcases csome h with ⟨oH, h⟩ | ⟨oH, h⟩
      ·refine E_cond_true (Eq.trans (show ev _ _ = .bool (bD) from nH) (congrArg Value.bool oH)) ?_
       refine E_seq (L_loadO (x := .tmp 85) (SubS.comp part_PaySheet_0 part_PayTable_0 rfl).1 Tryz.isAgg56 Tryz.sizeOf56 y9 fun pJ qJ yK => ?_)
       obtain ⟨lJ, kI, h⟩ := bsome h
       have cM := PT_idx qJ kI
       refine L_load (x := .tmp 88) Tryz.isAgg23 Tryz.sizeOf23 cM fun rJ sJ zK => ?_
       obtain ⟨v8, lI, h⟩ := bsome h
       have dM := PT_idx sJ lI
       refine L_load (x := .tmp 91) Tryz.isAgg3 Tryz.sizeOf3 dM fun tP eM aL => ?_
       obtain rfl := RV_int.1 eM
       obtain ⟨x8, mI, h⟩ := bsome h
       have iM := PT_idx a9 mI
       refine L_load (x := .tmp 95) Tryz.isAgg3 Tryz.sizeOf3 iM fun uP jM bL => ?_
       obtain rfl := RV_int.1 jM
       have jH : RV cF.m zL (⟨(1 : Int), l5.1, u3.1, (w64 (v8 - x8))⟩ : PayEntry) (.agg (setCh [[.int .i64 0], [.int .i64 0], [.int .i64 0], [.int .i64 0]] [(0, .int .i64 (1)), (1, .int .i64 (l5.1)), (2, .int .i64 (u3.1)), (3, .int .i64 ((w64 (v8 - x8))))]).flatten.toArray) := RV_build rfl (rep_pair (rfl) (rep_pair (rfl) (rep_pair (rfl) (rep_last (rfl)))))
       generalize dL : (Value.agg (setCh [[.int .i64 0], [.int .i64 0], [.int .i64 0], [.int .i64 0]] [(0, .int .i64 (1)), (1, .int .i64 (l5.1)), (2, .int .i64 (u3.1)), (3, .int .i64 ((w64 (v8 - x8))))]).flatten.toArray) = vJ at jH
       refine E_drawL (g := cF) (n := 17) [] [0, 1, 2, 3, 4, 5, 6, 7, 8, 9, 10, 11, 12, 13, 14, 15, 16] rfl mixed (by kernel_rfl) trivial ?_
       refine L_p (.int .i64 (l5.1)) rfl rfl (P_move d9) ?_
       refine L_p (.int .i64 (u3.1)) rfl rfl (P_move z9) ?_
       refine L_p (fPtr p6 0) rfl rfl (P_fieldAddr at_132_0 iE (OB.ptr y9)) ?_
       refine L_p (fPtr p6 0) rfl rfl (P_fieldAddr2 (o1 := 0) rfl at_58_0 rfl (OB.ptr y9)) ?_
       refine L_ld (c := pJ) rfl rfl .plain (fun _ _ h => ⟨h.ch, fun b hb _ => h.below.block b hb⟩) yK rfl ?_
       refine L_p (.int .i64 (l5.1)) rfl rfl (P_move d9) ?_
       refine L_p (ePtr pJ l5.1 1) rfl rfl (P_indexAddr (α := List Int) Tryz.underlying56 Tryz.sizeOf23 rfl qJ rfl kI) ?_
       refine L_ld (c := rJ) rfl rfl .plain (fun _ _ h => h.ch) zK rfl ?_
       refine L_p (.int .i64 (u3.1)) rfl rfl (P_move z9) ?_
       refine L_p (ePtr rJ u3.1 1) rfl rfl (P_indexAddr (α := Int) Tryz.underlying23 Tryz.sizeOf3 rfl sJ rfl lI) ?_
       refine L_ld (c := .int .i64 (v8)) rfl rfl .plain (fun _ _ h => h.ch) aL rfl ?_
       refine L_p x6 rfl rfl (P_move qC) ?_
       refine L_p (.int .i64 (l5.1)) rfl rfl (P_move d9) ?_
       refine L_p (ePtr x6 l5.1 1) rfl rfl (P_indexAddr (α := Int) Tryz.underlying23 Tryz.sizeOf3 rfl a9 rfl mI) ?_
       refine L_ld (c := .int .i64 (x8)) rfl rfl .plain (fun _ _ h => h.ch) bL rfl ?_
       refine L_p (.int .i64 ((w64 (v8 - x8)))) rfl rfl (P_int rfl rfl rfl) ?_
       refine L_p vJ rfl rfl (dL ▸ P_build (vs := [(0, .int .i64 (1)), (1, .int .i64 (l5.1)), (2, .int .i64 (u3.1)), (3, .int .i64 ((w64 (v8 - x8))))]) [[.int .i64 0], [.int .i64 0], [.int .i64 0], [.int .i64 0]] lay_100 rfl rfl (.cons rfl (.cons rfl (.cons rfl (.cons rfl .nil)))) ⟨⟨_, rfl, rfl⟩, ⟨⟨_, rfl, rfl⟩, ⟨⟨_, rfl, rfl⟩, ⟨⟨_, rfl, rfl⟩, trivial⟩⟩⟩⟩) ?_
       refine L_nl fun kM vP hs => ?_
       have hfr := hfr.ext hs
       have u9 := u9.ext hs
       have jH := jH.ext hs
       clear hs
       refine EL_do .plain rfl (D_storeOc (g := kM) (v := vJ) Tryz.sizeOf100 n9 u9 rfl jH fun xJ xP hs b1081 cb => ?_)
       clear cb
       have hfr := hfr.stp hs
       refine EL_nil (thn_n (E_region (EL_p (fPtr p2 3) (P_fieldAddr at_100_3 n9 (OB.ptr b1081)) rfl ?_)))
       refine EL_do .plain rfl (D_loadF (g := xJ) part_PayEntry_3.1 Tryz.isAgg3 Tryz.sizeOf3 rfl b1081 fun yP mM => ?_)
       obtain rfl := RV_int.1 mM
       refine EL_do .plain rfl (D_buildSlice (g := xJ) 3101 (xs := ([(w64 (v8 - x8))] : List Int)) (vs := [.int .i64 ((w64 (v8 - x8)))]) Tryz.underlying23 Tryz.sizeOf3 Tryz.zeroValue3 rfl rfl (.cons rfl .nil) (RVs.cons (RV_int.2 rfl) RVs.nil) rfl rfl fun nM zP oM hs o1084 pM hxt hfl => ?_)
       have hfr := hfr.stp hs
       have b1081 := b1081.stp hs rfl
       obtain ⟨dH, eL, h⟩ := bsome h
       refine EL_do .plain rfl (D_call (g := nM) (vs := [.int .i64 (0), .int .i64 (1000000), oM]) en54 (.cons rfl (.cons rfl (.cons rfl .nil))) (wk54 pM eL) fun qM bP bQ hs hr => ?_)
       have hfr := hfr.ext hs
       have b1081 := b1081.ext hs
       subst hr
       refine EL_at (.bool (dH)) rfl rfl ?_
       exact EL_nil (blk_n (thn_n (gG ((⟨(1 : Int), l5.1, u3.1, (w64 (v8 - x8))⟩ : PayEntry), dH) _ _ ⟨qM, hfr, n9, b1081, rfl⟩ h)))
      ·refine E_cond_false (Eq.trans (show ev _ _ = .bool (bD) from nH) (congrArg Value.bool oH)) ?_
       obtain ⟨aB, hx, h⟩ := bsome h
       refine E_join (fun e w => ∃ (g : Gh) , Fr gI wI g w ∧ e 2 = p2 ∧ OB 2002 g w 100 (nB : PayEntry) p2 ∧ e 4 = p6 ∧ OB 2004 g w 132 (y5.1 : PaySheet) p6 ∧ e 5 = x6 ∧ RV g.m w (o0.1 : List Int) x6 ∧ e 6 = y6 ∧ RV g.m w (o0.2.1 : List Int) y6 ∧ e 7 = .int .i64 (o0.2.2.1) ∧ e 8 = .int .i64 (o0.2.2.2) ∧ e 9 = .int .i64 (l5.1) ∧ e 10 = .int .i64 (l5.2) ∧ e 11 = .int .i64 (u3.1) ∧ e 12 = .int .i64 (u3.2) ∧ e 13 = .bool (true) ∧ e 103 = .bool (aB)) (fun Q' hQ => ?_) (fun cP rM hR => ?_)
       ·replace h := hx
        clear hx
        refine E_region (EL_mv eD rfl ?_)
        refine EL_in (.bool ((l5.2 == (1 : Int)))) rfl rfl rfl rfl ?_
        refine EL_mw (.bool ((l5.2 == (1 : Int)))) rfl rfl ?_
        rcases csome h with ⟨iD, h⟩ | ⟨iD, h⟩
        ·refine EL_y (.int .i64 (u3.2)) (P_move gD) rfl rfl iD rfl ?_
         refine EL_y (.bool ((u3.2 == (0 : Int)))) (P_int rfl rfl rfl) rfl rfl iD rfl ?_
         refine EL_p (.bool ((u3.2 == (0 : Int)))) (P_pick (b := (l5.2 == (1 : Int))) rfl (pick_t iD rfl)) rfl ?_
         refine EL_mw (.bool ((u3.2 == (0 : Int)))) rfl rfl ?_
         rcases csome h with ⟨jD, h⟩ | ⟨jD, h⟩
         ·refine EL_y (.int .i64 (o0.2.2.2)) (P_move mE) rfl rfl jD rfl ?_
          refine EL_y (.bool ((o0.2.2.2 == (0 : Int)))) (P_int rfl rfl rfl) rfl rfl jD rfl ?_
          refine EL_p (.bool ((o0.2.2.2 == (0 : Int)))) (P_pick (b := (u3.2 == (0 : Int))) rfl (pick_t jD rfl)) rfl ?_
          refine EL_mw (.bool ((o0.2.2.2 == (0 : Int)))) rfl rfl ?_
          rcases csome h with ⟨g8, h⟩ | ⟨g8, h⟩
          ·refine EL_y x6 (P_move qC) rfl rfl g8 rfl ?_
           refine EL_y (.int .i64 (l5.1)) (P_move d9) rfl rfl g8 rfl ?_
           obtain ⟨bG, nI, h⟩ := bsome h
           refine EL_y (ePtr x6 l5.1 1) (P_indexAddr (α := Int) Tryz.underlying23 Tryz.sizeOf3 rfl a9 rfl nI) rfl rfl g8 rfl ?_
           have sM := PT_idx a9 nI
           refine EL_do (.yes2 rfl rfl g8) rfl (D_load (g := cF) Tryz.isAgg3 Tryz.sizeOf3 rfl sM fun cQ tM => ?_)
           obtain rfl := RV_int.1 tM
           refine EL_y (.int .i64 (o0.2.2.1)) (P_move lE) rfl rfl g8 rfl ?_
           refine EL_y (.int .i64 (w64 (0 - o0.2.2.1))) (P_neg rfl) rfl rfl g8 rfl ?_
           refine EL_y (.bool ((bG == (w64 (0 - o0.2.2.1))))) (P_int rfl rfl rfl) rfl rfl g8 rfl ?_
           refine EL_p (.bool ((bG == (w64 (0 - o0.2.2.1))))) (P_pick (b := (o0.2.2.2 == (0 : Int))) rfl (pick_t g8 rfl)) rfl ?_
           refine EL_at (.bool ((bG == (w64 (0 - o0.2.2.1))))) rfl rfl ?_
           refine EL_nil ?_
           obtain rfl := sinj h
           exact hQ _ _ ⟨cF, hfr, n9, u9, iE, y9, qC, a9, sF, tF, lE, mE, d9, eD, z9, gD, dF, rfl⟩
          ·refine EL_s rfl rfl g8 rfl rfl ?_
           iterate 6 refine EL_s rfl rfl g8 rfl rfl ?_
           refine EL_p (.bool false) (P_pick (b := (o0.2.2.2 == (0 : Int))) rfl (pick_f g8 rfl)) rfl ?_
           refine EL_at (.bool false) rfl rfl ?_
           refine EL_nil ?_
           obtain rfl := sinj h
           exact hQ _ _ ⟨cF, hfr, n9, u9, iE, y9, qC, a9, sF, tF, lE, mE, d9, eD, z9, gD, dF, rfl⟩
         ·refine EL_s rfl rfl jD rfl rfl ?_
          refine EL_s rfl rfl jD rfl rfl ?_
          refine EL_p (.bool false) (P_pick (b := (u3.2 == (0 : Int))) rfl (pick_f jD rfl)) rfl ?_
          refine EL_dead 9 rfl ?_
          refine EL_at (.bool false) rfl rfl ?_
          refine EL_nil ?_
          obtain rfl := sinj h
          exact hQ _ _ ⟨cF, hfr, n9, u9, iE, y9, qC, a9, sF, tF, lE, mE, d9, eD, z9, gD, dF, rfl⟩
        ·refine EL_s rfl rfl iD rfl rfl ?_
         refine EL_s rfl rfl iD rfl rfl ?_
         refine EL_p (.bool false) (P_pick (b := (l5.2 == (1 : Int))) rfl (pick_f iD rfl)) rfl ?_
         refine EL_dead 13 rfl ?_
         refine EL_at (.bool false) rfl rfl ?_
         refine EL_nil ?_
         obtain rfl := sinj h
         exact hQ _ _ ⟨cF, hfr, n9, u9, iE, y9, qC, a9, sF, tF, lE, mE, d9, eD, z9, gD, dF, rfl⟩
       ·clear hx
        obtain ⟨eF, hfr, rC, bA, nE, iA, sK, yH, oE, uC, rE, uE, mG, lD, nD, oD, sD, zG⟩ := hR
        rcases csome h with ⟨pH, h⟩ | ⟨pH, h⟩
        ·refine E_cond_true (Eq.trans (show ev _ _ = .bool (aB) from zG) (congrArg Value.bool pH)) ?_
         refine L_loadO (x := .tmp 125) (SubS.comp part_PaySheet_0 part_PayTable_1 rfl).1 Tryz.isAgg23 Tryz.sizeOf23 iA fun yJ zJ gL => ?_
         obtain ⟨oB, pI, h⟩ := bsome h
         have uM := PT_idx zJ pI
         refine L_load (x := .tmp 128) Tryz.isAgg3 Tryz.sizeOf3 uM fun dQ vM iL => ?_
         obtain rfl := RV_int.1 vM
         obtain ⟨tB, qI, h⟩ := bsome h
         have xM := PT_idx yH qI
         refine L_load (x := .tmp 132) Tryz.isAgg3 Tryz.sizeOf3 xM fun eQ bN jL => ?_
         obtain rfl := RV_int.1 bN
         have kH : RV eF.m rM (⟨(2 : Int), l5.1, 0, (w64 (oB + tB))⟩ : PayEntry) (.agg (setCh [[.int .i64 0], [.int .i64 0], [.int .i64 0], [.int .i64 0]] [(0, .int .i64 (2)), (1, .int .i64 (l5.1)), (3, .int .i64 ((w64 (oB + tB))))]).flatten.toArray) := RV_build rfl (rep_pair (rfl) (rep_pair (rfl) (rep_pair (rep_int) (rep_last (rfl)))))
         generalize lL : (Value.agg (setCh [[.int .i64 0], [.int .i64 0], [.int .i64 0], [.int .i64 0]] [(0, .int .i64 (2)), (1, .int .i64 (l5.1)), (3, .int .i64 ((w64 (oB + tB))))]).flatten.toArray) = aK at kH
         refine E_drawL (g := eF) (n := 13) [] [0, 1, 2, 3, 4, 5, 6, 7, 8, 9, 10, 11, 12] rfl mixed (by kernel_rfl) trivial ?_
         refine L_p (.int .i64 (l5.1)) rfl rfl (P_move mG) ?_
         refine L_p (fPtr p6 0) rfl rfl (P_fieldAddr at_132_0 nE (OB.ptr iA)) ?_
         refine L_p (fPtr p6 1) rfl rfl (P_fieldAddr2 (o1 := 0) rfl at_58_1 rfl (OB.ptr iA)) ?_
         refine L_ld (c := yJ) rfl rfl .plain (fun _ _ h => ⟨h.ch, fun b hb _ => h.below.block b hb⟩) gL rfl ?_
         refine L_p (.int .i64 (l5.1)) rfl rfl (P_move mG) ?_
         refine L_p (ePtr yJ l5.1 1) rfl rfl (P_indexAddr (α := Int) Tryz.underlying23 Tryz.sizeOf3 rfl zJ rfl pI) ?_
         refine L_ld (c := .int .i64 (oB)) rfl rfl .plain (fun _ _ h => h.ch) iL rfl ?_
         refine L_p x6 rfl rfl (P_move sK) ?_
         refine L_p (.int .i64 (l5.1)) rfl rfl (P_move mG) ?_
         refine L_p (ePtr x6 l5.1 1) rfl rfl (P_indexAddr (α := Int) Tryz.underlying23 Tryz.sizeOf3 rfl yH rfl qI) ?_
         refine L_ld (c := .int .i64 (tB)) rfl rfl .plain (fun _ _ h => h.ch) jL rfl ?_
         refine L_p (.int .i64 ((w64 (oB + tB)))) rfl rfl (P_int rfl rfl rfl) ?_
         refine L_p aK rfl rfl (lL ▸ P_build (vs := [(0, .int .i64 (2)), (1, .int .i64 (l5.1)), (3, .int .i64 ((w64 (oB + tB))))]) [[.int .i64 0], [.int .i64 0], [.int .i64 0], [.int .i64 0]] lay_100 rfl rfl (.cons rfl (.cons rfl (.cons rfl .nil))) ⟨⟨_, rfl, rfl⟩, ⟨⟨_, rfl, rfl⟩, ⟨⟨_, rfl, rfl⟩, trivial⟩⟩⟩) ?_
         refine L_nl fun cN gQ hs => ?_
         have hfr := hfr.ext hs
         have bA := bA.ext hs
         have kH := kH.ext hs
         clear hs
         refine EL_do .plain rfl (D_storeOc (g := cN) (v := aK) Tryz.sizeOf100 rC bA rfl kH fun dN iQ hs b1137 cb => ?_)
         clear cb
         have hfr := hfr.stp hs
         exact EL_nil (blk_n (thn_n (gG ((⟨(2 : Int), l5.1, 0, (w64 (oB + tB))⟩ : PayEntry), true) _ _ ⟨dN, hfr, rC, b1137, sD⟩ h)))
        ·refine E_cond_false (Eq.trans (show ev _ _ = .bool (aB) from zG) (congrArg Value.bool pH)) ?_
         obtain ⟨dB, hx, h⟩ := bsome h
         refine E_join (fun e w => ∃ (g : Gh) , Fr gI wI g w ∧ e 2 = p2 ∧ OB 2002 g w 100 (nB : PayEntry) p2 ∧ e 4 = p6 ∧ OB 2004 g w 132 (y5.1 : PaySheet) p6 ∧ e 6 = y6 ∧ RV g.m w (o0.2.1 : List Int) y6 ∧ e 7 = .int .i64 (o0.2.2.1) ∧ e 8 = .int .i64 (o0.2.2.2) ∧ e 10 = .int .i64 (l5.2) ∧ e 11 = .int .i64 (u3.1) ∧ e 12 = .int .i64 (u3.2) ∧ e 13 = .bool (true) ∧ e 136 = .bool (dB)) (fun Q' hQ => ?_) (fun dP eN hR => ?_)
         ·replace h := hx
          clear hx
          refine E_region (EL_mv lD rfl ?_)
          refine EL_in (.bool ((l5.2 == (0 : Int)))) rfl rfl rfl rfl ?_
          refine EL_mw (.bool ((l5.2 == (0 : Int)))) rfl rfl ?_
          rcases csome h with ⟨tD, h⟩ | ⟨tD, h⟩
          ·refine EL_y (.int .i64 (u3.2)) (P_move oD) rfl rfl tD rfl ?_
           refine EL_y (.bool ((u3.2 == (1 : Int)))) (P_int rfl rfl rfl) rfl rfl tD rfl ?_
           refine EL_p (.bool ((u3.2 == (1 : Int)))) (P_pick (b := (l5.2 == (0 : Int))) rfl (pick_t tD rfl)) rfl ?_
           refine EL_mw (.bool ((u3.2 == (1 : Int)))) rfl rfl ?_
           rcases csome h with ⟨uD, h⟩ | ⟨uD, h⟩
           ·refine EL_y (.int .i64 (o0.2.2.1)) (P_move rE) rfl rfl uD rfl ?_
            refine EL_y (.bool ((o0.2.2.1 == (0 : Int)))) (P_int rfl rfl rfl) rfl rfl uD rfl ?_
            refine EL_p (.bool ((o0.2.2.1 == (0 : Int)))) (P_pick (b := (u3.2 == (1 : Int))) rfl (pick_t uD rfl)) rfl ?_
            refine EL_mw (.bool ((o0.2.2.1 == (0 : Int)))) rfl rfl ?_
            rcases csome h with ⟨k8, h⟩ | ⟨k8, h⟩
            ·refine EL_y y6 (P_move oE) rfl rfl k8 rfl ?_
             refine EL_y (.int .i64 (u3.1)) (P_move nD) rfl rfl k8 rfl ?_
             obtain ⟨cG, sI, h⟩ := bsome h
             refine EL_y (ePtr y6 u3.1 1) (P_indexAddr (α := Int) Tryz.underlying23 Tryz.sizeOf3 rfl uC rfl sI) rfl rfl k8 rfl ?_
             have gN := PT_idx uC sI
             refine EL_do (.yes2 rfl rfl k8) rfl (D_load (g := eF) Tryz.isAgg3 Tryz.sizeOf3 rfl gN fun jQ iN => ?_)
             obtain rfl := RV_int.1 iN
             refine EL_y (.int .i64 (o0.2.2.2)) (P_move uE) rfl rfl k8 rfl ?_
             refine EL_y (.int .i64 (w64 (0 - o0.2.2.2))) (P_neg rfl) rfl rfl k8 rfl ?_
             refine EL_y (.bool ((cG == (w64 (0 - o0.2.2.2))))) (P_int rfl rfl rfl) rfl rfl k8 rfl ?_
             refine EL_p (.bool ((cG == (w64 (0 - o0.2.2.2))))) (P_pick (b := (o0.2.2.1 == (0 : Int))) rfl (pick_t k8 rfl)) rfl ?_
             refine EL_at (.bool ((cG == (w64 (0 - o0.2.2.2))))) rfl rfl ?_
             refine EL_nil ?_
             obtain rfl := sinj h
             exact hQ _ _ ⟨eF, hfr, rC, bA, nE, iA, oE, uC, rE, uE, lD, nD, oD, sD, rfl⟩
            ·refine EL_s rfl rfl k8 rfl rfl ?_
             iterate 6 refine EL_s rfl rfl k8 rfl rfl ?_
             refine EL_p (.bool false) (P_pick (b := (o0.2.2.1 == (0 : Int))) rfl (pick_f k8 rfl)) rfl ?_
             refine EL_at (.bool false) rfl rfl ?_
             refine EL_nil ?_
             obtain rfl := sinj h
             exact hQ _ _ ⟨eF, hfr, rC, bA, nE, iA, oE, uC, rE, uE, lD, nD, oD, sD, rfl⟩
           ·refine EL_s rfl rfl uD rfl rfl ?_
            refine EL_s rfl rfl uD rfl rfl ?_
            refine EL_p (.bool false) (P_pick (b := (u3.2 == (1 : Int))) rfl (pick_f uD rfl)) rfl ?_
            refine EL_dead 9 rfl ?_
            refine EL_at (.bool false) rfl rfl ?_
            refine EL_nil ?_
            obtain rfl := sinj h
            exact hQ _ _ ⟨eF, hfr, rC, bA, nE, iA, oE, uC, rE, uE, lD, nD, oD, sD, rfl⟩
          ·refine EL_s rfl rfl tD rfl rfl ?_
           refine EL_s rfl rfl tD rfl rfl ?_
           refine EL_p (.bool false) (P_pick (b := (l5.2 == (0 : Int))) rfl (pick_f tD rfl)) rfl ?_
           refine EL_dead 13 rfl ?_
           refine EL_at (.bool false) rfl rfl ?_
           refine EL_nil ?_
           obtain rfl := sinj h
           exact hQ _ _ ⟨eF, hfr, rC, bA, nE, iA, oE, uC, rE, uE, lD, nD, oD, sD, rfl⟩
         ·clear hx
          obtain ⟨hG, hfr, vE, vC, uF, aD, tK, zH, vF, uK, eJ, aG, gJ, iJ, aH⟩ := hR
          rcases csome h with ⟨qH, h⟩ | ⟨qH, h⟩
          ·refine E_cond_true (Eq.trans (show ev _ _ = .bool (dB) from aH) (congrArg Value.bool qH)) ?_
           refine L_loadO (x := .tmp 158) (SubS.comp part_PaySheet_0 part_PayTable_2 rfl).1 Tryz.isAgg23 Tryz.sizeOf23 aD fun bK cK mL => ?_
           obtain ⟨vB, tI, h⟩ := bsome h
           have jN := PT_idx cK tI
           refine L_load (x := .tmp 161) Tryz.isAgg3 Tryz.sizeOf3 jN fun kQ kN nL => ?_
           obtain rfl := RV_int.1 kN
           obtain ⟨yB, uI, h⟩ := bsome h
           have lN := PT_idx zH uI
           refine L_load (x := .tmp 165) Tryz.isAgg3 Tryz.sizeOf3 lN fun lQ mN oL => ?_
           obtain rfl := RV_int.1 mN
           have lH : RV hG.m eN (⟨(3 : Int), 0, u3.1, (w64 (vB + yB))⟩ : PayEntry) (.agg (setCh [[.int .i64 0], [.int .i64 0], [.int .i64 0], [.int .i64 0]] [(0, .int .i64 (3)), (2, .int .i64 (u3.1)), (3, .int .i64 ((w64 (vB + yB))))]).flatten.toArray) := RV_build rfl (rep_pair (rfl) (rep_pair (rep_int) (rep_pair (rfl) (rep_last (rfl)))))
           generalize pL : (Value.agg (setCh [[.int .i64 0], [.int .i64 0], [.int .i64 0], [.int .i64 0]] [(0, .int .i64 (3)), (2, .int .i64 (u3.1)), (3, .int .i64 ((w64 (vB + yB))))]).flatten.toArray) = dK at lH
           refine E_drawL (g := hG) (n := 13) [] [0, 1, 2, 3, 4, 5, 6, 7, 8, 9, 10, 11, 12] rfl mixed (by kernel_rfl) trivial ?_
           refine L_p (.int .i64 (u3.1)) rfl rfl (P_move aG) ?_
           refine L_p (fPtr p6 0) rfl rfl (P_fieldAddr at_132_0 uF (OB.ptr aD)) ?_
           refine L_p (fPtr p6 2) rfl rfl (P_fieldAddr2 (o1 := 0) rfl at_58_2 rfl (OB.ptr aD)) ?_
           refine L_ld (c := bK) rfl rfl .plain (fun _ _ h => ⟨h.ch, fun b hb _ => h.below.block b hb⟩) mL rfl ?_
           refine L_p (.int .i64 (u3.1)) rfl rfl (P_move aG) ?_
           refine L_p (ePtr bK u3.1 1) rfl rfl (P_indexAddr (α := Int) Tryz.underlying23 Tryz.sizeOf3 rfl cK rfl tI) ?_
           refine L_ld (c := .int .i64 (vB)) rfl rfl .plain (fun _ _ h => h.ch) nL rfl ?_
           refine L_p y6 rfl rfl (P_move tK) ?_
           refine L_p (.int .i64 (u3.1)) rfl rfl (P_move aG) ?_
           refine L_p (ePtr y6 u3.1 1) rfl rfl (P_indexAddr (α := Int) Tryz.underlying23 Tryz.sizeOf3 rfl zH rfl uI) ?_
           refine L_ld (c := .int .i64 (yB)) rfl rfl .plain (fun _ _ h => h.ch) oL rfl ?_
           refine L_p (.int .i64 ((w64 (vB + yB)))) rfl rfl (P_int rfl rfl rfl) ?_
           refine L_p dK rfl rfl (pL ▸ P_build (vs := [(0, .int .i64 (3)), (2, .int .i64 (u3.1)), (3, .int .i64 ((w64 (vB + yB))))]) [[.int .i64 0], [.int .i64 0], [.int .i64 0], [.int .i64 0]] lay_100 rfl rfl (.cons rfl (.cons rfl (.cons rfl .nil))) ⟨⟨_, rfl, rfl⟩, ⟨⟨_, rfl, rfl⟩, ⟨⟨_, rfl, rfl⟩, trivial⟩⟩⟩) ?_
           refine L_nl fun nN mQ hs => ?_
           have hfr := hfr.ext hs
           have vC := vC.ext hs
           have lH := lH.ext hs
           clear hs
           refine EL_do .plain rfl (D_storeOc (g := nN) (v := dK) Tryz.sizeOf100 vE vC rfl lH fun oN nQ hs b1186 cb => ?_)
           clear cb
           have hfr := hfr.stp hs
           exact EL_nil (blk_n (thn_n (gG ((⟨(3 : Int), 0, u3.1, (w64 (vB + yB))⟩ : PayEntry), true) _ _ ⟨oN, hfr, vE, b1186, iJ⟩ h)))
          ·refine E_cond_false (Eq.trans (show ev _ _ = .bool (dB) from aH) (congrArg Value.bool qH)) ?_
           obtain ⟨iB, hx, h⟩ := bsome h
           refine E_join (fun e w => ∃ (g : Gh) , Fr gI wI g w ∧ e 2 = p2 ∧ OB 2002 g w 100 (nB : PayEntry) p2 ∧ e 4 = p6 ∧ OB 2004 g w 132 (y5.1 : PaySheet) p6 ∧ e 7 = .int .i64 (o0.2.2.1) ∧ e 169 = .bool (iB)) (fun Q' hQ => ?_) (fun eP pN hR => ?_)
           ·replace h := hx
            clear hx
            refine E_region (EL_mv eJ rfl ?_)
            refine EL_in (.bool ((l5.2 == (0 : Int)))) rfl rfl rfl rfl ?_
            refine EL_mw (.bool ((l5.2 == (0 : Int)))) rfl rfl ?_
            rcases csome h with ⟨vD, h⟩ | ⟨vD, h⟩
            ·refine EL_y (.int .i64 (u3.2)) (P_move gJ) rfl rfl vD rfl ?_
             refine EL_y (.bool ((u3.2 == (0 : Int)))) (P_int rfl rfl rfl) rfl rfl vD rfl ?_
             refine EL_p (.bool ((u3.2 == (0 : Int)))) (P_pick (b := (l5.2 == (0 : Int))) rfl (pick_t vD rfl)) rfl ?_
             refine EL_mw (.bool ((u3.2 == (0 : Int)))) rfl rfl ?_
             rcases csome h with ⟨l9, h⟩ | ⟨l9, h⟩
             ·refine EL_y (.int .i64 (o0.2.2.1)) (P_move vF) rfl rfl l9 rfl ?_
              refine EL_y (.int .i64 (o0.2.2.2)) (P_move uK) rfl rfl l9 rfl ?_
              refine EL_y (.bool ((o0.2.2.1 == o0.2.2.2))) (P_int rfl rfl rfl) rfl rfl l9 rfl ?_
              refine EL_p (.bool ((o0.2.2.1 == o0.2.2.2))) (P_pick (b := (u3.2 == (0 : Int))) rfl (pick_t l9 rfl)) rfl ?_
              refine EL_at (.bool ((o0.2.2.1 == o0.2.2.2))) rfl rfl ?_
              refine EL_nil ?_
              obtain rfl := sinj h
              exact hQ _ _ ⟨hG, hfr, vE, vC, uF, aD, vF, rfl⟩
             ·refine EL_s rfl rfl l9 rfl rfl ?_
              refine EL_s rfl rfl l9 rfl rfl ?_
              refine EL_s rfl rfl l9 rfl rfl ?_
              refine EL_p (.bool false) (P_pick (b := (u3.2 == (0 : Int))) rfl (pick_f l9 rfl)) rfl ?_
              refine EL_at (.bool false) rfl rfl ?_
              refine EL_nil ?_
              obtain rfl := sinj h
              exact hQ _ _ ⟨hG, hfr, vE, vC, uF, aD, vF, rfl⟩
            ·refine EL_s rfl rfl vD rfl rfl ?_
             refine EL_s rfl rfl vD rfl rfl ?_
             refine EL_p (.bool false) (P_pick (b := (l5.2 == (0 : Int))) rfl (pick_f vD rfl)) rfl ?_
             refine EL_dead 5 rfl ?_
             refine EL_at (.bool false) rfl rfl ?_
             refine EL_nil ?_
             obtain rfl := sinj h
             exact hQ _ _ ⟨hG, hfr, vE, vC, uF, aD, vF, rfl⟩
           ·clear hx
            obtain ⟨mH, hfr, xF, aI, vK, sG, xK, cH⟩ := hR
            rcases csome h with ⟨sH, h⟩ | ⟨sH, h⟩
            ·refine E_cond_true (Eq.trans (show ev _ _ = .bool (iB) from cH) (congrArg Value.bool sH)) ?_
             refine E_seq (E_region (EL_p (fPtr p6 0) (P_fieldAddr at_132_0 vK (OB.ptr sG)) rfl ?_))
             refine EL_p (fPtr p6 3) (P_fieldAddr2 (o1 := 0) rfl at_58_3 rfl (OB.ptr sG)) rfl ?_
             refine EL_do .plain rfl (D_loadF (g := mH) (SubS.comp part_PaySheet_0 part_PayTable_3 rfl).1 Tryz.isAgg3 Tryz.sizeOf3 rfl sG fun oQ qN => ?_)
             obtain rfl := RV_int.1 qN
             refine EL_mv xK rfl ?_
             refine EL_in (.int .i64 ((w64 (((y5.1).PayTable).Total + o0.2.2.1)))) rfl rfl rfl rfl ?_
             have lK : RV mH.m pN (⟨(4 : Int), 0, 0, (w64 (((y5.1).PayTable).Total + o0.2.2.1))⟩ : PayEntry) (.agg (setCh [[.int .i64 0], [.int .i64 0], [.int .i64 0], [.int .i64 0]] [(0, .int .i64 (4)), (3, .int .i64 ((w64 (((y5.1).PayTable).Total + o0.2.2.1))))]).flatten.toArray) := RV_build rfl (rep_pair (rfl) (rep_pair (rep_int) (rep_pair (rep_int) (rep_last (rfl)))))
             generalize qL : (Value.agg (setCh [[.int .i64 0], [.int .i64 0], [.int .i64 0], [.int .i64 0]] [(0, .int .i64 (4)), (3, .int .i64 ((w64 (((y5.1).PayTable).Total + o0.2.2.1))))]).flatten.toArray) = mK at lK
             refine EL_p mK (qL ▸ P_build (vs := [(0, .int .i64 (4)), (3, .int .i64 ((w64 (((y5.1).PayTable).Total + o0.2.2.1))))]) [[.int .i64 0], [.int .i64 0], [.int .i64 0], [.int .i64 0]] lay_100 rfl rfl (.cons rfl (.cons rfl .nil)) ⟨⟨_, rfl, rfl⟩, ⟨⟨_, rfl, rfl⟩, trivial⟩⟩) rfl ?_
             refine EL_do .plain rfl (D_storeOc (g := mH) (v := mK) Tryz.sizeOf100 xF aI rfl lK fun nK pQ hs b1197 cb => ?_)
             clear cb
             have hfr := hfr.stp hs
             refine EL_nil (thn_n (E_region (EL_p (fPtr p2 3) (P_fieldAddr at_100_3 xF (OB.ptr b1197)) rfl ?_)))
             refine EL_do .plain rfl (D_loadF (g := nK) part_PayEntry_3.1 Tryz.isAgg3 Tryz.sizeOf3 rfl b1197 fun qQ rN => ?_)
             obtain rfl := RV_int.1 rN
             refine EL_do .plain rfl (D_buildSlice (g := nK) 3189 (xs := ([(w64 (((y5.1).PayTable).Total + o0.2.2.1))] : List Int)) (vs := [.int .i64 ((w64 (((y5.1).PayTable).Total + o0.2.2.1)))]) Tryz.underlying23 Tryz.sizeOf3 Tryz.zeroValue3 rfl rfl (.cons rfl .nil) (RVs.cons (RV_int.2 rfl) RVs.nil) rfl rfl fun sN rQ tN hs o1200 uN hxt hfl => ?_)
             have hfr := hfr.stp hs
             have b1197 := b1197.stp hs rfl
             obtain ⟨gH, rL, h⟩ := bsome h
             refine EL_do .plain rfl (D_call (g := sN) (vs := [tN]) en72 (.cons rfl .nil) (wk72 uN rL) fun vN gP sQ hs hr => ?_)
             have hfr := hfr.ext hs
             have b1197 := b1197.ext hs
             subst hr
             refine EL_at (.bool (gH)) rfl rfl ?_
             exact EL_nil (blk_n (thn_n (gG ((⟨(4 : Int), 0, 0, (w64 (((y5.1).PayTable).Total + o0.2.2.1))⟩ : PayEntry), gH) _ _ ⟨vN, hfr, xF, b1197, rfl⟩ h)))
            ·refine E_cond_false (Eq.trans (show ev _ _ = .bool (iB) from cH) (congrArg Value.bool sH)) ?_
             refine E_region (EL_at (.bool false) rfl rfl ?_)
             exact EL_nil (blk_n (thn_n (gG (nB, false) _ _ ⟨mH, hfr, xF, aI, rfl⟩ h)))
  ·rintro ⟨iG, yF⟩ iP xN ⟨jI, hfr, xG, bI, jJ⟩ h
   refine E_joinC h (fun (s : PayEntry) e w => ∃ (g : Gh) , Fr gI wI g w ∧ e 2 = p2 ∧ OB 2002 g w 100 (s : PayEntry) p2) (fun X1208 kJ tL h => ?_) ?_
   ·refine E_seq (E_region (EL_mv jJ rfl ?_))
    refine EL_p (.bool (!yF)) (P_not rfl) rfl ?_
    refine EL_nil (thn_n ?_)
    rcases csome h with ⟨tH, h⟩ | ⟨tH, h⟩
    ·refine E_ct tH rfl ?_
     refine E_seq (E_region ?_)
     have oK : RV jI.m xN (⟨0, 0, 0, 0⟩ : PayEntry) (.agg (setCh [[.int .i64 0], [.int .i64 0], [.int .i64 0], [.int .i64 0]] []).flatten.toArray) := RV_build rfl (rep_pair (rep_int) (rep_pair (rep_int) (rep_pair (rep_int) (rep_last (rep_int)))))
     generalize uL : (Value.agg (setCh [[.int .i64 0], [.int .i64 0], [.int .i64 0], [.int .i64 0]] []).flatten.toArray) = pK at oK
     refine EL_p pK (uL ▸ P_build (vs := []) [[.int .i64 0], [.int .i64 0], [.int .i64 0], [.int .i64 0]] lay_100 rfl rfl .nil trivial) rfl ?_
     refine EL_do .plain rfl (D_storeOc (g := jI) (v := pK) Tryz.sizeOf100 xG bI rfl oK fun tQ uQ hs b1211 cb => ?_)
     clear cb
     have hfr := hfr.stp hs
     refine EL_at (.int .i64 (9)) rfl rfl ?_
     refine EL_nil (thn_n (E_ret (thn_r ?_)))
     obtain rfl := sinj h
     obtain ⟨ad1212, cv1212, hp1212, vL, cr1212⟩ := ob_read Tryz.isAgg100 Tryz.sizeOf100 b1211
     exact endm_ct rfl rfl ((show _ = p2 from xG).trans hp1212) vL (show _ = .int .i64 (9) from rfl) ⟨_, hfr, _, _, rfl, cr1212, rfl⟩
    ·refine E_cf tH rfl ?_
     exact E_skip (thn_n (tL (iG) _ _ ⟨jI, hfr, xG, bI⟩ h))
   ·rintro uH jP vQ ⟨qK, hfr, yG, dI⟩ h
    refine E_seq (E_region (EL_do .plain rfl (D_loadO (g := qK) Tryz.isAgg100 Tryz.sizeOf100 yG dI fun yN zN => ?_)))
    refine EL_do .plain rfl (D_storeOc (g := qK) (v := yN) Tryz.sizeOf100 yG dI rfl zN fun xQ yQ hs b1215 cb => ?_)
    clear cb
    have hfr := hfr.stp hs
    refine EL_at (.int .i64 (0)) rfl rfl ?_
    refine EL_nil (thn_n (E_ret ?_))
    obtain rfl := sinj h
    obtain ⟨ad1216, cv1216, hp1216, xL, cr1216⟩ := ob_read Tryz.isAgg100 Tryz.sizeOf100 b1215
    exact endm_ct rfl rfl ((show _ = p2 from yG).trans hp1216) xL (show _ = .int .i64 (0) from rfl) ⟨_, hfr, _, _, rfl, cr1216, rfl⟩
end Go.Proofs.YtkmbkaoolacofaaGreat
