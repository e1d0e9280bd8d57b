import Derived.Test.YtdkgoipaohacgaaCode1
set_option maxRecDepth 8000
set_option maxHeartbeats 4000000
namespace Go.Proofs.Ytdkgoipaohacgaa
open Go.RowKit
def f154 (x0 : Span) (x1 : Span) : Option (Span) :=
 some ((⟨(w64 ((x0).Low - (x1).High)), (w64 ((x0).High - (x1).Low))⟩ : Span))
theorem en154 : Enters Try.prog 154 := enters_of Try.func154 (by kernel_rfl) rfl
theorem wk154 {gI : Gh} {wI : World} {x0 : Span} {x1 : Span} {up0 : Value} (rp0 : RV gI.m wI x0 up0) {up1 : Value} (rp1 : RV gI.m wI x1 up1) {r : Span} (h : f154 x0 x1 = some r) : Fn Try.prog 154 #[up0, up1] gI wI (fun m w v => RV m w (r) v) := by
 unfold f154 at h
 refine fn_of_E Try.func154 rfl (Nat.le_of_ble_eq_true rfl) fun g0 hm hfr => ?_
 have rp0 : RV g0.m wI x0 up0 := hm ▸ rp0
 have rp1 : RV g0.m wI x1 up1 := hm ▸ rp1
 show E _ 16 none _ _ _ _ _
 refine E_seq (E_region (EL_do .plain rfl (D_box (g := g0) rfl rp0 fun g1 w1 p1 hs q1 => ?_)))
 have hfr := hfr.ext hs
 have rp1 := rp1.ext hs
 refine EL_do .plain rfl (D_box (g := g1) rfl rp1 fun g2 w2 p2 hs q2 => ?_)
 have hfr := hfr.ext hs
 have q1 := q1.ext hs
 refine EL_do .plain rfl (D_allocOc (g := g2) 2004 (⟨0, 0⟩ : Span) Try.zeroValue137 (fun m w => ⟨_, (rep_two rep_int rep_int), rfl⟩) fun g3 w3 p3 hs b3 cb => ?_)
 have hfr := hfr.stp hs
 have q1 := q1.stp hs
 have q2 := q2.stp hs
 clear cb
 refine EL_nil (thn_n (E_seq (E_region (EL_p (fPtr p1 0) (P_fieldAddr at_137_0 rfl (PT.ptr q1)) rfl ?_))))
 have q4 := PT_field (part_Span_0).1 q1
 refine EL_do .plain rfl (D_load (g := g3) Try.isAgg3 Try.sizeOf3 rfl q4 fun v5 r5 => ?_)
 obtain rfl := RV_int.1 r5
 refine EL_p (fPtr p2 1) (P_fieldAddr at_137_1 rfl (PT.ptr q2)) rfl ?_
 have q6 := PT_field (part_Span_1).1 q2
 refine EL_do .plain rfl (D_load (g := g3) Try.isAgg3 Try.sizeOf3 rfl q6 fun v7 r7 => ?_)
 obtain rfl := RV_int.1 r7
 refine EL_in (.int .i64 ((w64 ((x0).Low - (x1).High)))) rfl rfl rfl rfl ?_
 refine EL_p (fPtr p1 1) (P_fieldAddr at_137_1 rfl (PT.ptr q1)) rfl ?_
 have q8 := PT_field (part_Span_1).1 q1
 refine EL_do .plain rfl (D_load (g := g3) Try.isAgg3 Try.sizeOf3 rfl q8 fun v9 r9 => ?_)
 obtain rfl := RV_int.1 r9
 refine EL_p (fPtr p2 0) (P_fieldAddr at_137_0 rfl (PT.ptr q2)) rfl ?_
 have d3 := PT_field (part_Span_0).1 q2
 refine EL_do .plain rfl (D_load (g := g3) Try.isAgg3 Try.sizeOf3 rfl d3 fun j3 i3 => ?_)
 obtain rfl := RV_int.1 i3
 refine EL_in (.int .i64 ((w64 ((x0).High - (x1).Low)))) rfl rfl rfl rfl ?_
 have o0 : RV g3.m w3 (⟨(w64 ((x0).Low - (x1).High)), (w64 ((x0).High - (x1).Low))⟩ : Span) (.agg (setCh [[.int .i64 0], [.int .i64 0]] [(0, .int .i64 ((w64 ((x0).Low - (x1).High)))), (1, .int .i64 ((w64 ((x0).High - (x1).Low))))]).flatten.toArray) := RV_build rfl (rep_pair (rfl) (rep_last (rfl)))
 generalize j1 : (Value.agg (setCh [[.int .i64 0], [.int .i64 0]] [(0, .int .i64 ((w64 ((x0).Low - (x1).High)))), (1, .int .i64 ((w64 ((x0).High - (x1).Low))))]).flatten.toArray) = u0 at o0
 refine EL_p u0 (j1 ▸ P_build (vs := [(0, .int .i64 ((w64 ((x0).Low - (x1).High)))), (1, .int .i64 ((w64 ((x0).High - (x1).Low))))]) [[.int .i64 0], [.int .i64 0]] lay_137 rfl rfl (.cons rfl (.cons rfl .nil)) ⟨⟨_, rfl, rfl⟩, ⟨⟨_, rfl, rfl⟩, trivial⟩⟩) rfl ?_
 refine EL_do .plain rfl (D_storeOc (g := g3) (v := u0) Try.sizeOf137 rfl b3 rfl o0 fun o3 u3 hs b13 cb => ?_)
 clear cb
 have hfr := hfr.stp hs
 refine EL_nil (thn_n (E_ret ?_))
 obtain rfl := sinj h
 obtain ⟨ad14, cv14, hp14, z2, cr14⟩ := ob_read Try.isAgg137 Try.sizeOf137 b13
 exact endm_c rfl rfl ((show _ = p3 from rfl).trans hp14) z2 ⟨_, hfr, cr14⟩
def f156 (x0 : Span) (x1 : Span) : Option (Span) :=
 some ((⟨(max64 (x0).Low (x1).Low), (min64 (x0).High (x1).High)⟩ : Span))
theorem en156 : Enters Try.prog 156 := enters_of Try.func156 (by kernel_rfl) rfl
theorem wk156 {gI : Gh} {wI : World} {x0 : Span} {x1 : Span} {up0 : Value} (rp0 : RV gI.m wI x0 up0) {up1 : Value} (rp1 : RV gI.m wI x1 up1) {r : Span} (h : f156 x0 x1 = some r) : Fn Try.prog 156 #[up0, up1] gI wI (fun m w v => RV m w (r) v) := by
 unfold f156 at h
 refine fn_of_E Try.func156 rfl (Nat.le_of_ble_eq_true rfl) fun g0 hm hfr => ?_
 have rp0 : RV g0.m wI x0 up0 := hm ▸ rp0
 have rp1 : RV g0.m wI x1 up1 := hm ▸ rp1
 show E _ 16 none _ _ _ _ _
 refine E_seq (E_region (EL_do .plain rfl (D_box (g := g0) rfl rp0 fun g1 w1 p1 hs q1 => ?_)))
 have hfr := hfr.ext hs
 have rp1 := rp1.ext hs
 refine EL_do .plain rfl (D_box (g := g1) rfl rp1 fun g2 w2 p2 hs q2 => ?_)
 have hfr := hfr.ext hs
 have q1 := q1.ext hs
 refine EL_do .plain rfl (D_allocOc (g := g2) 2004 (⟨0, 0⟩ : Span) Try.zeroValue137 (fun m w => ⟨_, (rep_two rep_int rep_int), rfl⟩) fun g3 w3 p3 hs b3 cb => ?_)
 have hfr := hfr.stp hs
 have q1 := q1.stp hs
 have q2 := q2.stp hs
 clear cb
 refine EL_nil (thn_n (E_seq (E_region (EL_p (fPtr p1 0) (P_fieldAddr at_137_0 rfl (PT.ptr q1)) rfl ?_))))
 have q4 := PT_field (part_Span_0).1 q1
 refine EL_do .plain rfl (D_load (g := g3) Try.isAgg3 Try.sizeOf3 rfl q4 fun v5 r5 => ?_)
 obtain rfl := RV_int.1 r5
 refine EL_p (fPtr p2 0) (P_fieldAddr at_137_0 rfl (PT.ptr q2)) rfl ?_
 have q6 := PT_field (part_Span_0).1 q2
 refine EL_do .plain rfl (D_load (g := g3) Try.isAgg3 Try.sizeOf3 rfl q6 fun v7 r7 => ?_)
 obtain rfl := RV_int.1 r7
 refine EL_p (.int .i64 (max64 (x0).Low (x1).Low)) (P_max rfl rfl) rfl ?_
 refine EL_p (fPtr p1 1) (P_fieldAddr at_137_1 rfl (PT.ptr q1)) rfl ?_
 have q8 := PT_field (part_Span_1).1 q1
 refine EL_do .plain rfl (D_load (g := g3) Try.isAgg3 Try.sizeOf3 rfl q8 fun v9 r9 => ?_)
 obtain rfl := RV_int.1 r9
 refine EL_p (fPtr p2 1) (P_fieldAddr at_137_1 rfl (PT.ptr q2)) rfl ?_
 have d3 := PT_field (part_Span_1).1 q2
 refine EL_do .plain rfl (D_load (g := g3) Try.isAgg3 Try.sizeOf3 rfl d3 fun j3 i3 => ?_)
 obtain rfl := RV_int.1 i3
 refine EL_p (.int .i64 (min64 (x0).High (x1).High)) (P_min rfl rfl) rfl ?_
 have o0 : RV g3.m w3 (⟨(max64 (x0).Low (x1).Low), (min64 (x0).High (x1).High)⟩ : Span) (.agg (setCh [[.int .i64 0], [.int .i64 0]] [(0, .int .i64 (max64 (x0).Low (x1).Low)), (1, .int .i64 (min64 (x0).High (x1).High))]).flatten.toArray) := RV_build rfl (rep_pair (rfl) (rep_last (rfl)))
 generalize j1 : (Value.agg (setCh [[.int .i64 0], [.int .i64 0]] [(0, .int .i64 (max64 (x0).Low (x1).Low)), (1, .int .i64 (min64 (x0).High (x1).High))]).flatten.toArray) = u0 at o0
 refine EL_p u0 (j1 ▸ P_build (vs := [(0, .int .i64 (max64 (x0).Low (x1).Low)), (1, .int .i64 (min64 (x0).High (x1).High))]) [[.int .i64 0], [.int .i64 0]] lay_137 rfl rfl (.cons rfl (.cons rfl .nil)) ⟨⟨_, rfl, rfl⟩, ⟨⟨_, rfl, rfl⟩, trivial⟩⟩) rfl ?_
 refine EL_do .plain rfl (D_storeOc (g := g3) (v := u0) Try.sizeOf137 rfl b3 rfl o0 fun o3 u3 hs b13 cb => ?_)
 clear cb
 have hfr := hfr.stp hs
 refine EL_nil (thn_n (E_ret ?_))
 obtain rfl := sinj h
 obtain ⟨ad14, cv14, hp14, z2, cr14⟩ := ob_read Try.isAgg137 Try.sizeOf137 b13
 exact endm_c rfl rfl ((show _ = p3 from rfl).trans hp14) z2 ⟨_, hfr, cr14⟩
def f157 (x0 : Span) (x1 : Int) : Option (Bool) :=
 Option.bind (α := Bool) (
  bif (decide (x1 ≥ (x0).Low)) then
   some ((decide (x1 ≤ (x0).High)))
  else
   some (false)
  ) fun u0 =>
 some (u0)
theorem en157 : Enters Try.prog 157 := enters_of Try.func157 (by kernel_rfl) rfl
theorem wk157 {gI : Gh} {wI : World} {x0 : Span} {x1 : Int} {up0 : Value} (rp0 : RV gI.m wI x0 up0) {r : Bool} (h : f157 x0 x1 = some r) : Fn Try.prog 157 #[up0, .int .i64 (x1)] gI wI (fun _ _ v => v = .bool (r)) := by
 unfold f157 at h
 refine fn_of_E Try.func157 rfl (Nat.le_of_ble_eq_true rfl) fun g0 hm hfr => ?_
 have rp0 : RV g0.m wI x0 up0 := hm ▸ rp0
 show E _ 15 none _ _ _ _ _
 refine E_seq (E_region (EL_do .plain rfl (D_box (g := g0) rfl rp0 fun g1 w1 p1 hs q1 => ?_)))
 have hfr := hfr.ext hs
 refine EL_at (.bool false) rfl rfl ?_
 refine EL_nil (thn_n ?_)
 obtain ⟨u0, hx, h⟩ := bsome h
 refine E_join (fun e w => ∃ (g : Gh) , Fr gI wI g w ∧ e 4 = .bool (u0)) (fun Q' hQ => ?_) (fun i3 j3 hR => ?_)
 ·replace h := hx
  clear hx
  refine E_region (EL_mw (.int .i64 (x1)) rfl rfl ?_)
  refine EL_p (fPtr p1 0) (P_fieldAddr at_137_0 rfl (PT.ptr q1)) rfl ?_
  have q7 := PT_field (part_Span_0).1 q1
  refine EL_do .plain rfl (D_load (g := g1) Try.isAgg3 Try.sizeOf3 rfl q7 fun v8 r8 => ?_)
  obtain rfl := RV_int.1 r8
  refine EL_in (.bool ((decide (x1 ≥ (x0).Low)))) rfl rfl rfl rfl ?_
  refine EL_mw (.bool ((decide (x1 ≥ (x0).Low)))) rfl rfl ?_
  rcases csome h with ⟨o0, h⟩ | ⟨o0, h⟩
  ·refine EL_y (.int .i64 (x1)) (P_move rfl) rfl rfl o0 rfl ?_
   refine EL_y (fPtr p1 1) (P_fieldAddr at_137_1 rfl (PT.ptr q1)) rfl rfl o0 rfl ?_
   have z2 := PT_field (part_Span_1).1 q1
   refine EL_do (.yes2 rfl rfl o0) rfl (D_load (g := g1) Try.isAgg3 Try.sizeOf3 rfl z2 fun o3 d3 => ?_)
   obtain rfl := RV_int.1 d3
   refine EL_y (.bool ((decide (x1 ≤ (x0).High)))) (P_int rfl rfl rfl) rfl rfl o0 rfl ?_
   refine EL_p (.bool ((decide (x1 ≤ (x0).High)))) (P_pick (b := (decide (x1 ≥ (x0).Low))) rfl (pick_t o0 rfl)) rfl ?_
   refine EL_at (.bool ((decide (x1 ≤ (x0).High)))) rfl rfl ?_
   refine EL_nil ?_
   obtain rfl := sinj h
   exact hQ _ _ ⟨g1, hfr, rfl⟩
  ·refine EL_s rfl rfl o0 rfl rfl ?_
   iterate 3 refine EL_s rfl rfl o0 rfl rfl ?_
   refine EL_p (.bool false) (P_pick (b := (decide (x1 ≥ (x0).Low))) rfl (pick_f o0 rfl)) rfl ?_
   refine EL_at (.bool false) rfl rfl ?_
   refine EL_nil ?_
   obtain rfl := sinj h
   exact hQ _ _ ⟨g1, hfr, rfl⟩
 ·clear hx
  obtain ⟨u3, hfr, j1⟩ := hR
  refine E_ret ?_
  obtain rfl := sinj h
  exact end1 rfl rfl (show _ = .bool (u0) from j1) ⟨_, hfr, rfl⟩
def f160 (x0 : Int) (z0 : Int) (z1 : Int) : Option (Bool) :=
 Option.bind (α := Bool) (
  bif (decide (x0 < z0)) then
   some (true)
  else
   some ((decide (x0 > z1)))
  ) fun o0 =>
 some (o0)
theorem en160 : Enters Try.prog 160 := enters_of Try.func160 (by kernel_rfl) rfl
theorem wk160 {gI : Gh} {wI : World} {x0 : Int} {z0 : Int} {z1 : Int} {pf0 : Value} (qf0 : PT gI.m wI z0 pf0) {pf1 : Value} (qf1 : PT gI.m wI z1 pf1) {r : Bool} (h : f160 x0 z0 z1 = some r) : Fn Try.prog 160 #[.int .i64 (x0), pf0, pf1] gI wI (fun _ _ v => v = .bool (r)) := by
 unfold f160 at h
 refine fn_of_E Try.func160 rfl (Nat.le_of_ble_eq_true rfl) fun g0 hm hfr => ?_
 have qf0 : PT g0.m wI z0 pf0 := hm ▸ qf0
 have qf1 : PT g0.m wI z1 pf1 := hm ▸ qf1
 show E _ 13 none _ _ _ _ _
 refine E_seq (E_region (EL_at (.bool false) rfl rfl ?_))
 refine EL_nil (thn_n ?_)
 obtain ⟨o0, hx, h⟩ := bsome h
 refine E_join (fun e w => ∃ (g : Gh) , Fr gI wI g w ∧ e 4 = .bool (o0)) (fun Q' hQ => ?_) (fun j1 w7 hR => ?_)
 ·replace h := hx
  clear hx
  refine E_region (EL_mw (.int .i64 (x0)) rfl rfl ?_)
  refine EL_do .plain rfl (D_load (g := g0) Try.isAgg3 Try.sizeOf3 rfl qf0 fun v4 r4 => ?_)
  obtain rfl := RV_int.1 r4
  refine EL_in (.bool ((decide (x0 < z0)))) rfl rfl rfl rfl ?_
  refine EL_mw (.bool ((decide (x0 < z0)))) rfl rfl ?_
  rcases csome h with ⟨hc5, h⟩ | ⟨hc5, h⟩
  ·refine EL_s rfl rfl hc5 rfl rfl ?_
   refine EL_s rfl rfl hc5 rfl rfl ?_
   refine EL_s rfl rfl hc5 rfl rfl ?_
   refine EL_p (.bool true) (P_pick (b := (decide (x0 < z0))) rfl (pick_t hc5 rfl)) rfl ?_
   refine EL_at (.bool true) rfl rfl ?_
   refine EL_nil ?_
   obtain rfl := sinj h
   exact hQ _ _ ⟨g0, hfr, rfl⟩
  ·refine EL_y (.int .i64 (x0)) (P_move rfl) rfl rfl hc5 rfl ?_
   refine EL_do (.yes2 rfl rfl hc5) rfl (D_load (g := g0) Try.isAgg3 Try.sizeOf3 rfl qf1 fun v6 r6 => ?_)
   obtain rfl := RV_int.1 r6
   refine EL_y (.bool ((decide (x0 > z1)))) (P_int rfl rfl rfl) rfl rfl hc5 rfl ?_
   refine EL_p (.bool ((decide (x0 > z1)))) (P_pick (b := (decide (x0 < z0))) rfl (pick_f hc5 rfl)) rfl ?_
   refine EL_at (.bool ((decide (x0 > z1)))) rfl rfl ?_
   refine EL_nil ?_
   obtain rfl := sinj h
   exact hQ _ _ ⟨g0, hfr, rfl⟩
 ·clear hx
  obtain ⟨g7, hfr, u0⟩ := hR
  refine E_ret ?_
  obtain rfl := sinj h
  exact end1 rfl rfl (show _ = .bool (o0) from u0) ⟨_, hfr, rfl⟩
def f176 (x0 : List FaultDamage) (x1 : FaultDamage → Option Bool) : Option (Int) :=
 jn (σ := Unit) (fun _ =>
  some ((-1 : Int))
  ) fun k18 =>
 lp (σ := Int) (fun k19 o0 =>
  bif (decide (o0 < ((x0).length : Int))) then
   jn (σ := Unit) (fun _ =>
    k19 ((w64 (o0 + (1 : Int))))
    ) fun k28 =>
   (idx x0 o0).bind fun x5 =>
   (x1 x5).bind fun i6 =>
   bif i6 then
    some (o0)
   else
    k28 ()
  else
   k18 ()
  ) big ((0 : Int))
theorem en176 : Enters Try.prog 176 := enters_of Try.func176 (by kernel_rfl) rfl
theorem wk176 {gI : Gh} {wI : World} {x0 : List FaultDamage} {x1 : FaultDamage → Option Bool} {up0 : Value} (rp0 : RV gI.m wI x0 up0) {up1 : Value} (rp1 : FnV1 Try.prog x1 up1 gI wI) {r : Int} (h : f176 x0 x1 = some r) : Fn Try.prog 176 #[up0, up1] gI wI (fun _ _ v => v = .int .i64 (r)) := by
 unfold f176 at h
 refine fn_of_E Try.func176 rfl (Nat.le_of_ble_eq_true rfl) fun g0 hm hfr => ?_
 have rp0 : RV g0.m wI x0 up0 := hm ▸ rp0
 obtain ⟨ff1, fa1, fc1, rfl, fen1, fcl1⟩ := rp1
 show E _ 19 none _ _ _ _ _
 refine E_seq (E_region (EL_at (.int .i64 (0)) rfl rfl ?_))
 refine EL_nil (thn_n (E_joinC h (fun (s : Unit) e w => ∃ (g : Gh) , Fr gI wI g w) (fun X18 k18 j6 h => ?_) ?_))
 ·refine E_seq (E_region (EL_mw up0 rfl rfl ?_))
  refine EL_p (.int .i64 ((x0).length : Int)) (P_len Try.underlying47 rfl rp0) rfl ?_
  refine EL_mw (.int .i64 (0)) rfl rfl ?_
  refine EL_nil (thn_n (E_block ?_))
  refine E_lp h (fun (s : Int) e w => ∃ (g : Gh) , Fr gI wI g w ∧ e 0 = up0 ∧ RV g.m w (x0 : List FaultDamage) up0 ∧ e 1 = (.func (.func ff1) fa1 fc1) ∧ e 7 = .int .i64 (((x0).length : Int)) ∧ e 8 = .int .i64 (s)) ⟨g0, hfr, rfl, rp0, rfl, rfl, rfl⟩ (fun X19 k19 v6 => ?_)
  rintro o0 g7 m7 ⟨u3, hfr, i3, u0, j3, o3, j1⟩ h
  refine E_seq (E_region (EL_in (.bool ((decide (o0 < ((x0).length : Int))))) j1 o3 rfl rfl ?_))
  refine EL_nil (thn_n (E_seq ?_))
  rcases csome h with ⟨z2, h⟩ | ⟨z2, h⟩
  ·refine E_ct z2 rfl ?_
   refine E_skip (thn_n (E_joinC h (fun (s : Unit) e w => ∃ (g : Gh) , Fr gI wI g w ∧ e 0 = up0 ∧ RV g.m w (x0 : List FaultDamage) up0 ∧ e 1 = (.func (.func ff1) fa1 fc1) ∧ e 7 = .int .i64 (((x0).length : Int)) ∧ e 8 = .int .i64 (o0)) (fun X28 k28 x6 h => ?_) ?_))
   ·refine E_block ?_
    refine E_seq (E_region (EL_mv j1 rfl ?_))
    refine EL_at (.int .i64 (o0)) rfl rfl ?_
    refine EL_nil (thn_n (E_seq (E_region (EL_mv j3 rfl ?_))))
    refine EL_mv i3 rfl ?_
    refine EL_mw (.int .i64 (o0)) rfl rfl ?_
    obtain ⟨x5, z3, h⟩ := bsome h
    refine EL_p (ePtr up0 o0 5) (P_indexAddr (α := FaultDamage) Try.underlying47 Try.sizeOf37 rfl u0 rfl z3) rfl ?_
    have a7 := PT_idx u0 z3
    refine EL_do .plain rfl (D_load (g := u3) Try.isAgg37 Try.sizeOf37 rfl a7 fun b7 c7 => ?_)
    obtain ⟨i6, y6, h⟩ := bsome h
    refine EL_do .plain rfl (D_callv (g := u3) (vs := [b7]) rfl fen1 (.cons rfl .nil) (fcl1 _ _ hfr.ch _ _ _  c7 y6) fun d7 n7 o7 hs hr => ?_)
    have hfr := hfr.ext hs
    have u0 := u0.ext hs
    obtain rfl := RV_bool.1 hr
    refine EL_nil (thn_n ?_)
    rcases csome h with ⟨d3, h⟩ | ⟨d3, h⟩
    ·refine E_ct d3 rfl ?_
     refine E_seq (E_region (EL_mw (.int .i64 (o0)) rfl rfl ?_))
     refine EL_at (.int .i64 (o0)) rfl rfl ?_
     refine EL_nil (thn_n (E_ret (blk_r ?_)))
     refine thn_r ?_
     refine thn_r ?_
     refine blk_r ?_
     refine thn_r ?_
     obtain rfl := sinj h
     exact end1 rfl rfl (show _ = .int .i64 (o0) from rfl) ⟨_, hfr, rfl⟩
    ·refine E_cf d3 rfl ?_
     exact E_skip (blk_n (thn_n (x6 () _ _ ⟨d7, hfr, i3, u0, j3, o3, j1⟩ h)))
   ·rintro _ i7 u7 ⟨e7, hfr, z4, i5, l5, q5, t5⟩ h
    refine E_region (EL_in (.int .i64 ((w64 (o0 + (1 : Int))))) t5 rfl rfl rfl ?_)
    refine EL_mw (.int .i64 ((w64 (o0 + (1 : Int))))) rfl rfl ?_
    exact EL_nil (thn_n (v6 ((w64 (o0 + (1 : Int)))) _ _ ⟨e7, hfr, z4, i5, l5, q5, rfl⟩ h))
  ·refine E_cf z2 rfl ?_
   refine E_exit ?_
   refine thn_e ?_
   refine thn_e ?_
   refine blk_hit ?_
   exact thn_n (j6 () _ _ ⟨u3, hfr⟩ h)
 ·rintro _ j7 v7 ⟨c8, hfr⟩ h
  refine E_seq (E_region (EL_at (.int .i64 (-1)) rfl rfl ?_))
  refine EL_nil (thn_n (E_ret ?_))
  obtain rfl := sinj h
  exact end1 rfl rfl (show _ = .int .i64 (-1) from rfl) ⟨_, hfr, rfl⟩
def f177 (x0 : List FaultDamage) (x1 : Int) (x2 : Int) (x3 : FaultDamage → FaultDamage → Option Int) : Option ((List FaultDamage)) :=
 lp (σ := (List FaultDamage) × Int) (fun k1 (v6, d3) =>
  jn (σ := Unit) (fun _ =>
   Option.bind (α := (List FaultDamage)) (
    lp (σ := (List FaultDamage) × Int) (fun i8 (j1, o0) =>
     jn (σ := Unit) (fun _ =>
      Option.bind (α := (List FaultDamage)) (
       (idx j1 (w64 (o0 - (1 : Int)))).bind fun x6 =>
       (idx j1 o0).bind fun m7 =>
       (idx j1 o0).bind fun zA =>
       (idx ((List.set j1 (Int.toNat o0) x6)) (w64 (o0 - (1 : Int)))).bind fun aB =>
       some ((List.set ((List.set j1 (Int.toNat o0) x6)) (Int.toNat (w64 (o0 - (1 : Int)))) m7))
       ) fun z4 =>
      i8 (z4, (w64 (o0 - (1 : Int))))
      ) fun k8 =>
     Option.bind (α := Bool) (
      bif (decide (o0 > x1)) then
       (idx j1 o0).bind fun l8 =>
       (idx j1 (w64 (o0 - (1 : Int)))).bind fun m8 =>
       (x3 l8 m8).bind fun t5 =>
       some ((decide (t5 < (0 : Int))))
      else
       some (false)
      ) fun j3 =>
     bif j3 then
      k8 ()
     else
      some (j1)
     ) big (v6, d3)
    ) fun i5 =>
   k1 (i5, (w64 (d3 + (1 : Int))))
   ) fun k4 =>
  bif (decide (d3 < x2)) then
   k4 ()
  else
   some (v6)
  ) big (x0, (w64 (x1 + (1 : Int))))
theorem en177 : Enters Try.prog 177 := enters_of Try.func177 (by kernel_rfl) rfl
theorem wk177 {iI : Nat} {gI : Gh} {wI : World} {x0 : List FaultDamage} {x1 : Int} {x2 : Int} {x3 : FaultDamage → FaultDamage → Option Int} {up0 : Value} (mp0 : OM iI gI wI 37 x0 up0) {up3 : Value} (rp3 : FnV2 Try.prog x3 up3 gI wI) {r : (List FaultDamage)} (h : f177 x0 x1 x2 x3 = some r) : FnM Try.prog 177 #[up0, .int .i64 (x1), .int .i64 (x2), up3] iI gI wI (fun g w v => v = .tuple #[] ∧ OM iI g w 37 r up0) := by
 unfold f177 at h
 refine fnM_of_E Try.func177 rfl (Nat.le_of_ble_eq_true rfl) fun g0 hm hfr => ?_
 have oA := mp0
 replace mp0 := mp0.enter
 rw [← hm] at mp0
 replace hm : g0.m = gI.m := by rw [hm]
 obtain ⟨ff3, fa3, fc3, rfl, fen3, fcl3⟩ := rp3
 show E _ 53 none _ _ _ _ _
 refine E_seq (E_region (EL_mw (.int .i64 (x1)) rfl rfl ?_))
 refine EL_in (.int .i64 ((w64 (x1 + (1 : Int))))) rfl rfl rfl rfl ?_
 refine EL_at (.int .i64 ((w64 (x1 + (1 : Int))))) rfl rfl ?_
 refine EL_nil (thn_n (E_block ?_))
 refine E_lp h (fun (s : (List FaultDamage) × Int) e w => ∃ (g : Gh) , FrM iI gI wI g w ∧ e 0 = up0 ∧ OM 1 g w 37 (s.1 : List FaultDamage) up0 ∧ e 1 = .int .i64 (x1) ∧ e 2 = .int .i64 (x2) ∧ e 3 = (.func (.func ff3) fa3 fc3) ∧ e 8 = .int .i64 (s.2)) ⟨g0, hfr, rfl, mp0, rfl, rfl, rfl, rfl⟩ (fun X1 k1 hk1 => ?_)
 rintro ⟨v6, d3⟩ cD w2 ⟨g2, hfr, bB, n8, cB, o8, dB, q8⟩ h
 refine E_joinC h (fun (s : Unit) e w => ∃ (g : Gh) , FrM iI gI wI g w ∧ e 0 = up0 ∧ OM 1 g w 37 (v6 : List FaultDamage) up0 ∧ e 1 = .int .i64 (x1) ∧ e 2 = .int .i64 (x2) ∧ e 3 = (.func (.func ff3) fa3 fc3) ∧ e 8 = .int .i64 (d3)) (fun X4 k4 hk4 h => ?_) ?_
 ·refine E_seq (E_region (EL_mv q8 rfl ?_))
  refine EL_mv o8 rfl ?_
  refine EL_in (.bool ((decide (d3 < x2)))) rfl rfl rfl rfl ?_
  refine EL_nil (thn_n ?_)
  rcases csome h with ⟨hc5, h⟩ | ⟨hc5, h⟩
  ·refine E_ct hc5 rfl ?_
   exact E_skip (thn_n (hk4 () _ _ ⟨g2, hfr, bB, n8, cB, o8, dB, q8⟩ h))
  ·refine E_cf hc5 rfl ?_
   refine E_exit ?_
   refine thn_e ?_
   refine thn_e ?_
   refine blk_hit ?_
   obtain rfl := sinj h
   exact end0n rfl rfl ⟨_, hfr, rfl, oA.back n8⟩
 ·rintro _ eD w6 ⟨g6, hfr, eB, iB, jB, kB, lB, r8⟩ h
  obtain ⟨i5, hx, h⟩ := bsome h
  refine E_join (fun e w => ∃ (g : Gh) , FrM iI gI wI g w ∧ e 0 = up0 ∧ OM 1 g w 37 (i5 : List FaultDamage) up0 ∧ e 1 = .int .i64 (x1) ∧ e 2 = .int .i64 (x2) ∧ e 3 = (.func (.func ff3) fa3 fc3) ∧ e 8 = .int .i64 (d3)) (fun Q' hQ => ?_) (fun iC qC hR => ?_)
  ·replace h := hx
   clear hx
   refine E_block ?_
   refine E_seq (E_region (EL_mv r8 rfl ?_))
   refine EL_at (.int .i64 (d3)) rfl rfl ?_
   refine EL_nil (thn_n (E_block ?_))
   refine E_lp h (fun (s : (List FaultDamage) × Int) e w => ∃ (g : Gh) , FrM iI gI wI g w ∧ e 0 = up0 ∧ OM 1 g w 37 (s.1 : List FaultDamage) up0 ∧ e 1 = .int .i64 (x1) ∧ e 2 = .int .i64 (x2) ∧ e 3 = (.func (.func ff3) fa3 fc3) ∧ e 8 = .int .i64 (d3) ∧ e 9 = .int .i64 (s.2)) ⟨g6, hfr, eB, iB, jB, kB, lB, r8, rfl⟩ (fun X297 i8 pA => ?_)
   rintro ⟨j1, o0⟩ jC rC ⟨t8, hfr, l5, z2, q5, a7, x5, b7, o3⟩ h
   refine E_joinC h (fun (s : Unit) e w => ∃ (g : Gh) , FrM iI gI wI g w ∧ e 0 = up0 ∧ OM 1 g w 37 (j1 : List FaultDamage) up0 ∧ e 1 = .int .i64 (x1) ∧ e 2 = .int .i64 (x2) ∧ e 3 = (.func (.func ff3) fa3 fc3) ∧ e 8 = .int .i64 (d3) ∧ e 9 = .int .i64 (o0)) (fun X411 k8 qA h => ?_) ?_
   ·obtain ⟨j3, hx, h⟩ := bsome h
    refine E_join (fun e w => ∃ (g : Gh) , FrM iI gI wI g w ∧ e 0 = up0 ∧ OM 1 g w 37 (j1 : List FaultDamage) up0 ∧ e 1 = .int .i64 (x1) ∧ e 2 = .int .i64 (x2) ∧ e 3 = (.func (.func ff3) fa3 fc3) ∧ e 8 = .int .i64 (d3) ∧ e 9 = .int .i64 (o0) ∧ e 34 = .bool (j3)) (fun Q' hQ => ?_) (fun kC tC hR => ?_)
    ·replace h := hx
     clear hx
     rcases csome h with ⟨u0, h⟩ | ⟨u0, h⟩
     ·obtain ⟨l8, o7, h⟩ := bsome h
      refine L_loadM (x := .tmp 25) Try.isAgg37 Try.sizeOf37 z2 o7 fun v8 mB rA => ?_
      obtain ⟨m8, u7, h⟩ := bsome h
      refine L_loadM (x := .tmp 30) Try.isAgg37 Try.sizeOf37 z2 u7 fun x8 nB sA => ?_
      obtain ⟨t5, uA, h⟩ := bsome h
      refine E_drawL (g := t8) (n := 17) [(14, (fun v g w => v = .int .i64 (t5)))] [0, 1, 2, 3, 4, 5, 6, 7, 8, 9, 10, 11, 12, 13, 14, 15, 16] rfl mixed (by kernel_rfl) (⟨fun _ => up_eq _, trivial⟩) ?_
      refine L_p (.int .i64 (o0)) rfl rfl (P_move o3) ?_
      refine L_p (.int .i64 (x1)) rfl rfl (P_move q5) ?_
      refine L_p (.bool ((decide (o0 > x1)))) rfl rfl (P_int rfl rfl rfl) ?_
      refine L_p (.bool ((decide (o0 > x1)))) rfl rfl (P_move rfl) ?_
      refine L_y ((.func (.func ff3) fa3 fc3)) rfl rfl rfl rfl u0 (P_move x5) ?_
      refine L_y up0 rfl rfl rfl rfl u0 (P_move l5) ?_
      refine L_y (.int .i64 (o0)) rfl rfl rfl rfl u0 (P_move o3) ?_
      refine L_y (ePtr up0 o0 5) rfl rfl rfl rfl u0 (P_indexAddrM (α := FaultDamage) Try.underlying47 Try.sizeOf37 rfl z2 rfl o7) ?_
      refine L_ld (c := v8) rfl rfl (.yes2 rfl rfl u0) (fun _ _ h => ⟨h.ch, fun b hb _ => h.below.block b hb⟩) rA rfl ?_
      refine L_y up0 rfl rfl rfl rfl u0 (P_move l5) ?_
      refine L_y (.int .i64 (o0)) rfl rfl rfl rfl u0 (P_move o3) ?_
      refine L_y (.int .i64 ((w64 (o0 - (1 : Int))))) rfl rfl rfl rfl u0 (P_int rfl rfl rfl) ?_
      refine L_y (ePtr up0 (w64 (o0 - (1 : Int))) 5) rfl rfl rfl rfl u0 (P_indexAddrM (α := FaultDamage) Try.underlying47 Try.sizeOf37 rfl z2 rfl u7) ?_
      refine L_ld (c := x8) rfl rfl (.yes2 rfl rfl u0) (fun _ _ h => ⟨h.ch, fun b hb _ => h.below.block b hb⟩) sA rfl ?_
      refine L_do (φ := fun v g w => v = .int .i64 (t5)) rfl rfl (.yes2 rfl rfl u0) (fun g w hd => D_callv (g := g) (vs := [v8, x8]) rfl fen3 (.cons rfl (.cons rfl .nil)) (fcl3 _ _ (hfr.ext hd.1).ch _ _ _ _ _  (mB.ext hd.1) (nB.ext hd.1) uA) fun g' w' v hs hr => ⟨g', hs, RV_int.1 hr⟩) (fun uC hv => ?_)
      obtain ⟨_, _, _, rfl⟩ := hv
      refine L_y (.bool ((decide (t5 < (0 : Int))))) rfl rfl rfl rfl u0 (P_int rfl rfl rfl) ?_
      refine L_p (.bool ((decide (t5 < (0 : Int))))) rfl rfl (P_pick (b := (decide (o0 > x1))) rfl (pick_t u0 rfl)) ?_
      refine L_nl fun oB vC hs => ?_
      have hfr := hfr.ext hs
      have z2 := z2.ext hs
      clear hs
      refine EL_nil ?_
      obtain rfl := sinj h
      exact hQ _ _ ⟨oB, hfr, l5, z2, q5, a7, x5, b7, o3, rfl⟩
     ·refine E_drawL (g := t8) (n := 17) [] [0, 1, 2, 3, 4, 5, 6, 7, 8, 9, 10, 11, 12, 13, 14, 15, 16] rfl mixed (by kernel_rfl) trivial ?_
      refine L_p (.int .i64 (o0)) rfl rfl (P_move o3) ?_
      refine L_p (.int .i64 (x1)) rfl rfl (P_move q5) ?_
      refine L_p (.bool ((decide (o0 > x1)))) rfl rfl (P_int rfl rfl rfl) ?_
      refine L_p (.bool ((decide (o0 > x1)))) rfl rfl (P_move rfl) ?_
      iterate 12 refine L_s rfl rfl rfl u0 rfl ?_
      refine L_p (.bool false) rfl rfl (P_pick (b := (decide (o0 > x1))) rfl (pick_f u0 rfl)) ?_
      refine L_nl fun tB xC hs => ?_
      have hfr := hfr.ext hs
      have z2 := z2.ext hs
      clear hs
      refine EL_nil ?_
      obtain rfl := sinj h
      exact hQ _ _ ⟨tB, hfr, l5, z2, q5, a7, x5, b7, o3, rfl⟩
    ·clear hx
     obtain ⟨y8, hfr, c7, d7, e7, g7, i7, j7, a9, j6⟩ := hR
     rcases csome h with ⟨y6, h⟩ | ⟨y6, h⟩
     ·refine E_cond_true (Eq.trans (show ev _ _ = .bool (j3) from j6) (congrArg Value.bool y6)) ?_
      exact E_skip (thn_n (qA () _ _ ⟨y8, hfr, c7, d7, e7, g7, i7, j7, a9⟩ h))
     ·refine E_cond_false (Eq.trans (show ev _ _ = .bool (j3) from j6) (congrArg Value.bool y6)) ?_
      refine E_exit ?_
      refine thn_e ?_
      refine thn_e ?_
      refine blk_hit ?_
      refine blk_n ?_
      obtain rfl := sinj h
      exact hQ _ _ ⟨y8, hfr, c7, d7, e7, g7, i7, j7⟩
   ·rintro _ lC vB ⟨d9, hfr, u3, i3, e9, i9, k9, l9, z3⟩ h
    obtain ⟨z4, hx, h⟩ := bsome h
    refine E_join (fun e w => ∃ (g : Gh) , FrM iI gI wI g w ∧ e 0 = up0 ∧ OM 1 g w 37 (z4 : List FaultDamage) up0 ∧ e 1 = .int .i64 (x1) ∧ e 2 = .int .i64 (x2) ∧ e 3 = (.func (.func ff3) fa3 fc3) ∧ e 8 = .int .i64 (d3) ∧ e 9 = .int .i64 (o0)) (fun Q' hQ => ?_) (fun mC yC hR => ?_)
    ·replace h := hx
     clear hx
     refine E_block ?_
     obtain ⟨x6, v7, h⟩ := bsome h
     refine L_loadM (x := .tmp 45) Try.isAgg37 Try.sizeOf37 i3 v7 fun xB n7 xA => ?_
     obtain ⟨m7, c8, h⟩ := bsome h
     refine L_loadM (x := .tmp 49) Try.isAgg37 Try.sizeOf37 i3 c8 fun yB i6 yA => ?_
     obtain ⟨zA, e8, h⟩ := bsome h
     refine E_drawTL (g := d9) (n := 15) [2, 3, 4] [] [0, 1, 2, 3, 4, 5, 6, 7, 8, 9, 10, 11, 12, 13, 14] rfl mixed (by kernel_rfl) trivial rfl ?_
     refine L_p up0 rfl rfl (P_move u3) ?_
     refine L_p (.int .i64 (o0)) rfl rfl (P_move z3) ?_
     refine L_purL (c := up0) rfl rfl .plain (P_move u3) ?_
     refine L_purL (c := .int .i64 (o0)) rfl rfl .plain (P_move z3) ?_
     refine L_purL (c := .int .i64 ((w64 (o0 - (1 : Int))))) rfl rfl .plain (P_int rfl rfl rfl) ?_
     refine L_p up0 rfl rfl (P_move u3) ?_
     refine L_p (.int .i64 (o0)) rfl rfl (P_move z3) ?_
     refine L_p (.int .i64 ((w64 (o0 - (1 : Int))))) rfl rfl (P_int rfl rfl rfl) ?_
     refine L_p (ePtr up0 (w64 (o0 - (1 : Int))) 5) rfl rfl (P_indexAddrM (α := FaultDamage) Try.underlying47 Try.sizeOf37 rfl i3 rfl v7) ?_
     refine L_ld (c := xB) rfl rfl .plain (fun _ _ h => ⟨h.ch, fun b hb _ => h.below.block b hb⟩) xA rfl ?_
     refine L_p up0 rfl rfl (P_move u3) ?_
     refine L_p (.int .i64 (o0)) rfl rfl (P_move z3) ?_
     refine L_p (ePtr up0 o0 5) rfl rfl (P_indexAddrM (α := FaultDamage) Try.underlying47 Try.sizeOf37 rfl i3 rfl c8) ?_
     refine L_ld (c := yB) rfl rfl .plain (fun _ _ h => ⟨h.ch, fun b hb _ => h.below.block b hb⟩) yA rfl ?_
     refine L_p (ePtr up0 o0 5) rfl rfl (P_indexAddrM (α := FaultDamage) Try.underlying47 Try.sizeOf37 rfl i3 rfl e8) ?_
     refine L_nl fun n9 zB hs => ?_
     have hlt : Lt d9.m vB n9 zB := hs.ch
     have hfr := hfr.ext hs
     have i3 := i3.ext hs
     have n7 := n7.ext hs
     have i6 := i6.ext hs
     clear hs
     refine TL_do hlt.w .plain rfl (D_storeM (g := n9) (α := FaultDamage) (a' := x6) Try.sizeOf37 rfl i3 e8 rfl n7 fun aC aD hs b582 => ?_)
     have hfr := hfr.stp hs
     have hlt := hlt.stp hs
     have i6 := i6.stp hs
     obtain ⟨aB, g8, h⟩ := bsome h
     refine TL_pur hlt.w (v := ePtr up0 (w64 (o0 - (1 : Int))) 5) (P_indexAddrM (α := FaultDamage) Try.underlying47 Try.sizeOf37 rfl b582 rfl g8) .plain rfl ?_
     refine TL_do hlt.w .plain rfl (D_storeM (g := aC) (α := FaultDamage) (a' := m7) Try.sizeOf37 rfl b582 g8 rfl i6 fun cC bD hs b584 => ?_)
     have hfr := hfr.stp hs
     have hlt := hlt.stp hs
     refine TL_nil hlt.w ?_
     clear hlt
     refine blk_n ?_
     obtain rfl := sinj h
     exact hQ _ _ ⟨cC, hfr, u3, b584, e9, i9, k9, l9, z3⟩
    ·clear hx
     obtain ⟨dC, hfr, o9, t9, u9, y9, z9, bA, gA⟩ := hR
     refine E_region (EL_mv gA rfl ?_)
     refine EL_in (.int .i64 ((w64 (o0 - (1 : Int))))) rfl rfl rfl rfl ?_
     refine EL_at (.int .i64 ((w64 (o0 - (1 : Int))))) rfl rfl ?_
     exact EL_nil (thn_n (pA (z4, (w64 (o0 - (1 : Int)))) _ _ ⟨dC, hfr, o9, t9, u9, y9, z9, bA, rfl⟩ h))
  ·clear hx
   obtain ⟨eC, hfr, iA, jA, kA, lA, mA, nA⟩ := hR
   refine E_region (EL_mv nA rfl ?_)
   refine EL_in (.int .i64 ((w64 (d3 + (1 : Int))))) rfl rfl rfl rfl ?_
   refine EL_at (.int .i64 ((w64 (d3 + (1 : Int))))) rfl rfl ?_
   exact EL_nil (thn_n (hk1 (i5, (w64 (d3 + (1 : Int)))) _ _ ⟨eC, hfr, iA, jA, kA, lA, mA, rfl⟩ h))
def f183 (x0 : Span) (x1 : Span) : Option (Span) :=
 some ((⟨(w64 ((x0).Low + (x1).Low)), (w64 ((x0).High + (x1).High))⟩ : Span))
theorem en183 : Enters Try.prog 183 := enters_of Try.func183 (by kernel_rfl) rfl
theorem wk183 {gI : Gh} {wI : World} {x0 : Span} {x1 : Span} {up0 : Value} (rp0 : RV gI.m wI x0 up0) {up1 : Value} (rp1 : RV gI.m wI x1 up1) {r : Span} (h : f183 x0 x1 = some r) : Fn Try.prog 183 #[up0, up1] gI wI (fun m w v => RV m w (r) v) := by
 unfold f183 at h
 refine fn_of_E Try.func183 rfl (Nat.le_of_ble_eq_true rfl) fun g0 hm hfr => ?_
 have rp0 : RV g0.m wI x0 up0 := hm ▸ rp0
 have rp1 : RV g0.m wI x1 up1 := hm ▸ rp1
 show E _ 16 none _ _ _ _ _
 refine E_seq (E_region (EL_do .plain rfl (D_box (g := g0) rfl rp0 fun g1 w1 p1 hs q1 => ?_)))
 have hfr := hfr.ext hs
 have rp1 := rp1.ext hs
 refine EL_do .plain rfl (D_box (g := g1) rfl rp1 fun g2 w2 p2 hs q2 => ?_)
 have hfr := hfr.ext hs
 have q1 := q1.ext hs
 refine EL_do .plain rfl (D_allocOc (g := g2) 2004 (⟨0, 0⟩ : Span) Try.zeroValue137 (fun m w => ⟨_, (rep_two rep_int rep_int), rfl⟩) fun g3 w3 p3 hs b3 cb => ?_)
 have hfr := hfr.stp hs
 have q1 := q1.stp hs
 have q2 := q2.stp hs
 clear cb
 refine EL_nil (thn_n (E_seq (E_region (EL_p (fPtr p1 0) (P_fieldAddr at_137_0 rfl (PT.ptr q1)) rfl ?_))))
 have q4 := PT_field (part_Span_0).1 q1
 refine EL_do .plain rfl (D_load (g := g3) Try.isAgg3 Try.sizeOf3 rfl q4 fun v5 r5 => ?_)
 obtain rfl := RV_int.1 r5
 refine EL_p (fPtr p2 0) (P_fieldAddr at_137_0 rfl (PT.ptr q2)) rfl ?_
 have q6 := PT_field (part_Span_0).1 q2
 refine EL_do .plain rfl (D_load (g := g3) Try.isAgg3 Try.sizeOf3 rfl q6 fun v7 r7 => ?_)
 obtain rfl := RV_int.1 r7
 refine EL_in (.int .i64 ((w64 ((x0).Low + (x1).Low)))) rfl rfl rfl rfl ?_
 refine EL_p (fPtr p1 1) (P_fieldAddr at_137_1 rfl (PT.ptr q1)) rfl ?_
 have q8 := PT_field (part_Span_1).1 q1
 refine EL_do .plain rfl (D_load (g := g3) Try.isAgg3 Try.sizeOf3 rfl q8 fun v9 r9 => ?_)
 obtain rfl := RV_int.1 r9
 refine EL_p (fPtr p2 1) (P_fieldAddr at_137_1 rfl (PT.ptr q2)) rfl ?_
 have d3 := PT_field (part_Span_1).1 q2
 refine EL_do .plain rfl (D_load (g := g3) Try.isAgg3 Try.sizeOf3 rfl d3 fun j3 i3 => ?_)
 obtain rfl := RV_int.1 i3
 refine EL_in (.int .i64 ((w64 ((x0).High + (x1).High)))) rfl rfl rfl rfl ?_
 have o0 : RV g3.m w3 (⟨(w64 ((x0).Low + (x1).Low)), (w64 ((x0).High + (x1).High))⟩ : Span) (.agg (setCh [[.int .i64 0], [.int .i64 0]] [(0, .int .i64 ((w64 ((x0).Low + (x1).Low)))), (1, .int .i64 ((w64 ((x0).High + (x1).High))))]).flatten.toArray) := RV_build rfl (rep_pair (rfl) (rep_last (rfl)))
 generalize j1 : (Value.agg (setCh [[.int .i64 0], [.int .i64 0]] [(0, .int .i64 ((w64 ((x0).Low + (x1).Low)))), (1, .int .i64 ((w64 ((x0).High + (x1).High))))]).flatten.toArray) = u0 at o0
 refine EL_p u0 (j1 ▸ P_build (vs := [(0, .int .i64 ((w64 ((x0).Low + (x1).Low)))), (1, .int .i64 ((w64 ((x0).High + (x1).High))))]) [[.int .i64 0], [.int .i64 0]] lay_137 rfl rfl (.cons rfl (.cons rfl .nil)) ⟨⟨_, rfl, rfl⟩, ⟨⟨_, rfl, rfl⟩, trivial⟩⟩) rfl ?_
 refine EL_do .plain rfl (D_storeOc (g := g3) (v := u0) Try.sizeOf137 rfl b3 rfl o0 fun o3 u3 hs b13 cb => ?_)
 clear cb
 have hfr := hfr.stp hs
 refine EL_nil (thn_n (E_ret ?_))
 obtain rfl := sinj h
 obtain ⟨ad14, cv14, hp14, z2, cr14⟩ := ob_read Try.isAgg137 Try.sizeOf137 b13
 exact endm_c rfl rfl ((show _ = p3 from rfl).trans hp14) z2 ⟨_, hfr, cr14⟩
def f201 (x0 : List SeamPart) (x1 : SeamPart → Option Bool) : Option (Int) :=
 jn (σ := Unit) (fun _ =>
  some ((-1 : Int))
  ) fun k18 =>
 lp (σ := Int) (fun k19 o0 =>
  bif (decide (o0 < ((x0).length : Int))) then
   jn (σ := Unit) (fun _ =>
    k19 ((w64 (o0 + (1 : Int))))
    ) fun k28 =>
   (idx x0 o0).bind fun x5 =>
   (x1 x5).bind fun i6 =>
   bif i6 then
    some (o0)
   else
    k28 ()
  else
   k18 ()
  ) big ((0 : Int))
theorem en201 : Enters Try.prog 201 := enters_of Try.func201 (by kernel_rfl) rfl
theorem wk201 {gI : Gh} {wI : World} {x0 : List SeamPart} {x1 : SeamPart → Option Bool} {up0 : Value} (rp0 : RV gI.m wI x0 up0) {up1 : Value} (rp1 : FnV1 Try.prog x1 up1 gI wI) {r : Int} (h : f201 x0 x1 = some r) : Fn Try.prog 201 #[up0, up1] gI wI (fun _ _ v => v = .int .i64 (r)) := by
 unfold f201 at h
 refine fn_of_E Try.func201 rfl (Nat.le_of_ble_eq_true rfl) fun g0 hm hfr => ?_
 have rp0 : RV g0.m wI x0 up0 := hm ▸ rp0
 obtain ⟨ff1, fa1, fc1, rfl, fen1, fcl1⟩ := rp1
 show E _ 19 none _ _ _ _ _
 refine E_seq (E_region (EL_at (.int .i64 (0)) rfl rfl ?_))
 refine EL_nil (thn_n (E_joinC h (fun (s : Unit) e w => ∃ (g : Gh) , Fr gI wI g w) (fun X18 k18 j6 h => ?_) ?_))
 ·refine E_seq (E_region (EL_mw up0 rfl rfl ?_))
  refine EL_p (.int .i64 ((x0).length : Int)) (P_len Try.underlying141 rfl rp0) rfl ?_
  refine EL_mw (.int .i64 (0)) rfl rfl ?_
  refine EL_nil (thn_n (E_block ?_))
  refine E_lp h (fun (s : Int) e w => ∃ (g : Gh) , Fr gI wI g w ∧ e 0 = up0 ∧ RV g.m w (x0 : List SeamPart) up0 ∧ e 1 = (.func (.func ff1) fa1 fc1) ∧ e 7 = .int .i64 (((x0).length : Int)) ∧ e 8 = .int .i64 (s)) ⟨g0, hfr, rfl, rp0, rfl, rfl, rfl⟩ (fun X19 k19 v6 => ?_)
  rintro o0 g7 m7 ⟨u3, hfr, i3, u0, j3, o3, j1⟩ h
  refine E_seq (E_region (EL_in (.bool ((decide (o0 < ((x0).length : Int))))) j1 o3 rfl rfl ?_))
  refine EL_nil (thn_n (E_seq ?_))
  rcases csome h with ⟨z2, h⟩ | ⟨z2, h⟩
  ·refine E_ct z2 rfl ?_
   refine E_skip (thn_n (E_joinC h (fun (s : Unit) e w => ∃ (g : Gh) , Fr gI wI g w ∧ e 0 = up0 ∧ RV g.m w (x0 : List SeamPart) up0 ∧ e 1 = (.func (.func ff1) fa1 fc1) ∧ e 7 = .int .i64 (((x0).length : Int)) ∧ e 8 = .int .i64 (o0)) (fun X28 k28 x6 h => ?_) ?_))
   ·refine E_block ?_
    refine E_seq (E_region (EL_mv j1 rfl ?_))
    refine EL_at (.int .i64 (o0)) rfl rfl ?_
    refine EL_nil (thn_n (E_seq (E_region (EL_mv j3 rfl ?_))))
    refine EL_mv i3 rfl ?_
    refine EL_mw (.int .i64 (o0)) rfl rfl ?_
    obtain ⟨x5, z3, h⟩ := bsome h
    refine EL_p (ePtr up0 o0 3) (P_indexAddr (α := SeamPart) Try.underlying141 Try.sizeOf140 rfl u0 rfl z3) rfl ?_
    have a7 := PT_idx u0 z3
    refine EL_do .plain rfl (D_load (g := u3) Try.isAgg140 Try.sizeOf140 rfl a7 fun b7 c7 => ?_)
    obtain ⟨i6, y6, h⟩ := bsome h
    refine EL_do .plain rfl (D_callv (g := u3) (vs := [b7]) rfl fen1 (.cons rfl .nil) (fcl1 _ _ hfr.ch _ _ _  c7 y6) fun d7 n7 o7 hs hr => ?_)
    have hfr := hfr.ext hs
    have u0 := u0.ext hs
    obtain rfl := RV_bool.1 hr
    refine EL_nil (thn_n ?_)
    rcases csome h with ⟨d3, h⟩ | ⟨d3, h⟩
    ·refine E_ct d3 rfl ?_
     refine E_seq (E_region (EL_mw (.int .i64 (o0)) rfl rfl ?_))
     refine EL_at (.int .i64 (o0)) rfl rfl ?_
     refine EL_nil (thn_n (E_ret (blk_r ?_)))
     refine thn_r ?_
     refine thn_r ?_
     refine blk_r ?_
     refine thn_r ?_
     obtain rfl := sinj h
     exact end1 rfl rfl (show _ = .int .i64 (o0) from rfl) ⟨_, hfr, rfl⟩
    ·refine E_cf d3 rfl ?_
     exact E_skip (blk_n (thn_n (x6 () _ _ ⟨d7, hfr, i3, u0, j3, o3, j1⟩ h)))
   ·rintro _ i7 u7 ⟨e7, hfr, z4, i5, l5, q5, t5⟩ h
    refine E_region (EL_in (.int .i64 ((w64 (o0 + (1 : Int))))) t5 rfl rfl rfl ?_)
    refine EL_mw (.int .i64 ((w64 (o0 + (1 : Int))))) rfl rfl ?_
    exact EL_nil (thn_n (v6 ((w64 (o0 + (1 : Int)))) _ _ ⟨e7, hfr, z4, i5, l5, q5, rfl⟩ h))
  ·refine E_cf z2 rfl ?_
   refine E_exit ?_
   refine thn_e ?_
   refine thn_e ?_
   refine blk_hit ?_
   exact thn_n (j6 () _ _ ⟨u3, hfr⟩ h)
 ·rintro _ j7 v7 ⟨c8, hfr⟩ h
  refine E_seq (E_region (EL_at (.int .i64 (-1)) rfl rfl ?_))
  refine EL_nil (thn_n (E_ret ?_))
  obtain rfl := sinj h
  exact end1 rfl rfl (show _ = .int .i64 (-1) from rfl) ⟨_, hfr, rfl⟩
def f208 (x0 : List FaultDamage) (x1 : Int) (x2 : Int) (x3 : Int) (x4 : FaultDamage → FaultDamage → Option Int) : Option ((List FaultDamage)) :=
 lp (σ := (List FaultDamage) × Int) (fun k1 (u0, o0) =>
  jn (σ := Unit) (fun _ =>
   Option.bind (α := (List FaultDamage)) (
    (idx u0 (w64 (x2 + o0))).bind fun z3 =>
    (idx u0 (w64 (x1 + o0))).bind fun y44 =>
    (idx u0 (w64 (x1 + o0))).bind fun u7 =>
    (idx ((List.set u0 (Int.toNat (w64 (x1 + o0))) z3)) (w64 (x2 + o0))).bind fun v7 =>
    some ((List.set ((List.set u0 (Int.toNat (w64 (x1 + o0))) z3)) (Int.toNat (w64 (x2 + o0))) y44))
    ) fun d3 =>
   k1 (d3, (w64 (o0 + (1 : Int))))
   ) fun k4 =>
  bif (decide (o0 < x3)) then
   k4 ()
  else
   some (u0)
  ) big (x0, (0 : Int))
theorem en208 : Enters Try.prog 208 := enters_of Try.func208 (by kernel_rfl) rfl
theorem wk208 {iI : Nat} {gI : Gh} {wI : World} {x0 : List FaultDamage} {x1 : Int} {x2 : Int} {x3 : Int} {x4 : FaultDamage → FaultDamage → Option Int} {up0 : Value} (mp0 : OM iI gI wI 37 x0 up0) {up4 : Value} (rp4 : FnV2 Try.prog x4 up4 gI wI) {r : (List FaultDamage)} (h : f208 x0 x1 x2 x3 x4 = some r) : FnM Try.prog 208 #[up0, .int .i64 (x1), .int .i64 (x2), .int .i64 (x3), up4] iI gI wI (fun g w v => v = .tuple #[] ∧ OM iI g w 37 r up0) := by
 unfold f208 at h
 refine fnM_of_E Try.func208 rfl (Nat.le_of_ble_eq_true rfl) fun g0 hm hfr => ?_
 have x6 := mp0
 replace mp0 := mp0.enter
 rw [← hm] at mp0
 replace hm : g0.m = gI.m := by rw [hm]
 obtain ⟨ff4, fa4, fc4, rfl, fen4, fcl4⟩ := rp4
 show E _ 38 none _ _ _ _ _
 refine E_seq (E_region (EL_at (.int .i64 (0)) rfl rfl ?_))
 refine EL_nil (thn_n (E_block ?_))
 refine E_lp h (fun (s : (List FaultDamage) × Int) e w => ∃ (g : Gh) , FrM iI gI wI g w ∧ e 0 = up0 ∧ OM 1 g w 37 (s.1 : List FaultDamage) up0 ∧ e 1 = .int .i64 (x1) ∧ e 2 = .int .i64 (x2) ∧ e 3 = .int .i64 (x3) ∧ e 10 = .int .i64 (s.2)) ⟨g0, hfr, rfl, mp0, rfl, rfl, rfl, rfl⟩ (fun X1 k1 hk1 => ?_)
 rintro ⟨u0, o0⟩ n8 w2 ⟨g2, hfr, g7, i5, i7, j7, l5, z4⟩ h
 refine E_joinC h (fun (s : Unit) e w => ∃ (g : Gh) , FrM iI gI wI g w ∧ e 0 = up0 ∧ OM 1 g w 37 (u0 : List FaultDamage) up0 ∧ e 1 = .int .i64 (x1) ∧ e 2 = .int .i64 (x2) ∧ e 3 = .int .i64 (x3) ∧ e 10 = .int .i64 (o0)) (fun X4 k4 hk4 h => ?_) ?_
 ·refine E_seq (E_region (EL_mv z4 rfl ?_))
  refine EL_mv l5 rfl ?_
  refine EL_in (.bool ((decide (o0 < x3)))) rfl rfl rfl rfl ?_
  refine EL_nil (thn_n ?_)
  rcases csome h with ⟨hc5, h⟩ | ⟨hc5, h⟩
  ·refine E_ct hc5 rfl ?_
   exact E_skip (thn_n (hk4 () _ _ ⟨g2, hfr, g7, i5, i7, j7, l5, z4⟩ h))
  ·refine E_cf hc5 rfl ?_
   refine E_exit ?_
   refine thn_e ?_
   refine thn_e ?_
   refine blk_hit ?_
   obtain rfl := sinj h
   exact end0n rfl rfl ⟨_, hfr, rfl, x6.back i5⟩
 ·rintro _ o8 w6 ⟨g6, hfr, i3, j1, o3, u3, m7, z2⟩ h
  obtain ⟨d3, hx, h⟩ := bsome h
  refine E_join (fun e w => ∃ (g : Gh) , FrM iI gI wI g w ∧ e 0 = up0 ∧ OM 1 g w 37 (d3 : List FaultDamage) up0 ∧ e 1 = .int .i64 (x1) ∧ e 2 = .int .i64 (x2) ∧ e 3 = .int .i64 (x3) ∧ e 10 = .int .i64 (o0)) (fun Q' hQ => ?_) (fun m8 q8 hR => ?_)
  ·replace h := hx
   clear hx
   refine E_block ?_
   obtain ⟨z3, q5, h⟩ := bsome h
   refine L_loadM (x := .tmp 28) Try.isAgg37 Try.sizeOf37 j1 q5 fun c8 t5 n7 => ?_
   obtain ⟨y44, x5, h⟩ := bsome h
   refine L_loadM (x := .tmp 34) Try.isAgg37 Try.sizeOf37 j1 x5 fun e8 j3 o7 => ?_
   obtain ⟨u7, i6, h⟩ := bsome h
   refine E_drawTL (g := g6) (n := 21) [4, 5, 6, 7] [] [0, 1, 2, 3, 4, 5, 6, 7, 8, 9, 10, 11, 12, 13, 14, 15, 16, 17, 18, 19, 20] rfl mixed (by kernel_rfl) trivial rfl ?_
   refine L_p up0 rfl rfl (P_move i3) ?_
   refine L_p (.int .i64 (x1)) rfl rfl (P_move o3) ?_
   refine L_p (.int .i64 (o0)) rfl rfl (P_move z2) ?_
   refine L_p (.int .i64 ((w64 (x1 + o0)))) rfl rfl (P_int rfl rfl rfl) ?_
   refine L_purL (c := up0) rfl rfl .plain (P_move i3) ?_
   refine L_purL (c := .int .i64 (x2)) rfl rfl .plain (P_move u3) ?_
   refine L_purL (c := .int .i64 (o0)) rfl rfl .plain (P_move z2) ?_
   refine L_purL (c := .int .i64 ((w64 (x2 + o0)))) rfl rfl .plain (P_int rfl rfl rfl) ?_
   refine L_p up0 rfl rfl (P_move i3) ?_
   refine L_p (.int .i64 (x2)) rfl rfl (P_move u3) ?_
   refine L_p (.int .i64 (o0)) rfl rfl (P_move z2) ?_
   refine L_p (.int .i64 ((w64 (x2 + o0)))) rfl rfl (P_int rfl rfl rfl) ?_
   refine L_p (ePtr up0 (w64 (x2 + o0)) 5) rfl rfl (P_indexAddrM (α := FaultDamage) Try.underlying47 Try.sizeOf37 rfl j1 rfl q5) ?_
   refine L_ld (c := c8) rfl rfl .plain (fun _ _ h => ⟨h.ch, fun b hb _ => h.below.block b hb⟩) n7 rfl ?_
   refine L_p up0 rfl rfl (P_move i3) ?_
   refine L_p (.int .i64 (x1)) rfl rfl (P_move o3) ?_
   refine L_p (.int .i64 (o0)) rfl rfl (P_move z2) ?_
   refine L_p (.int .i64 ((w64 (x1 + o0)))) rfl rfl (P_int rfl rfl rfl) ?_
   refine L_p (ePtr up0 (w64 (x1 + o0)) 5) rfl rfl (P_indexAddrM (α := FaultDamage) Try.underlying47 Try.sizeOf37 rfl j1 rfl x5) ?_
   refine L_ld (c := e8) rfl rfl .plain (fun _ _ h => ⟨h.ch, fun b hb _ => h.below.block b hb⟩) o7 rfl ?_
   refine L_p (ePtr up0 (w64 (x1 + o0)) 5) rfl rfl (P_indexAddrM (α := FaultDamage) Try.underlying47 Try.sizeOf37 rfl j1 rfl i6) ?_
   refine L_nl fun e7 g8 hs => ?_
   have hlt : Lt g6.m w6 e7 g8 := hs.ch
   have hfr := hfr.ext hs
   have j1 := j1.ext hs
   have t5 := t5.ext hs
   have j3 := j3.ext hs
   clear hs
   refine TL_do hlt.w .plain rfl (D_storeM (g := e7) (α := FaultDamage) (a' := z3) Try.sizeOf37 rfl j1 i6 rfl t5 fun i8 r8 hs b75 => ?_)
   have hfr := hfr.stp hs
   have hlt := hlt.stp hs
   have j3 := j3.stp hs
   obtain ⟨v7, j6, h⟩ := bsome h
   refine TL_pur hlt.w (v := ePtr up0 (w64 (x2 + o0)) 5) (P_indexAddrM (α := FaultDamage) Try.underlying47 Try.sizeOf37 rfl b75 rfl j6) .plain rfl ?_
   refine TL_do hlt.w .plain rfl (D_storeM (g := i8) (α := FaultDamage) (a' := y44) Try.sizeOf37 rfl b75 j6 rfl j3 fun k8 t8 hs b77 => ?_)
   have hfr := hfr.stp hs
   have hlt := hlt.stp hs
   refine TL_nil hlt.w ?_
   clear hlt
   refine blk_n ?_
   obtain rfl := sinj h
   exact hQ _ _ ⟨k8, hfr, i3, b77, o3, u3, m7, z2⟩
  ·clear hx
   obtain ⟨l8, hfr, y6, a7, b7, c7, d7, v6⟩ := hR
   refine E_region (EL_mv v6 rfl ?_)
   refine EL_in (.int .i64 ((w64 (o0 + (1 : Int))))) rfl rfl rfl rfl ?_
   refine EL_at (.int .i64 ((w64 (o0 + (1 : Int))))) rfl rfl ?_
   exact EL_nil (thn_n (hk1 (d3, (w64 (o0 + (1 : Int)))) _ _ ⟨l8, hfr, y6, a7, b7, c7, d7, rfl⟩ h))
def f7 (x0 : Loom) : Option (FaultLoom) :=
 (f30 x0).bind fun y5 =>
 (f31 x0).bind fun y8 =>
 some ((⟨y5, y8⟩ : FaultLoom))
theorem en7 : Enters Try.prog 7 := enters_of Try.func7 (by kernel_rfl) rfl
theorem wk7 {gI : Gh} {wI : World} {x0 : Loom} {up0 : Value} (rp0 : RV gI.m wI x0 up0) {r : FaultLoom} (h : f7 x0 = some r) : Fn Try.prog 7 #[up0] gI wI (fun m w v => RV m w (r) v) := by
 unfold f7 at h
 refine fn_of_E Try.func7 rfl (Nat.le_of_ble_eq_true rfl) fun g0 hm hfr => ?_
 have rp0 : RV g0.m wI x0 up0 := hm ▸ rp0
 show E _ 8 none _ _ _ _ _
 refine E_seq (E_region (EL_do .plain rfl (D_box (g := g0) rfl rp0 fun g1 w1 p1 hs q1 => ?_)))
 have hfr := hfr.ext hs
 refine EL_do .plain rfl (D_allocOc (g := g1) 2002 (⟨⟨0, []⟩, ⟨0, []⟩⟩ : FaultLoom) Try.zeroValue32 (fun m w => ⟨_, (rep_two (rep_two rep_int rep_nil) (rep_two rep_int rep_nil)), rfl⟩) fun g2 w2 p2 hs b2 cb => ?_)
 have hfr := hfr.stp hs
 have q1 := q1.stp hs
 have z3 : OSF 2002 60201 1 g2 w2 3 32 ([] : List Int) p2 := cb.osf (by rfl)
 have z4 : OSF 2002 60203 3 g2 w2 3 32 ([] : List Int) p2 := cb.osf (by rfl)
 clear cb
 refine EL_nil (thn_n (E_seq (L_load (x := .tmp 1) Try.isAgg25 Try.sizeOf25 q1 fun v3 r3 j3 => ?_)))
 obtain ⟨y5, hy5, h⟩ := bsome h
 refine L_load (x := .tmp 1) Try.isAgg25 Try.sizeOf25 q1 fun v6 r6 o3 => ?_
 obtain ⟨y8, u3, h⟩ := bsome h
 refine E_drawL (g := g2) (n := 4) [(1, (fun v g w => RV g.m w y5 v)), (3, (fun v g w => RV g.m w y8 v))] [0, 1, 2, 3] rfl mixed (by kernel_rfl) (⟨fun _ => up_rv, fun _ => up_rv, trivial⟩) ?_
 refine L_ld (c := v3) rfl rfl .plain (fun _ _ h => h.ch) j3 rfl ?_
 refine L_do (φ := fun v g w => RV g.m w y5 v) rfl rfl .plain (fun g w hd => D_call (g := g) (vs := [v3]) en30 (.cons rfl .nil) (wk30 (r3.ext hd.1) hy5) fun g' w' v hs hr => ⟨g', hs, hr⟩) (fun v4 hv => ?_)
 obtain ⟨_, _, _, rq4⟩ := hv
 refine L_ld (c := v6) rfl rfl .plain (fun _ _ h => h.ch) o3 rfl ?_
 refine L_do (φ := fun v g w => RV g.m w y8 v) rfl rfl .plain (fun g w hd => D_call (g := g) (vs := [v6]) en31 (.cons rfl .nil) (wk31 (r6.ext hd.1) u3) fun g' w' v hs hr => ⟨g', hs, hr⟩) (fun v7 hv => ?_)
 obtain ⟨_, _, _, rq7⟩ := hv
 refine L_nil fun g9 w9 hall => ?_
 have hs := hall.1
 have hfr := hfr.ext hs
 have b2 := b2.ext hs
 have o0 := (word_all (A := fun g w => RV g.m w y5 v4) 1 rfl hall)
 have u0 := (word_all (A := fun g w => RV g.m w y8 v7) 3 rfl hall)
 clear hs hall
 have j1 : RV g9.m _ (⟨y5, y8⟩ : FaultLoom) (.agg (setCh [[.int .i64 0, .slice none 0 0], [.int .i64 0, .slice none 0 0]] [(0, v4), (1, v7)]).flatten.toArray) := RV_build rfl (rep_pair (RV.cells o0) (rep_last (RV.cells u0)))
 generalize d3 : (Value.agg (setCh [[.int .i64 0, .slice none 0 0], [.int .i64 0, .slice none 0 0]] [(0, v4), (1, v7)]).flatten.toArray) = z2 at j1
 refine EL_p z2 (d3 ▸ P_build (vs := [(0, v4), (1, v7)]) [[.int .i64 0, .slice none 0 0], [.int .i64 0, .slice none 0 0]] lay_32 rfl rfl (.cons rfl (.cons rfl .nil)) ⟨⟨_, rfl, cells_size o0⟩, ⟨⟨_, rfl, cells_size u0⟩, trivial⟩⟩) rfl ?_
 refine EL_do .plain rfl (D_storeOc (g := g9) (v := z2) Try.sizeOf32 rfl b2 rfl j1 fun i5 l5 hs b18 cb => ?_)
 clear cb
 have hfr := hfr.stp hs
 refine EL_nil (thn_n (E_ret ?_))
 obtain rfl := sinj h
 obtain ⟨ad19, cv19, hp19, i3, cr19⟩ := ob_read Try.isAgg32 Try.sizeOf32 b18
 exact endm_c rfl rfl ((show _ = p2 from rfl).trans hp19) i3 ⟨_, hfr, cr19⟩
def f10 (x0 : TieHarness) : Option (TieHarness) :=
 (f11 ((x0).Warps)).bind fun y8 =>
 some ((⟨(x0).Hooks, y8⟩ : TieHarness))
theorem en10 : Enters Try.prog 10 := enters_of Try.func10 (by kernel_rfl) rfl
theorem wk10 {gI : Gh} {wI : World} {x0 : TieHarness} {up0 : Value} (rp0 : RV gI.m wI x0 up0) {r : TieHarness} (h : f10 x0 = some r) : Fn Try.prog 10 #[up0] gI wI (fun m w v => RV m w (r) v) := by
 unfold f10 at h
 refine fn_of_E Try.func10 rfl (Nat.le_of_ble_eq_true rfl) fun g0 hm hfr => ?_
 have rp0 : RV g0.m wI x0 up0 := hm ▸ rp0
 show E _ 9 none _ _ _ _ _
 refine E_seq (E_region (EL_do .plain rfl (D_box (g := g0) rfl rp0 fun g1 w1 p1 hs q1 => ?_)))
 have hfr := hfr.ext hs
 refine EL_do .plain rfl (D_allocOc (g := g1) 2002 (⟨0, []⟩ : TieHarness) Try.zeroValue28 (fun m w => ⟨_, (rep_two rep_int rep_nil), rfl⟩) fun g2 w2 p2 hs b2 cb => ?_)
 have hfr := hfr.stp hs
 have q1 := q1.stp hs
 have u3 : OSF 2002 60201 1 g2 w2 3 28 ([] : List Int) p2 := cb.osf (by rfl)
 clear cb
 refine EL_nil (thn_n (E_seq ?_))
 have q3 := PT_field (part_TieHarness_0).1 q1
 refine L_load (x := .tmp 3) Try.isAgg3 Try.sizeOf3 q3 fun v4 r4 i3 => ?_
 obtain rfl := RV_int.1 r4
 have q5 := PT_field (part_TieHarness_1).1 q1
 refine L_load (x := .tmp 5) Try.isAgg26 Try.sizeOf26 q5 fun v6 r6 j3 => ?_
 obtain ⟨y8, o3, h⟩ := bsome h
 refine E_drawL (g := g2) (n := 5) [(4, (fun v g w => RV g.m w y8 v))] [0, 1, 2, 3, 4] rfl mixed (by kernel_rfl) (⟨fun _ => up_rv, trivial⟩) ?_
 refine L_p (fPtr p1 0) rfl rfl (P_fieldAddr at_28_0 rfl (PT.ptr q1)) ?_
 refine L_ld (c := .int .i64 ((x0).Hooks)) rfl rfl .plain (fun _ _ h => h.ch) i3 rfl ?_
 refine L_p (fPtr p1 1) rfl rfl (P_fieldAddr at_28_1 rfl (PT.ptr q1)) ?_
 refine L_ld (c := v6) rfl rfl .plain (fun _ _ h => h.ch) j3 rfl ?_
 refine L_do (φ := fun v g w => RV g.m w y8 v) rfl rfl .plain (fun g w hd => D_call (g := g) (vs := [v6]) en11 (.cons rfl .nil) (wk11 (r6.ext hd.1) o3) fun g' w' v hs hr => ⟨g', hs, hr⟩) (fun v7 hv => ?_)
 obtain ⟨_, _, _, rq7⟩ := hv
 refine L_nil fun g9 w9 hall => ?_
 have hs := hall.1
 have hfr := hfr.ext hs
 have b2 := b2.ext hs
 have o0 := (word_all (A := fun g w => RV g.m w y8 v7) 4 rfl hall)
 clear hs hall
 have u0 : RV g9.m _ (⟨(x0).Hooks, y8⟩ : TieHarness) (.agg (setCh [[.int .i64 0], [.slice none 0 0]] [(0, .int .i64 ((x0).Hooks)), (1, v7)]).flatten.toArray) := RV_build rfl (rep_pair (rfl) (rep_last (RV.cells o0)))
 generalize z2 : (Value.agg (setCh [[.int .i64 0], [.slice none 0 0]] [(0, .int .i64 ((x0).Hooks)), (1, v7)]).flatten.toArray) = j1 at u0
 refine EL_p j1 (z2 ▸ P_build (vs := [(0, .int .i64 ((x0).Hooks)), (1, v7)]) [[.int .i64 0], [.slice none 0 0]] lay_28 rfl rfl (.cons rfl (.cons rfl .nil)) ⟨⟨_, rfl, rfl⟩, ⟨⟨_, rfl, cells_size o0⟩, trivial⟩⟩) rfl ?_
 refine EL_do .plain rfl (D_storeOc (g := g9) (v := j1) Try.sizeOf28 rfl b2 rfl u0 fun z3 z4 hs b19 cb => ?_)
 clear cb
 have hfr := hfr.stp hs
 refine EL_nil (thn_n (E_ret ?_))
 obtain rfl := sinj h
 obtain ⟨ad20, cv20, hp20, d3, cr20⟩ := ob_read Try.isAgg28 Try.sizeOf28 b19
 exact endm_c rfl rfl ((show _ = p2 from rfl).trans hp20) d3 ⟨_, hfr, cr20⟩
def f14 (x0 : FaultLoom) : Option (FaultLoom) :=
 (f10 ((x0).Harness)).bind fun y6 =>
 (f12 ((x0).Design)).bind fun o0 =>
 some ((⟨y6, o0⟩ : FaultLoom))
theorem en14 : Enters Try.prog 14 := enters_of Try.func14 (by kernel_rfl) rfl
theorem wk14 {gI : Gh} {wI : World} {x0 : FaultLoom} {up0 : Value} (rp0 : RV gI.m wI x0 up0) {r : FaultLoom} (h : f14 x0 = some r) : Fn Try.prog 14 #[up0] gI wI (fun m w v => RV m w (r) v) := by
 unfold f14 at h
 refine fn_of_E Try.func14 rfl (Nat.le_of_ble_eq_true rfl) fun g0 hm hfr => ?_
 have rp0 : RV g0.m wI x0 up0 := hm ▸ rp0
 show E _ 10 none _ _ _ _ _
 refine E_seq (E_region (EL_do .plain rfl (D_box (g := g0) rfl rp0 fun g1 w1 p1 hs q1 => ?_)))
 have hfr := hfr.ext hs
 refine EL_do .plain rfl (D_allocOc (g := g1) 2002 (⟨⟨0, []⟩, ⟨0, []⟩⟩ : FaultLoom) Try.zeroValue32 (fun m w => ⟨_, (rep_two (rep_two rep_int rep_nil) (rep_two rep_int rep_nil)), rfl⟩) fun g2 w2 p2 hs b2 cb => ?_)
 have hfr := hfr.stp hs
 have q1 := q1.stp hs
 have l5 : OSF 2002 60201 1 g2 w2 3 32 ([] : List Int) p2 := cb.osf (by rfl)
 have q5 : OSF 2002 60203 3 g2 w2 3 32 ([] : List Int) p2 := cb.osf (by rfl)
 clear cb
 refine EL_nil (thn_n (E_seq ?_))
 have q3 := PT_field (part_FaultLoom_0).1 q1
 refine L_load (x := .tmp 3) Try.isAgg28 Try.sizeOf28 q3 fun v4 r4 z3 => ?_
 obtain ⟨y6, z4, h⟩ := bsome h
 have q7 := PT_field (part_FaultLoom_1).1 q1
 refine L_load (x := .tmp 6) Try.isAgg30 Try.sizeOf30 q7 fun v8 r8 i5 => ?_
 obtain ⟨o0, j3, h⟩ := bsome h
 refine E_drawL (g := g2) (n := 6) [(2, (fun v g w => RV g.m w y6 v)), (5, (fun v g w => RV g.m w o0 v))] [0, 1, 2, 3, 4, 5] rfl mixed (by kernel_rfl) (⟨fun _ => up_rv, fun _ => up_rv, trivial⟩) ?_
 refine L_p (fPtr p1 0) rfl rfl (P_fieldAddr at_32_0 rfl (PT.ptr q1)) ?_
 refine L_ld (c := v4) rfl rfl .plain (fun _ _ h => h.ch) z3 rfl ?_
 refine L_do (φ := fun v g w => RV g.m w y6 v) rfl rfl .plain (fun g w hd => D_call (g := g) (vs := [v4]) en10 (.cons rfl .nil) (wk10 (r4.ext hd.1) z4) fun g' w' v hs hr => ⟨g', hs, hr⟩) (fun v5 hv => ?_)
 obtain ⟨_, _, _, rq5⟩ := hv
 refine L_p (fPtr p1 2) rfl rfl (P_fieldAddr at_32_1 rfl (PT.ptr q1)) ?_
 refine L_ld (c := v8) rfl rfl .plain (fun _ _ h => h.ch) i5 rfl ?_
 refine L_do (φ := fun v g w => RV g.m w o0 v) rfl rfl .plain (fun g w hd => D_call (g := g) (vs := [v8]) en12 (.cons rfl .nil) (wk12 (r8.ext hd.1) j3) fun g' w' v hs hr => ⟨g', hs, hr⟩) (fun v9 hv => ?_)
 obtain ⟨_, _, _, rq9⟩ := hv
 refine L_nil fun u0 t5 hall => ?_
 have hs := hall.1
 have hfr := hfr.ext hs
 have b2 := b2.ext hs
 have j1 := (word_all (A := fun g w => RV g.m w y6 v5) 2 rfl hall)
 have z2 := (word_all (A := fun g w => RV g.m w o0 v9) 5 rfl hall)
 clear hs hall
 have d3 : RV u0.m _ (⟨y6, o0⟩ : FaultLoom) (.agg (setCh [[.int .i64 0, .slice none 0 0], [.int .i64 0, .slice none 0 0]] [(0, v5), (1, v9)]).flatten.toArray) := RV_build rfl (rep_pair (RV.cells j1) (rep_last (RV.cells z2)))
 generalize o3 : (Value.agg (setCh [[.int .i64 0, .slice none 0 0], [.int .i64 0, .slice none 0 0]] [(0, v5), (1, v9)]).flatten.toArray) = i3 at d3
 refine EL_p i3 (o3 ▸ P_build (vs := [(0, v5), (1, v9)]) [[.int .i64 0, .slice none 0 0], [.int .i64 0, .slice none 0 0]] lay_32 rfl rfl (.cons rfl (.cons rfl .nil)) ⟨⟨_, rfl, cells_size j1⟩, ⟨⟨_, rfl, cells_size z2⟩, trivial⟩⟩) rfl ?_
 refine EL_do .plain rfl (D_storeOc (g := u0) (v := i3) Try.sizeOf32 rfl b2 rfl d3 fun x5 i6 hs b22 cb => ?_)
 clear cb
 have hfr := hfr.stp hs
 refine EL_nil (thn_n (E_ret ?_))
 obtain rfl := sinj h
 obtain ⟨ad23, cv23, hp23, u3, cr23⟩ := ob_read Try.isAgg32 Try.sizeOf32 b22
 exact endm_c rfl rfl ((show _ = p2 from rfl).trans hp23) u3 ⟨_, hfr, cr23⟩
def f46 (x0 : List FaultSight) (x1 : FaultSight → Option Bool) : Option (Bool) :=
 (f93 x0 x1).bind fun y2 =>
 some ((decide (y2 ≥ (0 : Int))))
theorem en46 : Enters Try.prog 46 := enters_of Try.func46 (by kernel_rfl) rfl
theorem wk46 {gI : Gh} {wI : World} {x0 : List FaultSight} {x1 : FaultSight → Option Bool} {up0 : Value} (rp0 : RV gI.m wI x0 up0) {up1 : Value} (rp1 : FnV1 Try.prog x1 up1 gI wI) {r : Bool} (h : f46 x0 x1 = some r) : Fn Try.prog 46 #[up0, up1] gI wI (fun _ _ v => v = .bool (r)) := by
 unfold f46 at h
 refine fn_of_E Try.func46 rfl (Nat.le_of_ble_eq_true rfl) fun g0 hm hfr => ?_
 have rp0 : RV g0.m wI x0 up0 := hm ▸ rp0
 obtain ⟨ff1, fa1, fc1, rfl, fen1, fcl1⟩ := rp1
 show E _ 9 none _ _ _ _ _
 refine E_seq (E_region (EL_at (.bool false) rfl rfl ?_))
 refine EL_nil (thn_n (E_seq (E_region (EL_mw up0 rfl rfl ?_))))
 refine EL_mw ((.func (.func ff1) fa1 fc1)) rfl rfl ?_
 obtain ⟨y2, hy2, h⟩ := bsome h
 refine EL_do .plain rfl (D_call (g := g0) (vs := [up0, (.func (.func ff1) fa1 fc1)]) en93 (.cons rfl (.cons rfl .nil)) (wk93 rp0 (FnV1.ch ⟨_, _, _, rfl, fen1, fcl1⟩ hfr.ch) hy2) fun g1 w1_ v1 hs hr => ?_)
 have hfr := hfr.ext hs
 subst hr
 refine EL_in (.bool ((decide (y2 ≥ (0 : Int))))) rfl rfl rfl rfl ?_
 refine EL_at (.bool ((decide (y2 ≥ (0 : Int))))) rfl rfl ?_
 refine EL_nil (thn_n (E_ret ?_))
 obtain rfl := sinj h
 exact end1 rfl rfl (show _ = .bool ((decide (y2 ≥ (0 : Int)))) from rfl) ⟨_, hfr, rfl⟩
def f53 (x0 : List Str) (x1 : List FaultSight) : Option (Bool) :=
 (f46 x1 ((fun a0 => f98 a0 x0))).bind fun y3 =>
 some ((!y3))
theorem en53 : Enters Try.prog 53 := enters_of Try.func53 (by kernel_rfl) rfl
theorem wk53 {gI : Gh} {wI : World} {x0 : List Str} {x1 : List FaultSight} {up0 : Value} (rp0 : RV gI.m wI x0 up0) {up1 : Value} (rp1 : RV gI.m wI x1 up1) {r : Bool} (h : f53 x0 x1 = some r) : Fn Try.prog 53 #[up0, up1] gI wI (fun _ _ v => v = .bool (r)) := by
 unfold f53 at h
 refine fn_of_E Try.func53 rfl (Nat.le_of_ble_eq_true rfl) fun g0 hm hfr => ?_
 have rp0 : RV g0.m wI x0 up0 := hm ▸ rp0
 have rp1 : RV g0.m wI x1 up1 := hm ▸ rp1
 show E _ 9 none _ _ _ _ _
 refine E_seq (E_region (EL_do .plain rfl (D_box (g := g0) rfl rp0 fun g1 w1 p1 hs q1 => ?_)))
 have hfr := hfr.ext hs
 have rp1 := rp1.ext hs
 refine EL_at (.bool false) rfl rfl ?_
 refine EL_nil (thn_n (E_seq (E_region (EL_mw up1 rfl rfl ?_))))
 refine EL_p ((.func (.func 98) #[] #[p1])) (P_makeFunc (capf_0_1 (show ev _ _ = p1 from rfl))) rfl ?_
 obtain ⟨y3, hy3, h⟩ := bsome h
 refine EL_do .plain rfl (D_call (g := g1) (vs := [up1, (.func (.func 98) #[] #[p1])]) en46 (.cons rfl (.cons rfl .nil)) (wk46 rp1 ⟨98, #[], #[p1], rfl, en98, fun g' w' hch a0 b0 r hu0 hr => by exact Fn.mono (wk98 hu0 (q1.ch hch) hr) fun _ _ _ h => RV_bool.2 h⟩ hy3) fun g2 w2_ v2 hs hr => ?_)
 have hfr := hfr.ext hs
 subst hr
 refine EL_p (.bool (!y3)) (P_not rfl) rfl ?_
 refine EL_at (.bool (!y3)) rfl rfl ?_
 refine EL_nil (thn_n (E_ret ?_))
 obtain rfl := sinj h
 exact end1 rfl rfl (show _ = .bool (!y3) from rfl) ⟨_, hfr, rfl⟩
def f60 (x0 : List Str) (x1 : List Str) : Option (It (Int × Int)) :=
 some ((fun σ cons s => f105 x0 x1 σ cons s))
theorem en60 : Enters Try.prog 60 := enters_of Try.func60 (by kernel_rfl) rfl
theorem wk60 {gI : Gh} {wI : World} {x0 : List Str} {x1 : List Str} {up0 : Value} (rp0 : RV gI.m wI x0 up0) {up1 : Value} (rp1 : RV gI.m wI x1 up1) {r : It (Int × Int)} (h : f60 x0 x1 = some r) : Fn Try.prog 60 #[up0, up1] gI wI (fun m w v => ItV Try.prog (RA2 (α := Int) (β := Int)) (r) v m w) := by
 unfold f60 at h
 refine fn_of_E Try.func60 rfl (Nat.le_of_ble_eq_true rfl) fun g0 hm hfr => ?_
 have rp0 : RV g0.m wI x0 up0 := hm ▸ rp0
 have rp1 : RV g0.m wI x1 up1 := hm ▸ rp1
 show E _ 6 none _ _ _ _ _
 refine E_seq (E_region (EL_do .plain rfl (D_box (g := g0) rfl rp0 fun g1 w1 p1 hs q1 => ?_)))
 have hfr := hfr.ext hs
 have rp1 := rp1.ext hs
 refine EL_do .plain rfl (D_box (g := g1) rfl rp1 fun g2 w2 p2 hs q2 => ?_)
 have hfr := hfr.ext hs
 have q1 := q1.ext hs
 refine EL_at (.nilFunc) rfl rfl ?_
 refine EL_nil (thn_n (E_seq (E_region (EL_p ((.func (.func 105) #[] #[p1, p2])) (P_makeFunc (capf_0_2 (show ev _ _ = p1 from rfl) (show ev _ _ = p2 from rfl))) rfl ?_))))
 refine EL_at ((.func (.func 105) #[] #[p1, p2])) rfl rfl ?_
 refine EL_nil (thn_n (E_ret ?_))
 obtain rfl := sinj h
 exact end1 rfl rfl (show _ = (.func (.func 105) #[] #[p1, p2]) from rfl) ⟨_, hfr, (show ItV Try.prog (RA2 (α := Int) (β := Int)) (fun σ cons s => f105 x0 x1 σ cons s) ((.func (.func 105) #[] #[p1, p2])) g2.m w2 from ⟨105, #[], #[p1, p2], rfl, en105, fun g' w' hch σ cons s s' h => wk105  (q1.ch hch) (q2.ch hch) h⟩)⟩
def f62 (x0 : SeamTailor) : Option ((List SeamPlan)) :=
 (shl64 (1 : Int) (((x0).cuts).length : Int)).bind fun y4 =>
 (mka 24 (⟨0, 0, 0⟩ : SeamPlan) y4).bind fun y5 =>
 Option.bind (α := (List SeamPlan)) (
  lp (σ := (List SeamPlan) × Int) (fun cD (d3, u0) =>
   jn (σ := Unit) (fun _ =>
    Option.bind (α := (List SeamPlan)) (
     Option.bind (α := SeamPlan) (
      lp (σ := SeamPlan × Int) (fun kB (j1, o0) =>
       bif (decide (o0 < (((x0).cuts).length : Int))) then
        Option.bind (α := SeamPlan) (
         (idx ((x0).cuts) o0).bind fun i6 =>
         jn (σ := Unit) (fun _ =>
          (shl64 (1 : Int) o0).bind fun d7 =>
          (idx d3 (bit64 .andNot u0 d7)).bind fun v8 =>
          (f109 x0 ((v8).end_) i6).bind fun j3 =>
          Option.bind (α := Bool) (
           bif (decide ((j1).end_ < (0 : Int))) then
            some (true)
           else
            some ((decide ((w64 (j3 + (i6).Picks)) < (j1).end_)))
           ) fun x6 =>
          bif x6 then
           some ((⟨o0, j3, (w64 (j3 + (i6).Picks))⟩ : SeamPlan))
          else
           some (j1)
          ) fun lB =>
         (shr64 u0 o0).bind fun e8 =>
         bif ((bit64 .and e8 (1 : Int)) == (0 : Int)) then
          some (j1)
         else
          lB ()
         ) fun e7 =>
        kB (e7, (w64 (o0 + (1 : Int))))
       else
        some (j1)
       ) big ((⟨0, 0, (-1 : Int)⟩ : SeamPlan), (0 : Int))
      ) fun g7 =>
     (idx d3 u0).bind fun cE =>
     some ((List.set d3 (Int.toNat u0) g7))
     ) fun i7 =>
    cD (i7, (w64 (u0 + (1 : Int))))
    ) fun eD =>
   bif (decide (u0 < ((d3).length : Int))) then
    eD ()
   else
    some (d3)
   ) big (y5, (1 : Int))
  ) fun i8 =>
 some (i8)
theorem en62 : Enters Try.prog 62 := enters_of Try.func62 (by kernel_rfl) rfl
theorem wk62 {gI : Gh} {wI : World} {x0 : SeamTailor} {up0 : Value} (rp0 : RV gI.m wI x0 up0) {r : (List SeamPlan)} (h : f62 x0 = some r) : Fn Try.prog 62 #[up0] gI wI (fun m w v => RV m w (r) v) := by
 unfold f62 at h
 refine fn_of_E Try.func62 rfl (Nat.le_of_ble_eq_true rfl) fun g0 hm hfr => ?_
 have rp0 : RV g0.m wI x0 up0 := hm ▸ rp0
 show E _ 70 none _ _ _ _ _
 refine E_seq (E_region (EL_do .plain rfl (D_box (g := g0) rfl rp0 fun g1 w1 p1 hs q1 => ?_)))
 have hfr := hfr.ext hs
 refine EL_at (.slice none 0 0) rfl rfl ?_
 refine EL_nil (thn_n (E_seq (E_region (EL_p (fPtr p1 2) (P_fieldAddr at_129_2 rfl (PT.ptr q1)) rfl ?_))))
 have q2 := PT_field (part_SeamTailor_2).1 q1
 refine EL_do .plain rfl (D_load (g := g1) Try.isAgg66 Try.sizeOf66 rfl q2 fun v3 r3 => ?_)
 refine EL_p (.int .i64 (((x0).cuts).length : Int)) (P_len Try.underlying66 rfl r3) rfl ?_
 obtain ⟨y4, rF, h⟩ := bsome h
 refine EL_p (.int .i64 (y4)) (P_int rfl rfl (congrArg (Option.map (Value.int .i64)) rF)) rfl ?_
 obtain ⟨y5, hy5, h⟩ := bsome h
 refine EL_do .plain rfl (D_makeSliceA (g := g1) 4003 (⟨0, 0, 0⟩ : SeamPlan) Try.underlying132 info_135 rfl (fun m w => ⟨_, (rep_two rep_int (rep_two rep_int rep_int)), rfl⟩) rfl rfl hy5 fun g6 w6 v6 hs b6 => ?_)
 have hfr := hfr.stp hs
 have q1 := q1.stp hs
 refine EL_at v6 rfl rfl ?_
 refine EL_nil (thn_n ?_)
 obtain ⟨i8, hx, h⟩ := bsome h
 refine E_join (fun e w => ∃ (g : Gh) , Fr gI wI g w ∧ e 3 = v6 ∧ OA 4003 g w 135 (i8 : List SeamPlan) v6) (fun Q' hQ => ?_) (fun sF aG hR => ?_)
 ·replace h := hx
  clear hx
  refine E_seq (E_region (EL_at (.int .i64 (1)) rfl rfl ?_))
  refine EL_nil (thn_n (E_block ?_))
  refine E_lp h (fun (s : (List SeamPlan) × Int) e w => ∃ (g : Gh) , Fr gI wI g w ∧ e 1 = p1 ∧ PT g.m w (x0 : SeamTailor) p1 ∧ e 3 = v6 ∧ OA 4003 g w 135 (s.1 : List SeamPlan) v6 ∧ e 4 = .int .i64 (s.2)) ⟨g6, hfr, rfl, q1, rfl, b6, rfl⟩ (fun X621 cD dE => ?_)
  rintro ⟨d3, u0⟩ bG aH ⟨gD, hfr, iD, jD, y8, a9, zA⟩ h
  refine E_joinC h (fun (s : Unit) e w => ∃ (g : Gh) , Fr gI wI g w ∧ e 1 = p1 ∧ PT g.m w (x0 : SeamTailor) p1 ∧ e 3 = v6 ∧ OA 4003 g w 135 (d3 : List SeamPlan) v6 ∧ e 4 = .int .i64 (u0)) (fun X624 eD eE h => ?_) ?_
  ·refine E_seq (E_region (EL_mv zA rfl ?_))
   refine EL_mv y8 rfl ?_
   refine EL_p (.int .i64 ((d3).length : Int)) (P_lenM Try.underlying132 rfl (a9.toM)) rfl ?_
   refine EL_in (.bool ((decide (u0 < ((d3).length : Int))))) rfl rfl rfl rfl ?_
   refine EL_nil (thn_n ?_)
   rcases csome h with ⟨pA, h⟩ | ⟨pA, h⟩
   ·refine E_ct pA rfl ?_
    exact E_skip (thn_n (eE () _ _ ⟨gD, hfr, iD, jD, y8, a9, zA⟩ h))
   ·refine E_cf pA rfl ?_
    refine E_exit ?_
    refine thn_e ?_
    refine thn_e ?_
    refine blk_hit ?_
    obtain rfl := sinj h
    exact hQ _ _ ⟨gD, hfr, y8, a9⟩
  ·rintro _ cG pF ⟨kD, hfr, aB, y6, lD, c7, mD⟩ h
   obtain ⟨i7, hx, h⟩ := bsome h
   refine E_join (fun e w => ∃ (g : Gh) , Fr gI wI g w ∧ e 1 = p1 ∧ PT g.m w (x0 : SeamTailor) p1 ∧ e 3 = v6 ∧ OA 4003 g w 135 (i7 : List SeamPlan) v6 ∧ e 4 = .int .i64 (u0)) (fun Q' hQ => ?_) (fun tF dG hR => ?_)
   ·replace h := hx
    clear hx
    refine E_block ?_
    refine E_seq (E_region ?_)
    have qA : RV kD.m pF (⟨0, 0, (-1 : Int)⟩ : SeamPlan) (.agg (setCh [[.int .i64 0], [.int .i64 0], [.int .i64 0]] [(2, .int .i64 (-1))]).flatten.toArray) := RV_build rfl (rep_pair (rep_int) (rep_pair (rep_int) (rep_last (rfl))))
    generalize gE : (Value.agg (setCh [[.int .i64 0], [.int .i64 0], [.int .i64 0]] [(2, .int .i64 (-1))]).flatten.toArray) = nD at qA
    refine EL_p nD (gE ▸ P_build (vs := [(2, .int .i64 (-1))]) [[.int .i64 0], [.int .i64 0], [.int .i64 0]] lay_135 rfl rfl (.cons rfl .nil) ⟨⟨_, rfl, rfl⟩, trivial⟩) rfl ?_
    refine EL_do .plain rfl (D_allocOc (g := kD) 2005 (⟨0, 0, 0⟩ : SeamPlan) Try.zeroValue135 (fun m w => ⟨_, (rep_two rep_int (rep_two rep_int rep_int)), rfl⟩) fun qF bH x5 hs b931 cb => ?_)
    have hfr := hfr.stp hs
    have y6 := y6.stp hs
    have c7 := c7.stp hs rfl
    have qA := qA.stp hs
    clear cb
    refine EL_do .plain rfl (D_storeOc (g := qF) (v := nD) Try.sizeOf135 rfl b931 rfl qA fun oD cH hs b932 cb => ?_)
    clear cb
    have hfr := hfr.stp hs
    have y6 := y6.stp hs
    have c7 := c7.stp hs rfl
    refine EL_nil (thn_n ?_)
    obtain ⟨g7, hx, h⟩ := bsome h
    refine E_join (fun e w => ∃ (g : Gh) , Fr gI wI g w ∧ e 1 = p1 ∧ PT g.m w (x0 : SeamTailor) p1 ∧ e 3 = v6 ∧ OA 4003 g w 135 (d3 : List SeamPlan) v6 ∧ e 4 = .int .i64 (u0) ∧ e 5 = x5 ∧ OB 2005 g w 135 (g7 : SeamPlan) x5) (fun Q' hQ => ?_) (fun uF eG hR => ?_)
    ·replace h := hx
     clear hx
     refine E_seq (E_region (EL_p (fPtr p1 2) (P_fieldAddr at_129_2 aB (PT.ptr y6)) rfl ?_))
     have iE := PT_field (part_SeamTailor_2).1 y6
     refine EL_do .plain rfl (D_load (g := oD) Try.isAgg66 Try.sizeOf66 rfl iE fun j6 mB => ?_)
     refine EL_p (.int .i64 (((x0).cuts).length : Int)) (P_len Try.underlying66 rfl mB) rfl ?_
     refine EL_mw (.int .i64 (0)) rfl rfl ?_
     refine EL_nil (thn_n (E_block ?_))
     refine E_lp h (fun (s : SeamPlan × Int) e w => ∃ (g : Gh) , Fr gI wI g w ∧ e 1 = p1 ∧ PT g.m w (x0 : SeamTailor) p1 ∧ e 3 = v6 ∧ OA 4003 g w 135 (d3 : List SeamPlan) v6 ∧ e 4 = .int .i64 (u0) ∧ e 5 = x5 ∧ OB 2005 g w 135 (s.1 : SeamPlan) x5 ∧ e 22 = j6 ∧ RV g.m w ((x0).cuts : List SeamCut) j6 ∧ e 23 = .int .i64 ((((x0).cuts).length : Int)) ∧ e 24 = .int .i64 (s.2)) ⟨oD, hfr, aB, y6, lD, c7, mD, rfl, b932, rfl, mB, rfl, rfl⟩ (fun X1083 kB sD => ?_)
     rintro ⟨j1, o0⟩ vF gG ⟨rA, hfr, k8, i5, l8, l5, j7, m8, q5, v7, o3, c8, a7⟩ h
     refine E_seq (E_region (EL_p (.bool ((decide (o0 < (((x0).cuts).length : Int))))) (P_int a7 c8 rfl) rfl ?_))
     refine EL_nil (thn_n (E_seq ?_))
     rcases csome h with ⟨d9, h⟩ | ⟨d9, h⟩
     ·refine E_ct d9 rfl ?_
      refine E_skip (thn_n ?_)
      obtain ⟨e7, hx, h⟩ := bsome h
      refine E_join (fun e w => ∃ (g : Gh) , Fr gI wI g w ∧ e 1 = p1 ∧ PT g.m w (x0 : SeamTailor) p1 ∧ e 3 = v6 ∧ OA 4003 g w 135 (d3 : List SeamPlan) v6 ∧ e 4 = .int .i64 (u0) ∧ e 5 = x5 ∧ OB 2005 g w 135 (e7 : SeamPlan) x5 ∧ e 22 = j6 ∧ RV g.m w ((x0).cuts : List SeamCut) j6 ∧ e 23 = .int .i64 ((((x0).cuts).length : Int)) ∧ e 24 = .int .i64 (o0)) (fun Q' hQ => ?_) (fun xF hG hR => ?_)
      ·replace h := hx
       clear hx
       refine E_block ?_
       refine E_seq (E_region (EL_mv a7 rfl ?_))
       obtain ⟨i6, bB, h⟩ := bsome h
       refine EL_p (ePtr j6 o0 2) (P_indexAddr (α := SeamCut) Try.underlying66 Try.sizeOf68 v7 o3 a7 bB) rfl ?_
       have jE := PT_idx o3 bB
       refine EL_do .plain rfl (D_load (g := rA) Try.isAgg68 Try.sizeOf68 rfl jE fun kE sA => ?_)
       refine EL_do .plain rfl (D_allocOc (g := rA) 2007 (⟨0, 0⟩ : SeamCut) Try.zeroValue68 (fun m w => ⟨_, (rep_two rep_int rep_int), rfl⟩) fun lE iG uA hs b1160 cb => ?_)
       have hfr := hfr.stp hs
       have i5 := i5.stp hs
       have l5 := l5.stp hs rfl
       have q5 := q5.stp hs rfl
       have o3 := o3.stp hs
       have sA := sA.stp hs
       clear cb
       refine EL_at (.int .i64 (o0)) rfl rfl ?_
       refine EL_do .plain rfl (D_storeOc (g := lE) (v := kE) Try.sizeOf68 rfl b1160 rfl sA fun nB jG hs b1161 cb => ?_)
       clear cb
       have hfr := hfr.stp hs
       have i5 := i5.stp hs
       have l5 := l5.stp hs rfl
       have q5 := q5.stp hs rfl
       have o3 := o3.stp hs
       refine EL_nil (thn_n (E_joinC h (fun (s : Unit) e w => ∃ (g : Gh) , Fr gI wI g w ∧ e 1 = p1 ∧ PT g.m w (x0 : SeamTailor) p1 ∧ e 3 = v6 ∧ OA 4003 g w 135 (d3 : List SeamPlan) v6 ∧ e 4 = .int .i64 (u0) ∧ e 5 = x5 ∧ OB 2005 g w 135 (j1 : SeamPlan) x5 ∧ e 6 = .int .i64 (o0) ∧ e 7 = uA ∧ OB 2007 g w 68 (i6 : SeamCut) uA ∧ e 22 = j6 ∧ RV g.m w ((x0).cuts : List SeamCut) j6 ∧ e 23 = .int .i64 ((((x0).cuts).length : Int)) ∧ e 24 = .int .i64 (o0)) (fun X1164 lB tD h => ?_) ?_))
       ·refine E_seq (E_region (EL_mv j7 rfl ?_))
        refine EL_mw (.int .i64 (o0)) rfl rfl ?_
        obtain ⟨e8, uD, h⟩ := bsome h
        refine EL_p (.int .i64 (e8)) (P_int rfl rfl (congrArg (Option.map (Value.int .i64)) uD)) rfl ?_
        refine EL_in (.int .i64 ((bit64 .and e8 (1 : Int)))) rfl rfl rfl rfl ?_
        refine EL_in (.bool (((bit64 .and e8 (1 : Int)) == (0 : Int)))) rfl rfl rfl rfl ?_
        refine EL_nil (thn_n ?_)
        rcases csome h with ⟨e9, h⟩ | ⟨e9, h⟩
        ·refine E_ct e9 rfl ?_
         refine E_exit ?_
         refine thn_e ?_
         refine blk_hit ?_
         obtain rfl := sinj h
         exact hQ _ _ ⟨nB, hfr, k8, i5, l8, l5, j7, m8, q5, v7, o3, c8, a7⟩
        ·refine E_cf e9 rfl ?_
         exact E_skip (thn_n (tD () _ _ ⟨nB, hfr, k8, i5, l8, l5, j7, m8, q5, rfl, rfl, b1161, v7, o3, c8, a7⟩ h))
       ·rintro _ yF mE ⟨oB, hfr, n8, z3, o8, i3, q8, m7, z2, bA, gA, t5, i9, u3, k9, l9⟩ h
        refine E_seq (L_load (x := .tmp 1) Try.isAgg129 Try.sizeOf129 z3 fun tB nE vD => ?_)
        obtain ⟨d7, xD, h⟩ := bsome h
        obtain ⟨v8, n9, h⟩ := bsome h
        obtain ⟨pb1172, po1172, pe1172⟩ := OM.ptrE (k := 3) (i3.toM) n9
        refine L_loadMF (x := .tmp 42) part_SeamPlan_2.1 Try.isAgg3 Try.sizeOf3 (i3.toM) n9 fun kG oE yD => ?_
        obtain rfl := RV_int.1 oE
        refine L_loadO0 (x := .tmp 7) Try.isAgg68 Try.sizeOf68 t5 fun vB rE zD => ?_
        obtain ⟨j3, aE, h⟩ := bsome h
        have x8 : RV oB.m mE (⟨o0, j3, 0⟩ : SeamPlan) (.agg (setCh [[.int .i64 0], [.int .i64 0], [.int .i64 0]] [(0, .int .i64 (o0)), (1, .int .i64 (j3))]).flatten.toArray) := RV_build rfl (rep_pair (rfl) (rep_pair (rfl) (rep_last (rep_int))))
        generalize bE : (Value.agg (setCh [[.int .i64 0], [.int .i64 0], [.int .i64 0]] [(0, .int .i64 (o0)), (1, .int .i64 (j3))]).flatten.toArray) = xB at x8
        refine E_drawL (g := oB) (n := 14) [(11, (fun v g w => v = .int .i64 (j3))), (13, (fun v g w => OB 2008 g w 135 (⟨0, 0, 0⟩ : SeamPlan) v))] [0, 1, 2, 3, 4, 5, 6, 7, 8, 9, 10, 11, 12, 13] rfl mixed (by kernel_rfl) (⟨fun _ => up_eq _, fun _ => up_ob, trivial⟩) ?_
        refine L_p (.int .i64 (o0)) rfl rfl (P_move bA) ?_
        refine L_ld (c := tB) rfl rfl .plain (fun _ _ h => h.ch) vD n8 ?_
        refine L_p v6 rfl rfl (P_move o8) ?_
        refine L_p (.int .i64 (u0)) rfl rfl (P_move q8) ?_
        refine L_p (.int .i64 (o0)) rfl rfl (P_move bA) ?_
        refine L_p (.int .i64 (d7)) rfl rfl (P_int rfl rfl (congrArg (Option.map (Value.int .i64)) xD)) ?_
        refine L_p (.int .i64 ((bit64 .andNot u0 d7))) rfl rfl (P_int rfl rfl rfl) ?_
        refine L_p (ePtr v6 (bit64 .andNot u0 d7) 3) rfl rfl (P_indexAddrM (α := SeamPlan) Try.underlying132 Try.sizeOf135 rfl (i3.toM) rfl n9) ?_
        refine L_p (fPtr (ePtr v6 (bit64 .andNot u0 d7) 3) 2) rfl rfl (P_fieldAddr at_135_2 rfl ⟨_, _, pe1172⟩) ?_
        refine L_ld (c := .int .i64 ((v8).end_)) rfl rfl .plain (fun _ _ h => ⟨h.ch, fun b hb _ => h.below.block b hb⟩) yD rfl ?_
        refine L_ld (c := vB) rfl rfl .plain (fun _ _ h => ⟨h.ch, fun b hb _ => h.below.block b hb⟩) zD gA ?_
        refine L_do (φ := fun v g w => v = .int .i64 (j3)) rfl rfl .plain (fun g w hd => D_call (g := g) (vs := [tB, .int .i64 ((v8).end_), vB]) en109 (.cons rfl (.cons rfl (.cons rfl .nil))) (wk109 (nE.ext hd.1) (rE.ext hd.1) aE) fun g' w' v hs hr => ⟨g', hs, hr⟩) (fun lG hv => ?_)
        obtain ⟨_, _, _, rfl⟩ := hv
        refine L_p xB rfl rfl (bE ▸ P_build (vs := [(0, .int .i64 (o0)), (1, .int .i64 (j3))]) [[.int .i64 0], [.int .i64 0], [.int .i64 0]] lay_135 rfl rfl (.cons rfl (.cons rfl .nil)) ⟨⟨_, rfl, rfl⟩, ⟨⟨_, rfl, rfl⟩, trivial⟩⟩) ?_
        refine L_do (φ := fun v g w => OB 2008 g w 135 (⟨0, 0, 0⟩ : SeamPlan) v) rfl rfl .plain (fun g w hd => D_allocX (g := g) 2008 (⟨0, 0, 0⟩ : SeamPlan) Try.zeroValue135 (fun m w => ⟨_, (rep_two rep_int (rep_two rep_int rep_int)), rfl⟩) fun g' w' v hs b => ⟨g', hs, b⟩) (fun n7 hv => ?_)
        clear hv
        refine L_nil fun sE mG hall => ?_
        have hs := hall.1
        have hfr := hfr.ext hs
        have z3 := z3.ext hs
        have i3 := i3.ext hs
        have z2 := z2.ext hs
        have t5 := t5.ext hs
        have u3 := u3.ext hs
        have x8 := x8.ext hs
        have b1202 := (word_all (A := fun g w => OB 2008 g w 135 (⟨0, 0, 0⟩ : SeamPlan) n7) 13 rfl hall)
        clear hs hall
        refine EL_do .plain rfl (D_storeOc (g := sE) (v := xB) Try.sizeOf135 rfl b1202 rfl x8 fun xA nG hs b1203 cb => ?_)
        clear cb
        have hfr := hfr.stp hs
        have z3 := z3.stp hs
        have i3 := i3.stp hs rfl
        have z2 := z2.stp hs rfl
        have t5 := t5.stp hs rfl
        have u3 := u3.stp hs
        refine EL_nil (thn_n (E_seq (E_region (EL_p (fPtr n7 1) (P_fieldAddr at_135_1 rfl (OB.ptr b1203)) rfl ?_))))
        refine EL_do .plain rfl (D_loadF (g := xA) part_SeamPlan_1.1 Try.isAgg3 Try.sizeOf3 rfl b1203 fun oG tE => ?_)
        obtain rfl := RV_int.1 tE
        refine EL_p (fPtr uA 1) (P_fieldAddr at_68_1 gA (OB.ptr t5)) rfl ?_
        refine EL_do .plain rfl (D_loadF (g := xA) part_SeamCut_1.1 Try.isAgg3 Try.sizeOf3 rfl t5 fun pG uE => ?_)
        obtain rfl := RV_int.1 uE
        refine EL_in (.int .i64 ((w64 (j3 + (i6).Picks)))) rfl rfl rfl rfl ?_
        refine EL_p (fPtr n7 2) (P_fieldAddr at_135_2 rfl (OB.ptr b1203)) rfl ?_
        refine EL_do .plain rfl (D_storeFc (g := xA) part_SeamPlan_2 Try.sizeOf3 rfl b1203 rfl (RV_int.2 rfl) fun g8 qG hs b1209 rst hos => ?_)
        clear rst hos
        have hfr := hfr.stp hs
        have z3 := z3.stp hs
        have i3 := i3.stp hs rfl
        have z2 := z2.stp hs rfl
        have u3 := u3.stp hs
        refine EL_nil (thn_n ?_)
        obtain ⟨x6, hx, h⟩ := bsome h
        refine E_join (fun e w => ∃ (g : Gh) , Fr gI wI g w ∧ e 1 = p1 ∧ PT g.m w (x0 : SeamTailor) p1 ∧ e 3 = v6 ∧ OA 4003 g w 135 (d3 : List SeamPlan) v6 ∧ e 4 = .int .i64 (u0) ∧ e 5 = x5 ∧ OB 2005 g w 135 (j1 : SeamPlan) x5 ∧ e 8 = n7 ∧ OB 2008 g w 135 ((⟨o0, j3, (w64 (j3 + (i6).Picks))⟩ : SeamPlan) : SeamPlan) n7 ∧ e 22 = j6 ∧ RV g.m w ((x0).cuts : List SeamCut) j6 ∧ e 23 = .int .i64 ((((x0).cuts).length : Int)) ∧ e 24 = .int .i64 (o0) ∧ e 62 = .bool (x6)) (fun Q' hQ => ?_) (fun zF rG hR => ?_)
        ·replace h := hx
         clear hx
         refine E_region (EL_p (fPtr x5 2) (P_fieldAddr at_135_2 m7 (OB.ptr z2)) rfl ?_)
         refine EL_do .plain rfl (D_loadF (g := g8) part_SeamPlan_2.1 Try.isAgg3 Try.sizeOf3 rfl z2 fun sG vE => ?_)
         obtain rfl := RV_int.1 vE
         refine EL_in (.bool ((decide ((j1).end_ < (0 : Int))))) rfl rfl rfl rfl ?_
         refine EL_mw (.bool ((decide ((j1).end_ < (0 : Int))))) rfl rfl ?_
         rcases csome h with ⟨z4, h⟩ | ⟨z4, h⟩
         ·refine EL_s rfl rfl z4 rfl rfl ?_
          iterate 4 refine EL_s rfl rfl z4 rfl rfl ?_
          refine EL_p (.bool true) (P_pick (b := (decide ((j1).end_ < (0 : Int)))) rfl (pick_t z4 rfl)) rfl ?_
          refine EL_nil ?_
          obtain rfl := sinj h
          exact hQ _ _ ⟨g8, hfr, n8, z3, o8, i3, q8, m7, z2, rfl, b1209, i9, u3, k9, l9, rfl⟩
         ·refine EL_y (fPtr n7 2) (P_fieldAddr at_135_2 rfl (OB.ptr b1209)) rfl rfl z4 rfl ?_
          refine EL_do (.yes2 rfl rfl z4) rfl (D_loadF (g := g8) part_SeamPlan_2.1 Try.isAgg3 Try.sizeOf3 rfl b1209 fun tG xE => ?_)
          obtain rfl := RV_int.1 xE
          refine EL_y (fPtr x5 2) (P_fieldAddr at_135_2 m7 (OB.ptr z2)) rfl rfl z4 rfl ?_
          refine EL_do (.yes2 rfl rfl z4) rfl (D_loadF (g := g8) part_SeamPlan_2.1 Try.isAgg3 Try.sizeOf3 rfl z2 fun uG yE => ?_)
          obtain rfl := RV_int.1 yE
          refine EL_y (.bool ((decide ((w64 (j3 + (i6).Picks)) < (j1).end_)))) (P_int rfl rfl rfl) rfl rfl z4 rfl ?_
          refine EL_p (.bool ((decide ((w64 (j3 + (i6).Picks)) < (j1).end_)))) (P_pick (b := (decide ((j1).end_ < (0 : Int)))) rfl (pick_f z4 rfl)) rfl ?_
          refine EL_nil ?_
          obtain rfl := sinj h
          exact hQ _ _ ⟨g8, hfr, n8, z3, o8, i3, q8, m7, z2, rfl, b1209, i9, u3, k9, l9, rfl⟩
        ·clear hx
         obtain ⟨yA, hfr, iA, o7, jA, u7, kA, r8, lA, zB, aC, o9, b7, t9, u9, y9⟩ := hR
         rcases csome h with ⟨z9, h⟩ | ⟨z9, h⟩
         ·refine E_cond_true (Eq.trans (show ev _ _ = .bool (x6) from y9) (congrArg Value.bool z9)) ?_
          refine E_region (EL_do .plain rfl (D_loadO (g := yA) Try.isAgg135 Try.sizeOf135 zB aC fun zE cF => ?_))
          refine EL_do .plain rfl (D_storeOc (g := yA) (v := zE) Try.sizeOf135 r8 lA rfl cF fun dF vG hs b1227 cb => ?_)
          clear cb
          have hfr := hfr.stp hs
          have o7 := o7.stp hs
          have u7 := u7.stp hs rfl
          have b7 := b7.stp hs
          refine EL_nil (blk_n ?_)
          obtain rfl := sinj h
          exact hQ _ _ ⟨dF, hfr, iA, o7, jA, u7, kA, r8, b1227, o9, b7, t9, u9⟩
         ·refine E_cond_false (Eq.trans (show ev _ _ = .bool (x6) from y9) (congrArg Value.bool z9)) ?_
          refine E_skip (blk_n ?_)
          obtain rfl := sinj h
          exact hQ _ _ ⟨yA, hfr, iA, o7, jA, u7, kA, r8, lA, o9, b7, t9, u9⟩
      ·clear hx
       obtain ⟨eF, hfr, cC, dC, eC, iC, jC, kC, lC, dB, eB, iB, jB⟩ := hR
       refine E_region (EL_in (.int .i64 ((w64 (o0 + (1 : Int))))) jB rfl rfl rfl ?_)
       refine EL_mw (.int .i64 ((w64 (o0 + (1 : Int))))) rfl rfl ?_
       exact EL_nil (thn_n (sD (e7, (w64 (o0 + (1 : Int)))) _ _ ⟨eF, hfr, cC, dC, eC, iC, jC, kC, lC, dB, eB, iB, rfl⟩ h))
     ·refine E_cf d9 rfl ?_
      refine E_exit ?_
      refine thn_e ?_
      refine thn_e ?_
      refine blk_hit ?_
      obtain rfl := sinj h
      exact hQ _ _ ⟨rA, hfr, k8, i5, l8, l5, j7, m8, q5⟩
    ·clear hx
     obtain ⟨yB, hfr, mC, t8, mA, nA, oA, qC, rC⟩ := hR
     refine E_region (EL_mv mA rfl ?_)
     refine EL_mv oA rfl ?_
     refine EL_do .plain rfl (D_loadO (g := yB) Try.isAgg135 Try.sizeOf135 qC rC fun xG iF => ?_)
     obtain ⟨cE, cB, h⟩ := bsome h
     refine EL_p (ePtr v6 u0 3) (P_indexAddrM (α := SeamPlan) Try.underlying132 Try.sizeOf135 rfl (nA.toM) rfl cB) rfl ?_
     refine EL_do .plain rfl (D_storeA (g := yB) (α := SeamPlan) (a' := g7) Try.sizeOf135 rfl nA cB rfl iF fun nF yG hs b1232 => ?_)
     have hfr := hfr.stp hs
     have t8 := t8.stp hs
     refine EL_nil (blk_n ?_)
     obtain rfl := sinj h
     exact hQ _ _ ⟨nF, hfr, mC, t8, mA, b1232, oA⟩
   ·clear hx
    obtain ⟨oF, hfr, tC, uC, vC, xC, yC⟩ := hR
    refine E_region (EL_mv yC rfl ?_)
    refine EL_in (.int .i64 ((w64 (u0 + (1 : Int))))) rfl rfl rfl rfl ?_
    refine EL_at (.int .i64 ((w64 (u0 + (1 : Int))))) rfl rfl ?_
    exact EL_nil (thn_n (dE (i7, (w64 (u0 + (1 : Int)))) _ _ ⟨oF, hfr, tC, uC, vC, xC, rfl⟩ h))
 ·clear hx
  obtain ⟨zG, hfr, aD, bD⟩ := hR
  refine E_seq (E_region (EL_mv aD rfl ?_))
  obtain ⟨gp1235, hs, rp1235⟩ := OM.pub (bD.toM)
  have hfr := hfr.stp hs
  refine EL_at v6 rfl rfl ?_
  refine EL_nil (thn_n (E_ret ?_))
  obtain rfl := sinj h
  exact end1 rfl rfl (show _ = v6 from rfl) ⟨_, hfr, rp1235⟩
def f70 (x0 : TieTieHarness) (x1 : Int) : Option (Str) :=
 Option.bind (α := List UInt8) (
  lp (σ := List UInt8 × Int) (fun e7 (i3, o0) =>
   bif (decide (o0 < ((((x0).TieHarness).Warps).length : Int))) then
    Option.bind (α := List UInt8) (
     (f124 x0 x1 o0).bind fun q5 =>
     (f123 q5).bind fun t5 =>
     (apnd 1 i3 [t5]).bind fun y43 =>
     some (y43)
     ) fun z2 =>
    e7 (z2, (w64 (o0 + (1 : Int))))
   else
    some (i3)
   ) big (([] : List UInt8), (0 : Int))
  ) fun j3 =>
 (sbstr j3).bind fun z4 =>
 some (z4)
theorem en70 : Enters Try.prog 70 := enters_of Try.func70 (by kernel_rfl) rfl
theorem wk70 {gI : Gh} {wI : World} {x0 : TieTieHarness} {x1 : Int} {up0 : Value} (rp0 : RV gI.m wI x0 up0) {r : Str} (h : f70 x0 x1 = some r) : Fn Try.prog 70 #[up0, .int .i64 (x1)] gI wI (fun _ _ v => v = Str.v (r)) := by
 unfold f70 at h
 refine fn_of_E Try.func70 rfl (Nat.le_of_ble_eq_true rfl) fun g0 hm hfr => ?_
 have rp0 : RV g0.m wI x0 up0 := hm ▸ rp0
 show E _ 22 none _ _ _ _ _
 refine E_seq (E_region (EL_do .plain rfl (D_box (g := g0) rfl rp0 fun g1 w1 p1 hs q1 => ?_)))
 have hfr := hfr.ext hs
 refine EL_at (Str.v (⟨[]⟩ : Str)) rfl rfl ?_
 refine EL_nil (thn_n (E_seq (E_region (EL_do .plain rfl (D_allocOc (g := g1) 2005 ((⟨.pointer none, rfl⟩, []) : Fv × List UInt8) Try.zeroValue227 (fun m w => ⟨_, rep_two (show GoT.rep m w (⟨.pointer none, rfl⟩ : Fv) [.pointer none] from rfl) rep_nil, rfl⟩) fun g2 w2 p2 hs b2 cb => ?_)))))
 have hfr := hfr.stp hs
 have q1 := q1.stp hs
 replace b2 : SB 2005 60501 g2 w2 5 227 [] p2 := ⟨_, b2, cb.osf rfl, .inl rfl⟩
 clear cb
 refine EL_nil (thn_n ?_)
 obtain ⟨j3, hx, h⟩ := bsome h
 refine E_join (fun e w => ∃ (g : Gh) , Fr gI wI g w ∧ e 5 = p2 ∧ SB 2005 60501 g w 5 227 (j3) p2) (fun Q' hQ => ?_) (fun l8 r8 hR => ?_)
 ·replace h := hx
  clear hx
  refine E_seq (E_region (EL_p (fPtr p1 0) (P_fieldAddr at_155_0 rfl (PT.ptr q1)) rfl ?_))
  have g7 := PT_field (part_TieTieHarness_0).1 q1
  refine EL_p (fPtr (fPtr p1 0) 1) (P_fieldAddr at_28_1 rfl (PT.ptr g7)) rfl ?_
  have u7 := PT_field (part_TieHarness_1).1 g7
  refine EL_do .plain rfl (D_load (g := g2) Try.isAgg26 Try.sizeOf26 rfl u7 fun t8 v7 => ?_)
  refine EL_p (.int .i64 ((((x0).TieHarness).Warps).length : Int)) (P_len Try.underlying26 rfl v7) rfl ?_
  refine EL_mw (.int .i64 (0)) rfl rfl ?_
  refine EL_nil (thn_n (E_block ?_))
  refine E_lp h (fun (s : List UInt8 × Int) e w => ∃ (g : Gh) , Fr gI wI g w ∧ e 1 = .int .i64 (x1) ∧ e 2 = p1 ∧ PT g.m w (x0 : TieTieHarness) p1 ∧ e 5 = p2 ∧ SB 2005 60501 g w 5 227 (s.1) p2 ∧ e 10 = .int .i64 (((((x0).TieHarness).Warps).length : Int)) ∧ e 11 = .int .i64 (s.2)) ⟨g2, hfr, rfl, rfl, q1, rfl, b2, rfl, rfl⟩ (fun X27 e7 i7 => ?_)
  rintro ⟨i3, o0⟩ m8 v8 ⟨x5, hfr, i5, l5, u0, o3, j1, u3, d3⟩ h
  refine E_seq (E_region (EL_p (.bool ((decide (o0 < ((((x0).TieHarness).Warps).length : Int))))) (P_int d3 u3 rfl) rfl ?_))
  refine EL_nil (thn_n (E_seq ?_))
  rcases csome h with ⟨z3, h⟩ | ⟨z3, h⟩
  ·refine E_ct z3 rfl ?_
   refine E_skip (thn_n ?_)
   obtain ⟨z2, hx, h⟩ := bsome h
   refine E_join (fun e w => ∃ (g : Gh) , Fr gI wI g w ∧ e 1 = .int .i64 (x1) ∧ e 2 = p1 ∧ PT g.m w (x0 : TieTieHarness) p1 ∧ e 5 = p2 ∧ SB 2005 60501 g w 5 227 (z2) p2 ∧ e 10 = .int .i64 (((((x0).TieHarness).Warps).length : Int)) ∧ e 11 = .int .i64 (o0)) (fun Q' hQ => ?_) (fun n8 x8 hR => ?_)
   ·replace h := hx
    clear hx
    refine E_block ?_
    refine E_seq (E_region (EL_mv d3 rfl ?_))
    refine EL_at (.int .i64 (o0)) rfl rfl ?_
    refine EL_nil (thn_n (E_region (EL_do .plain rfl (D_load (g := x5) Try.isAgg155 Try.sizeOf155 l5 u0 fun c8 e8 => ?_))))
    refine EL_mv i5 rfl ?_
    refine EL_mw (.int .i64 (o0)) rfl rfl ?_
    obtain ⟨q5, j7, h⟩ := bsome h
    refine EL_do .plain rfl (D_call (g := x5) (vs := [c8, .int .i64 (x1), .int .i64 (o0)]) en124 (.cons rfl (.cons rfl (.cons rfl .nil))) (wk124 e8 j7) fun g8 o8 y8 hs hr => ?_)
    have hfr := hfr.ext hs
    have u0 := u0.ext hs
    have j1 := j1.ext hs
    subst hr
    obtain ⟨t5, m7, h⟩ := bsome h
    refine EL_do .plain rfl (D_call (g := g8) (vs := [.bool (q5)]) en123 (.cons rfl .nil) (wk123  m7) fun a9 q8 d9 hs hr => ?_)
    have hfr := hfr.ext hs
    have u0 := u0.ext hs
    have j1 := j1.ext hs
    subst hr
    obtain ⟨y43, n7, h⟩ := bsome h
    refine EL_do .plain rfl (D_callC (vs := [p2, .int .u8 (UInt8.toNat (t5))]) en122 (.cons o3 (.cons rfl .nil)) (wk122 (i := 2005) (j := 60501) rfl rfl j1 n7) fun e9 i9 hq => ?_)
    obtain ⟨hv, i8, ⟨_, _, _, _, hs1, hs2, hs3⟩, b42⟩ := hq
    subst hv
    have hfr := hfr.stp hs1
    have u0 := u0.stp hs1
    have hfr := hfr.stp hs2
    have u0 := u0.stp hs2
    have hfr := hfr.stp hs3
    have u0 := u0.stp hs3
    clear hs1 hs2 hs3
    refine EL_nil (blk_n ?_)
    obtain rfl := sinj h
    exact hQ _ _ ⟨i8, hfr, i5, l5, u0, o3, b42, u3, d3⟩
   ·clear hx
    obtain ⟨k8, hfr, v6, x6, y6, a7, b7, i6, j6⟩ := hR
    refine E_region (EL_in (.int .i64 ((w64 (o0 + (1 : Int))))) j6 rfl rfl rfl ?_)
    refine EL_mw (.int .i64 ((w64 (o0 + (1 : Int))))) rfl rfl ?_
    exact EL_nil (thn_n (i7 (z2, (w64 (o0 + (1 : Int)))) _ _ ⟨k8, hfr, v6, x6, y6, a7, b7, i6, rfl⟩ h))
  ·refine E_cf z3 rfl ?_
   refine E_exit ?_
   refine thn_e ?_
   refine thn_e ?_
   refine blk_hit ?_
   obtain rfl := sinj h
   exact hQ _ _ ⟨x5, hfr, o3, j1⟩
 ·clear hx
  obtain ⟨k9, hfr, c7, d7⟩ := hR
  refine E_seq (E_region ?_)
  obtain ⟨z4, o7, h⟩ := bsome h
  obtain ⟨hne46, hye46⟩ := sbstr_h o7
  refine EL_do .plain rfl (D_callC (vs := [p2]) en125 (.cons c7 .nil) (wk125 (i := 2005) (j := 60501) rfl d7 hne46) fun l9 n9 hq => ?_)
  obtain ⟨hv, o9, hs⟩ := hq
  rw [← hye46] at hv
  subst hv
  have hfr := hfr.stp hs
  refine EL_at (Str.v z4) rfl rfl ?_
  refine EL_nil (thn_n (E_ret ?_))
  obtain rfl := sinj h
  exact end1 rfl rfl (show _ = Str.v z4 from rfl) ⟨_, hfr, rfl⟩
def f88 (x0 : FaultDamage) (x1 : FaultDamage) : Option (Int) :=
 (f89 ((x0).Kind)).bind fun y6 =>
 (f89 ((x1).Kind)).bind fun o0 =>
 some ((w64 (y6 - o0)))
theorem en88 : Enters Try.prog 88 := enters_of Try.func88 (by kernel_rfl) rfl
theorem wk88 {gI : Gh} {wI : World} {x0 : FaultDamage} {x1 : FaultDamage} {up0 : Value} (rp0 : RV gI.m wI x0 up0) {up1 : Value} (rp1 : RV gI.m wI x1 up1) {r : Int} (h : f88 x0 x1 = some r) : Fn Try.prog 88 #[up0, up1] gI wI (fun _ _ v => v = .int .i64 (r)) := by
 unfold f88 at h
 refine fn_of_E Try.func88 rfl (Nat.le_of_ble_eq_true rfl) fun g0 hm hfr => ?_
 have rp0 : RV g0.m wI x0 up0 := hm ▸ rp0
 have rp1 : RV g0.m wI x1 up1 := hm ▸ rp1
 show E _ 12 none _ _ _ _ _
 refine E_seq (E_region (EL_do .plain rfl (D_box (g := g0) rfl rp0 fun g1 w1 p1 hs q1 => ?_)))
 have hfr := hfr.ext hs
 have rp1 := rp1.ext hs
 refine EL_do .plain rfl (D_box (g := g1) rfl rp1 fun g2 w2 p2 hs q2 => ?_)
 have hfr := hfr.ext hs
 have q1 := q1.ext hs
 refine EL_at (.int .i64 (0)) rfl rfl ?_
 refine EL_nil (thn_n (E_seq ?_))
 have q3 := PT_field (part_FaultDamage_0).1 q1
 refine L_load (x := .tmp 5) Try.isAgg35 Try.sizeOf35 q3 fun v4 r4 j1 => ?_
 obtain rfl := RV_int.1 r4
 obtain ⟨y6, z2, h⟩ := bsome h
 have q7 := PT_field (part_FaultDamage_0).1 q2
 refine L_load (x := .tmp 8) Try.isAgg35 Try.sizeOf35 q7 fun v8 r8 d3 => ?_
 obtain rfl := RV_int.1 r8
 obtain ⟨o0, u0, h⟩ := bsome h
 refine E_drawL (g := g2) (n := 8) [(2, (fun v g w => v = .int .i64 (y6))), (5, (fun v g w => v = .int .i64 (o0)))] [0, 1, 2, 3, 4, 5, 6, 7] rfl mixed (by kernel_rfl) (⟨fun _ => up_eq _, fun _ => up_eq _, trivial⟩) ?_
 refine L_p (fPtr p1 0) rfl rfl (P_fieldAddr at_37_0 rfl (PT.ptr q1)) ?_
 refine L_ld (c := .int .i64 ((x0).Kind)) rfl rfl .plain (fun _ _ h => h.ch) j1 rfl ?_
 refine L_do (φ := fun v g w => v = .int .i64 (y6)) rfl rfl .plain (fun g w hd => D_call (g := g) (vs := [.int .i64 ((x0).Kind)]) en89 (.cons rfl .nil) (wk89  z2) fun g' w' v hs hr => ⟨g', hs, hr⟩) (fun v5 hv => ?_)
 obtain ⟨_, _, _, rfl⟩ := hv
 refine L_p (fPtr p2 0) rfl rfl (P_fieldAddr at_37_0 rfl (PT.ptr q2)) ?_
 refine L_ld (c := .int .i64 ((x1).Kind)) rfl rfl .plain (fun _ _ h => h.ch) d3 rfl ?_
 refine L_do (φ := fun v g w => v = .int .i64 (o0)) rfl rfl .plain (fun g w hd => D_call (g := g) (vs := [.int .i64 ((x1).Kind)]) en89 (.cons rfl .nil) (wk89  u0) fun g' w' v hs hr => ⟨g', hs, hr⟩) (fun v9 hv => ?_)
 obtain ⟨_, _, _, rfl⟩ := hv
 refine L_p (.int .i64 ((w64 (y6 - o0)))) rfl rfl (P_int rfl rfl rfl) ?_
 refine L_p (.int .i64 ((w64 (y6 - o0)))) rfl rfl (P_assign rfl) ?_
 refine L_nl fun i3 j3 hs => ?_
 have hfr := hfr.ext hs
 clear hs
 refine EL_nil (thn_n (E_ret ?_))
 obtain rfl := sinj h
 exact end1 rfl rfl (show _ = .int .i64 ((w64 (y6 - o0))) from rfl) ⟨_, hfr, rfl⟩
def f91 (x0 : List Int) (x1 : Int → Option Bool) : Option (Bool) :=
 (f145 x0 x1).bind fun y2 =>
 some ((decide (y2 ≥ (0 : Int))))
theorem en91 : Enters Try.prog 91 := enters_of Try.func91 (by kernel_rfl) rfl
theorem wk91 {gI : Gh} {wI : World} {x0 : List Int} {x1 : Int → Option Bool} {up0 : Value} (rp0 : RV gI.m wI x0 up0) {up1 : Value} (rp1 : FnV1 Try.prog x1 up1 gI wI) {r : Bool} (h : f91 x0 x1 = some r) : Fn Try.prog 91 #[up0, up1] gI wI (fun _ _ v => v = .bool (r)) := by
 unfold f91 at h
 refine fn_of_E Try.func91 rfl (Nat.le_of_ble_eq_true rfl) fun g0 hm hfr => ?_
 have rp0 : RV g0.m wI x0 up0 := hm ▸ rp0
 obtain ⟨ff1, fa1, fc1, rfl, fen1, fcl1⟩ := rp1
 show E _ 9 none _ _ _ _ _
 refine E_seq (E_region (EL_at (.bool false) rfl rfl ?_))
 refine EL_nil (thn_n (E_seq (E_region (EL_mw up0 rfl rfl ?_))))
 refine EL_mw ((.func (.func ff1) fa1 fc1)) rfl rfl ?_
 obtain ⟨y2, hy2, h⟩ := bsome h
 refine EL_do .plain rfl (D_call (g := g0) (vs := [up0, (.func (.func ff1) fa1 fc1)]) en145 (.cons rfl (.cons rfl .nil)) (wk145 rp0 (FnV1.ch ⟨_, _, _, rfl, fen1, fcl1⟩ hfr.ch) hy2) fun g1 w1_ v1 hs hr => ?_)
 have hfr := hfr.ext hs
 subst hr
 refine EL_in (.bool ((decide (y2 ≥ (0 : Int))))) rfl rfl rfl rfl ?_
 refine EL_at (.bool ((decide (y2 ≥ (0 : Int))))) rfl rfl ?_
 refine EL_nil (thn_n (E_ret ?_))
 obtain rfl := sinj h
 exact end1 rfl rfl (show _ = .bool ((decide (y2 ≥ (0 : Int)))) from rfl) ⟨_, hfr, rfl⟩
def f107 (x0 : Int) (x1 : Int) (x2 : List Int) : Option (Bool) :=
 (f91 x2 ((fun a0 => f150 a0 x0 x1))).bind fun y4 =>
 some ((!y4))
theorem en107 : Enters Try.prog 107 := enters_of Try.func107 (by kernel_rfl) rfl
theorem wk107 {gI : Gh} {wI : World} {x0 : Int} {x1 : Int} {x2 : List Int} {up2 : Value} (rp2 : RV gI.m wI x2 up2) {r : Bool} (h : f107 x0 x1 x2 = some r) : Fn Try.prog 107 #[.int .i64 (x0), .int .i64 (x1), up2] gI wI (fun _ _ v => v = .bool (r)) := by
 unfold f107 at h
 refine fn_of_E Try.func107 rfl (Nat.le_of_ble_eq_true rfl) fun g0 hm hfr => ?_
 have rp2 : RV g0.m wI x2 up2 := hm ▸ rp2
 show E _ 11 none _ _ _ _ _
 refine E_seq (E_region (EL_do .plain rfl (D_box (g := g0) rfl (RV_int.2 rfl) fun g1 w1 p1 hs q1 => ?_)))
 have hfr := hfr.ext hs
 have rp2 := rp2.ext hs
 refine EL_do .plain rfl (D_box (g := g1) rfl (RV_int.2 rfl) fun g2 w2 p2 hs q2 => ?_)
 have hfr := hfr.ext hs
 have rp2 := rp2.ext hs
 have q1 := q1.ext hs
 refine EL_at (.bool false) rfl rfl ?_
 refine EL_nil (thn_n (E_seq (E_region (EL_mw up2 rfl rfl ?_))))
 refine EL_p ((.func (.func 150) #[] #[p1, p2])) (P_makeFunc (capf_0_2 (show ev _ _ = p1 from rfl) (show ev _ _ = p2 from rfl))) rfl ?_
 obtain ⟨y4, o0, h⟩ := bsome h
 refine EL_do .plain rfl (D_call (g := g2) (vs := [up2, (.func (.func 150) #[] #[p1, p2])]) en91 (.cons rfl (.cons rfl .nil)) (wk91 rp2 ⟨150, #[], #[p1, p2], rfl, en150, fun g' w' hch a0 b0 r hu0 hr => by obtain rfl := RV_int.1 hu0; exact Fn.mono (wk150  (q1.ch hch) (q2.ch hch) hr) fun _ _ _ h => RV_bool.2 h⟩ o0) fun g3 w3_ v3 hs hr => ?_)
 have hfr := hfr.ext hs
 subst hr
 refine EL_p (.bool (!y4)) (P_not rfl) rfl ?_
 refine EL_at (.bool (!y4)) rfl rfl ?_
 refine EL_nil (thn_n (E_ret ?_))
 obtain rfl := sinj h
 exact end1 rfl rfl (show _ = .bool (!y4) from rfl) ⟨_, hfr, rfl⟩
def f108 (x0 : List SeamCut) (x1 : SeamCut → Option Bool) : Option (Bool) :=
 (f151 x0 x1).bind fun y2 =>
 some ((decide (y2 ≥ (0 : Int))))
theorem en108 : Enters Try.prog 108 := enters_of Try.func108 (by kernel_rfl) rfl
theorem wk108 {gI : Gh} {wI : World} {x0 : List SeamCut} {x1 : SeamCut → Option Bool} {up0 : Value} (rp0 : RV gI.m wI x0 up0) {up1 : Value} (rp1 : FnV1 Try.prog x1 up1 gI wI) {r : Bool} (h : f108 x0 x1 = some r) : Fn Try.prog 108 #[up0, up1] gI wI (fun _ _ v => v = .bool (r)) := by
 unfold f108 at h
 refine fn_of_E Try.func108 rfl (Nat.le_of_ble_eq_true rfl) fun g0 hm hfr => ?_
 have rp0 : RV g0.m wI x0 up0 := hm ▸ rp0
 obtain ⟨ff1, fa1, fc1, rfl, fen1, fcl1⟩ := rp1
 show E _ 9 none _ _ _ _ _
 refine E_seq (E_region (EL_at (.bool false) rfl rfl ?_))
 refine EL_nil (thn_n (E_seq (E_region (EL_mw up0 rfl rfl ?_))))
 refine EL_mw ((.func (.func ff1) fa1 fc1)) rfl rfl ?_
 obtain ⟨y2, hy2, h⟩ := bsome h
 refine EL_do .plain rfl (D_call (g := g0) (vs := [up0, (.func (.func ff1) fa1 fc1)]) en151 (.cons rfl (.cons rfl .nil)) (wk151 rp0 (FnV1.ch ⟨_, _, _, rfl, fen1, fcl1⟩ hfr.ch) hy2) fun g1 w1_ v1 hs hr => ?_)
 have hfr := hfr.ext hs
 subst hr
 refine EL_in (.bool ((decide (y2 ≥ (0 : Int))))) rfl rfl rfl rfl ?_
 refine EL_at (.bool ((decide (y2 ≥ (0 : Int))))) rfl rfl ?_
 refine EL_nil (thn_n (E_ret ?_))
 obtain rfl := sinj h
 exact end1 rfl rfl (show _ = .bool ((decide (y2 ≥ (0 : Int)))) from rfl) ⟨_, hfr, rfl⟩
def f111 (x0 : List Span) : Option (Int) :=
 Option.bind (α := Int) (
  lp (σ := Int × Int) (fun y6 (j1, o0) =>
   bif (decide (o0 < ((x0).length : Int))) then
    Option.bind (α := Int) (
     (idx x0 o0).bind fun a7 =>
     (f115 a7).bind fun o3 =>
     some ((max64 j1 o3))
     ) fun d3 =>
    y6 (d3, (w64 (o0 + (1 : Int))))
   else
    some (j1)
   ) big ((0 : Int), (0 : Int))
  ) fun z2 =>
 some (z2)
theorem en111 : Enters Try.prog 111 := enters_of Try.func111 (by kernel_rfl) rfl
theorem wk111 {gI : Gh} {wI : World} {x0 : List Span} {up0 : Value} (rp0 : RV gI.m wI x0 up0) {r : Int} (h : f111 x0 = some r) : Fn Try.prog 111 #[up0] gI wI (fun _ _ v => v = .int .i64 (r)) := by
 unfold f111 at h
 refine fn_of_E Try.func111 rfl (Nat.le_of_ble_eq_true rfl) fun g0 hm hfr => ?_
 have rp0 : RV g0.m wI x0 up0 := hm ▸ rp0
 show E _ 17 none _ _ _ _ _
 refine E_seq (E_region (EL_at (.int .i64 (0)) rfl rfl ?_))
 refine EL_nil (thn_n ?_)
 obtain ⟨z2, hx, h⟩ := bsome h
 refine E_join (fun e w => ∃ (g : Gh) , Fr gI wI g w ∧ e 2 = .int .i64 (z2)) (fun Q' hQ => ?_) (fun u7 g8 hR => ?_)
 ·replace h := hx
  clear hx
  refine E_seq (E_region (EL_mw up0 rfl rfl ?_))
  refine EL_p (.int .i64 ((x0).length : Int)) (P_len Try.underlying207 rfl rp0) rfl ?_
  refine EL_mw (.int .i64 (0)) rfl rfl ?_
  refine EL_nil (thn_n (E_block ?_))
  refine E_lp h (fun (s : Int × Int) e w => ∃ (g : Gh) , Fr gI wI g w ∧ e 2 = .int .i64 (s.1) ∧ e 5 = up0 ∧ RV g.m w (x0 : List Span) up0 ∧ e 6 = .int .i64 (((x0).length : Int)) ∧ e 7 = .int .i64 (s.2)) ⟨g0, hfr, rfl, rfl, rp0, rfl, rfl⟩ (fun X21 y6 c7 => ?_)
  rintro ⟨j1, o0⟩ v7 i8 ⟨i5, hfr, u3, z3, u0, z4, i3⟩ h
  refine E_seq (E_region (EL_in (.bool ((decide (o0 < ((x0).length : Int))))) i3 z4 rfl rfl ?_))
  refine EL_nil (thn_n (E_seq ?_))
  rcases csome h with ⟨j3, h⟩ | ⟨j3, h⟩
  ·refine E_ct j3 rfl ?_
   refine E_skip (thn_n ?_)
   obtain ⟨d3, hx, h⟩ := bsome h
   refine E_join (fun e w => ∃ (g : Gh) , Fr gI wI g w ∧ e 2 = .int .i64 (d3) ∧ e 5 = up0 ∧ RV g.m w (x0 : List Span) up0 ∧ e 6 = .int .i64 (((x0).length : Int)) ∧ e 7 = .int .i64 (o0)) (fun Q' hQ => ?_) (fun c8 k8 hR => ?_)
   ·replace h := hx
    clear hx
    refine E_block ?_
    refine E_seq (E_region ?_)
    obtain ⟨a7, l5, h⟩ := bsome h
    refine EL_p (ePtr up0 o0 2) (P_indexAddr (α := Span) Try.underlying207 Try.sizeOf137 z3 u0 i3 l5) rfl ?_
    have e7 := PT_idx u0 l5
    refine EL_do .plain rfl (D_load (g := i5) Try.isAgg137 Try.sizeOf137 rfl e7 fun g7 q5 => ?_)
    refine EL_do .plain rfl (D_allocOc (g := i5) 2004 (⟨0, 0⟩ : Span) Try.zeroValue137 (fun m w => ⟨_, (rep_two rep_int rep_int), rfl⟩) fun i7 l8 m8 hs b35 cb => ?_)
    have hfr := hfr.stp hs
    have u0 := u0.stp hs
    have q5 := q5.stp hs
    clear cb
    refine EL_do .plain rfl (D_storeOc (g := i7) (v := g7) Try.sizeOf137 rfl b35 rfl q5 fun b7 n8 hs b36 cb => ?_)
    clear cb
    have hfr := hfr.stp hs
    have u0 := u0.stp hs
    refine EL_nil (thn_n (E_region (EL_mv u3 rfl ?_)))
    refine EL_do .plain rfl (D_loadO (g := b7) Try.isAgg137 Try.sizeOf137 rfl b36 fun j7 m7 => ?_)
    obtain ⟨o3, d7, h⟩ := bsome h
    refine EL_do .plain rfl (D_call (g := b7) (vs := [j7]) en115 (.cons rfl .nil) (wk115 m7 d7) fun n7 e8 o8 hs hr => ?_)
    have hfr := hfr.ext hs
    have u0 := u0.ext hs
    subst hr
    refine EL_p (.int .i64 (max64 j1 o3)) (P_max rfl rfl) rfl ?_
    refine EL_at (.int .i64 (max64 j1 o3)) rfl rfl ?_
    refine EL_nil (blk_n ?_)
    obtain rfl := sinj h
    exact hQ _ _ ⟨n7, hfr, rfl, z3, u0, z4, i3⟩
   ·clear hx
    obtain ⟨o7, hfr, t5, x5, i6, j6, v6⟩ := hR
    refine E_region (EL_in (.int .i64 ((w64 (o0 + (1 : Int))))) v6 rfl rfl rfl ?_)
    refine EL_mw (.int .i64 ((w64 (o0 + (1 : Int))))) rfl rfl ?_
    exact EL_nil (thn_n (c7 (d3, (w64 (o0 + (1 : Int)))) _ _ ⟨o7, hfr, t5, x5, i6, j6, rfl⟩ h))
  ·refine E_cf j3 rfl ?_
   refine E_exit ?_
   refine thn_e ?_
   refine thn_e ?_
   refine blk_hit ?_
   obtain rfl := sinj h
   exact hQ _ _ ⟨i5, hfr, u3⟩
 ·clear hx
  obtain ⟨q8, hfr, x6⟩ := hR
  refine E_seq (E_region (EL_mv x6 rfl ?_))
  refine EL_at (.int .i64 (z2)) rfl rfl ?_
  refine EL_nil (thn_n (E_ret ?_))
  obtain rfl := sinj h
  exact end1 rfl rfl (show _ = .int .i64 (z2) from rfl) ⟨_, hfr, rfl⟩
def f121 (x0 : Int) (x1 : Int) (x2 : List Int) : Option (Bool) :=
 (f91 x2 ((fun a0 => f160 a0 x0 x1))).bind fun y4 =>
 some ((!y4))
theorem en121 : Enters Try.prog 121 := enters_of Try.func121 (by kernel_rfl) rfl
theorem wk121 {gI : Gh} {wI : World} {x0 : Int} {x1 : Int} {x2 : List Int} {up2 : Value} (rp2 : RV gI.m wI x2 up2) {r : Bool} (h : f121 x0 x1 x2 = some r) : Fn Try.prog 121 #[.int .i64 (x0), .int .i64 (x1), up2] gI wI (fun _ _ v => v = .bool (r)) := by
 unfold f121 at h
 refine fn_of_E Try.func121 rfl (Nat.le_of_ble_eq_true rfl) fun g0 hm hfr => ?_
 have rp2 : RV g0.m wI x2 up2 := hm ▸ rp2
 show E _ 11 none _ _ _ _ _
 refine E_seq (E_region (EL_do .plain rfl (D_box (g := g0) rfl (RV_int.2 rfl) fun g1 w1 p1 hs q1 => ?_)))
 have hfr := hfr.ext hs
 have rp2 := rp2.ext hs
 refine EL_do .plain rfl (D_box (g := g1) rfl (RV_int.2 rfl) fun g2 w2 p2 hs q2 => ?_)
 have hfr := hfr.ext hs
 have rp2 := rp2.ext hs
 have q1 := q1.ext hs
 refine EL_at (.bool false) rfl rfl ?_
 refine EL_nil (thn_n (E_seq (E_region (EL_mw up2 rfl rfl ?_))))
 refine EL_p ((.func (.func 160) #[] #[p1, p2])) (P_makeFunc (capf_0_2 (show ev _ _ = p1 from rfl) (show ev _ _ = p2 from rfl))) rfl ?_
 obtain ⟨y4, o0, h⟩ := bsome h
 refine EL_do .plain rfl (D_call (g := g2) (vs := [up2, (.func (.func 160) #[] #[p1, p2])]) en91 (.cons rfl (.cons rfl .nil)) (wk91 rp2 ⟨160, #[], #[p1, p2], rfl, en160, fun g' w' hch a0 b0 r hu0 hr => by obtain rfl := RV_int.1 hu0; exact Fn.mono (wk160  (q1.ch hch) (q2.ch hch) hr) fun _ _ _ h => RV_bool.2 h⟩ o0) fun g3 w3_ v3 hs hr => ?_)
 have hfr := hfr.ext hs
 subst hr
 refine EL_p (.bool (!y4)) (P_not rfl) rfl ?_
 refine EL_at (.bool (!y4)) rfl rfl ?_
 refine EL_nil (thn_n (E_ret ?_))
 obtain rfl := sinj h
 exact end1 rfl rfl (show _ = .bool (!y4) from rfl) ⟨_, hfr, rfl⟩
end Go.Proofs.Ytdkgoipaohacgaa
