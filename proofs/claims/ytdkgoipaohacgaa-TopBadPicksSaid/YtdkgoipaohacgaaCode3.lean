import Derived.Test.YtdkgoipaohacgaaCode2
set_option maxRecDepth 8000
set_option maxHeartbeats 4000000
namespace Go.Proofs.Ytdkgoipaohacgaa
open Go.RowKit
def f138 (x0 : List FaultDamage) (x1 : FaultDamage → Option Bool) : Option (Bool) :=
 (f176 x0 x1).bind fun y2 =>
 some ((decide (y2 ≥ (0 : Int))))
theorem en138 : Enters Try.prog 138 := enters_of Try.func138 (by kernel_rfl) rfl
theorem wk138 {gI : Gh} {wI : World} {x0 : List FaultDamage} {x1 : FaultDamage → Option Bool} {up0 : Value} (rp0 : RV gI.m wI x0 up0) {up1 : Value} (rp1 : FnV1 Try.prog x1 up1 gI wI) {r : Bool} (h : f138 x0 x1 = some r) : Fn Try.prog 138 #[up0, up1] gI wI (fun _ _ v => v = .bool (r)) := by
 unfold f138 at h
 refine fn_of_E Try.func138 rfl (Nat.le_of_ble_eq_true rfl) fun g0 hm hfr => ?_
 have rp0 : RV g0.m wI x0 up0 := hm ▸ rp0
 obtain ⟨ff1, fa1, fc1, rfl, fen1, fcl1⟩ := rp1
 show E _ 9 none _ _ _ _ _
 refine E_seq (E_region (EL_at (.bool false) rfl rfl ?_))
 refine EL_nil (thn_n (E_seq (E_region (EL_mw up0 rfl rfl ?_))))
 refine EL_mw ((.func (.func ff1) fa1 fc1)) rfl rfl ?_
 obtain ⟨y2, hy2, h⟩ := bsome h
 refine EL_do .plain rfl (D_call (g := g0) (vs := [up0, (.func (.func ff1) fa1 fc1)]) en176 (.cons rfl (.cons rfl .nil)) (wk176 rp0 (FnV1.ch ⟨_, _, _, rfl, fen1, fcl1⟩ hfr.ch) hy2) fun g1 w1_ v1 hs hr => ?_)
 have hfr := hfr.ext hs
 subst hr
 refine EL_in (.bool ((decide (y2 ≥ (0 : Int))))) rfl rfl rfl rfl ?_
 refine EL_at (.bool ((decide (y2 ≥ (0 : Int))))) rfl rfl ?_
 refine EL_nil (thn_n (E_ret ?_))
 obtain rfl := sinj h
 exact end1 rfl rfl (show _ = .bool ((decide (y2 ≥ (0 : Int)))) from rfl) ⟨_, hfr, rfl⟩
def f155 (x0 : List Span) : Option ((List Span)) :=
 Option.bind (α := (List Span)) (
  lp (σ := (List Span) × Int) (fun m8 (z3, o0) =>
   bif (decide (o0 < ((x0).length : Int))) then
    Option.bind (α := (List Span)) (
     (idx x0 o0).bind fun y110 =>
     (idx z3 o0).bind fun a7 =>
     (f183 a7 y110).bind fun u0 =>
     (apnd 16 z3 (([u0] : List Span))).bind fun b7 =>
     some (b7)
     ) fun i3 =>
    m8 (i3, (w64 (o0 + (1 : Int))))
   else
    some (z3)
   ) big (([(⟨0, 0⟩ : Span)] : List Span), (0 : Int))
  ) fun j3 =>
 some (j3)
theorem en155 : Enters Try.prog 155 := enters_of Try.func155 (by kernel_rfl) rfl
theorem wk155 {gI : Gh} {wI : World} {x0 : List Span} {up0 : Value} (rp0 : RV gI.m wI x0 up0) {r : (List Span)} (h : f155 x0 = some r) : Fn Try.prog 155 #[up0] gI wI (fun m w v => RV m w (r) v) := by
 unfold f155 at h
 refine fn_of_E Try.func155 rfl (Nat.le_of_ble_eq_true rfl) fun g0 hm hfr => ?_
 have rp0 : RV g0.m wI x0 up0 := hm ▸ rp0
 show E _ 26 none _ _ _ _ _
 refine E_seq (E_region (EL_at (.slice none 0 0) rfl rfl ?_))
 refine EL_nil (thn_n (E_seq (E_region ?_)))
 have r1 : RV g0.m wI (⟨0, 0⟩ : Span) (.agg (setCh [[.int .i64 0], [.int .i64 0]] []).flatten.toArray) := RV_build rfl (rep_pair (rep_int) (rep_last (rep_int)))
 generalize hv1 : (Value.agg (setCh [[.int .i64 0], [.int .i64 0]] []).flatten.toArray) = v1 at r1
 refine EL_p v1 (hv1 ▸ P_build (vs := []) [[.int .i64 0], [.int .i64 0]] lay_137 rfl rfl .nil trivial) rfl ?_
 refine EL_do .plain rfl (D_buildSlice (g := g0) 3007 (xs := ([(⟨0, 0⟩ : Span)] : List Span)) (vs := [v1]) Try.underlying207 Try.sizeOf137 Try.zeroValue137 rfl rfl (.cons rfl .nil) (RVs.cons r1 RVs.nil) rfl rfl fun g2 w2 v2 hs o2 r2 hxt hfl => ?_)
 have hfr := hfr.stp hs
 have rp0 := rp0.stp hs
 refine EL_at v2 rfl rfl ?_
 refine EL_nil (thn_n ?_)
 obtain ⟨j3, hx, h⟩ := bsome h
 refine E_join (fun e w => ∃ (g : Gh) (v3 : Value), Fr gI wI g w ∧ e 3 = v3 ∧ RV g.m w (j3 : List Span) v3 ∧ OS 3007 g w 137 (j3 : List Span) v3) (fun Q' hQ => ?_) (fun n9 t9 hR => ?_)
 ·replace h := hx
  clear hx
  refine E_seq (E_region (EL_mw up0 rfl rfl ?_))
  refine EL_p (.int .i64 ((x0).length : Int)) (P_len Try.underlying207 rfl rp0) rfl ?_
  refine EL_mw (.int .i64 (0)) rfl rfl ?_
  refine EL_nil (thn_n (E_block ?_))
  refine E_lp h (fun (s : (List Span) × Int) e w => ∃ (g : Gh) (v3 : Value), Fr gI wI g w ∧ e 3 = v3 ∧ RV g.m w (s.1 : List Span) v3 ∧ OS 3007 g w 137 (s.1 : List Span) v3 ∧ e 8 = up0 ∧ RV g.m w (x0 : List Span) up0 ∧ e 9 = .int .i64 (((x0).length : Int)) ∧ e 10 = .int .i64 (s.2)) ⟨g2, (v2), hfr, rfl, r2, o2, rfl, rp0, rfl, rfl⟩ (fun X74 m8 n8 => ?_)
  rintro ⟨z3, o0⟩ u9 mA ⟨c7, z4, hfr, i5, z2, d3, i6, j1, j6, o3⟩ h
  refine E_seq (E_region (EL_in (.bool ((decide (o0 < ((x0).length : Int))))) o3 j6 rfl rfl ?_))
  refine EL_nil (thn_n (E_seq ?_))
  rcases csome h with ⟨q5, h⟩ | ⟨q5, h⟩
  ·refine E_ct q5 rfl ?_
   refine E_skip (thn_n ?_)
   obtain ⟨i3, hx, h⟩ := bsome h
   refine E_join (fun e w => ∃ (g : Gh) (v3 : Value), Fr gI wI g w ∧ e 3 = v3 ∧ RV g.m w (i3 : List Span) v3 ∧ OS 3007 g w 137 (i3 : List Span) v3 ∧ e 8 = up0 ∧ RV g.m w (x0 : List Span) up0 ∧ e 9 = .int .i64 (((x0).length : Int)) ∧ e 10 = .int .i64 (o0)) (fun Q' hQ => ?_) (fun o9 y9 hR => ?_)
   ·replace h := hx
    clear hx
    refine E_block ?_
    refine E_seq (E_region (EL_mv o3 rfl ?_))
    obtain ⟨y110, v6, h⟩ := bsome h
    refine EL_p (ePtr up0 o0 2) (P_indexAddr (α := Span) Try.underlying207 Try.sizeOf137 i6 j1 o3 v6) rfl ?_
    have o8 := PT_idx j1 v6
    refine EL_do .plain rfl (D_load (g := c7) Try.isAgg137 Try.sizeOf137 rfl o8 fun q8 t5 => ?_)
    refine EL_do .plain rfl (D_allocOc (g := c7) 2005 (⟨0, 0⟩ : Span) Try.zeroValue137 (fun m w => ⟨_, (rep_two rep_int rep_int), rfl⟩) fun r8 z9 bA hs b113 cb => ?_)
    have hfr := hfr.stp hs
    have z2 := z2.stp hs
    have d3 := d3.stp hs rfl
    have j1 := j1.stp hs
    have t5 := t5.stp hs
    clear cb
    refine EL_at (.int .i64 (o0)) rfl rfl ?_
    refine EL_do .plain rfl (D_storeOc (g := r8) (v := q8) Try.sizeOf137 rfl b113 rfl t5 fun t8 gA hs b114 cb => ?_)
    clear cb
    have hfr := hfr.stp hs
    have z2 := z2.stp hs
    have d3 := d3.stp hs rfl
    have j1 := j1.stp hs
    refine EL_nil (thn_n ?_)
    obtain ⟨a7, x6, h⟩ := bsome h
    have v8 := PT_idx z2 x6
    refine L_load (x := .tmp 18) Try.isAgg137 Try.sizeOf137 v8 fun d7 x8 g8 => ?_
    refine L_loadO0 (x := .tmp 5) Try.isAgg137 Try.sizeOf137 b114 fun e7 y8 i8 => ?_
    obtain ⟨u0, k8, h⟩ := bsome h
    refine E_drawL (g := t8) (n := 8) [(6, (fun v g w => RV g.m w u0 v)), (7, (fun v g w => RV g.m w ([u0] : List Span) v ∧ OS 3022 g w 137 ([u0] : List Span) v ∧ FullV v))] [0, 1, 2, 3, 4, 5, 6, 7] rfl mixed (by kernel_rfl) (⟨fun _ => up_rv, fun _ => up_and up_rv (up_and up_os (up_eq _)), trivial⟩) ?_
    refine L_p z4 rfl rfl (P_move i5) ?_
    refine L_p z4 rfl rfl (P_move i5) ?_
    refine L_p (.int .i64 (o0)) rfl rfl (P_move rfl) ?_
    refine L_p (ePtr z4 o0 2) rfl rfl (P_indexAddr (α := Span) Try.underlying207 Try.sizeOf137 rfl z2 rfl x6) ?_
    refine L_ld (c := d7) rfl rfl .plain (fun _ _ h => h.ch) g8 rfl ?_
    refine L_ld (c := e7) rfl rfl .plain (fun _ _ h => ⟨h.ch, fun b hb _ => h.below.block b hb⟩) i8 rfl ?_
    refine L_do (φ := fun v g w => RV g.m w u0 v) rfl rfl .plain (fun g w hd => D_call (g := g) (vs := [d7, e7]) en183 (.cons rfl (.cons rfl .nil)) (wk183 (x8.ext hd.1) (y8.ext hd.1) k8) fun g' w' v hs hr => ⟨g', hs, hr⟩) (fun x5 hv => ?_)
    obtain ⟨_, _, _, rq119⟩ := hv
    refine L_do (φ := fun v g w => RV g.m w ([u0] : List Span) v ∧ OS 3022 g w 137 ([u0] : List Span) v ∧ FullV v) rfl rfl .plain (fun g w hd => D_buildSlice (g := g) 3022 (xs := ([u0] : List Span)) (vs := [x5]) Try.underlying207 Try.sizeOf137 Try.zeroValue137 rfl rfl (.cons rfl .nil) (RVs.cons (word (A := fun g w => RV g.m w u0 x5) 6 rfl rfl (deps_of hd)) RVs.nil) rfl rfl fun g' w' v hs o r hxt hfl => ⟨g', hxt, r, o, hfl⟩) (fun u3 hv => ?_)
    clear hv
    refine L_nil fun a9 iA hall => ?_
    have hs := hall.1
    have hfr := hfr.ext hs
    have z2 := z2.ext hs
    have d3 := d3.ext hs
    have j1 := j1.ext hs
    have jA := (word_all (A := fun g w => RV g.m w u0 x5) 6 rfl hall)
    have d9 := (word_all (A := fun g w => RV g.m w ([u0] : List Span) u3 ∧ OS 3022 g w 137 ([u0] : List Span) u3 ∧ FullV u3) 7 rfl hall).1
    have o140 := (word_all (A := fun g w => RV g.m w ([u0] : List Span) u3 ∧ OS 3022 g w 137 ([u0] : List Span) u3 ∧ FullV u3) 7 rfl hall).2.1
    clear hs hall
    obtain ⟨b7, l8, h⟩ := bsome h
    refine EL_do .plain rfl (D_append (g := a9) (i := 3007) Try.underlying207 info_137 rfl rfl d3 z2 rfl d9 l8 fun e9 kA g7 hs o141 i9 _ => ?_)
    have hfr := hfr.stp hs
    have j1 := j1.stp hs
    refine EL_at g7 rfl rfl ?_
    refine EL_nil (blk_n ?_)
    obtain rfl := sinj h
    exact hQ _ _ ⟨e9, (g7), hfr, rfl, i9, o141, i6, j1, j6, o3⟩
   ·clear hx
    obtain ⟨k9, i7, hfr, j7, m7, n7, o7, u7, v7, y6⟩ := hR
    refine E_region (EL_in (.int .i64 ((w64 (o0 + (1 : Int))))) y6 rfl rfl rfl ?_)
    refine EL_mw (.int .i64 ((w64 (o0 + (1 : Int))))) rfl rfl ?_
    exact EL_nil (thn_n (n8 (i3, (w64 (o0 + (1 : Int)))) _ _ ⟨k9, (i7), hfr, j7, m7, n7, o7, u7, v7, rfl⟩ h))
  ·refine E_cf q5 rfl ?_
   refine E_exit ?_
   refine thn_e ?_
   refine thn_e ?_
   refine blk_hit ?_
   obtain rfl := sinj h
   exact hQ _ _ ⟨c7, (z4), hfr, i5, z2, d3⟩
 ·clear hx
  obtain ⟨lA, l5, hfr, c8, e8, l9⟩ := hR
  refine E_seq (E_region (EL_mv c8 rfl ?_))
  refine EL_at l5 rfl rfl ?_
  refine EL_nil (thn_n (E_ret ?_))
  obtain rfl := sinj h
  exact end1 rfl rfl (show _ = l5 from rfl) ⟨_, hfr, e8⟩
def f180 (x0 : List SeamPart) (x1 : SeamPart → Option Bool) : Option (Bool) :=
 (f201 x0 x1).bind fun y2 =>
 some ((decide (y2 ≥ (0 : Int))))
theorem en180 : Enters Try.prog 180 := enters_of Try.func180 (by kernel_rfl) rfl
theorem wk180 {gI : Gh} {wI : World} {x0 : List SeamPart} {x1 : SeamPart → Option Bool} {up0 : Value} (rp0 : RV gI.m wI x0 up0) {up1 : Value} (rp1 : FnV1 Try.prog x1 up1 gI wI) {r : Bool} (h : f180 x0 x1 = some r) : Fn Try.prog 180 #[up0, up1] gI wI (fun _ _ v => v = .bool (r)) := by
 unfold f180 at h
 refine fn_of_E Try.func180 rfl (Nat.le_of_ble_eq_true rfl) fun g0 hm hfr => ?_
 have rp0 : RV g0.m wI x0 up0 := hm ▸ rp0
 obtain ⟨ff1, fa1, fc1, rfl, fen1, fcl1⟩ := rp1
 show E _ 9 none _ _ _ _ _
 refine E_seq (E_region (EL_at (.bool false) rfl rfl ?_))
 refine EL_nil (thn_n (E_seq (E_region (EL_mw up0 rfl rfl ?_))))
 refine EL_mw ((.func (.func ff1) fa1 fc1)) rfl rfl ?_
 obtain ⟨y2, hy2, h⟩ := bsome h
 refine EL_do .plain rfl (D_call (g := g0) (vs := [up0, (.func (.func ff1) fa1 fc1)]) en201 (.cons rfl (.cons rfl .nil)) (wk201 rp0 (FnV1.ch ⟨_, _, _, rfl, fen1, fcl1⟩ hfr.ch) hy2) fun g1 w1_ v1 hs hr => ?_)
 have hfr := hfr.ext hs
 subst hr
 refine EL_in (.bool ((decide (y2 ≥ (0 : Int))))) rfl rfl rfl rfl ?_
 refine EL_at (.bool ((decide (y2 ≥ (0 : Int))))) rfl rfl ?_
 refine EL_nil (thn_n (E_ret ?_))
 obtain rfl := sinj h
 exact end1 rfl rfl (show _ = .bool ((decide (y2 ≥ (0 : Int)))) from rfl) ⟨_, hfr, rfl⟩
def f182 (x0 : SeamPart) : Option (Bool) :=
 Option.bind (α := Bool) (
  (f107 ((1 : Int)) ((200 : Int)) (([(x0).Picks] : List Int))).bind fun d3 =>
  bif d3 then
   (f107 ((1 : Int)) ((10000 : Int)) (([((x0).Width).Low, ((x0).Width).High] : List Int))).bind fun z2 =>
   bif z2 then
    some ((decide (((x0).Width).Low ≤ ((x0).Width).High)))
   else
    some (false)
  else
   some (false)
  ) fun j1 =>
 some (j1)
theorem en182 : Enters Try.prog 182 := enters_of Try.func182 (by kernel_rfl) rfl
theorem wk182 {gI : Gh} {wI : World} {x0 : SeamPart} {up0 : Value} (rp0 : RV gI.m wI x0 up0) {r : Bool} (h : f182 x0 = some r) : Fn Try.prog 182 #[up0] gI wI (fun _ _ v => v = .bool (r)) := by
 unfold f182 at h
 refine fn_of_E Try.func182 rfl (Nat.le_of_ble_eq_true rfl) fun g0 hm hfr => ?_
 have rp0 : RV g0.m wI x0 up0 := hm ▸ rp0
 show E _ 26 none _ _ _ _ _
 refine E_seq (E_region (EL_do .plain rfl (D_box (g := g0) rfl rp0 fun g1 w1 p1 hs q1 => ?_)))
 have hfr := hfr.ext hs
 refine EL_at (.bool false) rfl rfl ?_
 refine EL_nil (thn_n ?_)
 obtain ⟨j1, hx, h⟩ := bsome h
 refine E_join (fun e w => ∃ (g : Gh) , Fr gI wI g w ∧ e 2 = .bool (j1)) (fun Q' hQ => ?_) (fun n7 v7 hR => ?_)
 ·replace h := hx
  clear hx
  refine E_region (EL_p (fPtr p1 0) (P_fieldAddr at_140_0 rfl (PT.ptr q1)) rfl ?_)
  have t5 := PT_field (part_SeamPart_0).1 q1
  refine EL_do .plain rfl (D_load (g := g1) Try.isAgg3 Try.sizeOf3 rfl t5 fun c8 x5 => ?_)
  obtain rfl := RV_int.1 x5
  refine EL_do .plain rfl (D_buildSlice (g := g1) 3005 (xs := ([(x0).Picks] : List Int)) (vs := [.int .i64 ((x0).Picks)]) Try.underlying26 Try.sizeOf3 Try.zeroValue3 rfl rfl (.cons rfl .nil) (RVs.cons (RV_int.2 rfl) RVs.nil) rfl rfl fun i6 e8 j6 hs o26 v6 hxt hfl => ?_)
  have hfr := hfr.stp hs
  have q1 := q1.stp hs
  obtain ⟨d3, l5, h⟩ := bsome h
  refine EL_do .plain rfl (D_call (g := i6) (vs := [.int .i64 (1), .int .i64 (200), j6]) en107 (.cons rfl (.cons rfl (.cons rfl .nil))) (wk107 v6 l5) fun i3 o7 g8 hs hr => ?_)
  have hfr := hfr.ext hs
  have q1 := q1.ext hs
  subst hr
  refine EL_mw (.bool (d3)) rfl rfl ?_
  rcases csome h with ⟨o0, h⟩ | ⟨o0, h⟩
  ·refine EL_y (fPtr p1 1) (P_fieldAddr at_140_1 rfl (PT.ptr q1)) rfl rfl o0 rfl ?_
   have u3 := PT_field (part_SeamPart_1).1 q1
   refine EL_y (fPtr (fPtr p1 1) 0) (P_fieldAddr at_137_0 rfl (PT.ptr u3)) rfl rfl o0 rfl ?_
   have x6 := PT_field (part_Span_0).1 u3
   refine EL_do (.yes2 rfl rfl o0) rfl (D_load (g := i3) Try.isAgg3 Try.sizeOf3 rfl x6 fun i8 y6 => ?_)
   obtain rfl := RV_int.1 y6
   refine EL_y (fPtr p1 1) (P_fieldAddr at_140_1 rfl (PT.ptr q1)) rfl rfl o0 rfl ?_
   have z3 := PT_field (part_SeamPart_1).1 q1
   refine EL_y (fPtr (fPtr p1 1) 1) (P_fieldAddr at_137_1 rfl (PT.ptr z3)) rfl rfl o0 rfl ?_
   have a7 := PT_field (part_Span_1).1 z3
   refine EL_do (.yes2 rfl rfl o0) rfl (D_load (g := i3) Try.isAgg3 Try.sizeOf3 rfl a7 fun k8 b7 => ?_)
   obtain rfl := RV_int.1 b7
   refine EL_do (.yes2 rfl rfl o0) rfl (D_buildSlice (g := i3) 3014 (xs := ([((x0).Width).Low, ((x0).Width).High] : List Int)) (vs := [.int .i64 (((x0).Width).Low), .int .i64 (((x0).Width).High)]) Try.underlying26 Try.sizeOf3 Try.zeroValue3 rfl rfl (.cons rfl (.cons rfl .nil)) (RVs.cons (RV_int.2 rfl) (RVs.cons (RV_int.2 rfl) RVs.nil)) rfl rfl fun c7 l8 d7 hs o36 e7 hxt hfl => ?_)
   have hfr := hfr.stp hs
   have q1 := q1.stp hs
   obtain ⟨z2, q5, h⟩ := bsome h
   refine EL_do (.yes2 rfl rfl o0) rfl (D_call (g := c7) (vs := [.int .i64 (1), .int .i64 (10000), d7]) en107 (.cons rfl (.cons rfl (.cons rfl .nil))) (wk107 e7 q5) fun j3 u7 m8 hs hr => ?_)
   have hfr := hfr.ext hs
   have q1 := q1.ext hs
   subst hr
   refine EL_p (.bool (z2)) (P_pick (b := d3) rfl (pick_t o0 rfl)) rfl ?_
   refine EL_mw (.bool (z2)) rfl rfl ?_
   rcases csome h with ⟨u0, h⟩ | ⟨u0, h⟩
   ·refine EL_y (fPtr p1 1) (P_fieldAddr at_140_1 rfl (PT.ptr q1)) rfl rfl u0 rfl ?_
    have z4 := PT_field (part_SeamPart_1).1 q1
    refine EL_y (fPtr (fPtr p1 1) 0) (P_fieldAddr at_137_0 rfl (PT.ptr z4)) rfl rfl u0 rfl ?_
    have g7 := PT_field (part_Span_0).1 z4
    refine EL_do (.yes2 rfl rfl u0) rfl (D_load (g := j3) Try.isAgg3 Try.sizeOf3 rfl g7 fun n8 i7 => ?_)
    obtain rfl := RV_int.1 i7
    refine EL_y (fPtr p1 1) (P_fieldAddr at_140_1 rfl (PT.ptr q1)) rfl rfl u0 rfl ?_
    have i5 := PT_field (part_SeamPart_1).1 q1
    refine EL_y (fPtr (fPtr p1 1) 1) (P_fieldAddr at_137_1 rfl (PT.ptr i5)) rfl rfl u0 rfl ?_
    have j7 := PT_field (part_Span_1).1 i5
    refine EL_do (.yes2 rfl rfl u0) rfl (D_load (g := j3) Try.isAgg3 Try.sizeOf3 rfl j7 fun o8 m7 => ?_)
    obtain rfl := RV_int.1 m7
    refine EL_y (.bool ((decide (((x0).Width).Low ≤ ((x0).Width).High)))) (P_int rfl rfl rfl) rfl rfl u0 rfl ?_
    refine EL_p (.bool ((decide (((x0).Width).Low ≤ ((x0).Width).High)))) (P_pick (b := z2) rfl (pick_t u0 rfl)) rfl ?_
    refine EL_at (.bool ((decide (((x0).Width).Low ≤ ((x0).Width).High)))) rfl rfl ?_
    refine EL_nil ?_
    obtain rfl := sinj h
    exact hQ _ _ ⟨j3, hfr, rfl⟩
   ·refine EL_s rfl rfl u0 rfl rfl ?_
    iterate 6 refine EL_s rfl rfl u0 rfl rfl ?_
    refine EL_p (.bool false) (P_pick (b := z2) rfl (pick_f u0 rfl)) rfl ?_
    refine EL_at (.bool false) rfl rfl ?_
    refine EL_nil ?_
    obtain rfl := sinj h
    exact hQ _ _ ⟨j3, hfr, rfl⟩
  ·refine EL_s rfl rfl o0 rfl rfl ?_
   iterate 7 refine EL_s rfl rfl o0 rfl rfl ?_
   refine EL_p (.bool false) (P_pick (b := d3) rfl (pick_f o0 rfl)) rfl ?_
   refine EL_dead 9 rfl ?_
   refine EL_at (.bool false) rfl rfl ?_
   refine EL_nil ?_
   obtain rfl := sinj h
   exact hQ _ _ ⟨i3, hfr, rfl⟩
 ·clear hx
  obtain ⟨q8, hfr, o3⟩ := hR
  refine E_ret ?_
  obtain rfl := sinj h
  exact end1 rfl rfl (show _ = .bool (j1) from o3) ⟨_, hfr, rfl⟩
def f200 (x0 : List FaultDamage) (x1 : Int) (x2 : Int) (x3 : Int) (x4 : FaultDamage → FaultDamage → Option Int) : Option ((List FaultDamage)) :=
 Option.bind (α := (List FaultDamage) × Int) (
  lp (σ := (List FaultDamage) × Int × Int) (fun a7 (j3, o0, u0) =>
   jn (σ := Unit) (fun _ =>
    bif (decide (o0 > u0)) then
     (f208 j3 ((w64 (x2 - o0))) x2 u0 x4).bind fun b7 =>
     a7 (b7, (w64 (o0 - u0)), u0)
    else
     (f208 j3 ((w64 (x2 - o0))) ((w64 ((w64 (x2 + u0)) - o0))) o0 x4).bind fun c7 =>
     a7 (c7, o0, (w64 (u0 - o0)))
    ) fun m7 =>
   bif (o0 != u0) then
    m7 ()
   else
    some (j3, o0)
   ) big (x0, (w64 (x2 - x1)), (w64 (x3 - x2)))
  ) fun (z4, z2) =>
 (f208 z4 ((w64 (x2 - z2))) x2 z2 x4).bind fun n7 =>
 some (n7)
theorem en200 : Enters Try.prog 200 := enters_of Try.func200 (by kernel_rfl) rfl
theorem wk200 {iI : Nat} {gI : Gh} {wI : World} {x0 : List FaultDamage} {x1 : Int} {x2 : Int} {x3 : Int} {x4 : FaultDamage → FaultDamage → Option Int} {up0 : Value} (mp0 : OM iI gI wI 37 x0 up0) {up4 : Value} (rp4 : FnV2 Try.prog x4 up4 gI wI) {r : (List FaultDamage)} (h : f200 x0 x1 x2 x3 x4 = some r) : FnM Try.prog 200 #[up0, .int .i64 (x1), .int .i64 (x2), .int .i64 (x3), up4] iI gI wI (fun g w v => v = .tuple #[] ∧ OM iI g w 37 r up0) := by
 unfold f200 at h
 refine fnM_of_E Try.func200 rfl (Nat.le_of_ble_eq_true rfl) fun g0 hm hfr => ?_
 have e7 := mp0
 replace mp0 := mp0.enter
 rw [← hm] at mp0
 replace hm : g0.m = gI.m := by rw [hm]
 obtain ⟨ff4, fa4, fc4, rfl, fen4, fcl4⟩ := rp4
 show E _ 58 none _ _ _ _ _
 refine E_seq (E_region (EL_mw (.int .i64 (x2)) rfl rfl ?_))
 refine EL_mw (.int .i64 (x1)) rfl rfl ?_
 refine EL_in (.int .i64 ((w64 (x2 - x1)))) rfl rfl rfl rfl ?_
 refine EL_at (.int .i64 ((w64 (x2 - x1)))) rfl rfl ?_
 refine EL_nil (thn_n (E_seq (E_region (EL_mw (.int .i64 (x3)) rfl rfl ?_))))
 refine EL_mw (.int .i64 (x2)) rfl rfl ?_
 refine EL_in (.int .i64 ((w64 (x3 - x2)))) rfl rfl rfl rfl ?_
 refine EL_at (.int .i64 ((w64 (x3 - x2)))) rfl rfl ?_
 refine EL_nil (thn_n ?_)
 obtain ⟨⟨z4, z2⟩, hx, h⟩ := bsome h
 refine E_join (fun e w => ∃ (g : Gh) , FrM iI gI wI g w ∧ e 0 = up0 ∧ OM 1 g w 37 (z4 : List FaultDamage) up0 ∧ e 2 = .int .i64 (x2) ∧ e 4 = (.func (.func ff4) fa4 fc4) ∧ e 10 = .int .i64 (z2)) (fun Q' hQ => ?_) (fun m8 v8 hR => ?_)
 ·replace h := hx
  clear hx
  refine E_block ?_
  refine E_lp h (fun (s : (List FaultDamage) × Int × Int) e w => ∃ (g : Gh) , FrM iI gI wI g w ∧ e 0 = up0 ∧ OM 1 g w 37 (s.1 : List FaultDamage) up0 ∧ e 2 = .int .i64 (x2) ∧ e 4 = (.func (.func ff4) fa4 fc4) ∧ e 10 = .int .i64 (s.2.1) ∧ e 11 = .int .i64 (s.2.2)) ⟨g0, hfr, rfl, mp0, rfl, rfl, rfl, rfl⟩ (fun X12 a7 d7 => ?_)
  rintro ⟨j3, o0, u0⟩ n8 x8 ⟨o7, hfr, x5, i6, j6, v6, z3, i5⟩ h
  refine E_joinC h (fun (s : Unit) e w => ∃ (g : Gh) , FrM iI gI wI g w ∧ e 0 = up0 ∧ OM 1 g w 37 (j3 : List FaultDamage) up0 ∧ e 2 = .int .i64 (x2) ∧ e 4 = (.func (.func ff4) fa4 fc4) ∧ e 10 = .int .i64 (o0) ∧ e 11 = .int .i64 (u0)) (fun X15 m7 v7 h => ?_) ?_
  ·refine E_seq (E_region (EL_mv z3 rfl ?_))
   refine EL_mv i5 rfl ?_
   refine EL_in (.bool ((o0 != u0))) rfl rfl rfl rfl ?_
   refine EL_nil (thn_n ?_)
   rcases csome h with ⟨q5, h⟩ | ⟨q5, h⟩
   ·refine E_ct q5 rfl ?_
    exact E_skip (thn_n (v7 () _ _ ⟨o7, hfr, x5, i6, j6, v6, z3, i5⟩ h))
   ·refine E_cf q5 rfl ?_
    refine E_exit ?_
    refine thn_e ?_
    refine thn_e ?_
    refine blk_hit ?_
    obtain ⟨rfl, rfl⟩ := pairs2 h
    exact hQ _ _ ⟨o7, hfr, x5, i6, j6, v6, z3⟩
  ·rintro _ o8 y8 ⟨u7, hfr, o3, x6, i3, u3, j1, d3⟩ h
   refine E_block ?_
   refine E_seq (E_region (EL_mv j1 rfl ?_))
   refine EL_mv d3 rfl ?_
   refine EL_in (.bool ((decide (o0 > u0)))) rfl rfl rfl rfl ?_
   refine EL_nil (thn_n ?_)
   rcases csome h with ⟨t5, h⟩ | ⟨t5, h⟩
   ·refine E_ct t5 rfl ?_
    refine E_seq (E_region (EL_mv o3 rfl ?_))
    refine EL_mv i3 rfl ?_
    refine EL_mv j1 rfl ?_
    refine EL_in (.int .i64 ((w64 (x2 - o0)))) rfl rfl rfl rfl ?_
    refine EL_mv i3 rfl ?_
    refine EL_mv d3 rfl ?_
    refine EL_mv u3 rfl ?_
    obtain ⟨b7, c8, h⟩ := bsome h
    refine EL_do .plain rfl (D_callM (g := u7) (i := 1) (vs := [up0, .int .i64 ((w64 (x2 - o0))), .int .i64 (x2), .int .i64 (u0), (.func (.func ff4) fa4 fc4)]) en208 (.cons rfl (.cons rfl (.cons rfl (.cons rfl (.cons rfl .nil))))) (wk208 x6 (FnV2.ch ⟨_, _, _, rfl, fen4, fcl4⟩ hfr.ch) c8) fun i8 q8 a9 hs hr => ?_)
    obtain ⟨hrv, b19⟩ := hr
    have hfr := hfr.stp hs
    subst hrv
    refine EL_nil (thn_n (E_region (EL_mv j1 rfl ?_)))
    refine EL_mv d3 rfl ?_
    refine EL_in (.int .i64 ((w64 (o0 - u0)))) rfl rfl rfl rfl ?_
    refine EL_at (.int .i64 ((w64 (o0 - u0)))) rfl rfl ?_
    exact EL_nil (blk_n (thn_n (d7 (b7, (w64 (o0 - u0)), u0) _ _ ⟨i8, hfr, o3, b19, i3, u3, rfl, d3⟩ h)))
   ·refine E_cf t5 rfl ?_
    refine E_seq (E_region (EL_mv o3 rfl ?_))
    refine EL_mv i3 rfl ?_
    refine EL_mv j1 rfl ?_
    refine EL_in (.int .i64 ((w64 (x2 - o0)))) rfl rfl rfl rfl ?_
    refine EL_mv i3 rfl ?_
    refine EL_mv d3 rfl ?_
    refine EL_in (.int .i64 ((w64 (x2 + u0)))) rfl rfl rfl rfl ?_
    refine EL_mv j1 rfl ?_
    refine EL_in (.int .i64 ((w64 ((w64 (x2 + u0)) - o0)))) rfl rfl rfl rfl ?_
    refine EL_mv j1 rfl ?_
    refine EL_mv u3 rfl ?_
    obtain ⟨c7, e8, h⟩ := bsome h
    refine EL_do .plain rfl (D_callM (g := u7) (i := 1) (vs := [up0, .int .i64 ((w64 (x2 - o0))), .int .i64 ((w64 ((w64 (x2 + u0)) - o0))), .int .i64 (o0), (.func (.func ff4) fa4 fc4)]) en208 (.cons rfl (.cons rfl (.cons rfl (.cons rfl (.cons rfl .nil))))) (wk208 x6 (FnV2.ch ⟨_, _, _, rfl, fen4, fcl4⟩ hfr.ch) e8) fun k8 r8 d9 hs hr => ?_)
    obtain ⟨hrv, b21⟩ := hr
    have hfr := hfr.stp hs
    subst hrv
    refine EL_nil (thn_n (E_region (EL_mv d3 rfl ?_)))
    refine EL_mv j1 rfl ?_
    refine EL_in (.int .i64 ((w64 (u0 - o0)))) rfl rfl rfl rfl ?_
    refine EL_at (.int .i64 ((w64 (u0 - o0)))) rfl rfl ?_
    exact EL_nil (blk_n (thn_n (d7 (c7, o0, (w64 (u0 - o0))) _ _ ⟨k8, hfr, o3, b21, i3, u3, j1, rfl⟩ h)))
 ·clear hx
  obtain ⟨l8, hfr, g7, i7, y6, j7, l5⟩ := hR
  refine E_region (EL_mv g7 rfl ?_)
  refine EL_mv y6 rfl ?_
  refine EL_mv l5 rfl ?_
  refine EL_in (.int .i64 ((w64 (x2 - z2)))) rfl rfl rfl rfl ?_
  refine EL_mv y6 rfl ?_
  refine EL_mv l5 rfl ?_
  refine EL_mv j7 rfl ?_
  obtain ⟨n7, g8, h⟩ := bsome h
  refine EL_do .plain rfl (D_callM (g := l8) (i := 1) (vs := [up0, .int .i64 ((w64 (x2 - z2))), .int .i64 (x2), .int .i64 (z2), (.func (.func ff4) fa4 fc4)]) en208 (.cons rfl (.cons rfl (.cons rfl (.cons rfl (.cons rfl .nil))))) (wk208 i7 (FnV2.ch ⟨_, _, _, rfl, fen4, fcl4⟩ hfr.ch) g8) fun e9 t8 i9 hs hr => ?_)
  obtain ⟨hrv, b24⟩ := hr
  have hfr := hfr.stp hs
  subst hrv
  refine EL_nil ?_
  obtain rfl := sinj h
  exact end0n rfl rfl ⟨_, hfr, rfl, e7.back b24⟩
def f50 (x0 : Int) (x1 : Int) (x2 : List Int) : Option (Bool) :=
 (f91 x2 ((fun a0 => f95 a0 x0 x1))).bind fun y4 =>
 some ((!y4))
theorem en50 : Enters Try.prog 50 := enters_of Try.func50 (by kernel_rfl) rfl
theorem wk50 {gI : Gh} {wI : World} {x0 : Int} {x1 : Int} {x2 : List Int} {up2 : Value} (rp2 : RV gI.m wI x2 up2) {r : Bool} (h : f50 x0 x1 x2 = some r) : Fn Try.prog 50 #[.int .i64 (x0), .int .i64 (x1), up2] gI wI (fun _ _ v => v = .bool (r)) := by
 unfold f50 at h
 refine fn_of_E Try.func50 rfl (Nat.le_of_ble_eq_true rfl) fun g0 hm hfr => ?_
 have rp2 : RV g0.m wI x2 up2 := hm ▸ rp2
 show E _ 11 none _ _ _ _ _
 refine E_seq (E_region (EL_do .plain rfl (D_box (g := g0) rfl (RV_int.2 rfl) fun g1 w1 p1 hs q1 => ?_)))
 have hfr := hfr.ext hs
 have rp2 := rp2.ext hs
 refine EL_do .plain rfl (D_box (g := g1) rfl (RV_int.2 rfl) fun g2 w2 p2 hs q2 => ?_)
 have hfr := hfr.ext hs
 have rp2 := rp2.ext hs
 have q1 := q1.ext hs
 refine EL_at (.bool false) rfl rfl ?_
 refine EL_nil (thn_n (E_seq (E_region (EL_mw up2 rfl rfl ?_))))
 refine EL_p ((.func (.func 95) #[] #[p1, p2])) (P_makeFunc (capf_0_2 (show ev _ _ = p1 from rfl) (show ev _ _ = p2 from rfl))) rfl ?_
 obtain ⟨y4, o0, h⟩ := bsome h
 refine EL_do .plain rfl (D_call (g := g2) (vs := [up2, (.func (.func 95) #[] #[p1, p2])]) en91 (.cons rfl (.cons rfl .nil)) (wk91 rp2 ⟨95, #[], #[p1, p2], rfl, en95, fun g' w' hch a0 b0 r hu0 hr => by obtain rfl := RV_int.1 hu0; exact Fn.mono (wk95  (q1.ch hch) (q2.ch hch) hr) fun _ _ _ h => RV_bool.2 h⟩ o0) fun g3 w3_ v3 hs hr => ?_)
 have hfr := hfr.ext hs
 subst hr
 refine EL_p (.bool (!y4)) (P_not rfl) rfl ?_
 refine EL_at (.bool (!y4)) rfl rfl ?_
 refine EL_nil (thn_n (E_ret ?_))
 obtain rfl := sinj h
 exact end1 rfl rfl (show _ = .bool (!y4) from rfl) ⟨_, hfr, rfl⟩
def f67 (x0 : Int) (x1 : Int) (x2 : List Int) : Option (Bool) :=
 (f91 x2 ((fun a0 => f116 a0 x0 x1))).bind fun y4 =>
 some ((!y4))
theorem en67 : Enters Try.prog 67 := enters_of Try.func67 (by kernel_rfl) rfl
theorem wk67 {gI : Gh} {wI : World} {x0 : Int} {x1 : Int} {x2 : List Int} {up2 : Value} (rp2 : RV gI.m wI x2 up2) {r : Bool} (h : f67 x0 x1 x2 = some r) : Fn Try.prog 67 #[.int .i64 (x0), .int .i64 (x1), up2] gI wI (fun _ _ v => v = .bool (r)) := by
 unfold f67 at h
 refine fn_of_E Try.func67 rfl (Nat.le_of_ble_eq_true rfl) fun g0 hm hfr => ?_
 have rp2 : RV g0.m wI x2 up2 := hm ▸ rp2
 show E _ 11 none _ _ _ _ _
 refine E_seq (E_region (EL_do .plain rfl (D_box (g := g0) rfl (RV_int.2 rfl) fun g1 w1 p1 hs q1 => ?_)))
 have hfr := hfr.ext hs
 have rp2 := rp2.ext hs
 refine EL_do .plain rfl (D_box (g := g1) rfl (RV_int.2 rfl) fun g2 w2 p2 hs q2 => ?_)
 have hfr := hfr.ext hs
 have rp2 := rp2.ext hs
 have q1 := q1.ext hs
 refine EL_at (.bool false) rfl rfl ?_
 refine EL_nil (thn_n (E_seq (E_region (EL_mw up2 rfl rfl ?_))))
 refine EL_p ((.func (.func 116) #[] #[p1, p2])) (P_makeFunc (capf_0_2 (show ev _ _ = p1 from rfl) (show ev _ _ = p2 from rfl))) rfl ?_
 obtain ⟨y4, o0, h⟩ := bsome h
 refine EL_do .plain rfl (D_call (g := g2) (vs := [up2, (.func (.func 116) #[] #[p1, p2])]) en91 (.cons rfl (.cons rfl .nil)) (wk91 rp2 ⟨116, #[], #[p1, p2], rfl, en116, fun g' w' hch a0 b0 r hu0 hr => by obtain rfl := RV_int.1 hu0; exact Fn.mono (wk116  (q1.ch hch) (q2.ch hch) hr) fun _ _ _ h => RV_bool.2 h⟩ o0) fun g3 w3_ v3 hs hr => ?_)
 have hfr := hfr.ext hs
 subst hr
 refine EL_p (.bool (!y4)) (P_not rfl) rfl ?_
 refine EL_at (.bool (!y4)) rfl rfl ?_
 refine EL_nil (thn_n (E_ret ?_))
 obtain rfl := sinj h
 exact end1 rfl rfl (show _ = .bool (!y4) from rfl) ⟨_, hfr, rfl⟩
def f69 (x0 : TieHarness) : Option (Int) :=
 jn (σ := Unit) (fun _ =>
  some ((0 : Int))
  ) fun o3 =>
 (f121 ((1 : Int)) ((24 : Int)) (([(x0).Hooks] : List Int))).bind fun i3 =>
 bif (!i3) then
  some ((2 : Int))
 else
  bif (decide ((((x0).Warps).length : Int) > (96 : Int))) then
   some ((5 : Int))
  else
   bif ((((x0).Warps).length : Int) == (0 : Int)) then
    some ((7 : Int))
   else
    (f121 ((0 : Int)) ((w64 ((x0).Hooks - (1 : Int)))) ((x0).Warps)).bind fun j3 =>
    bif (!j3) then
     some ((2 : Int))
    else
     o3 ()
theorem en69 : Enters Try.prog 69 := enters_of Try.func69 (by kernel_rfl) rfl
theorem wk69 {gI : Gh} {wI : World} {x0 : TieHarness} {up0 : Value} (rp0 : RV gI.m wI x0 up0) {r : Int} (h : f69 x0 = some r) : Fn Try.prog 69 #[up0] gI wI (fun _ _ v => v = .int .i64 (r)) := by
 unfold f69 at h
 refine fn_of_E Try.func69 rfl (Nat.le_of_ble_eq_true rfl) fun g0 hm hfr => ?_
 have rp0 : RV g0.m wI x0 up0 := hm ▸ rp0
 show E _ 27 none _ _ _ _ _
 refine E_seq (E_region (EL_do .plain rfl (D_box (g := g0) rfl rp0 fun g1 w1 p1 hs q1 => ?_)))
 have hfr := hfr.ext hs
 refine EL_at (.int .i64 (0)) rfl rfl ?_
 refine EL_nil (thn_n (E_joinC h (fun (s : Unit) e w => ∃ (g : Gh) , Fr gI wI g w) (fun X21 o3 u3 h => ?_) ?_))
 ·refine E_block ?_
  refine E_seq (E_region (EL_p (fPtr p1 0) (P_fieldAddr at_28_0 rfl (PT.ptr q1)) rfl ?_))
  have i5 := PT_field (part_TieHarness_0).1 q1
  refine EL_do .plain rfl (D_load (g := g1) Try.isAgg3 Try.sizeOf3 rfl i5 fun m7 l5 => ?_)
  obtain rfl := RV_int.1 l5
  refine EL_do .plain rfl (D_buildSlice (g := g1) 3006 (xs := ([(x0).Hooks] : List Int)) (vs := [.int .i64 ((x0).Hooks)]) Try.underlying26 Try.sizeOf3 Try.zeroValue3 rfl rfl (.cons rfl .nil) (RVs.cons (RV_int.2 rfl) RVs.nil) rfl rfl fun q5 n7 t5 hs o24 x5 hxt hfl => ?_)
  have hfr := hfr.stp hs
  have q1 := q1.stp hs
  obtain ⟨i3, z3, h⟩ := bsome h
  refine EL_do .plain rfl (D_call (g := q5) (vs := [.int .i64 (1), .int .i64 (24), t5]) en121 (.cons rfl (.cons rfl (.cons rfl .nil))) (wk121 x5 z3) fun o0 g7 o7 hs hr => ?_)
  have hfr := hfr.ext hs
  have q1 := q1.ext hs
  subst hr
  refine EL_p (.bool (!i3)) (P_not rfl) rfl ?_
  refine EL_at (.bool (!i3)) rfl rfl ?_
  refine EL_nil (thn_n ?_)
  rcases csome h with ⟨u0, h⟩ | ⟨u0, h⟩
  ·refine E_ct u0 rfl ?_
   refine E_seq (E_region (EL_at (.int .i64 (2)) rfl rfl ?_))
   refine EL_nil (thn_n (E_ret (blk_r ?_)))
   refine thn_r ?_
   obtain rfl := sinj h
   exact end1 rfl rfl (show _ = .int .i64 (2) from rfl) ⟨_, hfr, rfl⟩
  ·refine E_cf u0 rfl ?_
   refine E_seq (E_region (EL_p (fPtr p1 1) (P_fieldAddr at_28_1 rfl (PT.ptr q1)) rfl ?_))
   have i6 := PT_field (part_TieHarness_1).1 q1
   refine EL_do .plain rfl (D_load (g := o0) Try.isAgg26 Try.sizeOf26 rfl i6 fun u7 j6 => ?_)
   refine EL_p (.int .i64 (((x0).Warps).length : Int)) (P_len Try.underlying26 rfl j6) rfl ?_
   refine EL_p (.bool ((decide ((((x0).Warps).length : Int) > (96 : Int))))) (P_int rfl rfl rfl) rfl ?_
   refine EL_p (.bool ((decide ((((x0).Warps).length : Int) > (96 : Int))))) (P_assign rfl) rfl ?_
   refine EL_nil (thn_n ?_)
   rcases csome h with ⟨j1, h⟩ | ⟨j1, h⟩
   ·refine E_ct j1 rfl ?_
    refine E_seq (E_region (EL_at (.int .i64 (5)) rfl rfl ?_))
    refine EL_nil (thn_n (E_ret (blk_r ?_)))
    refine thn_r ?_
    obtain rfl := sinj h
    exact end1 rfl rfl (show _ = .int .i64 (5) from rfl) ⟨_, hfr, rfl⟩
   ·refine E_cf j1 rfl ?_
    refine E_seq (E_region (EL_p (fPtr p1 1) (P_fieldAddr at_28_1 rfl (PT.ptr q1)) rfl ?_))
    have v6 := PT_field (part_TieHarness_1).1 q1
    refine EL_do .plain rfl (D_load (g := o0) Try.isAgg26 Try.sizeOf26 rfl v6 fun v7 x6 => ?_)
    refine EL_p (.int .i64 (((x0).Warps).length : Int)) (P_len Try.underlying26 rfl x6) rfl ?_
    refine EL_in (.bool (((((x0).Warps).length : Int) == (0 : Int)))) rfl rfl rfl rfl ?_
    refine EL_at (.bool (((((x0).Warps).length : Int) == (0 : Int)))) rfl rfl ?_
    refine EL_nil (thn_n ?_)
    rcases csome h with ⟨z2, h⟩ | ⟨z2, h⟩
    ·refine E_ct z2 rfl ?_
     refine E_seq (E_region (EL_at (.int .i64 (7)) rfl rfl ?_))
     refine EL_nil (thn_n (E_ret (blk_r ?_)))
     refine thn_r ?_
     obtain rfl := sinj h
     exact end1 rfl rfl (show _ = .int .i64 (7) from rfl) ⟨_, hfr, rfl⟩
    ·refine E_cf z2 rfl ?_
     refine E_seq (E_region (EL_p (fPtr p1 0) (P_fieldAddr at_28_0 rfl (PT.ptr q1)) rfl ?_))
     have y6 := PT_field (part_TieHarness_0).1 q1
     refine EL_do .plain rfl (D_load (g := o0) Try.isAgg3 Try.sizeOf3 rfl y6 fun c8 a7 => ?_)
     obtain rfl := RV_int.1 a7
     refine EL_in (.int .i64 ((w64 ((x0).Hooks - (1 : Int))))) rfl rfl rfl rfl ?_
     refine EL_p (fPtr p1 1) (P_fieldAddr at_28_1 rfl (PT.ptr q1)) rfl ?_
     have b7 := PT_field (part_TieHarness_1).1 q1
     refine EL_do .plain rfl (D_load (g := o0) Try.isAgg26 Try.sizeOf26 rfl b7 fun c7 d7 => ?_)
     obtain ⟨j3, z4, h⟩ := bsome h
     refine EL_do .plain rfl (D_call (g := o0) (vs := [.int .i64 (0), .int .i64 ((w64 ((x0).Hooks - (1 : Int)))), c7]) en121 (.cons rfl (.cons rfl (.cons rfl .nil))) (wk121 d7 z4) fun e7 i7 e8 hs hr => ?_)
     have hfr := hfr.ext hs
     subst hr
     refine EL_p (.bool (!j3)) (P_not rfl) rfl ?_
     refine EL_at (.bool (!j3)) rfl rfl ?_
     refine EL_nil (thn_n ?_)
     rcases csome h with ⟨d3, h⟩ | ⟨d3, h⟩
     ·refine E_ct d3 rfl ?_
      refine E_seq (E_region (EL_at (.int .i64 (2)) rfl rfl ?_))
      refine EL_nil (thn_n (E_ret (blk_r ?_)))
      refine thn_r ?_
      obtain rfl := sinj h
      exact end1 rfl rfl (show _ = .int .i64 (2) from rfl) ⟨_, hfr, rfl⟩
     ·refine E_cf d3 rfl ?_
      exact E_skip (blk_n (thn_n (u3 () _ _ ⟨e7, hfr⟩ h)))
 ·rintro _ j7 g8 ⟨i8, hfr⟩ h
  refine E_seq (E_region (EL_at (.int .i64 (0)) rfl rfl ?_))
  refine EL_nil (thn_n (E_ret ?_))
  obtain rfl := sinj h
  exact end1 rfl rfl (show _ = .int .i64 (0) from rfl) ⟨_, hfr, rfl⟩
def f106 (x0 : SeamCut) (z0 : Int) : Option (Bool) :=
 Option.bind (α := Bool) (
  (f107 ((1 : Int)) ((200 : Int)) (([(x0).Picks] : List Int))).bind fun j1 =>
  bif (!j1) then
   some (true)
  else
   (f107 ((0 : Int)) ((w64 (z0 - (1 : Int)))) (([(x0).Begin] : List Int))).bind fun z2 =>
   some ((!z2))
  ) fun u0 =>
 some (u0)
theorem en106 : Enters Try.prog 106 := enters_of Try.func106 (by kernel_rfl) rfl
theorem wk106 {gI : Gh} {wI : World} {x0 : SeamCut} {z0 : Int} {up0 : Value} (rp0 : RV gI.m wI x0 up0) {pf0 : Value} (qf0 : PT gI.m wI z0 pf0) {r : Bool} (h : f106 x0 z0 = some r) : Fn Try.prog 106 #[up0, pf0] gI wI (fun _ _ v => v = .bool (r)) := by
 unfold f106 at h
 refine fn_of_E Try.func106 rfl (Nat.le_of_ble_eq_true rfl) fun g0 hm hfr => ?_
 have qf0 : PT g0.m wI z0 pf0 := hm ▸ qf0
 have rp0 : RV g0.m wI x0 up0 := hm ▸ rp0
 show E _ 18 none _ _ _ _ _
 refine E_seq (E_region (EL_do .plain rfl (D_box (g := g0) rfl rp0 fun g1 w1 p1 hs q1 => ?_)))
 have hfr := hfr.ext hs
 have qf0 := qf0.ext hs
 refine EL_at (.bool false) rfl rfl ?_
 refine EL_nil (thn_n ?_)
 obtain ⟨u0, hx, h⟩ := bsome h
 refine E_join (fun e w => ∃ (g : Gh) , Fr gI wI g w ∧ e 3 = .bool (u0)) (fun Q' hQ => ?_) (fun y6 c7 hR => ?_)
 ·replace h := hx
  clear hx
  refine E_region (EL_p (fPtr p1 1) (P_fieldAddr at_68_1 rfl (PT.ptr q1)) rfl ?_)
  have u3 := PT_field (part_SeamCut_1).1 q1
  refine EL_do .plain rfl (D_load (g := g1) Try.isAgg3 Try.sizeOf3 rfl u3 fun d7 z3 => ?_)
  obtain rfl := RV_int.1 z3
  refine EL_do .plain rfl (D_buildSlice (g := g1) 3006 (xs := ([(x0).Picks] : List Int)) (vs := [.int .i64 ((x0).Picks)]) Try.underlying26 Try.sizeOf3 Try.zeroValue3 rfl rfl (.cons rfl .nil) (RVs.cons (RV_int.2 rfl) RVs.nil) rfl rfl fun z4 e7 i5 hs o16 l5 hxt hfl => ?_)
  have hfr := hfr.stp hs
  have qf0 := qf0.stp hs
  have q1 := q1.stp hs
  obtain ⟨j1, j3, h⟩ := bsome h
  refine EL_do .plain rfl (D_call (g := z4) (vs := [.int .i64 (1), .int .i64 (200), i5]) en107 (.cons rfl (.cons rfl (.cons rfl .nil))) (wk107 l5 j3) fun d3 a7 g7 hs hr => ?_)
  have hfr := hfr.ext hs
  have qf0 := qf0.ext hs
  have q1 := q1.ext hs
  subst hr
  refine EL_p (.bool (!j1)) (P_not rfl) rfl ?_
  refine EL_mw (.bool (!j1)) rfl rfl ?_
  rcases csome h with ⟨o0, h⟩ | ⟨o0, h⟩
  ·refine EL_s rfl rfl o0 rfl rfl ?_
   iterate 6 refine EL_s rfl rfl o0 rfl rfl ?_
   refine EL_p (.bool true) (P_pick (b := (!j1)) rfl (pick_t o0 rfl)) rfl ?_
   refine EL_at (.bool true) rfl rfl ?_
   refine EL_nil ?_
   obtain rfl := sinj h
   exact hQ _ _ ⟨d3, hfr, rfl⟩
  ·refine EL_do (.yes2 rfl rfl o0) rfl (D_load (g := d3) Try.isAgg3 Try.sizeOf3 rfl qf0 fun i7 q5 => ?_)
   obtain rfl := RV_int.1 q5
   refine EL_y (.int .i64 ((w64 (z0 - (1 : Int))))) (P_int rfl rfl rfl) rfl rfl o0 rfl ?_
   refine EL_y (fPtr p1 0) (P_fieldAddr at_68_0 rfl (PT.ptr q1)) rfl rfl o0 rfl ?_
   have t5 := PT_field (part_SeamCut_0).1 q1
   refine EL_do (.yes2 rfl rfl o0) rfl (D_load (g := d3) Try.isAgg3 Try.sizeOf3 rfl t5 fun j7 x5 => ?_)
   obtain rfl := RV_int.1 x5
   refine EL_do (.yes2 rfl rfl o0) rfl (D_buildSlice (g := d3) 3014 (xs := ([(x0).Begin] : List Int)) (vs := [.int .i64 ((x0).Begin)]) Try.underlying26 Try.sizeOf3 Try.zeroValue3 rfl rfl (.cons rfl .nil) (RVs.cons (RV_int.2 rfl) RVs.nil) rfl rfl fun i6 m7 j6 hs o23 v6 hxt hfl => ?_)
   have hfr := hfr.stp hs
   obtain ⟨z2, o3, h⟩ := bsome h
   refine EL_do (.yes2 rfl rfl o0) rfl (D_call (g := i6) (vs := [.int .i64 (0), .int .i64 ((w64 (z0 - (1 : Int)))), j6]) en107 (.cons rfl (.cons rfl (.cons rfl .nil))) (wk107 v6 o3) fun x6 b7 n7 hs hr => ?_)
   have hfr := hfr.ext hs
   subst hr
   refine EL_y (.bool (!z2)) (P_not rfl) rfl rfl o0 rfl ?_
   refine EL_p (.bool (!z2)) (P_pick (b := (!j1)) rfl (pick_f o0 rfl)) rfl ?_
   refine EL_at (.bool (!z2)) rfl rfl ?_
   refine EL_nil ?_
   obtain rfl := sinj h
   exact hQ _ _ ⟨x6, hfr, rfl⟩
 ·clear hx
  obtain ⟨o7, hfr, i3⟩ := hR
  refine E_ret ?_
  obtain rfl := sinj h
  exact end1 rfl rfl (show _ = .bool (u0) from i3) ⟨_, hfr, rfl⟩
def f112 (x0 : SeamPair) (x1 : Int) : Option ((List Span)) :=
 (cut ((x0).more) x1 (((x0).more).length : Int)).bind fun y4 =>
 (f155 y4).bind fun y7 =>
 some (y7)
theorem en112 : Enters Try.prog 112 := enters_of Try.func112 (by kernel_rfl) rfl
theorem wk112 {gI : Gh} {wI : World} {x0 : SeamPair} {x1 : Int} {up0 : Value} (rp0 : RV gI.m wI x0 up0) {r : (List Span)} (h : f112 x0 x1 = some r) : Fn Try.prog 112 #[up0, .int .i64 (x1)] gI wI (fun m w v => RV m w (r) v) := by
 unfold f112 at h
 refine fn_of_E Try.func112 rfl (Nat.le_of_ble_eq_true rfl) fun g0 hm hfr => ?_
 have rp0 : RV g0.m wI x0 up0 := hm ▸ rp0
 show E _ 10 none _ _ _ _ _
 refine E_seq (E_region (EL_do .plain rfl (D_box (g := g0) rfl rp0 fun g1 w1 p1 hs q1 => ?_)))
 have hfr := hfr.ext hs
 refine EL_at (.slice none 0 0) rfl rfl ?_
 refine EL_nil (thn_n (E_seq (E_region (EL_p (fPtr p1 2) (P_fieldAddr at_209_2 rfl (PT.ptr q1)) rfl ?_))))
 have q2 := PT_field (part_SeamPair_2).1 q1
 refine EL_do .plain rfl (D_load (g := g1) Try.isAgg207 Try.sizeOf207 rfl q2 fun v3 r3 => ?_)
 refine EL_mw (.int .i64 (x1)) rfl rfl ?_
 obtain ⟨y4, o0, h⟩ := bsome h
 have r5 := RV_cut r3 o0
 refine EL_p ((cutV v3 (Int.toNat x1) (Int.toNat (((x0).more).length : Int)) 2)) (P_slice Try.underlying207 Try.sizeOf137 rfl r3 rfl rfl o0) rfl ?_
 obtain ⟨y7, u0, h⟩ := bsome h
 refine EL_do .plain rfl (D_call (g := g1) (vs := [(cutV v3 (Int.toNat x1) (Int.toNat (((x0).more).length : Int)) 2)]) en155 (.cons rfl .nil) (wk155 r5 u0) fun g6 w6_ v6 hs hr => ?_)
 have hfr := hfr.ext hs
 have r6 := hr
 refine EL_at v6 rfl rfl ?_
 refine EL_nil (thn_n (E_ret ?_))
 obtain rfl := sinj h
 exact end1 rfl rfl (show _ = v6 from rfl) ⟨_, hfr, r6⟩
theorem v155_0 {iO : Nat} {gI : Gh} {wI : World} {x0 : List Span} {up0 : Value} (rp0 : RV gI.m wI x0 up0) {r : (List Span)} (h : f155 x0 = some r) : FnG Try.prog 155 #[up0] gI wI (fun g w v => OM iO g w 137 (r) v) := by
 unfold f155 at h
 refine fnG_of_E Try.func155 rfl (Nat.le_of_ble_eq_true rfl) fun g0 hm hfr => ?_
 have rp0 : RV g0.m wI x0 up0 := hm ▸ rp0
 show E _ 26 none _ _ _ _ _
 refine E_seq (E_region (EL_at (.slice none 0 0) rfl rfl ?_))
 refine EL_nil (thn_n (E_seq (E_region ?_)))
 have r1 : RV g0.m wI (⟨0, 0⟩ : Span) (.agg (setCh [[.int .i64 0], [.int .i64 0]] []).flatten.toArray) := RV_build rfl (rep_pair (rep_int) (rep_last (rep_int)))
 generalize hv1 : (Value.agg (setCh [[.int .i64 0], [.int .i64 0]] []).flatten.toArray) = v1 at r1
 refine EL_p v1 (hv1 ▸ P_build (vs := []) [[.int .i64 0], [.int .i64 0]] lay_137 rfl rfl .nil trivial) rfl ?_
 refine EL_do .plain rfl (D_buildSlice (g := g0) 3007 (xs := ([(⟨0, 0⟩ : Span)] : List Span)) (vs := [v1]) Try.underlying207 Try.sizeOf137 Try.zeroValue137 rfl rfl (.cons rfl .nil) (RVs.cons r1 RVs.nil) rfl rfl fun g2 w2 v2 hs o2 r2 hxt hfl => ?_)
 have hfr := hfr.stp hs
 have rp0 := rp0.stp hs
 refine EL_at v2 rfl rfl ?_
 refine EL_nil (thn_n ?_)
 obtain ⟨z4, hx, h⟩ := bsome h
 refine E_join (fun e w => ∃ (g : Gh) (v3 : Value), Fr gI wI g w ∧ e 3 = v3 ∧ RV g.m w (z4 : List Span) v3 ∧ OS 3007 g w 137 (z4 : List Span) v3) (fun Q' hQ => ?_) (fun e9 l9 hR => ?_)
 ·replace h := hx
  clear hx
  refine E_seq (E_region (EL_mw up0 rfl rfl ?_))
  refine EL_p (.int .i64 ((x0).length : Int)) (P_len Try.underlying207 rfl rp0) rfl ?_
  refine EL_mw (.int .i64 (0)) rfl rfl ?_
  refine EL_nil (thn_n (E_block ?_))
  refine E_lp h (fun (s : (List Span) × Int) e w => ∃ (g : Gh) (v3 : Value), Fr gI wI g w ∧ e 3 = v3 ∧ RV g.m w (s.1 : List Span) v3 ∧ OS 3007 g w 137 (s.1 : List Span) v3 ∧ e 8 = up0 ∧ RV g.m w (x0 : List Span) up0 ∧ e 9 = .int .i64 (((x0).length : Int)) ∧ e 10 = .int .i64 (s.2)) ⟨g2, (v2), hfr, rfl, r2, o2, rfl, rp0, rfl, rfl⟩ (fun X74 lA k8 => ?_)
  rintro ⟨i9, o0⟩ n9 mA ⟨y6, o3, hfr, z3, z2, d3, x5, u0, i6, i3⟩ h
  refine E_seq (E_region (EL_in (.bool ((decide (o0 < ((x0).length : Int))))) i3 i6 rfl rfl ?_))
  refine EL_nil (thn_n (E_seq ?_))
  rcases csome h with ⟨l5, h⟩ | ⟨l5, h⟩
  ·refine E_ct l5 rfl ?_
   refine E_skip (thn_n ?_)
   obtain ⟨u3, hx, h⟩ := bsome h
   refine E_join (fun e w => ∃ (g : Gh) (v3 : Value), Fr gI wI g w ∧ e 3 = v3 ∧ RV g.m w (u3 : List Span) v3 ∧ OS 3007 g w 137 (u3 : List Span) v3 ∧ e 8 = up0 ∧ RV g.m w (x0 : List Span) up0 ∧ e 9 = .int .i64 (((x0).length : Int)) ∧ e 10 = .int .i64 (o0)) (fun Q' hQ => ?_) (fun k9 o9 hR => ?_)
   ·replace h := hx
    clear hx
    refine E_block ?_
    refine E_seq (E_region (EL_mv i3 rfl ?_))
    obtain ⟨y110, j6, h⟩ := bsome h
    refine EL_p (ePtr up0 o0 2) (P_indexAddr (α := Span) Try.underlying207 Try.sizeOf137 x5 u0 i3 j6) rfl ?_
    have l8 := PT_idx u0 j6
    refine EL_do .plain rfl (D_load (g := y6) Try.isAgg137 Try.sizeOf137 rfl l8 fun m8 q5 => ?_)
    refine EL_do .plain rfl (D_allocOc (g := y6) 2005 (⟨0, 0⟩ : Span) Try.zeroValue137 (fun m w => ⟨_, (rep_two rep_int rep_int), rfl⟩) fun n8 t9 u9 hs b113 cb => ?_)
    have hfr := hfr.stp hs
    have z2 := z2.stp hs
    have d3 := d3.stp hs rfl
    have u0 := u0.stp hs
    have q5 := q5.stp hs
    clear cb
    refine EL_at (.int .i64 (o0)) rfl rfl ?_
    refine EL_do .plain rfl (D_storeOc (g := n8) (v := m8) Try.sizeOf137 rfl b113 rfl q5 fun o8 y9 hs b114 cb => ?_)
    clear cb
    have hfr := hfr.stp hs
    have z2 := z2.stp hs
    have d3 := d3.stp hs rfl
    have u0 := u0.stp hs
    refine EL_nil (thn_n ?_)
    obtain ⟨z9, v6, h⟩ := bsome h
    have q8 := PT_idx z2 v6
    refine L_load (x := .tmp 18) Try.isAgg137 Try.sizeOf137 q8 fun a7 r8 c8 => ?_
    refine L_loadO0 (x := .tmp 5) Try.isAgg137 Try.sizeOf137 b114 fun b7 t8 e8 => ?_
    obtain ⟨j1, g8, h⟩ := bsome h
    refine E_drawL (g := o8) (n := 8) [(6, (fun v g w => RV g.m w j1 v)), (7, (fun v g w => RV g.m w ([j1] : List Span) v ∧ OS 3022 g w 137 ([j1] : List Span) v ∧ FullV v))] [0, 1, 2, 3, 4, 5, 6, 7] rfl mixed (by kernel_rfl) (⟨fun _ => up_rv, fun _ => up_and up_rv (up_and up_os (up_eq _)), trivial⟩) ?_
    refine L_p o3 rfl rfl (P_move z3) ?_
    refine L_p o3 rfl rfl (P_move z3) ?_
    refine L_p (.int .i64 (o0)) rfl rfl (P_move rfl) ?_
    refine L_p (ePtr o3 o0 2) rfl rfl (P_indexAddr (α := Span) Try.underlying207 Try.sizeOf137 rfl z2 rfl v6) ?_
    refine L_ld (c := a7) rfl rfl .plain (fun _ _ h => h.ch) c8 rfl ?_
    refine L_ld (c := b7) rfl rfl .plain (fun _ _ h => ⟨h.ch, fun b hb _ => h.below.block b hb⟩) e8 rfl ?_
    refine L_do (φ := fun v g w => RV g.m w j1 v) rfl rfl .plain (fun g w hd => D_call (g := g) (vs := [a7, b7]) en183 (.cons rfl (.cons rfl .nil)) (wk183 (r8.ext hd.1) (t8.ext hd.1) g8) fun g' w' v hs hr => ⟨g', hs, hr⟩) (fun t5 hv => ?_)
    obtain ⟨_, _, _, rq119⟩ := hv
    refine L_do (φ := fun v g w => RV g.m w ([j1] : List Span) v ∧ OS 3022 g w 137 ([j1] : List Span) v ∧ FullV v) rfl rfl .plain (fun g w hd => D_buildSlice (g := g) 3022 (xs := ([j1] : List Span)) (vs := [t5]) Try.underlying207 Try.sizeOf137 Try.zeroValue137 rfl rfl (.cons rfl .nil) (RVs.cons (word (A := fun g w => RV g.m w j1 t5) 6 rfl rfl (deps_of hd)) RVs.nil) rfl rfl fun g' w' v hs o r hxt hfl => ⟨g', hxt, r, o, hfl⟩) (fun j3 hv => ?_)
    clear hv
    refine L_nil fun v8 bA hall => ?_
    have hs := hall.1
    have hfr := hfr.ext hs
    have z2 := z2.ext hs
    have d3 := d3.ext hs
    have u0 := u0.ext hs
    have gA := (word_all (A := fun g w => RV g.m w j1 t5) 6 rfl hall)
    have x8 := (word_all (A := fun g w => RV g.m w ([j1] : List Span) j3 ∧ OS 3022 g w 137 ([j1] : List Span) j3 ∧ FullV j3) 7 rfl hall).1
    have o140 := (word_all (A := fun g w => RV g.m w ([j1] : List Span) j3 ∧ OS 3022 g w 137 ([j1] : List Span) j3 ∧ FullV j3) 7 rfl hall).2.1
    clear hs hall
    obtain ⟨iA, i8, h⟩ := bsome h
    refine EL_do .plain rfl (D_append (g := v8) (i := 3007) Try.underlying207 info_137 rfl rfl d3 z2 rfl x8 i8 fun y8 jA c7 hs o141 a9 _ => ?_)
    have hfr := hfr.stp hs
    have u0 := u0.stp hs
    refine EL_at c7 rfl rfl ?_
    refine EL_nil (blk_n ?_)
    obtain rfl := sinj h
    exact hQ _ _ ⟨y8, (c7), hfr, rfl, a9, o141, x5, u0, i6, i3⟩
   ·clear hx
    obtain ⟨d9, d7, hfr, e7, g7, i7, j7, m7, n7, x6⟩ := hR
    refine E_region (EL_in (.int .i64 ((w64 (o0 + (1 : Int))))) x6 rfl rfl rfl ?_)
    refine EL_mw (.int .i64 ((w64 (o0 + (1 : Int))))) rfl rfl ?_
    exact EL_nil (thn_n (k8 (u3, (w64 (o0 + (1 : Int)))) _ _ ⟨d9, (d7), hfr, e7, g7, i7, j7, m7, n7, rfl⟩ h))
  ·refine E_cf l5 rfl ?_
   refine E_exit ?_
   refine thn_e ?_
   refine thn_e ?_
   refine blk_hit ?_
   obtain rfl := sinj h
   exact hQ _ _ ⟨y6, (o3), hfr, z3, z2, d3⟩
 ·clear hx
  obtain ⟨kA, i5, hfr, o7, u7, v7⟩ := hR
  refine E_seq (E_region (EL_mv o7 rfl ?_))
  refine EL_at i5 rfl rfl ?_
  refine EL_nil (thn_n (E_ret ?_))
  obtain rfl := sinj h
  obtain ⟨gh, hxh, homh⟩ := OM.hand (i := iO) plain_Span hfr v7 u7
  exact end1 rfl rfl (show _ = i5 from rfl) ⟨gh, hxh, homh⟩
def f137 (x0 : FaultFaultLoom) (x1 : FaultDamage) : Option (Bool) :=
 Option.bind (α := FaultDamage × Bool) (
  bif ((x1).Kind == (1 : Int)) then
   some ((⟨(x1).Kind, (x1).Pick, (x1).Hook, 0, false⟩ : FaultDamage), true)
  else
   bif ((x1).Kind == (2 : Int)) then
    some ((⟨(x1).Kind, 0, (x1).Hook, 0, (x1).Up⟩ : FaultDamage), true)
   else
    Option.bind (α := Bool) (
     bif ((x1).Kind == (3 : Int)) then
      some (((x1).Kind == (3 : Int)))
     else
      some (((x1).Kind == (4 : Int)))
     ) fun z3 =>
    bif z3 then
     some ((⟨(x1).Kind, (x1).Pick, 0, 0, false⟩ : FaultDamage), true)
    else
     bif ((x1).Kind == (5 : Int)) then
      some ((⟨(x1).Kind, 0, 0, (x1).Warp, false⟩ : FaultDamage), true)
     else
      some ((⟨(x1).Kind, 0, 0, 0, false⟩ : FaultDamage), false)
  ) fun (j3, z4) =>
 Option.bind (α := Bool) (
  bif z4 then
   bif (decide (x1 = j3)) then
    (f50 ((0 : Int)) ((w64 ((((((x0).FaultLoom).Design).Rows).length : Int) - (1 : Int)))) (([(x1).Pick] : List Int))).bind fun j6 =>
    bif j6 then
     (f50 ((0 : Int)) ((w64 ((((x0).FaultLoom).Design).Hooks - (1 : Int)))) (([(x1).Hook] : List Int))).bind fun v6 =>
     bif v6 then
      (f50 ((0 : Int)) ((w64 ((((((x0).FaultLoom).Harness).Warps).length : Int) - (1 : Int)))) (([(x1).Warp] : List Int))).bind fun d7 =>
      some (d7)
     else
      some (false)
    else
     some (false)
   else
    some (false)
  else
   some (false)
  ) fun x5 =>
 some (x5)
theorem en137 : Enters Try.prog 137 := enters_of Try.func137 (by kernel_rfl) rfl
theorem wk137 {gI : Gh} {wI : World} {x0 : FaultFaultLoom} {x1 : FaultDamage} {up0 : Value} (rp0 : RV gI.m wI x0 up0) {up1 : Value} (rp1 : RV gI.m wI x1 up1) {r : Bool} (h : f137 x0 x1 = some r) : Fn Try.prog 137 #[up0, up1] gI wI (fun _ _ v => v = .bool (r)) := by
 unfold f137 at h
 refine fn_of_E Try.func137 rfl (Nat.le_of_ble_eq_true rfl) fun g0 hm hfr => ?_
 have rp0 : RV g0.m wI x0 up0 := hm ▸ rp0
 have rp1 : RV g0.m wI x1 up1 := hm ▸ rp1
 show E _ 80 none _ _ _ _ _
 refine E_seq (E_region (EL_do .plain rfl (D_box (g := g0) rfl rp0 fun g1 w1 p1 hs q1 => ?_)))
 have hfr := hfr.ext hs
 have rp1 := rp1.ext hs
 refine EL_do .plain rfl (D_box (g := g1) rfl rp1 fun g2 w2 p2 hs q2 => ?_)
 have hfr := hfr.ext hs
 have q1 := q1.ext hs
 refine EL_at (.bool false) rfl rfl ?_
 refine EL_nil (thn_n (E_seq (E_region (EL_p (fPtr p2 0) (P_fieldAddr at_37_0 rfl (PT.ptr q2)) rfl ?_))))
 have q3 := PT_field (part_FaultDamage_0).1 q2
 refine EL_do .plain rfl (D_load (g := g2) Try.isAgg35 Try.sizeOf35 rfl q3 fun v4 r4 => ?_)
 obtain rfl := RV_int.1 r4
 have r5 : RV g2.m w2 (⟨(x1).Kind, 0, 0, 0, false⟩ : FaultDamage) (.agg (setCh [[.int .i64 0], [.int .i64 0], [.int .i64 0], [.int .i64 0], [.bool false]] [(0, .int .i64 ((x1).Kind))]).flatten.toArray) := RV_build rfl (rep_pair (rfl) (rep_pair (rep_int) (rep_pair (rep_int) (rep_pair (rep_int) (rep_last (rep_bool))))))
 generalize yB : (Value.agg (setCh [[.int .i64 0], [.int .i64 0], [.int .i64 0], [.int .i64 0], [.bool false]] [(0, .int .i64 ((x1).Kind))]).flatten.toArray) = v5 at r5
 refine EL_p v5 (yB ▸ P_build (vs := [(0, .int .i64 ((x1).Kind))]) [[.int .i64 0], [.int .i64 0], [.int .i64 0], [.int .i64 0], [.bool false]] lay_37 rfl rfl (.cons rfl .nil) ⟨⟨_, rfl, rfl⟩, trivial⟩) rfl ?_
 refine EL_do .plain rfl (D_allocOc (g := g2) 2005 (⟨0, 0, 0, 0, false⟩ : FaultDamage) Try.zeroValue37 (fun m w => ⟨_, (rep_two rep_int (rep_two rep_int (rep_two rep_int (rep_two rep_int rep_bool)))), rfl⟩) fun g6 w6 p6 hs b6 cb => ?_)
 have hfr := hfr.stp hs
 have q1 := q1.stp hs
 have q2 := q2.stp hs
 have r5 := r5.stp hs
 clear cb
 refine EL_do .plain rfl (D_storeOc (g := g6) (v := v5) Try.sizeOf37 rfl b6 rfl r5 fun g7 w7 hs b7 cb => ?_)
 clear cb
 have hfr := hfr.stp hs
 have q1 := q1.stp hs
 have q2 := q2.stp hs
 refine EL_nil (thn_n (E_seq (E_region (EL_at (.bool true) rfl rfl ?_))))
 refine EL_nil (thn_n ?_)
 obtain ⟨⟨j3, z4⟩, hx, h⟩ := bsome h
 refine E_join (fun e w => ∃ (g : Gh) , Fr gI wI g w ∧ e 2 = p1 ∧ PT g.m w (x0 : FaultFaultLoom) p1 ∧ e 3 = p2 ∧ PT g.m w (x1 : FaultDamage) p2 ∧ e 5 = p6 ∧ OB 2005 g w 37 (j3 : FaultDamage) p6 ∧ e 6 = .bool (z4)) (fun Q' hQ => ?_) (fun kC uC hR => ?_)
 ·replace h := hx
  clear hx
  refine E_seq (E_region (EL_p (fPtr p2 0) (P_fieldAddr at_37_0 rfl (PT.ptr q2)) rfl ?_))
  have zB := PT_field (part_FaultDamage_0).1 q2
  refine EL_do .plain rfl (D_load (g := g7) Try.isAgg35 Try.sizeOf35 rfl zB fun gE aC => ?_)
  obtain rfl := RV_int.1 aC
  refine EL_nil (thn_n (E_block ?_))
  refine E_seq (E_region (EL_in (.bool (((x1).Kind == (1 : Int)))) rfl rfl rfl rfl ?_))
  refine EL_at (.bool (((x1).Kind == (1 : Int)))) rfl rfl ?_
  refine EL_nil (thn_n ?_)
  rcases csome h with ⟨v7, h⟩ | ⟨v7, h⟩
  ·refine E_ct v7 rfl ?_
   have cC := PT_field (part_FaultDamage_1).1 q2
   refine L_load (x := .tmp 14) Try.isAgg3 Try.sizeOf3 cC fun iE dC i9 => ?_
   obtain rfl := RV_int.1 dC
   have eC := PT_field (part_FaultDamage_2).1 q2
   refine L_load (x := .tmp 16) Try.isAgg3 Try.sizeOf3 eC fun jE iC k9 => ?_
   obtain rfl := RV_int.1 iC
   refine E_drawTL (g := g7) (n := 5) [2, 3] [] [0, 1, 2, 3, 4] rfl mixed (by kernel_rfl) trivial rfl ?_
   refine L_p (fPtr p2 1) rfl rfl (P_fieldAddr at_37_1 rfl (PT.ptr q2)) ?_
   refine L_ld (c := .int .i64 ((x1).Pick)) rfl rfl .plain (fun _ _ h => h.ch) i9 rfl ?_
   refine L_purL (c := fPtr p2 2) rfl rfl .plain (P_fieldAddr at_37_2 rfl (PT.ptr q2)) ?_
   refine L_ldL (c := .int .i64 ((x1).Hook)) rfl rfl .plain (fun _ _ h => h.ch) rfl k9 rfl ?_
   refine L_p (fPtr p6 1) rfl rfl (P_fieldAddr at_37_1 rfl (OB.ptr b7)) ?_
   refine L_nl fun e9 jC hs => ?_
   have hlt : Lt g7.m w7 e9 jC := hs.ch
   have hfr := hfr.ext hs
   have q1 := q1.ext hs
   have q2 := q2.ext hs
   have b7 := b7.ext hs
   clear hs
   refine TL_do hlt.w .plain rfl (D_storeFc (g := e9) part_FaultDamage_1 Try.sizeOf3 rfl b7 rfl (RV_int.2 rfl) fun l9 vC hs b112 rst hos => ?_)
   clear rst hos
   have hfr := hfr.stp hs
   have hlt := hlt.stp hs
   have q1 := q1.stp hs
   have q2 := q2.stp hs
   refine TL_pur hlt.w (v := fPtr p6 2) (P_fieldAddr at_37_2 rfl (OB.ptr b112)) .plain rfl ?_
   refine TL_do hlt.w .plain rfl (D_storeFc (g := l9) part_FaultDamage_2 Try.sizeOf3 rfl b112 rfl (RV_int.2 rfl) fun n9 xC hs b114 rst hos => ?_)
   clear rst hos
   have hfr := hfr.stp hs
   have hlt := hlt.stp hs
   have q1 := q1.stp hs
   have q2 := q2.stp hs
   refine TL_nil hlt.w ?_
   clear hlt
   refine blk_n ?_
   obtain ⟨rfl, rfl⟩ := pairs2 h
   exact hQ _ _ ⟨n9, hfr, rfl, q1, rfl, q2, rfl, b114, rfl⟩
  ·refine E_cf v7 rfl ?_
   refine E_seq (E_region (EL_in (.bool (((x1).Kind == (2 : Int)))) rfl rfl rfl rfl ?_))
   refine EL_at (.bool (((x1).Kind == (2 : Int)))) rfl rfl ?_
   refine EL_nil (thn_n ?_)
   rcases csome h with ⟨e7, h⟩ | ⟨e7, h⟩
   ·refine E_ct e7 rfl ?_
    have o9 := PT_field (part_FaultDamage_2).1 q2
    refine L_load (x := .tmp 22) Try.isAgg3 Try.sizeOf3 o9 fun yC t9 v8 => ?_
    obtain rfl := RV_int.1 t9
    have u9 := PT_field (part_FaultDamage_4).1 q2
    refine L_load (x := .tmp 24) Try.isAgg4 Try.sizeOf4 u9 fun aD y9 x8 => ?_
    obtain rfl := RV_bool.1 y9
    refine E_drawTL (g := g7) (n := 5) [2, 3] [] [0, 1, 2, 3, 4] rfl mixed (by kernel_rfl) trivial rfl ?_
    refine L_p (fPtr p2 2) rfl rfl (P_fieldAddr at_37_2 rfl (PT.ptr q2)) ?_
    refine L_ld (c := .int .i64 ((x1).Hook)) rfl rfl .plain (fun _ _ h => h.ch) v8 rfl ?_
    refine L_purL (c := fPtr p2 4) rfl rfl .plain (P_fieldAddr at_37_4 rfl (PT.ptr q2)) ?_
    refine L_ldL (c := .bool ((x1).Up)) rfl rfl .plain (fun _ _ h => h.ch) rfl x8 rfl ?_
    refine L_p (fPtr p6 2) rfl rfl (P_fieldAddr at_37_2 rfl (OB.ptr b7)) ?_
    refine L_nl fun e8 z9 hs => ?_
    have hlt : Lt g7.m w7 e8 z9 := hs.ch
    have hfr := hfr.ext hs
    have q1 := q1.ext hs
    have q2 := q2.ext hs
    have b7 := b7.ext hs
    clear hs
    refine TL_do hlt.w .plain rfl (D_storeFc (g := e8) part_FaultDamage_2 Try.sizeOf3 rfl b7 rfl (RV_int.2 rfl) fun bA bD hs b143 rst hos => ?_)
    clear rst hos
    have hfr := hfr.stp hs
    have hlt := hlt.stp hs
    have q1 := q1.stp hs
    have q2 := q2.stp hs
    refine TL_pur hlt.w (v := fPtr p6 4) (P_fieldAddr at_37_4 rfl (OB.ptr b143)) .plain rfl ?_
    refine TL_do hlt.w .plain rfl (D_storeFc (g := bA) part_FaultDamage_4 Try.sizeOf4 rfl b143 rfl (RV_bool.2 rfl) fun gA cD hs b145 rst hos => ?_)
    clear rst hos
    have hfr := hfr.stp hs
    have hlt := hlt.stp hs
    have q1 := q1.stp hs
    have q2 := q2.stp hs
    refine TL_nil hlt.w ?_
    clear hlt
    refine blk_n ?_
    obtain ⟨rfl, rfl⟩ := pairs2 h
    exact hQ _ _ ⟨gA, hfr, rfl, q1, rfl, q2, rfl, b145, rfl⟩
   ·refine E_cf e7 rfl ?_
    obtain ⟨z3, hx, h⟩ := bsome h
    refine E_join (fun e w => ∃ (g : Gh) , Fr gI wI g w ∧ e 2 = p1 ∧ PT g.m w (x0 : FaultFaultLoom) p1 ∧ e 3 = p2 ∧ PT g.m w (x1 : FaultDamage) p2 ∧ e 5 = p6 ∧ OB 2005 g w 37 ((⟨(x1).Kind, 0, 0, 0, false⟩ : FaultDamage) : FaultDamage) p6 ∧ e 6 = .bool (true) ∧ e 11 = .int .i64 ((x1).Kind) ∧ e 28 = .bool (z3)) (fun Q' hQ => ?_) (fun lC eD hR => ?_)
    ·replace h := hx
     clear hx
     refine E_seq (E_region (EL_in (.bool (((x1).Kind == (3 : Int)))) rfl rfl rfl rfl ?_))
     refine EL_at (.bool (((x1).Kind == (3 : Int)))) rfl rfl ?_
     refine EL_nil (thn_n ?_)
     rcases csome h with ⟨i7, h⟩ | ⟨i7, h⟩
     ·refine E_ct i7 rfl ?_
      refine E_skip ?_
      obtain rfl := sinj h
      exact hQ _ _ ⟨g7, hfr, rfl, q1, rfl, q2, rfl, b7, rfl, rfl, rfl⟩
     ·refine E_cf i7 rfl ?_
      refine E_region (EL_in (.bool (((x1).Kind == (4 : Int)))) rfl rfl rfl rfl ?_)
      refine EL_at (.bool (((x1).Kind == (4 : Int)))) rfl rfl ?_
      refine EL_nil ?_
      obtain rfl := sinj h
      exact hQ _ _ ⟨g7, hfr, rfl, q1, rfl, q2, rfl, b7, rfl, rfl, rfl⟩
    ·clear hx
     obtain ⟨x6, hfr, y6, u3, i5, i3, l5, q5, u7, c8, c7⟩ := hR
     rcases csome h with ⟨j7, h⟩ | ⟨j7, h⟩
     ·refine E_cond_true (Eq.trans (show ev _ _ = .bool (z3) from c7) (congrArg Value.bool j7)) ?_
      refine E_region (EL_p (fPtr p2 1) (P_fieldAddr at_37_1 i5 (PT.ptr i3)) rfl ?_)
      have iA := PT_field (part_FaultDamage_1).1 i3
      refine EL_do .plain rfl (D_load (g := x6) Try.isAgg3 Try.sizeOf3 rfl iA fun gD jA => ?_)
      obtain rfl := RV_int.1 jA
      refine EL_p (fPtr p6 1) (P_fieldAddr at_37_1 l5 (OB.ptr q5)) rfl ?_
      refine EL_do .plain rfl (D_storeFc (g := x6) part_FaultDamage_1 Try.sizeOf3 rfl q5 rfl (RV_int.2 rfl) fun kA iD hs b153 rst hos => ?_)
      clear rst hos
      have hfr := hfr.stp hs
      have u3 := u3.stp hs
      have i3 := i3.stp hs
      refine EL_nil (blk_n ?_)
      obtain ⟨rfl, rfl⟩ := pairs2 h
      exact hQ _ _ ⟨kA, hfr, y6, u3, i5, i3, l5, b153, u7⟩
     ·refine E_cond_false (Eq.trans (show ev _ _ = .bool (z3) from c7) (congrArg Value.bool j7)) ?_
      refine E_seq (E_region (EL_in (.bool (((x1).Kind == (5 : Int)))) c8 rfl rfl rfl ?_))
      refine EL_at (.bool (((x1).Kind == (5 : Int)))) rfl rfl ?_
      refine EL_nil (thn_n ?_)
      rcases csome h with ⟨m7, h⟩ | ⟨m7, h⟩
      ·refine E_ct m7 rfl ?_
       refine E_region (EL_p (fPtr p2 3) (P_fieldAddr at_37_3 i5 (PT.ptr i3)) rfl ?_)
       have lA := PT_field (part_FaultDamage_3).1 i3
       refine EL_do .plain rfl (D_load (g := x6) Try.isAgg3 Try.sizeOf3 rfl lA fun jD mA => ?_)
       obtain rfl := RV_int.1 mA
       refine EL_p (fPtr p6 3) (P_fieldAddr at_37_3 l5 (OB.ptr q5)) rfl ?_
       refine EL_do .plain rfl (D_storeFc (g := x6) part_FaultDamage_3 Try.sizeOf3 rfl q5 rfl (RV_int.2 rfl) fun nA kD hs b158 rst hos => ?_)
       clear rst hos
       have hfr := hfr.stp hs
       have u3 := u3.stp hs
       have i3 := i3.stp hs
       refine EL_nil (blk_n ?_)
       obtain ⟨rfl, rfl⟩ := pairs2 h
       exact hQ _ _ ⟨nA, hfr, y6, u3, i5, i3, l5, b158, u7⟩
      ·refine E_cf m7 rfl ?_
       refine E_region (EL_at (.bool false) rfl rfl ?_)
       refine EL_nil (blk_n ?_)
       obtain ⟨rfl, rfl⟩ := pairs2 h
       exact hQ _ _ ⟨x6, hfr, y6, u3, i5, i3, l5, q5, rfl⟩
 ·clear hx
  obtain ⟨t5, hfr, a7, u0, i6, o0, g8, i8, k8⟩ := hR
  obtain ⟨x5, hx, h⟩ := bsome h
  refine E_join (fun e w => ∃ (g : Gh) , Fr gI wI g w ∧ e 4 = .bool (x5)) (fun Q' hQ => ?_) (fun mC lD hR => ?_)
  ·replace h := hx
   clear hx
   refine E_region (EL_mv k8 rfl ?_)
   refine EL_mw (.bool (z4)) rfl rfl ?_
   rcases csome h with ⟨o3, h⟩ | ⟨o3, h⟩
   ·refine EL_do (.yes2 rfl rfl o3) rfl (D_load (g := t5) Try.isAgg37 Try.sizeOf37 i6 o0 fun mD oA => ?_)
    refine EL_do (.yes2 rfl rfl o3) rfl (D_loadO (g := t5) Try.isAgg37 Try.sizeOf37 g8 i8 fun nD pA => ?_)
    refine EL_y (.bool ((decide (x1 = j3)))) (P_seq seq_37 rfl eg_37 rfl rfl oA pA) rfl rfl o3 rfl ?_
    refine EL_p (.bool ((decide (x1 = j3)))) (P_pick (b := z4) rfl (pick_t o3 rfl)) rfl ?_
    refine EL_mw (.bool ((decide (x1 = j3)))) rfl rfl ?_
    rcases csome h with ⟨j1, h⟩ | ⟨j1, h⟩
    ·refine EL_y (fPtr p1 0) (P_fieldAddr at_104_0 a7 (PT.ptr u0)) rfl rfl j1 rfl ?_
     have l8 := PT_field (part_FaultFaultLoom_0).1 u0
     refine EL_y (fPtr (fPtr p1 0) 2) (P_fieldAddr at_32_1 rfl (PT.ptr l8)) rfl rfl j1 rfl ?_
     have m8 := PT_field (part_FaultLoom_1).1 l8
     refine EL_y (fPtr (fPtr (fPtr p1 0) 2) 1) (P_fieldAddr at_30_1 rfl (PT.ptr m8)) rfl rfl j1 rfl ?_
     have qA := PT_field (part_Design_1).1 m8
     refine EL_do (.yes2 rfl rfl j1) rfl (D_load (g := t5) Try.isAgg26 Try.sizeOf26 rfl qA fun oD rA => ?_)
     refine EL_y (.int .i64 (((((x0).FaultLoom).Design).Rows).length : Int)) (P_len Try.underlying26 rfl rA) rfl rfl j1 rfl ?_
     refine EL_y (.int .i64 ((w64 ((((((x0).FaultLoom).Design).Rows).length : Int) - (1 : Int))))) (P_int rfl rfl rfl) rfl rfl j1 rfl ?_
     refine EL_y (fPtr p2 1) (P_fieldAddr at_37_1 i6 (PT.ptr o0)) rfl rfl j1 rfl ?_
     have sA := PT_field (part_FaultDamage_1).1 o0
     refine EL_do (.yes2 rfl rfl j1) rfl (D_load (g := t5) Try.isAgg3 Try.sizeOf3 rfl sA fun sD uA => ?_)
     obtain rfl := RV_int.1 uA
     refine EL_do (.yes2 rfl rfl j1) rfl (D_buildSlice (g := t5) 3054 (xs := ([(x1).Pick] : List Int)) (vs := [.int .i64 ((x1).Pick)]) Try.underlying26 Try.sizeOf3 Try.zeroValue3 rfl rfl (.cons rfl .nil) (RVs.cons (RV_int.2 rfl) RVs.nil) rfl rfl fun xA tD yA hs o203 zA hxt hfl => ?_)
     have hfr := hfr.stp hs
     have u0 := u0.stp hs
     have o0 := o0.stp hs
     obtain ⟨j6, y8, h⟩ := bsome h
     refine EL_do (.yes2 rfl rfl j1) rfl (D_call (g := xA) (vs := [.int .i64 (0), .int .i64 ((w64 ((((((x0).FaultLoom).Design).Rows).length : Int) - (1 : Int)))), yA]) en50 (.cons rfl (.cons rfl (.cons rfl .nil))) (wk50 zA y8) fun n7 qC uD hs hr => ?_)
     have hfr := hfr.ext hs
     have u0 := u0.ext hs
     have o0 := o0.ext hs
     subst hr
     refine EL_p (.bool (j6)) (P_pick (b := (decide (x1 = j3))) rfl (pick_t j1 rfl)) rfl ?_
     refine EL_mw (.bool (j6)) rfl rfl ?_
     rcases csome h with ⟨d3, h⟩ | ⟨d3, h⟩
     ·refine EL_y (fPtr p1 0) (P_fieldAddr at_104_0 a7 (PT.ptr u0)) rfl rfl d3 rfl ?_
      have n8 := PT_field (part_FaultFaultLoom_0).1 u0
      refine EL_y (fPtr (fPtr p1 0) 2) (P_fieldAddr at_32_1 rfl (PT.ptr n8)) rfl rfl d3 rfl ?_
      have o8 := PT_field (part_FaultLoom_1).1 n8
      refine EL_y (fPtr (fPtr (fPtr p1 0) 2) 0) (P_fieldAddr at_30_0 rfl (PT.ptr o8)) rfl rfl d3 rfl ?_
      have aB := PT_field (part_Design_0).1 o8
      refine EL_do (.yes2 rfl rfl d3) rfl (D_load (g := n7) Try.isAgg3 Try.sizeOf3 rfl aB fun vD bB => ?_)
      obtain rfl := RV_int.1 bB
      refine EL_y (.int .i64 ((w64 ((((x0).FaultLoom).Design).Hooks - (1 : Int))))) (P_int rfl rfl rfl) rfl rfl d3 rfl ?_
      refine EL_y (fPtr p2 2) (P_fieldAddr at_37_2 i6 (PT.ptr o0)) rfl rfl d3 rfl ?_
      have cB := PT_field (part_FaultDamage_2).1 o0
      refine EL_do (.yes2 rfl rfl d3) rfl (D_load (g := n7) Try.isAgg3 Try.sizeOf3 rfl cB fun xD dB => ?_)
      obtain rfl := RV_int.1 dB
      refine EL_do (.yes2 rfl rfl d3) rfl (D_buildSlice (g := n7) 3065 (xs := ([(x1).Hook] : List Int)) (vs := [.int .i64 ((x1).Hook)]) Try.underlying26 Try.sizeOf3 Try.zeroValue3 rfl rfl (.cons rfl .nil) (RVs.cons (RV_int.2 rfl) RVs.nil) rfl rfl fun eB yD iB hs o213 jB hxt hfl => ?_)
      have hfr := hfr.stp hs
      have u0 := u0.stp hs
      have o0 := o0.stp hs
      obtain ⟨v6, a9, h⟩ := bsome h
      refine EL_do (.yes2 rfl rfl d3) rfl (D_call (g := eB) (vs := [.int .i64 (0), .int .i64 ((w64 ((((x0).FaultLoom).Design).Hooks - (1 : Int)))), iB]) en50 (.cons rfl (.cons rfl (.cons rfl .nil))) (wk50 jB a9) fun o7 rC zD hs hr => ?_)
      have hfr := hfr.ext hs
      have u0 := u0.ext hs
      have o0 := o0.ext hs
      subst hr
      refine EL_p (.bool (v6)) (P_pick (b := j6) rfl (pick_t d3 rfl)) rfl ?_
      refine EL_mw (.bool (v6)) rfl rfl ?_
      rcases csome h with ⟨z2, h⟩ | ⟨z2, h⟩
      ·refine EL_y (fPtr p1 0) (P_fieldAddr at_104_0 a7 (PT.ptr u0)) rfl rfl z2 rfl ?_
       have q8 := PT_field (part_FaultFaultLoom_0).1 u0
       refine EL_y (fPtr (fPtr p1 0) 0) (P_fieldAddr at_32_0 rfl (PT.ptr q8)) rfl rfl z2 rfl ?_
       have r8 := PT_field (part_FaultLoom_0).1 q8
       refine EL_y (fPtr (fPtr (fPtr p1 0) 0) 1) (P_fieldAddr at_28_1 rfl (PT.ptr r8)) rfl rfl z2 rfl ?_
       have kB := PT_field (part_TieHarness_1).1 r8
       refine EL_do (.yes2 rfl rfl z2) rfl (D_load (g := o7) Try.isAgg26 Try.sizeOf26 rfl kB fun aE lB => ?_)
       refine EL_y (.int .i64 (((((x0).FaultLoom).Harness).Warps).length : Int)) (P_len Try.underlying26 rfl lB) rfl rfl z2 rfl ?_
       refine EL_y (.int .i64 ((w64 ((((((x0).FaultLoom).Harness).Warps).length : Int) - (1 : Int))))) (P_int rfl rfl rfl) rfl rfl z2 rfl ?_
       refine EL_y (fPtr p2 3) (P_fieldAddr at_37_3 i6 (PT.ptr o0)) rfl rfl z2 rfl ?_
       have mB := PT_field (part_FaultDamage_3).1 o0
       refine EL_do (.yes2 rfl rfl z2) rfl (D_load (g := o7) Try.isAgg3 Try.sizeOf3 rfl mB fun bE nB => ?_)
       obtain rfl := RV_int.1 nB
       refine EL_do (.yes2 rfl rfl z2) rfl (D_buildSlice (g := o7) 3077 (xs := ([(x1).Warp] : List Int)) (vs := [.int .i64 ((x1).Warp)]) Try.underlying26 Try.sizeOf3 Try.zeroValue3 rfl rfl (.cons rfl .nil) (RVs.cons (RV_int.2 rfl) RVs.nil) rfl rfl fun oB cE tB hs o223 vB hxt hfl => ?_)
       have hfr := hfr.stp hs
       obtain ⟨d7, d9, h⟩ := bsome h
       refine EL_do (.yes2 rfl rfl z2) rfl (D_call (g := oB) (vs := [.int .i64 (0), .int .i64 ((w64 ((((((x0).FaultLoom).Harness).Warps).length : Int) - (1 : Int)))), tB]) en50 (.cons rfl (.cons rfl (.cons rfl .nil))) (wk50 vB d9) fun xB tC dE hs hr => ?_)
       have hfr := hfr.ext hs
       subst hr
       refine EL_p (.bool (d7)) (P_pick (b := v6) rfl (pick_t z2 rfl)) rfl ?_
       refine EL_at (.bool (d7)) rfl rfl ?_
       refine EL_nil ?_
       obtain rfl := sinj h
       exact hQ _ _ ⟨xB, hfr, rfl⟩
      ·refine EL_s rfl rfl z2 rfl rfl ?_
       iterate 9 refine EL_s rfl rfl z2 rfl rfl ?_
       refine EL_p (.bool false) (P_pick (b := v6) rfl (pick_f z2 rfl)) rfl ?_
       refine EL_at (.bool false) rfl rfl ?_
       refine EL_nil ?_
       obtain rfl := sinj h
       exact hQ _ _ ⟨o7, hfr, rfl⟩
     ·refine EL_s rfl rfl d3 rfl rfl ?_
      iterate 8 refine EL_s rfl rfl d3 rfl rfl ?_
      refine EL_p (.bool false) (P_pick (b := j6) rfl (pick_f d3 rfl)) rfl ?_
      refine EL_dead 12 rfl ?_
      refine EL_at (.bool false) rfl rfl ?_
      refine EL_nil ?_
      obtain rfl := sinj h
      exact hQ _ _ ⟨n7, hfr, rfl⟩
    ·refine EL_s rfl rfl j1 rfl rfl ?_
     iterate 9 refine EL_s rfl rfl j1 rfl rfl ?_
     refine EL_p (.bool false) (P_pick (b := (decide (x1 = j3))) rfl (pick_f j1 rfl)) rfl ?_
     refine EL_dead 23 rfl ?_
     refine EL_at (.bool false) rfl rfl ?_
     refine EL_nil ?_
     obtain rfl := sinj h
     exact hQ _ _ ⟨t5, hfr, rfl⟩
   ·refine EL_s rfl rfl o3 rfl rfl ?_
    refine EL_s rfl rfl o3 rfl rfl ?_
    refine EL_s rfl rfl o3 rfl rfl ?_
    refine EL_p (.bool false) (P_pick (b := z4) rfl (pick_f o3 rfl)) rfl ?_
    refine EL_dead 35 rfl ?_
    refine EL_at (.bool false) rfl rfl ?_
    refine EL_nil ?_
    obtain rfl := sinj h
    exact hQ _ _ ⟨t5, hfr, rfl⟩
  ·clear hx
   obtain ⟨eE, hfr, t8⟩ := hR
   refine E_ret ?_
   obtain rfl := sinj h
   exact end1 rfl rfl (show _ = .bool (x5) from t8) ⟨_, hfr, rfl⟩
def f178 : Nat → (List FaultDamage) → (Int) → (Int) → (Int) → (FaultDamage → FaultDamage → Option Int) → Option ((List FaultDamage))
 | 0, _, _, _, _, _ => none
 | n + 1, x0, x1, x2, x3, x4 =>
  jn (σ := (List FaultDamage)) (fun x5 =>
   jn (σ := (List FaultDamage)) (fun q5 =>
    (shr64 (wu64 (w64 (x1 + x3))) (1 : Int)).bind fun u0 =>
    Option.bind (α := Int × Int) (
     bif (decide (x2 > (w64 u0))) then
      some ((w64 ((w64 ((w64 u0) + x2)) - x3)), (w64 u0))
     else
      some (x1, x2)
     ) fun (a9, d9) =>
    Option.bind (α := Int) (
     lp (σ := Int × Int) (fun yF (i3, u3) =>
      jn (σ := Unit) (fun _ =>
       (shr64 (wu64 (w64 (i3 + u3))) (1 : Int)).bind fun d3 =>
       (idx q5 (w64 ((w64 ((w64 ((w64 u0) + x2)) - (1 : Int))) - (w64 d3)))).bind fun sH =>
       (idx q5 (w64 d3)).bind fun tH =>
       (x4 sH tH).bind fun e9 =>
       bif (!(decide (e9 < (0 : Int)))) then
        yF ((w64 ((w64 d3) + (1 : Int))), u3)
       else
        yF (i3, (w64 d3))
       ) fun uH =>
      bif (decide (i3 < u3)) then
       uH ()
      else
       some (i3)
      ) big (a9, d9)
     ) fun o0 =>
    Option.bind (α := (List FaultDamage)) (
     Option.bind (α := Bool) (
      bif (decide (o0 < x2)) then
       some ((decide (x2 < (w64 ((w64 ((w64 u0) + x2)) - o0)))))
      else
       some (false)
      ) fun i7 =>
     bif i7 then
      (f200 q5 o0 x2 ((w64 ((w64 ((w64 u0) + x2)) - o0))) x4).bind fun vH =>
      some (vH)
     else
      some (q5)
     ) fun u7 =>
    Option.bind (α := (List FaultDamage)) (
     Option.bind (α := Bool) (
      bif (decide (x1 < o0)) then
       some ((decide (o0 < (w64 u0))))
      else
       some (false)
      ) fun j7 =>
     bif j7 then
      (f178 n u7 x1 o0 ((w64 u0)) x4).bind fun xH =>
      some (xH)
     else
      some (u7)
     ) fun v7 =>
    Option.bind (α := Bool) (
     bif (decide ((w64 u0) < (w64 ((w64 ((w64 u0) + x2)) - o0)))) then
      some ((decide ((w64 ((w64 ((w64 u0) + x2)) - o0)) < x3)))
     else
      some (false)
     ) fun m7 =>
    bif m7 then
     (f178 n v7 ((w64 u0)) ((w64 ((w64 ((w64 u0) + x2)) - o0))) x3 x4).bind fun yH =>
     some (yH)
    else
     some (v7)
    ) fun zH =>
   bif ((w64 (x3 - x2)) == (1 : Int)) then
    Option.bind (α := Int) (
     lp (σ := Int × Int) (fun zF (j3, z3) =>
      jn (σ := Unit) (fun _ =>
       (shr64 (wu64 (w64 (j3 + z3))) (1 : Int)).bind fun i5 =>
       (idx x5 x2).bind fun aI =>
       (idx x5 (w64 i5)).bind fun bI =>
       (x4 aI bI).bind fun i9 =>
       bif (!(decide (i9 < (0 : Int)))) then
        zF ((w64 ((w64 i5) + (1 : Int))), z3)
       else
        zF (j3, (w64 i5))
       ) fun cI =>
      bif (decide (j3 < z3)) then
       cI ()
      else
       some (j3)
      ) big (x1, x2)
     ) fun i6 =>
    Option.bind (α := (List FaultDamage)) (
     lp (σ := (List FaultDamage) × Int) (fun dI (j6, j1) =>
      jn (σ := Unit) (fun _ =>
       Option.bind (α := (List FaultDamage)) (
        (idx j6 (w64 (j1 - (1 : Int)))).bind fun qC =>
        (idx j6 j1).bind fun aG =>
        (idx j6 j1).bind fun jM =>
        (idx ((List.set j6 (Int.toNat j1) qC)) (w64 (j1 - (1 : Int)))).bind fun kM =>
        some ((List.set ((List.set j6 (Int.toNat j1) qC)) (Int.toNat (w64 (j1 - (1 : Int)))) aG))
        ) fun m8 =>
       dI (m8, (w64 (j1 - (1 : Int))))
       ) fun jI =>
      bif (decide (j1 > i6)) then
       jI ()
      else
       some (j6)
      ) big (x5, x2)
     ) fun iA =>
    some (iA)
   else
    zH (x5)
   ) fun kI =>
  bif ((w64 (x2 - x1)) == (1 : Int)) then
   Option.bind (α := Int) (
    lp (σ := Int × Int) (fun bG (o3, z4) =>
     jn (σ := Unit) (fun _ =>
      (shr64 (wu64 (w64 (o3 + z4))) (1 : Int)).bind fun l5 =>
      (idx x0 (w64 l5)).bind fun lI =>
      (idx x0 x1).bind fun mI =>
      (x4 lI mI).bind fun jA =>
      bif (decide (jA < (0 : Int))) then
       bG ((w64 ((w64 l5) + (1 : Int))), z4)
      else
       bG (o3, (w64 l5))
      ) fun nI =>
     bif (decide (o3 < z4)) then
      nI ()
     else
      some (o3)
     ) big (x2, x3)
    ) fun t5 =>
   Option.bind (α := (List FaultDamage)) (
    lp (σ := (List FaultDamage) × Int) (fun oI (v6, z2) =>
     jn (σ := Unit) (fun _ =>
      Option.bind (α := (List FaultDamage)) (
       (idx v6 (w64 (z2 + (1 : Int)))).bind fun rC =>
       (idx v6 z2).bind fun cG =>
       (idx v6 z2).bind fun mM =>
       (idx ((List.set v6 (Int.toNat z2) rC)) (w64 (z2 + (1 : Int)))).bind fun nM =>
       some ((List.set ((List.set v6 (Int.toNat z2) rC)) (Int.toNat (w64 (z2 + (1 : Int)))) cG))
       ) fun n8 =>
      oI (n8, (w64 (z2 + (1 : Int))))
      ) fun pI =>
     bif (decide (z2 < (w64 (t5 - (1 : Int))))) then
      pI ()
     else
      some (v6)
     ) big (x0, x1)
    ) fun kA =>
   some (kA)
  else
   kI (x0)
theorem en178 : Enters Try.prog 178 := enters_of Try.func178 (by kernel_rfl) rfl
theorem wk178 (n : Nat) : ∀ {iI : Nat} {gI : Gh} {wI : World} {x0 : List FaultDamage} {x1 : Int} {x2 : Int} {x3 : Int} {x4 : FaultDamage → FaultDamage → Option Int} {up0 : Value} (mp0 : OM iI gI wI 37 x0 up0) {up4 : Value} (rp4 : FnV2 Try.prog x4 up4 gI wI) {r : (List FaultDamage)} (h : f178 n x0 x1 x2 x3 x4 = some r), FnM Try.prog 178 #[up0, .int .i64 (x1), .int .i64 (x2), .int .i64 (x3), up4] iI gI wI (fun g w v => v = .tuple #[] ∧ OM iI g w 37 r up0) := by
 induction n with
 | zero => intros; rename_i h; cases h
 | succ n ih =>
 intro iI gI wI x0 x1 x2 x3 x4 up0 mp0 up4 rp4 r h
 simp only [f178] at h
 refine fnM_of_E Try.func178 rfl (Nat.le_of_ble_eq_true rfl) fun g0 hm hfr => ?_
 have gA := mp0
 replace mp0 := mp0.enter
 rw [← hm] at mp0
 replace hm : g0.m = gI.m := by rw [hm]
 obtain ⟨ff4, fa4, fc4, rfl, fen4, fcl4⟩ := rp4
 show E _ 220 none _ _ _ _ _
 refine E_joinC h (fun (s : (List FaultDamage)) e w => ∃ (g : Gh) , FrM iI gI wI g w ∧ e 0 = up0 ∧ OM 1 g w 37 (s : List FaultDamage) up0 ∧ e 1 = .int .i64 (x1) ∧ e 2 = .int .i64 (x2) ∧ e 3 = .int .i64 (x3) ∧ e 4 = (.func (.func ff4) fa4 fc4)) (fun X203 kI aL h => ?_) ?_
 ·refine E_seq (E_region (EL_mw (.int .i64 (x2)) rfl rfl ?_))
  refine EL_mw (.int .i64 (x1)) rfl rfl ?_
  refine EL_in (.int .i64 ((w64 (x2 - x1)))) rfl rfl rfl rfl ?_
  refine EL_in (.bool (((w64 (x2 - x1)) == (1 : Int)))) rfl rfl rfl rfl ?_
  refine EL_nil (thn_n ?_)
  rcases csome h with ⟨tC, h⟩ | ⟨tC, h⟩
  ·refine E_ct tC rfl ?_
   refine E_seq (E_region (EL_mw (.int .i64 (x2)) rfl rfl ?_))
   refine EL_at (.int .i64 (x2)) rfl rfl ?_
   refine EL_nil (thn_n (E_seq (E_region (EL_mw (.int .i64 (x3)) rfl rfl ?_))))
   refine EL_at (.int .i64 (x3)) rfl rfl ?_
   refine EL_nil (thn_n ?_)
   obtain ⟨t5, hx, h⟩ := bsome h
   refine E_join (fun e w => ∃ (g : Gh) , FrM iI gI wI g w ∧ e 0 = up0 ∧ OM 1 g w 37 (x0 : List FaultDamage) up0 ∧ e 1 = .int .i64 (x1) ∧ e 10 = .int .i64 (t5)) (fun Q' hQ => ?_) (fun yN dP hR => ?_)
   ·replace h := hx
    clear hx
    refine E_block ?_
    refine E_lp h (fun (s : Int × Int) e w => ∃ (g : Gh) , FrM iI gI wI g w ∧ e 0 = up0 ∧ OM 1 g w 37 (x0 : List FaultDamage) up0 ∧ e 1 = .int .i64 (x1) ∧ e 4 = (.func (.func ff4) fa4 fc4) ∧ e 10 = .int .i64 (s.1) ∧ e 11 = .int .i64 (s.2)) ⟨g0, hfr, rfl, mp0, rfl, rfl, rfl, rfl⟩ (fun X243 bG gG => ?_)
    rintro ⟨o3, z4⟩ zN eP ⟨qI, hfr, mD, nD, oD, rI, k9, eB⟩ h
    refine E_joinC h (fun (s : Unit) e w => ∃ (g : Gh) , FrM iI gI wI g w ∧ e 0 = up0 ∧ OM 1 g w 37 (x0 : List FaultDamage) up0 ∧ e 1 = .int .i64 (x1) ∧ e 4 = (.func (.func ff4) fa4 fc4) ∧ e 10 = .int .i64 (o3) ∧ e 11 = .int .i64 (z4)) (fun X246 nI bL h => ?_) ?_
    ·refine E_seq (E_region (EL_mv k9 rfl ?_))
     refine EL_mv eB rfl ?_
     refine EL_in (.bool ((decide (o3 < z4)))) rfl rfl rfl rfl ?_
     refine EL_nil (thn_n ?_)
     rcases csome h with ⟨uC, h⟩ | ⟨uC, h⟩
     ·refine E_ct uC rfl ?_
      exact E_skip (thn_n (bL () _ _ ⟨qI, hfr, mD, nD, oD, rI, k9, eB⟩ h))
     ·refine E_cf uC rfl ?_
      refine E_exit ?_
      refine thn_e ?_
      refine thn_e ?_
      refine blk_hit ?_
      obtain rfl := sinj h
      exact hQ _ _ ⟨qI, hfr, mD, nD, oD, k9⟩
    ·rintro _ aO gP ⟨oM, hfr, o8, x6, lA, mA, iB, jB⟩ h
     refine E_block ?_
     refine E_seq (E_region (EL_mv iB rfl ?_))
     refine EL_mv jB rfl ?_
     refine EL_in (.int .i64 ((w64 (o3 + z4)))) rfl rfl rfl rfl ?_
     refine EL_p (.int .u64 (wu64 (w64 (o3 + z4)))) (P_intu64 Try.underlying3 Try.underlying72 rfl) rfl ?_
     obtain ⟨l5, cL, h⟩ := bsome h
     refine EL_p (.int .u64 (l5)) (P_shrU rfl rfl cL) rfl ?_
     refine EL_p (.int .i64 ((w64 l5))) (P_u64int Try.underlying72 Try.underlying3 rfl) rfl ?_
     refine EL_at (.int .i64 ((w64 l5))) rfl rfl ?_
     refine EL_nil (thn_n (E_seq ?_))
     obtain ⟨lI, hG, h⟩ := bsome h
     refine L_loadM (x := .tmp 43) Try.isAgg37 Try.sizeOf37 x6 hG fun sI pM dL => ?_
     obtain ⟨mI, iG, h⟩ := bsome h
     refine L_loadM (x := .tmp 47) Try.isAgg37 Try.sizeOf37 x6 iG fun tI qM eL => ?_
     obtain ⟨jA, gL, h⟩ := bsome h
     refine E_drawL (g := oM) (n := 11) [(9, (fun v g w => v = .int .i64 (jA)))] [0, 1, 2, 3, 4, 5, 6, 7, 8, 9, 10] rfl mixed (by kernel_rfl) (⟨fun _ => up_eq _, trivial⟩) ?_
     refine L_p ((.func (.func ff4) fa4 fc4)) rfl rfl (P_move mA) ?_
     refine L_p up0 rfl rfl (P_move o8) ?_
     refine L_p (.int .i64 ((w64 l5))) rfl rfl (P_move rfl) ?_
     refine L_p (ePtr up0 (w64 l5) 5) rfl rfl (P_indexAddrM (α := FaultDamage) Try.underlying47 Try.sizeOf37 rfl x6 rfl hG) ?_
     refine L_ld (c := sI) rfl rfl .plain (fun _ _ h => ⟨h.ch, fun b hb _ => h.below.block b hb⟩) dL rfl ?_
     refine L_p up0 rfl rfl (P_move o8) ?_
     refine L_p (.int .i64 (x1)) rfl rfl (P_move lA) ?_
     refine L_p (ePtr up0 x1 5) rfl rfl (P_indexAddrM (α := FaultDamage) Try.underlying47 Try.sizeOf37 rfl x6 rfl iG) ?_
     refine L_ld (c := tI) rfl rfl .plain (fun _ _ h => ⟨h.ch, fun b hb _ => h.below.block b hb⟩) eL rfl ?_
     refine L_do (φ := fun v g w => v = .int .i64 (jA)) rfl rfl .plain (fun g w hd => D_callv (g := g) (vs := [sI, tI]) rfl fen4 (.cons rfl (.cons rfl .nil)) (fcl4 _ _ (hfr.ext hd.1).ch _ _ _ _ _  (pM.ext hd.1) (qM.ext hd.1) gL) fun g' w' v hs hr => ⟨g', hs, RV_int.1 hr⟩) (fun iP hv => ?_)
     obtain ⟨_, _, _, rfl⟩ := hv
     refine L_p (.bool ((decide (jA < (0 : Int))))) rfl rfl (P_int rfl rfl rfl) ?_
     refine L_nl fun uI jP hs => ?_
     have hfr := hfr.ext hs
     have x6 := x6.ext hs
     clear hs
     refine EL_nil (thn_n ?_)
     rcases csome h with ⟨vC, h⟩ | ⟨vC, h⟩
     ·refine E_ct vC rfl ?_
      refine E_region (EL_mw (.int .i64 ((w64 l5))) rfl rfl ?_)
      refine EL_in (.int .i64 ((w64 ((w64 l5) + (1 : Int))))) rfl rfl rfl rfl ?_
      refine EL_at (.int .i64 ((w64 ((w64 l5) + (1 : Int))))) rfl rfl ?_
      exact EL_nil (blk_n (thn_n (gG ((w64 ((w64 l5) + (1 : Int))), z4) _ _ ⟨uI, hfr, o8, x6, lA, mA, rfl, jB⟩ h)))
     ·refine E_cf vC rfl ?_
      refine E_region (EL_mw (.int .i64 ((w64 l5))) rfl rfl ?_)
      refine EL_at (.int .i64 ((w64 l5))) rfl rfl ?_
      exact EL_nil (blk_n (thn_n (gG (o3, (w64 l5)) _ _ ⟨uI, hfr, o8, x6, lA, mA, iB, rfl⟩ h)))
   ·clear hx
    obtain ⟨rM, hfr, vI, xI, yI, yG⟩ := hR
    obtain ⟨kA, hx, h⟩ := bsome h
    refine E_join (fun e w => ∃ (g : Gh) , FrM iI gI wI g w ∧ e 0 = up0 ∧ OM 1 g w 37 (kA : List FaultDamage) up0) (fun Q' hQ => ?_) (fun bO kP hR => ?_)
    ·replace h := hx
     clear hx
     refine E_seq (E_region (EL_mv yI rfl ?_))
     refine EL_at (.int .i64 (x1)) rfl rfl ?_
     refine EL_nil (thn_n (E_block ?_))
     refine E_lp h (fun (s : (List FaultDamage) × Int) e w => ∃ (g : Gh) , FrM iI gI wI g w ∧ e 0 = up0 ∧ OM 1 g w 37 (s.1 : List FaultDamage) up0 ∧ e 10 = .int .i64 (t5) ∧ e 13 = .int .i64 (s.2)) ⟨rM, hfr, vI, xI, yG, rfl⟩ (fun X343 oI iL => ?_)
     rintro ⟨v6, z2⟩ cO lP ⟨zI, hfr, sD, tD, kB, lB⟩ h
     refine E_joinC h (fun (s : Unit) e w => ∃ (g : Gh) , FrM iI gI wI g w ∧ e 0 = up0 ∧ OM 1 g w 37 (v6 : List FaultDamage) up0 ∧ e 10 = .int .i64 (t5) ∧ e 13 = .int .i64 (z2)) (fun X346 pI jL h => ?_) ?_
     ·refine E_seq (E_region (EL_mv lB rfl ?_))
      refine EL_mv kB rfl ?_
      refine EL_in (.int .i64 ((w64 (t5 - (1 : Int))))) rfl rfl rfl rfl ?_
      refine EL_p (.bool ((decide (z2 < (w64 (t5 - (1 : Int))))))) (P_int rfl rfl rfl) rfl ?_
      refine EL_nil (thn_n ?_)
      rcases csome h with ⟨xC, h⟩ | ⟨xC, h⟩
      ·refine E_ct xC rfl ?_
       exact E_skip (thn_n (jL () _ _ ⟨zI, hfr, sD, tD, kB, lB⟩ h))
      ·refine E_cf xC rfl ?_
       refine E_exit ?_
       refine thn_e ?_
       refine thn_e ?_
       refine blk_hit ?_
       obtain rfl := sinj h
       exact hQ _ _ ⟨zI, hfr, sD, tD⟩
     ·rintro _ dO sM ⟨aJ, hfr, c8, y6, zG, n7⟩ h
      obtain ⟨n8, hx, h⟩ := bsome h
      refine E_join (fun e w => ∃ (g : Gh) , FrM iI gI wI g w ∧ e 0 = up0 ∧ OM 1 g w 37 (n8 : List FaultDamage) up0 ∧ e 10 = .int .i64 (t5) ∧ e 13 = .int .i64 (z2)) (fun Q' hQ => ?_) (fun eO mP hR => ?_)
      ·replace h := hx
       clear hx
       refine E_block ?_
       obtain ⟨rC, jG, h⟩ := bsome h
       refine L_loadM (x := .tmp 69) Try.isAgg37 Try.sizeOf37 y6 jG fun tM dG kL => ?_
       obtain ⟨cG, kG, h⟩ := bsome h
       refine L_loadM (x := .tmp 73) Try.isAgg37 Try.sizeOf37 y6 kG fun uM nA lL => ?_
       obtain ⟨mM, lG, h⟩ := bsome h
       refine E_drawTL (g := aJ) (n := 15) [2, 3, 4] [] [0, 1, 2, 3, 4, 5, 6, 7, 8, 9, 10, 11, 12, 13, 14] rfl mixed (by kernel_rfl) trivial rfl ?_
       refine L_p up0 rfl rfl (P_move c8) ?_
       refine L_p (.int .i64 (z2)) rfl rfl (P_move n7) ?_
       refine L_purL (c := up0) rfl rfl .plain (P_move c8) ?_
       refine L_purL (c := .int .i64 (z2)) rfl rfl .plain (P_move n7) ?_
       refine L_purL (c := .int .i64 ((w64 (z2 + (1 : Int))))) rfl rfl .plain (P_int rfl rfl rfl) ?_
       refine L_p up0 rfl rfl (P_move c8) ?_
       refine L_p (.int .i64 (z2)) rfl rfl (P_move n7) ?_
       refine L_p (.int .i64 ((w64 (z2 + (1 : Int))))) rfl rfl (P_int rfl rfl rfl) ?_
       refine L_p (ePtr up0 (w64 (z2 + (1 : Int))) 5) rfl rfl (P_indexAddrM (α := FaultDamage) Try.underlying47 Try.sizeOf37 rfl y6 rfl jG) ?_
       refine L_ld (c := tM) rfl rfl .plain (fun _ _ h => ⟨h.ch, fun b hb _ => h.below.block b hb⟩) kL rfl ?_
       refine L_p up0 rfl rfl (P_move c8) ?_
       refine L_p (.int .i64 (z2)) rfl rfl (P_move n7) ?_
       refine L_p (ePtr up0 z2 5) rfl rfl (P_indexAddrM (α := FaultDamage) Try.underlying47 Try.sizeOf37 rfl y6 rfl kG) ?_
       refine L_ld (c := uM) rfl rfl .plain (fun _ _ h => ⟨h.ch, fun b hb _ => h.below.block b hb⟩) lL rfl ?_
       refine L_p (ePtr up0 z2 5) rfl rfl (P_indexAddrM (α := FaultDamage) Try.underlying47 Try.sizeOf37 rfl y6 rfl lG) ?_
       refine L_nl fun bJ vM hs => ?_
       have hlt : Lt aJ.m sM bJ vM := hs.ch
       have hfr := hfr.ext hs
       have y6 := y6.ext hs
       have dG := dG.ext hs
       have nA := nA.ext hs
       clear hs
       refine TL_do hlt.w .plain rfl (D_storeM (g := bJ) (α := FaultDamage) (a' := rC) Try.sizeOf37 rfl y6 lG rfl dG fun xM nP hs b400 => ?_)
       have hfr := hfr.stp hs
       have hlt := hlt.stp hs
       have nA := nA.stp hs
       obtain ⟨nM, mG, h⟩ := bsome h
       refine TL_pur hlt.w (v := ePtr up0 (w64 (z2 + (1 : Int))) 5) (P_indexAddrM (α := FaultDamage) Try.underlying47 Try.sizeOf37 rfl b400 rfl mG) .plain rfl ?_
       refine TL_do hlt.w .plain rfl (D_storeM (g := xM) (α := FaultDamage) (a' := cG) Try.sizeOf37 rfl b400 mG rfl nA fun yM oP hs b402 => ?_)
       have hfr := hfr.stp hs
       have hlt := hlt.stp hs
       refine TL_nil hlt.w ?_
       clear hlt
       refine blk_n ?_
       obtain rfl := sinj h
       exact hQ _ _ ⟨yM, hfr, c8, b402, zG, n7⟩
      ·clear hx
       obtain ⟨zM, hfr, cJ, dJ, aH, bH⟩ := hR
       refine E_region (EL_mv bH rfl ?_)
       refine EL_in (.int .i64 ((w64 (z2 + (1 : Int))))) rfl rfl rfl rfl ?_
       refine EL_at (.int .i64 ((w64 (z2 + (1 : Int))))) rfl rfl ?_
       exact EL_nil (thn_n (iL (n8, (w64 (z2 + (1 : Int)))) _ _ ⟨zM, hfr, cJ, dJ, aH, rfl⟩ h))
    ·clear hx
     obtain ⟨pP, hfr, vN, eJ⟩ := hR
     refine E_ret (thn_r ?_)
     obtain rfl := sinj h
     exact end0 rfl rfl ⟨_, hfr, rfl, gA.back eJ⟩
  ·refine E_cf tC rfl ?_
   exact E_skip (thn_n (aL (x0) _ _ ⟨g0, hfr, rfl, mp0, rfl, rfl, rfl, rfl⟩ h))
 ·rintro x5 gO sP ⟨gJ, hfr, uD, vD, xD, q8, yD, zD⟩ h
  refine E_joinC h (fun (s : (List FaultDamage)) e w => ∃ (g : Gh) , FrM iI gI wI g w ∧ e 0 = up0 ∧ OM 1 g w 37 (s : List FaultDamage) up0 ∧ e 1 = .int .i64 (x1) ∧ e 2 = .int .i64 (x2) ∧ e 3 = .int .i64 (x3) ∧ e 4 = (.func (.func ff4) fa4 fc4)) (fun X609 zH mL h => ?_) ?_
  ·refine E_seq (E_region (EL_mv yD rfl ?_))
   refine EL_mv q8 rfl ?_
   refine EL_in (.int .i64 ((w64 (x3 - x2)))) rfl rfl rfl rfl ?_
   refine EL_in (.bool (((w64 (x3 - x2)) == (1 : Int)))) rfl rfl rfl rfl ?_
   refine EL_nil (thn_n ?_)
   rcases csome h with ⟨yC, h⟩ | ⟨yC, h⟩
   ·refine E_ct yC rfl ?_
    refine E_seq (E_region (EL_mv xD rfl ?_))
    refine EL_at (.int .i64 (x1)) rfl rfl ?_
    refine EL_nil (thn_n (E_seq (E_region (EL_mv q8 rfl ?_))))
    refine EL_at (.int .i64 (x2)) rfl rfl ?_
    refine EL_nil (thn_n ?_)
    obtain ⟨i6, hx, h⟩ := bsome h
    refine E_join (fun e w => ∃ (g : Gh) , FrM iI gI wI g w ∧ e 0 = up0 ∧ OM 1 g w 37 (x5 : List FaultDamage) up0 ∧ e 2 = .int .i64 (x2) ∧ e 14 = .int .i64 (i6)) (fun Q' hQ => ?_) (fun iO tP hR => ?_)
    ·replace h := hx
     clear hx
     refine E_block ?_
     refine E_lp h (fun (s : Int × Int) e w => ∃ (g : Gh) , FrM iI gI wI g w ∧ e 0 = up0 ∧ OM 1 g w 37 (x5 : List FaultDamage) up0 ∧ e 2 = .int .i64 (x2) ∧ e 4 = (.func (.func ff4) fa4 fc4) ∧ e 14 = .int .i64 (s.1) ∧ e 15 = .int .i64 (s.2)) ⟨gJ, hfr, uD, vD, q8, zD, rfl, rfl⟩ (fun X650 zF nG => ?_)
     rintro ⟨j3, z3⟩ jO uP ⟨iJ, hfr, aE, bE, cE, jJ, l9, mB⟩ h
     refine E_joinC h (fun (s : Unit) e w => ∃ (g : Gh) , FrM iI gI wI g w ∧ e 0 = up0 ∧ OM 1 g w 37 (x5 : List FaultDamage) up0 ∧ e 2 = .int .i64 (x2) ∧ e 4 = (.func (.func ff4) fa4 fc4) ∧ e 14 = .int .i64 (j3) ∧ e 15 = .int .i64 (z3)) (fun X653 cI nL h => ?_) ?_
     ·refine E_seq (E_region (EL_mv l9 rfl ?_))
      refine EL_mv mB rfl ?_
      refine EL_in (.bool ((decide (j3 < z3)))) rfl rfl rfl rfl ?_
      refine EL_nil (thn_n ?_)
      rcases csome h with ⟨aD, h⟩ | ⟨aD, h⟩
      ·refine E_ct aD rfl ?_
       exact E_skip (thn_n (nL () _ _ ⟨iJ, hfr, aE, bE, cE, jJ, l9, mB⟩ h))
      ·refine E_cf aD rfl ?_
       refine E_exit ?_
       refine thn_e ?_
       refine thn_e ?_
       refine blk_hit ?_
       obtain rfl := sinj h
       exact hQ _ _ ⟨iJ, hfr, aE, bE, cE, l9⟩
     ·rintro _ kO vP ⟨bN, hfr, r8, a7, oA, pA, nB, oB⟩ h
      refine E_block ?_
      refine E_seq (E_region (EL_mv nB rfl ?_))
      refine EL_mv oB rfl ?_
      refine EL_in (.int .i64 ((w64 (j3 + z3)))) rfl rfl rfl rfl ?_
      refine EL_p (.int .u64 (wu64 (w64 (j3 + z3)))) (P_intu64 Try.underlying3 Try.underlying72 rfl) rfl ?_
      obtain ⟨i5, oL, h⟩ := bsome h
      refine EL_p (.int .u64 (i5)) (P_shrU rfl rfl oL) rfl ?_
      refine EL_p (.int .i64 ((w64 i5))) (P_u64int Try.underlying72 Try.underlying3 rfl) rfl ?_
      refine EL_at (.int .i64 ((w64 i5))) rfl rfl ?_
      refine EL_nil (thn_n (E_seq ?_))
      obtain ⟨aI, oG, h⟩ := bsome h
      refine L_loadM (x := .tmp 95) Try.isAgg37 Try.sizeOf37 a7 oG fun kJ cN pL => ?_
      obtain ⟨bI, pG, h⟩ := bsome h
      refine L_loadM (x := .tmp 99) Try.isAgg37 Try.sizeOf37 a7 pG fun lJ dN qL => ?_
      obtain ⟨i9, rL, h⟩ := bsome h
      refine E_drawL (g := bN) (n := 12) [(9, (fun v g w => v = .int .i64 (i9)))] [0, 1, 2, 3, 4, 5, 6, 7, 8, 9, 10, 11] rfl mixed (by kernel_rfl) (⟨fun _ => up_eq _, trivial⟩) ?_
      refine L_p ((.func (.func ff4) fa4 fc4)) rfl rfl (P_move pA) ?_
      refine L_p up0 rfl rfl (P_move r8) ?_
      refine L_p (.int .i64 (x2)) rfl rfl (P_move oA) ?_
      refine L_p (ePtr up0 x2 5) rfl rfl (P_indexAddrM (α := FaultDamage) Try.underlying47 Try.sizeOf37 rfl a7 rfl oG) ?_
      refine L_ld (c := kJ) rfl rfl .plain (fun _ _ h => ⟨h.ch, fun b hb _ => h.below.block b hb⟩) pL rfl ?_
      refine L_p up0 rfl rfl (P_move r8) ?_
      refine L_p (.int .i64 ((w64 i5))) rfl rfl (P_move rfl) ?_
      refine L_p (ePtr up0 (w64 i5) 5) rfl rfl (P_indexAddrM (α := FaultDamage) Try.underlying47 Try.sizeOf37 rfl a7 rfl pG) ?_
      refine L_ld (c := lJ) rfl rfl .plain (fun _ _ h => ⟨h.ch, fun b hb _ => h.below.block b hb⟩) qL rfl ?_
      refine L_do (φ := fun v g w => v = .int .i64 (i9)) rfl rfl .plain (fun g w hd => D_callv (g := g) (vs := [kJ, lJ]) rfl fen4 (.cons rfl (.cons rfl .nil)) (fcl4 _ _ (hfr.ext hd.1).ch _ _ _ _ _  (cN.ext hd.1) (dN.ext hd.1) rL) fun g' w' v hs hr => ⟨g', hs, RV_int.1 hr⟩) (fun xP hv => ?_)
      obtain ⟨_, _, _, rfl⟩ := hv
      refine L_p (.bool ((decide (i9 < (0 : Int))))) rfl rfl (P_int rfl rfl rfl) ?_
      refine L_p (.bool (!(decide (i9 < (0 : Int))))) rfl rfl (P_not rfl) ?_
      refine L_nl fun mJ yP hs => ?_
      have hfr := hfr.ext hs
      have a7 := a7.ext hs
      clear hs
      refine EL_nil (thn_n ?_)
      rcases csome h with ⟨bD, h⟩ | ⟨bD, h⟩
      ·refine E_ct bD rfl ?_
       refine E_region (EL_mw (.int .i64 ((w64 i5))) rfl rfl ?_)
       refine EL_in (.int .i64 ((w64 ((w64 i5) + (1 : Int))))) rfl rfl rfl rfl ?_
       refine EL_at (.int .i64 ((w64 ((w64 i5) + (1 : Int))))) rfl rfl ?_
       exact EL_nil (blk_n (thn_n (nG ((w64 ((w64 i5) + (1 : Int))), z3) _ _ ⟨mJ, hfr, r8, a7, oA, pA, rfl, oB⟩ h)))
      ·refine E_cf bD rfl ?_
       refine E_region (EL_mw (.int .i64 ((w64 i5))) rfl rfl ?_)
       refine EL_at (.int .i64 ((w64 i5))) rfl rfl ?_
       exact EL_nil (blk_n (thn_n (nG (j3, (w64 i5)) _ _ ⟨mJ, hfr, r8, a7, oA, pA, nB, rfl⟩ h)))
    ·clear hx
     obtain ⟨eN, hfr, nJ, oJ, pJ, cH⟩ := hR
     obtain ⟨iA, hx, h⟩ := bsome h
     refine E_join (fun e w => ∃ (g : Gh) , FrM iI gI wI g w ∧ e 0 = up0 ∧ OM 1 g w 37 (iA : List FaultDamage) up0) (fun Q' hQ => ?_) (fun lO zP hR => ?_)
     ·replace h := hx
      clear hx
      refine E_seq (E_region (EL_mv pJ rfl ?_))
      refine EL_at (.int .i64 (x2)) rfl rfl ?_
      refine EL_nil (thn_n (E_block ?_))
      refine E_lp h (fun (s : (List FaultDamage) × Int) e w => ∃ (g : Gh) , FrM iI gI wI g w ∧ e 0 = up0 ∧ OM 1 g w 37 (s.1 : List FaultDamage) up0 ∧ e 14 = .int .i64 (i6) ∧ e 17 = .int .i64 (s.2)) ⟨eN, hfr, nJ, oJ, cH, rfl⟩ (fun X751 dI tL => ?_)
      rintro ⟨j6, j1⟩ mO bQ ⟨qJ, hfr, dE, eE, tB, vB⟩ h
      refine E_joinC h (fun (s : Unit) e w => ∃ (g : Gh) , FrM iI gI wI g w ∧ e 0 = up0 ∧ OM 1 g w 37 (j6 : List FaultDamage) up0 ∧ e 14 = .int .i64 (i6) ∧ e 17 = .int .i64 (j1)) (fun X754 jI uL h => ?_) ?_
      ·refine E_seq (E_region (EL_mv vB rfl ?_))
       refine EL_mv tB rfl ?_
       refine EL_in (.bool ((decide (j1 > i6)))) rfl rfl rfl rfl ?_
       refine EL_nil (thn_n ?_)
       rcases csome h with ⟨cD, h⟩ | ⟨cD, h⟩
       ·refine E_ct cD rfl ?_
        exact E_skip (thn_n (uL () _ _ ⟨qJ, hfr, dE, eE, tB, vB⟩ h))
       ·refine E_cf cD rfl ?_
        refine E_exit ?_
        refine thn_e ?_
        refine thn_e ?_
        refine blk_hit ?_
        obtain rfl := sinj h
        exact hQ _ _ ⟨qJ, hfr, dE, eE⟩
      ·rintro _ nO gN ⟨rJ, hfr, e8, b7, dH, o7⟩ h
       obtain ⟨m8, hx, h⟩ := bsome h
       refine E_join (fun e w => ∃ (g : Gh) , FrM iI gI wI g w ∧ e 0 = up0 ∧ OM 1 g w 37 (m8 : List FaultDamage) up0 ∧ e 14 = .int .i64 (i6) ∧ e 17 = .int .i64 (j1)) (fun Q' hQ => ?_) (fun oO cQ hR => ?_)
       ·replace h := hx
        clear hx
        refine E_block ?_
        obtain ⟨qC, qG, h⟩ := bsome h
        refine L_loadM (x := .tmp 121) Try.isAgg37 Try.sizeOf37 b7 qG fun iN eG vL => ?_
        obtain ⟨aG, rG, h⟩ := bsome h
        refine L_loadM (x := .tmp 125) Try.isAgg37 Try.sizeOf37 b7 rG fun jN qA xL => ?_
        obtain ⟨jM, sG, h⟩ := bsome h
        refine E_drawTL (g := rJ) (n := 15) [2, 3, 4] [] [0, 1, 2, 3, 4, 5, 6, 7, 8, 9, 10, 11, 12, 13, 14] rfl mixed (by kernel_rfl) trivial rfl ?_
        refine L_p up0 rfl rfl (P_move e8) ?_
        refine L_p (.int .i64 (j1)) rfl rfl (P_move o7) ?_
        refine L_purL (c := up0) rfl rfl .plain (P_move e8) ?_
        refine L_purL (c := .int .i64 (j1)) rfl rfl .plain (P_move o7) ?_
        refine L_purL (c := .int .i64 ((w64 (j1 - (1 : Int))))) rfl rfl .plain (P_int rfl rfl rfl) ?_
        refine L_p up0 rfl rfl (P_move e8) ?_
        refine L_p (.int .i64 (j1)) rfl rfl (P_move o7) ?_
        refine L_p (.int .i64 ((w64 (j1 - (1 : Int))))) rfl rfl (P_int rfl rfl rfl) ?_
        refine L_p (ePtr up0 (w64 (j1 - (1 : Int))) 5) rfl rfl (P_indexAddrM (α := FaultDamage) Try.underlying47 Try.sizeOf37 rfl b7 rfl qG) ?_
        refine L_ld (c := iN) rfl rfl .plain (fun _ _ h => ⟨h.ch, fun b hb _ => h.below.block b hb⟩) vL rfl ?_
        refine L_p up0 rfl rfl (P_move e8) ?_
        refine L_p (.int .i64 (j1)) rfl rfl (P_move o7) ?_
        refine L_p (ePtr up0 j1 5) rfl rfl (P_indexAddrM (α := FaultDamage) Try.underlying47 Try.sizeOf37 rfl b7 rfl rG) ?_
        refine L_ld (c := jN) rfl rfl .plain (fun _ _ h => ⟨h.ch, fun b hb _ => h.below.block b hb⟩) xL rfl ?_
        refine L_p (ePtr up0 j1 5) rfl rfl (P_indexAddrM (α := FaultDamage) Try.underlying47 Try.sizeOf37 rfl b7 rfl sG) ?_
        refine L_nl fun sJ kN hs => ?_
        have hlt : Lt rJ.m gN sJ kN := hs.ch
        have hfr := hfr.ext hs
        have b7 := b7.ext hs
        have eG := eG.ext hs
        have qA := qA.ext hs
        clear hs
        refine TL_do hlt.w .plain rfl (D_storeM (g := sJ) (α := FaultDamage) (a' := qC) Try.sizeOf37 rfl b7 sG rfl eG fun lN dQ hs b808 => ?_)
        have hfr := hfr.stp hs
        have hlt := hlt.stp hs
        have qA := qA.stp hs
        obtain ⟨kM, tG, h⟩ := bsome h
        refine TL_pur hlt.w (v := ePtr up0 (w64 (j1 - (1 : Int))) 5) (P_indexAddrM (α := FaultDamage) Try.underlying47 Try.sizeOf37 rfl b808 rfl tG) .plain rfl ?_
        refine TL_do hlt.w .plain rfl (D_storeM (g := lN) (α := FaultDamage) (a' := aG) Try.sizeOf37 rfl b808 tG rfl qA fun mN eQ hs b810 => ?_)
        have hfr := hfr.stp hs
        have hlt := hlt.stp hs
        refine TL_nil hlt.w ?_
        clear hlt
        refine blk_n ?_
        obtain rfl := sinj h
        exact hQ _ _ ⟨mN, hfr, e8, b810, dH, o7⟩
       ·clear hx
        obtain ⟨nN, hfr, tJ, uJ, gH, iH⟩ := hR
        refine E_region (EL_mv iH rfl ?_)
        refine EL_in (.int .i64 ((w64 (j1 - (1 : Int))))) rfl rfl rfl rfl ?_
        refine EL_at (.int .i64 ((w64 (j1 - (1 : Int))))) rfl rfl ?_
        exact EL_nil (thn_n (tL (m8, (w64 (j1 - (1 : Int)))) _ _ ⟨nN, hfr, tJ, uJ, gH, rfl⟩ h))
     ·clear hx
      obtain ⟨gQ, hfr, xN, vJ⟩ := hR
      refine E_ret (thn_r ?_)
      obtain rfl := sinj h
      exact end0 rfl rfl ⟨_, hfr, rfl, gA.back vJ⟩
   ·refine E_cf yC rfl ?_
    exact E_skip (thn_n (mL (x5) _ _ ⟨gJ, hfr, uD, vD, xD, q8, yD, zD⟩ h))
  ·rintro q5 pO iQ ⟨xJ, hfr, gE, iE, t8, g8, v8, jE⟩ h
   refine E_seq (E_region (EL_mv t8 rfl ?_))
   refine EL_mv v8 rfl ?_
   refine EL_in (.int .i64 ((w64 (x1 + x3)))) rfl rfl rfl rfl ?_
   refine EL_p (.int .u64 (wu64 (w64 (x1 + x3)))) (P_intu64 Try.underlying3 Try.underlying72 rfl) rfl ?_
   obtain ⟨u0, yL, h⟩ := bsome h
   refine EL_p (.int .u64 (u0)) (P_shrU rfl rfl yL) rfl ?_
   refine EL_p (.int .i64 ((w64 u0))) (P_u64int Try.underlying72 Try.underlying3 rfl) rfl ?_
   refine EL_at (.int .i64 ((w64 u0))) rfl rfl ?_
   refine EL_nil (thn_n (E_seq (E_region (EL_mw (.int .i64 ((w64 u0))) rfl rfl ?_))))
   refine EL_mv g8 rfl ?_
   refine EL_in (.int .i64 ((w64 ((w64 u0) + x2)))) rfl rfl rfl rfl ?_
   refine EL_at (.int .i64 ((w64 ((w64 u0) + x2)))) rfl rfl ?_
   refine EL_nil (thn_n (E_seq (E_region (EL_at (.int .i64 (0)) rfl rfl ?_))))
   refine EL_at (.int .i64 (0)) rfl rfl ?_
   refine EL_nil (thn_n ?_)
   obtain ⟨⟨a9, d9⟩, hx, h⟩ := bsome h
   refine E_join (fun e w => ∃ (g : Gh) , FrM iI gI wI g w ∧ e 0 = up0 ∧ OM 1 g w 37 (q5 : List FaultDamage) up0 ∧ e 1 = .int .i64 (x1) ∧ e 2 = .int .i64 (x2) ∧ e 3 = .int .i64 (x3) ∧ e 4 = (.func (.func ff4) fa4 fc4) ∧ e 18 = .int .i64 ((w64 u0)) ∧ e 19 = .int .i64 ((w64 ((w64 u0) + x2))) ∧ e 20 = .int .i64 (a9) ∧ e 21 = .int .i64 (d9)) (fun Q' hQ => ?_) (fun qO jQ hR => ?_)
   ·replace h := hx
    clear hx
    refine E_seq (E_region (EL_mv g8 rfl ?_))
    refine EL_mw (.int .i64 ((w64 u0))) rfl rfl ?_
    refine EL_in (.bool ((decide (x2 > (w64 u0))))) rfl rfl rfl rfl ?_
    refine EL_nil (thn_n ?_)
    rcases csome h with ⟨eD, h⟩ | ⟨eD, h⟩
    ·refine E_ct eD rfl ?_
     refine E_seq (E_region (EL_mw (.int .i64 ((w64 ((w64 u0) + x2)))) rfl rfl ?_))
     refine EL_mv v8 rfl ?_
     refine EL_p (.int .i64 ((w64 ((w64 ((w64 u0) + x2)) - x3)))) (P_int rfl rfl rfl) rfl ?_
     refine EL_p (.int .i64 ((w64 ((w64 ((w64 u0) + x2)) - x3)))) (P_assign rfl) rfl ?_
     refine EL_nil (thn_n (E_region (EL_mw (.int .i64 ((w64 u0))) rfl rfl ?_)))
     refine EL_at (.int .i64 ((w64 u0))) rfl rfl ?_
     refine EL_nil ?_
     obtain ⟨rfl, rfl⟩ := pairs2 h
     exact hQ _ _ ⟨xJ, hfr, gE, iE, t8, g8, v8, jE, rfl, rfl, rfl, rfl⟩
    ·refine E_cf eD rfl ?_
     refine E_seq (E_region (EL_mv t8 rfl ?_))
     refine EL_at (.int .i64 (x1)) rfl rfl ?_
     refine EL_nil (thn_n (E_region (EL_mv g8 rfl ?_)))
     refine EL_at (.int .i64 (x2)) rfl rfl ?_
     refine EL_nil ?_
     obtain ⟨rfl, rfl⟩ := pairs2 h
     exact hQ _ _ ⟨xJ, hfr, gE, iE, t8, g8, v8, jE, rfl, rfl, rfl, rfl⟩
   ·clear hx
    obtain ⟨oN, hfr, yJ, zJ, aK, bK, cK, dK, jH, xB, kH, lH⟩ := hR
    refine E_seq (E_region (EL_mv xB rfl ?_))
    refine EL_p (.int .i64 ((w64 ((w64 ((w64 u0) + x2)) - (1 : Int))))) (P_int rfl rfl rfl) rfl ?_
    refine EL_p (.int .i64 ((w64 ((w64 ((w64 u0) + x2)) - (1 : Int))))) (P_assign rfl) rfl ?_
    refine EL_nil (thn_n ?_)
    obtain ⟨o0, hx, h⟩ := bsome h
    refine E_join (fun e w => ∃ (g : Gh) , FrM iI gI wI g w ∧ e 0 = up0 ∧ OM 1 g w 37 (q5 : List FaultDamage) up0 ∧ e 1 = .int .i64 (x1) ∧ e 2 = .int .i64 (x2) ∧ e 3 = .int .i64 (x3) ∧ e 4 = (.func (.func ff4) fa4 fc4) ∧ e 18 = .int .i64 ((w64 u0)) ∧ e 19 = .int .i64 ((w64 ((w64 u0) + x2))) ∧ e 20 = .int .i64 (o0)) (fun Q' hQ => ?_) (fun rO kQ hR => ?_)
    ·replace h := hx
     clear hx
     refine E_block ?_
     refine E_lp h (fun (s : Int × Int) e w => ∃ (g : Gh) , FrM iI gI wI g w ∧ e 0 = up0 ∧ OM 1 g w 37 (q5 : List FaultDamage) up0 ∧ e 1 = .int .i64 (x1) ∧ e 2 = .int .i64 (x2) ∧ e 3 = .int .i64 (x3) ∧ e 4 = (.func (.func ff4) fa4 fc4) ∧ e 18 = .int .i64 ((w64 u0)) ∧ e 19 = .int .i64 ((w64 ((w64 u0) + x2))) ∧ e 20 = .int .i64 (s.1) ∧ e 21 = .int .i64 (s.2) ∧ e 22 = .int .i64 ((w64 ((w64 ((w64 u0) + x2)) - (1 : Int))))) ⟨oN, hfr, yJ, zJ, aK, bK, cK, dK, jH, xB, kH, lH, rfl⟩ (fun X864 yF uG => ?_)
     rintro ⟨i3, u3⟩ sO lQ ⟨eK, hfr, kE, lE, mE, nE, oE, rE, yB, zB, n9, aC, mH⟩ h
     refine E_joinC h (fun (s : Unit) e w => ∃ (g : Gh) , FrM iI gI wI g w ∧ e 0 = up0 ∧ OM 1 g w 37 (q5 : List FaultDamage) up0 ∧ e 1 = .int .i64 (x1) ∧ e 2 = .int .i64 (x2) ∧ e 3 = .int .i64 (x3) ∧ e 4 = (.func (.func ff4) fa4 fc4) ∧ e 18 = .int .i64 ((w64 u0)) ∧ e 19 = .int .i64 ((w64 ((w64 u0) + x2))) ∧ e 20 = .int .i64 (i3) ∧ e 21 = .int .i64 (u3) ∧ e 22 = .int .i64 ((w64 ((w64 ((w64 u0) + x2)) - (1 : Int))))) (fun X867 uH zL h => ?_) ?_
     ·refine E_seq (E_region (EL_mv n9 rfl ?_))
      refine EL_mv aC rfl ?_
      refine EL_in (.bool ((decide (i3 < u3)))) rfl rfl rfl rfl ?_
      refine EL_nil (thn_n ?_)
      rcases csome h with ⟨gD, h⟩ | ⟨gD, h⟩
      ·refine E_ct gD rfl ?_
       exact E_skip (thn_n (zL () _ _ ⟨eK, hfr, kE, lE, mE, nE, oE, rE, yB, zB, n9, aC, mH⟩ h))
      ·refine E_cf gD rfl ?_
       refine E_exit ?_
       refine thn_e ?_
       refine thn_e ?_
       refine blk_hit ?_
       obtain rfl := sinj h
       exact hQ _ _ ⟨eK, hfr, kE, lE, mE, nE, oE, rE, yB, zB, n9⟩
     ·rintro _ tO mQ ⟨pN, hfr, x8, c7, sE, tE, uE, rA, cC, dC, eC, iC, o9⟩ h
      refine E_block ?_
      refine E_seq (E_region (EL_mv eC rfl ?_))
      refine EL_mv iC rfl ?_
      refine EL_in (.int .i64 ((w64 (i3 + u3)))) rfl rfl rfl rfl ?_
      refine EL_p (.int .u64 (wu64 (w64 (i3 + u3)))) (P_intu64 Try.underlying3 Try.underlying72 rfl) rfl ?_
      obtain ⟨d3, aM, h⟩ := bsome h
      refine EL_p (.int .u64 (d3)) (P_shrU rfl rfl aM) rfl ?_
      refine EL_p (.int .i64 ((w64 d3))) (P_u64int Try.underlying72 Try.underlying3 rfl) rfl ?_
      refine EL_at (.int .i64 ((w64 d3))) rfl rfl ?_
      refine EL_nil (thn_n (E_seq ?_))
      obtain ⟨sH, vG, h⟩ := bsome h
      refine L_loadM (x := .tmp 163) Try.isAgg37 Try.sizeOf37 c7 vG fun lK qN bM => ?_
      obtain ⟨tH, xG, h⟩ := bsome h
      refine L_loadM (x := .tmp 167) Try.isAgg37 Try.sizeOf37 c7 xG fun mK rN cM => ?_
      obtain ⟨e9, dM, h⟩ := bsome h
      refine E_drawL (g := pN) (n := 14) [(11, (fun v g w => v = .int .i64 (e9)))] [0, 1, 2, 3, 4, 5, 6, 7, 8, 9, 10, 11, 12, 13] rfl mixed (by kernel_rfl) (⟨fun _ => up_eq _, trivial⟩) ?_
      refine L_p ((.func (.func ff4) fa4 fc4)) rfl rfl (P_move rA) ?_
      refine L_p up0 rfl rfl (P_move x8) ?_
      refine L_p (.int .i64 ((w64 ((w64 ((w64 u0) + x2)) - (1 : Int))))) rfl rfl (P_move o9) ?_
      refine L_p (.int .i64 ((w64 d3))) rfl rfl (P_move rfl) ?_
      refine L_p (.int .i64 ((w64 ((w64 ((w64 ((w64 u0) + x2)) - (1 : Int))) - (w64 d3))))) rfl rfl (P_int rfl rfl rfl) ?_
      refine L_p (ePtr up0 (w64 ((w64 ((w64 ((w64 u0) + x2)) - (1 : Int))) - (w64 d3))) 5) rfl rfl (P_indexAddrM (α := FaultDamage) Try.underlying47 Try.sizeOf37 rfl c7 rfl vG) ?_
      refine L_ld (c := lK) rfl rfl .plain (fun _ _ h => ⟨h.ch, fun b hb _ => h.below.block b hb⟩) bM rfl ?_
      refine L_p up0 rfl rfl (P_move x8) ?_
      refine L_p (.int .i64 ((w64 d3))) rfl rfl (P_move rfl) ?_
      refine L_p (ePtr up0 (w64 d3) 5) rfl rfl (P_indexAddrM (α := FaultDamage) Try.underlying47 Try.sizeOf37 rfl c7 rfl xG) ?_
      refine L_ld (c := mK) rfl rfl .plain (fun _ _ h => ⟨h.ch, fun b hb _ => h.below.block b hb⟩) cM rfl ?_
      refine L_do (φ := fun v g w => v = .int .i64 (e9)) rfl rfl .plain (fun g w hd => D_callv (g := g) (vs := [lK, mK]) rfl fen4 (.cons rfl (.cons rfl .nil)) (fcl4 _ _ (hfr.ext hd.1).ch _ _ _ _ _  (qN.ext hd.1) (rN.ext hd.1) dM) fun g' w' v hs hr => ⟨g', hs, RV_int.1 hr⟩) (fun nQ hv => ?_)
      obtain ⟨_, _, _, rfl⟩ := hv
      refine L_p (.bool ((decide (e9 < (0 : Int))))) rfl rfl (P_int rfl rfl rfl) ?_
      refine L_p (.bool (!(decide (e9 < (0 : Int))))) rfl rfl (P_not rfl) ?_
      refine L_nl fun nK oQ hs => ?_
      have hfr := hfr.ext hs
      have c7 := c7.ext hs
      clear hs
      refine EL_nil (thn_n ?_)
      rcases csome h with ⟨iD, h⟩ | ⟨iD, h⟩
      ·refine E_ct iD rfl ?_
       refine E_region (EL_mw (.int .i64 ((w64 d3))) rfl rfl ?_)
       refine EL_in (.int .i64 ((w64 ((w64 d3) + (1 : Int))))) rfl rfl rfl rfl ?_
       refine EL_at (.int .i64 ((w64 ((w64 d3) + (1 : Int))))) rfl rfl ?_
       exact EL_nil (blk_n (thn_n (uG ((w64 ((w64 d3) + (1 : Int))), u3) _ _ ⟨nK, hfr, x8, c7, sE, tE, uE, rA, cC, dC, rfl, iC, o9⟩ h)))
      ·refine E_cf iD rfl ?_
       refine E_region (EL_mw (.int .i64 ((w64 d3))) rfl rfl ?_)
       refine EL_at (.int .i64 ((w64 d3))) rfl rfl ?_
       exact EL_nil (blk_n (thn_n (uG (i3, (w64 d3)) _ _ ⟨nK, hfr, x8, c7, sE, tE, uE, rA, cC, dC, eC, rfl, o9⟩ h)))
    ·clear hx
     obtain ⟨oK, hfr, vE, xE, yE, y8, zE, cF, jC, nH, i8⟩ := hR
     refine E_seq (E_region (EL_mv nH rfl ?_))
     refine EL_mv i8 rfl ?_
     refine EL_p (.int .i64 ((w64 ((w64 ((w64 u0) + x2)) - o0)))) (P_int rfl rfl rfl) rfl ?_
     refine EL_p (.int .i64 ((w64 ((w64 ((w64 u0) + x2)) - o0)))) (P_assign rfl) rfl ?_
     refine EL_nil (thn_n ?_)
     obtain ⟨u7, hx, h⟩ := bsome h
     refine E_join (fun e w => ∃ (g : Gh) , FrM iI gI wI g w ∧ e 0 = up0 ∧ OM 1 g w 37 (u7 : List FaultDamage) up0 ∧ e 1 = .int .i64 (x1) ∧ e 3 = .int .i64 (x3) ∧ e 4 = (.func (.func ff4) fa4 fc4) ∧ e 18 = .int .i64 ((w64 u0)) ∧ e 20 = .int .i64 (o0) ∧ e 24 = .int .i64 ((w64 ((w64 ((w64 u0) + x2)) - o0)))) (fun Q' hQ => ?_) (fun uO pQ hR => ?_)
     ·replace h := hx
      clear hx
      obtain ⟨i7, hx, h⟩ := bsome h
      refine E_join (fun e w => ∃ (g : Gh) , FrM iI gI wI g w ∧ e 0 = up0 ∧ OM 1 g w 37 (q5 : List FaultDamage) up0 ∧ e 1 = .int .i64 (x1) ∧ e 2 = .int .i64 (x2) ∧ e 3 = .int .i64 (x3) ∧ e 4 = (.func (.func ff4) fa4 fc4) ∧ e 18 = .int .i64 ((w64 u0)) ∧ e 20 = .int .i64 (o0) ∧ e 24 = .int .i64 ((w64 ((w64 ((w64 u0) + x2)) - o0))) ∧ e 185 = .bool (i7)) (fun Q' hQ => ?_) (fun vO qQ hR => ?_)
      ·replace h := hx
       clear hx
       refine E_region (EL_mv i8 rfl ?_)
       refine EL_mv y8 rfl ?_
       refine EL_in (.bool ((decide (o0 < x2)))) rfl rfl rfl rfl ?_
       refine EL_mw (.bool ((decide (o0 < x2)))) rfl rfl ?_
       rcases csome h with ⟨d7, h⟩ | ⟨d7, h⟩
       ·refine EL_y (.int .i64 (x2)) (P_move y8) rfl rfl d7 rfl ?_
        refine EL_y (.int .i64 ((w64 ((w64 ((w64 u0) + x2)) - o0)))) (P_move rfl) rfl rfl d7 rfl ?_
        refine EL_y (.bool ((decide (x2 < (w64 ((w64 ((w64 u0) + x2)) - o0)))))) (P_int rfl rfl rfl) rfl rfl d7 rfl ?_
        refine EL_p (.bool ((decide (x2 < (w64 ((w64 ((w64 u0) + x2)) - o0)))))) (P_pick (b := (decide (o0 < x2))) rfl (pick_t d7 rfl)) rfl ?_
        refine EL_nil ?_
        obtain rfl := sinj h
        exact hQ _ _ ⟨oK, hfr, vE, xE, yE, y8, zE, cF, jC, i8, rfl, rfl⟩
       ·refine EL_s rfl rfl d7 rfl rfl ?_
        refine EL_s rfl rfl d7 rfl rfl ?_
        refine EL_s rfl rfl d7 rfl rfl ?_
        refine EL_p (.bool false) (P_pick (b := (decide (o0 < x2))) rfl (pick_f d7 rfl)) rfl ?_
        refine EL_nil ?_
        obtain rfl := sinj h
        exact hQ _ _ ⟨oK, hfr, vE, xE, yE, y8, zE, cF, jC, i8, rfl, rfl⟩
      ·clear hx
       obtain ⟨pK, hfr, sA, dF, eF, qK, iF, uA, kC, t9, u9, xA⟩ := hR
       rcases csome h with ⟨jD, h⟩ | ⟨jD, h⟩
       ·refine E_cond_true (Eq.trans (show ev _ _ = .bool (i7) from xA) (congrArg Value.bool jD)) ?_
        refine E_region (EL_mv sA rfl ?_)
        refine EL_mv t9 rfl ?_
        refine EL_mv qK rfl ?_
        refine EL_p (.int .i64 ((w64 ((w64 ((w64 u0) + x2)) - o0)))) (P_move u9) rfl ?_
        refine EL_mv uA rfl ?_
        obtain ⟨vH, eM, h⟩ := bsome h
        refine EL_do .plain rfl (D_callM (g := pK) (i := 1) (vs := [up0, .int .i64 (o0), .int .i64 (x2), .int .i64 ((w64 ((w64 ((w64 u0) + x2)) - o0))), (.func (.func ff4) fa4 fc4)]) en200 (.cons rfl (.cons rfl (.cons rfl (.cons rfl (.cons rfl .nil))))) (wk200 dF (FnV2.ch ⟨_, _, _, rfl, fen4, fcl4⟩ hfr.ch) eM) fun sN xO rQ hs hr => ?_)
        obtain ⟨hrv, b921⟩ := hr
        have hfr := hfr.stp hs
        subst hrv
        refine EL_nil ?_
        obtain rfl := sinj h
        exact hQ _ _ ⟨sN, hfr, sA, b921, eF, iF, uA, kC, t9, u9⟩
       ·refine E_cond_false (Eq.trans (show ev _ _ = .bool (i7) from xA) (congrArg Value.bool jD)) ?_
        refine E_skip ?_
        obtain rfl := sinj h
        exact hQ _ _ ⟨pK, hfr, sA, dF, eF, iF, uA, kC, t9, u9⟩
     ·clear hx
      obtain ⟨sK, hfr, nF, oF, yA, pF, qF, y9, k8, lC⟩ := hR
      obtain ⟨v7, hx, h⟩ := bsome h
      refine E_join (fun e w => ∃ (g : Gh) , FrM iI gI wI g w ∧ e 0 = up0 ∧ OM 1 g w 37 (v7 : List FaultDamage) up0 ∧ e 3 = .int .i64 (x3) ∧ e 4 = (.func (.func ff4) fa4 fc4) ∧ e 18 = .int .i64 ((w64 u0)) ∧ e 24 = .int .i64 ((w64 ((w64 ((w64 u0) + x2)) - o0)))) (fun Q' hQ => ?_) (fun yO sQ hR => ?_)
      ·replace h := hx
       clear hx
       obtain ⟨j7, hx, h⟩ := bsome h
       refine E_join (fun e w => ∃ (g : Gh) , FrM iI gI wI g w ∧ e 0 = up0 ∧ OM 1 g w 37 (u7 : List FaultDamage) up0 ∧ e 1 = .int .i64 (x1) ∧ e 3 = .int .i64 (x3) ∧ e 4 = (.func (.func ff4) fa4 fc4) ∧ e 18 = .int .i64 ((w64 u0)) ∧ e 20 = .int .i64 (o0) ∧ e 24 = .int .i64 ((w64 ((w64 ((w64 u0) + x2)) - o0))) ∧ e 199 = .bool (j7)) (fun Q' hQ => ?_) (fun zO tQ hR => ?_)
       ·replace h := hx
        clear hx
        refine E_region (EL_mv yA rfl ?_)
        refine EL_mv k8 rfl ?_
        refine EL_in (.bool ((decide (x1 < o0)))) rfl rfl rfl rfl ?_
        refine EL_mw (.bool ((decide (x1 < o0)))) rfl rfl ?_
        rcases csome h with ⟨e7, h⟩ | ⟨e7, h⟩
        ·refine EL_y (.int .i64 (o0)) (P_move k8) rfl rfl e7 rfl ?_
         refine EL_y (.int .i64 ((w64 u0))) (P_move y9) rfl rfl e7 rfl ?_
         refine EL_y (.bool ((decide (o0 < (w64 u0))))) (P_int rfl rfl rfl) rfl rfl e7 rfl ?_
         refine EL_p (.bool ((decide (o0 < (w64 u0))))) (P_pick (b := (decide (x1 < o0))) rfl (pick_t e7 rfl)) rfl ?_
         refine EL_nil ?_
         obtain rfl := sinj h
         exact hQ _ _ ⟨sK, hfr, nF, oF, yA, pF, qF, y9, k8, lC, rfl⟩
        ·refine EL_s rfl rfl e7 rfl rfl ?_
         refine EL_s rfl rfl e7 rfl rfl ?_
         refine EL_s rfl rfl e7 rfl rfl ?_
         refine EL_p (.bool false) (P_pick (b := (decide (x1 < o0))) rfl (pick_f e7 rfl)) rfl ?_
         refine EL_nil ?_
         obtain rfl := sinj h
         exact hQ _ _ ⟨sK, hfr, nF, oF, yA, pF, qF, y9, k8, lC, rfl⟩
       ·clear hx
        obtain ⟨tK, hfr, zA, rF, uK, sF, aB, z9, oH, mC, bB⟩ := hR
        rcases csome h with ⟨kD, h⟩ | ⟨kD, h⟩
        ·refine E_cond_true (Eq.trans (show ev _ _ = .bool (j7) from bB) (congrArg Value.bool kD)) ?_
         refine E_region (EL_mv zA rfl ?_)
         refine EL_mv uK rfl ?_
         refine EL_mv oH rfl ?_
         refine EL_mv z9 rfl ?_
         refine EL_mv aB rfl ?_
         obtain ⟨xH, gM, h⟩ := bsome h
         refine EL_do .plain rfl (D_callM (g := tK) (i := 1) (vs := [up0, .int .i64 (x1), .int .i64 (o0), .int .i64 ((w64 u0)), (.func (.func ff4) fa4 fc4)]) en178 (.cons rfl (.cons rfl (.cons rfl (.cons rfl (.cons rfl .nil))))) (ih rF (FnV2.ch ⟨_, _, _, rfl, fen4, fcl4⟩ hfr.ch) gM) fun tN aP uQ hs hr => ?_)
         obtain ⟨hrv, b934⟩ := hr
         have hfr := hfr.stp hs
         subst hrv
         refine EL_nil ?_
         obtain rfl := sinj h
         exact hQ _ _ ⟨tN, hfr, zA, b934, sF, aB, z9, mC⟩
        ·refine E_cond_false (Eq.trans (show ev _ _ = .bool (j7) from bB) (congrArg Value.bool kD)) ?_
         refine E_skip ?_
         obtain rfl := sinj h
         exact hQ _ _ ⟨tK, hfr, zA, rF, sF, aB, z9, mC⟩
      ·clear hx
       obtain ⟨vK, hfr, tF, uF, cB, vF, bA, l8⟩ := hR
       obtain ⟨m7, hx, h⟩ := bsome h
       refine E_join (fun e w => ∃ (g : Gh) , FrM iI gI wI g w ∧ e 0 = up0 ∧ OM 1 g w 37 (v7 : List FaultDamage) up0 ∧ e 3 = .int .i64 (x3) ∧ e 4 = (.func (.func ff4) fa4 fc4) ∧ e 18 = .int .i64 ((w64 u0)) ∧ e 24 = .int .i64 ((w64 ((w64 ((w64 u0) + x2)) - o0))) ∧ e 213 = .bool (m7)) (fun Q' hQ => ?_) (fun bP vQ hR => ?_)
       ·replace h := hx
        clear hx
        refine E_region (EL_mv bA rfl ?_)
        refine EL_p (.int .i64 ((w64 ((w64 ((w64 u0) + x2)) - o0)))) (P_move l8) rfl ?_
        refine EL_p (.bool ((decide ((w64 u0) < (w64 ((w64 ((w64 u0) + x2)) - o0)))))) (P_int rfl rfl rfl) rfl ?_
        refine EL_p (.bool ((decide ((w64 u0) < (w64 ((w64 ((w64 u0) + x2)) - o0)))))) (P_move rfl) rfl ?_
        rcases csome h with ⟨g7, h⟩ | ⟨g7, h⟩
        ·refine EL_y (.int .i64 ((w64 ((w64 ((w64 u0) + x2)) - o0)))) (P_move l8) rfl rfl g7 rfl ?_
         refine EL_y (.int .i64 (x3)) (P_move cB) rfl rfl g7 rfl ?_
         refine EL_y (.bool ((decide ((w64 ((w64 ((w64 u0) + x2)) - o0)) < x3)))) (P_int rfl rfl rfl) rfl rfl g7 rfl ?_
         refine EL_p (.bool ((decide ((w64 ((w64 ((w64 u0) + x2)) - o0)) < x3)))) (P_pick (b := (decide ((w64 u0) < (w64 ((w64 ((w64 u0) + x2)) - o0))))) rfl (pick_t g7 rfl)) rfl ?_
         refine EL_nil ?_
         obtain rfl := sinj h
         exact hQ _ _ ⟨vK, hfr, tF, uF, cB, vF, bA, l8, rfl⟩
        ·refine EL_s rfl rfl g7 rfl rfl ?_
         refine EL_s rfl rfl g7 rfl rfl ?_
         refine EL_s rfl rfl g7 rfl rfl ?_
         refine EL_p (.bool false) (P_pick (b := (decide ((w64 u0) < (w64 ((w64 ((w64 u0) + x2)) - o0))))) rfl (pick_f g7 rfl)) rfl ?_
         refine EL_nil ?_
         obtain rfl := sinj h
         exact hQ _ _ ⟨vK, hfr, tF, uF, cB, vF, bA, l8, rfl⟩
       ·clear hx
        obtain ⟨uN, hfr, xK, xF, yK, zK, pH, qH, dB⟩ := hR
        rcases csome h with ⟨lD, h⟩ | ⟨lD, h⟩
        ·refine E_cond_true (Eq.trans (show ev _ _ = .bool (m7) from dB) (congrArg Value.bool lD)) ?_
         refine E_region (EL_mv xK rfl ?_)
         refine EL_mv pH rfl ?_
         refine EL_p (.int .i64 ((w64 ((w64 ((w64 u0) + x2)) - o0)))) (P_move qH) rfl ?_
         refine EL_mv yK rfl ?_
         refine EL_mv zK rfl ?_
         obtain ⟨yH, iM, h⟩ := bsome h
         refine EL_do .plain rfl (D_callM (g := uN) (i := 1) (vs := [up0, .int .i64 ((w64 u0)), .int .i64 ((w64 ((w64 ((w64 u0) + x2)) - o0))), .int .i64 (x3), (.func (.func ff4) fa4 fc4)]) en178 (.cons rfl (.cons rfl (.cons rfl (.cons rfl (.cons rfl .nil))))) (ih xF (FnV2.ch ⟨_, _, _, rfl, fen4, fcl4⟩ hfr.ch) iM) fun xQ cP yQ hs hr => ?_)
         obtain ⟨hrv, b941⟩ := hr
         have hfr := hfr.stp hs
         subst hrv
         refine EL_nil ?_
         obtain rfl := sinj h
         exact end0n rfl rfl ⟨_, hfr, rfl, gA.back b941⟩
        ·refine E_cond_false (Eq.trans (show ev _ _ = .bool (m7) from dB) (congrArg Value.bool lD)) ?_
         refine E_skip ?_
         obtain rfl := sinj h
         exact end0n rfl rfl ⟨_, hfr, rfl, gA.back xF⟩
def f181 (x0 : SeamPart) : Option (Bool) :=
 (f182 x0).bind fun y4 =>
 some ((!y4))
theorem en181 : Enters Try.prog 181 := enters_of Try.func181 (by kernel_rfl) rfl
theorem wk181 {gI : Gh} {wI : World} {x0 : SeamPart} {up0 : Value} (rp0 : RV gI.m wI x0 up0) {r : Bool} (h : f181 x0 = some r) : Fn Try.prog 181 #[up0] gI wI (fun _ _ v => v = .bool (r)) := by
 unfold f181 at h
 refine fn_of_E Try.func181 rfl (Nat.le_of_ble_eq_true rfl) fun g0 hm hfr => ?_
 have rp0 : RV g0.m wI x0 up0 := hm ▸ rp0
 show E _ 6 none _ _ _ _ _
 refine E_seq (E_region (EL_do .plain rfl (D_box (g := g0) rfl rp0 fun g1 w1 p1 hs q1 => ?_)))
 have hfr := hfr.ext hs
 refine EL_at (.bool false) rfl rfl ?_
 refine EL_nil (thn_n (E_seq (E_region (EL_do .plain rfl (D_load (g := g1) Try.isAgg140 Try.sizeOf140 rfl q1 fun v2 r2 => ?_)))))
 obtain ⟨y4, o0, h⟩ := bsome h
 refine EL_do .plain rfl (D_call (g := g1) (vs := [v2]) en182 (.cons rfl .nil) (wk182 r2 o0) fun g3 w3_ v3 hs hr => ?_)
 have hfr := hfr.ext hs
 subst hr
 refine EL_p (.bool (!y4)) (P_not rfl) rfl ?_
 refine EL_at (.bool (!y4)) rfl rfl ?_
 refine EL_nil (thn_n (E_ret ?_))
 obtain rfl := sinj h
 exact end1 rfl rfl (show _ = .bool (!y4) from rfl) ⟨_, hfr, rfl⟩
def f49 (x0 : FaultSight) (z0 : FaultLoom) : Option (Bool) :=
 Option.bind (α := Bool) (
  (f50 ((0 : Int)) ((119 : Int)) (([(x0).Pick] : List Int))).bind fun j1 =>
  bif (!j1) then
   some (true)
  else
   (f50 ((0 : Int)) ((w64 (((((z0).Harness).Warps).length : Int) - (1 : Int)))) (([(x0).Warp] : List Int))).bind fun z2 =>
   some ((!z2))
  ) fun u0 =>
 some (u0)
theorem en49 : Enters Try.prog 49 := enters_of Try.func49 (by kernel_rfl) rfl
theorem wk49 {gI : Gh} {wI : World} {x0 : FaultSight} {z0 : FaultLoom} {up0 : Value} (rp0 : RV gI.m wI x0 up0) {pf0 : Value} (qf0 : PT gI.m wI z0 pf0) {r : Bool} (h : f49 x0 z0 = some r) : Fn Try.prog 49 #[up0, pf0] gI wI (fun _ _ v => v = .bool (r)) := by
 unfold f49 at h
 refine fn_of_E Try.func49 rfl (Nat.le_of_ble_eq_true rfl) fun g0 hm hfr => ?_
 have qf0 : PT g0.m wI z0 pf0 := hm ▸ qf0
 have rp0 : RV g0.m wI x0 up0 := hm ▸ rp0
 show E _ 21 none _ _ _ _ _
 refine E_seq (E_region (EL_do .plain rfl (D_box (g := g0) rfl rp0 fun g1 w1 p1 hs q1 => ?_)))
 have hfr := hfr.ext hs
 have qf0 := qf0.ext hs
 refine EL_at (.bool false) rfl rfl ?_
 refine EL_nil (thn_n ?_)
 obtain ⟨u0, hx, h⟩ := bsome h
 refine E_join (fun e w => ∃ (g : Gh) , Fr gI wI g w ∧ e 3 = .bool (u0)) (fun Q' hQ => ?_) (fun b7 e7 hR => ?_)
 ·replace h := hx
  clear hx
  refine E_region (EL_p (fPtr p1 0) (P_fieldAddr at_51_0 rfl (PT.ptr q1)) rfl ?_)
  have z3 := PT_field (part_FaultSight_0).1 q1
  refine EL_do .plain rfl (D_load (g := g1) Try.isAgg3 Try.sizeOf3 rfl z3 fun g7 z4 => ?_)
  obtain rfl := RV_int.1 z4
  refine EL_do .plain rfl (D_buildSlice (g := g1) 3006 (xs := ([(x0).Pick] : List Int)) (vs := [.int .i64 ((x0).Pick)]) Try.underlying26 Try.sizeOf3 Try.zeroValue3 rfl rfl (.cons rfl .nil) (RVs.cons (RV_int.2 rfl) RVs.nil) rfl rfl fun i5 i7 l5 hs o18 q5 hxt hfl => ?_)
  have hfr := hfr.stp hs
  have qf0 := qf0.stp hs
  have q1 := q1.stp hs
  obtain ⟨j1, o3, h⟩ := bsome h
  refine EL_do .plain rfl (D_call (g := i5) (vs := [.int .i64 (0), .int .i64 (119), l5]) en50 (.cons rfl (.cons rfl (.cons rfl .nil))) (wk50 q5 o3) fun d3 c7 j7 hs hr => ?_)
  have hfr := hfr.ext hs
  have qf0 := qf0.ext hs
  have q1 := q1.ext hs
  subst hr
  refine EL_p (.bool (!j1)) (P_not rfl) rfl ?_
  refine EL_mw (.bool (!j1)) rfl rfl ?_
  rcases csome h with ⟨o0, h⟩ | ⟨o0, h⟩
  ·refine EL_s rfl rfl o0 rfl rfl ?_
   iterate 9 refine EL_s rfl rfl o0 rfl rfl ?_
   refine EL_p (.bool true) (P_pick (b := (!j1)) rfl (pick_t o0 rfl)) rfl ?_
   refine EL_at (.bool true) rfl rfl ?_
   refine EL_nil ?_
   obtain rfl := sinj h
   exact hQ _ _ ⟨d3, hfr, rfl⟩
  ·refine EL_y (fPtr pf0 0) (P_fieldAddr at_32_0 rfl (PT.ptr qf0)) rfl rfl o0 rfl ?_
   have j3 := PT_field (part_FaultLoom_0).1 qf0
   refine EL_y (fPtr (fPtr pf0 0) 1) (P_fieldAddr at_28_1 rfl (PT.ptr j3)) rfl rfl o0 rfl ?_
   have t5 := PT_field (part_TieHarness_1).1 j3
   refine EL_do (.yes2 rfl rfl o0) rfl (D_load (g := d3) Try.isAgg26 Try.sizeOf26 rfl t5 fun m7 x5 => ?_)
   refine EL_y (.int .i64 ((((z0).Harness).Warps).length : Int)) (P_len Try.underlying26 rfl x5) rfl rfl o0 rfl ?_
   refine EL_y (.int .i64 ((w64 (((((z0).Harness).Warps).length : Int) - (1 : Int))))) (P_int rfl rfl rfl) rfl rfl o0 rfl ?_
   refine EL_y (fPtr p1 1) (P_fieldAddr at_51_1 rfl (PT.ptr q1)) rfl rfl o0 rfl ?_
   have i6 := PT_field (part_FaultSight_1).1 q1
   refine EL_do (.yes2 rfl rfl o0) rfl (D_load (g := d3) Try.isAgg3 Try.sizeOf3 rfl i6 fun n7 j6 => ?_)
   obtain rfl := RV_int.1 j6
   refine EL_do (.yes2 rfl rfl o0) rfl (D_buildSlice (g := d3) 3017 (xs := ([(x0).Warp] : List Int)) (vs := [.int .i64 ((x0).Warp)]) Try.underlying26 Try.sizeOf3 Try.zeroValue3 rfl rfl (.cons rfl .nil) (RVs.cons (RV_int.2 rfl) RVs.nil) rfl rfl fun v6 o7 x6 hs o27 y6 hxt hfl => ?_)
   have hfr := hfr.stp hs
   obtain ⟨z2, u3, h⟩ := bsome h
   refine EL_do (.yes2 rfl rfl o0) rfl (D_call (g := v6) (vs := [.int .i64 (0), .int .i64 ((w64 (((((z0).Harness).Warps).length : Int) - (1 : Int)))), x6]) en50 (.cons rfl (.cons rfl (.cons rfl .nil))) (wk50 y6 u3) fun a7 d7 u7 hs hr => ?_)
   have hfr := hfr.ext hs
   subst hr
   refine EL_y (.bool (!z2)) (P_not rfl) rfl rfl o0 rfl ?_
   refine EL_p (.bool (!z2)) (P_pick (b := (!j1)) rfl (pick_f o0 rfl)) rfl ?_
   refine EL_at (.bool (!z2)) rfl rfl ?_
   refine EL_nil ?_
   obtain rfl := sinj h
   exact hQ _ _ ⟨a7, hfr, rfl⟩
 ·clear hx
  obtain ⟨v7, hfr, i3⟩ := hR
  refine E_ret ?_
  obtain rfl := sinj h
  exact end1 rfl rfl (show _ = .bool (u0) from i3) ⟨_, hfr, rfl⟩
def f61 (x0 : Int) (x1 : List Int) (x2 : List SeamCut) : Option (SeamTailor × Int) :=
 jn (σ := SeamTailor) (fun y8 =>
  jn (σ := SeamTailor) (fun z9 =>
   some ((⟨x0, x1, x2⟩ : SeamTailor), (0 : Int))
   ) fun bA =>
  lp (σ := SeamTailor × Int) (fun gA (z2, o0) =>
   bif (decide (o0 < ((x1).length : Int))) then
    jn (σ := SeamTailor) (fun b7 =>
     gA (b7, (w64 (o0 + (1 : Int))))
     ) fun iA =>
    Option.bind (α := Bool) (
     bif (decide (o0 > (0 : Int))) then
      (idx x1 o0).bind fun c7 =>
      (idx x1 (w64 (o0 - (1 : Int)))).bind fun d7 =>
      some ((decide (c7 ≤ d7)))
     else
      some (false)
     ) fun u3 =>
    bif u3 then
     some (z2, (6 : Int))
    else
     iA (z2)
   else
    bA (z2)
   ) big (y8, (0 : Int))
  ) fun k33 =>
 (f107 ((1 : Int)) ((100 : Int)) (([x0] : List Int))).bind fun a9 =>
 bif (!a9) then
  some ((⟨0, [], []⟩ : SeamTailor), (3 : Int))
 else
  Option.bind (α := Bool) (
   bif (decide (((x1).length : Int) > (40 : Int))) then
    some ((decide (((x1).length : Int) > (40 : Int))))
   else
    some ((decide (((x2).length : Int) > (8 : Int))))
   ) fun l5 =>
  bif l5 then
   some ((⟨0, [], []⟩ : SeamTailor), (5 : Int))
  else
   Option.bind (α := Bool) (
    (f107 ((0 : Int)) ((100000 : Int)) x1).bind fun y55 =>
    bif (!y55) then
     some ((!y55))
    else
     (f108 x2 ((fun a0 => f106 a0 x0))).bind fun jA =>
     some (jA)
    ) fun q5 =>
   bif q5 then
    some ((⟨0, [], []⟩ : SeamTailor), (2 : Int))
   else
    k33 ((⟨0, [], []⟩ : SeamTailor))
theorem en61 : Enters Try.prog 61 := enters_of Try.func61 (by kernel_rfl) rfl
theorem wk61 {gI : Gh} {wI : World} {x0 : Int} {x1 : List Int} {x2 : List SeamCut} {up1 : Value} (rp1 : RV gI.m wI x1 up1) {up2 : Value} (rp2 : RV gI.m wI x2 up2) {r : SeamTailor × Int} (h : f61 x0 x1 x2 = some r) : Fn Try.prog 61 #[.int .i64 (x0), up1, up2] gI wI (fun m w v => ∃ y0 y1, v = .tuple #[y0, y1] ∧ RV m w (r.1) y0 ∧ y1 = .int .i64 (r.2)) := by
 unfold f61 at h
 refine fn_of_E Try.func61 rfl (Nat.le_of_ble_eq_true rfl) fun g0 hm hfr => ?_
 have rp1 : RV g0.m wI x1 up1 := hm ▸ rp1
 have rp2 : RV g0.m wI x2 up2 := hm ▸ rp2
 show E _ 58 none _ _ _ _ _
 refine E_seq (E_region (EL_do .plain rfl (D_box (g := g0) rfl (RV_int.2 rfl) fun g1 w1 p1 hs q1 => ?_)))
 have hfr := hfr.ext hs
 have rp1 := rp1.ext hs
 have rp2 := rp2.ext hs
 refine EL_do .plain rfl (D_allocOc (g := g1) 2006 (⟨0, [], []⟩ : SeamTailor) Try.zeroValue129 (fun m w => ⟨_, (rep_two rep_int (rep_two rep_nil rep_nil)), rfl⟩) fun g2 w2 p2 hs b2 cb => ?_)
 have hfr := hfr.stp hs
 have rp1 := rp1.stp hs
 have rp2 := rp2.stp hs
 have q1 := q1.stp hs
 have v6 : OSF 2006 60601 1 g2 w2 3 129 ([] : List Int) p2 := cb.osf (by rfl)
 have x6 : OSF 2006 60602 2 g2 w2 68 129 ([] : List SeamCut) p2 := cb.osf (by rfl)
 clear cb
 refine EL_at (.int .i64 (0)) rfl rfl ?_
 refine EL_nil (thn_n (E_seq (E_region (EL_p ((.func (.func 106) #[] #[p1])) (P_makeFunc (capf_0_1 (show ev _ _ = p1 from rfl))) rfl ?_))))
 refine EL_at ((.func (.func 106) #[] #[p1])) rfl rfl ?_
 refine EL_nil (thn_n (E_joinC h (fun (s : SeamTailor) e w => ∃ (g : Gh) , Fr gI wI g w ∧ e 1 = up1 ∧ RV g.m w (x1 : List Int) up1 ∧ e 2 = up2 ∧ RV g.m w (x2 : List SeamCut) up2 ∧ e 3 = p1 ∧ PT g.m w (x0 : Int) p1 ∧ e 6 = p2 ∧ OB 2006 g w 129 (s : SeamTailor) p2 ∧ OSF 2006 60601 1 g w 3 129 ((s).bad) p2 ∧ OSF 2006 60602 2 g w 68 129 ((s).cuts) p2) (fun X33 k33 yC h => ?_) ?_))
 ·refine E_block ?_
  refine E_seq (E_region (EL_do .plain rfl (D_load (g := g2) Try.isAgg3 Try.sizeOf3 rfl q1 fun uF xD => ?_)))
  obtain rfl := RV_int.1 xD
  refine EL_do .plain rfl (D_buildSlice (g := g2) 3013 (xs := ([x0] : List Int)) (vs := [.int .i64 (x0)]) Try.underlying26 Try.sizeOf3 Try.zeroValue3 rfl rfl (.cons rfl .nil) (RVs.cons (RV_int.2 rfl) RVs.nil) rfl rfl fun yD vF zD hs o35 aE hxt hfl => ?_)
  have hfr := hfr.stp hs
  have rp1 := rp1.stp hs
  have rp2 := rp2.stp hs
  have q1 := q1.stp hs
  have v6 := v6.stp hs rfl
  have x6 := x6.stp hs rfl
  have b2 := b2.stp hs rfl
  obtain ⟨a9, aD, h⟩ := bsome h
  refine EL_do .plain rfl (D_call (g := yD) (vs := [.int .i64 (1), .int .i64 (100), zD]) en107 (.cons rfl (.cons rfl (.cons rfl .nil))) (wk107 aE aD) fun d9 rE xF hs hr => ?_)
  have hfr := hfr.ext hs
  have rp1 := rp1.ext hs
  have rp2 := rp2.ext hs
  have q1 := q1.ext hs
  have v6 := v6.ext hs
  have x6 := x6.ext hs
  have b2 := b2.ext hs
  subst hr
  refine EL_p (.bool (!a9)) (P_not rfl) rfl ?_
  refine EL_at (.bool (!a9)) rfl rfl ?_
  refine EL_nil (thn_n ?_)
  rcases csome h with ⟨m8, h⟩ | ⟨m8, h⟩
  ·refine E_ct m8 rfl ?_
   refine E_seq (E_region (EL_do .plain rfl (D_loadO (g := d9) Try.isAgg129 Try.sizeOf129 rfl b2 fun bE cE => ?_)))
   refine EL_do .plain rfl (D_storeOc (g := d9) (v := bE) Try.sizeOf129 rfl b2 rfl cE fun yF zF hs b40 cb => ?_)
   clear cb
   have hfr := hfr.stp hs
   refine EL_at (.int .i64 (3)) rfl rfl ?_
   refine EL_nil (thn_n (E_ret (blk_r ?_)))
   refine thn_r ?_
   obtain rfl := sinj h
   obtain ⟨ad41, cv41, hp41, bD, cr41⟩ := ob_read Try.isAgg129 Try.sizeOf129 b40
   exact endm_ct rfl rfl ((show _ = p2 from rfl).trans hp41) bD (show _ = .int .i64 (3) from rfl) ⟨_, hfr, _, _, rfl, cr41, rfl⟩
  ·refine E_cf m8 rfl ?_
   obtain ⟨l5, hx, h⟩ := bsome h
   refine E_join (fun e w => ∃ (g : Gh) , Fr gI wI g w ∧ e 1 = up1 ∧ RV g.m w (x1 : List Int) up1 ∧ e 2 = up2 ∧ RV g.m w (x2 : List SeamCut) up2 ∧ e 3 = p1 ∧ PT g.m w (x0 : Int) p1 ∧ e 6 = p2 ∧ OB 2006 g w 129 ((⟨0, [], []⟩ : SeamTailor) : SeamTailor) p2 ∧ OSF 2006 60601 1 g w 3 129 (((⟨0, [], []⟩ : SeamTailor)).bad) p2 ∧ OSF 2006 60602 2 g w 68 129 (((⟨0, [], []⟩ : SeamTailor)).cuts) p2 ∧ e 8 = (.func (.func 106) #[] #[p1]) ∧ e 17 = .bool (l5)) (fun Q' hQ => ?_) (fun sE aG hR => ?_)
   ·replace h := hx
    clear hx
    refine E_seq (E_region (EL_mw up1 rfl rfl ?_))
    refine EL_p (.int .i64 ((x1).length : Int)) (P_len Try.underlying26 rfl rp1) rfl ?_
    refine EL_in (.bool ((decide (((x1).length : Int) > (40 : Int))))) rfl rfl rfl rfl ?_
    refine EL_at (.bool ((decide (((x1).length : Int) > (40 : Int))))) rfl rfl ?_
    refine EL_nil (thn_n ?_)
    rcases csome h with ⟨n8, h⟩ | ⟨n8, h⟩
    ·refine E_ct n8 rfl ?_
     refine E_skip ?_
     obtain rfl := sinj h
     exact hQ _ _ ⟨d9, hfr, rfl, rp1, rfl, rp2, rfl, q1, rfl, b2, v6, x6, rfl, rfl⟩
    ·refine E_cf n8 rfl ?_
     refine E_region (EL_mw up2 rfl rfl ?_)
     refine EL_p (.int .i64 ((x2).length : Int)) (P_len Try.underlying66 rfl rp2) rfl ?_
     refine EL_in (.bool ((decide (((x2).length : Int) > (8 : Int))))) rfl rfl rfl rfl ?_
     refine EL_at (.bool ((decide (((x2).length : Int) > (8 : Int))))) rfl rfl ?_
     refine EL_nil ?_
     obtain rfl := sinj h
     exact hQ _ _ ⟨d9, hfr, rfl, rp1, rfl, rp2, rfl, q1, rfl, b2, v6, x6, rfl, rfl⟩
   ·clear hx
    obtain ⟨kA, hfr, n7, z3, o7, z4, e9, i5, i6, o3, u6_1_44, u6_2_44, nB, e8⟩ := hR
    rcases csome h with ⟨o8, h⟩ | ⟨o8, h⟩
    ·refine E_cond_true (Eq.trans (show ev _ _ = .bool (l5) from e8) (congrArg Value.bool o8)) ?_
     refine E_seq (E_region (EL_do .plain rfl (D_loadO (g := kA) Try.isAgg129 Try.sizeOf129 i6 o3 fun dE eE => ?_)))
     refine EL_do .plain rfl (D_storeOc (g := kA) (v := dE) Try.sizeOf129 i6 o3 rfl eE fun bG cG hs b47 cb => ?_)
     clear cb
     have hfr := hfr.stp hs
     refine EL_at (.int .i64 (5)) rfl rfl ?_
     refine EL_nil (thn_n (E_ret (blk_r ?_)))
     refine thn_r ?_
     obtain rfl := sinj h
     obtain ⟨ad48, cv48, hp48, cD, cr48⟩ := ob_read Try.isAgg129 Try.sizeOf129 b47
     exact endm_ct rfl rfl ((show _ = p2 from i6).trans hp48) cD (show _ = .int .i64 (5) from rfl) ⟨_, hfr, _, _, rfl, cr48, rfl⟩
    ·refine E_cond_false (Eq.trans (show ev _ _ = .bool (l5) from e8) (congrArg Value.bool o8)) ?_
     obtain ⟨q5, hx, h⟩ := bsome h
     refine E_join (fun e w => ∃ (g : Gh) , Fr gI wI g w ∧ e 1 = up1 ∧ RV g.m w (x1 : List Int) up1 ∧ e 2 = up2 ∧ RV g.m w (x2 : List SeamCut) up2 ∧ e 3 = p1 ∧ PT g.m w (x0 : Int) p1 ∧ e 6 = p2 ∧ OB 2006 g w 129 ((⟨0, [], []⟩ : SeamTailor) : SeamTailor) p2 ∧ OSF 2006 60601 1 g w 3 129 (((⟨0, [], []⟩ : SeamTailor)).bad) p2 ∧ OSF 2006 60602 2 g w 68 129 (((⟨0, [], []⟩ : SeamTailor)).cuts) p2 ∧ e 25 = .bool (q5)) (fun Q' hQ => ?_) (fun tE dG hR => ?_)
     ·replace h := hx
      clear hx
      refine E_seq (E_region (EL_mv n7 rfl ?_))
      obtain ⟨y55, eD, h⟩ := bsome h
      refine EL_do .plain rfl (D_call (g := kA) (vs := [.int .i64 (0), .int .i64 (100000), up1]) en107 (.cons rfl (.cons rfl (.cons rfl .nil))) (wk107 z3 eD) fun xC uE eG hs hr => ?_)
      have hfr := hfr.ext hs
      have z3 := z3.ext hs
      have z4 := z4.ext hs
      have i5 := i5.ext hs
      have u6_1_44 := u6_1_44.ext hs
      have u6_2_44 := u6_2_44.ext hs
      have o3 := o3.ext hs
      subst hr
      refine EL_p (.bool (!y55)) (P_not rfl) rfl ?_
      refine EL_at (.bool (!y55)) rfl rfl ?_
      refine EL_nil (thn_n ?_)
      rcases csome h with ⟨q8, h⟩ | ⟨q8, h⟩
      ·refine E_ct q8 rfl ?_
       refine E_skip ?_
       obtain rfl := sinj h
       exact hQ _ _ ⟨xC, hfr, n7, z3, o7, z4, e9, i5, i6, o3, u6_1_44, u6_2_44, rfl⟩
      ·refine E_cf q8 rfl ?_
       refine E_region (EL_mv o7 rfl ?_)
       refine EL_mv nB rfl ?_
       obtain ⟨jA, gD, h⟩ := bsome h
       refine EL_do .plain rfl (D_call (g := xC) (vs := [up2, (.func (.func 106) #[] #[p1])]) en108 (.cons rfl (.cons rfl .nil)) (wk108 z4 ⟨106, #[], #[p1], rfl, en106, fun g' w' hch a0 b0 r hu0 hr => by exact Fn.mono (wk106 hu0 (i5.ch hch) hr) fun _ _ _ h => RV_bool.2 h⟩ gD) fun gE vE gG hs hr => ?_)
       have hfr := hfr.ext hs
       have z3 := z3.ext hs
       have z4 := z4.ext hs
       have i5 := i5.ext hs
       have u6_1_44 := u6_1_44.ext hs
       have u6_2_44 := u6_2_44.ext hs
       have o3 := o3.ext hs
       subst hr
       refine EL_at (.bool (jA)) rfl rfl ?_
       refine EL_nil ?_
       obtain rfl := sinj h
       exact hQ _ _ ⟨gE, hfr, n7, z3, o7, z4, e9, i5, i6, o3, u6_1_44, u6_2_44, rfl⟩
     ·clear hx
      obtain ⟨lA, hfr, oB, tB, vB, xB, yB, zB, a7, u7, u6_1_59, u6_2_59, g8⟩ := hR
      rcases csome h with ⟨r8, h⟩ | ⟨r8, h⟩
      ·refine E_cond_true (Eq.trans (show ev _ _ = .bool (q5) from g8) (congrArg Value.bool r8)) ?_
       refine E_seq (E_region (EL_do .plain rfl (D_loadO (g := lA) Try.isAgg129 Try.sizeOf129 a7 u7 fun iE jE => ?_)))
       refine EL_do .plain rfl (D_storeOc (g := lA) (v := iE) Try.sizeOf129 a7 u7 rfl jE fun hG iG hs b62 cb => ?_)
       clear cb
       have hfr := hfr.stp hs
       refine EL_at (.int .i64 (2)) rfl rfl ?_
       refine EL_nil (thn_n (E_ret (blk_r ?_)))
       refine thn_r ?_
       obtain rfl := sinj h
       obtain ⟨ad63, cv63, hp63, iD, cr63⟩ := ob_read Try.isAgg129 Try.sizeOf129 b62
       exact endm_ct rfl rfl ((show _ = p2 from a7).trans hp63) iD (show _ = .int .i64 (2) from rfl) ⟨_, hfr, _, _, rfl, cr63, rfl⟩
      ·refine E_cond_false (Eq.trans (show ev _ _ = .bool (q5) from g8) (congrArg Value.bool r8)) ?_
       exact E_skip (blk_n (thn_n (yC ((⟨0, [], []⟩ : SeamTailor)) _ _ ⟨lA, hfr, oB, tB, vB, xB, yB, zB, a7, u7, u6_1_59, u6_2_59⟩ h)))
 ·rintro y8 xE jG ⟨kE, hfr, i9, k9, aC, cC, dC, eC, iC, jC, u6_1_65, u6_2_65⟩ h
  refine E_joinC h (fun (s : SeamTailor) e w => ∃ (g : Gh) , Fr gI wI g w ∧ e 1 = up1 ∧ RV g.m w (x1 : List Int) up1 ∧ e 2 = up2 ∧ RV g.m w (x2 : List SeamCut) up2 ∧ e 3 = p1 ∧ PT g.m w (x0 : Int) p1 ∧ e 6 = p2 ∧ OB 2006 g w 129 (s : SeamTailor) p2 ∧ OSF 2006 60601 1 g w 3 129 ((s).bad) p2 ∧ OSF 2006 60602 2 g w 68 129 ((s).cuts) p2) (fun X301 bA kC h => ?_) ?_
  ·refine E_seq (E_region (EL_mv i9 rfl ?_))
   refine EL_p (.int .i64 ((x1).length : Int)) (P_len Try.underlying26 rfl k9) rfl ?_
   refine EL_mw (.int .i64 (0)) rfl rfl ?_
   refine EL_nil (thn_n (E_block ?_))
   refine E_lp h (fun (s : SeamTailor × Int) e w => ∃ (g : Gh) , Fr gI wI g w ∧ e 1 = up1 ∧ RV g.m w (x1 : List Int) up1 ∧ e 2 = up2 ∧ RV g.m w (x2 : List SeamCut) up2 ∧ e 3 = p1 ∧ PT g.m w (x0 : Int) p1 ∧ e 6 = p2 ∧ OB 2006 g w 129 (s.1 : SeamTailor) p2 ∧ OSF 2006 60601 1 g w 3 129 ((s.1).bad) p2 ∧ OSF 2006 60602 2 g w 68 129 ((s.1).cuts) p2 ∧ e 34 = .int .i64 (((x1).length : Int)) ∧ e 35 = .int .i64 (s.2)) ⟨kE, hfr, i9, k9, aC, cC, dC, eC, iC, jC, u6_1_65, u6_2_65, rfl, rfl⟩ (fun X302 gA lC => ?_)
   rintro ⟨z2, o0⟩ lE yE ⟨t8, hfr, t5, j1, e7, d3, g7, i3, i7, j3, u6_1_303, u6_2_303, y6, x5⟩ h
   refine E_seq (E_region (EL_in (.bool ((decide (o0 < ((x1).length : Int))))) x5 y6 rfl rfl ?_))
   refine EL_nil (thn_n (E_seq ?_))
   rcases csome h with ⟨v7, h⟩ | ⟨v7, h⟩
   ·refine E_ct v7 rfl ?_
    refine E_skip (thn_n (E_joinC h (fun (s : SeamTailor) e w => ∃ (g : Gh) , Fr gI wI g w ∧ e 1 = up1 ∧ RV g.m w (x1 : List Int) up1 ∧ e 2 = up2 ∧ RV g.m w (x2 : List SeamCut) up2 ∧ e 3 = p1 ∧ PT g.m w (x0 : Int) p1 ∧ e 6 = p2 ∧ OB 2006 g w 129 (s : SeamTailor) p2 ∧ OSF 2006 60601 1 g w 3 129 ((s).bad) p2 ∧ OSF 2006 60602 2 g w 68 129 ((s).cuts) p2 ∧ e 34 = .int .i64 (((x1).length : Int)) ∧ e 35 = .int .i64 (o0)) (fun X420 iA mC h => ?_) ?_))
    ·refine E_block ?_
     refine E_seq (E_region (EL_mv x5 rfl ?_))
     refine EL_at (.int .i64 (o0)) rfl rfl ?_
     refine EL_nil (thn_n ?_)
     obtain ⟨u3, hx, h⟩ := bsome h
     refine E_join (fun e w => ∃ (g : Gh) , Fr gI wI g w ∧ e 1 = up1 ∧ RV g.m w (x1 : List Int) up1 ∧ e 2 = up2 ∧ RV g.m w (x2 : List SeamCut) up2 ∧ e 3 = p1 ∧ PT g.m w (x0 : Int) p1 ∧ e 6 = p2 ∧ OB 2006 g w 129 (z2 : SeamTailor) p2 ∧ OSF 2006 60601 1 g w 3 129 ((z2).bad) p2 ∧ OSF 2006 60602 2 g w 68 129 ((z2).cuts) p2 ∧ e 34 = .int .i64 (((x1).length : Int)) ∧ e 35 = .int .i64 (o0) ∧ e 51 = .bool (u3)) (fun Q' hQ => ?_) (fun mE zE hR => ?_)
     ·replace h := hx
      clear hx
      rcases csome h with ⟨u0, h⟩ | ⟨u0, h⟩
      ·obtain ⟨c7, l9, h⟩ := bsome h
       have jD := PT_idx j1 l9
       refine L_load (x := .tmp 43) Try.isAgg3 Try.sizeOf3 jD fun cF kD qC => ?_
       obtain rfl := RV_int.1 kD
       obtain ⟨d7, n9, h⟩ := bsome h
       have lD := PT_idx j1 n9
       refine L_load (x := .tmp 48) Try.isAgg3 Try.sizeOf3 lD fun dF mD rC => ?_
       obtain rfl := RV_int.1 mD
       refine E_drawL (g := t8) (n := 14) [] [0, 1, 2, 3, 4, 5, 6, 7, 8, 9, 10, 11, 12, 13] rfl mixed (by kernel_rfl) trivial ?_
       refine L_p (.int .i64 (o0)) rfl rfl (P_move rfl) ?_
       refine L_p (.bool ((decide (o0 > (0 : Int))))) rfl rfl (P_int rfl rfl rfl) ?_
       refine L_p (.bool ((decide (o0 > (0 : Int))))) rfl rfl (P_move rfl) ?_
       refine L_y up1 rfl rfl rfl rfl u0 (P_move t5) ?_
       refine L_y (.int .i64 (o0)) rfl rfl rfl rfl u0 (P_move rfl) ?_
       refine L_y (ePtr up1 o0 1) rfl rfl rfl rfl u0 (P_indexAddr (α := Int) Try.underlying26 Try.sizeOf3 rfl j1 rfl l9) ?_
       refine L_ld (c := .int .i64 (c7)) rfl rfl (.yes2 rfl rfl u0) (fun _ _ h => h.ch) qC rfl ?_
       refine L_y up1 rfl rfl rfl rfl u0 (P_move t5) ?_
       refine L_y (.int .i64 (o0)) rfl rfl rfl rfl u0 (P_move rfl) ?_
       refine L_y (.int .i64 ((w64 (o0 - (1 : Int))))) rfl rfl rfl rfl u0 (P_int rfl rfl rfl) ?_
       refine L_y (ePtr up1 (w64 (o0 - (1 : Int))) 1) rfl rfl rfl rfl u0 (P_indexAddr (α := Int) Try.underlying26 Try.sizeOf3 rfl j1 rfl n9) ?_
       refine L_ld (c := .int .i64 (d7)) rfl rfl (.yes2 rfl rfl u0) (fun _ _ h => h.ch) rC rfl ?_
       refine L_y (.bool ((decide (c7 ≤ d7)))) rfl rfl rfl rfl u0 (P_int rfl rfl rfl) ?_
       refine L_p (.bool ((decide (c7 ≤ d7)))) rfl rfl (P_pick (b := (decide (o0 > (0 : Int)))) rfl (pick_t u0 rfl)) ?_
       refine L_nl fun nD eF hs => ?_
       have hfr := hfr.ext hs
       have j1 := j1.ext hs
       have d3 := d3.ext hs
       have i3 := i3.ext hs
       have u6_1_303 := u6_1_303.ext hs
       have u6_2_303 := u6_2_303.ext hs
       have j3 := j3.ext hs
       clear hs
       refine EL_nil ?_
       obtain rfl := sinj h
       exact hQ _ _ ⟨nD, hfr, t5, j1, e7, d3, g7, i3, i7, j3, u6_1_303, u6_2_303, y6, x5, rfl⟩
      ·refine E_drawL (g := t8) (n := 14) [] [0, 1, 2, 3, 4, 5, 6, 7, 8, 9, 10, 11, 12, 13] rfl mixed (by kernel_rfl) trivial ?_
       refine L_p (.int .i64 (o0)) rfl rfl (P_move rfl) ?_
       refine L_p (.bool ((decide (o0 > (0 : Int))))) rfl rfl (P_int rfl rfl rfl) ?_
       refine L_p (.bool ((decide (o0 > (0 : Int))))) rfl rfl (P_move rfl) ?_
       iterate 10 refine L_s rfl rfl rfl u0 rfl ?_
       refine L_p (.bool false) rfl rfl (P_pick (b := (decide (o0 > (0 : Int)))) rfl (pick_f u0 rfl)) ?_
       refine L_nl fun oD iF hs => ?_
       have hfr := hfr.ext hs
       have j1 := j1.ext hs
       have d3 := d3.ext hs
       have i3 := i3.ext hs
       have u6_1_303 := u6_1_303.ext hs
       have u6_2_303 := u6_2_303.ext hs
       have j3 := j3.ext hs
       clear hs
       refine EL_nil ?_
       obtain rfl := sinj h
       exact hQ _ _ ⟨oD, hfr, t5, j1, e7, d3, g7, i3, i7, j3, u6_1_303, u6_2_303, y6, x5, rfl⟩
     ·clear hx
      obtain ⟨v8, hfr, mA, nA, oA, pA, qA, rA, j6, j7, u6_1_531, u6_2_531, o9, t9, m7⟩ := hR
      rcases csome h with ⟨c8, h⟩ | ⟨c8, h⟩
      ·refine E_cond_true (Eq.trans (show ev _ _ = .bool (u3) from m7) (congrArg Value.bool c8)) ?_
       refine E_seq (E_region (EL_do .plain rfl (D_loadO (g := v8) Try.isAgg129 Try.sizeOf129 j6 j7 fun sD tD => ?_)))
       refine EL_do .plain rfl (D_storeOc (g := v8) (v := sD) Try.sizeOf129 j6 j7 rfl tD fun nF oF hs b534 cb => ?_)
       clear cb
       have hfr := hfr.stp hs
       refine EL_at (.int .i64 (6)) rfl rfl ?_
       refine EL_nil (thn_n (E_ret (blk_r ?_)))
       refine thn_r ?_
       refine thn_r ?_
       refine blk_r ?_
       refine thn_r ?_
       obtain rfl := sinj h
       obtain ⟨ad535, cv535, hp535, tC, cr535⟩ := ob_read Try.isAgg129 Try.sizeOf129 b534
       exact endm_ct rfl rfl ((show _ = p2 from j6).trans hp535) tC (show _ = .int .i64 (6) from rfl) ⟨_, hfr, _, _, rfl, cr535, rfl⟩
      ·refine E_cond_false (Eq.trans (show ev _ _ = .bool (u3) from m7) (congrArg Value.bool c8)) ?_
       exact E_skip (blk_n (thn_n (mC (z2) _ _ ⟨v8, hfr, mA, nA, oA, pA, qA, rA, j6, j7, u6_1_531, u6_2_531, o9, t9⟩ h)))
    ·rintro b7 nE pF ⟨uD, hfr, sA, uA, xA, yA, zA, aB, bB, cB, u6_1_536, u6_2_536, u9, y9⟩ h
     refine E_region (EL_in (.int .i64 ((w64 (o0 + (1 : Int))))) y9 rfl rfl rfl ?_)
     refine EL_mw (.int .i64 ((w64 (o0 + (1 : Int))))) rfl rfl ?_
     exact EL_nil (thn_n (lC (b7, (w64 (o0 + (1 : Int)))) _ _ ⟨uD, hfr, sA, uA, xA, yA, zA, aB, bB, cB, u6_1_536, u6_2_536, u9, rfl⟩ h))
   ·refine E_cf v7 rfl ?_
    refine E_exit ?_
    refine thn_e ?_
    refine thn_e ?_
    refine blk_hit ?_
    exact thn_n (kC (z2) _ _ ⟨t8, hfr, t5, j1, e7, d3, g7, i3, i7, j3, u6_1_303, u6_2_303⟩ h)
  ·rintro z9 oE qF ⟨x8, hfr, dB, i8, eB, k8, iB, jB, l8, kB, u6_1_537, u6_2_537⟩ h
   refine E_seq (E_region (EL_do .plain rfl (D_load (g := x8) Try.isAgg3 Try.sizeOf3 iB jB fun rF vD => ?_)))
   obtain rfl := RV_int.1 vD
   refine EL_mv dB rfl ?_
   refine EL_mv eB rfl ?_
   have lB : RV x8.m _ (⟨x0, x1, x2⟩ : SeamTailor) (.agg (setCh [[.int .i64 0], [.slice none 0 0], [.slice none 0 0]] [(0, .int .i64 (x0)), (1, up1), (2, up2)]).flatten.toArray) := RV_build rfl (rep_pair (rfl) (rep_pair (RV.cells i8) (rep_last (RV.cells k8))))
   generalize uC : (Value.agg (setCh [[.int .i64 0], [.slice none 0 0], [.slice none 0 0]] [(0, .int .i64 (x0)), (1, up1), (2, up2)]).flatten.toArray) = mB at lB
   refine EL_p mB (uC ▸ P_build (vs := [(0, .int .i64 (x0)), (1, up1), (2, up2)]) [[.int .i64 0], [.slice none 0 0], [.slice none 0 0]] lay_129 rfl rfl (.cons rfl (.cons rfl (.cons rfl .nil))) ⟨⟨_, rfl, rfl⟩, ⟨⟨_, rfl, cells_size i8⟩, ⟨⟨_, rfl, cells_size k8⟩, trivial⟩⟩⟩) rfl ?_
   refine EL_do .plain rfl (D_storeOc (g := x8) (v := mB) Try.sizeOf129 l8 kB rfl lB fun sF tF hs b540 cb => ?_)
   clear cb
   have hfr := hfr.stp hs
   refine EL_at (.int .i64 (0)) rfl rfl ?_
   refine EL_nil (thn_n (E_ret ?_))
   obtain rfl := sinj h
   obtain ⟨ad541, cv541, hp541, vC, cr541⟩ := ob_read Try.isAgg129 Try.sizeOf129 b540
   exact endm_ct rfl rfl ((show _ = p2 from l8).trans hp541) vC (show _ = .int .i64 (0) from rfl) ⟨_, hfr, _, _, rfl, cr541, rfl⟩
def f66 (x0 : Design) : Option (Int) :=
 jn (σ := Unit) (fun _ =>
  some ((0 : Int))
  ) fun o3 =>
 (f67 ((1 : Int)) ((24 : Int)) (([(x0).Hooks] : List Int))).bind fun i3 =>
 bif (!i3) then
  some ((2 : Int))
 else
  bif (decide ((((x0).Rows).length : Int) > (60 : Int))) then
   some ((5 : Int))
  else
   bif ((((x0).Rows).length : Int) == (0 : Int)) then
    some ((7 : Int))
   else
    (shl64 (1 : Int) (x0).Hooks).bind fun u0 =>
    (f67 ((0 : Int)) ((w64 (u0 - (1 : Int)))) ((x0).Rows)).bind fun y71 =>
    bif (!y71) then
     some ((2 : Int))
    else
     o3 ()
theorem en66 : Enters Try.prog 66 := enters_of Try.func66 (by kernel_rfl) rfl
theorem wk66 {gI : Gh} {wI : World} {x0 : Design} {up0 : Value} (rp0 : RV gI.m wI x0 up0) {r : Int} (h : f66 x0 = some r) : Fn Try.prog 66 #[up0] gI wI (fun _ _ v => v = .int .i64 (r)) := by
 unfold f66 at h
 refine fn_of_E Try.func66 rfl (Nat.le_of_ble_eq_true rfl) fun g0 hm hfr => ?_
 have rp0 : RV g0.m wI x0 up0 := hm ▸ rp0
 show E _ 28 none _ _ _ _ _
 refine E_seq (E_region (EL_do .plain rfl (D_box (g := g0) rfl rp0 fun g1 w1 p1 hs q1 => ?_)))
 have hfr := hfr.ext hs
 refine EL_at (.int .i64 (0)) rfl rfl ?_
 refine EL_nil (thn_n (E_joinC h (fun (s : Unit) e w => ∃ (g : Gh) , Fr gI wI g w) (fun X51 o3 z3 h => ?_) ?_))
 ·refine E_block ?_
  refine E_seq (E_region (EL_p (fPtr p1 0) (P_fieldAddr at_30_0 rfl (PT.ptr q1)) rfl ?_))
  have x5 := PT_field (part_Design_0).1 q1
  refine EL_do .plain rfl (D_load (g := g1) Try.isAgg3 Try.sizeOf3 rfl x5 fun v7 i6 => ?_)
  obtain rfl := RV_int.1 i6
  refine EL_do .plain rfl (D_buildSlice (g := g1) 3006 (xs := ([(x0).Hooks] : List Int)) (vs := [.int .i64 ((x0).Hooks)]) Try.underlying26 Try.sizeOf3 Try.zeroValue3 rfl rfl (.cons rfl .nil) (RVs.cons (RV_int.2 rfl) RVs.nil) rfl rfl fun j6 c8 v6 hs o54 x6 hxt hfl => ?_)
  have hfr := hfr.stp hs
  have q1 := q1.stp hs
  obtain ⟨i3, z4, h⟩ := bsome h
  refine EL_do .plain rfl (D_call (g := j6) (vs := [.int .i64 (1), .int .i64 (24), v6]) en67 (.cons rfl (.cons rfl (.cons rfl .nil))) (wk67 x6 z4) fun j3 n7 e8 hs hr => ?_)
  have hfr := hfr.ext hs
  have q1 := q1.ext hs
  subst hr
  refine EL_p (.bool (!i3)) (P_not rfl) rfl ?_
  refine EL_at (.bool (!i3)) rfl rfl ?_
  refine EL_nil (thn_n ?_)
  rcases csome h with ⟨j1, h⟩ | ⟨j1, h⟩
  ·refine E_ct j1 rfl ?_
   refine E_seq (E_region (EL_at (.int .i64 (2)) rfl rfl ?_))
   refine EL_nil (thn_n (E_ret (blk_r ?_)))
   refine thn_r ?_
   obtain rfl := sinj h
   exact end1 rfl rfl (show _ = .int .i64 (2) from rfl) ⟨_, hfr, rfl⟩
  ·refine E_cf j1 rfl ?_
   refine E_seq (E_region (EL_p (fPtr p1 1) (P_fieldAddr at_30_1 rfl (PT.ptr q1)) rfl ?_))
   have y6 := PT_field (part_Design_1).1 q1
   refine EL_do .plain rfl (D_load (g := j3) Try.isAgg26 Try.sizeOf26 rfl y6 fun g8 a7 => ?_)
   refine EL_p (.int .i64 (((x0).Rows).length : Int)) (P_len Try.underlying26 rfl a7) rfl ?_
   refine EL_p (.bool ((decide ((((x0).Rows).length : Int) > (60 : Int))))) (P_int rfl rfl rfl) rfl ?_
   refine EL_p (.bool ((decide ((((x0).Rows).length : Int) > (60 : Int))))) (P_assign rfl) rfl ?_
   refine EL_nil (thn_n ?_)
   rcases csome h with ⟨z2, h⟩ | ⟨z2, h⟩
   ·refine E_ct z2 rfl ?_
    refine E_seq (E_region (EL_at (.int .i64 (5)) rfl rfl ?_))
    refine EL_nil (thn_n (E_ret (blk_r ?_)))
    refine thn_r ?_
    obtain rfl := sinj h
    exact end1 rfl rfl (show _ = .int .i64 (5) from rfl) ⟨_, hfr, rfl⟩
   ·refine E_cf z2 rfl ?_
    refine E_seq (E_region (EL_p (fPtr p1 1) (P_fieldAddr at_30_1 rfl (PT.ptr q1)) rfl ?_))
    have b7 := PT_field (part_Design_1).1 q1
    refine EL_do .plain rfl (D_load (g := j3) Try.isAgg26 Try.sizeOf26 rfl b7 fun v62 c7 => ?_)
    refine EL_p (.int .i64 (((x0).Rows).length : Int)) (P_len Try.underlying26 rfl c7) rfl ?_
    refine EL_in (.bool (((((x0).Rows).length : Int) == (0 : Int)))) rfl rfl rfl rfl ?_
    refine EL_at (.bool (((((x0).Rows).length : Int) == (0 : Int)))) rfl rfl ?_
    refine EL_nil (thn_n ?_)
    rcases csome h with ⟨d3, h⟩ | ⟨d3, h⟩
    ·refine E_ct d3 rfl ?_
     refine E_seq (E_region (EL_at (.int .i64 (7)) rfl rfl ?_))
     refine EL_nil (thn_n (E_ret (blk_r ?_)))
     refine thn_r ?_
     obtain rfl := sinj h
     exact end1 rfl rfl (show _ = .int .i64 (7) from rfl) ⟨_, hfr, rfl⟩
    ·refine E_cf d3 rfl ?_
     refine E_seq ?_
     have d7 := PT_field (part_Design_0).1 q1
     refine L_load (x := .tmp 20) Try.isAgg3 Try.sizeOf3 d7 fun i8 e7 i5 => ?_
     obtain rfl := RV_int.1 e7
     obtain ⟨u0, l5, h⟩ := bsome h
     have g7 := PT_field (part_Design_1).1 q1
     refine L_load (x := .tmp 24) Try.isAgg26 Try.sizeOf26 g7 fun u3 i7 q5 => ?_
     obtain ⟨y71, t5, h⟩ := bsome h
     refine E_drawL (g := j3) (n := 9) [(6, (fun v g w => v = .bool (y71)))] [0, 1, 2, 3, 4, 5, 6, 7, 8] rfl mixed (by kernel_rfl) (⟨fun _ => up_eq _, trivial⟩) ?_
     refine L_p (fPtr p1 0) rfl rfl (P_fieldAddr at_30_0 rfl (PT.ptr q1)) ?_
     refine L_ld (c := .int .i64 ((x0).Hooks)) rfl rfl .plain (fun _ _ h => h.ch) i5 rfl ?_
     refine L_p (.int .i64 (u0)) rfl rfl (P_int rfl rfl (congrArg (Option.map (Value.int .i64)) l5)) ?_
     refine L_p (.int .i64 ((w64 (u0 - (1 : Int))))) rfl rfl (P_int rfl rfl rfl) ?_
     refine L_p (fPtr p1 1) rfl rfl (P_fieldAddr at_30_1 rfl (PT.ptr q1)) ?_
     refine L_ld (c := u3) rfl rfl .plain (fun _ _ h => h.ch) q5 rfl ?_
     refine L_do (φ := fun v g w => v = .bool (y71)) rfl rfl .plain (fun g w hd => D_call (g := g) (vs := [.int .i64 (0), .int .i64 ((w64 (u0 - (1 : Int)))), u3]) en67 (.cons rfl (.cons rfl (.cons rfl .nil))) (wk67 (i7.ext hd.1) t5) fun g' w' v hs hr => ⟨g', hs, hr⟩) (fun k8 hv => ?_)
     obtain ⟨_, _, _, rfl⟩ := hv
     refine L_p (.bool (!y71)) rfl rfl (P_not rfl) ?_
     refine L_p (.bool (!y71)) rfl rfl (P_assign rfl) ?_
     refine L_nl fun j7 l8 hs => ?_
     have hfr := hfr.ext hs
     clear hs
     refine EL_nil (thn_n ?_)
     rcases csome h with ⟨o0, h⟩ | ⟨o0, h⟩
     ·refine E_ct o0 rfl ?_
      refine E_seq (E_region (EL_at (.int .i64 (2)) rfl rfl ?_))
      refine EL_nil (thn_n (E_ret (blk_r ?_)))
      refine thn_r ?_
      obtain rfl := sinj h
      exact end1 rfl rfl (show _ = .int .i64 (2) from rfl) ⟨_, hfr, rfl⟩
     ·refine E_cf o0 rfl ?_
      exact E_skip (blk_n (thn_n (z3 () _ _ ⟨j7, hfr⟩ h)))
 ·rintro _ m7 o7 ⟨u7, hfr⟩ h
  refine E_seq (E_region (EL_at (.int .i64 (0)) rfl rfl ?_))
  refine EL_nil (thn_n (E_ret ?_))
  obtain rfl := sinj h
  exact end1 rfl rfl (show _ = .int .i64 (0) from rfl) ⟨_, hfr, rfl⟩
def f113 (x0 : SeamPair) (x1 : Int) (x2 : Int) : Option ((List Span) × Bool) :=
 (cut ((x0).more) x1 x2).bind fun y5 =>
 (f155 y5).bind fun y8 =>
 (idx y8 (w64 (((y8).length : Int) - (1 : Int)))).bind fun y9 =>
 Option.bind (α := (List Span)) (
  lp (σ := (List Span) × Int) (fun m7 (d3, u0) =>
   bif (decide (u0 < ((y8).length : Int))) then
    Option.bind (α := (List Span)) (
     (idx d3 u0).bind fun z2 =>
     (f154 ((⟨0, 0⟩ : Span)) ((⟨(w64 ((y9).Low - (z2).Low)), (w64 ((y9).High - (z2).High))⟩ : Span))).bind fun u3 =>
     (f156 z2 u3).bind fun z3 =>
     (idx d3 u0).bind fun t9 =>
     some ((List.set d3 (Int.toNat u0) z3))
     ) fun j3 =>
    m7 (j3, (w64 (u0 + (1 : Int))))
   else
    some (d3)
   ) big (y8, (0 : Int))
  ) fun l5 =>
 (f157 y9 ((0 : Int))).bind fun j6 =>
 some (l5, j6)
theorem en113 : Enters Try.prog 113 := enters_of Try.func113 (by kernel_rfl) rfl
theorem wk113 {gI : Gh} {wI : World} {x0 : SeamPair} {x1 : Int} {x2 : Int} {up0 : Value} (rp0 : RV gI.m wI x0 up0) {r : (List Span) × Bool} (h : f113 x0 x1 x2 = some r) : Fn Try.prog 113 #[up0, .int .i64 (x1), .int .i64 (x2)] gI wI (fun m w v => ∃ y0 y1, v = .tuple #[y0, y1] ∧ RV m w (r.1) y0 ∧ y1 = .bool (r.2)) := by
 unfold f113 at h
 refine fn_of_E Try.func113 rfl (Nat.le_of_ble_eq_true rfl) fun g0 hm hfr => ?_
 have rp0 : RV g0.m wI x0 up0 := hm ▸ rp0
 show E _ 54 none _ _ _ _ _
 refine E_seq (E_region (EL_do .plain rfl (D_box (g := g0) rfl rp0 fun g1 w1 p1 hs q1 => ?_)))
 have hfr := hfr.ext hs
 refine EL_at (.slice none 0 0) rfl rfl ?_
 have b2 : OA 4006 g1 w1 137 ([] : List Span) (.slice none 0 0) := OA.nil
 refine EL_at (.bool false) rfl rfl ?_
 refine EL_nil (thn_n (E_seq (E_region (EL_p (fPtr p1 2) (P_fieldAddr at_209_2 rfl (PT.ptr q1)) rfl ?_))))
 have q3 := PT_field (part_SeamPair_2).1 q1
 refine EL_do .plain rfl (D_load (g := g1) Try.isAgg207 Try.sizeOf207 rfl q3 fun v4 r4 => ?_)
 refine EL_mw (.int .i64 (x1)) rfl rfl ?_
 refine EL_mw (.int .i64 (x2)) rfl rfl ?_
 obtain ⟨y5, hy5, h⟩ := bsome h
 have r6 := RV_cut r4 hy5
 refine EL_p ((cutV v4 (Int.toNat x1) (Int.toNat x2) 2)) (P_slice Try.underlying207 Try.sizeOf137 rfl r4 rfl rfl hy5) rfl ?_
 obtain ⟨y8, zA, h⟩ := bsome h
 refine EL_do .plain rfl (D_callG (g := g1) (vs := [(cutV v4 (Int.toNat x1) (Int.toNat x2) 2)]) en155 (.cons rfl .nil) (v155_0 (iO := 9017) r6 zA) fun g7 w7_ v7 hs hr => ?_)
 have hfr := hfr.ext hs
 have hm7 := hr
 refine EL_at v7 rfl rfl ?_
 refine EL_nil (thn_n (E_seq (E_region (EL_mw v7 rfl rfl ?_))))
 refine EL_mw v7 rfl rfl ?_
 refine EL_p (.int .i64 ((y8).length : Int)) (P_lenM Try.underlying207 rfl hm7) rfl ?_
 refine EL_in (.int .i64 ((w64 (((y8).length : Int) - (1 : Int))))) rfl rfl rfl rfl ?_
 obtain ⟨y9, o9, h⟩ := bsome h
 refine EL_p (ePtr v7 (w64 (((y8).length : Int) - (1 : Int))) 2) (P_indexAddrM (α := Span) Try.underlying207 Try.sizeOf137 rfl hm7 rfl o9) rfl ?_
 refine EL_do .plain rfl (D_loadM (g := g7) Try.isAgg137 Try.sizeOf137 rfl hm7 o9 fun aB n7 => ?_)
 refine EL_do .plain rfl (D_allocOc (g := g7) 2008 (⟨0, 0⟩ : Span) Try.zeroValue137 (fun m w => ⟨_, (rep_two rep_int rep_int), rfl⟩) fun bB jC i5 hs b11 cb => ?_)
 have hfr := hfr.stp hs
 have hm7 := hm7.stp hs rfl
 have n7 := n7.stp hs
 clear cb
 refine EL_do .plain rfl (D_storeOc (g := bB) (v := aB) Try.sizeOf137 rfl b11 rfl n7 fun cB kC hs b12 cb => ?_)
 clear cb
 have hfr := hfr.stp hs
 have hm7 := hm7.stp hs rfl
 refine EL_nil (thn_n ?_)
 obtain ⟨l5, hx, h⟩ := bsome h
 refine E_join (fun e w => ∃ (g : Gh) , Fr gI wI g w ∧ e 6 = v7 ∧ OM 9017 g w 137 (l5 : List Span) v7 ∧ e 8 = i5 ∧ OB 2008 g w 137 (y9 : Span) i5) (fun Q' hQ => ?_) (fun dB kB hR => ?_)
 ·replace h := hx
  clear hx
  refine E_seq (E_region (EL_mw v7 rfl rfl ?_))
  refine EL_p (.int .i64 ((y8).length : Int)) (P_lenM Try.underlying207 rfl hm7) rfl ?_
  refine EL_mw (.int .i64 (0)) rfl rfl ?_
  refine EL_nil (thn_n (E_block ?_))
  refine E_lp h (fun (s : (List Span) × Int) e w => ∃ (g : Gh) , Fr gI wI g w ∧ e 6 = v7 ∧ OM 9017 g w 137 (s.1 : List Span) v7 ∧ e 8 = i5 ∧ OB 2008 g w 137 (y9 : Span) i5 ∧ e 24 = v7 ∧ e 25 = .int .i64 (((y8).length : Int)) ∧ e 26 = .int .i64 (s.2)) ⟨cB, hfr, rfl, hm7, rfl, b12, rfl, rfl, rfl⟩ (fun X130 m7 x8 => ?_)
  rintro ⟨d3, u0⟩ eB lB ⟨y6, hfr, q5, j1, o3, o0, x5, i6, i3⟩ h
  refine E_seq (E_region (EL_in (.bool ((decide (u0 < ((y8).length : Int))))) i3 i6 rfl rfl ?_))
  refine EL_nil (thn_n (E_seq ?_))
  rcases csome h with ⟨v6, h⟩ | ⟨v6, h⟩
  ·refine E_ct v6 rfl ?_
   refine E_skip (thn_n ?_)
   obtain ⟨j3, hx, h⟩ := bsome h
   refine E_join (fun e w => ∃ (g : Gh) , Fr gI wI g w ∧ e 6 = v7 ∧ OM 9017 g w 137 (j3 : List Span) v7 ∧ e 8 = i5 ∧ OB 2008 g w 137 (y9 : Span) i5 ∧ e 24 = v7 ∧ e 25 = .int .i64 (((y8).length : Int)) ∧ e 26 = .int .i64 (u0)) (fun Q' hQ => ?_) (fun iB mB hR => ?_)
   ·replace h := hx
    clear hx
    refine E_block ?_
    refine E_seq (E_region (EL_mv i3 rfl ?_))
    obtain ⟨z2, c7, h⟩ := bsome h
    refine EL_p (ePtr v7 u0 2) (P_indexAddrM (α := Span) Try.underlying207 Try.sizeOf137 x5 j1 i3 c7) rfl ?_
    refine EL_do .plain rfl (D_loadM (g := y6) Try.isAgg137 Try.sizeOf137 rfl j1 c7 fun u9 a7 => ?_)
    refine EL_do .plain rfl (D_allocOc (g := y6) 2010 (⟨0, 0⟩ : Span) Try.zeroValue137 (fun m w => ⟨_, (rep_two rep_int rep_int), rfl⟩) fun z9 nB o7 hs b191 cb => ?_)
    have hfr := hfr.stp hs
    have j1 := j1.stp hs rfl
    have o0 := o0.stp hs rfl
    have a7 := a7.stp hs
    clear cb
    refine EL_at (.int .i64 (u0)) rfl rfl ?_
    refine EL_do .plain rfl (D_storeOc (g := z9) (v := u9) Try.sizeOf137 rfl b191 rfl a7 fun z4 bA hs b192 cb => ?_)
    clear cb
    have hfr := hfr.stp hs
    have j1 := j1.stp hs rfl
    have o0 := o0.stp hs rfl
    refine EL_nil (thn_n (E_seq (E_region (EL_p (fPtr i5 0) (P_fieldAddr at_137_0 o3 (OB.ptr o0)) rfl ?_))))
    refine EL_do .plain rfl (D_loadF (g := z4) part_Span_0.1 Try.isAgg3 Try.sizeOf3 rfl o0 fun oB gA => ?_)
    obtain rfl := RV_int.1 gA
    refine EL_p (fPtr o7 0) (P_fieldAddr at_137_0 rfl (OB.ptr b192)) rfl ?_
    refine EL_do .plain rfl (D_loadF (g := z4) part_Span_0.1 Try.isAgg3 Try.sizeOf3 rfl b192 fun tB iA => ?_)
    obtain rfl := RV_int.1 iA
    refine EL_in (.int .i64 ((w64 ((y9).Low - (z2).Low)))) rfl rfl rfl rfl ?_
    refine EL_p (fPtr i5 1) (P_fieldAddr at_137_1 o3 (OB.ptr o0)) rfl ?_
    refine EL_do .plain rfl (D_loadF (g := z4) part_Span_1.1 Try.isAgg3 Try.sizeOf3 rfl o0 fun vB jA => ?_)
    obtain rfl := RV_int.1 jA
    refine EL_p (fPtr o7 1) (P_fieldAddr at_137_1 rfl (OB.ptr b192)) rfl ?_
    refine EL_do .plain rfl (D_loadF (g := z4) part_Span_1.1 Try.isAgg3 Try.sizeOf3 rfl b192 fun xB kA => ?_)
    obtain rfl := RV_int.1 kA
    refine EL_in (.int .i64 ((w64 ((y9).High - (z2).High)))) rfl rfl rfl rfl ?_
    have x6 : RV z4.m bA (⟨(w64 ((y9).Low - (z2).Low)), (w64 ((y9).High - (z2).High))⟩ : Span) (.agg (setCh [[.int .i64 0], [.int .i64 0]] [(0, .int .i64 ((w64 ((y9).Low - (z2).Low)))), (1, .int .i64 ((w64 ((y9).High - (z2).High))))]).flatten.toArray) := RV_build rfl (rep_pair (rfl) (rep_last (rfl)))
    generalize a9 : (Value.agg (setCh [[.int .i64 0], [.int .i64 0]] [(0, .int .i64 ((w64 ((y9).Low - (z2).Low)))), (1, .int .i64 ((w64 ((y9).High - (z2).High))))]).flatten.toArray) = u7 at x6
    refine EL_p u7 (a9 ▸ P_build (vs := [(0, .int .i64 ((w64 ((y9).Low - (z2).Low)))), (1, .int .i64 ((w64 ((y9).High - (z2).High))))]) [[.int .i64 0], [.int .i64 0]] lay_137 rfl rfl (.cons rfl (.cons rfl .nil)) ⟨⟨_, rfl, rfl⟩, ⟨⟨_, rfl, rfl⟩, trivial⟩⟩) rfl ?_
    refine EL_do .plain rfl (D_allocOc (g := z4) 2011 (⟨0, 0⟩ : Span) Try.zeroValue137 (fun m w => ⟨_, (rep_two rep_int rep_int), rfl⟩) fun lA yB zB hs b202 cb => ?_)
    have hfr := hfr.stp hs
    have j1 := j1.stp hs rfl
    have o0 := o0.stp hs rfl
    have b192 := b192.stp hs rfl
    have x6 := x6.stp hs
    clear cb
    refine EL_do .plain rfl (D_storeOc (g := lA) (v := u7) Try.sizeOf137 rfl b202 rfl x6 fun c8 mA hs b203 cb => ?_)
    clear cb
    have hfr := hfr.stp hs
    have j1 := j1.stp hs rfl
    have o0 := o0.stp hs rfl
    have b192 := b192.stp hs rfl
    refine EL_nil (thn_n (L_loadO0 (x := .tmp 10) Try.isAgg137 Try.sizeOf137 b192 fun e8 nA d9 => ?_))
    have g8 : RV c8.m mA (⟨0, 0⟩ : Span) (.agg (setCh [[.int .i64 0], [.int .i64 0]] []).flatten.toArray) := RV_build rfl (rep_pair (rep_int) (rep_last (rep_int)))
    generalize e9 : (Value.agg (setCh [[.int .i64 0], [.int .i64 0]] []).flatten.toArray) = i8 at g8
    refine L_loadO0 (x := .tmp 11) Try.isAgg137 Try.sizeOf137 b203 fun k8 oA i9 => ?_
    obtain ⟨u3, k9, h⟩ := bsome h
    obtain ⟨z3, l9, h⟩ := bsome h
    obtain ⟨t9, d7, h⟩ := bsome h
    refine E_drawL (g := c8) (n := 8) [(5, (fun v g w => RV g.m w u3 v)), (6, (fun v g w => RV g.m w z3 v))] [0, 1, 2, 3, 4, 5, 6, 7] rfl mixed (by kernel_rfl) (⟨fun _ => up_rv, fun _ => up_rv, trivial⟩) ?_
    refine L_p v7 rfl rfl (P_move q5) ?_
    refine L_p (.int .i64 (u0)) rfl rfl (P_move rfl) ?_
    refine L_ld (c := e8) rfl rfl .plain (fun _ _ h => ⟨h.ch, fun b hb _ => h.below.block b hb⟩) d9 rfl ?_
    refine L_p i8 rfl rfl (e9 ▸ P_build (vs := []) [[.int .i64 0], [.int .i64 0]] lay_137 rfl rfl .nil trivial) ?_
    refine L_ld (c := k8) rfl rfl .plain (fun _ _ h => ⟨h.ch, fun b hb _ => h.below.block b hb⟩) i9 rfl ?_
    refine L_do (φ := fun v g w => RV g.m w u3 v) rfl rfl .plain (fun g w hd => D_call (g := g) (vs := [i8, k8]) en154 (.cons rfl (.cons rfl .nil)) (wk154 (g8.ext hd.1) (oA.ext hd.1) k9) fun g' w' v hs hr => ⟨g', hs, hr⟩) (fun b7 hv => ?_)
    obtain ⟨_, _, _, rq207⟩ := hv
    refine L_do (φ := fun v g w => RV g.m w z3 v) rfl rfl .plain (fun g w hd => D_call (g := g) (vs := [e8, b7]) en156 (.cons rfl (.cons rfl .nil)) (wk156 (nA.ext hd.1) (word (A := fun g w => RV g.m w u3 b7) 5 rfl rfl (deps_of hd)) l9) fun g' w' v hs hr => ⟨g', hs, hr⟩) (fun pA hv => ?_)
    obtain ⟨_, _, _, rq209⟩ := hv
    refine L_p (ePtr v7 u0 2) rfl rfl (P_indexAddrM (α := Span) Try.underlying207 Try.sizeOf137 rfl j1 rfl d7) ?_
    refine L_nil fun qA aC hall => ?_
    have hs := hall.1
    have hfr := hfr.ext hs
    have j1 := j1.ext hs
    have o0 := o0.ext hs
    have cC := (word_all (A := fun g w => RV g.m w u3 b7) 5 rfl hall)
    have rA := (word_all (A := fun g w => RV g.m w z3 pA) 6 rfl hall)
    clear hs hall
    refine EL_do .plain rfl (D_storeM (g := qA) (α := Span) (a' := z3) Try.sizeOf137 rfl j1 d7 rfl rA fun sA dC hs b244 => ?_)
    have hfr := hfr.stp hs
    have o0 := o0.stp hs rfl
    refine EL_nil (blk_n ?_)
    obtain rfl := sinj h
    exact hQ _ _ ⟨sA, hfr, q5, b244, o3, o0, x5, i6, i3⟩
   ·clear hx
    obtain ⟨uA, hfr, l8, m8, n8, o8, e7, i7, j7⟩ := hR
    refine E_region (EL_in (.int .i64 ((w64 (u0 + (1 : Int))))) j7 rfl rfl rfl ?_)
    refine EL_mw (.int .i64 ((w64 (u0 + (1 : Int))))) rfl rfl ?_
    exact EL_nil (thn_n (x8 (j3, (w64 (u0 + (1 : Int)))) _ _ ⟨uA, hfr, l8, m8, n8, o8, e7, i7, rfl⟩ h))
  ·refine E_cf v6 rfl ?_
   refine E_exit ?_
   refine thn_e ?_
   refine thn_e ?_
   refine blk_hit ?_
   obtain rfl := sinj h
   exact hQ _ _ ⟨y6, hfr, q5, j1, o3, o0⟩
 ·clear hx
  obtain ⟨q8, hfr, r8, t5, t8, v8⟩ := hR
  refine E_seq (E_region (EL_mv r8 rfl ?_))
  refine EL_do .plain rfl (D_loadO (g := q8) Try.isAgg137 Try.sizeOf137 t8 v8 fun xA yA => ?_)
  obtain ⟨j6, n9, h⟩ := bsome h
  refine EL_do .plain rfl (D_call (g := q8) (vs := [xA, .int .i64 (0)]) en157 (.cons rfl (.cons rfl .nil)) (wk157 yA n9) fun eC jB iC hs hr => ?_)
  have hfr := hfr.ext hs
  have t5 := t5.ext hs
  subst hr
  refine EL_at v7 rfl rfl ?_
  refine EL_at (.bool (j6)) rfl rfl ?_
  refine EL_nil (thn_n (E_ret ?_))
  obtain ⟨gp250, hs, rp250⟩ := OM.pub t5
  have hfr := hfr.stp hs
  obtain rfl := sinj h
  exact end2 rfl rfl (show _ = v7 from rfl) (show _ = .bool (j6) from rfl) ⟨_, hfr, _, _, rfl, rp250, rfl⟩
def f136 (x0 : FaultDamage) (z0 : FaultLoom) : Option (Bool) :=
 (f137 ((⟨z0⟩ : FaultFaultLoom)) x0).bind fun y6 =>
 some ((!y6))
theorem en136 : Enters Try.prog 136 := enters_of Try.func136 (by kernel_rfl) rfl
theorem wk136 {gI : Gh} {wI : World} {x0 : FaultDamage} {z0 : FaultLoom} {up0 : Value} (rp0 : RV gI.m wI x0 up0) {pf0 : Value} (qf0 : PT gI.m wI z0 pf0) {r : Bool} (h : f136 x0 z0 = some r) : Fn Try.prog 136 #[up0, pf0] gI wI (fun _ _ v => v = .bool (r)) := by
 unfold f136 at h
 refine fn_of_E Try.func136 rfl (Nat.le_of_ble_eq_true rfl) fun g0 hm hfr => ?_
 have qf0 : PT g0.m wI z0 pf0 := hm ▸ qf0
 have rp0 : RV g0.m wI x0 up0 := hm ▸ rp0
 show E _ 9 none _ _ _ _ _
 refine E_seq (E_region (EL_do .plain rfl (D_box (g := g0) rfl rp0 fun g1 w1 p1 hs q1 => ?_)))
 have hfr := hfr.ext hs
 have qf0 := qf0.ext hs
 refine EL_at (.bool false) rfl rfl ?_
 refine EL_nil (thn_n (E_seq (E_region (EL_do .plain rfl (D_load (g := g1) Try.isAgg32 Try.sizeOf32 rfl qf0 fun v2 r2 => ?_)))))
 have r3 : RV g1.m _ (⟨z0⟩ : FaultFaultLoom) (.agg (setCh [[.int .i64 0, .slice none 0 0, .int .i64 0, .slice none 0 0]] [(0, v2)]).flatten.toArray) := RV_build rfl (rep_last (RV.cells r2))
 generalize hv3 : (Value.agg (setCh [[.int .i64 0, .slice none 0 0, .int .i64 0, .slice none 0 0]] [(0, v2)]).flatten.toArray) = v3 at r3
 refine EL_p v3 (hv3 ▸ P_build (vs := [(0, v2)]) [[.int .i64 0, .slice none 0 0, .int .i64 0, .slice none 0 0]] lay_104 rfl rfl (.cons rfl .nil) ⟨⟨_, rfl, cells_size r2⟩, trivial⟩) rfl ?_
 refine EL_do .plain rfl (D_load (g := g1) Try.isAgg37 Try.sizeOf37 rfl q1 fun v4 r4 => ?_)
 obtain ⟨y6, o0, h⟩ := bsome h
 refine EL_do .plain rfl (D_call (g := g1) (vs := [v3, v4]) en137 (.cons rfl (.cons rfl .nil)) (wk137 r3 r4 o0) fun g5 w5_ v5 hs hr => ?_)
 have hfr := hfr.ext hs
 subst hr
 refine EL_p (.bool (!y6)) (P_not rfl) rfl ?_
 refine EL_at (.bool (!y6)) rfl rfl ?_
 refine EL_nil (thn_n (E_ret ?_))
 obtain rfl := sinj h
 exact end1 rfl rfl (show _ = .bool (!y6) from rfl) ⟨_, hfr, rfl⟩
def f139 (x0 : List FaultDamage) (x1 : Int) (x2 : FaultDamage → FaultDamage → Option Int) : Option ((List FaultDamage)) :=
 Option.bind (α := (List FaultDamage) × Int) (
  lp (σ := (List FaultDamage) × Int × Int) (fun k9 (j3, i3, u0) =>
   jn (σ := Unit) (fun _ =>
    (f177 j3 i3 u0 x2).bind fun l9 =>
    k9 (l9, u0, (w64 (u0 + (20 : Int))))
    ) fun yA =>
   bif (decide (u0 ≤ x1)) then
    yA ()
   else
    some (j3, i3)
   ) big (x0, (0 : Int), (20 : Int))
  ) fun (q5, o3) =>
 (f177 q5 o3 x1 x2).bind fun zA =>
 lp (σ := (List FaultDamage) × Int) (fun aB (u3, o0) =>
  jn (σ := Unit) (fun _ =>
   Option.bind (α := (List FaultDamage) × Int) (
    lp (σ := (List FaultDamage) × Int × Int) (fun bB (z3, d3, j1) =>
     jn (σ := Unit) (fun _ =>
      (f178 big z3 d3 ((w64 (d3 + o0))) j1 x2).bind fun n9 =>
      bB (n9, j1, (w64 (j1 + (w64 ((2 : Int) * o0)))))
      ) fun cB =>
     bif (decide (j1 ≤ x1)) then
      cB ()
     else
      some (z3, d3)
     ) big (u3, (0 : Int), (w64 ((2 : Int) * o0)))
    ) fun (z4, z2) =>
   Option.bind (α := (List FaultDamage)) (
    bif (decide ((w64 (z2 + o0)) < x1)) then
     (f178 big z4 z2 ((w64 (z2 + o0))) x1 x2).bind fun dB =>
     some (dB)
    else
     some (z4)
    ) fun i5 =>
   aB (i5, (w64 (o0 * (2 : Int))))
   ) fun eB =>
  bif (decide (o0 < x1)) then
   eB ()
  else
   some (u3)
  ) big (zA, (20 : Int))
theorem en139 : Enters Try.prog 139 := enters_of Try.func139 (by kernel_rfl) rfl
theorem wk139 {iI : Nat} {gI : Gh} {wI : World} {x0 : List FaultDamage} {x1 : Int} {x2 : FaultDamage → FaultDamage → Option Int} {up0 : Value} (mp0 : OM iI gI wI 37 x0 up0) {up2 : Value} (rp2 : FnV2 Try.prog x2 up2 gI wI) {r : (List FaultDamage)} (h : f139 x0 x1 x2 = some r) : FnM Try.prog 139 #[up0, .int .i64 (x1), up2] iI gI wI (fun g w v => v = .tuple #[] ∧ OM iI g w 37 r up0) := by
 unfold f139 at h
 refine fnM_of_E Try.func139 rfl (Nat.le_of_ble_eq_true rfl) fun g0 hm hfr => ?_
 have o9 := mp0
 replace mp0 := mp0.enter
 rw [← hm] at mp0
 replace hm : g0.m = gI.m := by rw [hm]
 obtain ⟨ff2, fa2, fc2, rfl, fen2, fcl2⟩ := rp2
 show E _ 63 none _ _ _ _ _
 refine E_seq (E_region (EL_at (.int .i64 (20)) rfl rfl ?_))
 refine EL_nil (thn_n (E_seq (E_region (EL_mw (.int .i64 (20)) rfl rfl ?_))))
 refine EL_at (.int .i64 (0)) rfl rfl ?_
 refine EL_at (.int .i64 (20)) rfl rfl ?_
 refine EL_nil (thn_n ?_)
 obtain ⟨⟨q5, o3⟩, hx, h⟩ := bsome h
 refine E_join (fun e w => ∃ (g : Gh) , FrM iI gI wI g w ∧ e 0 = up0 ∧ OM 1 g w 37 (q5 : List FaultDamage) up0 ∧ e 1 = .int .i64 (x1) ∧ e 2 = (.func (.func ff2) fa2 fc2) ∧ e 6 = .int .i64 ((20 : Int)) ∧ e 7 = .int .i64 (o3)) (fun Q' hQ => ?_) (fun tC lD hR => ?_)
 ·replace h := hx
  clear hx
  refine E_block ?_
  refine E_lp h (fun (s : (List FaultDamage) × Int × Int) e w => ∃ (g : Gh) , FrM iI gI wI g w ∧ e 0 = up0 ∧ OM 1 g w 37 (s.1 : List FaultDamage) up0 ∧ e 1 = .int .i64 (x1) ∧ e 2 = (.func (.func ff2) fa2 fc2) ∧ e 6 = .int .i64 ((20 : Int)) ∧ e 7 = .int .i64 (s.2.1) ∧ e 8 = .int .i64 (s.2.2)) ⟨g0, hfr, rfl, mp0, rfl, rfl, rfl, rfl, rfl⟩ (fun X9 k9 aC => ?_)
  rintro ⟨j3, i3, u0⟩ uC mD ⟨iB, hfr, g7, i7, t5, j7, m7, n7, o7⟩ h
  refine E_joinC h (fun (s : Unit) e w => ∃ (g : Gh) , FrM iI gI wI g w ∧ e 0 = up0 ∧ OM 1 g w 37 (j3 : List FaultDamage) up0 ∧ e 1 = .int .i64 (x1) ∧ e 2 = (.func (.func ff2) fa2 fc2) ∧ e 6 = .int .i64 ((20 : Int)) ∧ e 7 = .int .i64 (i3) ∧ e 8 = .int .i64 (u0)) (fun X12 yA lB h => ?_) ?_
  ·refine E_seq (E_region (EL_mv o7 rfl ?_))
   refine EL_mv t5 rfl ?_
   refine EL_in (.bool ((decide (u0 ≤ x1)))) rfl rfl rfl rfl ?_
   refine EL_nil (thn_n ?_)
   rcases csome h with ⟨b7, h⟩ | ⟨b7, h⟩
   ·refine E_ct b7 rfl ?_
    exact E_skip (thn_n (lB () _ _ ⟨iB, hfr, g7, i7, t5, j7, m7, n7, o7⟩ h))
   ·refine E_cf b7 rfl ?_
    refine E_exit ?_
    refine thn_e ?_
    refine thn_e ?_
    refine blk_hit ?_
    obtain ⟨rfl, rfl⟩ := pairs2 h
    exact hQ _ _ ⟨iB, hfr, g7, i7, t5, j7, m7, n7⟩
  ·rintro _ vC nD ⟨cC, hfr, u7, t9, u9, v7, c8, y9, x5⟩ h
   refine E_block ?_
   refine E_seq (E_region (EL_mv u7 rfl ?_))
   refine EL_mv y9 rfl ?_
   refine EL_mv x5 rfl ?_
   refine EL_mv v7 rfl ?_
   obtain ⟨l9, mB, h⟩ := bsome h
   refine EL_do .plain rfl (D_callM (g := cC) (i := 1) (vs := [up0, .int .i64 (i3), .int .i64 (u0), (.func (.func ff2) fa2 fc2)]) en177 (.cons rfl (.cons rfl (.cons rfl (.cons rfl .nil)))) (wk177 t9 (FnV2.ch ⟨_, _, _, rfl, fen2, fcl2⟩ hfr.ch) mB) fun dC xC oD hs hr => ?_)
   obtain ⟨hrv, b15⟩ := hr
   have hfr := hfr.stp hs
   subst hrv
   refine EL_nil (thn_n (E_seq (E_region (EL_mv x5 rfl ?_))))
   refine EL_at (.int .i64 (u0)) rfl rfl ?_
   refine EL_nil (thn_n (E_region (EL_mv x5 rfl ?_)))
   refine EL_mv c8 rfl ?_
   refine EL_in (.int .i64 ((w64 (u0 + (20 : Int))))) rfl rfl rfl rfl ?_
   refine EL_at (.int .i64 ((w64 (u0 + (20 : Int))))) rfl rfl ?_
   exact EL_nil (blk_n (thn_n (aC (l9, u0, (w64 (u0 + (20 : Int)))) _ _ ⟨dC, hfr, u7, b15, u9, v7, c8, rfl, rfl⟩ h)))
 ·clear hx
  obtain ⟨eC, hfr, e8, z9, g8, i8, bA, gA⟩ := hR
  refine E_seq (E_region (EL_mv e8 rfl ?_))
  refine EL_mv gA rfl ?_
  refine EL_mv g8 rfl ?_
  refine EL_mv i8 rfl ?_
  obtain ⟨zA, nB, h⟩ := bsome h
  refine EL_do .plain rfl (D_callM (g := eC) (i := 1) (vs := [up0, .int .i64 (o3), .int .i64 (x1), (.func (.func ff2) fa2 fc2)]) en177 (.cons rfl (.cons rfl (.cons rfl (.cons rfl .nil)))) (wk177 z9 (FnV2.ch ⟨_, _, _, rfl, fen2, fcl2⟩ hfr.ch) nB) fun iC yC sD hs hr => ?_)
  obtain ⟨hrv, b18⟩ := hr
  have hfr := hfr.stp hs
  subst hrv
  refine EL_nil (thn_n (E_block ?_))
  refine E_lp h (fun (s : (List FaultDamage) × Int) e w => ∃ (g : Gh) , FrM iI gI wI g w ∧ e 0 = up0 ∧ OM 1 g w 37 (s.1 : List FaultDamage) up0 ∧ e 1 = .int .i64 (x1) ∧ e 2 = (.func (.func ff2) fa2 fc2) ∧ e 6 = .int .i64 (s.2)) ⟨iC, hfr, e8, b18, g8, i8, bA⟩ (fun X20 aB oB => ?_)
  rintro ⟨u3, o0⟩ aD tD ⟨jC, hfr, iA, k8, l8, jA, m8⟩ h
  refine E_joinC h (fun (s : Unit) e w => ∃ (g : Gh) , FrM iI gI wI g w ∧ e 0 = up0 ∧ OM 1 g w 37 (u3 : List FaultDamage) up0 ∧ e 1 = .int .i64 (x1) ∧ e 2 = (.func (.func ff2) fa2 fc2) ∧ e 6 = .int .i64 (o0)) (fun X23 eB tB h => ?_) ?_
  ·refine E_seq (E_region (EL_mv m8 rfl ?_))
   refine EL_mv l8 rfl ?_
   refine EL_in (.bool ((decide (o0 < x1)))) rfl rfl rfl rfl ?_
   refine EL_nil (thn_n ?_)
   rcases csome h with ⟨c7, h⟩ | ⟨c7, h⟩
   ·refine E_ct c7 rfl ?_
    exact E_skip (thn_n (tB () _ _ ⟨jC, hfr, iA, k8, l8, jA, m8⟩ h))
   ·refine E_cf c7 rfl ?_
    refine E_exit ?_
    refine thn_e ?_
    refine thn_e ?_
    refine blk_hit ?_
    obtain rfl := sinj h
    exact end0n rfl rfl ⟨_, hfr, rfl, o9.back k8⟩
  ·rintro _ bD uD ⟨kC, hfr, kA, lA, mA, nA, n8⟩ h
   refine E_block ?_
   refine E_seq (E_region (EL_mv n8 rfl ?_))
   refine EL_in (.int .i64 ((w64 ((2 : Int) * o0)))) rfl rfl rfl rfl ?_
   refine EL_at (.int .i64 (0)) rfl rfl ?_
   refine EL_at (.int .i64 ((w64 ((2 : Int) * o0)))) rfl rfl ?_
   refine EL_nil (thn_n ?_)
   obtain ⟨⟨z4, z2⟩, hx, h⟩ := bsome h
   refine E_join (fun e w => ∃ (g : Gh) , FrM iI gI wI g w ∧ e 0 = up0 ∧ OM 1 g w 37 (z4 : List FaultDamage) up0 ∧ e 1 = .int .i64 (x1) ∧ e 2 = (.func (.func ff2) fa2 fc2) ∧ e 6 = .int .i64 (o0) ∧ e 7 = .int .i64 (z2)) (fun Q' hQ => ?_) (fun cD vD hR => ?_)
   ·replace h := hx
    clear hx
    refine E_block ?_
    refine E_lp h (fun (s : (List FaultDamage) × Int × Int) e w => ∃ (g : Gh) , FrM iI gI wI g w ∧ e 0 = up0 ∧ OM 1 g w 37 (s.1 : List FaultDamage) up0 ∧ e 1 = .int .i64 (x1) ∧ e 2 = (.func (.func ff2) fa2 fc2) ∧ e 6 = .int .i64 (o0) ∧ e 7 = .int .i64 (s.2.1) ∧ e 8 = .int .i64 (s.2.2)) ⟨kC, hfr, kA, lA, mA, nA, n8, rfl, rfl⟩ (fun X34 bB vB => ?_)
    rintro ⟨z3, d3, j1⟩ eD xD ⟨jB, hfr, o8, q8, i6, r8, t8, v8, x8⟩ h
    refine E_joinC h (fun (s : Unit) e w => ∃ (g : Gh) , FrM iI gI wI g w ∧ e 0 = up0 ∧ OM 1 g w 37 (z3 : List FaultDamage) up0 ∧ e 1 = .int .i64 (x1) ∧ e 2 = (.func (.func ff2) fa2 fc2) ∧ e 6 = .int .i64 (o0) ∧ e 7 = .int .i64 (d3) ∧ e 8 = .int .i64 (j1)) (fun X37 cB xB h => ?_) ?_
    ·refine E_seq (E_region (EL_mv x8 rfl ?_))
     refine EL_mv i6 rfl ?_
     refine EL_in (.bool ((decide (j1 ≤ x1)))) rfl rfl rfl rfl ?_
     refine EL_nil (thn_n ?_)
     rcases csome h with ⟨d7, h⟩ | ⟨d7, h⟩
     ·refine E_ct d7 rfl ?_
      exact E_skip (thn_n (xB () _ _ ⟨jB, hfr, o8, q8, i6, r8, t8, v8, x8⟩ h))
     ·refine E_cf d7 rfl ?_
      refine E_exit ?_
      refine thn_e ?_
      refine thn_e ?_
      refine blk_hit ?_
      obtain ⟨rfl, rfl⟩ := pairs2 h
      exact hQ _ _ ⟨jB, hfr, o8, q8, i6, r8, t8, v8⟩
    ·rintro _ gD yD ⟨lC, hfr, y8, oA, pA, a9, j6, d9, v6⟩ h
     refine E_block ?_
     refine E_seq (E_region (EL_mv y8 rfl ?_))
     refine EL_mv d9 rfl ?_
     refine EL_mv d9 rfl ?_
     refine EL_mv j6 rfl ?_
     refine EL_in (.int .i64 ((w64 (d3 + o0)))) rfl rfl rfl rfl ?_
     refine EL_mv v6 rfl ?_
     refine EL_mv a9 rfl ?_
     obtain ⟨n9, yB, h⟩ := bsome h
     refine EL_do .plain rfl (D_callM (g := lC) (i := 1) (vs := [up0, .int .i64 (d3), .int .i64 ((w64 (d3 + o0))), .int .i64 (j1), (.func (.func ff2) fa2 fc2)]) en178 (.cons rfl (.cons rfl (.cons rfl (.cons rfl (.cons rfl .nil))))) (wk178 big oA (FnV2.ch ⟨_, _, _, rfl, fen2, fcl2⟩ hfr.ch) yB) fun mC iD zD hs hr => ?_)
     obtain ⟨hrv, b40⟩ := hr
     have hfr := hfr.stp hs
     subst hrv
     refine EL_nil (thn_n (E_seq (E_region (EL_mv v6 rfl ?_))))
     refine EL_at (.int .i64 (j1)) rfl rfl ?_
     refine EL_nil (thn_n (E_region (EL_mv v6 rfl ?_)))
     refine EL_mv j6 rfl ?_
     refine EL_in (.int .i64 ((w64 ((2 : Int) * o0)))) rfl rfl rfl rfl ?_
     refine EL_p (.int .i64 ((w64 (j1 + (w64 ((2 : Int) * o0)))))) (P_int rfl rfl rfl) rfl ?_
     refine EL_p (.int .i64 ((w64 (j1 + (w64 ((2 : Int) * o0)))))) (P_assign rfl) rfl ?_
     exact EL_nil (blk_n (thn_n (vB (n9, j1, (w64 (j1 + (w64 ((2 : Int) * o0))))) _ _ ⟨mC, hfr, y8, b40, pA, a9, j6, rfl, rfl⟩ h)))
   ·clear hx
    obtain ⟨kB, hfr, x6, e9, l5, y6, a7, i9⟩ := hR
    obtain ⟨i5, hx, h⟩ := bsome h
    refine E_join (fun e w => ∃ (g : Gh) , FrM iI gI wI g w ∧ e 0 = up0 ∧ OM 1 g w 37 (i5 : List FaultDamage) up0 ∧ e 1 = .int .i64 (x1) ∧ e 2 = (.func (.func ff2) fa2 fc2) ∧ e 6 = .int .i64 (o0)) (fun Q' hQ => ?_) (fun jD aE hR => ?_)
    ·replace h := hx
     clear hx
     refine E_seq (E_region (EL_mv i9 rfl ?_))
     refine EL_mv a7 rfl ?_
     refine EL_in (.int .i64 ((w64 (z2 + o0)))) rfl rfl rfl rfl ?_
     refine EL_at (.int .i64 ((w64 (z2 + o0)))) rfl rfl ?_
     refine EL_nil (thn_n (E_seq (E_region (EL_mw (.int .i64 ((w64 (z2 + o0)))) rfl rfl ?_))))
     refine EL_mv l5 rfl ?_
     refine EL_in (.bool ((decide ((w64 (z2 + o0)) < x1)))) rfl rfl rfl rfl ?_
     refine EL_nil (thn_n ?_)
     rcases csome h with ⟨e7, h⟩ | ⟨e7, h⟩
     ·refine E_ct e7 rfl ?_
      refine E_region (EL_mv x6 rfl ?_)
      refine EL_mv i9 rfl ?_
      refine EL_mw (.int .i64 ((w64 (z2 + o0)))) rfl rfl ?_
      refine EL_mv l5 rfl ?_
      refine EL_mv y6 rfl ?_
      obtain ⟨dB, zB, h⟩ := bsome h
      refine EL_do .plain rfl (D_callM (g := kB) (i := 1) (vs := [up0, .int .i64 (z2), .int .i64 ((w64 (z2 + o0))), .int .i64 (x1), (.func (.func ff2) fa2 fc2)]) en178 (.cons rfl (.cons rfl (.cons rfl (.cons rfl (.cons rfl .nil))))) (wk178 big e9 (FnV2.ch ⟨_, _, _, rfl, fen2, fcl2⟩ hfr.ch) zB) fun qC kD bE hs hr => ?_)
      obtain ⟨hrv, b47⟩ := hr
      have hfr := hfr.stp hs
      subst hrv
      refine EL_nil ?_
      obtain rfl := sinj h
      exact hQ _ _ ⟨qC, hfr, x6, b47, l5, y6, a7⟩
     ·refine E_cf e7 rfl ?_
      refine E_skip ?_
      obtain rfl := sinj h
      exact hQ _ _ ⟨kB, hfr, x6, e9, l5, y6, a7⟩
    ·clear hx
     obtain ⟨rC, hfr, qA, rA, sA, uA, xA⟩ := hR
     refine E_region (EL_mv xA rfl ?_)
     refine EL_in (.int .i64 ((w64 (o0 * (2 : Int))))) rfl rfl rfl rfl ?_
     refine EL_at (.int .i64 ((w64 (o0 * (2 : Int))))) rfl rfl ?_
     exact EL_nil (blk_n (thn_n (oB (i5, (w64 (o0 * (2 : Int)))) _ _ ⟨rC, hfr, qA, rA, sA, uA, rfl⟩ h)))
def f152 (x0 : List SeamPart) : Option (Int) :=
 jn (σ := Unit) (fun _ =>
  some ((0 : Int))
  ) fun k9 =>
 bif (decide (((x0).length : Int) > (12 : Int))) then
  some ((5 : Int))
 else
  bif (((x0).length : Int) == (0 : Int)) then
   some ((7 : Int))
  else
   (f180 x0 ((fun a0 => f181 a0))).bind fun i3 =>
   bif i3 then
    some ((2 : Int))
   else
    (f153 x0).bind fun o0 =>
    bif (decide (((o0).length : Int) > (200 : Int))) then
     some ((8 : Int))
    else
     k9 ()
theorem en152 : Enters Try.prog 152 := enters_of Try.func152 (by kernel_rfl) rfl
theorem wk152 {gI : Gh} {wI : World} {x0 : List SeamPart} {up0 : Value} (rp0 : RV gI.m wI x0 up0) {r : Int} (h : f152 x0 = some r) : Fn Try.prog 152 #[up0] gI wI (fun _ _ v => v = .int .i64 (r)) := by
 unfold f152 at h
 refine fn_of_E Try.func152 rfl (Nat.le_of_ble_eq_true rfl) fun g0 hm hfr => ?_
 have rp0 : RV g0.m wI x0 up0 := hm ▸ rp0
 show E _ 19 none _ _ _ _ _
 refine E_seq (E_region (EL_at (.int .i64 (0)) rfl rfl ?_))
 refine EL_nil (thn_n (E_joinC h (fun (s : Unit) e w => ∃ (g : Gh) , Fr gI wI g w) (fun X9 k9 u3 h => ?_) ?_))
 ·refine E_block ?_
  refine E_seq (E_region (EL_mw up0 rfl rfl ?_))
  refine EL_p (.int .i64 ((x0).length : Int)) (P_len Try.underlying141 rfl rp0) rfl ?_
  refine EL_in (.bool ((decide (((x0).length : Int) > (12 : Int))))) rfl rfl rfl rfl ?_
  refine EL_at (.bool ((decide (((x0).length : Int) > (12 : Int))))) rfl rfl ?_
  refine EL_nil (thn_n ?_)
  rcases csome h with ⟨u0, h⟩ | ⟨u0, h⟩
  ·refine E_ct u0 rfl ?_
   refine E_seq (E_region (EL_at (.int .i64 (5)) rfl rfl ?_))
   refine EL_nil (thn_n (E_ret (blk_r ?_)))
   refine thn_r ?_
   obtain rfl := sinj h
   exact end1 rfl rfl (show _ = .int .i64 (5) from rfl) ⟨_, hfr, rfl⟩
  ·refine E_cf u0 rfl ?_
   refine E_seq (E_region (EL_mw up0 rfl rfl ?_))
   refine EL_p (.int .i64 ((x0).length : Int)) (P_len Try.underlying141 rfl rp0) rfl ?_
   refine EL_in (.bool ((((x0).length : Int) == (0 : Int)))) rfl rfl rfl rfl ?_
   refine EL_at (.bool ((((x0).length : Int) == (0 : Int)))) rfl rfl ?_
   refine EL_nil (thn_n ?_)
   rcases csome h with ⟨j1, h⟩ | ⟨j1, h⟩
   ·refine E_ct j1 rfl ?_
    refine E_seq (E_region (EL_at (.int .i64 (7)) rfl rfl ?_))
    refine EL_nil (thn_n (E_ret (blk_r ?_)))
    refine thn_r ?_
    obtain rfl := sinj h
    exact end1 rfl rfl (show _ = .int .i64 (7) from rfl) ⟨_, hfr, rfl⟩
   ·refine E_cf j1 rfl ?_
    refine E_seq (E_region (EL_mw up0 rfl rfl ?_))
    obtain ⟨i3, j3, h⟩ := bsome h
    refine EL_do .plain rfl (D_call (g := g0) (vs := [up0, .func (.func 181) #[] #[]]) en180 (.cons rfl (.cons rfl .nil)) (wk180 rp0 ⟨181, #[], #[], rfl, en181, fun g' w' hch a0 b0 r hu0 hr => by exact Fn.mono (wk181 hu0  hr) fun _ _ _ h => RV_bool.2 h⟩ j3) fun z3 l5 x5 hs hr => ?_)
    have hfr := hfr.ext hs
    have rp0 := rp0.ext hs
    subst hr
    refine EL_at (.bool (i3)) rfl rfl ?_
    refine EL_nil (thn_n ?_)
    rcases csome h with ⟨z2, h⟩ | ⟨z2, h⟩
    ·refine E_ct z2 rfl ?_
     refine E_seq (E_region (EL_at (.int .i64 (2)) rfl rfl ?_))
     refine EL_nil (thn_n (E_ret (blk_r ?_)))
     refine thn_r ?_
     obtain rfl := sinj h
     exact end1 rfl rfl (show _ = .int .i64 (2) from rfl) ⟨_, hfr, rfl⟩
    ·refine E_cf z2 rfl ?_
     refine E_seq (E_region (EL_mw up0 rfl rfl ?_))
     obtain ⟨o0, o3, h⟩ := bsome h
     refine EL_do .plain rfl (D_call (g := z3) (vs := [up0]) en153 (.cons rfl .nil) (wk153 rp0 o3) fun z4 q5 i6 hs hr => ?_)
     have hfr := hfr.ext hs
     have i5 := hr
     refine EL_p (.int .i64 ((o0).length : Int)) (P_len Try.underlying207 rfl i5) rfl ?_
     refine EL_in (.bool ((decide (((o0).length : Int) > (200 : Int))))) rfl rfl rfl rfl ?_
     refine EL_at (.bool ((decide (((o0).length : Int) > (200 : Int))))) rfl rfl ?_
     refine EL_nil (thn_n ?_)
     rcases csome h with ⟨d3, h⟩ | ⟨d3, h⟩
     ·refine E_ct d3 rfl ?_
      refine E_seq (E_region (EL_at (.int .i64 (8)) rfl rfl ?_))
      refine EL_nil (thn_n (E_ret (blk_r ?_)))
      refine thn_r ?_
      obtain rfl := sinj h
      exact end1 rfl rfl (show _ = .int .i64 (8) from rfl) ⟨_, hfr, rfl⟩
     ·refine E_cf d3 rfl ?_
      exact E_skip (blk_n (thn_n (u3 () _ _ ⟨z4, hfr⟩ h)))
 ·rintro _ t5 j6 ⟨v6, hfr⟩ h
  refine E_seq (E_region (EL_at (.int .i64 (0)) rfl rfl ?_))
  refine EL_nil (thn_n (E_ret ?_))
  obtain rfl := sinj h
  exact end1 rfl rfl (show _ = .int .i64 (0) from rfl) ⟨_, hfr, rfl⟩
def f158 (x0 : SeamPair) (x1 : List Int) : Option ((List Span) × Bool) :=
 jn (σ := (List Span) × Int) (fun (d7, l5) =>
  (f112 x0 l5).bind fun u9 =>
  (apnd 16 d7 u9).bind fun y9 =>
  some (y9, true)
  ) fun z9 =>
 lp (σ := (List Span) × Int × Int) (fun bA (d3, i3, o0) =>
  bif (decide (o0 < ((x1).length : Int))) then
   jn (σ := (List Span) × Int) (fun (q5, t5) =>
    bA (q5, t5, (w64 (o0 + (1 : Int))))
    ) fun k53 =>
   (idx x1 o0).bind fun j3 =>
   (f113 x0 i3 j3).bind fun u0 =>
   jn (σ := (List Span)) (fun e7 =>
    (cut (u0.1) 0 (w64 (((u0.1).length : Int) - (1 : Int)))).bind fun gA =>
    (apnd 16 e7 gA).bind fun o7 =>
    k53 (o7, j3)
    ) fun iA =>
   bif (!u0.2) then
    some ([], false)
   else
    iA (d3)
  else
   z9 (d3, i3)
  ) big ([], (0 : Int), (0 : Int))
theorem en158 : Enters Try.prog 158 := enters_of Try.func158 (by kernel_rfl) rfl
theorem wk158 {gI : Gh} {wI : World} {x0 : SeamPair} {x1 : List Int} {up0 : Value} (rp0 : RV gI.m wI x0 up0) {up1 : Value} (rp1 : RV gI.m wI x1 up1) {r : (List Span) × Bool} (h : f158 x0 x1 = some r) : Fn Try.prog 158 #[up0, up1] gI wI (fun m w v => ∃ y0 y1, v = .tuple #[y0, y1] ∧ RV m w (r.1) y0 ∧ y1 = .bool (r.2)) := by
 unfold f158 at h
 refine fn_of_E Try.func158 rfl (Nat.le_of_ble_eq_true rfl) fun g0 hm hfr => ?_
 have rp0 : RV g0.m wI x0 up0 := hm ▸ rp0
 have rp1 : RV g0.m wI x1 up1 := hm ▸ rp1
 show E _ 40 none _ _ _ _ _
 refine E_seq (E_region (EL_do .plain rfl (D_box (g := g0) rfl rp0 fun g1 w1 p1 hs q1 => ?_)))
 have hfr := hfr.ext hs
 have rp1 := rp1.ext hs
 refine EL_at (.slice none 0 0) rfl rfl ?_
 refine EL_at (.bool false) rfl rfl ?_
 refine EL_nil (thn_n (E_seq (E_region (EL_at (.int .i64 (0)) rfl rfl ?_))))
 refine EL_nil (thn_n (E_joinC h (fun (s : (List Span) × Int) e w => ∃ (g : Gh) (v4 : Value), Fr gI wI g w ∧ e 2 = p1 ∧ PT g.m w (x0 : SeamPair) p1 ∧ e 4 = v4 ∧ RV g.m w (s.1 : List Span) v4 ∧ OS 1004 g w 137 (s.1 : List Span) v4 ∧ e 6 = .int .i64 (s.2)) (fun X35 z9 mA h => ?_) ?_))
 ·refine E_seq (E_region (EL_mw up1 rfl rfl ?_))
  refine EL_p (.int .i64 ((x1).length : Int)) (P_len Try.underlying26 rfl rp1) rfl ?_
  refine EL_mw (.int .i64 (0)) rfl rfl ?_
  refine EL_nil (thn_n (E_block ?_))
  refine E_lp h (fun (s : (List Span) × Int × Int) e w => ∃ (g : Gh) (v4 : Value), Fr gI wI g w ∧ e 2 = p1 ∧ PT g.m w (x0 : SeamPair) p1 ∧ e 4 = v4 ∧ RV g.m w (s.1 : List Span) v4 ∧ OS 1004 g w 137 (s.1 : List Span) v4 ∧ e 6 = .int .i64 (s.2.1) ∧ e 11 = up1 ∧ RV g.m w (x1 : List Int) up1 ∧ e 12 = .int .i64 (((x1).length : Int)) ∧ e 13 = .int .i64 (s.2.2)) ⟨g1, (.slice none 0 0), hfr, rfl, q1, rfl, RV_nil, OS.nil, rfl, rfl, rp1, rfl, rfl⟩ (fun X36 bA nA => ?_)
  rintro ⟨d3, i3, o0⟩ yB iC ⟨g7, i7, hfr, x5, o3, j7, u3, z3, m7, y6, j1, a7, z4⟩ h
  refine E_seq (E_region (EL_in (.bool ((decide (o0 < ((x1).length : Int))))) z4 a7 rfl rfl ?_))
  refine EL_nil (thn_n (E_seq ?_))
  rcases csome h with ⟨b7, h⟩ | ⟨b7, h⟩
  ·refine E_ct b7 rfl ?_
   refine E_skip (thn_n (E_joinC h (fun (s : (List Span) × Int) e w => ∃ (g : Gh) (v4 : Value), Fr gI wI g w ∧ e 2 = p1 ∧ PT g.m w (x0 : SeamPair) p1 ∧ e 4 = v4 ∧ RV g.m w (s.1 : List Span) v4 ∧ OS 1004 g w 137 (s.1 : List Span) v4 ∧ e 6 = .int .i64 (s.2) ∧ e 11 = up1 ∧ RV g.m w (x1 : List Int) up1 ∧ e 12 = .int .i64 (((x1).length : Int)) ∧ e 13 = .int .i64 (o0)) (fun X53 k53 oA h => ?_) ?_))
   ·refine E_block ?_
    refine E_seq (E_region ?_)
    obtain ⟨j3, u7, h⟩ := bsome h
    refine EL_p (ePtr up1 o0 1) (P_indexAddr (α := Int) Try.underlying26 Try.sizeOf3 y6 j1 z4 u7) rfl ?_
    have xA := PT_idx j1 u7
    refine EL_do .plain rfl (D_load (g := g7) Try.isAgg3 Try.sizeOf3 rfl xA fun jC yA => ?_)
    obtain rfl := RV_int.1 yA
    refine EL_at (.int .i64 (j3)) rfl rfl ?_
    refine EL_nil (thn_n (E_seq (E_region (EL_do .plain rfl (D_load (g := g7) Try.isAgg209 Try.sizeOf209 x5 o3 fun zA aB => ?_)))))
    refine EL_mv m7 rfl ?_
    refine EL_mw (.int .i64 (j3)) rfl rfl ?_
    obtain ⟨u0, pA, h⟩ := bsome h
    refine EL_do .plain rfl (D_call (g := g7) (vs := [zA, .int .i64 (i3), .int .i64 (j3)]) en113 (.cons rfl (.cons rfl (.cons rfl .nil))) (wk113 aB pA) fun bB zB kC hs hr => ?_)
    have hfr := hfr.ext hs
    have o3 := o3.ext hs
    have u3 := u3.ext hs
    have z3 := z3.ext hs
    have j1 := j1.ext hs
    obtain ⟨z2, tB, rfl, n8, rfl⟩ := hr
    refine EL_mw (.tuple #[z2, .bool (u0.2)]) rfl rfl ?_
    refine EL_p z2 (P_extract rfl rfl) rfl ?_
    refine EL_p (.bool (u0.2)) (P_extract rfl rfl) rfl ?_
    refine EL_at z2 rfl rfl ?_
    refine EL_at (.bool (u0.2)) rfl rfl ?_
    refine EL_nil (thn_n (E_joinC h (fun (s : (List Span)) e w => ∃ (g : Gh) (v4 : Value), Fr gI wI g w ∧ e 2 = p1 ∧ PT g.m w (x0 : SeamPair) p1 ∧ e 4 = v4 ∧ RV g.m w (s : List Span) v4 ∧ OS 1004 g w 137 (s : List Span) v4 ∧ e 8 = .int .i64 (j3) ∧ e 9 = z2 ∧ RV g.m w (u0.1 : List Span) z2 ∧ e 11 = up1 ∧ RV g.m w (x1 : List Int) up1 ∧ e 12 = .int .i64 (((x1).length : Int)) ∧ e 13 = .int .i64 (o0)) (fun X61 iA qA h => ?_) ?_))
    ·refine E_seq (E_region (EL_mw (.bool (u0.2)) rfl rfl ?_))
     refine EL_p (.bool (!u0.2)) (P_not rfl) rfl ?_
     refine EL_nil (thn_n ?_)
     rcases csome h with ⟨c7, h⟩ | ⟨c7, h⟩
     ·refine E_ct c7 rfl ?_
      refine E_seq (E_region (EL_at (.slice none 0 0) rfl rfl ?_))
      refine EL_at (.bool false) rfl rfl ?_
      refine EL_nil (thn_n (E_ret (thn_r ?_)))
      refine blk_r ?_
      refine thn_r ?_
      refine thn_r ?_
      refine blk_r ?_
      refine thn_r ?_
      obtain rfl := sinj h
      exact end2 rfl rfl (show _ = .slice none 0 0 from rfl) (show _ = .bool false from rfl) ⟨_, hfr, _, _, rfl, RV_nil, rfl⟩
     ·refine E_cf c7 rfl ?_
      exact E_skip (thn_n (qA (d3) _ _ ⟨bB, (i7), hfr, x5, o3, j7, u3, z3, rfl, rfl, n8, y6, j1, a7, z4⟩ h))
    ·rintro e7 aC lC ⟨cB, vB, hfr, o8, i6, q8, r8, t8, v8, n7, j6, v7, i5, c8, e8⟩ h
     refine E_seq (E_region (EL_mv q8 rfl ?_))
     refine EL_mv n7 rfl ?_
     refine EL_mv n7 rfl ?_
     refine EL_p (.int .i64 ((u0.1).length : Int)) (P_len Try.underlying207 rfl j6) rfl ?_
     refine EL_in (.int .i64 ((w64 (((u0.1).length : Int) - (1 : Int))))) rfl rfl rfl rfl ?_
     obtain ⟨gA, g8, h⟩ := bsome h
     have dB := RV_cut j6 g8
     refine EL_p ((cutV z2 (Int.toNat 0) (Int.toNat (w64 (((u0.1).length : Int) - (1 : Int)))) 2)) (P_slice Try.underlying207 Try.sizeOf137 rfl j6 rfl rfl g8) rfl ?_
     obtain ⟨o7, rA, h⟩ := bsome h
     refine EL_do .plain rfl (D_append (g := cB) (i := 1004) Try.underlying207 info_137 rfl rfl t8 r8 rfl dB rA fun eB mC jA hs o67 iB _ => ?_)
     have hfr := hfr.stp hs
     have i6 := i6.stp hs
     have i5 := i5.stp hs
     refine EL_at jA rfl rfl ?_
     refine EL_nil (thn_n (E_region (EL_mv v8 rfl ?_)))
     refine EL_at (.int .i64 (j3)) rfl rfl ?_
     exact EL_nil (blk_n (thn_n (oA (o7, j3) _ _ ⟨eB, (jA), hfr, o8, i6, rfl, iB, o67, rfl, v7, i5, c8, e8⟩ h)))
   ·rintro ⟨q5, t5⟩ cC qC ⟨jB, x8, hfr, y8, a9, d9, e9, i9, k9, i8, k8, l8, m8⟩ h
    refine E_region (EL_in (.int .i64 ((w64 (o0 + (1 : Int))))) m8 rfl rfl rfl ?_)
    refine EL_mw (.int .i64 ((w64 (o0 + (1 : Int))))) rfl rfl ?_
    exact EL_nil (thn_n (nA (q5, t5, (w64 (o0 + (1 : Int)))) _ _ ⟨jB, (x8), hfr, y8, a9, d9, e9, i9, k9, i8, k8, l8, rfl⟩ h))
  ·refine E_cf b7 rfl ?_
   refine E_exit ?_
   refine thn_e ?_
   refine thn_e ?_
   refine blk_hit ?_
   exact thn_n (mA (d3, i3) _ _ ⟨g7, (i7), hfr, x5, o3, j7, u3, z3, m7⟩ h)
 ·rintro ⟨d7, l5⟩ dC rC ⟨kA, xB, hfr, l9, n9, o9, v6, x6, t9⟩ h
  refine E_seq (E_region (EL_mv o9 rfl ?_))
  refine EL_do .plain rfl (D_load (g := kA) Try.isAgg209 Try.sizeOf209 l9 n9 fun kB lB => ?_)
  refine EL_mv t9 rfl ?_
  obtain ⟨u9, sA, h⟩ := bsome h
  refine EL_do .plain rfl (D_call (g := kA) (vs := [kB, .int .i64 (l5)]) en112 (.cons rfl (.cons rfl .nil)) (wk112 lB sA) fun mB eC tC hs hr => ?_)
  have hfr := hfr.ext hs
  have v6 := v6.ext hs
  have x6 := x6.ext hs
  have nB := hr
  obtain ⟨y9, uA, h⟩ := bsome h
  refine EL_do .plain rfl (D_append (g := mB) (i := 1004) Try.underlying207 info_137 rfl rfl x6 v6 rfl nB uA fun uC vC lA hs o74 oB _ => ?_)
  have hfr := hfr.stp hs
  refine EL_at lA rfl rfl ?_
  refine EL_at (.bool true) rfl rfl ?_
  refine EL_nil (thn_n (E_ret ?_))
  obtain rfl := sinj h
  exact end2 rfl rfl (show _ = lA from rfl) (show _ = .bool true from rfl) ⟨_, hfr, _, _, rfl, oB, rfl⟩
def f23 (x0 : Int) (x1 : List Int) (x2 : List SeamCut) : Option ((List Int) × Int × Int) :=
 (f61 x0 x1 x2).bind fun y3 =>
 jn (σ := Unit) (fun _ =>
  (f62 (y3.1)).bind fun u0 =>
  (mks 8 (0 : Int) (((x2).length : Int))).bind fun y9 =>
  Option.bind (α := (List Int)) (
   lp (σ := (List Int) × Int) (fun z9 (i3, o0) =>
    jn (σ := Unit) (fun _ =>
     Option.bind (α := (List Int)) (
      (idx u0 o0).bind fun z4 =>
      (idx u0 o0).bind fun x6 =>
      (idx i3 (z4).last).bind fun jA =>
      some ((List.set i3 (Int.toNat (z4).last) ((x6).start)))
      ) fun j3 =>
     (idx u0 o0).bind fun n8 =>
     (shl64 (1 : Int) (n8).last).bind fun o3 =>
     z9 (j3, (bit64 .andNot o0 o3))
     ) fun bA =>
    bif (decide (o0 > (0 : Int))) then
     bA ()
    else
     some (i3)
    ) big (y9, (w64 (((u0).length : Int) - (1 : Int))))
   ) fun i5 =>
  (idx u0 (w64 (((u0).length : Int) - (1 : Int)))).bind fun l5 =>
  some (i5, (l5).end_, (0 : Int))
  ) fun k9 =>
 bif (y3.2 != (0 : Int)) then
  some (([] : List Int), (0 : Int), y3.2)
 else
  k9 ()
theorem en23 : Enters Try.prog 23 := enters_of Try.func23 (by kernel_rfl) rfl
theorem wk23 {gI : Gh} {wI : World} {x0 : Int} {x1 : List Int} {x2 : List SeamCut} {up1 : Value} (rp1 : RV gI.m wI x1 up1) {up2 : Value} (rp2 : RV gI.m wI x2 up2) {r : (List Int) × Int × Int} (h : f23 x0 x1 x2 = some r) : Fn Try.prog 23 #[.int .i64 (x0), up1, up2] gI wI (fun m w v => ∃ y0 y1 y2, v = .tuple #[y0, y1, y2] ∧ RV m w (r.1) y0 ∧ y1 = .int .i64 (r.2.1) ∧ y2 = .int .i64 (r.2.2)) := by
 unfold f23 at h
 refine fn_of_E Try.func23 rfl (Nat.le_of_ble_eq_true rfl) fun g0 hm hfr => ?_
 have rp1 : RV g0.m wI x1 up1 := hm ▸ rp1
 have rp2 : RV g0.m wI x2 up2 := hm ▸ rp2
 show E _ 60 none _ _ _ _ _
 refine E_seq (E_region (EL_at (.slice none 0 0) rfl rfl ?_))
 have b1 : OA 4006 g0 wI 3 ([] : List Int) (.slice none 0 0) := OA.nil
 refine EL_at (.int .i64 (0)) rfl rfl ?_
 refine EL_at (.int .i64 (0)) rfl rfl ?_
 refine EL_nil (thn_n (E_seq (E_region (EL_mw (.int .i64 (x0)) rfl rfl ?_))))
 refine EL_mw up1 rfl rfl ?_
 refine EL_mw up2 rfl rfl ?_
 obtain ⟨y3, hy3, h⟩ := bsome h
 refine EL_do .plain rfl (D_call (g := g0) (vs := [.int .i64 (x0), up1, up2]) en61 (.cons rfl (.cons rfl (.cons rfl .nil))) (wk61 rp1 rp2 hy3) fun g2 w2_ v2 hs hr => ?_)
 have hfr := hfr.ext hs
 have rp2 := rp2.ext hs
 obtain ⟨e7, nB, rfl, g7, rfl⟩ := hr
 refine EL_mw (.tuple #[e7, .int .i64 (y3.2)]) rfl rfl ?_
 refine EL_p e7 (P_extract rfl rfl) rfl ?_
 refine EL_p (.int .i64 (y3.2)) (P_extract rfl rfl) rfl ?_
 refine EL_do .plain rfl (D_allocOc (g := g2) 2009 (⟨0, [], []⟩ : SeamTailor) Try.zeroValue129 (fun m w => ⟨_, (rep_two rep_int (rep_two rep_nil rep_nil)), rfl⟩) fun g4 w4 p4 hs b4 cb => ?_)
 have hfr := hfr.stp hs
 have rp2 := rp2.stp hs
 have g7 := g7.stp hs
 have oB : OSF 2009 60901 1 g4 w4 3 129 ([] : List Int) p4 := cb.osf (by rfl)
 have tB : OSF 2009 60902 2 g4 w4 68 129 ([] : List SeamCut) p4 := cb.osf (by rfl)
 clear cb
 refine EL_do .plain rfl (D_storeOc (g := g4) (v := e7) Try.sizeOf129 rfl b4 rfl g7 fun g5 w5 hs b5 cb => ?_)
 clear cb
 have hfr := hfr.stp hs
 have rp2 := rp2.stp hs
 refine EL_at (.int .i64 (y3.2)) rfl rfl ?_
 refine EL_nil (thn_n (E_joinC h (fun (s : Unit) e w => ∃ (g : Gh) , Fr gI wI g w ∧ e 2 = up2 ∧ RV g.m w (x2 : List SeamCut) up2 ∧ e 9 = p4 ∧ OB 2009 g w 129 (y3.1 : SeamTailor) p4) (fun X9 k9 cB h => ?_) ?_))
 ·refine E_seq (E_region (EL_mw (.int .i64 (y3.2)) rfl rfl ?_))
  refine EL_in (.bool ((y3.2 != (0 : Int)))) rfl rfl rfl rfl ?_
  refine EL_nil (thn_n ?_)
  rcases csome h with ⟨i7, h⟩ | ⟨i7, h⟩
  ·refine E_ct i7 rfl ?_
   refine E_seq (E_region (EL_mw (.int .i64 (y3.2)) rfl rfl ?_))
   refine EL_at (.slice none 0 0) rfl rfl ?_
   have b11 : OA 4006 g5 w5 3 ([] : List Int) (.slice none 0 0) := OA.nil
   refine EL_at (.int .i64 (0)) rfl rfl ?_
   refine EL_at (.int .i64 (y3.2)) rfl rfl ?_
   refine EL_nil (thn_n (E_ret (thn_r ?_)))
   obtain ⟨gp12, hs, rp12⟩ := OM.pub (b11.toM)
   have hfr := hfr.stp hs
   obtain rfl := sinj h
   exact end3 rfl rfl (show _ = .slice none 0 0 from rfl) (show _ = .int .i64 (0) from rfl) (show _ = .int .i64 (y3.2) from rfl) ⟨_, hfr, _, _, _, rfl, rp12, rfl, rfl⟩
  ·refine E_cf i7 rfl ?_
   exact E_skip (thn_n (cB () _ _ ⟨g5, hfr, rfl, rp2, rfl, b5⟩ h))
 ·rintro _ vB rC ⟨gA, hfr, e9, y6, i9, l9⟩ h
  refine E_seq (E_region (EL_do .plain rfl (D_loadO (g := gA) Try.isAgg129 Try.sizeOf129 i9 l9 fun dB eB => ?_)))
  obtain ⟨u0, kA, h⟩ := bsome h
  refine EL_do .plain rfl (D_call (g := gA) (vs := [dB]) en62 (.cons rfl .nil) (wk62 eB kA) fun iB xB j1 hs hr => ?_)
  have hfr := hfr.ext hs
  have y6 := y6.ext hs
  have m7 := hr
  refine EL_at j1 rfl rfl ?_
  refine EL_nil (thn_n (E_seq (E_region (EL_mw j1 rfl rfl ?_))))
  refine EL_p (.int .i64 ((u0).length : Int)) (P_len Try.underlying132 rfl m7) rfl ?_
  refine EL_in (.int .i64 ((w64 (((u0).length : Int) - (1 : Int))))) rfl rfl rfl rfl ?_
  refine EL_at (.int .i64 ((w64 (((u0).length : Int) - (1 : Int))))) rfl rfl ?_
  refine EL_nil (thn_n (E_seq (E_region (EL_mv e9 rfl ?_))))
  refine EL_p (.int .i64 ((x2).length : Int)) (P_len Try.underlying66 rfl y6) rfl ?_
  obtain ⟨y9, lA, h⟩ := bsome h
  refine EL_do .plain rfl (D_makeSliceM (g := iB) 9030 (0 : Int) rfl Try.underlying26 info_3 rfl (fun _ _ => rfl) rfl rfl lA fun jB tC d3 hs b18 => ?_)
  have hfr := hfr.stp hs
  have m7 := m7.stp hs
  refine EL_at d3 rfl rfl ?_
  refine EL_nil (thn_n ?_)
  obtain ⟨i5, hx, h⟩ := bsome h
  refine E_join (fun e w => ∃ (g : Gh) , Fr gI wI g w ∧ e 6 = d3 ∧ OM 9030 g w 3 (i5 : List Int) d3 ∧ e 10 = j1 ∧ RV g.m w (u0 : List SeamPlan) j1 ∧ e 11 = .int .i64 ((w64 (((u0).length : Int) - (1 : Int))))) (fun Q' hQ => ?_) (fun lB yB hR => ?_)
  ·replace h := hx
   clear hx
   refine E_seq (E_region (EL_mw (.int .i64 ((w64 (((u0).length : Int) - (1 : Int))))) rfl rfl ?_))
   refine EL_at (.int .i64 ((w64 (((u0).length : Int) - (1 : Int))))) rfl rfl ?_
   refine EL_nil (thn_n (E_block ?_))
   refine E_lp h (fun (s : (List Int) × Int) e w => ∃ (g : Gh) , Fr gI wI g w ∧ e 6 = d3 ∧ OM 9030 g w 3 (s.1 : List Int) d3 ∧ e 10 = j1 ∧ RV g.m w (u0 : List SeamPlan) j1 ∧ e 11 = .int .i64 ((w64 (((u0).length : Int) - (1 : Int)))) ∧ e 12 = .int .i64 (s.2)) ⟨jB, hfr, rfl, b18, rfl, m7, rfl, rfl⟩ (fun X86 z9 mA => ?_)
   rintro ⟨i3, o0⟩ zB uC ⟨iA, hfr, n7, o7, a7, b7, c7, d7⟩ h
   refine E_joinC h (fun (s : Unit) e w => ∃ (g : Gh) , Fr gI wI g w ∧ e 6 = d3 ∧ OM 9030 g w 3 (i3 : List Int) d3 ∧ e 10 = j1 ∧ RV g.m w (u0 : List SeamPlan) j1 ∧ e 11 = .int .i64 ((w64 (((u0).length : Int) - (1 : Int)))) ∧ e 12 = .int .i64 (o0)) (fun X89 bA nA h => ?_) ?_
   ·refine E_seq (E_region (EL_mv d7 rfl ?_))
    refine EL_in (.bool ((decide (o0 > (0 : Int))))) rfl rfl rfl rfl ?_
    refine EL_nil (thn_n ?_)
    rcases csome h with ⟨j7, h⟩ | ⟨j7, h⟩
    ·refine E_ct j7 rfl ?_
     exact E_skip (thn_n (nA () _ _ ⟨iA, hfr, n7, o7, a7, b7, c7, d7⟩ h))
    ·refine E_cf j7 rfl ?_
     refine E_exit ?_
     refine thn_e ?_
     refine thn_e ?_
     refine blk_hit ?_
     obtain rfl := sinj h
     exact hQ _ _ ⟨iA, hfr, n7, o7, a7, b7, c7⟩
   ·rintro _ aC vC ⟨kB, hfr, u7, z3, q5, z2, o8, t5⟩ h
    obtain ⟨j3, hx, h⟩ := bsome h
    refine E_join (fun e w => ∃ (g : Gh) , Fr gI wI g w ∧ e 6 = d3 ∧ OM 9030 g w 3 (j3 : List Int) d3 ∧ e 10 = j1 ∧ RV g.m w (u0 : List SeamPlan) j1 ∧ e 11 = .int .i64 ((w64 (((u0).length : Int) - (1 : Int)))) ∧ e 12 = .int .i64 (o0)) (fun Q' hQ => ?_) (fun mB cC hR => ?_)
    ·replace h := hx
     clear hx
     refine E_block ?_
     obtain ⟨z4, v7, h⟩ := bsome h
     have q8 := PT_idx z2 v7
     have oA := PT_field (part_SeamPlan_0).1 q8
     refine L_load (x := .tmp 46) Try.isAgg3 Try.sizeOf3 oA fun dC pA n9 => ?_
     obtain rfl := RV_int.1 pA
     obtain ⟨x6, c8, h⟩ := bsome h
     have r8 := PT_idx z2 c8
     have qA := PT_field (part_SeamPlan_1).1 r8
     refine L_load (x := .tmp 51) Try.isAgg3 Try.sizeOf3 qA fun eC rA o9 => ?_
     obtain rfl := RV_int.1 rA
     obtain ⟨jA, e8, h⟩ := bsome h
     refine E_drawL (g := kB) (n := 12) [] [0, 1, 2, 3, 4, 5, 6, 7, 8, 9, 10, 11] rfl mixed (by kernel_rfl) trivial ?_
     refine L_p d3 rfl rfl (P_move u7) ?_
     refine L_p j1 rfl rfl (P_move q5) ?_
     refine L_p (.int .i64 (o0)) rfl rfl (P_move t5) ?_
     refine L_p (ePtr j1 o0 3) rfl rfl (P_indexAddr (α := SeamPlan) Try.underlying132 Try.sizeOf135 rfl z2 rfl v7) ?_
     refine L_p (fPtr (ePtr j1 o0 3) 0) rfl rfl (P_fieldAddr at_135_0 rfl (PT.ptr q8)) ?_
     refine L_ld (c := .int .i64 ((z4).last)) rfl rfl .plain (fun _ _ h => h.ch) n9 rfl ?_
     refine L_p j1 rfl rfl (P_move q5) ?_
     refine L_p (.int .i64 (o0)) rfl rfl (P_move t5) ?_
     refine L_p (ePtr j1 o0 3) rfl rfl (P_indexAddr (α := SeamPlan) Try.underlying132 Try.sizeOf135 rfl z2 rfl c8) ?_
     refine L_p (fPtr (ePtr j1 o0 3) 1) rfl rfl (P_fieldAddr at_135_1 rfl (PT.ptr r8)) ?_
     refine L_ld (c := .int .i64 ((x6).start)) rfl rfl .plain (fun _ _ h => h.ch) o9 rfl ?_
     refine L_p (ePtr d3 (z4).last 1) rfl rfl (P_indexAddrM (α := Int) Try.underlying26 Try.sizeOf3 rfl z3 rfl e8) ?_
     refine L_nl fun sA iC hs => ?_
     have hfr := hfr.ext hs
     have z3 := z3.ext hs
     have z2 := z2.ext hs
     clear hs
     refine EL_do .plain rfl (D_storeM (g := sA) (α := Int) (a' := ((x6).start)) Try.sizeOf3 rfl z3 e8 rfl (RV_int.2 rfl) fun uA jC hs b145 => ?_)
     have hfr := hfr.stp hs
     have z2 := z2.stp hs
     refine EL_nil (blk_n ?_)
     obtain rfl := sinj h
     exact hQ _ _ ⟨uA, hfr, u7, b145, q5, z2, o8, t5⟩
    ·clear hx
     obtain ⟨t8, hfr, v8, x8, i6, u3, k8, j6⟩ := hR
     refine E_region (EL_mv j6 rfl ?_)
     refine EL_mv i6 rfl ?_
     refine EL_mv j6 rfl ?_
     obtain ⟨n8, g8, h⟩ := bsome h
     refine EL_p (ePtr j1 o0 3) (P_indexAddr (α := SeamPlan) Try.underlying132 Try.sizeOf135 rfl u3 rfl g8) rfl ?_
     have y8 := PT_idx u3 g8
     refine EL_p (fPtr (ePtr j1 o0 3) 0) (P_fieldAddr at_135_0 rfl (PT.ptr y8)) rfl ?_
     have xA := PT_field (part_SeamPlan_0).1 y8
     refine EL_do .plain rfl (D_load (g := t8) Try.isAgg3 Try.sizeOf3 rfl xA fun kC yA => ?_)
     obtain rfl := RV_int.1 yA
     obtain ⟨o3, t9, h⟩ := bsome h
     refine EL_p (.int .i64 (o3)) (P_int rfl rfl (congrArg (Option.map (Value.int .i64)) t9)) rfl ?_
     refine EL_in (.int .i64 ((bit64 .andNot o0 o3))) rfl rfl rfl rfl ?_
     refine EL_at (.int .i64 ((bit64 .andNot o0 o3))) rfl rfl ?_
     exact EL_nil (thn_n (mA (j3, (bit64 .andNot o0 o3)) _ _ ⟨t8, hfr, v8, x8, i6, u3, k8, rfl⟩ h))
  ·clear hx
   obtain ⟨zA, hfr, a9, x5, l8, v6, m8⟩ := hR
   refine E_seq ?_
   obtain ⟨l5, i8, h⟩ := bsome h
   have d9 := PT_idx v6 i8
   have aB := PT_field (part_SeamPlan_2).1 d9
   refine L_load (x := .tmp 58) Try.isAgg3 Try.sizeOf3 aB fun lC bB u9 => ?_
   obtain rfl := RV_int.1 bB
   refine E_drawL (g := zA) (n := 9) [] [0, 1, 2, 3, 4, 5, 6, 7, 8] rfl mixed (by kernel_rfl) trivial ?_
   refine L_p d3 rfl rfl (P_move a9) ?_
   refine L_p j1 rfl rfl (P_move l8) ?_
   refine L_p (.int .i64 ((w64 (((u0).length : Int) - (1 : Int))))) rfl rfl (P_move m8) ?_
   refine L_p (ePtr j1 (w64 (((u0).length : Int) - (1 : Int))) 3) rfl rfl (P_indexAddr (α := SeamPlan) Try.underlying132 Try.sizeOf135 rfl v6 rfl i8) ?_
   refine L_p (fPtr (ePtr j1 (w64 (((u0).length : Int) - (1 : Int))) 3) 2) rfl rfl (P_fieldAddr at_135_2 rfl (PT.ptr d9)) ?_
   refine L_ld (c := .int .i64 ((l5).end_)) rfl rfl .plain (fun _ _ h => h.ch) u9 rfl ?_
   refine L_p d3 rfl rfl (P_assign rfl) ?_
   refine L_p (.int .i64 ((l5).end_)) rfl rfl (P_assign rfl) ?_
   refine L_p (.int .i64 (0)) rfl rfl (P_assign rfl) ?_
   refine L_nl fun mC qC hs => ?_
   have hfr := hfr.ext hs
   have x5 := x5.ext hs
   clear hs
   refine EL_nil (thn_n (E_ret ?_))
   obtain ⟨gp169, hs, rp169⟩ := OM.pub x5
   have hfr := hfr.stp hs
   obtain rfl := sinj h
   exact end3 rfl rfl (show _ = d3 from rfl) (show _ = .int .i64 ((l5).end_) from rfl) (show _ = .int .i64 (0) from rfl) ⟨_, hfr, _, _, _, rfl, rp169, rfl, rfl⟩
def f27 (x0 : TieHarness) (x1 : Design) : Option ((List Str) × Int) :=
 jn (σ := (List Str)) (fun l5 =>
  jn (σ := (List Str)) (fun g7 =>
   Option.bind (α := (List Str)) (
    lp (σ := (List Str) × Int) (fun y9 (q5, o0) =>
     bif (decide (o0 < (((x1).Rows).length : Int))) then
      Option.bind (α := (List Str)) (
       (idx ((x1).Rows) o0).bind fun j6 =>
       (f70 ((⟨x0⟩ : TieTieHarness)) j6).bind fun y81 =>
       (apnd 16 q5 (([y81] : List Str))).bind fun y84 =>
       some (y84)
       ) fun o3 =>
      y9 (o3, (w64 (o0 + (1 : Int))))
     else
      some (q5)
     ) big (g7, (0 : Int))
    ) fun z4 =>
   some (z4, (0 : Int))
   ) fun z9 =>
  (f66 x1).bind fun j3 =>
  bif (j3 != (0 : Int)) then
   some ([], j3)
  else
   bif ((x1).Hooks != (x0).Hooks) then
    some ([], (4 : Int))
   else
    z9 (l5)
  ) fun k7 =>
 (f69 x0).bind fun u3 =>
 bif (u3 != (0 : Int)) then
  some ([], u3)
 else
  k7 ([])
theorem en27 : Enters Try.prog 27 := enters_of Try.func27 (by kernel_rfl) rfl
def f51 (x0 : FaultLoom) : Option (Int) :=
 jn (σ := Unit) (fun _ =>
  jn (σ := Unit) (fun _ =>
   jn (σ := Unit) (fun _ =>
    some ((0 : Int))
    ) fun k33 =>
   bif (((x0).Harness).Hooks != ((x0).Design).Hooks) then
    some ((4 : Int))
   else
    k33 ()
   ) fun k19 =>
  (f66 ((x0).Design)).bind fun y23 =>
  bif (y23 != (0 : Int)) then
   some (y23)
  else
   k19 ()
  ) fun k7 =>
 (f69 ((x0).Harness)).bind fun y11 =>
 bif (y11 != (0 : Int)) then
  some (y11)
 else
  k7 ()
theorem en51 : Enters Try.prog 51 := enters_of Try.func51 (by kernel_rfl) rfl
theorem wk51 {gI : Gh} {wI : World} {x0 : FaultLoom} {up0 : Value} (rp0 : RV gI.m wI x0 up0) {r : Int} (h : f51 x0 = some r) : Fn Try.prog 51 #[up0] gI wI (fun _ _ v => v = .int .i64 (r)) := by
 unfold f51 at h
 refine fn_of_E Try.func51 rfl (Nat.le_of_ble_eq_true rfl) fun g0 hm hfr => ?_
 have rp0 : RV g0.m wI x0 up0 := hm ▸ rp0
 show E _ 24 none _ _ _ _ _
 refine E_seq (E_region (EL_do .plain rfl (D_box (g := g0) rfl rp0 fun g1 w1 p1 hs q1 => ?_)))
 have hfr := hfr.ext hs
 refine EL_at (.int .i64 (0)) rfl rfl ?_
 refine EL_nil (thn_n (E_joinC h (fun (s : Unit) e w => ∃ (g : Gh) , Fr gI wI g w ∧ e 1 = p1 ∧ PT g.m w (x0 : FaultLoom) p1) (fun X7 k7 hk7 h => ?_) ?_))
 ·refine E_seq (E_region (EL_p (fPtr p1 0) (P_fieldAddr at_32_0 rfl (PT.ptr q1)) rfl ?_))
  have q8 := PT_field (part_FaultLoom_0).1 q1
  refine EL_do .plain rfl (D_load (g := g1) Try.isAgg28 Try.sizeOf28 rfl q8 fun v9 r9 => ?_)
  obtain ⟨y11, i5, h⟩ := bsome h
  refine EL_do .plain rfl (D_call (g := g1) (vs := [v9]) en69 (.cons rfl .nil) (wk69 r9 i5) fun x5 d7 m7 hs hr => ?_)
  have hfr := hfr.ext hs
  have q1 := q1.ext hs
  subst hr
  refine EL_at (.int .i64 (y11)) rfl rfl ?_
  refine EL_nil (thn_n (E_seq (E_region (EL_mw (.int .i64 (y11)) rfl rfl ?_))))
  refine EL_in (.bool ((y11 != (0 : Int)))) rfl rfl rfl rfl ?_
  refine EL_nil (thn_n ?_)
  rcases csome h with ⟨j1, h⟩ | ⟨j1, h⟩
  ·refine E_ct j1 rfl ?_
   refine E_seq (E_region (EL_mw (.int .i64 (y11)) rfl rfl ?_))
   refine EL_at (.int .i64 (y11)) rfl rfl ?_
   refine EL_nil (thn_n (E_ret (thn_r ?_)))
   obtain rfl := sinj h
   exact end1 rfl rfl (show _ = .int .i64 (y11) from rfl) ⟨_, hfr, rfl⟩
  ·refine E_cf j1 rfl ?_
   exact E_skip (thn_n (hk7 () _ _ ⟨x5, hfr, rfl, q1⟩ h))
 ·rintro _ e7 n7 ⟨u3, hfr, i3, o0⟩ h
  refine E_joinC h (fun (s : Unit) e w => ∃ (g : Gh) , Fr gI wI g w ∧ e 1 = p1 ∧ PT g.m w (x0 : FaultLoom) p1) (fun X19 k19 l5 h => ?_) ?_
  ·refine E_seq (E_region (EL_p (fPtr p1 2) (P_fieldAddr at_32_1 i3 (PT.ptr o0)) rfl ?_))
   have i6 := PT_field (part_FaultLoom_1).1 o0
   refine EL_do .plain rfl (D_load (g := u3) Try.isAgg30 Try.sizeOf30 rfl i6 fun j6 v6 => ?_)
   obtain ⟨y23, q5, h⟩ := bsome h
   refine EL_do .plain rfl (D_call (g := u3) (vs := [j6]) en66 (.cons rfl .nil) (wk66 v6 q5) fun x6 g7 o7 hs hr => ?_)
   have hfr := hfr.ext hs
   have o0 := o0.ext hs
   subst hr
   refine EL_at (.int .i64 (y23)) rfl rfl ?_
   refine EL_nil (thn_n (E_seq (E_region (EL_mw (.int .i64 (y23)) rfl rfl ?_))))
   refine EL_in (.bool ((y23 != (0 : Int)))) rfl rfl rfl rfl ?_
   refine EL_nil (thn_n ?_)
   rcases csome h with ⟨z2, h⟩ | ⟨z2, h⟩
   ·refine E_ct z2 rfl ?_
    refine E_seq (E_region (EL_mw (.int .i64 (y23)) rfl rfl ?_))
    refine EL_at (.int .i64 (y23)) rfl rfl ?_
    refine EL_nil (thn_n (E_ret (thn_r ?_)))
    obtain rfl := sinj h
    exact end1 rfl rfl (show _ = .int .i64 (y23) from rfl) ⟨_, hfr, rfl⟩
   ·refine E_cf z2 rfl ?_
    exact E_skip (thn_n (l5 () _ _ ⟨x6, hfr, i3, o0⟩ h))
  ·rintro _ i7 u7 ⟨o3, hfr, j3, u0⟩ h
   refine E_joinC h (fun (s : Unit) e w => ∃ (g : Gh) , Fr gI wI g w) (fun X33 k33 t5 h => ?_) ?_
   ·refine E_seq (E_region (EL_p (fPtr p1 0) (P_fieldAddr at_32_0 j3 (PT.ptr u0)) rfl ?_))
    have z3 := PT_field (part_FaultLoom_0).1 u0
    refine EL_p (fPtr (fPtr p1 0) 0) (P_fieldAddr at_28_0 rfl (PT.ptr z3)) rfl ?_
    have y6 := PT_field (part_TieHarness_0).1 z3
    refine EL_do .plain rfl (D_load (g := o3) Try.isAgg3 Try.sizeOf3 rfl y6 fun v7 a7 => ?_)
    obtain rfl := RV_int.1 a7
    refine EL_p (fPtr p1 2) (P_fieldAddr at_32_1 j3 (PT.ptr u0)) rfl ?_
    have z4 := PT_field (part_FaultLoom_1).1 u0
    refine EL_p (fPtr (fPtr p1 2) 0) (P_fieldAddr at_30_0 rfl (PT.ptr z4)) rfl ?_
    have b7 := PT_field (part_Design_0).1 z4
    refine EL_do .plain rfl (D_load (g := o3) Try.isAgg3 Try.sizeOf3 rfl b7 fun c8 c7 => ?_)
    obtain rfl := RV_int.1 c7
    refine EL_in (.bool ((((x0).Harness).Hooks != ((x0).Design).Hooks))) rfl rfl rfl rfl ?_
    refine EL_nil (thn_n ?_)
    rcases csome h with ⟨d3, h⟩ | ⟨d3, h⟩
    ·refine E_ct d3 rfl ?_
     refine E_seq (E_region (EL_at (.int .i64 (4)) rfl rfl ?_))
     refine EL_nil (thn_n (E_ret (thn_r ?_)))
     obtain rfl := sinj h
     exact end1 rfl rfl (show _ = .int .i64 (4) from rfl) ⟨_, hfr, rfl⟩
    ·refine E_cf d3 rfl ?_
     exact E_skip (thn_n (t5 () _ _ ⟨o3, hfr⟩ h))
   ·rintro _ j7 e8 ⟨g8, hfr⟩ h
    refine E_seq (E_region (EL_at (.int .i64 (0)) rfl rfl ?_))
    refine EL_nil (thn_n (E_ret ?_))
    obtain rfl := sinj h
    exact end1 rfl rfl (show _ = .int .i64 (0) from rfl) ⟨_, hfr, rfl⟩
end Go.Proofs.Ytdkgoipaohacgaa
