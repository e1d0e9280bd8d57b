import Derived.Test.YtmpjooneiaiffaaCode3
set_option maxRecDepth 8000
set_option maxHeartbeats 4000000
namespace Go.Proofs.Ytmpjooneiaiffaa
open Go.RowKit
def f32 (x0 : BoxLoom) (x1 : List BoxPick) : Option (Grifferef04Run × Bool) :=
 (f50 x0).bind fun y5 =>
 jn (σ := Grifferef04Run × Grifferef04Run) (fun (y9, m8) =>
  some (m8, true)
  ) fun z9 =>
 lp (σ := Grifferef04Run × Grifferef04Run × Int) (fun bA (j3, j1, i3) =>
  jn (σ := Unit) (fun _ =>
   jn (σ := Grifferef04Run × Grifferef04Run) (fun (j7, m7) =>
    bA (j7, m7, (w64 (i3 + (1 : Int))))
    ) fun gA =>
   (idx x1 i3).bind fun iA =>
   (f61 ((j1).After) iA).bind fun o0 =>
   jn (σ := Grifferef04Run) (fun o7 =>
    (apnd 8 ((j1).Thrown) (([o0.2.1] : List Int))).bind fun u3 =>
    gA (o7, (⟨u3, (o0.1 : BoxLoom), (w64 ((j1).Moves + o0.2.2.1))⟩ : Grifferef04Run))
    ) fun jA =>
   bif (!o0.2.2.2) then
    some (j1, false)
   else
    jA (j3)
   ) fun lA =>
  bif (decide (i3 < ((x1).length : Int))) then
   lA ()
  else
   z9 (j3, j1)
  ) big ((⟨[], ⟨[], [], []⟩, 0⟩ : Grifferef04Run), (⟨[], y5, 0⟩ : Grifferef04Run), (0 : Int))
theorem en32 : Enters Try.prog 32 := enters_of Try.func32 (by kernel_rfl) rfl
theorem wk32 {gI : Gh} {wI : World} {x0 : BoxLoom} {x1 : List BoxPick} {up0 : Value} (rp0 : RV gI.m wI x0 up0) {up1 : Value} (rp1 : RV gI.m wI x1 up1) {r : Grifferef04Run × Bool} (h : f32 x0 x1 = some r) : Fn Try.prog 32 #[up0, up1] gI wI (fun m w v => ∃ y0 y1, v = .tuple #[y0, y1] ∧ RV m w (r.1) y0 ∧ y1 = .bool (r.2)) := by
 unfold f32 at h
 refine fn_of_E Try.func32 rfl (Nat.le_of_ble_eq_true rfl) fun g0 hm hfr => ?_
 have rp0 : RV g0.m wI x0 up0 := hm ▸ rp0
 have rp1 : RV g0.m wI x1 up1 := hm ▸ rp1
 show E _ 48 none _ _ _ _ _
 refine E_seq (E_region (EL_do .plain rfl (D_box (g := g0) rfl rp0 fun g1 w1 p1 hs q1 => ?_)))
 have hfr := hfr.ext hs
 have rp1 := rp1.ext hs
 refine EL_do .plain rfl (D_allocOc (g := g1) 2004 (⟨[], ⟨[], [], []⟩, 0⟩ : Grifferef04Run) Try.zeroValue58 (fun m w => ⟨_, (rep_two rep_nil (rep_two (rep_two rep_nil (rep_two rep_nil rep_nil)) rep_int)), rfl⟩) fun g2 w2 p2 hs b2 cb => ?_)
 have hfr := hfr.stp hs
 have rp1 := rp1.stp hs
 have q1 := q1.stp hs
 have j6 : OSF 2004 60400 0 g2 w2 3 58 ([] : List Int) p2 := cb.osf (by rfl)
 have x6 : OSF 2004 60401 1 g2 w2 3 58 ([] : List Int) p2 := cb.osf (by rfl)
 have y6 : OSF 2004 60402 2 g2 w2 3 58 ([] : List Int) p2 := cb.osf (by rfl)
 have a7 : OSF 2004 60403 3 g2 w2 87 58 ([] : List BoxShuttle) p2 := cb.osf (by rfl)
 clear cb
 refine EL_at (.bool false) rfl rfl ?_
 refine EL_nil (thn_n (E_seq (E_region (EL_do .plain rfl (D_load (g := g2) Try.isAgg25 Try.sizeOf25 rfl q1 fun v3 r3 => ?_)))))
 obtain ⟨y5, hy5, h⟩ := bsome h
 refine EL_do .plain rfl (D_call (g := g2) (vs := [v3]) en50 (.cons rfl .nil) (wk50 r3 hy5) fun g4 w4_ v4 hs hr => ?_)
 have hfr := hfr.ext hs
 have rp1 := rp1.ext hs
 have j6 := j6.ext hs
 have x6 := x6.ext hs
 have y6 := y6.ext hs
 have a7 := a7.ext hs
 have b2 := b2.ext hs
 have r4 := hr
 have r6 : RV g4.m _ (⟨[], y5, 0⟩ : Grifferef04Run) (.agg (setCh [[.slice none 0 0], [.slice none 0 0, .slice none 0 0, .slice none 0 0], [.int .i64 0]] [(1, v4)]).flatten.toArray) := RV_build rfl (rep_pair (rep_nil) (rep_pair (RV.cells r4) (rep_last (rep_int))))
 generalize aD : (Value.agg (setCh [[.slice none 0 0], [.slice none 0 0, .slice none 0 0, .slice none 0 0], [.int .i64 0]] [(1, v4)]).flatten.toArray) = v6 at r6
 refine EL_p v6 (aD ▸ P_build (vs := [(1, v4)]) [[.slice none 0 0], [.slice none 0 0, .slice none 0 0, .slice none 0 0], [.int .i64 0]] lay_58 rfl rfl (.cons rfl .nil) ⟨⟨_, rfl, cells_size r4⟩, trivial⟩) rfl ?_
 refine EL_do .plain rfl (D_allocOc (g := g4) 2006 (⟨[], ⟨[], [], []⟩, 0⟩ : Grifferef04Run) Try.zeroValue58 (fun m w => ⟨_, (rep_two rep_nil (rep_two (rep_two rep_nil (rep_two rep_nil rep_nil)) rep_int)), rfl⟩) fun g7 w7 p7 hs b7 cb => ?_)
 have hfr := hfr.stp hs
 have rp1 := rp1.stp hs
 have j6 := j6.stp hs rfl
 have x6 := x6.stp hs rfl
 have y6 := y6.stp hs rfl
 have a7 := a7.stp hs rfl
 have b2 := b2.stp hs rfl
 have r6 := r6.stp hs
 have jE : OSF 2006 60600 0 g7 w7 3 58 ([] : List Int) p7 := cb.osf (by rfl)
 have kE : OSF 2006 60601 1 g7 w7 3 58 ([] : List Int) p7 := cb.osf (by rfl)
 have lE : OSF 2006 60602 2 g7 w7 3 58 ([] : List Int) p7 := cb.osf (by rfl)
 have mE : OSF 2006 60603 3 g7 w7 87 58 ([] : List BoxShuttle) p7 := cb.osf (by rfl)
 clear cb
 refine EL_do .plain rfl (D_storeOc (g := g7) (v := v6) Try.sizeOf58 rfl b7 rfl r6 fun g8 w8 hs b8 cb => ?_)
 have bD : OSF 2006 60600 0 g8 w8 3 58 ([] : List Int) p7 := cb.osf (by rw [← aD]; rfl)
 clear cb
 have hfr := hfr.stp hs
 have rp1 := rp1.stp hs
 have j6 := j6.stp hs rfl
 have x6 := x6.stp hs rfl
 have y6 := y6.stp hs rfl
 have a7 := a7.stp hs rfl
 have b2 := b2.stp hs rfl
 refine EL_nil (thn_n (E_joinC h (fun (s : Grifferef04Run × Grifferef04Run) e w => ∃ (g : Gh) , Fr gI wI g w ∧ e 4 = p2 ∧ OB 2004 g w 58 (s.1 : Grifferef04Run) p2 ∧ OSF 2004 60400 0 g w 3 58 ((s.1).Thrown) p2 ∧ OSF 2004 60401 1 g w 3 58 (((s.1).After).Boxes) p2 ∧ OSF 2004 60402 2 g w 3 58 (((s.1).After).At) p2 ∧ OSF 2004 60403 3 g w 87 58 (((s.1).After).Shuttles) p2 ∧ e 6 = p7 ∧ OB 2006 g w 58 (s.2 : Grifferef04Run) p7 ∧ OSF 2006 60600 0 g w 3 58 ((s.2).Thrown) p7) (fun X158 z9 dC h => ?_) ?_))
 ·refine E_seq (E_region (EL_at (.int .i64 (0)) rfl rfl ?_))
  refine EL_nil (thn_n (E_block ?_))
  refine E_lp h (fun (s : Grifferef04Run × Grifferef04Run × Int) e w => ∃ (g : Gh) , Fr gI wI g w ∧ e 1 = up1 ∧ RV g.m w (x1 : List BoxPick) up1 ∧ e 4 = p2 ∧ OB 2004 g w 58 (s.1 : Grifferef04Run) p2 ∧ OSF 2004 60400 0 g w 3 58 ((s.1).Thrown) p2 ∧ OSF 2004 60401 1 g w 3 58 (((s.1).After).Boxes) p2 ∧ OSF 2004 60402 2 g w 3 58 (((s.1).After).At) p2 ∧ OSF 2004 60403 3 g w 87 58 (((s.1).After).Shuttles) p2 ∧ e 6 = p7 ∧ OB 2006 g w 58 (s.2.1 : Grifferef04Run) p7 ∧ OSF 2006 60600 0 g w 3 58 ((s.2.1).Thrown) p7 ∧ e 7 = .int .i64 (s.2.2)) ⟨g8, hfr, rfl, rp1, rfl, b2, j6, x6, y6, a7, rfl, b8, bD, rfl⟩ (fun X159 bA eC => ?_)
  rintro ⟨j3, j1, i3⟩ cE nE ⟨mA, hfr, n8, o8, q8, r8, u4_0_160, u4_1_160, u4_2_160, u4_3_160, t8, v8, u6_0_160, x8⟩ h
  refine E_joinC h (fun (s : Unit) e w => ∃ (g : Gh) , Fr gI wI g w ∧ e 1 = up1 ∧ RV g.m w (x1 : List BoxPick) up1 ∧ e 4 = p2 ∧ OB 2004 g w 58 (j3 : Grifferef04Run) p2 ∧ OSF 2004 60400 0 g w 3 58 ((j3).Thrown) p2 ∧ OSF 2004 60401 1 g w 3 58 (((j3).After).Boxes) p2 ∧ OSF 2004 60402 2 g w 3 58 (((j3).After).At) p2 ∧ OSF 2004 60403 3 g w 87 58 (((j3).After).Shuttles) p2 ∧ e 6 = p7 ∧ OB 2006 g w 58 (j1 : Grifferef04Run) p7 ∧ OSF 2006 60600 0 g w 3 58 ((j1).Thrown) p7 ∧ e 7 = .int .i64 (i3)) (fun X162 lA iC h => ?_) ?_
  ·refine E_seq (E_region (EL_mv x8 rfl ?_))
   refine EL_mv n8 rfl ?_
   refine EL_p (.int .i64 ((x1).length : Int)) (P_len Try.underlying30 rfl o8) rfl ?_
   refine EL_in (.bool ((decide (i3 < ((x1).length : Int))))) rfl rfl rfl rfl ?_
   refine EL_nil (thn_n ?_)
   rcases csome h with ⟨c8, h⟩ | ⟨c8, h⟩
   ·refine E_ct c8 rfl ?_
    exact E_skip (thn_n (iC () _ _ ⟨mA, hfr, n8, o8, q8, r8, u4_0_160, u4_1_160, u4_2_160, u4_3_160, t8, v8, u6_0_160, x8⟩ h))
   ·refine E_cf c8 rfl ?_
    refine E_exit ?_
    refine thn_e ?_
    refine thn_e ?_
    refine blk_hit ?_
    exact thn_n (dC (j3, j1) _ _ ⟨mA, hfr, q8, r8, u4_0_160, u4_1_160, u4_2_160, u4_3_160, t8, v8, u6_0_160⟩ h)
  ·rintro _ dE cD ⟨nA, hfr, y8, z4, u7, l5, u4_0_164, u4_1_164, u4_2_164, u4_3_164, v7, z3, u6_0_164, a9⟩ h
   refine E_joinC h (fun (s : Grifferef04Run × Grifferef04Run) e w => ∃ (g : Gh) , Fr gI wI g w ∧ e 1 = up1 ∧ RV g.m w (x1 : List BoxPick) up1 ∧ e 4 = p2 ∧ OB 2004 g w 58 (s.1 : Grifferef04Run) p2 ∧ OSF 2004 60400 0 g w 3 58 ((s.1).Thrown) p2 ∧ OSF 2004 60401 1 g w 3 58 (((s.1).After).Boxes) p2 ∧ OSF 2004 60402 2 g w 3 58 (((s.1).After).At) p2 ∧ OSF 2004 60403 3 g w 87 58 (((s.1).After).Shuttles) p2 ∧ e 6 = p7 ∧ OB 2006 g w 58 (s.2 : Grifferef04Run) p7 ∧ OSF 2006 60600 0 g w 3 58 ((s.2).Thrown) p7 ∧ e 7 = .int .i64 (i3)) (fun X235 gA jC h => ?_) ?_
   ·refine E_block ?_
    refine E_seq (L_loadO (x := .tmp 22) part_Grifferef04Run_1.1 Try.isAgg25 Try.sizeOf25 z3 fun oA eD kC => ?_)
    obtain ⟨iA, o9, h⟩ := bsome h
    have gD := PT_idx z4 o9
    refine L_load (x := .tmp 26) Try.isAgg83 Try.sizeOf83 gD fun pA iD lC => ?_
    obtain ⟨o0, mC, h⟩ := bsome h
    refine E_drawTL (g := nA) (n := 13) [9, 10, 11] [(6, (fun v g w => ∃ y0 y1 y2 y3 : Value, v = .tuple #[y0, y1, y2, y3] ∧ RV g.m w (o0.1 : BoxLoom) y0 ∧ y1 = .int .i64 (o0.2.1) ∧ y2 = .int .i64 (o0.2.2.1) ∧ y3 = .bool (o0.2.2.2))), (12, (fun v g w => OB 2008 g w 25 (⟨[], [], []⟩ : BoxLoom) v))] [0, 1, 2, 3, 4, 5, 6, 7, 8, 9, 10, 11, 12] rfl mixed (by kernel_rfl) (⟨fun _ => (up_ex fun _ => (up_ex fun _ => (up_ex fun _ => (up_ex fun _ => (up_and (up_eq _) (up_and up_rv (up_and (up_eq _) (up_and (up_eq _) (up_eq _))))))))), fun _ => up_ob, trivial⟩) rfl ?_
    refine L_p (fPtr p7 1) rfl rfl (P_fieldAddr at_58_1 v7 (OB.ptr z3)) ?_
    refine L_ld (c := oA) rfl rfl .plain (fun _ _ h => ⟨h.ch, fun b hb _ => h.below.block b hb⟩) kC rfl ?_
    refine L_p up1 rfl rfl (P_move y8) ?_
    refine L_p (.int .i64 (i3)) rfl rfl (P_move a9) ?_
    refine L_p (ePtr up1 i3 2) rfl rfl (P_indexAddr (α := BoxPick) Try.underlying30 Try.sizeOf83 rfl z4 rfl o9) ?_
    refine L_ld (c := pA) rfl rfl .plain (fun _ _ h => h.ch) lC rfl ?_
    refine L_do (φ := fun v g w => ∃ y0 y1 y2 y3 : Value, v = .tuple #[y0, y1, y2, y3] ∧ RV g.m w (o0.1 : BoxLoom) y0 ∧ y1 = .int .i64 (o0.2.1) ∧ y2 = .int .i64 (o0.2.2.1) ∧ y3 = .bool (o0.2.2.2)) rfl rfl .plain (fun g w hd => D_call (g := g) (vs := [oA, pA]) en61 (.cons rfl (.cons rfl .nil)) (wk61 (eD.ext hd.1) (iD.ext hd.1) mC) fun g' w' v hs hr => ⟨g', hs, hr⟩) (fun oE hv => ?_)
    obtain ⟨_, _, _, d7, _, _, _, rfl, zD, rfl, rfl, rfl⟩ := hv
    refine L_p (.tuple #[d7, .int .i64 (o0.2.1), .int .i64 (o0.2.2.1), .bool (o0.2.2.2)]) rfl rfl (P_move rfl) ?_
    refine L_p d7 rfl rfl (P_extract rfl rfl) ?_
    refine L_purL (c := .int .i64 (o0.2.1)) rfl rfl .plain (P_extract rfl rfl) ?_
    refine L_purL (c := .int .i64 (o0.2.2.1)) rfl rfl .plain (P_extract rfl rfl) ?_
    refine L_purL (c := .bool (o0.2.2.2)) rfl rfl .plain (P_extract rfl rfl) ?_
    refine L_do (φ := fun v g w => OB 2008 g w 25 (⟨[], [], []⟩ : BoxLoom) v) rfl rfl .plain (fun g w hd => D_allocX (g := g) 2008 (⟨[], [], []⟩ : BoxLoom) Try.zeroValue25 (fun m w => ⟨_, (rep_two rep_nil (rep_two rep_nil rep_nil)), rfl⟩) fun g' w' v hs b => ⟨g', hs, b⟩) (fun i9 hv => ?_)
    clear hv
    refine L_nil fun qA jD hall => ?_
    have hs := hall.1
    have hlt : Lt nA.m cD qA jD := hs.ch
    have hfr := hfr.ext hs
    have z4 := z4.ext hs
    have u4_0_164 := u4_0_164.ext hs
    have u4_1_164 := u4_1_164.ext hs
    have u4_2_164 := u4_2_164.ext hs
    have u4_3_164 := u4_3_164.ext hs
    have l5 := l5.ext hs
    have u6_0_164 := u6_0_164.ext hs
    have z3 := z3.ext hs
    have kD := (tup4_0 (word_all (A := fun g w => ∃ y0 y1 y2 y3 : Value, Value.tuple #[d7, .int .i64 (o0.2.1), .int .i64 (o0.2.2.1), .bool (o0.2.2.2)] = .tuple #[y0, y1, y2, y3] ∧ RV g.m w (o0.1 : BoxLoom) y0 ∧ y1 = .int .i64 (o0.2.1) ∧ y2 = .int .i64 (o0.2.2.1) ∧ y3 = .bool (o0.2.2.2)) 6 rfl hall))
    have b261 := (word_all (A := fun g w => OB 2008 g w 25 (⟨[], [], []⟩ : BoxLoom) i9) 12 rfl hall)
    clear hs hall
    refine TL_do hlt.w .plain rfl (D_storeOc (g := qA) (v := d7) Try.sizeOf25 rfl b261 rfl kD fun k9 rE hs b262 cb => ?_)
    clear cb
    have hfr := hfr.stp hs
    have hlt := hlt.stp hs
    have z4 := z4.stp hs
    have u4_0_164 := u4_0_164.stp hs rfl
    have u4_1_164 := u4_1_164.stp hs rfl
    have u4_2_164 := u4_2_164.stp hs rfl
    have u4_3_164 := u4_3_164.stp hs rfl
    have l5 := l5.stp hs rfl
    have u6_0_164 := u6_0_164.stp hs rfl
    have z3 := z3.stp hs rfl
    refine TL_pur hlt.w (v := .int .i64 (o0.2.1)) (P_assign rfl) .plain rfl ?_
    refine TL_pur hlt.w (v := .int .i64 (o0.2.2.1)) (P_assign rfl) .plain rfl ?_
    refine TL_pur hlt.w (v := .bool (o0.2.2.2)) (P_assign rfl) .plain rfl ?_
    refine TL_nil hlt.w ?_
    clear hlt
    refine thn_n (E_joinC h (fun (s : Grifferef04Run) e w => ∃ (g : Gh) , Fr gI wI g w ∧ e 1 = up1 ∧ RV g.m w (x1 : List BoxPick) up1 ∧ e 4 = p2 ∧ OB 2004 g w 58 (s : Grifferef04Run) p2 ∧ OSF 2004 60400 0 g w 3 58 ((s).Thrown) p2 ∧ OSF 2004 60401 1 g w 3 58 (((s).After).Boxes) p2 ∧ OSF 2004 60402 2 g w 3 58 (((s).After).At) p2 ∧ OSF 2004 60403 3 g w 87 58 (((s).After).Shuttles) p2 ∧ e 6 = p7 ∧ OB 2006 g w 58 (j1 : Grifferef04Run) p7 ∧ OSF 2006 60600 0 g w 3 58 ((j1).Thrown) p7 ∧ e 7 = .int .i64 (i3) ∧ e 8 = i9 ∧ OB 2008 g w 25 ((o0.1 : BoxLoom) : BoxLoom) i9 ∧ e 9 = .int .i64 (o0.2.1) ∧ e 10 = .int .i64 (o0.2.2.1)) (fun X267 jA qC h => ?_) ?_)
    ·refine E_seq (E_region (EL_mw (.bool (o0.2.2.2)) rfl rfl ?_))
     refine EL_p (.bool (!o0.2.2.2)) (P_not rfl) rfl ?_
     refine EL_nil (thn_n ?_)
     rcases csome h with ⟨i8, h⟩ | ⟨i8, h⟩
     ·refine E_ct i8 rfl ?_
      refine E_seq (E_region (EL_do .plain rfl (D_loadO (g := k9) Try.isAgg58 Try.sizeOf58 v7 z3 fun lD mD => ?_)))
      refine EL_do .plain rfl (D_storeOc (g := k9) (v := lD) Try.sizeOf58 u7 l5 rfl mD fun sE tE hs b270 cb => ?_)
      clear cb
      have hfr := hfr.stp hs
      refine EL_at (.bool false) rfl rfl ?_
      refine EL_nil (thn_n (E_ret (thn_r ?_)))
      refine blk_r ?_
      refine thn_r ?_
      refine thn_r ?_
      refine blk_r ?_
      refine thn_r ?_
      obtain rfl := sinj h
      obtain ⟨ad271, cv271, hp271, rC, cr271⟩ := ob_read Try.isAgg58 Try.sizeOf58 b270
      exact endm_ct rfl rfl ((show _ = p2 from u7).trans hp271) rC (show _ = .bool false from rfl) ⟨_, hfr, _, _, rfl, cr271, rfl⟩
     ·refine E_cf i8 rfl ?_
      exact E_skip (thn_n (qC (j3) _ _ ⟨k9, hfr, y8, z4, u7, l5, u4_0_164, u4_1_164, u4_2_164, u4_3_164, v7, z3, u6_0_164, a9, rfl, b262, rfl, rfl⟩ h))
    ·rintro o7 eE nD ⟨oD, hfr, rA, x5, uA, i6, u4_0_272, u4_1_272, u4_2_272, u4_3_272, i7, i5, u6_0_272, xA, yA, zA, aB, u9⟩ h
     refine L_loadFS (x := .tmp 36) part_Grifferef04Run_0.1 Try.isAgg22 Try.sizeOf22 i5 u6_0_272 fun bB sD o279 tC => ?_
     obtain ⟨u3, uC, h⟩ := bsome h
     refine L_loadO0 (x := .tmp 8) Try.isAgg25 Try.sizeOf25 zA fun k8 l8 vC => ?_
     refine L_loadO (x := .tmp 42) part_Grifferef04Run_2.1 Try.isAgg3 Try.sizeOf3 i5 fun uE tD xC => ?_
     obtain rfl := RV_int.1 tD
     refine E_drawAS (g := oD) (w := nD) (i := 60600) (et := 3) (xs := ((j1).Thrown : List Int)) (r := u3) (u := bB) sD o279 (n := 10) [(3, (fun v g w => RV g.m w ([o0.2.1] : List Int) v ∧ OS 3039 g w 3 ([o0.2.1] : List Int) v ∧ FullV v)), (4, (fun v g w => RV g.m w u3 v ∧ OS 60600 g w 3 u3 v))] [0, 1, 2, 3, 4, 5, 6, 7, 8, 9] rfl mixed (by kernel_rfl) (⟨fun _ => up_and upS_rv (up_and upS_os (upS_eq _)), fun _ => up_as, trivial⟩) ?_
     refine L_p (fPtr p7 0) rfl rfl (P_fieldAddr at_58_0 i7 (OB.ptr i5)) ?_
     refine L_ld (c := bB) rfl rfl .plain (fun _ _ h => ⟨h.1.ch, fun b hb ho => h.1.block b hb (by rw [ho]; decide)⟩) tC rfl ?_
     refine L_p (.int .i64 (o0.2.1)) rfl rfl (P_move aB) ?_
     refine L_do (φ := fun v g w => RV g.m w ([o0.2.1] : List Int) v ∧ OS 3039 g w 3 ([o0.2.1] : List Int) v ∧ FullV v) rfl rfl .plain (fun g w hd => D_buildSlice (g := g) 3039 (xs := ([o0.2.1] : List Int)) (vs := [.int .i64 (o0.2.1)]) Try.underlying22 Try.sizeOf3 Try.zeroValue3 rfl rfl (.cons rfl .nil) (RVs.cons (RV_int.2 rfl) RVs.nil) rfl rfl fun g' w' v hs o r hxt hfl => ⟨g', as_ext hxt, r, o, hfl⟩) (fun t5 hv => ?_)
     clear hv
     refine L_do (φ := fun v g w => RV g.m w u3 v ∧ OS 60600 g w 3 u3 v) rfl rfl .plain (fun g w hd => D_appendS (g := g) det_int rfl Try.underlying22 info_3 rfl rfl hd.1.2 rfl (word (A := fun g w => RV g.m w ([o0.2.1] : List Int) t5 ∧ OS 3039 g w 3 ([o0.2.1] : List Int) t5 ∧ FullV t5) 3 rfl rfl (deps_of hd)).1 uC) (fun c7 hv => ?_)
     clear hv
     refine L_ld (c := k8) rfl rfl .plain (fun _ _ h => ⟨h.1.ch, fun b hb ho => h.1.block b hb (by rw [ho]; decide)⟩) vC yA ?_
     refine L_p (fPtr p7 4) rfl rfl (P_fieldAddr at_58_2 i7 (OB.ptr i5)) ?_
     refine L_ld (c := .int .i64 ((j1).Moves)) rfl rfl .plain (fun _ _ h => ⟨h.1.ch, fun b hb ho => h.1.block b hb (by rw [ho]; decide)⟩) xC rfl ?_
     refine L_p (.int .i64 (o0.2.2.1)) rfl rfl (P_move u9) ?_
     refine L_p (.int .i64 ((w64 ((j1).Moves + o0.2.2.1)))) rfl rfl (P_int rfl rfl rfl) ?_
     refine L_nil fun cB vE hall => ?_
     have hs := hall.1.1
     have hfr := hfr.stp hs
     have x5 := x5.stp hs
     have u4_0_272 := u4_0_272.stp hs rfl
     have u4_1_272 := u4_1_272.stp hs rfl
     have u4_2_272 := u4_2_272.stp hs rfl
     have u4_3_272 := u4_3_272.stp hs rfl
     have i6 := i6.stp hs rfl
     have i5 := i5.stp hs rfl
     have l8 := l8.stp hs
     have xE := (word_all (A := fun g w => RV g.m w ([o0.2.1] : List Int) t5 ∧ OS 3039 g w 3 ([o0.2.1] : List Int) t5 ∧ FullV t5) 3 rfl hall).1
     have o297 := (word_all (A := fun g w => RV g.m w ([o0.2.1] : List Int) t5 ∧ OS 3039 g w 3 ([o0.2.1] : List Int) t5 ∧ FullV t5) 3 rfl hall).2.1
     have l9 := (word_all (A := fun g w => RV g.m w u3 c7 ∧ OS 60600 g w 3 u3 c7) 4 rfl hall).1
     have o298 := (word_all (A := fun g w => RV g.m w u3 c7 ∧ OS 60600 g w 3 u3 c7) 4 rfl hall).2
     clear hs hall
     have dB : RV cB.m _ (⟨u3, (o0.1 : BoxLoom), (w64 ((j1).Moves + o0.2.2.1))⟩ : Grifferef04Run) (.agg (setCh [[.slice none 0 0], [.slice none 0 0, .slice none 0 0, .slice none 0 0], [.int .i64 0]] [(0, c7), (1, k8), (2, .int .i64 ((w64 ((j1).Moves + o0.2.2.1))))]).flatten.toArray) := RV_build rfl (rep_pair (RV.cells l9) (rep_pair (RV.cells l8) (rep_last (rfl))))
     generalize t9 : (Value.agg (setCh [[.slice none 0 0], [.slice none 0 0, .slice none 0 0, .slice none 0 0], [.int .i64 0]] [(0, c7), (1, k8), (2, .int .i64 ((w64 ((j1).Moves + o0.2.2.1))))]).flatten.toArray) = eB at dB
     refine EL_p eB (t9 ▸ P_build (vs := [(0, c7), (1, k8), (2, .int .i64 ((w64 ((j1).Moves + o0.2.2.1))))]) [[.slice none 0 0], [.slice none 0 0, .slice none 0 0, .slice none 0 0], [.int .i64 0]] lay_58 rfl rfl (.cons rfl (.cons rfl (.cons rfl .nil))) ⟨⟨_, rfl, cells_size l9⟩, ⟨⟨_, rfl, cells_size l8⟩, ⟨⟨_, rfl, rfl⟩, trivial⟩⟩⟩) rfl ?_
     refine EL_do .plain rfl (D_storeOc (g := cB) (v := eB) Try.sizeOf58 i7 i5 rfl dB fun iB uD hs b305 cb => ?_)
     obtain ⟨aE, bE, n9, _, _⟩ := RV_list l9
     have jB : OSF 2006 60600 0 iB uD 3 58 (u3 : List Int) p7 := cb.osfv (by rw [← t9, n9]; rfl) (o298.stp hs rfl)
     clear cb
     have hfr := hfr.stp hs
     have x5 := x5.stp hs
     have u4_0_272 := u4_0_272.stp hs rfl
     have u4_1_272 := u4_1_272.stp hs rfl
     have u4_2_272 := u4_2_272.stp hs rfl
     have u4_3_272 := u4_3_272.stp hs rfl
     have i6 := i6.stp hs rfl
     exact EL_nil (blk_n (thn_n (jC (o7, (⟨u3, (o0.1 : BoxLoom), (w64 ((j1).Moves + o0.2.2.1))⟩ : Grifferef04Run)) _ _ ⟨iB, hfr, rA, x5, uA, i6, u4_0_272, u4_1_272, u4_2_272, u4_3_272, i7, b305, jB, xA⟩ h)))
   ·rintro ⟨j7, m7⟩ gE yE ⟨vD, hfr, lB, mB, nB, oB, u4_0_306, u4_1_306, u4_2_306, u4_3_306, tB, vB, u6_0_306, xB⟩ h
    refine E_region (EL_mv xB rfl ?_)
    refine EL_in (.int .i64 ((w64 (i3 + (1 : Int))))) rfl rfl rfl rfl ?_
    refine EL_at (.int .i64 ((w64 (i3 + (1 : Int))))) rfl rfl ?_
    exact EL_nil (thn_n (eC (j7, m7, (w64 (i3 + (1 : Int)))) _ _ ⟨vD, hfr, lB, mB, nB, oB, u4_0_306, u4_1_306, u4_2_306, u4_3_306, tB, vB, u6_0_306, rfl⟩ h))
 ·rintro ⟨y9, m8⟩ iE zE ⟨yB, hfr, d9, zB, u4_0_307, u4_1_307, u4_2_307, u4_3_307, aC, cC, u6_0_307⟩ h
  refine E_seq (E_region (EL_do .plain rfl (D_loadO (g := yB) Try.isAgg58 Try.sizeOf58 aC cC fun xD yD => ?_)))
  refine EL_do .plain rfl (D_storeOc (g := yB) (v := xD) Try.sizeOf58 d9 zB rfl yD fun cF dF hs b309 cb => ?_)
  clear cb
  have hfr := hfr.stp hs
  refine EL_at (.bool true) rfl rfl ?_
  refine EL_nil (thn_n (E_ret ?_))
  obtain rfl := sinj h
  obtain ⟨ad310, cv310, hp310, yC, cr310⟩ := ob_read Try.isAgg58 Try.sizeOf58 b309
  exact endm_ct rfl rfl ((show _ = p2 from d9).trans hp310) yC (show _ = .bool true from rfl) ⟨_, hfr, _, _, rfl, cr310, rfl⟩
def f37 (x0 : BoxLoom) (x1 : List BoxPick) : Option (Int × Bool) :=
 lp (σ := BoxLoom × Int) (fun k5 (v6, o0) =>
  jn (σ := BoxLoom) (fun l5 =>
   k5 (l5, (w64 (o0 + (1 : Int))))
   ) fun n8 =>
  (f32 v6 x1).bind fun j1 =>
  jn (σ := Unit) (fun _ =>
   (f77 ((j1.1).After) x0).bind fun y40 =>
   bif y40 then
    some (o0, true)
   else
    n8 ((j1.1).After)
   ) fun o8 =>
  bif (!j1.2) then
   some ((0 : Int), false)
  else
   o8 ()
  ) big (x0, (1 : Int))
theorem en37 : Enters Try.prog 37 := enters_of Try.func37 (by kernel_rfl) rfl
theorem wk37 {gI : Gh} {wI : World} {x0 : BoxLoom} {x1 : List BoxPick} {up0 : Value} (rp0 : RV gI.m wI x0 up0) {up1 : Value} (rp1 : RV gI.m wI x1 up1) {r : Int × Bool} (h : f37 x0 x1 = some r) : Fn Try.prog 37 #[up0, up1] gI wI (fun m w v => ∃ y0 y1, v = .tuple #[y0, y1] ∧ y0 = .int .i64 (r.1) ∧ y1 = .bool (r.2)) := by
 unfold f37 at h
 refine fn_of_E Try.func37 rfl (Nat.le_of_ble_eq_true rfl) fun g0 hm hfr => ?_
 have rp0 : RV g0.m wI x0 up0 := hm ▸ rp0
 have rp1 : RV g0.m wI x1 up1 := hm ▸ rp1
 show E _ 27 none _ _ _ _ _
 refine E_seq (E_region (EL_do .plain rfl (D_box (g := g0) rfl rp0 fun g1 w1 p1 hs q1 => ?_)))
 have hfr := hfr.ext hs
 have rp1 := rp1.ext hs
 refine EL_at (.int .i64 (0)) rfl rfl ?_
 refine EL_at (.bool false) rfl rfl ?_
 refine EL_nil (thn_n (E_seq (E_region (EL_do .plain rfl (D_load (g := g1) Try.isAgg25 Try.sizeOf25 rfl q1 fun v2 r2 => ?_)))))
 refine EL_do .plain rfl (D_allocOc (g := g1) 2006 (⟨[], [], []⟩ : BoxLoom) Try.zeroValue25 (fun m w => ⟨_, (rep_two rep_nil (rep_two rep_nil rep_nil)), rfl⟩) fun g3 w3 p3 hs b3 cb => ?_)
 have hfr := hfr.stp hs
 have rp1 := rp1.stp hs
 have q1 := q1.stp hs
 have r2 := r2.stp hs
 have oA : OSF 2006 60600 0 g3 w3 3 25 ([] : List Int) p3 := cb.osf (by rfl)
 have pA : OSF 2006 60601 1 g3 w3 3 25 ([] : List Int) p3 := cb.osf (by rfl)
 have qA : OSF 2006 60602 2 g3 w3 87 25 ([] : List BoxShuttle) p3 := cb.osf (by rfl)
 clear cb
 refine EL_do .plain rfl (D_storeOc (g := g3) (v := v2) Try.sizeOf25 rfl b3 rfl r2 fun g4 w4 hs b4 cb => ?_)
 clear cb
 have hfr := hfr.stp hs
 have rp1 := rp1.stp hs
 have q1 := q1.stp hs
 refine EL_nil (thn_n (E_seq (E_region (EL_at (.int .i64 (1)) rfl rfl ?_))))
 refine EL_nil (thn_n (E_block ?_))
 refine E_lp h (fun (s : BoxLoom × Int) e w => ∃ (g : Gh) , Fr gI wI g w ∧ e 1 = up1 ∧ RV g.m w (x1 : List BoxPick) up1 ∧ e 2 = p1 ∧ PT g.m w (x0 : BoxLoom) p1 ∧ e 6 = p3 ∧ OB 2006 g w 25 (s.1 : BoxLoom) p3 ∧ e 7 = .int .i64 (s.2)) ⟨g4, hfr, rfl, rp1, rfl, q1, rfl, b4, rfl⟩ (fun X5 k5 hk5 => ?_)
 rintro ⟨v6, o0⟩ zA w6 ⟨g6, hfr, g7, i3, r8, z3, i7, j3, t8⟩ h
 refine E_joinC h (fun (s : BoxLoom) e w => ∃ (g : Gh) , Fr gI wI g w ∧ e 1 = up1 ∧ RV g.m w (x1 : List BoxPick) up1 ∧ e 2 = p1 ∧ PT g.m w (x0 : BoxLoom) p1 ∧ e 6 = p3 ∧ OB 2006 g w 25 (s : BoxLoom) p3 ∧ e 7 = .int .i64 (o0)) (fun X24 n8 v8 h => ?_) ?_
 ·refine E_block ?_
  refine E_seq (E_region (EL_do .plain rfl (D_loadO (g := g6) Try.isAgg25 Try.sizeOf25 i7 j3 fun d9 i9 => ?_)))
  refine EL_mv g7 rfl ?_
  obtain ⟨j1, x8, h⟩ := bsome h
  refine EL_do .plain rfl (D_call (g := g6) (vs := [d9, up1]) en32 (.cons rfl (.cons rfl .nil)) (wk32 i9 i3 x8) fun k9 rA aB hs hr => ?_)
  have hfr := hfr.ext hs
  have i3 := i3.ext hs
  have z3 := z3.ext hs
  have j3 := j3.ext hs
  obtain ⟨t5, iA, rfl, x5, rfl⟩ := hr
  refine EL_mw (.tuple #[t5, .bool (j1.2)]) rfl rfl ?_
  refine EL_p t5 (P_extract rfl rfl) rfl ?_
  refine EL_p (.bool (j1.2)) (P_extract rfl rfl) rfl ?_
  refine EL_do .plain rfl (D_allocOc (g := k9) 2008 (⟨[], ⟨[], [], []⟩, 0⟩ : Grifferef04Run) Try.zeroValue58 (fun m w => ⟨_, (rep_two rep_nil (rep_two (rep_two rep_nil (rep_two rep_nil rep_nil)) rep_int)), rfl⟩) fun j6 a7 i5 hs b28 cb => ?_)
  have hfr := hfr.stp hs
  have i3 := i3.stp hs
  have z3 := z3.stp hs
  have j3 := j3.stp hs rfl
  have x5 := x5.stp hs
  have jA : OSF 2008 60800 0 j6 a7 3 58 ([] : List Int) i5 := cb.osf (by rfl)
  have lA : OSF 2008 60801 1 j6 a7 3 58 ([] : List Int) i5 := cb.osf (by rfl)
  have mA : OSF 2008 60802 2 j6 a7 3 58 ([] : List Int) i5 := cb.osf (by rfl)
  have nA : OSF 2008 60803 3 j6 a7 87 58 ([] : List BoxShuttle) i5 := cb.osf (by rfl)
  clear cb
  refine EL_do .plain rfl (D_storeOc (g := j6) (v := t5) Try.sizeOf58 rfl b28 rfl x5 fun l9 bB hs b29 cb => ?_)
  clear cb
  have hfr := hfr.stp hs
  have i3 := i3.stp hs
  have z3 := z3.stp hs
  have j3 := j3.stp hs rfl
  refine EL_at (.bool (j1.2)) rfl rfl ?_
  refine EL_nil (thn_n (E_joinC h (fun (s : Unit) e w => ∃ (g : Gh) , Fr gI wI g w ∧ e 1 = up1 ∧ RV g.m w (x1 : List BoxPick) up1 ∧ e 2 = p1 ∧ PT g.m w (x0 : BoxLoom) p1 ∧ e 6 = p3 ∧ OB 2006 g w 25 (v6 : BoxLoom) p3 ∧ e 7 = .int .i64 (o0) ∧ e 8 = i5 ∧ OB 2008 g w 58 (j1.1 : Grifferef04Run) i5) (fun X31 o8 y8 h => ?_) ?_))
  ·refine E_seq (E_region (EL_mw (.bool (j1.2)) rfl rfl ?_))
   refine EL_p (.bool (!j1.2)) (P_not rfl) rfl ?_
   refine EL_nil (thn_n ?_)
   rcases csome h with ⟨x6, h⟩ | ⟨x6, h⟩
   ·refine E_ct x6 rfl ?_
    refine E_seq (E_region (EL_at (.int .i64 (0)) rfl rfl ?_))
    refine EL_at (.bool false) rfl rfl ?_
    refine EL_nil (thn_n (E_ret (thn_r ?_)))
    refine blk_r ?_
    refine thn_r ?_
    refine thn_r ?_
    refine blk_r ?_
    obtain rfl := sinj h
    exact end2 rfl rfl (show _ = .int .i64 (0) from rfl) (show _ = .bool false from rfl) ⟨_, hfr, _, _, rfl, rfl, rfl⟩
   ·refine E_cf x6 rfl ?_
    exact E_skip (thn_n (y8 () _ _ ⟨l9, hfr, g7, i3, r8, z3, i7, j3, t8, rfl, b29⟩ h))
  ·rintro _ uA cB ⟨q8, hfr, m7, z4, b7, u3, i6, o7, c7, u7, d7⟩ h
   refine E_seq (E_region (EL_p (fPtr i5 1) (P_fieldAddr at_58_1 u7 (OB.ptr d7)) rfl ?_))
   refine EL_do .plain rfl (D_loadF (g := q8) part_Grifferef04Run_1.1 Try.isAgg25 Try.sizeOf25 rfl d7 fun n9 o9 => ?_)
   refine EL_do .plain rfl (D_storeOc (g := q8) (v := n9) Try.sizeOf25 i6 o7 rfl o9 fun j7 dB hs b36 cb => ?_)
   clear cb
   have hfr := hfr.stp hs
   have z4 := z4.stp hs
   have u3 := u3.stp hs
   refine EL_nil (thn_n (E_seq (E_region (EL_do .plain rfl (D_loadO (g := j7) Try.isAgg25 Try.sizeOf25 i6 b36 fun t9 u9 => ?_)))))
   refine EL_do .plain rfl (D_load (g := j7) Try.isAgg25 Try.sizeOf25 b7 u3 fun y9 z9 => ?_)
   obtain ⟨y40, a9, h⟩ := bsome h
   refine EL_do .plain rfl (D_call (g := j7) (vs := [t9, y9]) en77 (.cons rfl (.cons rfl .nil)) (wk77 u9 z9 a9) fun bA xA eB hs hr => ?_)
   have hfr := hfr.ext hs
   have z4 := z4.ext hs
   have u3 := u3.ext hs
   have b36 := b36.ext hs
   subst hr
   refine EL_nil (thn_n ?_)
   rcases csome h with ⟨y6, h⟩ | ⟨y6, h⟩
   ·refine E_ct y6 rfl ?_
    refine E_seq (E_region (EL_mv c7 rfl ?_))
    refine EL_at (.int .i64 (o0)) rfl rfl ?_
    refine EL_at (.bool true) rfl rfl ?_
    refine EL_nil (thn_n (E_ret (blk_r ?_)))
    refine thn_r ?_
    refine thn_r ?_
    refine blk_r ?_
    obtain rfl := sinj h
    exact end2 rfl rfl (show _ = .int .i64 (o0) from rfl) (show _ = .bool true from rfl) ⟨_, hfr, _, _, rfl, rfl, rfl⟩
   ·refine E_cf y6 rfl ?_
    exact E_skip (blk_n (thn_n (v8 ((j1.1).After) _ _ ⟨bA, hfr, m7, z4, b7, u3, i6, b36, c7⟩ h)))
 ·rintro l5 yA iB ⟨gA, hfr, v7, c8, g8, i8, k8, l8, m8⟩ h
  refine E_region (EL_mv m8 rfl ?_)
  refine EL_in (.int .i64 ((w64 (o0 + (1 : Int))))) rfl rfl rfl rfl ?_
  refine EL_at (.int .i64 ((w64 (o0 + (1 : Int))))) rfl rfl ?_
  exact EL_nil (thn_n (hk5 (l5, (w64 (o0 + (1 : Int)))) _ _ ⟨gA, hfr, v7, c8, g8, i8, k8, l8, rfl⟩ h))
def f83 (x0 : BoxShuttle) (z0 : BoxBoxLoom) : Option (Bool) :=
 (f84 z0 x0).bind fun y5 =>
 some ((!y5))
theorem en83 : Enters Try.prog 83 := enters_of Try.func83 (by kernel_rfl) rfl
theorem wk83 {gI : Gh} {wI : World} {x0 : BoxShuttle} {z0 : BoxBoxLoom} {up0 : Value} (rp0 : RV gI.m wI x0 up0) {pf0 : Value} (qf0 : PT gI.m wI z0 pf0) {r : Bool} (h : f83 x0 z0 = some r) : Fn Try.prog 83 #[up0, pf0] gI wI (fun _ _ v => v = .bool (r)) := by
 unfold f83 at h
 refine fn_of_E Try.func83 rfl (Nat.le_of_ble_eq_true rfl) fun g0 hm hfr => ?_
 have qf0 : PT g0.m wI z0 pf0 := hm ▸ qf0
 have rp0 : RV g0.m wI x0 up0 := hm ▸ rp0
 show E _ 8 none _ _ _ _ _
 refine E_seq (E_region (EL_do .plain rfl (D_box (g := g0) rfl rp0 fun g1 w1 p1 hs q1 => ?_)))
 have hfr := hfr.ext hs
 have qf0 := qf0.ext hs
 refine EL_at (.bool false) rfl rfl ?_
 refine EL_nil (thn_n (E_seq (E_region (EL_do .plain rfl (D_load (g := g1) Try.isAgg102 Try.sizeOf102 rfl qf0 fun v2 r2 => ?_)))))
 refine EL_do .plain rfl (D_load (g := g1) Try.isAgg87 Try.sizeOf87 rfl q1 fun v3 r3 => ?_)
 obtain ⟨y5, hy5, h⟩ := bsome h
 refine EL_do .plain rfl (D_call (g := g1) (vs := [v2, v3]) en84 (.cons rfl (.cons rfl .nil)) (wk84 r2 r3 hy5) fun g4 w4_ v4 hs hr => ?_)
 have hfr := hfr.ext hs
 subst hr
 refine EL_p (.bool (!y5)) (P_not rfl) rfl ?_
 refine EL_at (.bool (!y5)) rfl rfl ?_
 refine EL_nil (thn_n (E_ret ?_))
 obtain rfl := sinj h
 exact end1 rfl rfl (show _ = .bool (!y5) from rfl) ⟨_, hfr, rfl⟩
def f108 : Nat → (List Int) → (Int) → (Int) → (Int) → Option ((List Int))
 | 0, _, _, _, _ => none
 | n + 1, x0, x1, x2, x3 =>
  lp (σ := (List Int) × Int × Int × Int × Bool × Bool) (fun k1 (u3, o0, j1, i3, j3, z3) =>
   jn (σ := (List Int)) (fun z4 =>
    jn (σ := (List Int)) (fun i6 =>
     Option.bind (α := Int) (
      bif (!j3) then
       none
      else
       some (i3)
      ) fun j6 =>
     none
     ) fun t8 =>
    bif (i3 == (0 : Int)) then
     none
    else
     t8 (z4)
    ) fun k6 =>
   bif (decide ((w64 (j1 - o0)) ≤ (12 : Int))) then
    (f110 u3 o0 j1).bind fun y9 =>
    some (y9)
   else
    k6 (u3)
   ) big (x0, x1, x2, x3, true, true)
def f51 (x0 : BoxLoom) : Option (BoxBoxLoom × Int) :=
 jn (σ := BoxBoxLoom) (fun o0 =>
  Option.bind (α := (List ((Vector Int 2) × Bool))) (
   lp (σ := (List ((Vector Int 2) × Bool)) × Int) (fun aB (u7, j1) =>
    bif (decide (j1 < (((x0).Shuttles).length : Int))) then
     Option.bind (α := (List ((Vector Int 2) × Bool))) (
      (idx ((x0).Shuttles) j1).bind fun t5 =>
      some ((mset u7 ((⟨List.toArray [(t5).Side, (t5).Box], rfl⟩ : Vector Int 2)) true))
      ) fun g7 =>
     aB (g7, (w64 (j1 + (1 : Int))))
    else
     some (u7)
    ) big (([] : List ((Vector Int 2) × Bool)), (0 : Int))
   ) fun i7 =>
  jn (σ := BoxBoxLoom) (fun bB =>
   some ((⟨x0⟩ : BoxBoxLoom), (0 : Int))
   ) fun cB =>
  bif (decide (((i7).length : Int) < (((x0).Shuttles).length : Int))) then
   some ((⟨x0⟩ : BoxBoxLoom), (6 : Int))
  else
   cB (o0)
  ) fun k54 =>
 Option.bind (α := Bool) (
  bif ((((x0).Boxes).length : Int) != (2 : Int)) then
   some (((((x0).Boxes).length : Int) != (2 : Int)))
  else
   some (((((x0).At).length : Int) != (2 : Int)))
  ) fun j6 =>
 bif j6 then
  some ((⟨x0⟩ : BoxBoxLoom), (4 : Int))
 else
  (f85 ((⟨x0⟩ : BoxBoxLoom))).bind fun mA =>
  bif (!mA) then
   some ((⟨x0⟩ : BoxBoxLoom), (3 : Int))
  else
   bif (decide ((((x0).Shuttles).length : Int) > (6 : Int))) then
    some ((⟨x0⟩ : BoxBoxLoom), (5 : Int))
   else
    Option.bind (α := Bool) (
     bif ((((x0).Shuttles).length : Int) == (0 : Int)) then
      some (((((x0).Shuttles).length : Int) == (0 : Int)))
     else
      (f86 ((x0).Shuttles) ((fun a0 => f83 a0 ((⟨x0⟩ : BoxBoxLoom))))).bind fun dB =>
      some (dB)
     ) fun v6 =>
    bif v6 then
     some ((⟨x0⟩ : BoxBoxLoom), (2 : Int))
    else
     k54 ((⟨⟨[], [], []⟩⟩ : BoxBoxLoom))
theorem en51 : Enters Try.prog 51 := enters_of Try.func51 (by kernel_rfl) rfl
theorem wk51 {gI : Gh} {wI : World} {x0 : BoxLoom} {up0 : Value} (rp0 : RV gI.m wI x0 up0) {r : BoxBoxLoom × Int} (h : f51 x0 = some r) : Fn Try.prog 51 #[up0] gI wI (fun m w v => ∃ y0 y1, v = .tuple #[y0, y1] ∧ RV m w (r.1) y0 ∧ y1 = .int .i64 (r.2)) := by
 unfold f51 at h
 refine fn_of_E Try.func51 rfl (Nat.le_of_ble_eq_true rfl) fun g0 hm hfr => ?_
 have rp0 : RV g0.m wI x0 up0 := hm ▸ rp0
 show E _ 66 none _ _ _ _ _
 refine E_seq (E_region (EL_do .plain rfl (D_box (g := g0) rfl rp0 fun g1 w1 p1 hs q1 => ?_)))
 have hfr := hfr.ext hs
 refine EL_do .plain rfl (D_allocOc (g := g1) 2002 (⟨⟨[], [], []⟩⟩ : BoxBoxLoom) Try.zeroValue102 (fun m w => ⟨_, (rep_two rep_nil (rep_two rep_nil rep_nil)), rfl⟩) fun g2 w2 p2 hs b2 cb => ?_)
 have hfr := hfr.stp hs
 have q1 := q1.stp hs
 have x6 : OSF 2002 60200 0 g2 w2 3 102 ([] : List Int) p2 := cb.osf (by rfl)
 have y6 : OSF 2002 60201 1 g2 w2 3 102 ([] : List Int) p2 := cb.osf (by rfl)
 have a7 : OSF 2002 60202 2 g2 w2 87 102 ([] : List BoxShuttle) p2 := cb.osf (by rfl)
 clear cb
 refine EL_at (.int .i64 (0)) rfl rfl ?_
 refine EL_nil (thn_n (E_seq (E_region (EL_do .plain rfl (D_load (g := g2) Try.isAgg25 Try.sizeOf25 rfl q1 fun v3 r3 => ?_)))))
 have r4 : RV g2.m _ (⟨x0⟩ : BoxBoxLoom) (.agg (setCh [[.slice none 0 0, .slice none 0 0, .slice none 0 0]] [(0, v3)]).flatten.toArray) := RV_build rfl (rep_last (RV.cells r3))
 generalize lE : (Value.agg (setCh [[.slice none 0 0, .slice none 0 0, .slice none 0 0]] [(0, v3)]).flatten.toArray) = v4 at r4
 refine EL_p v4 (lE ▸ P_build (vs := [(0, v3)]) [[.slice none 0 0, .slice none 0 0, .slice none 0 0]] lay_102 rfl rfl (.cons rfl .nil) ⟨⟨_, rfl, cells_size r3⟩, trivial⟩) rfl ?_
 refine EL_do .plain rfl (D_allocOc (g := g2) 2004 (⟨⟨[], [], []⟩⟩ : BoxBoxLoom) Try.zeroValue102 (fun m w => ⟨_, (rep_two rep_nil (rep_two rep_nil rep_nil)), rfl⟩) fun g5 w5 p5 hs b5 cb => ?_)
 have hfr := hfr.stp hs
 have q1 := q1.stp hs
 have x6 := x6.stp hs rfl
 have y6 := y6.stp hs rfl
 have a7 := a7.stp hs rfl
 have b2 := b2.stp hs rfl
 have r4 := r4.stp hs
 have yF : OSF 2004 60400 0 g5 w5 3 102 ([] : List Int) p5 := cb.osf (by rfl)
 have zF : OSF 2004 60401 1 g5 w5 3 102 ([] : List Int) p5 := cb.osf (by rfl)
 have aG : OSF 2004 60402 2 g5 w5 87 102 ([] : List BoxShuttle) p5 := cb.osf (by rfl)
 clear cb
 refine EL_do .plain rfl (D_storeOc (g := g5) (v := v4) Try.sizeOf102 rfl b5 rfl r4 fun g6 w6 hs b6 cb => ?_)
 clear cb
 have hfr := hfr.stp hs
 have q1 := q1.stp hs
 have x6 := x6.stp hs rfl
 have y6 := y6.stp hs rfl
 have a7 := a7.stp hs rfl
 have b2 := b2.stp hs rfl
 obtain ⟨gp6, hs, qp6⟩ := OB.pub b6
 have hfr := hfr.stp hs
 have q1 := q1.stp hs
 have x6 := x6.stp hs rfl
 have y6 := y6.stp hs rfl
 have a7 := a7.stp hs rfl
 have b2 := b2.stp hs rfl
 refine EL_nil (thn_n (E_seq (E_region (EL_p ((.func (.func 83) #[] #[p5])) (P_makeFunc (capf_0_1 (show ev _ _ = p5 from rfl))) rfl ?_))))
 refine EL_at ((.func (.func 83) #[] #[p5])) rfl rfl ?_
 refine EL_nil (thn_n (E_joinC h (fun (s : BoxBoxLoom) e w => ∃ (g : Gh) , Fr gI wI g w ∧ e 1 = p1 ∧ PT g.m w (x0 : BoxLoom) p1 ∧ e 2 = p2 ∧ OB 2002 g w 102 (s : BoxBoxLoom) p2 ∧ OSF 2002 60200 0 g w 3 102 (((s).BoxLoom).Boxes) p2 ∧ OSF 2002 60201 1 g w 3 102 (((s).BoxLoom).At) p2 ∧ OSF 2002 60202 2 g w 87 102 (((s).BoxLoom).Shuttles) p2 ∧ e 4 = p5 ∧ PT g.m w ((⟨x0⟩ : BoxBoxLoom) : BoxBoxLoom) p5) (fun X54 k54 eD h => ?_) ?_))
 ·refine E_block ?_
  obtain ⟨j6, hx, h⟩ := bsome h
  refine E_join (fun e w => ∃ (g : Gh) , Fr gI wI g w ∧ e 1 = p1 ∧ PT g.m w (x0 : BoxLoom) p1 ∧ e 2 = p2 ∧ OB 2002 g w 102 ((⟨⟨[], [], []⟩⟩ : BoxBoxLoom) : BoxBoxLoom) p2 ∧ OSF 2002 60200 0 g w 3 102 ((((⟨⟨[], [], []⟩⟩ : BoxBoxLoom)).BoxLoom).Boxes) p2 ∧ OSF 2002 60201 1 g w 3 102 ((((⟨⟨[], [], []⟩⟩ : BoxBoxLoom)).BoxLoom).At) p2 ∧ OSF 2002 60202 2 g w 87 102 ((((⟨⟨[], [], []⟩⟩ : BoxBoxLoom)).BoxLoom).Shuttles) p2 ∧ e 4 = p5 ∧ PT g.m w ((⟨x0⟩ : BoxBoxLoom) : BoxBoxLoom) p5 ∧ e 5 = (.func (.func 83) #[] #[p5]) ∧ e 12 = .bool (j6)) (fun Q' hQ => ?_) (fun bG yG hR => ?_)
  ·replace h := hx
   clear hx
   refine E_seq (E_region (EL_p (fPtr p1 0) (P_fieldAddr at_25_0 rfl (PT.ptr q1)) rfl ?_))
   have mE := PT_field (part_BoxLoom_0).1 q1
   refine EL_do .plain rfl (D_load (g := gp6) Try.isAgg22 Try.sizeOf22 rfl mE fun zG nE => ?_)
   refine EL_p (.int .i64 (((x0).Boxes).length : Int)) (P_len Try.underlying22 rfl nE) rfl ?_
   refine EL_in (.bool (((((x0).Boxes).length : Int) != (2 : Int)))) rfl rfl rfl rfl ?_
   refine EL_at (.bool (((((x0).Boxes).length : Int) != (2 : Int)))) rfl rfl ?_
   refine EL_nil (thn_n ?_)
   rcases csome h with ⟨u9, h⟩ | ⟨u9, h⟩
   ·refine E_ct u9 rfl ?_
    refine E_skip ?_
    obtain rfl := sinj h
    exact hQ _ _ ⟨gp6, hfr, rfl, q1, rfl, b2, x6, y6, a7, rfl, qp6, rfl, rfl⟩
   ·refine E_cf u9 rfl ?_
    refine E_region (EL_p (fPtr p1 1) (P_fieldAddr at_25_1 rfl (PT.ptr q1)) rfl ?_)
    have oE := PT_field (part_BoxLoom_1).1 q1
    refine EL_do .plain rfl (D_load (g := gp6) Try.isAgg22 Try.sizeOf22 rfl oE fun aH rE => ?_)
    refine EL_p (.int .i64 (((x0).At).length : Int)) (P_len Try.underlying22 rfl rE) rfl ?_
    refine EL_in (.bool (((((x0).At).length : Int) != (2 : Int)))) rfl rfl rfl rfl ?_
    refine EL_at (.bool (((((x0).At).length : Int) != (2 : Int)))) rfl rfl ?_
    refine EL_nil ?_
    obtain rfl := sinj h
    exact hQ _ _ ⟨gp6, hfr, rfl, q1, rfl, b2, x6, y6, a7, rfl, qp6, rfl, rfl⟩
  ·clear hx
   obtain ⟨nA, hfr, j7, j3, x5, l5, u2_0_66, u2_1_66, u2_2_66, c7, u3, rC, v8⟩ := hR
   rcases csome h with ⟨y9, h⟩ | ⟨y9, h⟩
   ·refine E_cond_true (Eq.trans (show ev _ _ = .bool (j6) from v8) (congrArg Value.bool y9)) ?_
    refine E_seq (E_region (EL_do .plain rfl (D_load (g := nA) Try.isAgg102 Try.sizeOf102 c7 u3 fun sE tE => ?_)))
    refine EL_do .plain rfl (D_storeOc (g := nA) (v := sE) Try.sizeOf102 x5 l5 rfl tE fun bH cH hs b69 cb => ?_)
    clear cb
    have hfr := hfr.stp hs
    refine EL_at (.int .i64 (4)) rfl rfl ?_
    refine EL_nil (thn_n (E_ret (blk_r ?_)))
    refine thn_r ?_
    obtain rfl := sinj h
    obtain ⟨ad70, cv70, hp70, gD, cr70⟩ := ob_read Try.isAgg102 Try.sizeOf102 b69
    exact endm_ct rfl rfl ((show _ = p2 from x5).trans hp70) gD (show _ = .int .i64 (4) from rfl) ⟨_, hfr, _, _, rfl, cr70, rfl⟩
   ·refine E_cond_false (Eq.trans (show ev _ _ = .bool (j6) from v8) (congrArg Value.bool y9)) ?_
    refine E_seq (E_region (EL_do .plain rfl (D_load (g := nA) Try.isAgg102 Try.sizeOf102 c7 u3 fun uE vE => ?_)))
    obtain ⟨mA, iD, h⟩ := bsome h
    refine EL_do .plain rfl (D_call (g := nA) (vs := [uE]) en85 (.cons rfl .nil) (wk85 vE iD) fun m7 cG dH hs hr => ?_)
    have hfr := hfr.ext hs
    have j3 := j3.ext hs
    have u2_0_66 := u2_0_66.ext hs
    have u2_1_66 := u2_1_66.ext hs
    have u2_2_66 := u2_2_66.ext hs
    have l5 := l5.ext hs
    have u3 := u3.ext hs
    subst hr
    refine EL_p (.bool (!mA)) (P_not rfl) rfl ?_
    refine EL_at (.bool (!mA)) rfl rfl ?_
    refine EL_nil (thn_n ?_)
    rcases csome h with ⟨z9, h⟩ | ⟨z9, h⟩
    ·refine E_ct z9 rfl ?_
     refine E_seq (E_region (EL_do .plain rfl (D_load (g := m7) Try.isAgg102 Try.sizeOf102 c7 u3 fun xE yE => ?_)))
     refine EL_do .plain rfl (D_storeOc (g := m7) (v := xE) Try.sizeOf102 x5 l5 rfl yE fun gH iH hs b76 cb => ?_)
     clear cb
     have hfr := hfr.stp hs
     refine EL_at (.int .i64 (3)) rfl rfl ?_
     refine EL_nil (thn_n (E_ret (blk_r ?_)))
     refine thn_r ?_
     obtain rfl := sinj h
     obtain ⟨ad77, cv77, hp77, jD, cr77⟩ := ob_read Try.isAgg102 Try.sizeOf102 b76
     exact endm_ct rfl rfl ((show _ = p2 from x5).trans hp77) jD (show _ = .int .i64 (3) from rfl) ⟨_, hfr, _, _, rfl, cr77, rfl⟩
    ·refine E_cf z9 rfl ?_
     refine E_seq (E_region (EL_p (fPtr p1 2) (P_fieldAddr at_25_2 j7 (PT.ptr j3)) rfl ?_))
     have zE := PT_field (part_BoxLoom_2).1 j3
     refine EL_do .plain rfl (D_load (g := m7) Try.isAgg23 Try.sizeOf23 rfl zE fun jH cF => ?_)
     refine EL_p (.int .i64 (((x0).Shuttles).length : Int)) (P_len Try.underlying23 rfl cF) rfl ?_
     refine EL_p (.bool ((decide ((((x0).Shuttles).length : Int) > (6 : Int))))) (P_int rfl rfl rfl) rfl ?_
     refine EL_p (.bool ((decide ((((x0).Shuttles).length : Int) > (6 : Int))))) (P_assign rfl) rfl ?_
     refine EL_nil (thn_n ?_)
     rcases csome h with ⟨bA, h⟩ | ⟨bA, h⟩
     ·refine E_ct bA rfl ?_
      refine E_seq (E_region (EL_do .plain rfl (D_load (g := m7) Try.isAgg102 Try.sizeOf102 c7 u3 fun dF eF => ?_)))
      refine EL_do .plain rfl (D_storeOc (g := m7) (v := dF) Try.sizeOf102 x5 l5 rfl eF fun kH lH hs b82 cb => ?_)
      clear cb
      have hfr := hfr.stp hs
      refine EL_at (.int .i64 (5)) rfl rfl ?_
      refine EL_nil (thn_n (E_ret (blk_r ?_)))
      refine thn_r ?_
      obtain rfl := sinj h
      obtain ⟨ad83, cv83, hp83, kD, cr83⟩ := ob_read Try.isAgg102 Try.sizeOf102 b82
      exact endm_ct rfl rfl ((show _ = p2 from x5).trans hp83) kD (show _ = .int .i64 (5) from rfl) ⟨_, hfr, _, _, rfl, cr83, rfl⟩
     ·refine E_cf bA rfl ?_
      obtain ⟨v6, hx, h⟩ := bsome h
      refine E_join (fun e w => ∃ (g : Gh) , Fr gI wI g w ∧ e 1 = p1 ∧ PT g.m w (x0 : BoxLoom) p1 ∧ e 2 = p2 ∧ OB 2002 g w 102 ((⟨⟨[], [], []⟩⟩ : BoxBoxLoom) : BoxBoxLoom) p2 ∧ OSF 2002 60200 0 g w 3 102 ((((⟨⟨[], [], []⟩⟩ : BoxBoxLoom)).BoxLoom).Boxes) p2 ∧ OSF 2002 60201 1 g w 3 102 ((((⟨⟨[], [], []⟩⟩ : BoxBoxLoom)).BoxLoom).At) p2 ∧ OSF 2002 60202 2 g w 87 102 ((((⟨⟨[], [], []⟩⟩ : BoxBoxLoom)).BoxLoom).Shuttles) p2 ∧ e 4 = p5 ∧ PT g.m w ((⟨x0⟩ : BoxBoxLoom) : BoxBoxLoom) p5 ∧ e 33 = .bool (v6)) (fun Q' hQ => ?_) (fun dG mH hR => ?_)
      ·replace h := hx
       clear hx
       refine E_seq (E_region (EL_p (fPtr p1 2) (P_fieldAddr at_25_2 j7 (PT.ptr j3)) rfl ?_))
       have iF := PT_field (part_BoxLoom_2).1 j3
       refine EL_do .plain rfl (D_load (g := m7) Try.isAgg23 Try.sizeOf23 rfl iF fun nH nF => ?_)
       refine EL_p (.int .i64 (((x0).Shuttles).length : Int)) (P_len Try.underlying23 rfl nF) rfl ?_
       refine EL_in (.bool (((((x0).Shuttles).length : Int) == (0 : Int)))) rfl rfl rfl rfl ?_
       refine EL_at (.bool (((((x0).Shuttles).length : Int) == (0 : Int)))) rfl rfl ?_
       refine EL_nil (thn_n ?_)
       rcases csome h with ⟨gA, h⟩ | ⟨gA, h⟩
       ·refine E_ct gA rfl ?_
        refine E_skip ?_
        obtain rfl := sinj h
        exact hQ _ _ ⟨m7, hfr, j7, j3, x5, l5, u2_0_66, u2_1_66, u2_2_66, c7, u3, rfl⟩
       ·refine E_cf gA rfl ?_
        refine E_region (EL_p (fPtr p1 2) (P_fieldAddr at_25_2 j7 (PT.ptr j3)) rfl ?_)
        have oF := PT_field (part_BoxLoom_2).1 j3
        refine EL_do .plain rfl (D_load (g := m7) Try.isAgg23 Try.sizeOf23 rfl oF fun pF qF => ?_)
        refine EL_mv rC rfl ?_
        obtain ⟨dB, lD, h⟩ := bsome h
        refine EL_do .plain rfl (D_call (g := m7) (vs := [pF, (.func (.func 83) #[] #[p5])]) en86 (.cons rfl (.cons rfl .nil)) (wk86 qF ⟨83, #[], #[p5], rfl, en83, fun g' w' hch a0 b0 r hu0 hr => by exact Fn.mono (wk83 hu0 (u3.ch hch) hr) fun _ _ _ h => RV_bool.2 h⟩ lD) fun rF eG oH hs hr => ?_)
        have hfr := hfr.ext hs
        have j3 := j3.ext hs
        have u2_0_66 := u2_0_66.ext hs
        have u2_1_66 := u2_1_66.ext hs
        have u2_2_66 := u2_2_66.ext hs
        have l5 := l5.ext hs
        have u3 := u3.ext hs
        subst hr
        refine EL_at (.bool (dB)) rfl rfl ?_
        refine EL_nil ?_
        obtain rfl := sinj h
        exact hQ _ _ ⟨rF, hfr, j7, j3, x5, l5, u2_0_66, u2_1_66, u2_2_66, c7, u3, rfl⟩
      ·clear hx
       obtain ⟨eB, hfr, tC, uC, o8, oA, u2_0_98, u2_1_98, u2_2_98, pA, qA, x8⟩ := hR
       rcases csome h with ⟨iA, h⟩ | ⟨iA, h⟩
       ·refine E_cond_true (Eq.trans (show ev _ _ = .bool (v6) from x8) (congrArg Value.bool iA)) ?_
        refine E_seq (E_region (EL_do .plain rfl (D_load (g := eB) Try.isAgg102 Try.sizeOf102 pA qA fun mD nD => ?_)))
        refine EL_do .plain rfl (D_storeOc (g := eB) (v := mD) Try.sizeOf102 o8 oA rfl nD fun gG hG hs b101 cb => ?_)
        clear cb
        have hfr := hfr.stp hs
        refine EL_at (.int .i64 (2)) rfl rfl ?_
        refine EL_nil (thn_n (E_ret (blk_r ?_)))
        refine thn_r ?_
        obtain rfl := sinj h
        obtain ⟨ad102, cv102, hp102, vC, cr102⟩ := ob_read Try.isAgg102 Try.sizeOf102 b101
        exact endm_ct rfl rfl ((show _ = p2 from o8).trans hp102) vC (show _ = .int .i64 (2) from rfl) ⟨_, hfr, _, _, rfl, cr102, rfl⟩
       ·refine E_cond_false (Eq.trans (show ev _ _ = .bool (v6) from x8) (congrArg Value.bool iA)) ?_
        exact E_skip (blk_n (thn_n (eD ((⟨⟨[], [], []⟩⟩ : BoxBoxLoom)) _ _ ⟨eB, hfr, tC, uC, o8, oA, u2_0_98, u2_1_98, u2_2_98, pA, qA⟩ h)))
 ·rintro o0 sF iG ⟨oD, hfr, y8, b7, iB, v7, u2_0_103, u2_1_103, u2_2_103, jB, c8⟩ h
  refine E_seq (E_region (EL_do .plain rfl (D_makeMap (g := oD) (encK pl_138) Bool 8043 fun lB jG d7 hs m104 => ?_)))
  have hfr := hfr.stp hs
  have b7 := b7.stp hs
  have u2_0_103 := u2_0_103.stp hs rfl
  have u2_1_103 := u2_1_103.stp hs rfl
  have u2_2_103 := u2_2_103.stp hs rfl
  have v7 := v7.stp hs rfl
  have c8 := c8.stp hs
  refine EL_at d7 rfl rfl ?_
  refine EL_nil (thn_n ?_)
  obtain ⟨i7, hx, h⟩ := bsome h
  refine E_join (fun e w => ∃ (g : Gh) , Fr gI wI g w ∧ e 1 = p1 ∧ PT g.m w (x0 : BoxLoom) p1 ∧ e 2 = p2 ∧ OB 2002 g w 102 (o0 : BoxBoxLoom) p2 ∧ OSF 2002 60200 0 g w 3 102 (((o0).BoxLoom).Boxes) p2 ∧ OSF 2002 60201 1 g w 3 102 (((o0).BoxLoom).At) p2 ∧ OSF 2002 60202 2 g w 87 102 (((o0).BoxLoom).Shuttles) p2 ∧ e 4 = p5 ∧ PT g.m w ((⟨x0⟩ : BoxBoxLoom) : BoxBoxLoom) p5 ∧ e 6 = d7 ∧ MP (encK pl_138) 8043 g w (i7 : List ((Vector Int 2) × Bool)) d7) (fun Q' hQ => ?_) (fun tF kG hR => ?_)
  ·replace h := hx
   clear hx
   refine E_seq (E_region (EL_p (fPtr p1 2) (P_fieldAddr at_25_2 y8 (PT.ptr b7)) rfl ?_))
   have sD := PT_field (part_BoxLoom_2).1 b7
   refine EL_do .plain rfl (D_load (g := lB) Try.isAgg23 Try.sizeOf23 rfl sD fun g8 mB => ?_)
   refine EL_p (.int .i64 (((x0).Shuttles).length : Int)) (P_len Try.underlying23 rfl mB) rfl ?_
   refine EL_mw (.int .i64 (0)) rfl rfl ?_
   refine EL_nil (thn_n (E_block ?_))
   refine E_lp h (fun (s : (List ((Vector Int 2) × Bool)) × Int) e w => ∃ (g : Gh) , Fr gI wI g w ∧ e 1 = p1 ∧ PT g.m w (x0 : BoxLoom) p1 ∧ e 2 = p2 ∧ OB 2002 g w 102 (o0 : BoxBoxLoom) p2 ∧ OSF 2002 60200 0 g w 3 102 (((o0).BoxLoom).Boxes) p2 ∧ OSF 2002 60201 1 g w 3 102 (((o0).BoxLoom).At) p2 ∧ OSF 2002 60202 2 g w 87 102 (((o0).BoxLoom).Shuttles) p2 ∧ e 4 = p5 ∧ PT g.m w ((⟨x0⟩ : BoxBoxLoom) : BoxBoxLoom) p5 ∧ e 6 = d7 ∧ MP (encK pl_138) 8043 g w (s.1 : List ((Vector Int 2) × Bool)) d7 ∧ e 45 = g8 ∧ RV g.m w ((x0).Shuttles : List BoxShuttle) g8 ∧ e 46 = .int .i64 ((((x0).Shuttles).length : Int)) ∧ e 47 = .int .i64 (s.2)) ⟨lB, hfr, y8, b7, iB, v7, u2_0_103, u2_1_103, u2_2_103, jB, c8, rfl, m104, rfl, mB, rfl, rfl⟩ (fun X135 aB xC => ?_)
   rintro ⟨u7, j1⟩ uF lG ⟨jA, hfr, a9, z3, d9, z4, u2_0_136, u2_1_136, u2_2_136, i9, i5, i8, i6, m8, i3, n8, o7⟩ h
   refine E_seq (E_region (EL_p (.bool ((decide (j1 < (((x0).Shuttles).length : Int))))) (P_int o7 n8 rfl) rfl ?_))
   refine EL_nil (thn_n (E_seq ?_))
   rcases csome h with ⟨q8, h⟩ | ⟨q8, h⟩
   ·refine E_ct q8 rfl ?_
    refine E_skip (thn_n ?_)
    obtain ⟨g7, hx, h⟩ := bsome h
    refine E_join (fun e w => ∃ (g : Gh) , Fr gI wI g w ∧ e 1 = p1 ∧ PT g.m w (x0 : BoxLoom) p1 ∧ e 2 = p2 ∧ OB 2002 g w 102 (o0 : BoxBoxLoom) p2 ∧ OSF 2002 60200 0 g w 3 102 (((o0).BoxLoom).Boxes) p2 ∧ OSF 2002 60201 1 g w 3 102 (((o0).BoxLoom).At) p2 ∧ OSF 2002 60202 2 g w 87 102 (((o0).BoxLoom).Shuttles) p2 ∧ e 4 = p5 ∧ PT g.m w ((⟨x0⟩ : BoxBoxLoom) : BoxBoxLoom) p5 ∧ e 6 = d7 ∧ MP (encK pl_138) 8043 g w (g7 : List ((Vector Int 2) × Bool)) d7 ∧ e 45 = g8 ∧ RV g.m w ((x0).Shuttles : List BoxShuttle) g8 ∧ e 46 = .int .i64 ((((x0).Shuttles).length : Int)) ∧ e 47 = .int .i64 (j1)) (fun Q' hQ => ?_) (fun vF mG hR => ?_)
    ·replace h := hx
     clear hx
     refine E_block ?_
     refine E_seq (E_region ?_)
     obtain ⟨t5, rA, h⟩ := bsome h
     refine EL_p (ePtr g8 j1 5) (P_indexAddr (α := BoxShuttle) Try.underlying23 Try.sizeOf87 m8 i3 o7 rA) rfl ?_
     have tD := PT_idx i3 rA
     refine EL_do .plain rfl (D_load (g := jA) Try.isAgg87 Try.sizeOf87 rfl tD fun uD lA => ?_)
     refine EL_do .plain rfl (D_allocOc (g := jA) 2008 (⟨0, 0, 0, ⟨0, 0⟩⟩ : BoxShuttle) Try.zeroValue87 (fun m w => ⟨_, (rep_two rep_int (rep_two rep_int (rep_two rep_int (rep_two rep_int rep_int)))), rfl⟩) fun vD nG nB hs b152 cb => ?_)
     have hfr := hfr.stp hs
     have z3 := z3.stp hs
     have u2_0_136 := u2_0_136.stp hs rfl
     have u2_1_136 := u2_1_136.stp hs rfl
     have u2_2_136 := u2_2_136.stp hs rfl
     have z4 := z4.stp hs rfl
     have i5 := i5.stp hs
     have i6 := i6.stp hs rfl
     have i3 := i3.stp hs
     have lA := lA.stp hs
     clear cb
     refine EL_do .plain rfl (D_storeOc (g := vD) (v := uD) Try.sizeOf87 rfl b152 rfl lA fun r8 xD hs b153 cb => ?_)
     clear cb
     have hfr := hfr.stp hs
     have z3 := z3.stp hs
     have u2_0_136 := u2_0_136.stp hs rfl
     have u2_1_136 := u2_1_136.stp hs rfl
     have u2_2_136 := u2_2_136.stp hs rfl
     have z4 := z4.stp hs rfl
     have i5 := i5.stp hs
     have i6 := i6.stp hs rfl
     have i3 := i3.stp hs
     refine EL_nil (thn_n (E_region (EL_mv i8 rfl ?_)))
     refine EL_p (fPtr nB 1) (P_fieldAddr at_87_1 rfl (OB.ptr b153)) rfl ?_
     refine EL_do .plain rfl (D_loadF (g := r8) part_BoxShuttle_1.1 Try.isAgg3 Try.sizeOf3 rfl b153 fun oG yD => ?_)
     obtain rfl := RV_int.1 yD
     refine EL_p (fPtr nB 2) (P_fieldAddr at_87_2 rfl (OB.ptr b153)) rfl ?_
     refine EL_do .plain rfl (D_loadF (g := r8) part_BoxShuttle_2.1 Try.isAgg3 Try.sizeOf3 rfl b153 fun pG zD => ?_)
     obtain rfl := RV_int.1 zD
     have oB : RV r8.m xD (⟨List.toArray [(t5).Side, (t5).Box], rfl⟩ : Vector Int 2) (.agg (setCh [[.int .i64 0], [.int .i64 0]] [(0, .int .i64 ((t5).Side)), (1, .int .i64 ((t5).Box))]).flatten.toArray) := RV_build rfl (rep_vec (flat_chunk rfl (flat_chunk rfl flat_nil)) rfl)
     generalize yC : (Value.agg (setCh [[.int .i64 0], [.int .i64 0]] [(0, .int .i64 ((t5).Side)), (1, .int .i64 ((t5).Box))]).flatten.toArray) = aE at oB
     refine EL_p aE (yC ▸ P_buildA (vs := [(0, .int .i64 ((t5).Side)), (1, .int .i64 ((t5).Box))]) [[.int .i64 0], [.int .i64 0]] Try.underlying138 layA_138 szA_3 rfl (by simp) (.cons rfl (.cons rfl .nil)) ⟨⟨_, rfl, rfl⟩, ⟨⟨_, rfl, rfl⟩, trivial⟩⟩) rfl ?_
     refine EL_do .plain rfl (D_mapUpdate (g := r8) Try.underlying151 key_138 rfl i6 (rfl.trans (encK_of pl_138 oB)) rfl (RV_bool.2 rfl) fun bE qG hs m159 => ?_)
     have hfr := hfr.stp hs
     have z3 := z3.stp hs
     have u2_0_136 := u2_0_136.stp hs rfl
     have u2_1_136 := u2_1_136.stp hs rfl
     have u2_2_136 := u2_2_136.stp hs rfl
     have z4 := z4.stp hs rfl
     have i5 := i5.stp hs
     have i3 := i3.stp hs
     refine EL_nil (blk_n ?_)
     obtain rfl := sinj h
     exact hQ _ _ ⟨bE, hfr, a9, z3, d9, z4, u2_0_136, u2_1_136, u2_2_136, i9, i5, i8, m159, m8, i3, n8, o7⟩
    ·clear hx
     obtain ⟨cE, hfr, tB, vB, xB, yB, u2_0_160, u2_1_160, u2_2_160, zB, aC, cC, dC, uA, xA, yA, zA⟩ := hR
     refine E_region (EL_in (.int .i64 ((w64 (j1 + (1 : Int))))) zA rfl rfl rfl ?_)
     refine EL_mw (.int .i64 ((w64 (j1 + (1 : Int))))) rfl rfl ?_
     exact EL_nil (thn_n (xC (g7, (w64 (j1 + (1 : Int)))) _ _ ⟨cE, hfr, tB, vB, xB, yB, u2_0_160, u2_1_160, u2_2_160, zB, aC, cC, dC, uA, xA, yA, rfl⟩ h))
   ·refine E_cf q8 rfl ?_
    refine E_exit ?_
    refine thn_e ?_
    refine thn_e ?_
    refine blk_hit ?_
    obtain rfl := sinj h
    exact hQ _ _ ⟨jA, hfr, a9, z3, d9, z4, u2_0_136, u2_1_136, u2_2_136, i9, i5, i8, i6⟩
  ·clear hx
   obtain ⟨k8, hfr, eC, k9, l8, l9, u2_0_161, u2_1_161, u2_2_161, n9, o9, iC, jC⟩ := hR
   refine E_joinC h (fun (s : BoxBoxLoom) e w => ∃ (g : Gh) , Fr gI wI g w ∧ e 2 = p2 ∧ OB 2002 g w 102 (s : BoxBoxLoom) p2 ∧ OSF 2002 60200 0 g w 3 102 (((s).BoxLoom).Boxes) p2 ∧ OSF 2002 60201 1 g w 3 102 (((s).BoxLoom).At) p2 ∧ OSF 2002 60202 2 g w 87 102 (((s).BoxLoom).Shuttles) p2 ∧ e 4 = p5 ∧ PT g.m w ((⟨x0⟩ : BoxBoxLoom) : BoxBoxLoom) p5) (fun X168 cB aD h => ?_) ?_
   ·refine E_seq (E_region (EL_mv iC rfl ?_))
    refine EL_do .plain rfl (P_lenMap (g := k8) Try.underlying151 rfl jC ?_)
    refine EL_p (fPtr p1 2) (P_fieldAddr at_25_2 eC (PT.ptr k9)) rfl ?_
    have dE := PT_field (part_BoxLoom_2).1 k9
    refine EL_do .plain rfl (D_load (g := k8) Try.isAgg23 Try.sizeOf23 rfl dE fun rG eE => ?_)
    refine EL_p (.int .i64 (((x0).Shuttles).length : Int)) (P_len Try.underlying23 rfl eE) rfl ?_
    refine EL_p (.bool ((decide (((i7).length : Int) < (((x0).Shuttles).length : Int))))) (P_int rfl rfl rfl) rfl ?_
    refine EL_nil (thn_n ?_)
    rcases csome h with ⟨t8, h⟩ | ⟨t8, h⟩
    ·refine E_ct t8 rfl ?_
     refine E_seq (E_region (EL_do .plain rfl (D_load (g := k8) Try.isAgg102 Try.sizeOf102 n9 o9 fun gE iE => ?_)))
     refine EL_do .plain rfl (D_storeOc (g := k8) (v := gE) Try.sizeOf102 l8 l9 rfl iE fun sG tG hs b173 cb => ?_)
     clear cb
     have hfr := hfr.stp hs
     refine EL_at (.int .i64 (6)) rfl rfl ?_
     refine EL_nil (thn_n (E_ret (thn_r ?_)))
     obtain rfl := sinj h
     obtain ⟨ad174, cv174, hp174, bD, cr174⟩ := ob_read Try.isAgg102 Try.sizeOf102 b173
     exact endm_ct rfl rfl ((show _ = p2 from l8).trans hp174) bD (show _ = .int .i64 (6) from rfl) ⟨_, hfr, _, _, rfl, cr174, rfl⟩
    ·refine E_cf t8 rfl ?_
     exact E_skip (thn_n (aD (o0) _ _ ⟨k8, hfr, l8, l9, u2_0_161, u2_1_161, u2_2_161, n9, o9⟩ h))
   ·rintro bB xF uG ⟨kC, hfr, t9, lC, u2_0_175, u2_1_175, u2_2_175, mC, qC⟩ h
    refine E_seq (E_region (EL_do .plain rfl (D_load (g := kC) Try.isAgg102 Try.sizeOf102 mC qC fun jE kE => ?_)))
    refine EL_do .plain rfl (D_storeOc (g := kC) (v := jE) Try.sizeOf102 t9 lC rfl kE fun vG xG hs b177 cb => ?_)
    clear cb
    have hfr := hfr.stp hs
    refine EL_at (.int .i64 (0)) rfl rfl ?_
    refine EL_nil (thn_n (E_ret ?_))
    obtain rfl := sinj h
    obtain ⟨ad178, cv178, hp178, cD, cr178⟩ := ob_read Try.isAgg102 Try.sizeOf102 b177
    exact endm_ct rfl rfl ((show _ = p2 from t9).trans hp178) cD (show _ = .int .i64 (0) from rfl) ⟨_, hfr, _, _, rfl, cr178, rfl⟩
def f74 (x0 : BoxLoom) (x1 : List BoxPick) : Option (BoxBoxLoom × Int) :=
 (f51 x0).bind fun y5 =>
 jn (σ := BoxBoxLoom) (fun i6 =>
  some (y5.1, (0 : Int))
  ) fun y6 =>
 bif (y5.2 != (0 : Int)) then
  some (y5.1, y5.2)
 else
  bif (decide (((x1).length : Int) > (24 : Int))) then
   some (y5.1, (5 : Int))
  else
   (f96 x1 ((fun a0 => f95 a0 (y5.1)))).bind fun t5 =>
   bif t5 then
    some (y5.1, (2 : Int))
   else
    y6 ((⟨⟨[], [], []⟩⟩ : BoxBoxLoom))
theorem en74 : Enters Try.prog 74 := enters_of Try.func74 (by kernel_rfl) rfl
theorem wk74 {gI : Gh} {wI : World} {x0 : BoxLoom} {x1 : List BoxPick} {up0 : Value} (rp0 : RV gI.m wI x0 up0) {up1 : Value} (rp1 : RV gI.m wI x1 up1) {r : BoxBoxLoom × Int} (h : f74 x0 x1 = some r) : Fn Try.prog 74 #[up0, up1] gI wI (fun m w v => ∃ y0 y1, v = .tuple #[y0, y1] ∧ RV m w (r.1) y0 ∧ y1 = .int .i64 (r.2)) := by
 unfold f74 at h
 refine fn_of_E Try.func74 rfl (Nat.le_of_ble_eq_true rfl) fun g0 hm hfr => ?_
 have rp0 : RV g0.m wI x0 up0 := hm ▸ rp0
 have rp1 : RV g0.m wI x1 up1 := hm ▸ rp1
 show E _ 31 none _ _ _ _ _
 refine E_seq (E_region (EL_do .plain rfl (D_box (g := g0) rfl rp0 fun g1 w1 p1 hs q1 => ?_)))
 have hfr := hfr.ext hs
 have rp1 := rp1.ext hs
 refine EL_do .plain rfl (D_allocOc (g := g1) 2004 (⟨⟨[], [], []⟩⟩ : BoxBoxLoom) Try.zeroValue102 (fun m w => ⟨_, (rep_two rep_nil (rep_two rep_nil rep_nil)), rfl⟩) fun g2 w2 p2 hs b2 cb => ?_)
 have hfr := hfr.stp hs
 have rp1 := rp1.stp hs
 have q1 := q1.stp hs
 have o0 : OSF 2004 60400 0 g2 w2 3 102 ([] : List Int) p2 := cb.osf (by rfl)
 have j1 : OSF 2004 60401 1 g2 w2 3 102 ([] : List Int) p2 := cb.osf (by rfl)
 have i3 : OSF 2004 60402 2 g2 w2 87 102 ([] : List BoxShuttle) p2 := cb.osf (by rfl)
 clear cb
 refine EL_at (.int .i64 (0)) rfl rfl ?_
 refine EL_nil (thn_n (E_seq (E_region (EL_do .plain rfl (D_load (g := g2) Try.isAgg25 Try.sizeOf25 rfl q1 fun v3 r3 => ?_)))))
 obtain ⟨y5, hy5, h⟩ := bsome h
 refine EL_do .plain rfl (D_call (g := g2) (vs := [v3]) en51 (.cons rfl .nil) (wk51 r3 hy5) fun g4 w4_ v4 hs hr => ?_)
 have hfr := hfr.ext hs
 have rp1 := rp1.ext hs
 have o0 := o0.ext hs
 have j1 := j1.ext hs
 have i3 := i3.ext hs
 have b2 := b2.ext hs
 obtain ⟨j3, n8, rfl, u3, rfl⟩ := hr
 refine EL_mw (.tuple #[j3, .int .i64 (y5.2)]) rfl rfl ?_
 refine EL_p j3 (P_extract rfl rfl) rfl ?_
 refine EL_p (.int .i64 (y5.2)) (P_extract rfl rfl) rfl ?_
 refine EL_do .plain rfl (D_allocOc (g := g4) 2006 (⟨⟨[], [], []⟩⟩ : BoxBoxLoom) Try.zeroValue102 (fun m w => ⟨_, (rep_two rep_nil (rep_two rep_nil rep_nil)), rfl⟩) fun g6 w6 p6 hs b6 cb => ?_)
 have hfr := hfr.stp hs
 have rp1 := rp1.stp hs
 have o0 := o0.stp hs rfl
 have j1 := j1.stp hs rfl
 have i3 := i3.stp hs rfl
 have b2 := b2.stp hs rfl
 have u3 := u3.stp hs
 have o8 : OSF 2006 60600 0 g6 w6 3 102 ([] : List Int) p6 := cb.osf (by rfl)
 have q8 : OSF 2006 60601 1 g6 w6 3 102 ([] : List Int) p6 := cb.osf (by rfl)
 have r8 : OSF 2006 60602 2 g6 w6 87 102 ([] : List BoxShuttle) p6 := cb.osf (by rfl)
 clear cb
 refine EL_do .plain rfl (D_storeOc (g := g6) (v := j3) Try.sizeOf102 rfl b6 rfl u3 fun g7 w7 hs b7 cb => ?_)
 clear cb
 have hfr := hfr.stp hs
 have rp1 := rp1.stp hs
 have o0 := o0.stp hs rfl
 have j1 := j1.stp hs rfl
 have i3 := i3.stp hs rfl
 have b2 := b2.stp hs rfl
 obtain ⟨gp7, hs, qp7⟩ := OB.pub b7
 have hfr := hfr.stp hs
 have rp1 := rp1.stp hs
 have o0 := o0.stp hs rfl
 have j1 := j1.stp hs rfl
 have i3 := i3.stp hs rfl
 have b2 := b2.stp hs rfl
 refine EL_at (.int .i64 (y5.2)) rfl rfl ?_
 refine EL_nil (thn_n (E_seq (E_region (EL_p ((.func (.func 95) #[] #[p6])) (P_makeFunc (capf_0_1 (show ev _ _ = p6 from rfl))) rfl ?_))))
 refine EL_at ((.func (.func 95) #[] #[p6])) rfl rfl ?_
 refine EL_nil (thn_n (E_joinC h (fun (s : BoxBoxLoom) e w => ∃ (g : Gh) , Fr gI wI g w ∧ e 4 = p2 ∧ OB 2004 g w 102 (s : BoxBoxLoom) p2 ∧ OSF 2004 60400 0 g w 3 102 (((s).BoxLoom).Boxes) p2 ∧ OSF 2004 60401 1 g w 3 102 (((s).BoxLoom).At) p2 ∧ OSF 2004 60402 2 g w 87 102 (((s).BoxLoom).Shuttles) p2 ∧ e 6 = p6 ∧ PT g.m w (y5.1 : BoxBoxLoom) p6) (fun X22 y6 c7 h => ?_) ?_))
 ·refine E_block ?_
  refine E_seq (E_region (EL_mw (.int .i64 (y5.2)) rfl rfl ?_))
  refine EL_in (.bool ((y5.2 != (0 : Int)))) rfl rfl rfl rfl ?_
  refine EL_at (.bool ((y5.2 != (0 : Int)))) rfl rfl ?_
  refine EL_nil (thn_n ?_)
  rcases csome h with ⟨z3, h⟩ | ⟨z3, h⟩
  ·refine E_ct z3 rfl ?_
   refine E_seq (E_region (EL_do .plain rfl (D_load (g := gp7) Try.isAgg102 Try.sizeOf102 rfl qp7 fun u7 v7 => ?_)))
   refine EL_mw (.int .i64 (y5.2)) rfl rfl ?_
   refine EL_do .plain rfl (D_storeOc (g := gp7) (v := u7) Try.sizeOf102 rfl b2 rfl v7 fun x8 y8 hs b25 cb => ?_)
   clear cb
   have hfr := hfr.stp hs
   refine EL_at (.int .i64 (y5.2)) rfl rfl ?_
   refine EL_nil (thn_n (E_ret (blk_r ?_)))
   refine thn_r ?_
   obtain rfl := sinj h
   obtain ⟨ad26, cv26, hp26, d7, cr26⟩ := ob_read Try.isAgg102 Try.sizeOf102 b25
   exact endm_ct rfl rfl ((show _ = p2 from rfl).trans hp26) d7 (show _ = .int .i64 (y5.2) from rfl) ⟨_, hfr, _, _, rfl, cr26, rfl⟩
  ·refine E_cf z3 rfl ?_
   refine E_seq (E_region (EL_mw up1 rfl rfl ?_))
   refine EL_p (.int .i64 ((x1).length : Int)) (P_len Try.underlying30 rfl rp1) rfl ?_
   refine EL_in (.bool ((decide (((x1).length : Int) > (24 : Int))))) rfl rfl rfl rfl ?_
   refine EL_at (.bool ((decide (((x1).length : Int) > (24 : Int))))) rfl rfl ?_
   refine EL_nil (thn_n ?_)
   rcases csome h with ⟨z4, h⟩ | ⟨z4, h⟩
   ·refine E_ct z4 rfl ?_
    refine E_seq (E_region (EL_do .plain rfl (D_load (g := gp7) Try.isAgg102 Try.sizeOf102 rfl qp7 fun c8 g8 => ?_)))
    refine EL_do .plain rfl (D_storeOc (g := gp7) (v := c8) Try.sizeOf102 rfl b2 rfl g8 fun a9 d9 hs b29 cb => ?_)
    clear cb
    have hfr := hfr.stp hs
    refine EL_at (.int .i64 (5)) rfl rfl ?_
    refine EL_nil (thn_n (E_ret (blk_r ?_)))
    refine thn_r ?_
    obtain rfl := sinj h
    obtain ⟨ad30, cv30, hp30, i7, cr30⟩ := ob_read Try.isAgg102 Try.sizeOf102 b29
    exact endm_ct rfl rfl ((show _ = p2 from rfl).trans hp30) i7 (show _ = .int .i64 (5) from rfl) ⟨_, hfr, _, _, rfl, cr30, rfl⟩
   ·refine E_cf z4 rfl ?_
    refine E_seq (E_region (EL_mw up1 rfl rfl ?_))
    refine EL_mw ((.func (.func 95) #[] #[p6])) rfl rfl ?_
    obtain ⟨t5, j7, h⟩ := bsome h
    refine EL_do .plain rfl (D_call (g := gp7) (vs := [up1, (.func (.func 95) #[] #[p6])]) en96 (.cons rfl (.cons rfl .nil)) (wk96 rp1 ⟨95, #[], #[p6], rfl, en95, fun g' w' hch a0 b0 r hu0 hr => by exact Fn.mono (wk95 hu0 (qp7.ch hch) hr) fun _ _ _ h => RV_bool.2 h⟩ j7) fun x5 t8 i9 hs hr => ?_)
    have hfr := hfr.ext hs
    have o0 := o0.ext hs
    have j1 := j1.ext hs
    have i3 := i3.ext hs
    have b2 := b2.ext hs
    have qp7 := qp7.ext hs
    subst hr
    refine EL_at (.bool (t5)) rfl rfl ?_
    refine EL_nil (thn_n ?_)
    rcases csome h with ⟨i5, h⟩ | ⟨i5, h⟩
    ·refine E_ct i5 rfl ?_
     refine E_seq (E_region (EL_do .plain rfl (D_load (g := x5) Try.isAgg102 Try.sizeOf102 rfl qp7 fun i8 k8 => ?_)))
     refine EL_do .plain rfl (D_storeOc (g := x5) (v := i8) Try.sizeOf102 rfl b2 rfl k8 fun k9 l9 hs b35 cb => ?_)
     clear cb
     have hfr := hfr.stp hs
     refine EL_at (.int .i64 (2)) rfl rfl ?_
     refine EL_nil (thn_n (E_ret (blk_r ?_)))
     refine thn_r ?_
     obtain rfl := sinj h
     obtain ⟨ad36, cv36, hp36, m7, cr36⟩ := ob_read Try.isAgg102 Try.sizeOf102 b35
     exact endm_ct rfl rfl ((show _ = p2 from rfl).trans hp36) m7 (show _ = .int .i64 (2) from rfl) ⟨_, hfr, _, _, rfl, cr36, rfl⟩
    ·refine E_cf i5 rfl ?_
     exact E_skip (blk_n (thn_n (c7 ((⟨⟨[], [], []⟩⟩ : BoxBoxLoom)) _ _ ⟨x5, hfr, rfl, b2, o0, j1, i3, rfl, qp7⟩ h)))
 ·rintro i6 v8 n9 ⟨a7, hfr, l5, j6, u4_0_37, u4_1_37, u4_2_37, v6, x6⟩ h
  refine E_seq (E_region (EL_do .plain rfl (D_load (g := a7) Try.isAgg102 Try.sizeOf102 v6 x6 fun l8 m8 => ?_)))
  refine EL_do .plain rfl (D_storeOc (g := a7) (v := l8) Try.sizeOf102 l5 j6 rfl m8 fun o9 t9 hs b39 cb => ?_)
  clear cb
  have hfr := hfr.stp hs
  refine EL_at (.int .i64 (0)) rfl rfl ?_
  refine EL_nil (thn_n (E_ret ?_))
  obtain rfl := sinj h
  obtain ⟨ad40, cv40, hp40, o7, cr40⟩ := ob_read Try.isAgg102 Try.sizeOf102 b39
  exact endm_ct rfl rfl ((show _ = p2 from l5).trans hp40) o7 (show _ = .int .i64 (0) from rfl) ⟨_, hfr, _, _, rfl, cr40, rfl⟩
def f100 (x0 : List Int) : Option ((List Int)) :=
 (f109 ((wu64 ((x0).length : Int)))).bind fun y2 =>
 (f108 big x0 ((0 : Int)) (((x0).length : Int)) y2).bind fun y4 =>
 some (y4)
def f36 (x0 : BoxLoom) (x1 : List BoxPick) : Option (Int × Int) :=
 (f74 x0 x1).bind fun y4 =>
 jn (σ := Int) (fun d9 =>
  (f54 (y4.1) ((fun a0 a1 => f75 a0 a1))).bind fun x6 =>
  jn (σ := Int) (fun y6 =>
   some (y6, (0 : Int))
   ) fun zB =>
  lp (σ := Int × BoxRace) (fun aC (j1, l5) =>
   jn (σ := Unit) (fun _ =>
    jn (σ := Int × BoxRace) (fun (x5, c7) =>
     aC ((w64 (x5 + (1 : Int))), c7)
     ) fun o9 =>
    (f76 l5 x1).bind fun o0 =>
    jn (σ := Int) (fun d7 =>
     o9 (d7, (o0.1).last)
     ) fun t9 =>
    bif (o0.2.2 != (0 : Int)) then
     some ((0 : Int), o0.2.2)
    else
     t9 (j1)
    ) fun k97 =>
   Option.bind (α := Bool) (
    bif (j1 == (0 : Int)) then
     some (true)
    else
     some ((!(decide ((l5).boxes = (x6).boxes))))
    ) fun t5 =>
   bif t5 then
    k97 ()
   else
    zB (j1)
   ) big (d9, x6)
  ) fun k9 =>
 bif (y4.2 != (0 : Int)) then
  some ((0 : Int), y4.2)
 else
  bif (((x1).length : Int) == (0 : Int)) then
   some ((0 : Int), (7 : Int))
  else
   k9 ((0 : Int))
theorem en36 : Enters Try.prog 36 := enters_of Try.func36 (by kernel_rfl) rfl
theorem wk36 {gI : Gh} {wI : World} {x0 : BoxLoom} {x1 : List BoxPick} {up0 : Value} (rp0 : RV gI.m wI x0 up0) {up1 : Value} (rp1 : RV gI.m wI x1 up1) {r : Int × Int} (h : f36 x0 x1 = some r) : Fn Try.prog 36 #[up0, up1] gI wI (fun m w v => ∃ y0 y1, v = .tuple #[y0, y1] ∧ y0 = .int .i64 (r.1) ∧ y1 = .int .i64 (r.2)) := by
 unfold f36 at h
 refine fn_of_E Try.func36 rfl (Nat.le_of_ble_eq_true rfl) fun g0 hm hfr => ?_
 have rp0 : RV g0.m wI x0 up0 := hm ▸ rp0
 have rp1 : RV g0.m wI x1 up1 := hm ▸ rp1
 show E _ 54 none _ _ _ _ _
 refine E_seq (E_region (EL_do .plain rfl (D_box (g := g0) rfl rp0 fun g1 w1 p1 hs q1 => ?_)))
 have hfr := hfr.ext hs
 have rp1 := rp1.ext hs
 refine EL_at (.int .i64 (0)) rfl rfl ?_
 refine EL_at (.int .i64 (0)) rfl rfl ?_
 refine EL_nil (thn_n (E_seq (E_region (EL_do .plain rfl (D_load (g := g1) Try.isAgg25 Try.sizeOf25 rfl q1 fun v2 r2 => ?_)))))
 refine EL_mw up1 rfl rfl ?_
 obtain ⟨y4, iD, h⟩ := bsome h
 refine EL_do .plain rfl (D_call (g := g1) (vs := [v2, up1]) en74 (.cons rfl (.cons rfl .nil)) (wk74 r2 rp1 iD) fun g3 w3_ v3 hs hr => ?_)
 have hfr := hfr.ext hs
 have rp1 := rp1.ext hs
 obtain ⟨r8, iE, rfl, t8, rfl⟩ := hr
 refine EL_mw (.tuple #[r8, .int .i64 (y4.2)]) rfl rfl ?_
 refine EL_p r8 (P_extract rfl rfl) rfl ?_
 refine EL_p (.int .i64 (y4.2)) (P_extract rfl rfl) rfl ?_
 refine EL_do .plain rfl (D_allocOc (g := g3) 2006 (⟨⟨[], [], []⟩⟩ : BoxBoxLoom) Try.zeroValue102 (fun m w => ⟨_, (rep_two rep_nil (rep_two rep_nil rep_nil)), rfl⟩) fun g5 w5 p5 hs b5 cb => ?_)
 have hfr := hfr.stp hs
 have rp1 := rp1.stp hs
 have t8 := t8.stp hs
 have jE : OSF 2006 60600 0 g5 w5 3 102 ([] : List Int) p5 := cb.osf (by rfl)
 have kE : OSF 2006 60601 1 g5 w5 3 102 ([] : List Int) p5 := cb.osf (by rfl)
 have lE : OSF 2006 60602 2 g5 w5 87 102 ([] : List BoxShuttle) p5 := cb.osf (by rfl)
 clear cb
 refine EL_do .plain rfl (D_storeOc (g := g5) (v := r8) Try.sizeOf102 rfl b5 rfl t8 fun g6 w6 hs b6 cb => ?_)
 clear cb
 have hfr := hfr.stp hs
 have rp1 := rp1.stp hs
 refine EL_at (.int .i64 (y4.2)) rfl rfl ?_
 refine EL_nil (thn_n (E_joinC h (fun (s : Int) e w => ∃ (g : Gh) , Fr gI wI g w ∧ e 1 = up1 ∧ RV g.m w (x1 : List BoxPick) up1 ∧ e 4 = .int .i64 (s) ∧ e 6 = p5 ∧ OB 2006 g w 102 (y4.1 : BoxBoxLoom) p5) (fun X9 k9 jD h => ?_) ?_))
 ·refine E_block ?_
  refine E_seq (E_region (EL_mw (.int .i64 (y4.2)) rfl rfl ?_))
  refine EL_in (.bool ((y4.2 != (0 : Int)))) rfl rfl rfl rfl ?_
  refine EL_at (.bool ((y4.2 != (0 : Int)))) rfl rfl ?_
  refine EL_nil (thn_n ?_)
  rcases csome h with ⟨x8, h⟩ | ⟨x8, h⟩
  ·refine E_ct x8 rfl ?_
   refine E_seq (E_region (EL_mw (.int .i64 (y4.2)) rfl rfl ?_))
   refine EL_at (.int .i64 (0)) rfl rfl ?_
   refine EL_at (.int .i64 (y4.2)) rfl rfl ?_
   refine EL_nil (thn_n (E_ret (blk_r ?_)))
   refine thn_r ?_
   obtain rfl := sinj h
   exact end2 rfl rfl (show _ = .int .i64 (0) from rfl) (show _ = .int .i64 (y4.2) from rfl) ⟨_, hfr, _, _, rfl, rfl, rfl⟩
  ·refine E_cf x8 rfl ?_
   refine E_seq (E_region (EL_mw up1 rfl rfl ?_))
   refine EL_p (.int .i64 ((x1).length : Int)) (P_len Try.underlying30 rfl rp1) rfl ?_
   refine EL_in (.bool ((((x1).length : Int) == (0 : Int)))) rfl rfl rfl rfl ?_
   refine EL_at (.bool ((((x1).length : Int) == (0 : Int)))) rfl rfl ?_
   refine EL_nil (thn_n ?_)
   rcases csome h with ⟨y8, h⟩ | ⟨y8, h⟩
   ·refine E_ct y8 rfl ?_
    refine E_seq (E_region (EL_at (.int .i64 (0)) rfl rfl ?_))
    refine EL_at (.int .i64 (7)) rfl rfl ?_
    refine EL_nil (thn_n (E_ret (blk_r ?_)))
    refine thn_r ?_
    obtain rfl := sinj h
    exact end2 rfl rfl (show _ = .int .i64 (0) from rfl) (show _ = .int .i64 (7) from rfl) ⟨_, hfr, _, _, rfl, rfl, rfl⟩
   ·refine E_cf y8 rfl ?_
    exact E_skip (blk_n (thn_n (jD ((0 : Int)) _ _ ⟨g6, hfr, rfl, rp1, rfl, rfl, b6⟩ h)))
 ·rintro d9 mE oF ⟨cC, hfr, mB, i3, nB, oB, tB⟩ h
  refine E_seq (E_region (EL_do .plain rfl (D_loadO (g := cC) Try.isAgg102 Try.sizeOf102 oB tB fun kD lD => ?_)))
  obtain ⟨x6, eC, h⟩ := bsome h
  refine EL_do .plain rfl (D_call (g := cC) (vs := [kD, .func (.func 75) #[] #[]]) en54 (.cons rfl (.cons rfl .nil)) (wk54 lD ⟨75, #[], #[], rfl, en75, fun g' w' hch a0 a1 b0 b1 r hu0 hu1 hr => by obtain rfl := RV_int.1 hu0; exact Fn.mono (wk75 hu1  hr) fun _ _ _ h => RV_int.2 h⟩ eC) fun mD nE nD hs hr => ?_)
  have hfr := hfr.ext hs
  have i3 := i3.ext hs
  have u9 := hr
  refine EL_do .plain rfl (D_allocOc (g := mD) 2007 (⟨(⟨List.toArray [(⟨List.toArray [0, 0, 0, 0], rfl⟩ : Vector Int 4), (⟨List.toArray [0, 0, 0, 0], rfl⟩ : Vector Int 4)], rfl⟩ : Vector (Vector Int 4) 2), ⟨0, 0⟩⟩ : BoxRace) Try.zeroValue108 (fun m w => ⟨_, (rep_two (rep_vec (flat_chunk (rep_vec (flat_chunk rep_int (flat_chunk rep_int (flat_chunk rep_int (flat_chunk rep_int flat_nil)))) rfl) (flat_chunk (rep_vec (flat_chunk rep_int (flat_chunk rep_int (flat_chunk rep_int (flat_chunk rep_int flat_nil)))) rfl) flat_nil)) rfl) (rep_two rep_int rep_int)), rfl⟩) fun oD pF i6 hs b16 cb => ?_)
  have hfr := hfr.stp hs
  have i3 := i3.stp hs
  have u9 := u9.stp hs
  clear cb
  refine EL_do .plain rfl (D_storeOc (g := oD) (v := nD) Try.sizeOf108 rfl b16 rfl u9 fun dC qF hs b17 cb => ?_)
  clear cb
  have hfr := hfr.stp hs
  have i3 := i3.stp hs
  refine EL_nil (thn_n (E_joinC h (fun (s : Int) e w => ∃ (g : Gh) , Fr gI wI g w ∧ e 4 = .int .i64 (s)) (fun X79 zB iC h => ?_) ?_))
  ·refine E_seq (E_region (EL_do .plain rfl (D_loadO (g := dC) Try.isAgg108 Try.sizeOf108 rfl b17 fun sD y9 => ?_)))
   refine EL_do .plain rfl (D_allocOc (g := dC) 2008 (⟨(⟨List.toArray [(⟨List.toArray [0, 0, 0, 0], rfl⟩ : Vector Int 4), (⟨List.toArray [0, 0, 0, 0], rfl⟩ : Vector Int 4)], rfl⟩ : Vector (Vector Int 4) 2), ⟨0, 0⟩⟩ : BoxRace) Try.zeroValue108 (fun m w => ⟨_, (rep_two (rep_vec (flat_chunk (rep_vec (flat_chunk rep_int (flat_chunk rep_int (flat_chunk rep_int (flat_chunk rep_int flat_nil)))) rfl) (flat_chunk (rep_vec (flat_chunk rep_int (flat_chunk rep_int (flat_chunk rep_int (flat_chunk rep_int flat_nil)))) rfl) flat_nil)) rfl) (rep_two rep_int rep_int)), rfl⟩) fun tD rF uD hs b81 cb => ?_)
   have hfr := hfr.stp hs
   have i3 := i3.stp hs
   have b17 := b17.stp hs rfl
   have y9 := y9.stp hs
   clear cb
   refine EL_do .plain rfl (D_storeOc (g := tD) (v := sD) Try.sizeOf108 rfl b81 rfl y9 fun vD sF hs b82 cb => ?_)
   clear cb
   have hfr := hfr.stp hs
   have i3 := i3.stp hs
   have b17 := b17.stp hs rfl
   refine EL_nil (thn_n (E_block ?_))
   refine E_lp h (fun (s : Int × BoxRace) e w => ∃ (g : Gh) (v8 : Value), Fr gI wI g w ∧ e 1 = up1 ∧ RV g.m w (x1 : List BoxPick) up1 ∧ e 4 = .int .i64 (s.1) ∧ e 7 = i6 ∧ OB 2007 g w 108 (x6 : BoxRace) i6 ∧ e 8 = v8 ∧ OB 2008 g w 108 (s.2 : BoxRace) v8) ⟨vD, (uD), hfr, mB, i3, nB, rfl, b17, rfl, b82⟩ (fun X83 aC jC => ?_)
   rintro ⟨j1, l5⟩ oE tF ⟨i9, z4, hfr, l9, n9, u7, v7, a7, c8, b7⟩ h
   refine E_joinC h (fun (s : Unit) e w => ∃ (g : Gh) , Fr gI wI g w ∧ e 1 = up1 ∧ RV g.m w (x1 : List BoxPick) up1 ∧ e 4 = .int .i64 (j1) ∧ e 7 = i6 ∧ OB 2007 g w 108 (x6 : BoxRace) i6 ∧ e 8 = z4 ∧ OB 2008 g w 108 (l5 : BoxRace) z4) (fun X97 k97 kC h => ?_) ?_
   ·obtain ⟨t5, hx, h⟩ := bsome h
    refine E_join (fun e w => ∃ (g : Gh) , Fr gI wI g w ∧ e 1 = up1 ∧ RV g.m w (x1 : List BoxPick) up1 ∧ e 4 = .int .i64 (j1) ∧ e 7 = i6 ∧ OB 2007 g w 108 (x6 : BoxRace) i6 ∧ e 8 = z4 ∧ OB 2008 g w 108 (l5 : BoxRace) z4 ∧ e 37 = .bool (t5)) (fun Q' hQ => ?_) (fun aE rE hR => ?_)
    ·replace h := hx
     clear hx
     refine E_region (EL_mv u7 rfl ?_)
     refine EL_in (.bool ((j1 == (0 : Int)))) rfl rfl rfl rfl ?_
     refine EL_mw (.bool ((j1 == (0 : Int)))) rfl rfl ?_
     rcases csome h with ⟨j3, h⟩ | ⟨j3, h⟩
     ·refine EL_s rfl rfl j3 rfl rfl ?_
      iterate 4 refine EL_s rfl rfl j3 rfl rfl ?_
      refine EL_p (.bool true) (P_pick (b := (j1 == (0 : Int))) rfl (pick_t j3 rfl)) rfl ?_
      refine EL_nil ?_
      obtain rfl := sinj h
      exact hQ _ _ ⟨i9, hfr, l9, n9, u7, v7, a7, c8, b7, rfl⟩
     ·refine EL_y (fPtr z4 0) (P_fieldAddr at_108_0 c8 (OB.ptr b7)) rfl rfl j3 rfl ?_
      refine EL_do (.yes2 rfl rfl j3) rfl (D_loadF (g := i9) part_BoxRace_0.1 Try.isAgg76 Try.sizeOf76 rfl b7 fun sE lC => ?_)
      refine EL_y (fPtr i6 0) (P_fieldAddr at_108_0 v7 (OB.ptr a7)) rfl rfl j3 rfl ?_
      refine EL_do (.yes2 rfl rfl j3) rfl (D_loadF (g := i9) part_BoxRace_0.1 Try.isAgg76 Try.sizeOf76 rfl a7 fun tE mC => ?_)
      refine EL_y (.bool ((!(decide ((l5).boxes = (x6).boxes))))) (P_neD eqd_76 rfl rfl eg_76 rfl rfl lC mC) rfl rfl j3 rfl ?_
      refine EL_p (.bool ((!(decide ((l5).boxes = (x6).boxes))))) (P_pick (b := (j1 == (0 : Int))) rfl (pick_f j3 rfl)) rfl ?_
      refine EL_nil ?_
      obtain rfl := sinj h
      exact hQ _ _ ⟨i9, hfr, l9, n9, u7, v7, a7, c8, b7, rfl⟩
    ·clear hx
     obtain ⟨z9, hfr, bA, gA, l8, iA, jA, lA, mA, o7⟩ := hR
     rcases csome h with ⟨g8, h⟩ | ⟨g8, h⟩
     ·refine E_cond_true (Eq.trans (show ev _ _ = .bool (t5) from o7) (congrArg Value.bool g8)) ?_
      exact E_skip (thn_n (kC () _ _ ⟨z9, hfr, bA, gA, l8, iA, jA, lA, mA⟩ h))
     ·refine E_cond_false (Eq.trans (show ev _ _ = .bool (t5) from o7) (congrArg Value.bool g8)) ?_
      refine E_exit ?_
      refine thn_e ?_
      refine thn_e ?_
      refine blk_hit ?_
      exact thn_n (iC (j1) _ _ ⟨z9, hfr, l8⟩ h)
   ·rintro _ bE uE ⟨nA, hfr, m8, u3, oA, pA, i5, n8, z3⟩ h
    refine E_joinC h (fun (s : Int × BoxRace) e w => ∃ (g : Gh) , Fr gI wI g w ∧ e 1 = up1 ∧ RV g.m w (x1 : List BoxPick) up1 ∧ e 4 = .int .i64 (s.1) ∧ e 7 = i6 ∧ OB 2007 g w 108 (x6 : BoxRace) i6 ∧ e 8 = z4 ∧ OB 2008 g w 108 (s.2 : BoxRace) z4) (fun X123 o9 vB h => ?_) ?_
    ·refine E_block ?_
     refine E_seq (E_region (EL_do .plain rfl (D_loadO (g := nA) Try.isAgg108 Try.sizeOf108 n8 z3 fun qC rC => ?_)))
     refine EL_mv m8 rfl ?_
     obtain ⟨o0, xB, h⟩ := bsome h
     refine EL_do .plain rfl (D_call (g := nA) (vs := [qC, up1]) en76 (.cons rfl (.cons rfl .nil)) (wk76 rC u3 xB) fun tC cE vE hs hr => ?_)
     have hfr := hfr.ext hs
     have u3 := u3.ext hs
     have i5 := i5.ext hs
     have z3 := z3.ext hs
     obtain ⟨g7, xD, yD, rfl, i7, rfl, rfl⟩ := hr
     refine EL_mw (.tuple #[g7, .int .i64 (o0.2.1), .int .i64 (o0.2.2)]) rfl rfl ?_
     refine EL_p g7 (P_extract rfl rfl) rfl ?_
     refine EL_p (.int .i64 (o0.2.1)) (P_extract rfl rfl) rfl ?_
     refine EL_p (.int .i64 (o0.2.2)) (P_extract rfl rfl) rfl ?_
     refine EL_do .plain rfl (D_allocOc (g := tC) 2009 (⟨[], ⟨(⟨List.toArray [(⟨List.toArray [0, 0, 0, 0], rfl⟩ : Vector Int 4), (⟨List.toArray [0, 0, 0, 0], rfl⟩ : Vector Int 4)], rfl⟩ : Vector (Vector Int 4) 2), ⟨0, 0⟩⟩, 0⟩ : BoxRun) Try.zeroValue129 (fun m w => ⟨_, (rep_two rep_nil (rep_two (rep_two (rep_vec (flat_chunk (rep_vec (flat_chunk rep_int (flat_chunk rep_int (flat_chunk rep_int (flat_chunk rep_int flat_nil)))) rfl) (flat_chunk (rep_vec (flat_chunk rep_int (flat_chunk rep_int (flat_chunk rep_int (flat_chunk rep_int flat_nil)))) rfl) flat_nil)) rfl) (rep_two rep_int rep_int)) rep_int)), rfl⟩) fun qA uC i8 hs b127 cb => ?_)
     have hfr := hfr.stp hs
     have u3 := u3.stp hs
     have i5 := i5.stp hs rfl
     have z3 := z3.stp hs rfl
     have i7 := i7.stp hs
     have zD : OSF 2009 60900 0 qA uC 3 129 ([] : List Int) i8 := cb.osf (by rfl)
     clear cb
     refine EL_do .plain rfl (D_storeOc (g := qA) (v := g7) Try.sizeOf129 rfl b127 rfl i7 fun vC xE hs b128 cb => ?_)
     clear cb
     have hfr := hfr.stp hs
     have u3 := u3.stp hs
     have i5 := i5.stp hs rfl
     have z3 := z3.stp hs rfl
     refine EL_at (.int .i64 (o0.2.1)) rfl rfl ?_
     refine EL_at (.int .i64 (o0.2.2)) rfl rfl ?_
     refine EL_nil (thn_n (E_joinC h (fun (s : Int) e w => ∃ (g : Gh) , Fr gI wI g w ∧ e 1 = up1 ∧ RV g.m w (x1 : List BoxPick) up1 ∧ e 4 = .int .i64 (s) ∧ e 7 = i6 ∧ OB 2007 g w 108 (x6 : BoxRace) i6 ∧ e 8 = z4 ∧ OB 2008 g w 108 (l5 : BoxRace) z4 ∧ e 9 = i8 ∧ OB 2009 g w 129 (o0.1 : BoxRun) i8) (fun X130 t9 yB h => ?_) ?_))
     ·refine E_seq (E_region (EL_mw (.int .i64 (o0.2.2)) rfl rfl ?_))
      refine EL_in (.bool ((o0.2.2 != (0 : Int)))) rfl rfl rfl rfl ?_
      refine EL_nil (thn_n ?_)
      rcases csome h with ⟨k8, h⟩ | ⟨k8, h⟩
      ·refine E_ct k8 rfl ?_
       refine E_seq (E_region (EL_mw (.int .i64 (o0.2.2)) rfl rfl ?_))
       refine EL_at (.int .i64 (0)) rfl rfl ?_
       refine EL_at (.int .i64 (o0.2.2)) rfl rfl ?_
       refine EL_nil (thn_n (E_ret (thn_r ?_)))
       refine blk_r ?_
       refine thn_r ?_
       refine thn_r ?_
       refine blk_r ?_
       refine thn_r ?_
       obtain rfl := sinj h
       exact end2 rfl rfl (show _ = .int .i64 (0) from rfl) (show _ = .int .i64 (o0.2.2) from rfl) ⟨_, hfr, _, _, rfl, rfl, rfl⟩
      ·refine E_cf k8 rfl ?_
       exact E_skip (thn_n (yB (j1) _ _ ⟨vC, hfr, m8, u3, oA, pA, i5, n8, z3, rfl, b128⟩ h))
     ·rintro d7 dE yE ⟨rA, hfr, uA, j7, xA, yA, m7, o8, zA, aB, q8⟩ h
      refine E_region (EL_p (fPtr i8 1) (P_fieldAddr at_129_1 aB (OB.ptr q8)) rfl ?_)
      refine EL_do .plain rfl (D_loadF (g := rA) part_BoxRun_1.1 Try.isAgg108 Try.sizeOf108 rfl q8 fun xC yC => ?_)
      refine EL_do .plain rfl (D_storeOc (g := rA) (v := xC) Try.sizeOf108 o8 zA rfl yC fun aD zE hs b135 cb => ?_)
      clear cb
      have hfr := hfr.stp hs
      have j7 := j7.stp hs
      have m7 := m7.stp hs rfl
      exact EL_nil (blk_n (thn_n (vB (d7, (o0.1).last) _ _ ⟨aD, hfr, uA, j7, xA, yA, m7, o8, b135⟩ h)))
    ·rintro ⟨x5, c7⟩ eE cF ⟨bB, hfr, cB, j6, dB, eB, v6, iB, jB⟩ h
     refine E_seq (E_seq (E_region (EL_do .plain rfl (D_loadO (g := bB) Try.isAgg108 Try.sizeOf108 iB jB fun bD a9 => ?_))))
     refine EL_nil (thn_n (E_region (EL_do .plain rfl (D_allocOc (g := bB) 2008 (⟨(⟨List.toArray [(⟨List.toArray [0, 0, 0, 0], rfl⟩ : Vector Int 4), (⟨List.toArray [0, 0, 0, 0], rfl⟩ : Vector Int 4)], rfl⟩ : Vector (Vector Int 4) 2), ⟨0, 0⟩⟩ : BoxRace) Try.zeroValue108 (fun m w => ⟨_, (rep_two (rep_vec (flat_chunk (rep_vec (flat_chunk rep_int (flat_chunk rep_int (flat_chunk rep_int (flat_chunk rep_int flat_nil)))) rfl) (flat_chunk (rep_vec (flat_chunk rep_int (flat_chunk rep_int (flat_chunk rep_int (flat_chunk rep_int flat_nil)))) rfl) flat_nil)) rfl) (rep_two rep_int rep_int)), rfl⟩) fun cD dF eD hs b138 cb => ?_))))
     have hfr := hfr.stp hs
     have j6 := j6.stp hs
     have v6 := v6.stp hs rfl
     have a9 := a9.stp hs
     clear cb
     refine EL_do .plain rfl (D_storeOc (g := cD) (v := bD) Try.sizeOf108 rfl b138 rfl a9 fun gD eF hs b139 cb => ?_)
     clear cb
     have hfr := hfr.stp hs
     have j6 := j6.stp hs
     have v6 := v6.stp hs rfl
     refine EL_nil (thn_n (E_region (EL_mv dB rfl ?_)))
     refine EL_in (.int .i64 ((w64 (x5 + (1 : Int))))) rfl rfl rfl rfl ?_
     refine EL_at (.int .i64 ((w64 (x5 + (1 : Int))))) rfl rfl ?_
     exact EL_nil (thn_n (jC ((w64 (x5 + (1 : Int))), c7) _ _ ⟨gD, (eD), hfr, cB, j6, rfl, eB, v6, rfl, b139⟩ h))
  ·rintro y6 gE iF ⟨nF, hfr, lB⟩ h
   refine E_seq (E_region (EL_mv lB rfl ?_))
   refine EL_at (.int .i64 (y6)) rfl rfl ?_
   refine EL_at (.int .i64 (0)) rfl rfl ?_
   refine EL_nil (thn_n (E_ret ?_))
   obtain rfl := sinj h
   exact end2 rfl rfl (show _ = .int .i64 (y6) from rfl) (show _ = .int .i64 (0) from rfl) ⟨_, hfr, _, _, rfl, rfl, rfl⟩
def f70 (x0 : BoxLoom) (x1 : List BoxPick) : Option (BoxBoxLoom × BoxRun × Int × Int) :=
 jn (σ := BoxBoxLoom × BoxRun) (fun (z4, i6) =>
  (f54 z4 ((fun a0 a1 => f75 a0 a1))).bind fun y6 =>
  (f76 y6 x1).bind fun y71 =>
  some (z4, y71.1, y71.2.1, y71.2.2)
  ) fun a7 =>
 (f74 x0 x1).bind fun j1 =>
 bif (j1.2 != (0 : Int)) then
  some (j1.1, (⟨[], ⟨(⟨List.toArray [(⟨List.toArray [0, 0, 0, 0], rfl⟩ : Vector Int 4), (⟨List.toArray [0, 0, 0, 0], rfl⟩ : Vector Int 4)], rfl⟩ : Vector (Vector Int 4) 2), ⟨0, 0⟩⟩, 0⟩ : BoxRun), (0 : Int), j1.2)
 else
  a7 (j1.1, (⟨[], ⟨(⟨List.toArray [(⟨List.toArray [0, 0, 0, 0], rfl⟩ : Vector Int 4), (⟨List.toArray [0, 0, 0, 0], rfl⟩ : Vector Int 4)], rfl⟩ : Vector (Vector Int 4) 2), ⟨0, 0⟩⟩, 0⟩ : BoxRun))
def f6 (x0 : BoxLoom) (x1 : List BoxPick) : Option (Bool) :=
 jn (σ := Unit) (fun _ =>
  (f15 x0).bind fun mA =>
  (f28 x1).bind fun nA =>
  (f36 mA nA).bind fun o0 =>
  jn (σ := Unit) (fun _ =>
   (f31 x0 x1).bind fun y6 =>
   Option.bind (α := Int) (
    Option.bind (α := Bool) (
     bif (y6 == (0 : Int)) then
      some ((((x1).length : Int) == (0 : Int)))
     else
      some (false)
     ) fun x5 =>
    bif x5 then
     some ((7 : Int))
    else
     some (y6)
    ) fun v6 =>
   jn (σ := Int) (fun z3 =>
    Option.bind (α := Bool) (
     bif (o0.2 == z3) then
      bif (o0.1 == (0 : Int)) then
       (f14).bind fun v7 =>
       some (v7)
      else
       some (false)
     else
      some (false)
     ) fun b7 =>
    some (b7)
    ) fun x8 =>
   bif (v6 == (0 : Int)) then
    (f37 x0 x1).bind fun j3 =>
    jn (σ := Unit) (fun _ =>
     x8 ((9 : Int))
     ) fun oA =>
    bif j3.2 then
     Option.bind (α := Bool) (
      bif (o0.2 == (0 : Int)) then
       bif (o0.1 == j3.1) then
        (f14).bind fun y135 =>
        some (y135)
       else
        some (false)
      else
       some (false)
      ) fun c7 =>
     some (c7)
    else
     oA ()
   else
    x8 (v6)
   ) fun k54 =>
  Option.bind (α := Bool) (
   (f18 mA x0).bind fun u7 =>
   bif (!u7) then
    some (true)
   else
    (f23 nA x1).bind fun k9 =>
    some ((!k9))
   ) fun i6 =>
  bif i6 then
   some (false)
  else
   k54 ()
  ) fun lC =>
 Option.bind (α := Bool) (
  (f13 x0).bind fun n8 =>
  bif n8 then
   some (true)
  else
   some ((decide (((x1).length : Int) > (30 : Int))))
  ) fun j6 =>
 bif j6 then
  (f14).bind fun l9 =>
  some (l9)
 else
  lC ()
theorem wk6 {gI : Gh} {wI : World} {x0 : BoxLoom} {x1 : List BoxPick} {up0 : Value} (rp0 : RV gI.m wI x0 up0) {up1 : Value} (rp1 : RV gI.m wI x1 up1) {r : Bool} (h : f6 x0 x1 = some r) : Fn Try.prog 6 #[up0, up1] gI wI (fun _ _ v => v = .bool (r)) := by
 unfold f6 at h
 refine fn_of_E Try.func6 rfl (Nat.le_of_ble_eq_true rfl) fun g0 hm hfr => ?_
 have rp0 : RV g0.m wI x0 up0 := hm ▸ rp0
 have rp1 : RV g0.m wI x1 up1 := hm ▸ rp1
 show E _ 79 none _ _ _ _ _
 refine E_seq (E_region (EL_do .plain rfl (D_box (g := g0) rfl rp0 fun g1 w1 p1 hs q1 => ?_)))
 have hfr := hfr.ext hs
 have rp1 := rp1.ext hs
 refine EL_at (.bool false) rfl rfl ?_
 refine EL_nil (thn_n (E_joinC h (fun (s : Unit) e w => ∃ (g : Gh) , Fr gI wI g w ∧ e 1 = up1 ∧ RV g.m w (x1 : List BoxPick) up1 ∧ e 2 = p1 ∧ PT g.m w (x0 : BoxLoom) p1) (fun X14 lC aD h => ?_) ?_))
 ·obtain ⟨j6, hx, h⟩ := bsome h
  refine E_join (fun e w => ∃ (g : Gh) , Fr gI wI g w ∧ e 1 = up1 ∧ RV g.m w (x1 : List BoxPick) up1 ∧ e 2 = p1 ∧ PT g.m w (x0 : BoxLoom) p1 ∧ e 18 = .bool (j6)) (fun Q' hQ => ?_) (fun oF nG hR => ?_)
  ·replace h := hx
   clear hx
   refine E_region (EL_do .plain rfl (D_load (g := g1) Try.isAgg25 Try.sizeOf25 rfl q1 fun vD xD => ?_))
   obtain ⟨n8, bD, h⟩ := bsome h
   refine EL_do .plain rfl (D_call (g := g1) (vs := [vD]) en13 (.cons rfl .nil) (wk13 xD bD) fun mC pF oG hs hr => ?_)
   have hfr := hfr.ext hs
   have rp1 := rp1.ext hs
   have q1 := q1.ext hs
   subst hr
   refine EL_mw (.bool (n8)) rfl rfl ?_
   rcases csome h with ⟨z4, h⟩ | ⟨z4, h⟩
   ·refine EL_s rfl rfl z4 rfl rfl ?_
    refine EL_s rfl rfl z4 rfl rfl ?_
    refine EL_s rfl rfl z4 rfl rfl ?_
    refine EL_p (.bool true) (P_pick (b := n8) rfl (pick_t z4 rfl)) rfl ?_
    refine EL_nil ?_
    obtain rfl := sinj h
    exact hQ _ _ ⟨mC, hfr, rfl, rp1, rfl, q1, rfl⟩
   ·refine EL_y up1 (P_move rfl) rfl rfl z4 rfl ?_
    refine EL_y (.int .i64 ((x1).length : Int)) (P_len Try.underlying30 rfl rp1) rfl rfl z4 rfl ?_
    refine EL_y (.bool ((decide (((x1).length : Int) > (30 : Int))))) (P_int rfl rfl rfl) rfl rfl z4 rfl ?_
    refine EL_p (.bool ((decide (((x1).length : Int) > (30 : Int))))) (P_pick (b := n8) rfl (pick_f z4 rfl)) rfl ?_
    refine EL_nil ?_
    obtain rfl := sinj h
    exact hQ _ _ ⟨mC, hfr, rfl, rp1, rfl, q1, rfl⟩
  ·clear hx
   obtain ⟨qC, hfr, eB, iB, jB, lB, o8⟩ := hR
   rcases csome h with ⟨y8, h⟩ | ⟨y8, h⟩
   ·refine E_cond_true (Eq.trans (show ev _ _ = .bool (j6) from o8) (congrArg Value.bool y8)) ?_
    refine E_seq (E_region ?_)
    obtain ⟨l9, cD, h⟩ := bsome h
    refine EL_do .plain rfl (D_call (g := qC) (vs := []) en14 .nil (wk14  cD) fun pG qF qG hs hr => ?_)
    have hfr := hfr.ext hs
    subst hr
    refine EL_at (.bool (l9)) rfl rfl ?_
    refine EL_nil (thn_n (E_ret (thn_r ?_)))
    obtain rfl := sinj h
    exact end1 rfl rfl (show _ = .bool (l9) from rfl) ⟨_, hfr, rfl⟩
   ·refine E_cond_false (Eq.trans (show ev _ _ = .bool (j6) from o8) (congrArg Value.bool y8)) ?_
    exact E_skip (thn_n (aD () _ _ ⟨qC, hfr, eB, iB, jB, lB⟩ h))
 ·rintro _ rF rG ⟨rC, hfr, j7, j1, m7, i3⟩ h
  refine E_seq (E_region (EL_do .plain rfl (D_load (g := rC) Try.isAgg25 Try.sizeOf25 m7 i3 fun yD zD => ?_)))
  obtain ⟨mA, eD, h⟩ := bsome h
  refine EL_do .plain rfl (D_call (g := rC) (vs := [yD]) en15 (.cons rfl .nil) (wk15 zD eD) fun aE sF bE hs hr => ?_)
  have hfr := hfr.ext hs
  have j1 := j1.ext hs
  have i3 := i3.ext hs
  have q8 := hr
  refine EL_mv j7 rfl ?_
  obtain ⟨nA, gD, h⟩ := bsome h
  refine EL_do .plain rfl (D_call (g := aE) (vs := [up1]) en28 (.cons rfl .nil) (wk28 j1 gD) fun cE tF r8 hs hr => ?_)
  have hfr := hfr.ext hs
  have j1 := j1.ext hs
  have i3 := i3.ext hs
  have q8 := q8.ext hs
  have a7 := hr
  refine EL_do .plain rfl (D_allocOc (g := cE) 2005 (⟨[], [], []⟩ : BoxLoom) Try.zeroValue25 (fun m w => ⟨_, (rep_two rep_nil (rep_two rep_nil rep_nil)), rfl⟩) fun n9 pA qA hs b33 cb => ?_)
  have hfr := hfr.stp hs
  have j1 := j1.stp hs
  have i3 := i3.stp hs
  have q8 := q8.stp hs
  have a7 := a7.stp hs
  have sE : OSF 2005 60500 0 n9 pA 3 25 ([] : List Int) qA := cb.osf (by rfl)
  have tE : OSF 2005 60501 1 n9 pA 3 25 ([] : List Int) qA := cb.osf (by rfl)
  have uE : OSF 2005 60502 2 n9 pA 87 25 ([] : List BoxShuttle) qA := cb.osf (by rfl)
  clear cb
  refine EL_do .plain rfl (D_storeOc (g := n9) (v := bE) Try.sizeOf25 rfl b33 rfl q8 fun tC sG hs b34 cb => ?_)
  clear cb
  have hfr := hfr.stp hs
  have j1 := j1.stp hs
  have i3 := i3.stp hs
  have a7 := a7.stp hs
  refine EL_at r8 rfl rfl ?_
  refine EL_nil (thn_n (E_seq (E_region (EL_do .plain rfl (D_loadO (g := tC) Try.isAgg25 Try.sizeOf25 rfl b34 fun dE eE => ?_)))))
  refine EL_mw r8 rfl rfl ?_
  obtain ⟨o0, iD, h⟩ := bsome h
  refine EL_do .plain rfl (D_call (g := tC) (vs := [dE, r8]) en36 (.cons rfl (.cons rfl .nil)) (wk36 eE a7 iD) fun rA uF tG hs hr => ?_)
  have hfr := hfr.ext hs
  have j1 := j1.ext hs
  have i3 := i3.ext hs
  have a7 := a7.ext hs
  have b34 := b34.ext hs
  obtain ⟨vE, xE, rfl, rfl, rfl⟩ := hr
  refine EL_mw (.tuple #[.int .i64 (o0.1), .int .i64 (o0.2)]) rfl rfl ?_
  refine EL_p (.int .i64 (o0.1)) (P_extract rfl rfl) rfl ?_
  refine EL_p (.int .i64 (o0.2)) (P_extract rfl rfl) rfl ?_
  refine EL_at (.int .i64 (o0.1)) rfl rfl ?_
  refine EL_at (.int .i64 (o0.2)) rfl rfl ?_
  refine EL_nil (thn_n (E_joinC h (fun (s : Unit) e w => ∃ (g : Gh) , Fr gI wI g w ∧ e 1 = up1 ∧ RV g.m w (x1 : List BoxPick) up1 ∧ e 2 = p1 ∧ PT g.m w (x0 : BoxLoom) p1 ∧ e 7 = .int .i64 (o0.1) ∧ e 8 = .int .i64 (o0.2)) (fun X54 k54 jD h => ?_) ?_))
  ·obtain ⟨i6, hx, h⟩ := bsome h
   refine E_join (fun e w => ∃ (g : Gh) , Fr gI wI g w ∧ e 1 = up1 ∧ RV g.m w (x1 : List BoxPick) up1 ∧ e 2 = p1 ∧ PT g.m w (x0 : BoxLoom) p1 ∧ e 7 = .int .i64 (o0.1) ∧ e 8 = .int .i64 (o0.2) ∧ e 39 = .bool (i6)) (fun Q' hQ => ?_) (fun vF uG hR => ?_)
   ·replace h := hx
    clear hx
    refine E_region (EL_do .plain rfl (D_loadO (g := rA) Try.isAgg25 Try.sizeOf25 rfl b34 fun v62 gE => ?_))
    refine EL_do .plain rfl (D_load (g := rA) Try.isAgg25 Try.sizeOf25 m7 i3 fun iE jE => ?_)
    obtain ⟨u7, kD, h⟩ := bsome h
    refine EL_do .plain rfl (D_call (g := rA) (vs := [v62, iE]) en18 (.cons rfl (.cons rfl .nil)) (wk18 gE jE kD) fun uC xF vG hs hr => ?_)
    have hfr := hfr.ext hs
    have j1 := j1.ext hs
    have i3 := i3.ext hs
    have a7 := a7.ext hs
    subst hr
    refine EL_p (.bool (!u7)) (P_not rfl) rfl ?_
    refine EL_mw (.bool (!u7)) rfl rfl ?_
    rcases csome h with ⟨i5, h⟩ | ⟨i5, h⟩
    ·refine EL_s rfl rfl i5 rfl rfl ?_
     iterate 3 refine EL_s rfl rfl i5 rfl rfl ?_
     refine EL_p (.bool true) (P_pick (b := (!u7)) rfl (pick_t i5 rfl)) rfl ?_
     refine EL_nil ?_
     obtain rfl := sinj h
     exact hQ _ _ ⟨uC, hfr, j7, j1, m7, i3, rfl, rfl, rfl⟩
    ·refine EL_y r8 (P_move rfl) rfl rfl i5 rfl ?_
     refine EL_y up1 (P_move j7) rfl rfl i5 rfl ?_
     obtain ⟨k9, lD, h⟩ := bsome h
     refine EL_do (.yes2 rfl rfl i5) rfl (D_call (g := uC) (vs := [r8, up1]) en23 (.cons rfl (.cons rfl .nil)) (wk23 a7 j1 lD) fun kE yF xG hs hr => ?_)
     have hfr := hfr.ext hs
     have j1 := j1.ext hs
     have i3 := i3.ext hs
     subst hr
     refine EL_y (.bool (!k9)) (P_not rfl) rfl rfl i5 rfl ?_
     refine EL_p (.bool (!k9)) (P_pick (b := (!u7)) rfl (pick_f i5 rfl)) rfl ?_
     refine EL_nil ?_
     obtain rfl := sinj h
     exact hQ _ _ ⟨kE, hfr, j7, j1, m7, i3, rfl, rfl, rfl⟩
   ·clear hx
    obtain ⟨lE, hfr, mB, nB, oB, tB, vB, xB, t8⟩ := hR
    rcases csome h with ⟨a9, h⟩ | ⟨a9, h⟩
    ·refine E_cond_true (Eq.trans (show ev _ _ = .bool (i6) from t8) (congrArg Value.bool a9)) ?_
     refine E_seq (E_region (EL_at (.bool false) rfl rfl ?_))
     refine EL_nil (thn_n (E_ret (thn_r ?_)))
     obtain rfl := sinj h
     exact end1 rfl rfl (show _ = .bool false from rfl) ⟨_, hfr, rfl⟩
    ·refine E_cond_false (Eq.trans (show ev _ _ = .bool (i6) from t8) (congrArg Value.bool a9)) ?_
     exact E_skip (thn_n (jD () _ _ ⟨lE, hfr, mB, nB, oB, tB, vB, xB⟩ h))
  ·rintro _ zF yG ⟨vC, hfr, o7, x6, c8, d7, o9, t9⟩ h
   refine E_seq (E_region (EL_do .plain rfl (D_load (g := vC) Try.isAgg25 Try.sizeOf25 c8 d7 fun mE nE => ?_)))
   refine EL_mv o7 rfl ?_
   obtain ⟨y6, mD, h⟩ := bsome h
   refine EL_do .plain rfl (D_call (g := vC) (vs := [mE, up1]) en31 (.cons rfl (.cons rfl .nil)) (wk31 nE x6 mD) fun xC aG zG hs hr => ?_)
   have hfr := hfr.ext hs
   have x6 := x6.ext hs
   have d7 := d7.ext hs
   subst hr
   refine EL_at (.int .i64 (y6)) rfl rfl ?_
   refine EL_nil (thn_n ?_)
   obtain ⟨v6, hx, h⟩ := bsome h
   refine E_join (fun e w => ∃ (g : Gh) , Fr gI wI g w ∧ e 1 = up1 ∧ RV g.m w (x1 : List BoxPick) up1 ∧ e 2 = p1 ∧ PT g.m w (x0 : BoxLoom) p1 ∧ e 7 = .int .i64 (o0.1) ∧ e 8 = .int .i64 (o0.2) ∧ e 9 = .int .i64 (v6)) (fun Q' hQ => ?_) (fun bG aH hR => ?_)
   ·replace h := hx
    clear hx
    obtain ⟨x5, hx, h⟩ := bsome h
    refine E_join (fun e w => ∃ (g : Gh) , Fr gI wI g w ∧ e 1 = up1 ∧ RV g.m w (x1 : List BoxPick) up1 ∧ e 2 = p1 ∧ PT g.m w (x0 : BoxLoom) p1 ∧ e 7 = .int .i64 (o0.1) ∧ e 8 = .int .i64 (o0.2) ∧ e 9 = .int .i64 (y6) ∧ e 49 = .bool (x5)) (fun Q' hQ => ?_) (fun cG bH hR => ?_)
    ·replace h := hx
     clear hx
     refine E_region (EL_mw (.int .i64 (y6)) rfl rfl ?_)
     refine EL_in (.bool ((y6 == (0 : Int)))) rfl rfl rfl rfl ?_
     refine EL_mw (.bool ((y6 == (0 : Int)))) rfl rfl ?_
     rcases csome h with ⟨l5, h⟩ | ⟨l5, h⟩
     ·refine EL_y up1 (P_move o7) rfl rfl l5 rfl ?_
      refine EL_y (.int .i64 ((x1).length : Int)) (P_len Try.underlying30 rfl x6) rfl rfl l5 rfl ?_
      refine EL_y (.bool ((((x1).length : Int) == (0 : Int)))) (P_int rfl rfl rfl) rfl rfl l5 rfl ?_
      refine EL_p (.bool ((((x1).length : Int) == (0 : Int)))) (P_pick (b := (y6 == (0 : Int))) rfl (pick_t l5 rfl)) rfl ?_
      refine EL_nil ?_
      obtain rfl := sinj h
      exact hQ _ _ ⟨xC, hfr, o7, x6, c8, d7, o9, t9, rfl, rfl⟩
     ·refine EL_s rfl rfl l5 rfl rfl ?_
      refine EL_s rfl rfl l5 rfl rfl ?_
      refine EL_s rfl rfl l5 rfl rfl ?_
      refine EL_p (.bool false) (P_pick (b := (y6 == (0 : Int))) rfl (pick_f l5 rfl)) rfl ?_
      refine EL_nil ?_
      obtain rfl := sinj h
      exact hQ _ _ ⟨xC, hfr, o7, x6, c8, d7, o9, t9, rfl, rfl⟩
    ·clear hx
     obtain ⟨yC, hfr, u9, y9, z9, bA, gA, iA, yB, v8⟩ := hR
     rcases csome h with ⟨d9, h⟩ | ⟨d9, h⟩
     ·refine E_cond_true (Eq.trans (show ev _ _ = .bool (x5) from v8) (congrArg Value.bool d9)) ?_
      refine E_region (EL_at (.int .i64 (7)) rfl rfl ?_)
      refine EL_nil ?_
      obtain rfl := sinj h
      exact hQ _ _ ⟨yC, hfr, u9, y9, z9, bA, gA, iA, rfl⟩
     ·refine E_cond_false (Eq.trans (show ev _ _ = .bool (x5) from v8) (congrArg Value.bool d9)) ?_
      refine E_skip ?_
      obtain rfl := sinj h
      exact hQ _ _ ⟨yC, hfr, u9, y9, z9, bA, gA, iA, yB⟩
   ·clear hx
    obtain ⟨uA, hfr, zB, aC, cC, dC, g8, i8, jA⟩ := hR
    refine E_joinC h (fun (s : Int) e w => ∃ (g : Gh) , Fr gI wI g w ∧ e 7 = .int .i64 (o0.1) ∧ e 8 = .int .i64 (o0.2) ∧ e 9 = .int .i64 (s)) (fun X111 x8 lA h => ?_) ?_
    ·refine E_seq (E_region (EL_mv jA rfl ?_))
     refine EL_in (.bool ((v6 == (0 : Int)))) rfl rfl rfl rfl ?_
     refine EL_nil (thn_n ?_)
     rcases csome h with ⟨k8, h⟩ | ⟨k8, h⟩
     ·refine E_ct k8 rfl ?_
      refine E_seq (E_region (EL_do .plain rfl (D_load (g := uA) Try.isAgg25 Try.sizeOf25 cC dC fun nD oD => ?_)))
      refine EL_mv zB rfl ?_
      obtain ⟨j3, eC, h⟩ := bsome h
      refine EL_do .plain rfl (D_call (g := uA) (vs := [nD, up1]) en37 (.cons rfl (.cons rfl .nil)) (wk37 oD aC eC) fun l8 yE dG hs hr => ?_)
      have hfr := hfr.ext hs
      obtain ⟨oE, rE, rfl, rfl, rfl⟩ := hr
      refine EL_mw (.tuple #[.int .i64 (j3.1), .bool (j3.2)]) rfl rfl ?_
      refine EL_p (.int .i64 (j3.1)) (P_extract rfl rfl) rfl ?_
      refine EL_p (.bool (j3.2)) (P_extract rfl rfl) rfl ?_
      refine EL_at (.int .i64 (j3.1)) rfl rfl ?_
      refine EL_at (.bool (j3.2)) rfl rfl ?_
      refine EL_nil (thn_n (E_joinC h (fun (s : Unit) e w => ∃ (g : Gh) , Fr gI wI g w ∧ e 7 = .int .i64 (o0.1) ∧ e 8 = .int .i64 (o0.2)) (fun X126 oA iC h => ?_) ?_))
      ·refine E_seq (E_region (EL_mw (.bool (j3.2)) rfl rfl ?_))
       refine EL_nil (thn_n ?_)
       rcases csome h with ⟨m8, h⟩ | ⟨m8, h⟩
       ·refine E_ct m8 rfl ?_
        obtain ⟨c7, hx, h⟩ := bsome h
        refine E_join (fun e w => ∃ (g : Gh) , Fr gI wI g w ∧ e 4 = .bool (c7)) (fun Q' hQ => ?_) (fun zE eG hR => ?_)
        ·replace h := hx
         clear hx
         refine E_region (EL_mv i8 rfl ?_)
         refine EL_in (.bool ((o0.2 == (0 : Int)))) rfl rfl rfl rfl ?_
         refine EL_mw (.bool ((o0.2 == (0 : Int)))) rfl rfl ?_
         rcases csome h with ⟨u3, h⟩ | ⟨u3, h⟩
         ·refine EL_y (.int .i64 (o0.1)) (P_move g8) rfl rfl u3 rfl ?_
          refine EL_y (.int .i64 (j3.1)) (P_move rfl) rfl rfl u3 rfl ?_
          refine EL_y (.bool ((o0.1 == j3.1))) (P_int rfl rfl rfl) rfl rfl u3 rfl ?_
          refine EL_p (.bool ((o0.1 == j3.1))) (P_pick (b := (o0.2 == (0 : Int))) rfl (pick_t u3 rfl)) rfl ?_
          refine EL_mw (.bool ((o0.1 == j3.1))) rfl rfl ?_
          rcases csome h with ⟨g7, h⟩ | ⟨g7, h⟩
          ·obtain ⟨y135, jC, h⟩ := bsome h
           refine EL_do (.yes2 rfl rfl g7) rfl (D_call (g := l8) (vs := []) en14 .nil (wk14  jC) fun sD cF gG hs hr => ?_)
           have hfr := hfr.ext hs
           subst hr
           refine EL_p (.bool (y135)) (P_pick (b := (o0.1 == j3.1)) rfl (pick_t g7 rfl)) rfl ?_
           refine EL_at (.bool (y135)) rfl rfl ?_
           refine EL_nil ?_
           obtain rfl := sinj h
           exact hQ _ _ ⟨sD, hfr, rfl⟩
          ·refine EL_s rfl rfl g7 rfl rfl ?_
           refine EL_p (.bool false) (P_pick (b := (o0.1 == j3.1)) rfl (pick_f g7 rfl)) rfl ?_
           refine EL_at (.bool false) rfl rfl ?_
           refine EL_nil ?_
           obtain rfl := sinj h
           exact hQ _ _ ⟨l8, hfr, rfl⟩
         ·refine EL_s rfl rfl u3 rfl rfl ?_
          refine EL_s rfl rfl u3 rfl rfl ?_
          refine EL_s rfl rfl u3 rfl rfl ?_
          refine EL_p (.bool false) (P_pick (b := (o0.2 == (0 : Int))) rfl (pick_f u3 rfl)) rfl ?_
          refine EL_dead 3 rfl ?_
          refine EL_at (.bool false) rfl rfl ?_
          refine EL_nil ?_
          obtain rfl := sinj h
          exact hQ _ _ ⟨l8, hfr, rfl⟩
        ·clear hx
         obtain ⟨hG, hfr, xA⟩ := hR
         refine E_ret (thn_r ?_)
         refine thn_r ?_
         obtain rfl := sinj h
         exact end1 rfl rfl (show _ = .bool (c7) from xA) ⟨_, hfr, rfl⟩
       ·refine E_cf m8 rfl ?_
        exact E_skip (thn_n (iC () _ _ ⟨l8, hfr, g8, i8⟩ h))
      ·rintro _ dF iG ⟨tD, hfr, yA, zA⟩ h
       refine E_region (EL_at (.int .i64 (9)) rfl rfl ?_)
       exact EL_nil (thn_n (lA ((9 : Int)) _ _ ⟨tD, hfr, yA, zA, rfl⟩ h))
     ·refine E_cf k8 rfl ?_
      exact E_skip (thn_n (lA (v6) _ _ ⟨uA, hfr, g8, i8, jA⟩ h))
    ·rintro z3 eF jG ⟨i9, hfr, aB, bB, cB⟩ h
     obtain ⟨b7, hx, h⟩ := bsome h
     refine E_join (fun e w => ∃ (g : Gh) , Fr gI wI g w ∧ e 4 = .bool (b7)) (fun Q' hQ => ?_) (fun iF kG hR => ?_)
     ·replace h := hx
      clear hx
      refine E_region (EL_mv bB rfl ?_)
      refine EL_mv cB rfl ?_
      refine EL_in (.bool ((o0.2 == z3))) rfl rfl rfl rfl ?_
      refine EL_mw (.bool ((o0.2 == z3))) rfl rfl ?_
      rcases csome h with ⟨t5, h⟩ | ⟨t5, h⟩
      ·refine EL_y (.int .i64 (o0.1)) (P_move aB) rfl rfl t5 rfl ?_
       refine EL_y (.bool ((o0.1 == (0 : Int)))) (P_int rfl rfl rfl) rfl rfl t5 rfl ?_
       refine EL_p (.bool ((o0.1 == (0 : Int)))) (P_pick (b := (o0.2 == z3)) rfl (pick_t t5 rfl)) rfl ?_
       refine EL_mw (.bool ((o0.1 == (0 : Int)))) rfl rfl ?_
       rcases csome h with ⟨i7, h⟩ | ⟨i7, h⟩
       ·obtain ⟨v7, kC, h⟩ := bsome h
        refine EL_do (.yes2 rfl rfl i7) rfl (D_call (g := i9) (vs := []) en14 .nil (wk14  kC) fun uD nF lG hs hr => ?_)
        have hfr := hfr.ext hs
        subst hr
        refine EL_p (.bool (v7)) (P_pick (b := (o0.1 == (0 : Int))) rfl (pick_t i7 rfl)) rfl ?_
        refine EL_at (.bool (v7)) rfl rfl ?_
        refine EL_nil ?_
        obtain rfl := sinj h
        exact hQ _ _ ⟨uD, hfr, rfl⟩
       ·refine EL_s rfl rfl i7 rfl rfl ?_
        refine EL_p (.bool false) (P_pick (b := (o0.1 == (0 : Int))) rfl (pick_f i7 rfl)) rfl ?_
        refine EL_at (.bool false) rfl rfl ?_
        refine EL_nil ?_
        obtain rfl := sinj h
        exact hQ _ _ ⟨i9, hfr, rfl⟩
      ·refine EL_s rfl rfl t5 rfl rfl ?_
       refine EL_s rfl rfl t5 rfl rfl ?_
       refine EL_p (.bool false) (P_pick (b := (o0.2 == z3)) rfl (pick_f t5 rfl)) rfl ?_
       refine EL_dead 3 rfl ?_
       refine EL_at (.bool false) rfl rfl ?_
       refine EL_nil ?_
       obtain rfl := sinj h
       exact hQ _ _ ⟨i9, hfr, rfl⟩
     ·clear hx
      obtain ⟨mG, hfr, dB⟩ := hR
      refine E_ret ?_
      obtain rfl := sinj h
      exact end1 rfl rfl (show _ = .bool (b7) from dB) ⟨_, hfr, rfl⟩
def f29 (x0 : BoxLoom) (x1 : List BoxPick) : Option ((List Span) × Int × Int) :=
 (f70 x0 x1).bind fun y5 =>
 jn (σ := (List Span)) (fun v8 =>
  Option.bind (α := (List Span)) (
   lp (σ := (List Span) × Int) (fun k48 (m7, j3) =>
    bif (decide (j3 < ((((y5.1).BoxLoom).Shuttles).length : Int))) then
     Option.bind (α := (List Span)) (
      (idx (((y5.1).BoxLoom).Shuttles) j3).bind fun u9 =>
      (apnd 16 m7 (([(u9).Yarn] : List Span))).bind fun y71 =>
      some (y71)
      ) fun x6 =>
     k48 (x6, (w64 (j3 + (1 : Int))))
    else
     some (m7)
    ) big (v8, (0 : Int))
   ) fun o7 =>
  Option.bind (α := (List Span)) (
   lp (σ := (List Span) × Int) (fun y9 (t5, o0) =>
    bif (decide (o0 < (((y5.2.1).thrown).length : Int))) then
     Option.bind (α := (List Span)) (
      (idx ((y5.2.1).thrown) o0).bind fun i5 =>
      (idx t5 (w64 (i5 - (1 : Int)))).bind fun y130 =>
      (idx t5 (w64 (i5 - (1 : Int)))).bind fun jC =>
      some ((List.set t5 (Int.toNat (w64 (i5 - (1 : Int)))) ((⟨(max64 (0 : Int) (w64 ((y130).Low - (1 : Int)))), (max64 (0 : Int) (w64 ((y130).High - (1 : Int))))⟩ : Span))))
      ) fun i6 =>
     y9 (i6, (w64 (o0 + (1 : Int))))
    else
     some (t5)
    ) big (o7, (0 : Int))
   ) fun y6 =>
  some (y6, (0 : Int), (0 : Int))
  ) fun zB =>
 bif (y5.2.2.2 != (0 : Int)) then
  some (([] : List Span), y5.2.2.1, y5.2.2.2)
 else
  zB (([] : List Span))
def f40 (x0 : BoxLoom) (x1 : List BoxPick) : Option ((List Int) × BoxLoom × Int × Int × Int) :=
 (f70 x0 x1).bind fun y5 =>
 jn (σ := (List Int) × BoxLoom) (fun (bD, i6) =>
  Option.bind (α := (List Int)) (
   lp (σ := (List Int) × Int) (fun rE (pA, l5) =>
    bif (decide (l5 < (((y5.2.1).thrown).length : Int))) then
     Option.bind (α := (List Int)) (
      (idx ((y5.2.1).thrown) l5).bind fun i9 =>
      (idx (((y5.1).BoxLoom).Shuttles) (w64 (i9 - (1 : Int)))).bind fun y125 =>
      (apnd 8 pA (([(y125).Colour] : List Int))).bind fun sE =>
      some (sE)
      ) fun t8 =>
     rE (t8, (w64 (l5 + (1 : Int))))
    else
     some (pA)
    ) big (bD, (0 : Int))
   ) fun i5 =>
  (f78 (((y5.1).BoxLoom).Boxes)).bind fun k9 =>
  (f79 (((y5.1).BoxLoom).Shuttles)).bind fun l9 =>
  Option.bind (α := BoxLoom) (
   lp (σ := BoxLoom × Int) (fun tE (qA, j1) =>
    bif (decide (j1 < (2 : Int))) then
     Option.bind (α := BoxLoom) (
      (idx (((y5.2.1).last).boxes).toList j1).bind fun oB =>
      lp (σ := BoxLoom × Int) (fun uE (o0, z4) =>
       bif (decide (z4 < (4 : Int))) then
        Option.bind (α := BoxLoom) (
         (idx (oB).toList z4).bind fun u3 =>
         bif (decide (u3 > (0 : Int))) then
          (idx ((o0).Shuttles) ((w64 (u3 - (1 : Int))))).bind fun j6 =>
          (idx ((({ o0 with Shuttles := (List.set ((o0).Shuttles) (Int.toNat ((w64 (u3 - (1 : Int))))) ({ j6 with Side := j1 } : BoxShuttle)) } : BoxLoom)).Shuttles) ((w64 (u3 - (1 : Int))))).bind fun tB =>
          some (({ (({ o0 with Shuttles := (List.set ((o0).Shuttles) (Int.toNat ((w64 (u3 - (1 : Int))))) ({ j6 with Side := j1 } : BoxShuttle)) } : BoxLoom)) with Shuttles := (List.set ((({ o0 with Shuttles := (List.set ((o0).Shuttles) (Int.toNat ((w64 (u3 - (1 : Int))))) ({ j6 with Side := j1 } : BoxShuttle)) } : BoxLoom)).Shuttles) (Int.toNat ((w64 (u3 - (1 : Int))))) ({ tB with Box := z4 } : BoxShuttle)) } : BoxLoom))
         else
          some (o0)
         ) fun o9 =>
        uE (o9, (w64 (z4 + (1 : Int))))
       else
        some (o0)
       ) big (qA, (0 : Int))
      ) fun t9 =>
     tE (t9, (w64 (j1 + (1 : Int))))
    else
     some (qA)
    ) big ((⟨k9, ([(((y5.2.1).last).at_).Left, (((y5.2.1).last).at_).Right] : List Int), l9⟩ : BoxLoom), (0 : Int))
   ) fun rA =>
  some (i5, rA, (y5.2.1).moves, (0 : Int), (0 : Int))
  ) fun qH =>
 bif (y5.2.2.2 != (0 : Int)) then
  some ([], (⟨[], [], []⟩ : BoxLoom), (0 : Int), y5.2.2.1, y5.2.2.2)
 else
  qH ([], (⟨[], [], []⟩ : BoxLoom))
end Go.Proofs.Ytmpjooneiaiffaa
