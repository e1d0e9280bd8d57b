import Derived.Test.YtcjpochjapnoaaaGreatCode4
set_option maxRecDepth 8000
set_option maxHeartbeats 4000000
namespace Go.Proofs.YtcjpochjapnoaaaGreat
open Go.RowKit
def f36 (x0 : PayTable) : Option (PayEntry × Int) :=
 (f60 x0).bind fun y5 =>
 jn (σ := PayEntry) (fun i8 =>
  (f61 (y5.1)).bind fun o0 =>
  (f62 (o0.1)).bind fun j1 =>
  (f62 (o0.2.1)).bind fun u0 =>
  jn (σ := PayEntry × Bool) (fun (cC, nB) =>
   jn (σ := PayEntry) (fun mD =>
    some (mD, (0 : Int))
    ) fun tE =>
   bif (!nB) then
    some ((⟨0, 0, 0, 0⟩ : PayEntry), (9 : Int))
   else
    tE (cC)
   ) fun dC =>
  Option.bind (α := Bool) (
   bif (j1.2 == (0 : Int)) then
    bif (u0.2 == (0 : Int)) then
     bif (o0.2.2.1 == (0 : Int)) then
      some ((o0.2.2.2 == (0 : Int)))
     else
      some (false)
    else
     some (false)
   else
    some (false)
   ) fun iA =>
  bif iA then
   some (i8, (0 : Int))
  else
   Option.bind (α := Bool) (
    bif (j1.2 == (1 : Int)) then
     bif (u0.2 == (1 : Int)) then
      bif (o0.2.2.1 == (0 : Int)) then
       bif (o0.2.2.2 == (0 : Int)) then
        (idx (o0.1) j1.1).bind fun eC =>
        (idx (o0.2.1) u0.1).bind fun iC =>
        some ((eC == iC))
       else
        some (false)
      else
       some (false)
     else
      some (false)
    else
     some (false)
    ) fun d9 =>
   bif d9 then
    (idx (((y5.1).PayTable).Rows) j1.1).bind fun uE =>
    (idx uE u0.1).bind fun i6 =>
    (idx (o0.1) j1.1).bind fun j6 =>
    (f45 ((0 : Int)) ((1000000 : Int)) (([(w64 (i6 - j6))] : List Int))).bind fun uC =>
    dC ((⟨(1 : Int), j1.1, u0.1, (w64 (i6 - j6))⟩ : PayEntry), uC)
   else
    Option.bind (α := Bool) (
     bif (j1.2 == (1 : Int)) then
      bif (u0.2 == (0 : Int)) then
       bif (o0.2.2.2 == (0 : Int)) then
        (idx (o0.1) j1.1).bind fun vB =>
        some ((vB == (w64 (0 - o0.2.2.1))))
       else
        some (false)
      else
       some (false)
     else
      some (false)
     ) fun u7 =>
    bif u7 then
     (idx (((y5.1).PayTable).Across) j1.1).bind fun k8 =>
     (idx (o0.1) j1.1).bind fun l8 =>
     dC ((⟨(2 : Int), j1.1, 0, (w64 (k8 + l8))⟩ : PayEntry), true)
    else
     Option.bind (α := Bool) (
      bif (j1.2 == (0 : Int)) then
       bif (u0.2 == (1 : Int)) then
        bif (o0.2.2.1 == (0 : Int)) then
         (idx (o0.2.1) u0.1).bind fun xB =>
         some ((xB == (w64 (0 - o0.2.2.2))))
        else
         some (false)
       else
        some (false)
      else
       some (false)
      ) fun v7 =>
     bif v7 then
      (idx (((y5.1).PayTable).Down) u0.1).bind fun m8 =>
      (idx (o0.2.1) u0.1).bind fun n8 =>
      dC ((⟨(3 : Int), 0, u0.1, (w64 (m8 + n8))⟩ : PayEntry), true)
     else
      Option.bind (α := Bool) (
       bif (j1.2 == (0 : Int)) then
        bif (u0.2 == (0 : Int)) then
         some ((o0.2.2.1 == o0.2.2.2))
        else
         some (false)
       else
        some (false)
       ) fun c8 =>
      bif c8 then
       (f63 (([(w64 (((y5.1).PayTable).Total + o0.2.2.1))] : List Int))).bind fun vC =>
       dC ((⟨(4 : Int), 0, 0, (w64 (((y5.1).PayTable).Total + o0.2.2.1))⟩ : PayEntry), vC)
      else
       dC (i8, false)
  ) fun dJ =>
 bif (y5.2 != (0 : Int)) then
  some ((⟨0, 0, 0, 0⟩ : PayEntry), y5.2)
 else
  dJ ((⟨0, 0, 0, 0⟩ : PayEntry))
theorem en36 : Enters Tryz.prog 36 := enters_of Tryz.func36 (by kernel_rfl) rfl
theorem wk36 {gI : Gh} {wI : World} {x0 : PayTable} {up0 : Value} (rp0 : RV gI.m wI x0 up0) {r : PayEntry × Int} (h : f36 x0 = some r) : Fn Tryz.prog 36 #[up0] gI wI (fun m w v => ∃ y0 y1, v = .tuple #[y0, y1] ∧ RV m w (r.1) y0 ∧ y1 = .int .i64 (r.2)) := by
 unfold f36 at h
 refine fn_of_E Tryz.func36 rfl (Nat.le_of_ble_eq_true rfl) fun g0 hm hfr => ?_
 have rp0 : RV g0.m wI x0 up0 := hm ▸ rp0
 show E _ 195 none _ _ _ _ _
 refine E_seq (E_region (EL_do .plain rfl (D_box (g := g0) rfl rp0 fun g1 w1 p1 hs q1 => ?_)))
 have hfr := hfr.ext hs
 refine EL_do .plain rfl (D_allocOc (g := g1) 2002 (⟨0, 0, 0, 0⟩ : PayEntry) Tryz.zeroValue107 (fun m w => ⟨_, (rep_two rep_int (rep_two rep_int (rep_two rep_int rep_int))), rfl⟩) fun g2 w2 p2 hs b2 cb => ?_)
 have hfr := hfr.stp hs
 have q1 := q1.stp hs
 clear cb
 refine EL_at (.int .i64 (0)) rfl rfl ?_
 refine EL_nil (thn_n (E_seq (E_region (EL_do .plain rfl (D_load (g := g2) Tryz.isAgg112 Tryz.sizeOf112 rfl q1 fun v3 r3 => ?_)))))
 obtain ⟨y5, hy5, h⟩ := bsome h
 refine EL_do .plain rfl (D_call (g := g2) (vs := [v3]) en60 (.cons rfl .nil) (wk60 r3 hy5) fun g4 w4_ v4 hs hr => ?_)
 have hfr := hfr.ext hs
 have b2 := b2.ext hs
 obtain ⟨kE, iM, rfl, lE, rfl⟩ := hr
 refine EL_mw (.tuple #[kE, .int .i64 (y5.2)]) rfl rfl ?_
 refine EL_p kE (P_extract rfl rfl) rfl ?_
 refine EL_p (.int .i64 (y5.2)) (P_extract rfl rfl) rfl ?_
 refine EL_do .plain rfl (D_allocOc (g := g4) 2004 (⟨⟨[], [], [], 0⟩⟩ : PaySheet) Tryz.zeroValue147 (fun m w => ⟨_, (rep_two rep_nil (rep_two rep_nil (rep_two rep_nil rep_int))), rfl⟩) fun g6 w6 p6 hs b6 cb => ?_)
 have hfr := hfr.stp hs
 have b2 := b2.stp hs rfl
 have lE := lE.stp hs
 have jM : OSF 2004 60400 0 g6 w6 25 147 ([] : List (List Int)) p6 := cb.osf (by rfl)
 have kM : OSF 2004 60401 1 g6 w6 3 147 ([] : List Int) p6 := cb.osf (by rfl)
 have mM : OSF 2004 60402 2 g6 w6 3 147 ([] : List Int) p6 := cb.osf (by rfl)
 clear cb
 refine EL_do .plain rfl (D_storeOc (g := g6) (v := kE) Tryz.sizeOf147 rfl b6 rfl lE fun g7 w7 hs b7 cb => ?_)
 clear cb
 have hfr := hfr.stp hs
 have b2 := b2.stp hs rfl
 refine EL_at (.int .i64 (y5.2)) rfl rfl ?_
 refine EL_nil (thn_n (E_joinC h (fun (s : PayEntry) e w => ∃ (g : Gh) , Fr gI wI g w ∧ e 2 = p2 ∧ OB 2002 g w 107 (s : PayEntry) p2 ∧ e 4 = p6 ∧ OB 2004 g w 147 (y5.1 : PaySheet) p6) (fun X12 dJ gJ h => ?_) ?_))
 ·refine E_seq (E_region (EL_mw (.int .i64 (y5.2)) rfl rfl ?_))
  refine EL_in (.bool ((y5.2 != (0 : Int)))) rfl rfl rfl rfl ?_
  refine EL_nil (thn_n ?_)
  rcases csome h with ⟨mE, h⟩ | ⟨mE, h⟩
  ·refine E_ct mE rfl ?_
   refine E_seq (E_region (EL_do .plain rfl (D_loadO (g := g7) Tryz.isAgg107 Tryz.sizeOf107 rfl b2 fun yJ zJ => ?_)))
   refine EL_mw (.int .i64 (y5.2)) rfl rfl ?_
   refine EL_do .plain rfl (D_storeOc (g := g7) (v := yJ) Tryz.sizeOf107 rfl b2 rfl zJ fun dN w15 hs b15 cb => ?_)
   clear cb
   have hfr := hfr.stp hs
   refine EL_at (.int .i64 (y5.2)) rfl rfl ?_
   refine EL_nil (thn_n (E_ret (thn_r ?_)))
   obtain rfl := sinj h
   obtain ⟨ad16, cv16, hp16, iJ, cr16⟩ := ob_read Tryz.isAgg107 Tryz.sizeOf107 b15
   exact endm_ct rfl rfl ((show _ = p2 from rfl).trans hp16) iJ (show _ = .int .i64 (y5.2) from rfl) ⟨_, hfr, _, _, rfl, cr16, rfl⟩
  ·refine E_cf mE rfl ?_
   exact E_skip (thn_n (gJ ((⟨0, 0, 0, 0⟩ : PayEntry)) _ _ ⟨g7, hfr, rfl, b2, rfl, b7⟩ h))
 ·rintro i8 nM eN ⟨eJ, hfr, xC, n7, yB, y6⟩ h
  refine E_seq (E_region (EL_do .plain rfl (D_loadO (g := eJ) Tryz.isAgg147 Tryz.sizeOf147 yB y6 fun aK bK => ?_)))
  obtain ⟨o0, jJ, h⟩ := bsome h
  refine EL_do .plain rfl (D_call (g := eJ) (vs := [aK]) en61 (.cons rfl .nil) (wk61 bK jJ) fun cK oM gN hs hr => ?_)
  have hfr := hfr.ext hs
  have n7 := n7.ext hs
  have y6 := y6.ext hs
  obtain ⟨j3, o3, tK, uK, rfl, o8, q8, rfl, rfl⟩ := hr
  refine EL_mw (.tuple #[j3, o3, .int .i64 (o0.2.2.1), .int .i64 (o0.2.2.2)]) rfl rfl ?_
  refine EL_p j3 (P_extract rfl rfl) rfl ?_
  refine EL_p o3 (P_extract rfl rfl) rfl ?_
  refine EL_p (.int .i64 (o0.2.2.1)) (P_extract rfl rfl) rfl ?_
  refine EL_p (.int .i64 (o0.2.2.2)) (P_extract rfl rfl) rfl ?_
  refine EL_at j3 rfl rfl ?_
  refine EL_at o3 rfl rfl ?_
  refine EL_at (.int .i64 (o0.2.2.1)) rfl rfl ?_
  refine EL_at (.int .i64 (o0.2.2.2)) rfl rfl ?_
  refine EL_nil (thn_n (E_seq (E_region (EL_mw j3 rfl rfl ?_))))
  obtain ⟨j1, kJ, h⟩ := bsome h
  refine EL_do .plain rfl (D_call (g := cK) (vs := [j3]) en62 (.cons rfl .nil) (wk62 o8 kJ) fun dK pM iN hs hr => ?_)
  have hfr := hfr.ext hs
  have n7 := n7.ext hs
  have y6 := y6.ext hs
  have o8 := o8.ext hs
  have q8 := q8.ext hs
  obtain ⟨vK, xK, rfl, rfl, rfl⟩ := hr
  refine EL_mw (.tuple #[.int .i64 (j1.1), .int .i64 (j1.2)]) rfl rfl ?_
  refine EL_p (.int .i64 (j1.1)) (P_extract rfl rfl) rfl ?_
  refine EL_p (.int .i64 (j1.2)) (P_extract rfl rfl) rfl ?_
  refine EL_at (.int .i64 (j1.1)) rfl rfl ?_
  refine EL_at (.int .i64 (j1.2)) rfl rfl ?_
  refine EL_nil (thn_n (E_seq (E_region (EL_mw o3 rfl rfl ?_))))
  obtain ⟨u0, lJ, h⟩ := bsome h
  refine EL_do .plain rfl (D_call (g := dK) (vs := [o3]) en62 (.cons rfl .nil) (wk62 q8 lJ) fun vE qM jN hs hr => ?_)
  have hfr := hfr.ext hs
  have n7 := n7.ext hs
  have y6 := y6.ext hs
  have o8 := o8.ext hs
  have q8 := q8.ext hs
  obtain ⟨yK, zK, rfl, rfl, rfl⟩ := hr
  refine EL_mw (.tuple #[.int .i64 (u0.1), .int .i64 (u0.2)]) rfl rfl ?_
  refine EL_p (.int .i64 (u0.1)) (P_extract rfl rfl) rfl ?_
  refine EL_p (.int .i64 (u0.2)) (P_extract rfl rfl) rfl ?_
  refine EL_at (.int .i64 (u0.1)) rfl rfl ?_
  refine EL_at (.int .i64 (u0.2)) rfl rfl ?_
  refine EL_nil (thn_n (E_seq (E_region (EL_at (.bool true) rfl rfl ?_))))
  refine EL_nil (thn_n (E_joinC h (fun (s : PayEntry × Bool) e w => ∃ (g : Gh) , Fr gI wI g w ∧ e 2 = p2 ∧ OB 2002 g w 107 (s.1 : PayEntry) p2 ∧ e 13 = .bool (s.2)) (fun X614 dC zB h => ?_) ?_))
  ·refine E_block ?_
   obtain ⟨iA, hx, h⟩ := bsome h
   refine E_join (fun e w => ∃ (g : Gh) , Fr gI wI g w ∧ e 2 = p2 ∧ OB 2002 g w 107 (i8 : PayEntry) p2 ∧ e 4 = p6 ∧ OB 2004 g w 147 (y5.1 : PaySheet) p6 ∧ e 5 = j3 ∧ RV g.m w (o0.1 : List Int) j3 ∧ e 6 = o3 ∧ RV g.m w (o0.2.1 : List Int) o3 ∧ e 7 = .int .i64 (o0.2.2.1) ∧ e 8 = .int .i64 (o0.2.2.2) ∧ e 9 = .int .i64 (j1.1) ∧ e 10 = .int .i64 (j1.2) ∧ e 11 = .int .i64 (u0.1) ∧ e 12 = .int .i64 (u0.2) ∧ e 13 = .bool (true) ∧ e 40 = .bool (iA)) (fun Q' hQ => ?_) (fun aL rM hR => ?_)
   ·replace h := hx
    clear hx
    refine E_region (EL_mw (.int .i64 (j1.2)) rfl rfl ?_)
    refine EL_in (.bool ((j1.2 == (0 : Int)))) rfl rfl rfl rfl ?_
    refine EL_mw (.bool ((j1.2 == (0 : Int)))) rfl rfl ?_
    rcases csome h with ⟨yA, h⟩ | ⟨yA, h⟩
    ·refine EL_y (.int .i64 (u0.2)) (P_move rfl) rfl rfl yA rfl ?_
     refine EL_y (.bool ((u0.2 == (0 : Int)))) (P_int rfl rfl rfl) rfl rfl yA rfl ?_
     refine EL_p (.bool ((u0.2 == (0 : Int)))) (P_pick (b := (j1.2 == (0 : Int))) rfl (pick_t yA rfl)) rfl ?_
     refine EL_mw (.bool ((u0.2 == (0 : Int)))) rfl rfl ?_
     rcases csome h with ⟨zA, h⟩ | ⟨zA, h⟩
     ·refine EL_y (.int .i64 (o0.2.2.1)) (P_move rfl) rfl rfl zA rfl ?_
      refine EL_y (.bool ((o0.2.2.1 == (0 : Int)))) (P_int rfl rfl rfl) rfl rfl zA rfl ?_
      refine EL_p (.bool ((o0.2.2.1 == (0 : Int)))) (P_pick (b := (u0.2 == (0 : Int))) rfl (pick_t zA rfl)) rfl ?_
      refine EL_mw (.bool ((o0.2.2.1 == (0 : Int)))) rfl rfl ?_
      rcases csome h with ⟨aB, h⟩ | ⟨aB, h⟩
      ·refine EL_y (.int .i64 (o0.2.2.2)) (P_move rfl) rfl rfl aB rfl ?_
       refine EL_y (.bool ((o0.2.2.2 == (0 : Int)))) (P_int rfl rfl rfl) rfl rfl aB rfl ?_
       refine EL_p (.bool ((o0.2.2.2 == (0 : Int)))) (P_pick (b := (o0.2.2.1 == (0 : Int))) rfl (pick_t aB rfl)) rfl ?_
       refine EL_at (.bool ((o0.2.2.2 == (0 : Int)))) rfl rfl ?_
       refine EL_nil ?_
       obtain rfl := sinj h
       exact hQ _ _ ⟨vE, hfr, xC, n7, yB, y6, rfl, o8, rfl, q8, rfl, rfl, rfl, rfl, rfl, rfl, rfl, rfl⟩
      ·refine EL_s rfl rfl aB rfl rfl ?_
       refine EL_s rfl rfl aB rfl rfl ?_
       refine EL_p (.bool false) (P_pick (b := (o0.2.2.1 == (0 : Int))) rfl (pick_f aB rfl)) rfl ?_
       refine EL_at (.bool false) rfl rfl ?_
       refine EL_nil ?_
       obtain rfl := sinj h
       exact hQ _ _ ⟨vE, hfr, xC, n7, yB, y6, rfl, o8, rfl, q8, rfl, rfl, rfl, rfl, rfl, rfl, rfl, rfl⟩
     ·refine EL_s rfl rfl zA rfl rfl ?_
      refine EL_s rfl rfl zA rfl rfl ?_
      refine EL_p (.bool false) (P_pick (b := (u0.2 == (0 : Int))) rfl (pick_f zA rfl)) rfl ?_
      refine EL_dead 4 rfl ?_
      refine EL_at (.bool false) rfl rfl ?_
      refine EL_nil ?_
      obtain rfl := sinj h
      exact hQ _ _ ⟨vE, hfr, xC, n7, yB, y6, rfl, o8, rfl, q8, rfl, rfl, rfl, rfl, rfl, rfl, rfl, rfl⟩
    ·refine EL_s rfl rfl yA rfl rfl ?_
     refine EL_s rfl rfl yA rfl rfl ?_
     refine EL_p (.bool false) (P_pick (b := (j1.2 == (0 : Int))) rfl (pick_f yA rfl)) rfl ?_
     refine EL_dead 8 rfl ?_
     refine EL_at (.bool false) rfl rfl ?_
     refine EL_nil ?_
     obtain rfl := sinj h
     exact hQ _ _ ⟨vE, hfr, xC, n7, yB, y6, rfl, o8, rfl, q8, rfl, rfl, rfl, rfl, rfl, rfl, rfl, rfl⟩
   ·clear hx
    obtain ⟨oB, hfr, e8, z2, eB, u3, jA, d3, kA, i3, g8, e9, lA, l5, r8, q5, mA, nD⟩ := hR
    rcases csome h with ⟨xD, h⟩ | ⟨xD, h⟩
    ·refine E_cond_true (Eq.trans (show ev _ _ = .bool (iA) from nD) (congrArg Value.bool xD)) ?_
     refine E_seq (E_region (EL_do .plain rfl (D_loadO (g := oB) Tryz.isAgg107 Tryz.sizeOf107 e8 z2 fun mJ nJ => ?_)))
     refine EL_do .plain rfl (D_storeOc (g := oB) (v := mJ) Tryz.sizeOf107 e8 z2 rfl nJ fun sM tM hs b624 cb => ?_)
     clear cb
     have hfr := hfr.stp hs
     refine EL_at (.int .i64 (0)) rfl rfl ?_
     refine EL_nil (thn_n (E_ret (blk_r ?_)))
     refine thn_r ?_
     obtain rfl := sinj h
     obtain ⟨ad625, cv625, hp625, cH, cr625⟩ := ob_read Tryz.isAgg107 Tryz.sizeOf107 b624
     exact endm_ct rfl rfl ((show _ = p2 from e8).trans hp625) cH (show _ = .int .i64 (0) from rfl) ⟨_, hfr, _, _, rfl, cr625, rfl⟩
    ·refine E_cond_false (Eq.trans (show ev _ _ = .bool (iA) from nD) (congrArg Value.bool xD)) ?_
     obtain ⟨d9, hx, h⟩ := bsome h
     refine E_join (fun e w => ∃ (g : Gh) , Fr gI wI g w ∧ e 2 = p2 ∧ OB 2002 g w 107 (i8 : PayEntry) p2 ∧ e 4 = p6 ∧ OB 2004 g w 147 (y5.1 : PaySheet) p6 ∧ e 5 = j3 ∧ RV g.m w (o0.1 : List Int) j3 ∧ e 6 = o3 ∧ RV g.m w (o0.2.1 : List Int) o3 ∧ e 7 = .int .i64 (o0.2.2.1) ∧ e 8 = .int .i64 (o0.2.2.2) ∧ e 9 = .int .i64 (j1.1) ∧ e 10 = .int .i64 (j1.2) ∧ e 11 = .int .i64 (u0.1) ∧ e 12 = .int .i64 (u0.2) ∧ e 13 = .bool (true) ∧ e 56 = .bool (d9)) (fun Q' hQ => ?_) (fun eK dH hR => ?_)
     ·replace h := hx
      clear hx
      rcases csome h with ⟨z3, h⟩ | ⟨z3, h⟩
      ·rcases csome h with ⟨t5, h⟩ | ⟨t5, h⟩
       ·rcases csome h with ⟨o7, h⟩ | ⟨o7, h⟩
        ·rcases csome h with ⟨x5, h⟩ | ⟨x5, h⟩
         ·obtain ⟨eC, xE, h⟩ := bsome h
          have oJ := PT_idx d3 xE
          refine L_load (x := .tmp 74) Tryz.isAgg3 Tryz.sizeOf3 oJ fun uM pJ gH => ?_
          obtain rfl := RV_int.1 pJ
          obtain ⟨iC, yE, h⟩ := bsome h
          have qJ := PT_idx i3 yE
          refine L_load (x := .tmp 78) Tryz.isAgg3 Tryz.sizeOf3 qJ fun vM rJ iH => ?_
          obtain rfl := RV_int.1 rJ
          refine E_drawL (g := oB) (n := 26) [] [0, 1, 2, 3, 4, 5, 6, 7, 8, 9, 10, 11, 12, 13, 14, 15, 16, 17, 18, 19, 20, 21, 22, 23, 24, 25] rfl mixed (by kernel_rfl) trivial ?_
          refine L_p (.int .i64 (j1.2)) rfl rfl (P_move l5) ?_
          refine L_p (.bool ((j1.2 == (1 : Int)))) rfl rfl (P_int rfl rfl rfl) ?_
          refine L_p (.bool ((j1.2 == (1 : Int)))) rfl rfl (P_move rfl) ?_
          refine L_y (.int .i64 (u0.2)) rfl rfl rfl rfl z3 (P_move q5) ?_
          refine L_y (.bool ((u0.2 == (1 : Int)))) rfl rfl rfl rfl z3 (P_int rfl rfl rfl) ?_
          refine L_p (.bool ((u0.2 == (1 : Int)))) rfl rfl (P_pick (b := (j1.2 == (1 : Int))) rfl (pick_t z3 rfl)) ?_
          refine L_p (.bool ((u0.2 == (1 : Int)))) rfl rfl (P_move rfl) ?_
          refine L_y (.int .i64 (o0.2.2.1)) rfl rfl rfl rfl t5 (P_move g8) ?_
          refine L_y (.bool ((o0.2.2.1 == (0 : Int)))) rfl rfl rfl rfl t5 (P_int rfl rfl rfl) ?_
          refine L_p (.bool ((o0.2.2.1 == (0 : Int)))) rfl rfl (P_pick (b := (u0.2 == (1 : Int))) rfl (pick_t t5 rfl)) ?_
          refine L_p (.bool ((o0.2.2.1 == (0 : Int)))) rfl rfl (P_move rfl) ?_
          refine L_y (.int .i64 (o0.2.2.2)) rfl rfl rfl rfl o7 (P_move e9) ?_
          refine L_y (.bool ((o0.2.2.2 == (0 : Int)))) rfl rfl rfl rfl o7 (P_int rfl rfl rfl) ?_
          refine L_p (.bool ((o0.2.2.2 == (0 : Int)))) rfl rfl (P_pick (b := (o0.2.2.1 == (0 : Int))) rfl (pick_t o7 rfl)) ?_
          refine L_p (.bool ((o0.2.2.2 == (0 : Int)))) rfl rfl (P_move rfl) ?_
          refine L_y j3 rfl rfl rfl rfl x5 (P_move jA) ?_
          refine L_y (.int .i64 (j1.1)) rfl rfl rfl rfl x5 (P_move lA) ?_
          refine L_y (ePtr j3 j1.1 1) rfl rfl rfl rfl x5 (P_indexAddr (α := Int) Tryz.underlying25 Tryz.sizeOf3 rfl d3 rfl xE) ?_
          refine L_ld (c := .int .i64 (eC)) rfl rfl (.yes2 rfl rfl x5) (fun _ _ h => h.ch) gH rfl ?_
          refine L_y o3 rfl rfl rfl rfl x5 (P_move kA) ?_
          refine L_y (.int .i64 (u0.1)) rfl rfl rfl rfl x5 (P_move r8) ?_
          refine L_y (ePtr o3 u0.1 1) rfl rfl rfl rfl x5 (P_indexAddr (α := Int) Tryz.underlying25 Tryz.sizeOf3 rfl i3 rfl yE) ?_
          refine L_ld (c := .int .i64 (iC)) rfl rfl (.yes2 rfl rfl x5) (fun _ _ h => h.ch) iH rfl ?_
          refine L_y (.bool ((eC == iC))) rfl rfl rfl rfl x5 (P_int rfl rfl rfl) ?_
          refine L_p (.bool ((eC == iC))) rfl rfl (P_pick (b := (o0.2.2.2 == (0 : Int))) rfl (pick_t x5 rfl)) ?_
          refine L_p (.bool ((eC == iC))) rfl rfl (P_assign rfl) ?_
          refine L_nl fun sJ xM hs => ?_
          have hfr := hfr.ext hs
          have z2 := z2.ext hs
          have u3 := u3.ext hs
          have d3 := d3.ext hs
          have i3 := i3.ext hs
          clear hs
          refine EL_nil ?_
          obtain rfl := sinj h
          exact hQ _ _ ⟨sJ, hfr, e8, z2, eB, u3, jA, d3, kA, i3, g8, e9, lA, l5, r8, q5, mA, rfl⟩
         ·refine E_drawL (g := oB) (n := 26) [] [0, 1, 2, 3, 4, 5, 6, 7, 8, 9, 10, 11, 12, 13, 14, 15, 16, 17, 18, 19, 20, 21, 22, 23, 24, 25] rfl mixed (by kernel_rfl) trivial ?_
          refine L_p (.int .i64 (j1.2)) rfl rfl (P_move l5) ?_
          refine L_p (.bool ((j1.2 == (1 : Int)))) rfl rfl (P_int rfl rfl rfl) ?_
          refine L_p (.bool ((j1.2 == (1 : Int)))) rfl rfl (P_move rfl) ?_
          refine L_y (.int .i64 (u0.2)) rfl rfl rfl rfl z3 (P_move q5) ?_
          refine L_y (.bool ((u0.2 == (1 : Int)))) rfl rfl rfl rfl z3 (P_int rfl rfl rfl) ?_
          refine L_p (.bool ((u0.2 == (1 : Int)))) rfl rfl (P_pick (b := (j1.2 == (1 : Int))) rfl (pick_t z3 rfl)) ?_
          refine L_p (.bool ((u0.2 == (1 : Int)))) rfl rfl (P_move rfl) ?_
          refine L_y (.int .i64 (o0.2.2.1)) rfl rfl rfl rfl t5 (P_move g8) ?_
          refine L_y (.bool ((o0.2.2.1 == (0 : Int)))) rfl rfl rfl rfl t5 (P_int rfl rfl rfl) ?_
          refine L_p (.bool ((o0.2.2.1 == (0 : Int)))) rfl rfl (P_pick (b := (u0.2 == (1 : Int))) rfl (pick_t t5 rfl)) ?_
          refine L_p (.bool ((o0.2.2.1 == (0 : Int)))) rfl rfl (P_move rfl) ?_
          refine L_y (.int .i64 (o0.2.2.2)) rfl rfl rfl rfl o7 (P_move e9) ?_
          refine L_y (.bool ((o0.2.2.2 == (0 : Int)))) rfl rfl rfl rfl o7 (P_int rfl rfl rfl) ?_
          refine L_p (.bool ((o0.2.2.2 == (0 : Int)))) rfl rfl (P_pick (b := (o0.2.2.1 == (0 : Int))) rfl (pick_t o7 rfl)) ?_
          refine L_p (.bool ((o0.2.2.2 == (0 : Int)))) rfl rfl (P_move rfl) ?_
          iterate 9 refine L_s rfl rfl rfl x5 rfl ?_
          refine L_p (.bool false) rfl rfl (P_pick (b := (o0.2.2.2 == (0 : Int))) rfl (pick_f x5 rfl)) ?_
          refine L_p (.bool false) rfl rfl (P_assign rfl) ?_
          refine L_nl fun tJ yM hs => ?_
          have hfr := hfr.ext hs
          have z2 := z2.ext hs
          have u3 := u3.ext hs
          have d3 := d3.ext hs
          have i3 := i3.ext hs
          clear hs
          refine EL_nil ?_
          obtain rfl := sinj h
          exact hQ _ _ ⟨tJ, hfr, e8, z2, eB, u3, jA, d3, kA, i3, g8, e9, lA, l5, r8, q5, mA, rfl⟩
        ·refine E_drawL (g := oB) (n := 26) [] [0, 1, 2, 3, 4, 5, 6, 7, 8, 9, 10, 11, 12, 13, 14, 15, 16, 17, 18, 19, 20, 21, 22, 23, 24, 25] rfl mixed (by kernel_rfl) trivial ?_
         refine L_p (.int .i64 (j1.2)) rfl rfl (P_move l5) ?_
         refine L_p (.bool ((j1.2 == (1 : Int)))) rfl rfl (P_int rfl rfl rfl) ?_
         refine L_p (.bool ((j1.2 == (1 : Int)))) rfl rfl (P_move rfl) ?_
         refine L_y (.int .i64 (u0.2)) rfl rfl rfl rfl z3 (P_move q5) ?_
         refine L_y (.bool ((u0.2 == (1 : Int)))) rfl rfl rfl rfl z3 (P_int rfl rfl rfl) ?_
         refine L_p (.bool ((u0.2 == (1 : Int)))) rfl rfl (P_pick (b := (j1.2 == (1 : Int))) rfl (pick_t z3 rfl)) ?_
         refine L_p (.bool ((u0.2 == (1 : Int)))) rfl rfl (P_move rfl) ?_
         refine L_y (.int .i64 (o0.2.2.1)) rfl rfl rfl rfl t5 (P_move g8) ?_
         refine L_y (.bool ((o0.2.2.1 == (0 : Int)))) rfl rfl rfl rfl t5 (P_int rfl rfl rfl) ?_
         refine L_p (.bool ((o0.2.2.1 == (0 : Int)))) rfl rfl (P_pick (b := (u0.2 == (1 : Int))) rfl (pick_t t5 rfl)) ?_
         refine L_p (.bool ((o0.2.2.1 == (0 : Int)))) rfl rfl (P_move rfl) ?_
         refine L_s rfl rfl rfl o7 rfl ?_
         refine L_s rfl rfl rfl o7 rfl ?_
         refine L_p (.bool false) rfl rfl (P_pick (b := (o0.2.2.1 == (0 : Int))) rfl (pick_f o7 rfl)) ?_
         refine L_dead (fun _ => rfl) 11 rfl ?_
         refine L_p (.bool false) rfl rfl (P_assign rfl) ?_
         refine L_nl fun uJ zM hs => ?_
         have hfr := hfr.ext hs
         have z2 := z2.ext hs
         have u3 := u3.ext hs
         have d3 := d3.ext hs
         have i3 := i3.ext hs
         clear hs
         refine EL_nil ?_
         obtain rfl := sinj h
         exact hQ _ _ ⟨uJ, hfr, e8, z2, eB, u3, jA, d3, kA, i3, g8, e9, lA, l5, r8, q5, mA, rfl⟩
       ·refine E_drawL (g := oB) (n := 26) [] [0, 1, 2, 3, 4, 5, 6, 7, 8, 9, 10, 11, 12, 13, 14, 15, 16, 17, 18, 19, 20, 21, 22, 23, 24, 25] rfl mixed (by kernel_rfl) trivial ?_
        refine L_p (.int .i64 (j1.2)) rfl rfl (P_move l5) ?_
        refine L_p (.bool ((j1.2 == (1 : Int)))) rfl rfl (P_int rfl rfl rfl) ?_
        refine L_p (.bool ((j1.2 == (1 : Int)))) rfl rfl (P_move rfl) ?_
        refine L_y (.int .i64 (u0.2)) rfl rfl rfl rfl z3 (P_move q5) ?_
        refine L_y (.bool ((u0.2 == (1 : Int)))) rfl rfl rfl rfl z3 (P_int rfl rfl rfl) ?_
        refine L_p (.bool ((u0.2 == (1 : Int)))) rfl rfl (P_pick (b := (j1.2 == (1 : Int))) rfl (pick_t z3 rfl)) ?_
        refine L_p (.bool ((u0.2 == (1 : Int)))) rfl rfl (P_move rfl) ?_
        refine L_s rfl rfl rfl t5 rfl ?_
        refine L_s rfl rfl rfl t5 rfl ?_
        refine L_p (.bool false) rfl rfl (P_pick (b := (u0.2 == (1 : Int))) rfl (pick_f t5 rfl)) ?_
        refine L_dead (fun _ => rfl) 15 rfl ?_
        refine L_p (.bool false) rfl rfl (P_assign rfl) ?_
        refine L_nl fun vJ bN hs => ?_
        have hfr := hfr.ext hs
        have z2 := z2.ext hs
        have u3 := u3.ext hs
        have d3 := d3.ext hs
        have i3 := i3.ext hs
        clear hs
        refine EL_nil ?_
        obtain rfl := sinj h
        exact hQ _ _ ⟨vJ, hfr, e8, z2, eB, u3, jA, d3, kA, i3, g8, e9, lA, l5, r8, q5, mA, rfl⟩
      ·refine E_drawL (g := oB) (n := 26) [] [0, 1, 2, 3, 4, 5, 6, 7, 8, 9, 10, 11, 12, 13, 14, 15, 16, 17, 18, 19, 20, 21, 22, 23, 24, 25] rfl mixed (by kernel_rfl) trivial ?_
       refine L_p (.int .i64 (j1.2)) rfl rfl (P_move l5) ?_
       refine L_p (.bool ((j1.2 == (1 : Int)))) rfl rfl (P_int rfl rfl rfl) ?_
       refine L_p (.bool ((j1.2 == (1 : Int)))) rfl rfl (P_move rfl) ?_
       refine L_s rfl rfl rfl z3 rfl ?_
       refine L_s rfl rfl rfl z3 rfl ?_
       refine L_p (.bool false) rfl rfl (P_pick (b := (j1.2 == (1 : Int))) rfl (pick_f z3 rfl)) ?_
       refine L_dead (fun _ => rfl) 19 rfl ?_
       refine L_p (.bool false) rfl rfl (P_assign rfl) ?_
       refine L_nl fun xJ cN hs => ?_
       have hfr := hfr.ext hs
       have z2 := z2.ext hs
       have u3 := u3.ext hs
       have d3 := d3.ext hs
       have i3 := i3.ext hs
       clear hs
       refine EL_nil ?_
       obtain rfl := sinj h
       exact hQ _ _ ⟨xJ, hfr, e8, z2, eB, u3, jA, d3, kA, i3, g8, e9, lA, l5, r8, q5, mA, rfl⟩
     ·clear hx
      obtain ⟨bB, hfr, c7, d7, nA, e7, t8, v6, iB, jB, oA, pA, x6, i9, i7, k9, cB, eD⟩ := hR
      rcases csome h with ⟨gD, h⟩ | ⟨gD, h⟩
      ·refine E_cond_true (Eq.trans (show ev _ _ = .bool (d9) from eD) (congrArg Value.bool gD)) ?_
       refine E_seq (L_loadO (x := .tmp 85) (SubS.comp part_PaySheet_0 part_PayTable_0 rfl).1 Tryz.isAgg110 Tryz.sizeOf110 e7 fun zE cF hG => ?_)
       obtain ⟨uE, zD, h⟩ := bsome h
       have jH := PT_idx cF zD
       refine L_load (x := .tmp 88) Tryz.isAgg25 Tryz.sizeOf25 jH fun dF eF iG => ?_
       obtain ⟨i6, aE, h⟩ := bsome h
       have kH := PT_idx eF aE
       refine L_load (x := .tmp 91) Tryz.isAgg3 Tryz.sizeOf3 kH fun bL lH jG => ?_
       obtain rfl := RV_int.1 lH
       obtain ⟨j6, bE, h⟩ := bsome h
       have mH := PT_idx v6 bE
       refine L_load (x := .tmp 95) Tryz.isAgg3 Tryz.sizeOf3 mH fun cL nH kG => ?_
       obtain rfl := RV_int.1 nH
       have yC : RV bB.m dH (⟨(1 : Int), j1.1, u0.1, (w64 (i6 - j6))⟩ : PayEntry) (.agg (setCh [[.int .i64 0], [.int .i64 0], [.int .i64 0], [.int .i64 0]] [(0, .int .i64 (1)), (1, .int .i64 (j1.1)), (2, .int .i64 (u0.1)), (3, .int .i64 ((w64 (i6 - j6))))]).flatten.toArray) := RV_build rfl (rep_pair (rfl) (rep_pair (rfl) (rep_pair (rfl) (rep_last (rfl)))))
       generalize lG : (Value.agg (setCh [[.int .i64 0], [.int .i64 0], [.int .i64 0], [.int .i64 0]] [(0, .int .i64 (1)), (1, .int .i64 (j1.1)), (2, .int .i64 (u0.1)), (3, .int .i64 ((w64 (i6 - j6))))]).flatten.toArray) = iF at yC
       refine E_drawL (g := bB) (n := 17) [] [0, 1, 2, 3, 4, 5, 6, 7, 8, 9, 10, 11, 12, 13, 14, 15, 16] rfl mixed (by kernel_rfl) trivial ?_
       refine L_p (.int .i64 (j1.1)) rfl rfl (P_move x6) ?_
       refine L_p (.int .i64 (u0.1)) rfl rfl (P_move i7) ?_
       refine L_p (fPtr p6 0) rfl rfl (P_fieldAddr at_147_0 nA (OB.ptr e7)) ?_
       refine L_p (fPtr p6 0) rfl rfl (P_fieldAddr2 (o1 := 0) rfl at_112_0 rfl (OB.ptr e7)) ?_
       refine L_ld (c := zE) rfl rfl .plain (fun _ _ h => ⟨h.ch, fun b hb _ => h.below.block b hb⟩) hG rfl ?_
       refine L_p (.int .i64 (j1.1)) rfl rfl (P_move x6) ?_
       refine L_p (ePtr zE j1.1 1) rfl rfl (P_indexAddr (α := List Int) Tryz.underlying110 Tryz.sizeOf25 rfl cF rfl zD) ?_
       refine L_ld (c := dF) rfl rfl .plain (fun _ _ h => h.ch) iG rfl ?_
       refine L_p (.int .i64 (u0.1)) rfl rfl (P_move i7) ?_
       refine L_p (ePtr dF u0.1 1) rfl rfl (P_indexAddr (α := Int) Tryz.underlying25 Tryz.sizeOf3 rfl eF rfl aE) ?_
       refine L_ld (c := .int .i64 (i6)) rfl rfl .plain (fun _ _ h => h.ch) jG rfl ?_
       refine L_p j3 rfl rfl (P_move t8) ?_
       refine L_p (.int .i64 (j1.1)) rfl rfl (P_move x6) ?_
       refine L_p (ePtr j3 j1.1 1) rfl rfl (P_indexAddr (α := Int) Tryz.underlying25 Tryz.sizeOf3 rfl v6 rfl bE) ?_
       refine L_ld (c := .int .i64 (j6)) rfl rfl .plain (fun _ _ h => h.ch) kG rfl ?_
       refine L_p (.int .i64 ((w64 (i6 - j6)))) rfl rfl (P_int rfl rfl rfl) ?_
       refine L_p iF rfl rfl (lG ▸ P_build (vs := [(0, .int .i64 (1)), (1, .int .i64 (j1.1)), (2, .int .i64 (u0.1)), (3, .int .i64 ((w64 (i6 - j6))))]) [[.int .i64 0], [.int .i64 0], [.int .i64 0], [.int .i64 0]] lay_107 rfl rfl (.cons rfl (.cons rfl (.cons rfl (.cons rfl .nil)))) ⟨⟨_, rfl, rfl⟩, ⟨⟨_, rfl, rfl⟩, ⟨⟨_, rfl, rfl⟩, ⟨⟨_, rfl, rfl⟩, trivial⟩⟩⟩⟩) ?_
       refine L_nl fun oH dL hs => ?_
       have hfr := hfr.ext hs
       have d7 := d7.ext hs
       have yC := yC.ext hs
       clear hs
       refine EL_do .plain rfl (D_storeOc (g := oH) (v := iF) Tryz.sizeOf107 c7 d7 rfl yC fun nF eL hs b1081 cb => ?_)
       clear cb
       have hfr := hfr.stp hs
       refine EL_nil (thn_n (E_region (EL_p (fPtr p2 3) (P_fieldAddr at_107_3 c7 (OB.ptr b1081)) rfl ?_)))
       refine EL_do .plain rfl (D_loadF (g := nF) part_PayEntry_3.1 Tryz.isAgg3 Tryz.sizeOf3 rfl b1081 fun gL pH => ?_)
       obtain rfl := RV_int.1 pH
       refine EL_do .plain rfl (D_buildSlice (g := nF) 3101 (xs := ([(w64 (i6 - j6))] : List Int)) (vs := [.int .i64 ((w64 (i6 - j6)))]) Tryz.underlying25 Tryz.sizeOf3 Tryz.zeroValue3 rfl rfl (.cons rfl .nil) (RVs.cons (RV_int.2 rfl) RVs.nil) rfl rfl fun qH iL sH hs o1084 tH hxt hfl => ?_)
       have hfr := hfr.stp hs
       have b1081 := b1081.stp hs rfl
       obtain ⟨uC, mG, h⟩ := bsome h
       refine EL_do .plain rfl (D_call (g := qH) (vs := [.int .i64 (0), .int .i64 (1000000), sH]) en45 (.cons rfl (.cons rfl (.cons rfl .nil))) (wk45 tH mG) fun uH lK jL hs hr => ?_)
       have hfr := hfr.ext hs
       have b1081 := b1081.ext hs
       subst hr
       refine EL_at (.bool (uC)) rfl rfl ?_
       exact EL_nil (blk_n (thn_n (zB ((⟨(1 : Int), j1.1, u0.1, (w64 (i6 - j6))⟩ : PayEntry), uC) _ _ ⟨uH, hfr, c7, b1081, rfl⟩ h)))
      ·refine E_cond_false (Eq.trans (show ev _ _ = .bool (d9) from eD) (congrArg Value.bool gD)) ?_
       obtain ⟨u7, hx, h⟩ := bsome h
       refine E_join (fun e w => ∃ (g : Gh) , Fr gI wI g w ∧ e 2 = p2 ∧ OB 2002 g w 107 (i8 : PayEntry) p2 ∧ e 4 = p6 ∧ OB 2004 g w 147 (y5.1 : PaySheet) p6 ∧ e 5 = j3 ∧ RV g.m w (o0.1 : List Int) j3 ∧ e 6 = o3 ∧ RV g.m w (o0.2.1 : List Int) o3 ∧ e 7 = .int .i64 (o0.2.2.1) ∧ e 8 = .int .i64 (o0.2.2.2) ∧ e 9 = .int .i64 (j1.1) ∧ e 10 = .int .i64 (j1.2) ∧ e 11 = .int .i64 (u0.1) ∧ e 12 = .int .i64 (u0.2) ∧ e 13 = .bool (true) ∧ e 103 = .bool (u7)) (fun Q' hQ => ?_) (fun mK vH hR => ?_)
       ·replace h := hx
        clear hx
        refine E_region (EL_mv i9 rfl ?_)
        refine EL_in (.bool ((j1.2 == (1 : Int)))) rfl rfl rfl rfl ?_
        refine EL_mw (.bool ((j1.2 == (1 : Int)))) rfl rfl ?_
        rcases csome h with ⟨l9, h⟩ | ⟨l9, h⟩
        ·refine EL_y (.int .i64 (u0.2)) (P_move k9) rfl rfl l9 rfl ?_
         refine EL_y (.bool ((u0.2 == (0 : Int)))) (P_int rfl rfl rfl) rfl rfl l9 rfl ?_
         refine EL_p (.bool ((u0.2 == (0 : Int)))) (P_pick (b := (j1.2 == (1 : Int))) rfl (pick_t l9 rfl)) rfl ?_
         refine EL_mw (.bool ((u0.2 == (0 : Int)))) rfl rfl ?_
         rcases csome h with ⟨n9, h⟩ | ⟨n9, h⟩
         ·refine EL_y (.int .i64 (o0.2.2.2)) (P_move pA) rfl rfl n9 rfl ?_
          refine EL_y (.bool ((o0.2.2.2 == (0 : Int)))) (P_int rfl rfl rfl) rfl rfl n9 rfl ?_
          refine EL_p (.bool ((o0.2.2.2 == (0 : Int)))) (P_pick (b := (u0.2 == (0 : Int))) rfl (pick_t n9 rfl)) rfl ?_
          refine EL_mw (.bool ((o0.2.2.2 == (0 : Int)))) rfl rfl ?_
          rcases csome h with ⟨z4, h⟩ | ⟨z4, h⟩
          ·refine EL_y j3 (P_move t8) rfl rfl z4 rfl ?_
           refine EL_y (.int .i64 (j1.1)) (P_move x6) rfl rfl z4 rfl ?_
           obtain ⟨vB, cE, h⟩ := bsome h
           refine EL_y (ePtr j3 j1.1 1) (P_indexAddr (α := Int) Tryz.underlying25 Tryz.sizeOf3 rfl v6 rfl cE) rfl rfl z4 rfl ?_
           have xH := PT_idx v6 cE
           refine EL_do (.yes2 rfl rfl z4) rfl (D_load (g := bB) Tryz.isAgg3 Tryz.sizeOf3 rfl xH fun kL yH => ?_)
           obtain rfl := RV_int.1 yH
           refine EL_y (.int .i64 (o0.2.2.1)) (P_move oA) rfl rfl z4 rfl ?_
           refine EL_y (.int .i64 (w64 (0 - o0.2.2.1))) (P_neg rfl) rfl rfl z4 rfl ?_
           refine EL_y (.bool ((vB == (w64 (0 - o0.2.2.1))))) (P_int rfl rfl rfl) rfl rfl z4 rfl ?_
           refine EL_p (.bool ((vB == (w64 (0 - o0.2.2.1))))) (P_pick (b := (o0.2.2.2 == (0 : Int))) rfl (pick_t z4 rfl)) rfl ?_
           refine EL_at (.bool ((vB == (w64 (0 - o0.2.2.1))))) rfl rfl ?_
           refine EL_nil ?_
           obtain rfl := sinj h
           exact hQ _ _ ⟨bB, hfr, c7, d7, nA, e7, t8, v6, iB, jB, oA, pA, x6, i9, i7, k9, cB, rfl⟩
          ·refine EL_s rfl rfl z4 rfl rfl ?_
           iterate 6 refine EL_s rfl rfl z4 rfl rfl ?_
           refine EL_p (.bool false) (P_pick (b := (o0.2.2.2 == (0 : Int))) rfl (pick_f z4 rfl)) rfl ?_
           refine EL_at (.bool false) rfl rfl ?_
           refine EL_nil ?_
           obtain rfl := sinj h
           exact hQ _ _ ⟨bB, hfr, c7, d7, nA, e7, t8, v6, iB, jB, oA, pA, x6, i9, i7, k9, cB, rfl⟩
         ·refine EL_s rfl rfl n9 rfl rfl ?_
          refine EL_s rfl rfl n9 rfl rfl ?_
          refine EL_p (.bool false) (P_pick (b := (u0.2 == (0 : Int))) rfl (pick_f n9 rfl)) rfl ?_
          refine EL_dead 9 rfl ?_
          refine EL_at (.bool false) rfl rfl ?_
          refine EL_nil ?_
          obtain rfl := sinj h
          exact hQ _ _ ⟨bB, hfr, c7, d7, nA, e7, t8, v6, iB, jB, oA, pA, x6, i9, i7, k9, cB, rfl⟩
        ·refine EL_s rfl rfl l9 rfl rfl ?_
         refine EL_s rfl rfl l9 rfl rfl ?_
         refine EL_p (.bool false) (P_pick (b := (j1.2 == (1 : Int))) rfl (pick_f l9 rfl)) rfl ?_
         refine EL_dead 13 rfl ?_
         refine EL_at (.bool false) rfl rfl ?_
         refine EL_nil ?_
         obtain rfl := sinj h
         exact hQ _ _ ⟨bB, hfr, c7, d7, nA, e7, t8, v6, iB, jB, oA, pA, x6, i9, i7, k9, cB, rfl⟩
       ·clear hx
        obtain ⟨dB, hfr, v8, j7, qA, m7, bG, oD, rA, x8, sA, uA, jC, o9, t9, u9, y9, qC⟩ := hR
        rcases csome h with ⟨iD, h⟩ | ⟨iD, h⟩
        ·refine E_cond_true (Eq.trans (show ev _ _ = .bool (u7) from qC) (congrArg Value.bool iD)) ?_
         refine L_loadO (x := .tmp 125) (SubS.comp part_PaySheet_0 part_PayTable_1 rfl).1 Tryz.isAgg25 Tryz.sizeOf25 m7 fun oF pF nG => ?_
         obtain ⟨k8, dE, h⟩ := bsome h
         have zH := PT_idx pF dE
         refine L_load (x := .tmp 128) Tryz.isAgg3 Tryz.sizeOf3 zH fun lL aI oG => ?_
         obtain rfl := RV_int.1 aI
         obtain ⟨l8, eE, h⟩ := bsome h
         have bI := PT_idx oD eE
         refine L_load (x := .tmp 132) Tryz.isAgg3 Tryz.sizeOf3 bI fun mL cI pG => ?_
         obtain rfl := RV_int.1 cI
         have aD : RV dB.m vH (⟨(2 : Int), j1.1, 0, (w64 (k8 + l8))⟩ : PayEntry) (.agg (setCh [[.int .i64 0], [.int .i64 0], [.int .i64 0], [.int .i64 0]] [(0, .int .i64 (2)), (1, .int .i64 (j1.1)), (3, .int .i64 ((w64 (k8 + l8))))]).flatten.toArray) := RV_build rfl (rep_pair (rfl) (rep_pair (rfl) (rep_pair (rep_int) (rep_last (rfl)))))
         generalize qG : (Value.agg (setCh [[.int .i64 0], [.int .i64 0], [.int .i64 0], [.int .i64 0]] [(0, .int .i64 (2)), (1, .int .i64 (j1.1)), (3, .int .i64 ((w64 (k8 + l8))))]).flatten.toArray) = qF at aD
         refine E_drawL (g := dB) (n := 13) [] [0, 1, 2, 3, 4, 5, 6, 7, 8, 9, 10, 11, 12] rfl mixed (by kernel_rfl) trivial ?_
         refine L_p (.int .i64 (j1.1)) rfl rfl (P_move jC) ?_
         refine L_p (fPtr p6 0) rfl rfl (P_fieldAddr at_147_0 qA (OB.ptr m7)) ?_
         refine L_p (fPtr p6 1) rfl rfl (P_fieldAddr2 (o1 := 0) rfl at_112_1 rfl (OB.ptr m7)) ?_
         refine L_ld (c := oF) rfl rfl .plain (fun _ _ h => ⟨h.ch, fun b hb _ => h.below.block b hb⟩) nG rfl ?_
         refine L_p (.int .i64 (j1.1)) rfl rfl (P_move jC) ?_
         refine L_p (ePtr oF j1.1 1) rfl rfl (P_indexAddr (α := Int) Tryz.underlying25 Tryz.sizeOf3 rfl pF rfl dE) ?_
         refine L_ld (c := .int .i64 (k8)) rfl rfl .plain (fun _ _ h => h.ch) oG rfl ?_
         refine L_p j3 rfl rfl (P_move bG) ?_
         refine L_p (.int .i64 (j1.1)) rfl rfl (P_move jC) ?_
         refine L_p (ePtr j3 j1.1 1) rfl rfl (P_indexAddr (α := Int) Tryz.underlying25 Tryz.sizeOf3 rfl oD rfl eE) ?_
         refine L_ld (c := .int .i64 (l8)) rfl rfl .plain (fun _ _ h => h.ch) pG rfl ?_
         refine L_p (.int .i64 ((w64 (k8 + l8)))) rfl rfl (P_int rfl rfl rfl) ?_
         refine L_p qF rfl rfl (qG ▸ P_build (vs := [(0, .int .i64 (2)), (1, .int .i64 (j1.1)), (3, .int .i64 ((w64 (k8 + l8))))]) [[.int .i64 0], [.int .i64 0], [.int .i64 0], [.int .i64 0]] lay_107 rfl rfl (.cons rfl (.cons rfl (.cons rfl .nil))) ⟨⟨_, rfl, rfl⟩, ⟨⟨_, rfl, rfl⟩, ⟨⟨_, rfl, rfl⟩, trivial⟩⟩⟩) ?_
         refine L_nl fun dI nL hs => ?_
         have hfr := hfr.ext hs
         have j7 := j7.ext hs
         have aD := aD.ext hs
         clear hs
         refine EL_do .plain rfl (D_storeOc (g := dI) (v := qF) Tryz.sizeOf107 v8 j7 rfl aD fun iI oL hs b1137 cb => ?_)
         clear cb
         have hfr := hfr.stp hs
         exact EL_nil (blk_n (thn_n (zB ((⟨(2 : Int), j1.1, 0, (w64 (k8 + l8))⟩ : PayEntry), true) _ _ ⟨iI, hfr, v8, b1137, y9⟩ h)))
        ·refine E_cond_false (Eq.trans (show ev _ _ = .bool (u7) from qC) (congrArg Value.bool iD)) ?_
         obtain ⟨v7, hx, h⟩ := bsome h
         refine E_join (fun e w => ∃ (g : Gh) , Fr gI wI g w ∧ e 2 = p2 ∧ OB 2002 g w 107 (i8 : PayEntry) p2 ∧ e 4 = p6 ∧ OB 2004 g w 147 (y5.1 : PaySheet) p6 ∧ e 6 = o3 ∧ RV g.m w (o0.2.1 : List Int) o3 ∧ e 7 = .int .i64 (o0.2.2.1) ∧ e 8 = .int .i64 (o0.2.2.2) ∧ e 10 = .int .i64 (j1.2) ∧ e 11 = .int .i64 (u0.1) ∧ e 12 = .int .i64 (u0.2) ∧ e 13 = .bool (true) ∧ e 136 = .bool (v7)) (fun Q' hQ => ?_) (fun nK jI hR => ?_)
         ·replace h := hx
          clear hx
          refine E_region (EL_mv o9 rfl ?_)
          refine EL_in (.bool ((j1.2 == (0 : Int)))) rfl rfl rfl rfl ?_
          refine EL_mw (.bool ((j1.2 == (0 : Int)))) rfl rfl ?_
          rcases csome h with ⟨z9, h⟩ | ⟨z9, h⟩
          ·refine EL_y (.int .i64 (u0.2)) (P_move u9) rfl rfl z9 rfl ?_
           refine EL_y (.bool ((u0.2 == (1 : Int)))) (P_int rfl rfl rfl) rfl rfl z9 rfl ?_
           refine EL_p (.bool ((u0.2 == (1 : Int)))) (P_pick (b := (j1.2 == (0 : Int))) rfl (pick_t z9 rfl)) rfl ?_
           refine EL_mw (.bool ((u0.2 == (1 : Int)))) rfl rfl ?_
           rcases csome h with ⟨bA, h⟩ | ⟨bA, h⟩
           ·refine EL_y (.int .i64 (o0.2.2.1)) (P_move sA) rfl rfl bA rfl ?_
            refine EL_y (.bool ((o0.2.2.1 == (0 : Int)))) (P_int rfl rfl rfl) rfl rfl bA rfl ?_
            refine EL_p (.bool ((o0.2.2.1 == (0 : Int)))) (P_pick (b := (u0.2 == (1 : Int))) rfl (pick_t bA rfl)) rfl ?_
            refine EL_mw (.bool ((o0.2.2.1 == (0 : Int)))) rfl rfl ?_
            rcases csome h with ⟨i5, h⟩ | ⟨i5, h⟩
            ·refine EL_y o3 (P_move rA) rfl rfl i5 rfl ?_
             refine EL_y (.int .i64 (u0.1)) (P_move t9) rfl rfl i5 rfl ?_
             obtain ⟨xB, gE, h⟩ := bsome h
             refine EL_y (ePtr o3 u0.1 1) (P_indexAddr (α := Int) Tryz.underlying25 Tryz.sizeOf3 rfl x8 rfl gE) rfl rfl i5 rfl ?_
             have kI := PT_idx x8 gE
             refine EL_do (.yes2 rfl rfl i5) rfl (D_load (g := dB) Tryz.isAgg3 Tryz.sizeOf3 rfl kI fun pL lI => ?_)
             obtain rfl := RV_int.1 lI
             refine EL_y (.int .i64 (o0.2.2.2)) (P_move uA) rfl rfl i5 rfl ?_
             refine EL_y (.int .i64 (w64 (0 - o0.2.2.2))) (P_neg rfl) rfl rfl i5 rfl ?_
             refine EL_y (.bool ((xB == (w64 (0 - o0.2.2.2))))) (P_int rfl rfl rfl) rfl rfl i5 rfl ?_
             refine EL_p (.bool ((xB == (w64 (0 - o0.2.2.2))))) (P_pick (b := (o0.2.2.1 == (0 : Int))) rfl (pick_t i5 rfl)) rfl ?_
             refine EL_at (.bool ((xB == (w64 (0 - o0.2.2.2))))) rfl rfl ?_
             refine EL_nil ?_
             obtain rfl := sinj h
             exact hQ _ _ ⟨dB, hfr, v8, j7, qA, m7, rA, x8, sA, uA, o9, t9, u9, y9, rfl⟩
            ·refine EL_s rfl rfl i5 rfl rfl ?_
             iterate 6 refine EL_s rfl rfl i5 rfl rfl ?_
             refine EL_p (.bool false) (P_pick (b := (o0.2.2.1 == (0 : Int))) rfl (pick_f i5 rfl)) rfl ?_
             refine EL_at (.bool false) rfl rfl ?_
             refine EL_nil ?_
             obtain rfl := sinj h
             exact hQ _ _ ⟨dB, hfr, v8, j7, qA, m7, rA, x8, sA, uA, o9, t9, u9, y9, rfl⟩
           ·refine EL_s rfl rfl bA rfl rfl ?_
            refine EL_s rfl rfl bA rfl rfl ?_
            refine EL_p (.bool false) (P_pick (b := (u0.2 == (1 : Int))) rfl (pick_f bA rfl)) rfl ?_
            refine EL_dead 9 rfl ?_
            refine EL_at (.bool false) rfl rfl ?_
            refine EL_nil ?_
            obtain rfl := sinj h
            exact hQ _ _ ⟨dB, hfr, v8, j7, qA, m7, rA, x8, sA, uA, o9, t9, u9, y9, rfl⟩
          ·refine EL_s rfl rfl z9 rfl rfl ?_
           refine EL_s rfl rfl z9 rfl rfl ?_
           refine EL_p (.bool false) (P_pick (b := (j1.2 == (0 : Int))) rfl (pick_f z9 rfl)) rfl ?_
           refine EL_dead 13 rfl ?_
           refine EL_at (.bool false) rfl rfl ?_
           refine EL_nil ?_
           obtain rfl := sinj h
           exact hQ _ _ ⟨dB, hfr, v8, j7, qA, m7, rA, x8, sA, uA, o9, t9, u9, y9, rfl⟩
         ·clear hx
          obtain ⟨aC, hfr, xA, y8, kB, a9, cG, sD, lB, dG, nE, tB, oE, rE, rC⟩ := hR
          rcases csome h with ⟨jD, h⟩ | ⟨jD, h⟩
          ·refine E_cond_true (Eq.trans (show ev _ _ = .bool (v7) from rC) (congrArg Value.bool jD)) ?_
           refine L_loadO (x := .tmp 158) (SubS.comp part_PaySheet_0 part_PayTable_2 rfl).1 Tryz.isAgg25 Tryz.sizeOf25 a9 fun rF sF rG => ?_
           obtain ⟨m8, iE, h⟩ := bsome h
           have mI := PT_idx sF iE
           refine L_load (x := .tmp 161) Tryz.isAgg3 Tryz.sizeOf3 mI fun qL nI sG => ?_
           obtain rfl := RV_int.1 nI
           obtain ⟨n8, jE, h⟩ := bsome h
           have oI := PT_idx sD jE
           refine L_load (x := .tmp 165) Tryz.isAgg3 Tryz.sizeOf3 oI fun rL pI tG => ?_
           obtain rfl := RV_int.1 pI
           have bD : RV aC.m jI (⟨(3 : Int), 0, u0.1, (w64 (m8 + n8))⟩ : PayEntry) (.agg (setCh [[.int .i64 0], [.int .i64 0], [.int .i64 0], [.int .i64 0]] [(0, .int .i64 (3)), (2, .int .i64 (u0.1)), (3, .int .i64 ((w64 (m8 + n8))))]).flatten.toArray) := RV_build rfl (rep_pair (rfl) (rep_pair (rep_int) (rep_pair (rfl) (rep_last (rfl)))))
           generalize uG : (Value.agg (setCh [[.int .i64 0], [.int .i64 0], [.int .i64 0], [.int .i64 0]] [(0, .int .i64 (3)), (2, .int .i64 (u0.1)), (3, .int .i64 ((w64 (m8 + n8))))]).flatten.toArray) = tF at bD
           refine E_drawL (g := aC) (n := 13) [] [0, 1, 2, 3, 4, 5, 6, 7, 8, 9, 10, 11, 12] rfl mixed (by kernel_rfl) trivial ?_
           refine L_p (.int .i64 (u0.1)) rfl rfl (P_move tB) ?_
           refine L_p (fPtr p6 0) rfl rfl (P_fieldAddr at_147_0 kB (OB.ptr a9)) ?_
           refine L_p (fPtr p6 2) rfl rfl (P_fieldAddr2 (o1 := 0) rfl at_112_2 rfl (OB.ptr a9)) ?_
           refine L_ld (c := rF) rfl rfl .plain (fun _ _ h => ⟨h.ch, fun b hb _ => h.below.block b hb⟩) rG rfl ?_
           refine L_p (.int .i64 (u0.1)) rfl rfl (P_move tB) ?_
           refine L_p (ePtr rF u0.1 1) rfl rfl (P_indexAddr (α := Int) Tryz.underlying25 Tryz.sizeOf3 rfl sF rfl iE) ?_
           refine L_ld (c := .int .i64 (m8)) rfl rfl .plain (fun _ _ h => h.ch) sG rfl ?_
           refine L_p o3 rfl rfl (P_move cG) ?_
           refine L_p (.int .i64 (u0.1)) rfl rfl (P_move tB) ?_
           refine L_p (ePtr o3 u0.1 1) rfl rfl (P_indexAddr (α := Int) Tryz.underlying25 Tryz.sizeOf3 rfl sD rfl jE) ?_
           refine L_ld (c := .int .i64 (n8)) rfl rfl .plain (fun _ _ h => h.ch) tG rfl ?_
           refine L_p (.int .i64 ((w64 (m8 + n8)))) rfl rfl (P_int rfl rfl rfl) ?_
           refine L_p tF rfl rfl (uG ▸ P_build (vs := [(0, .int .i64 (3)), (2, .int .i64 (u0.1)), (3, .int .i64 ((w64 (m8 + n8))))]) [[.int .i64 0], [.int .i64 0], [.int .i64 0], [.int .i64 0]] lay_107 rfl rfl (.cons rfl (.cons rfl (.cons rfl .nil))) ⟨⟨_, rfl, rfl⟩, ⟨⟨_, rfl, rfl⟩, ⟨⟨_, rfl, rfl⟩, trivial⟩⟩⟩) ?_
           refine L_nl fun qI tL hs => ?_
           have hfr := hfr.ext hs
           have y8 := y8.ext hs
           have bD := bD.ext hs
           clear hs
           refine EL_do .plain rfl (D_storeOc (g := qI) (v := tF) Tryz.sizeOf107 xA y8 rfl bD fun rI uL hs b1186 cb => ?_)
           clear cb
           have hfr := hfr.stp hs
           exact EL_nil (blk_n (thn_n (zB ((⟨(3 : Int), 0, u0.1, (w64 (m8 + n8))⟩ : PayEntry), true) _ _ ⟨rI, hfr, xA, b1186, rE⟩ h)))
          ·refine E_cond_false (Eq.trans (show ev _ _ = .bool (v7) from rC) (congrArg Value.bool jD)) ?_
           obtain ⟨c8, hx, h⟩ := bsome h
           refine E_join (fun e w => ∃ (g : Gh) , Fr gI wI g w ∧ e 2 = p2 ∧ OB 2002 g w 107 (i8 : PayEntry) p2 ∧ e 4 = p6 ∧ OB 2004 g w 147 (y5.1 : PaySheet) p6 ∧ e 7 = .int .i64 (o0.2.2.1) ∧ e 169 = .bool (c8)) (fun Q' hQ => ?_) (fun oK sI hR => ?_)
           ·replace h := hx
            clear hx
            refine E_region (EL_mv nE rfl ?_)
            refine EL_in (.bool ((j1.2 == (0 : Int)))) rfl rfl rfl rfl ?_
            refine EL_mw (.bool ((j1.2 == (0 : Int)))) rfl rfl ?_
            rcases csome h with ⟨gA, h⟩ | ⟨gA, h⟩
            ·refine EL_y (.int .i64 (u0.2)) (P_move oE) rfl rfl gA rfl ?_
             refine EL_y (.bool ((u0.2 == (0 : Int)))) (P_int rfl rfl rfl) rfl rfl gA rfl ?_
             refine EL_p (.bool ((u0.2 == (0 : Int)))) (P_pick (b := (j1.2 == (0 : Int))) rfl (pick_t gA rfl)) rfl ?_
             refine EL_mw (.bool ((u0.2 == (0 : Int)))) rfl rfl ?_
             rcases csome h with ⟨a7, h⟩ | ⟨a7, h⟩
             ·refine EL_y (.int .i64 (o0.2.2.1)) (P_move lB) rfl rfl a7 rfl ?_
              refine EL_y (.int .i64 (o0.2.2.2)) (P_move dG) rfl rfl a7 rfl ?_
              refine EL_y (.bool ((o0.2.2.1 == o0.2.2.2))) (P_int rfl rfl rfl) rfl rfl a7 rfl ?_
              refine EL_p (.bool ((o0.2.2.1 == o0.2.2.2))) (P_pick (b := (u0.2 == (0 : Int))) rfl (pick_t a7 rfl)) rfl ?_
              refine EL_at (.bool ((o0.2.2.1 == o0.2.2.2))) rfl rfl ?_
              refine EL_nil ?_
              obtain rfl := sinj h
              exact hQ _ _ ⟨aC, hfr, xA, y8, kB, a9, lB, rfl⟩
             ·refine EL_s rfl rfl a7 rfl rfl ?_
              refine EL_s rfl rfl a7 rfl rfl ?_
              refine EL_s rfl rfl a7 rfl rfl ?_
              refine EL_p (.bool false) (P_pick (b := (u0.2 == (0 : Int))) rfl (pick_f a7 rfl)) rfl ?_
              refine EL_at (.bool false) rfl rfl ?_
              refine EL_nil ?_
              obtain rfl := sinj h
              exact hQ _ _ ⟨aC, hfr, xA, y8, kB, a9, lB, rfl⟩
            ·refine EL_s rfl rfl gA rfl rfl ?_
             refine EL_s rfl rfl gA rfl rfl ?_
             refine EL_p (.bool false) (P_pick (b := (j1.2 == (0 : Int))) rfl (pick_f gA rfl)) rfl ?_
             refine EL_dead 5 rfl ?_
             refine EL_at (.bool false) rfl rfl ?_
             refine EL_nil ?_
             obtain rfl := sinj h
             exact hQ _ _ ⟨aC, hfr, xA, y8, kB, a9, lB, rfl⟩
           ·clear hx
            obtain ⟨cD, hfr, mB, tD, eG, kC, gG, tC⟩ := hR
            rcases csome h with ⟨kD, h⟩ | ⟨kD, h⟩
            ·refine E_cond_true (Eq.trans (show ev _ _ = .bool (c8) from tC) (congrArg Value.bool kD)) ?_
             refine E_seq (E_region (EL_p (fPtr p6 0) (P_fieldAddr at_147_0 eG (OB.ptr kC)) rfl ?_))
             refine EL_p (fPtr p6 3) (P_fieldAddr2 (o1 := 0) rfl at_112_3 rfl (OB.ptr kC)) rfl ?_
             refine EL_do .plain rfl (D_loadF (g := cD) (SubS.comp part_PaySheet_0 part_PayTable_3 rfl).1 Tryz.isAgg3 Tryz.sizeOf3 rfl kC fun vL tI => ?_)
             obtain rfl := RV_int.1 tI
             refine EL_mv gG rfl ?_
             refine EL_in (.int .i64 ((w64 (((y5.1).PayTable).Total + o0.2.2.1)))) rfl rfl rfl rfl ?_
             have uF : RV cD.m sI (⟨(4 : Int), 0, 0, (w64 (((y5.1).PayTable).Total + o0.2.2.1))⟩ : PayEntry) (.agg (setCh [[.int .i64 0], [.int .i64 0], [.int .i64 0], [.int .i64 0]] [(0, .int .i64 (4)), (3, .int .i64 ((w64 (((y5.1).PayTable).Total + o0.2.2.1))))]).flatten.toArray) := RV_build rfl (rep_pair (rfl) (rep_pair (rep_int) (rep_pair (rep_int) (rep_last (rfl)))))
             generalize vG : (Value.agg (setCh [[.int .i64 0], [.int .i64 0], [.int .i64 0], [.int .i64 0]] [(0, .int .i64 (4)), (3, .int .i64 ((w64 (((y5.1).PayTable).Total + o0.2.2.1))))]).flatten.toArray) = vF at uF
             refine EL_p vF (vG ▸ P_build (vs := [(0, .int .i64 (4)), (3, .int .i64 ((w64 (((y5.1).PayTable).Total + o0.2.2.1))))]) [[.int .i64 0], [.int .i64 0], [.int .i64 0], [.int .i64 0]] lay_107 rfl rfl (.cons rfl (.cons rfl .nil)) ⟨⟨_, rfl, rfl⟩, ⟨⟨_, rfl, rfl⟩, trivial⟩⟩) rfl ?_
             refine EL_do .plain rfl (D_storeOc (g := cD) (v := vF) Tryz.sizeOf107 mB tD rfl uF fun xF xL hs b1197 cb => ?_)
             clear cb
             have hfr := hfr.stp hs
             refine EL_nil (thn_n (E_region (EL_p (fPtr p2 3) (P_fieldAddr at_107_3 mB (OB.ptr b1197)) rfl ?_)))
             refine EL_do .plain rfl (D_loadF (g := xF) part_PayEntry_3.1 Tryz.isAgg3 Tryz.sizeOf3 rfl b1197 fun yL uI => ?_)
             obtain rfl := RV_int.1 uI
             refine EL_do .plain rfl (D_buildSlice (g := xF) 3189 (xs := ([(w64 (((y5.1).PayTable).Total + o0.2.2.1))] : List Int)) (vs := [.int .i64 ((w64 (((y5.1).PayTable).Total + o0.2.2.1)))]) Tryz.underlying25 Tryz.sizeOf3 Tryz.zeroValue3 rfl rfl (.cons rfl .nil) (RVs.cons (RV_int.2 rfl) RVs.nil) rfl rfl fun vI zL xI hs o1200 yI hxt hfl => ?_)
             have hfr := hfr.stp hs
             have b1197 := b1197.stp hs rfl
             obtain ⟨vC, xG, h⟩ := bsome h
             refine EL_do .plain rfl (D_call (g := vI) (vs := [xI]) en63 (.cons rfl .nil) (wk63 yI xG) fun zI pK aM hs hr => ?_)
             have hfr := hfr.ext hs
             have b1197 := b1197.ext hs
             subst hr
             refine EL_at (.bool (vC)) rfl rfl ?_
             exact EL_nil (blk_n (thn_n (zB ((⟨(4 : Int), 0, 0, (w64 (((y5.1).PayTable).Total + o0.2.2.1))⟩ : PayEntry), vC) _ _ ⟨zI, hfr, mB, b1197, rfl⟩ h)))
            ·refine E_cond_false (Eq.trans (show ev _ _ = .bool (c8) from tC) (congrArg Value.bool kD)) ?_
             refine E_region (EL_at (.bool false) rfl rfl ?_)
             exact EL_nil (blk_n (thn_n (zB (i8, false) _ _ ⟨cD, hfr, mB, tD, rfl⟩ h)))
  ·rintro ⟨cC, nB⟩ qK aJ ⟨yD, hfr, lC, uD, sE⟩ h
   refine E_joinC h (fun (s : PayEntry) e w => ∃ (g : Gh) , Fr gI wI g w ∧ e 2 = p2 ∧ OB 2002 g w 107 (s : PayEntry) p2) (fun X1208 tE yG h => ?_) ?_
   ·refine E_seq (E_region (EL_mv sE rfl ?_))
    refine EL_p (.bool (!nB)) (P_not rfl) rfl ?_
    refine EL_nil (thn_n ?_)
    rcases csome h with ⟨lD, h⟩ | ⟨lD, h⟩
    ·refine E_ct lD rfl ?_
     refine E_seq (E_region ?_)
     have yF : RV yD.m aJ (⟨0, 0, 0, 0⟩ : PayEntry) (.agg (setCh [[.int .i64 0], [.int .i64 0], [.int .i64 0], [.int .i64 0]] []).flatten.toArray) := RV_build rfl (rep_pair (rep_int) (rep_pair (rep_int) (rep_pair (rep_int) (rep_last (rep_int)))))
     generalize zG : (Value.agg (setCh [[.int .i64 0], [.int .i64 0], [.int .i64 0], [.int .i64 0]] []).flatten.toArray) = zF at yF
     refine EL_p zF (zG ▸ P_build (vs := []) [[.int .i64 0], [.int .i64 0], [.int .i64 0], [.int .i64 0]] lay_107 rfl rfl .nil trivial) rfl ?_
     refine EL_do .plain rfl (D_storeOc (g := yD) (v := zF) Tryz.sizeOf107 lC uD rfl yF fun bM cM hs b1211 cb => ?_)
     clear cb
     have hfr := hfr.stp hs
     refine EL_at (.int .i64 (9)) rfl rfl ?_
     refine EL_nil (thn_n (E_ret (thn_r ?_)))
     obtain rfl := sinj h
     obtain ⟨ad1212, cv1212, hp1212, aH, cr1212⟩ := ob_read Tryz.isAgg107 Tryz.sizeOf107 b1211
     exact endm_ct rfl rfl ((show _ = p2 from lC).trans hp1212) aH (show _ = .int .i64 (9) from rfl) ⟨_, hfr, _, _, rfl, cr1212, rfl⟩
    ·refine E_cf lD rfl ?_
     exact E_skip (thn_n (yG (cC) _ _ ⟨yD, hfr, lC, uD⟩ h))
   ·rintro mD sK dM ⟨aG, hfr, mC, vD⟩ h
    refine E_seq (E_region (EL_do .plain rfl (D_loadO (g := aG) Tryz.isAgg107 Tryz.sizeOf107 mC vD fun bJ cJ => ?_)))
    refine EL_do .plain rfl (D_storeOc (g := aG) (v := bJ) Tryz.sizeOf107 mC vD rfl cJ fun eM gM hs b1215 cb => ?_)
    clear cb
    have hfr := hfr.stp hs
    refine EL_at (.int .i64 (0)) rfl rfl ?_
    refine EL_nil (thn_n (E_ret ?_))
    obtain rfl := sinj h
    obtain ⟨ad1216, cv1216, hp1216, bH, cr1216⟩ := ob_read Tryz.isAgg107 Tryz.sizeOf107 b1215
    exact endm_ct rfl rfl ((show _ = p2 from mC).trans hp1216) bH (show _ = .int .i64 (0) from rfl) ⟨_, hfr, _, _, rfl, cr1216, rfl⟩
theorem v85_0 {iO : Nat} {gI : Gh} {wI : World} {x0 : List FaultDamage} {up0 : Value} (rp0 : RV gI.m wI x0 up0) {r : List FaultDamage} (h : f85 x0 = some r) : FnG Tryz.prog 85 #[up0] gI wI (fun g w v => OM iO g w 39 r v) := by
 unfold f85 at h
 refine fnG_of_E Tryz.func85 rfl (Nat.le_of_ble_eq_true rfl) fun g0 hm hfr => ?_
 have rp0 : RV g0.m wI x0 up0 := hm ▸ rp0
 show E _ 8 none _ _ _ _ _
 refine E_seq (E_region (EL_at (.slice none 0 0) rfl rfl (EL_nil (thn_n ?_))))
 refine E_seq (E_seq (E_region (EL_mw up0 rfl rfl ?_)))
 obtain ⟨a, c, hv, hc, hrow⟩ := RV_list rp0
 refine EL_p (.bool a.isNone) (P_slnil Tryz.underlying41 (show ev _ _ = _ from hv)) rfl (EL_nil (thn_n ?_))
 cases a with
 | none =>
  have hx : x0 = [] := by
   cases x0 with
   | nil => rfl
   | cons y ys => obtain ⟨b, off, hb, _⟩ := hrow (by simp); cases hb
  subst hx
  have hr : r = [] := by unfold apnd at h; split at h <;> simp at h; exact h
  subst hr
  refine E_cond_true rfl (E_seq (E_region ?_))
  refine EL_at (.slice none 0 0) rfl rfl (EL_nil (thn_n ?_))
  obtain ⟨gh, hxh, homh⟩ := OM.handn (i := iO) (t := 39) (α := FaultDamage) hfr; exact E_ret (thn_r (end1 rfl rfl (show _ = .slice none 0 0 from rfl) ⟨gh, hxh, homh⟩))
 | some a =>
  refine E_cond_false rfl (E_skip (thn_n ?_))
  refine E_seq (E_region (EL_do .plain rfl (D_buildSlice (g := g0) 1 (xs := ([] : List FaultDamage)) (vs := []) Tryz.underlying41 Tryz.sizeOf39 Tryz.zeroValue39 rfl rfl .nil RVs.nil rfl rfl fun g1 w1 v1 hs o1 r1 hxt hfl => ?_)))
  have hfr := hfr.stp hs
  have rp0 := rp0.stp hs
  refine EL_mw up0 rfl rfl ?_
  refine EL_do .plain rfl (D_append (g := g1) (i := 1) Tryz.underlying41 info_39 rfl rfl o1 r1 rfl rp0 h fun g2 w2 v2 hs o2 r2 _ => ?_)
  have hfr := hfr.stp hs
  refine EL_at v2 rfl rfl (EL_nil (thn_n ?_))
  obtain ⟨gh, hxh, homh⟩ := OM.hand (i := iO) plain_FaultDamage hfr o2 r2; exact E_ret (end1 rfl rfl (show _ = v2 from rfl) ⟨gh, hxh, homh⟩)
def f14  : Option (Bool) :=
 (f12 ((⟨([(⟨0, (20 : Int)⟩ : PayRate), (⟨(60 : Int), (30 : Int)⟩ : PayRate)] : List PayRate), ([(100 : Int), (250 : Int)] : List Int), (12 : Int), (100 : Int)⟩ : PayList))).bind fun e7 =>
 (f11 e7 ((⟨0, (60 : Int), (50000 : Int), ([(0 : Int), (1 : Int)] : List Int), (20 : Int)⟩ : PayPiece))).bind fun u0 =>
 (f20 ((10 : Int)) (([(2 : Int), (2 : Int), (3 : Int)] : List Int))).bind fun i3 =>
 (f36 ((⟨([([(5 : Int), (8 : Int)] : List Int), ([(1 : Int), (2 : Int)] : List Int)] : List (List Int)), ([(12 : Int), (3 : Int)] : List Int), ([(6 : Int), (9 : Int)] : List Int), (15 : Int)⟩ : PayTable))).bind fun j1 =>
 Option.bind (α := Bool) (
  bif (u0.2.2.2 == (0 : Int)) then
   bif (i3.2 == (0 : Int)) then
    bif (j1.2 == (0 : Int)) then
     bif (u0.2.2.1 == (1823 : Int)) then
      (f23 (i3.1) (([(3 : Int), (3 : Int), (4 : Int)] : List Int))).bind fun y44 =>
      bif y44 then
       some (((j1.1).Number == (7 : Int)))
      else
       some (false)
     else
      some (false)
    else
     some (false)
   else
    some (false)
  else
   some (false)
  ) fun i5 =>
 some (i5)
theorem en14 : Enters Tryz.prog 14 := enters_of Tryz.func14 (by kernel_rfl) rfl
theorem wk14 {gI : Gh} {wI : World}   {r : Bool} (h : f14  = some r) : Fn Tryz.prog 14 #[] gI wI (fun _ _ v => v = .bool (r)) := by
 unfold f14 at h
 refine fn_of_E Tryz.func14 rfl (Nat.le_of_ble_eq_true rfl) fun g0 hm hfr => ?_
 show E _ 64 none _ _ _ _ _
 refine E_seq (E_region (EL_at (.bool false) rfl rfl ?_))
 refine EL_nil (thn_n (E_seq (E_region ?_)))
 have r1 : RV g0.m wI (⟨0, (20 : Int)⟩ : PayRate) (.agg (setCh [[.int .i64 0], [.int .i64 0]] [(1, .int .i64 (20))]).flatten.toArray) := RV_build rfl (rep_pair (rep_int) (rep_last (rfl)))
 generalize hv1 : (Value.agg (setCh [[.int .i64 0], [.int .i64 0]] [(1, .int .i64 (20))]).flatten.toArray) = v1 at r1
 refine EL_p v1 (hv1 ▸ P_build (vs := [(1, .int .i64 (20))]) [[.int .i64 0], [.int .i64 0]] lay_82 rfl rfl (.cons rfl .nil) ⟨⟨_, rfl, rfl⟩, trivial⟩) rfl ?_
 have r2 : RV g0.m wI (⟨(60 : Int), (30 : Int)⟩ : PayRate) (.agg (setCh [[.int .i64 0], [.int .i64 0]] [(0, .int .i64 (60)), (1, .int .i64 (30))]).flatten.toArray) := RV_build rfl (rep_pair (rfl) (rep_last (rfl)))
 generalize hv2 : (Value.agg (setCh [[.int .i64 0], [.int .i64 0]] [(0, .int .i64 (60)), (1, .int .i64 (30))]).flatten.toArray) = v2 at r2
 refine EL_p v2 (hv2 ▸ P_build (vs := [(0, .int .i64 (60)), (1, .int .i64 (30))]) [[.int .i64 0], [.int .i64 0]] lay_82 rfl rfl (.cons rfl (.cons rfl .nil)) ⟨⟨_, rfl, rfl⟩, ⟨⟨_, rfl, rfl⟩, trivial⟩⟩) rfl ?_
 refine EL_do .plain rfl (D_buildSlice (g := g0) 3012 (xs := ([(⟨0, (20 : Int)⟩ : PayRate), (⟨(60 : Int), (30 : Int)⟩ : PayRate)] : List PayRate)) (vs := [v1, v2]) Tryz.underlying33 Tryz.sizeOf82 Tryz.zeroValue82 rfl rfl (.cons rfl (.cons rfl .nil)) (RVs.cons r1 (RVs.cons r2 RVs.nil)) rfl rfl fun g3 w3 v3 hs o3 r3 hxt hfl => ?_)
 have hfr := hfr.stp hs
 refine EL_do .plain rfl (D_buildSlice (g := g3) 3013 (xs := ([(100 : Int), (250 : Int)] : List Int)) (vs := [.int .i64 (100), .int .i64 (250)]) Tryz.underlying25 Tryz.sizeOf3 Tryz.zeroValue3 rfl rfl (.cons rfl (.cons rfl .nil)) (RVs.cons (RV_int.2 rfl) (RVs.cons (RV_int.2 rfl) RVs.nil)) rfl rfl fun g4 w4 v4 hs o4 r4 hxt hfl => ?_)
 have hfr := hfr.stp hs
 have r3 := r3.stp hs
 have r5 : RV g4.m _ (⟨([(⟨0, (20 : Int)⟩ : PayRate), (⟨(60 : Int), (30 : Int)⟩ : PayRate)] : List PayRate), ([(100 : Int), (250 : Int)] : List Int), (12 : Int), (100 : Int)⟩ : PayList) (.agg (setCh [[.slice none 0 0], [.slice none 0 0], [.int .i64 0], [.int .i64 0]] [(0, v3), (1, v4), (2, .int .i64 (12)), (3, .int .i64 (100))]).flatten.toArray) := RV_build rfl (rep_pair (RV.cells r3) (rep_pair (RV.cells r4) (rep_pair (rfl) (rep_last (rfl)))))
 generalize o8 : (Value.agg (setCh [[.slice none 0 0], [.slice none 0 0], [.int .i64 0], [.int .i64 0]] [(0, v3), (1, v4), (2, .int .i64 (12)), (3, .int .i64 (100))]).flatten.toArray) = v5 at r5
 refine EL_p v5 (o8 ▸ P_build (vs := [(0, v3), (1, v4), (2, .int .i64 (12)), (3, .int .i64 (100))]) [[.slice none 0 0], [.slice none 0 0], [.int .i64 0], [.int .i64 0]] lay_35 rfl rfl (.cons rfl (.cons rfl (.cons rfl (.cons rfl .nil)))) ⟨⟨_, rfl, cells_size r3⟩, ⟨⟨_, rfl, cells_size r4⟩, ⟨⟨_, rfl, rfl⟩, ⟨⟨_, rfl, rfl⟩, trivial⟩⟩⟩⟩) rfl ?_
 refine EL_do .plain rfl (D_allocOc (g := g4) 2001 (⟨[], [], 0, 0⟩ : PayList) Tryz.zeroValue35 (fun m w => ⟨_, (rep_two rep_nil (rep_two rep_nil (rep_two rep_int rep_int))), rfl⟩) fun g6 w6 p6 hs b6 cb => ?_)
 have hfr := hfr.stp hs
 have r5 := r5.stp hs
 have pA : OSF 2001 60100 0 g6 w6 82 35 ([] : List PayRate) p6 := cb.osf (by rfl)
 have qA : OSF 2001 60101 1 g6 w6 3 35 ([] : List Int) p6 := cb.osf (by rfl)
 clear cb
 refine EL_do .plain rfl (D_storeOc (g := g6) (v := v5) Tryz.sizeOf35 rfl b6 rfl r5 fun g7 w7 hs b7 cb => ?_)
 clear cb
 have hfr := hfr.stp hs
 refine EL_nil (thn_n (E_seq (E_region (EL_do .plain rfl (D_loadO (g := g7) Tryz.isAgg35 Tryz.sizeOf35 rfl b7 fun v8 r8 => ?_)))))
 obtain ⟨e7, e8, h⟩ := bsome h
 refine EL_do .plain rfl (D_call (g := g7) (vs := [v8]) en12 (.cons rfl .nil) (wk12 r8 e8) fun g9 w9_ v9 hs hr => ?_)
 have hfr := hfr.ext hs
 have r9 := hr
 refine EL_do .plain rfl (D_buildSlice (g := g9) 3018 (xs := ([(0 : Int), (1 : Int)] : List Int)) (vs := [.int .i64 (0), .int .i64 (1)]) Tryz.underlying25 Tryz.sizeOf3 Tryz.zeroValue3 rfl rfl (.cons rfl (.cons rfl .nil)) (RVs.cons (RV_int.2 rfl) (RVs.cons (RV_int.2 rfl) RVs.nil)) rfl rfl fun i7 zA j6 hs o11 j7 hxt hfl => ?_)
 have hfr := hfr.stp hs
 have r9 := r9.stp hs
 have m7 : RV i7.m _ (⟨0, (60 : Int), (50000 : Int), ([(0 : Int), (1 : Int)] : List Int), (20 : Int)⟩ : PayPiece) (.agg (setCh [[.int .i64 0], [.int .i64 0], [.int .i64 0], [.slice none 0 0], [.int .i64 0]] [(1, .int .i64 (60)), (2, .int .i64 (50000)), (3, j6), (4, .int .i64 (20))]).flatten.toArray) := RV_build rfl (rep_pair (rep_int) (rep_pair (rfl) (rep_pair (rfl) (rep_pair (RV.cells j7) (rep_last (rfl))))))
 generalize g8 : (Value.agg (setCh [[.int .i64 0], [.int .i64 0], [.int .i64 0], [.slice none 0 0], [.int .i64 0]] [(1, .int .i64 (60)), (2, .int .i64 (50000)), (3, j6), (4, .int .i64 (20))]).flatten.toArray) = n7 at m7
 refine EL_p n7 (g8 ▸ P_build (vs := [(1, .int .i64 (60)), (2, .int .i64 (50000)), (3, j6), (4, .int .i64 (20))]) [[.int .i64 0], [.int .i64 0], [.int .i64 0], [.slice none 0 0], [.int .i64 0]] lay_53 rfl rfl (.cons rfl (.cons rfl (.cons rfl (.cons rfl .nil)))) ⟨⟨_, rfl, rfl⟩, ⟨⟨_, rfl, rfl⟩, ⟨⟨_, rfl, cells_size j7⟩, ⟨⟨_, rfl, rfl⟩, trivial⟩⟩⟩⟩) rfl ?_
 obtain ⟨u0, i8, h⟩ := bsome h
 refine EL_do .plain rfl (D_call (g := i7) (vs := [v9, n7]) en11 (.cons rfl (.cons rfl .nil)) (wk11 r9 m7 i8) fun q8 rA aB hs hr => ?_)
 have hfr := hfr.ext hs
 obtain ⟨jA, kA, lA, mA, rfl, rfl, rfl, rfl, rfl⟩ := hr
 refine EL_mw (.tuple #[.int .i64 (u0.1), .int .i64 (u0.2.1), .int .i64 (u0.2.2.1), .int .i64 (u0.2.2.2)]) rfl rfl ?_
 refine EL_p (.int .i64 (u0.1)) (P_extract rfl rfl) rfl ?_
 refine EL_p (.int .i64 (u0.2.1)) (P_extract rfl rfl) rfl ?_
 refine EL_p (.int .i64 (u0.2.2.1)) (P_extract rfl rfl) rfl ?_
 refine EL_p (.int .i64 (u0.2.2.2)) (P_extract rfl rfl) rfl ?_
 refine EL_at (.int .i64 (u0.1)) rfl rfl ?_
 refine EL_at (.int .i64 (u0.2.1)) rfl rfl ?_
 refine EL_at (.int .i64 (u0.2.2.1)) rfl rfl ?_
 refine EL_at (.int .i64 (u0.2.2.2)) rfl rfl ?_
 refine EL_nil (thn_n (E_seq (E_region (EL_do .plain rfl (D_buildSlice (g := q8) 3026 (xs := ([(2 : Int), (2 : Int), (3 : Int)] : List Int)) (vs := [.int .i64 (2), .int .i64 (2), .int .i64 (3)]) Tryz.underlying25 Tryz.sizeOf3 Tryz.zeroValue3 rfl rfl (.cons rfl (.cons rfl (.cons rfl .nil))) (RVs.cons (RV_int.2 rfl) (RVs.cons (RV_int.2 rfl) (RVs.cons (RV_int.2 rfl) RVs.nil))) rfl rfl fun t8 w15 x8 hs o15 y8 hxt hfl => ?_)))))
 have hfr := hfr.stp hs
 obtain ⟨i3, k8, h⟩ := bsome h
 refine EL_do .plain rfl (D_call (g := t8) (vs := [.int .i64 (10), x8]) en20 (.cons rfl (.cons rfl .nil)) (wk20 y8 k8) fun a9 sA bB hs hr => ?_)
 have hfr := hfr.ext hs
 obtain ⟨z4, nA, rfl, o0, rfl⟩ := hr
 refine EL_mw (.tuple #[z4, .int .i64 (i3.2)]) rfl rfl ?_
 refine EL_p z4 (P_extract rfl rfl) rfl ?_
 refine EL_p (.int .i64 (i3.2)) (P_extract rfl rfl) rfl ?_
 refine EL_at z4 rfl rfl ?_
 refine EL_at (.int .i64 (i3.2)) rfl rfl ?_
 refine EL_nil (thn_n (E_seq (E_region (EL_do .plain rfl (D_buildSlice (g := a9) 3031 (xs := ([(5 : Int), (8 : Int)] : List Int)) (vs := [.int .i64 (5), .int .i64 (8)]) Tryz.underlying25 Tryz.sizeOf3 Tryz.zeroValue3 rfl rfl (.cons rfl (.cons rfl .nil)) (RVs.cons (RV_int.2 rfl) (RVs.cons (RV_int.2 rfl) RVs.nil)) rfl rfl fun d9 cB e9 hs o18 v6 hxt hfl => ?_)))))
 have hfr := hfr.stp hs
 have o0 := o0.stp hs
 refine EL_do .plain rfl (D_buildSlice (g := d9) 3032 (xs := ([(1 : Int), (2 : Int)] : List Int)) (vs := [.int .i64 (1), .int .i64 (2)]) Tryz.underlying25 Tryz.sizeOf3 Tryz.zeroValue3 rfl rfl (.cons rfl (.cons rfl .nil)) (RVs.cons (RV_int.2 rfl) (RVs.cons (RV_int.2 rfl) RVs.nil)) rfl rfl fun i9 dB k9 hs o19 l9 hxt hfl => ?_)
 have hfr := hfr.stp hs
 have o0 := o0.stp hs
 have v6 := v6.stp hs
 refine EL_do .plain rfl (D_buildSlice (g := i9) 3033 (xs := ([([(5 : Int), (8 : Int)] : List Int), ([(1 : Int), (2 : Int)] : List Int)] : List (List Int))) (vs := [e9, k9]) Tryz.underlying110 Tryz.sizeOf25 Tryz.zeroValue25 rfl rfl (.cons rfl (.cons rfl .nil)) (RVs.cons v6 (RVs.cons l9 RVs.nil)) rfl rfl fun n9 eB x6 hs o20 l5 hxt hfl => ?_)
 have hfr := hfr.stp hs
 have o0 := o0.stp hs
 refine EL_do .plain rfl (D_buildSlice (g := n9) 3034 (xs := ([(12 : Int), (3 : Int)] : List Int)) (vs := [.int .i64 (12), .int .i64 (3)]) Tryz.underlying25 Tryz.sizeOf3 Tryz.zeroValue3 rfl rfl (.cons rfl (.cons rfl .nil)) (RVs.cons (RV_int.2 rfl) (RVs.cons (RV_int.2 rfl) RVs.nil)) rfl rfl fun o9 iB y6 hs o21 i6 hxt hfl => ?_)
 have hfr := hfr.stp hs
 have o0 := o0.stp hs
 have l5 := l5.stp hs
 refine EL_do .plain rfl (D_buildSlice (g := o9) 3035 (xs := ([(6 : Int), (9 : Int)] : List Int)) (vs := [.int .i64 (6), .int .i64 (9)]) Tryz.underlying25 Tryz.sizeOf3 Tryz.zeroValue3 rfl rfl (.cons rfl (.cons rfl .nil)) (RVs.cons (RV_int.2 rfl) (RVs.cons (RV_int.2 rfl) RVs.nil)) rfl rfl fun o7 jB a7 hs o22 u7 hxt hfl => ?_)
 have hfr := hfr.stp hs
 have o0 := o0.stp hs
 have l5 := l5.stp hs
 have i6 := i6.stp hs
 have v7 : RV o7.m _ (⟨([([(5 : Int), (8 : Int)] : List Int), ([(1 : Int), (2 : Int)] : List Int)] : List (List Int)), ([(12 : Int), (3 : Int)] : List Int), ([(6 : Int), (9 : Int)] : List Int), (15 : Int)⟩ : PayTable) (.agg (setCh [[.slice none 0 0], [.slice none 0 0], [.slice none 0 0], [.int .i64 0]] [(0, x6), (1, y6), (2, a7), (3, .int .i64 (15))]).flatten.toArray) := RV_build rfl (rep_pair (RV.cells l5) (rep_pair (RV.cells i6) (rep_pair (RV.cells u7) (rep_last (rfl)))))
 generalize l8 : (Value.agg (setCh [[.slice none 0 0], [.slice none 0 0], [.slice none 0 0], [.int .i64 0]] [(0, x6), (1, y6), (2, a7), (3, .int .i64 (15))]).flatten.toArray) = c8 at v7
 refine EL_p c8 (l8 ▸ P_build (vs := [(0, x6), (1, y6), (2, a7), (3, .int .i64 (15))]) [[.slice none 0 0], [.slice none 0 0], [.slice none 0 0], [.int .i64 0]] lay_112 rfl rfl (.cons rfl (.cons rfl (.cons rfl (.cons rfl .nil)))) ⟨⟨_, rfl, cells_size l5⟩, ⟨⟨_, rfl, cells_size i6⟩, ⟨⟨_, rfl, cells_size u7⟩, ⟨⟨_, rfl, rfl⟩, trivial⟩⟩⟩⟩) rfl ?_
 obtain ⟨j1, m8, h⟩ := bsome h
 refine EL_do .plain rfl (D_call (g := o7) (vs := [c8]) en36 (.cons rfl .nil) (wk36 v7 m8) fun t9 uA kB hs hr => ?_)
 have hfr := hfr.ext hs
 have o0 := o0.ext hs
 obtain ⟨q5, oA, rfl, t5, rfl⟩ := hr
 refine EL_mw (.tuple #[q5, .int .i64 (j1.2)]) rfl rfl ?_
 refine EL_p q5 (P_extract rfl rfl) rfl ?_
 refine EL_p (.int .i64 (j1.2)) (P_extract rfl rfl) rfl ?_
 refine EL_do .plain rfl (D_allocOc (g := t9) 2008 (⟨0, 0, 0, 0⟩ : PayEntry) Tryz.zeroValue107 (fun m w => ⟨_, (rep_two rep_int (rep_two rep_int (rep_two rep_int rep_int))), rfl⟩) fun u9 lB y9 hs b26 cb => ?_)
 have hfr := hfr.stp hs
 have o0 := o0.stp hs
 have t5 := t5.stp hs
 clear cb
 refine EL_do .plain rfl (D_storeOc (g := u9) (v := q5) Tryz.sizeOf107 rfl b26 rfl t5 fun x5 mB hs b27 cb => ?_)
 clear cb
 have hfr := hfr.stp hs
 have o0 := o0.stp hs
 refine EL_at (.int .i64 (j1.2)) rfl rfl ?_
 refine EL_nil (thn_n ?_)
 obtain ⟨i5, hx, h⟩ := bsome h
 refine E_join (fun e w => ∃ (g : Gh) , Fr gI wI g w ∧ e 0 = .bool (i5)) (fun Q' hQ => ?_) (fun xA nB hR => ?_)
 ·replace h := hx
  clear hx
  refine E_region (EL_mw (.int .i64 (u0.2.2.2)) rfl rfl ?_)
  refine EL_in (.bool ((u0.2.2.2 == (0 : Int)))) rfl rfl rfl rfl ?_
  refine EL_mw (.bool ((u0.2.2.2 == (0 : Int)))) rfl rfl ?_
  rcases csome h with ⟨j3, h⟩ | ⟨j3, h⟩
  ·refine EL_y (.int .i64 (i3.2)) (P_move rfl) rfl rfl j3 rfl ?_
   refine EL_y (.bool ((i3.2 == (0 : Int)))) (P_int rfl rfl rfl) rfl rfl j3 rfl ?_
   refine EL_p (.bool ((i3.2 == (0 : Int)))) (P_pick (b := (u0.2.2.2 == (0 : Int))) rfl (pick_t j3 rfl)) rfl ?_
   refine EL_mw (.bool ((i3.2 == (0 : Int)))) rfl rfl ?_
   rcases csome h with ⟨u3, h⟩ | ⟨u3, h⟩
   ·refine EL_y (.int .i64 (j1.2)) (P_move rfl) rfl rfl u3 rfl ?_
    refine EL_y (.bool ((j1.2 == (0 : Int)))) (P_int rfl rfl rfl) rfl rfl u3 rfl ?_
    refine EL_p (.bool ((j1.2 == (0 : Int)))) (P_pick (b := (i3.2 == (0 : Int))) rfl (pick_t u3 rfl)) rfl ?_
    refine EL_mw (.bool ((j1.2 == (0 : Int)))) rfl rfl ?_
    rcases csome h with ⟨z3, h⟩ | ⟨z3, h⟩
    ·refine EL_y (.int .i64 (u0.2.2.1)) (P_move rfl) rfl rfl z3 rfl ?_
     refine EL_y (.bool ((u0.2.2.1 == (1823 : Int)))) (P_int rfl rfl rfl) rfl rfl z3 rfl ?_
     refine EL_p (.bool ((u0.2.2.1 == (1823 : Int)))) (P_pick (b := (j1.2 == (0 : Int))) rfl (pick_t z3 rfl)) rfl ?_
     refine EL_mw (.bool ((u0.2.2.1 == (1823 : Int)))) rfl rfl ?_
     rcases csome h with ⟨z2, h⟩ | ⟨z2, h⟩
     ·refine EL_y z4 (P_move rfl) rfl rfl z2 rfl ?_
      refine EL_do (.yes2 rfl rfl z2) rfl (D_buildSlice (g := x5) 3056 (xs := ([(3 : Int), (3 : Int), (4 : Int)] : List Int)) (vs := [.int .i64 (3), .int .i64 (3), .int .i64 (4)]) Tryz.underlying25 Tryz.sizeOf3 Tryz.zeroValue3 rfl rfl (.cons rfl (.cons rfl (.cons rfl .nil))) (RVs.cons (RV_int.2 rfl) (RVs.cons (RV_int.2 rfl) (RVs.cons (RV_int.2 rfl) RVs.nil))) rfl rfl fun z9 oB bA hs o42 gA hxt hfl => ?_)
      have hfr := hfr.stp hs
      have o0 := o0.stp hs
      have b27 := b27.stp hs rfl
      obtain ⟨y44, n8, h⟩ := bsome h
      refine EL_do (.yes2 rfl rfl z2) rfl (D_call (g := z9) (vs := [z4, bA]) en23 (.cons rfl (.cons rfl .nil)) (wk23 o0 gA n8) fun c7 yA tB hs hr => ?_)
      have hfr := hfr.ext hs
      have b27 := b27.ext hs
      subst hr
      refine EL_p (.bool (y44)) (P_pick (b := (u0.2.2.1 == (1823 : Int))) rfl (pick_t z2 rfl)) rfl ?_
      refine EL_mw (.bool (y44)) rfl rfl ?_
      rcases csome h with ⟨d3, h⟩ | ⟨d3, h⟩
      ·refine EL_y (fPtr y9 3) (P_fieldAddr at_107_3 rfl (OB.ptr b27)) rfl rfl d3 rfl ?_
       refine EL_do (.yes2 rfl rfl d3) rfl (D_loadF (g := c7) part_PayEntry_3.1 Tryz.isAgg3 Tryz.sizeOf3 rfl b27 fun vB iA => ?_)
       obtain rfl := RV_int.1 iA
       refine EL_y (.bool (((j1.1).Number == (7 : Int)))) (P_int rfl rfl rfl) rfl rfl d3 rfl ?_
       refine EL_p (.bool (((j1.1).Number == (7 : Int)))) (P_pick (b := y44) rfl (pick_t d3 rfl)) rfl ?_
       refine EL_at (.bool (((j1.1).Number == (7 : Int)))) rfl rfl ?_
       refine EL_nil ?_
       obtain rfl := sinj h
       exact hQ _ _ ⟨c7, hfr, rfl⟩
      ·refine EL_s rfl rfl d3 rfl rfl ?_
       refine EL_s rfl rfl d3 rfl rfl ?_
       refine EL_s rfl rfl d3 rfl rfl ?_
       refine EL_p (.bool false) (P_pick (b := y44) rfl (pick_f d3 rfl)) rfl ?_
       refine EL_at (.bool false) rfl rfl ?_
       refine EL_nil ?_
       obtain rfl := sinj h
       exact hQ _ _ ⟨c7, hfr, rfl⟩
     ·refine EL_s rfl rfl z2 rfl rfl ?_
      refine EL_s rfl rfl z2 rfl rfl ?_
      refine EL_s rfl rfl z2 rfl rfl ?_
      refine EL_p (.bool false) (P_pick (b := (u0.2.2.1 == (1823 : Int))) rfl (pick_f z2 rfl)) rfl ?_
      refine EL_dead 5 rfl ?_
      refine EL_at (.bool false) rfl rfl ?_
      refine EL_nil ?_
      obtain rfl := sinj h
      exact hQ _ _ ⟨x5, hfr, rfl⟩
    ·refine EL_s rfl rfl z3 rfl rfl ?_
     refine EL_s rfl rfl z3 rfl rfl ?_
     refine EL_p (.bool false) (P_pick (b := (j1.2 == (0 : Int))) rfl (pick_f z3 rfl)) rfl ?_
     refine EL_dead 10 rfl ?_
     refine EL_at (.bool false) rfl rfl ?_
     refine EL_nil ?_
     obtain rfl := sinj h
     exact hQ _ _ ⟨x5, hfr, rfl⟩
   ·refine EL_s rfl rfl u3 rfl rfl ?_
    refine EL_s rfl rfl u3 rfl rfl ?_
    refine EL_p (.bool false) (P_pick (b := (i3.2 == (0 : Int))) rfl (pick_f u3 rfl)) rfl ?_
    refine EL_dead 14 rfl ?_
    refine EL_at (.bool false) rfl rfl ?_
    refine EL_nil ?_
    obtain rfl := sinj h
    exact hQ _ _ ⟨x5, hfr, rfl⟩
  ·refine EL_s rfl rfl j3 rfl rfl ?_
   refine EL_s rfl rfl j3 rfl rfl ?_
   refine EL_p (.bool false) (P_pick (b := (u0.2.2.2 == (0 : Int))) rfl (pick_f j3 rfl)) rfl ?_
   refine EL_dead 18 rfl ?_
   refine EL_at (.bool false) rfl rfl ?_
   refine EL_nil ?_
   obtain rfl := sinj h
   exact hQ _ _ ⟨x5, hfr, rfl⟩
 ·clear hx
  obtain ⟨xB, hfr, d7⟩ := hR
  refine E_ret ?_
  obtain rfl := sinj h
  exact end1 rfl rfl (show _ = .bool (i5) from d7) ⟨_, hfr, rfl⟩
theorem v90_0 {iO : Nat} {gI : Gh} {wI : World} {x0 : TieHarness} {x1 : Design} {up0 : Value} (rp0 : RV gI.m wI x0 up0) {up1 : Value} (rp1 : RV gI.m wI x1 up1) {r : (List Str) × Int} (h : f90 x0 x1 = some r) : FnG Tryz.prog 90 #[up0, up1] gI wI (fun g w v => ∃ y0 y1, v = .tuple #[y0, y1] ∧ OM iO g w 9 (r.1) y0 ∧ y1 = .int .i64 (r.2)) := by
 unfold f90 at h
 refine fnG_of_E Tryz.func90 rfl (Nat.le_of_ble_eq_true rfl) fun g0 hm hfr => ?_
 have rp0 : RV g0.m wI x0 up0 := hm ▸ rp0
 have rp1 : RV g0.m wI x1 up1 := hm ▸ rp1
 show E _ 43 none _ _ _ _ _
 refine E_seq (E_region (EL_do .plain rfl (D_box (g := g0) rfl rp0 fun g1 w1 p1 hs q1 => ?_)))
 have hfr := hfr.ext hs
 have rp1 := rp1.ext hs
 refine EL_do .plain rfl (D_box (g := g1) rfl rp1 fun g2 w2 p2 hs q2 => ?_)
 have hfr := hfr.ext hs
 have q1 := q1.ext hs
 refine EL_at (.slice none 0 0) rfl rfl ?_
 refine EL_at (.int .i64 (0)) rfl rfl ?_
 refine EL_nil (thn_n (E_joinC h (fun (s : (List Str)) e w => ∃ (g : Gh) (v4 : Value), Fr gI wI g w ∧ e 2 = p1 ∧ PT g.m w (x0 : TieHarness) p1 ∧ e 3 = p2 ∧ PT g.m w (x1 : Design) p2 ∧ e 4 = v4 ∧ RV g.m w (s : List Str) v4 ∧ OS 1004 g w 9 (s : List Str) v4) (fun X7 k7 hk7 h => ?_) ?_))
 ·refine E_seq (E_region (EL_do .plain rfl (D_load (g := g2) Tryz.isAgg27 Tryz.sizeOf27 rfl q1 fun v8 r8 => ?_)))
  obtain ⟨z3, kA, h⟩ := bsome h
  refine EL_do .plain rfl (D_call (g := g2) (vs := [v8]) en50 (.cons rfl .nil) (wk50 r8 kA) fun g9 w9_ v9 hs hr => ?_)
  have hfr := hfr.ext hs
  have q1 := q1.ext hs
  have q2 := q2.ext hs
  subst hr
  refine EL_at (.int .i64 (z3)) rfl rfl ?_
  refine EL_nil (thn_n (E_seq (E_region (EL_mw (.int .i64 (z3)) rfl rfl ?_))))
  refine EL_in (.bool ((z3 != (0 : Int)))) rfl rfl rfl rfl ?_
  refine EL_nil (thn_n ?_)
  rcases csome h with ⟨v6, h⟩ | ⟨v6, h⟩
  ·refine E_ct v6 rfl ?_
   refine E_seq (E_region (EL_mw (.int .i64 (z3)) rfl rfl ?_))
   refine EL_at (.slice none 0 0) rfl rfl ?_
   refine EL_at (.int .i64 (z3)) rfl rfl ?_
   refine EL_nil (thn_n (E_ret (thn_r ?_)))
   obtain rfl := sinj h
   obtain ⟨gh, hxh, homh⟩ := OM.handn (i := iO) (t := 9) (α := Str) hfr
   exact end2 rfl rfl (show _ = .slice none 0 0 from rfl) (show _ = .int .i64 (z3) from rfl) ⟨gh, hxh, _, _, rfl, homh, rfl⟩
  ·refine E_cf v6 rfl ?_
   exact E_skip (thn_n (hk7 ([]) _ _ ⟨g9, (.slice none 0 0), hfr, rfl, q1, rfl, q2, rfl, RV_nil, OS.nil⟩ h))
 ·rintro g8 oB cC ⟨u9, i8, hfr, b7, j3, z4, z2, k8, i5, l5⟩ h
  refine E_joinC h (fun (s : (List Str)) e w => ∃ (g : Gh) (v4 : Value), Fr gI wI g w ∧ e 2 = p1 ∧ PT g.m w (x0 : TieHarness) p1 ∧ e 3 = p2 ∧ PT g.m w (x1 : Design) p2 ∧ e 4 = v4 ∧ RV g.m w (s : List Str) v4 ∧ OS 1004 g w 9 (s : List Str) v4) (fun X22 dC lA h => ?_) ?_
  ·refine E_seq (E_region (EL_do .plain rfl (D_load (g := u9) Tryz.isAgg29 Tryz.sizeOf29 z4 z2 fun rA sA => ?_)))
   obtain ⟨o3, mA, h⟩ := bsome h
   refine EL_do .plain rfl (D_call (g := u9) (vs := [rA]) en51 (.cons rfl .nil) (wk51 sA mA) fun j7 tB eC hs hr => ?_)
   have hfr := hfr.ext hs
   have j3 := j3.ext hs
   have z2 := z2.ext hs
   have i5 := i5.ext hs
   have l5 := l5.ext hs
   subst hr
   refine EL_at (.int .i64 (o3)) rfl rfl ?_
   refine EL_nil (thn_n (E_block ?_))
   refine E_seq (E_region (EL_mw (.int .i64 (o3)) rfl rfl ?_))
   refine EL_in (.bool ((o3 != (0 : Int)))) rfl rfl rfl rfl ?_
   refine EL_at (.bool ((o3 != (0 : Int)))) rfl rfl ?_
   refine EL_nil (thn_n ?_)
   rcases csome h with ⟨x6, h⟩ | ⟨x6, h⟩
   ·refine E_ct x6 rfl ?_
    refine E_seq (E_region (EL_mw (.int .i64 (o3)) rfl rfl ?_))
    refine EL_at (.slice none 0 0) rfl rfl ?_
    refine EL_at (.int .i64 (o3)) rfl rfl ?_
    refine EL_nil (thn_n (E_ret (blk_r ?_)))
    refine thn_r ?_
    obtain rfl := sinj h
    obtain ⟨gh, hxh, homh⟩ := OM.handn (i := iO) (t := 9) (α := Str) hfr
    exact end2 rfl rfl (show _ = .slice none 0 0 from rfl) (show _ = .int .i64 (o3) from rfl) ⟨gh, hxh, _, _, rfl, homh, rfl⟩
   ·refine E_cf x6 rfl ?_
    refine E_seq (E_region (EL_p (fPtr p2 0) (P_fieldAddr at_29_0 z4 (PT.ptr z2)) rfl ?_))
    have uA := PT_field (part_Design_0).1 z2
    refine EL_do .plain rfl (D_load (g := j7) Tryz.isAgg3 Tryz.sizeOf3 rfl uA fun iC xA => ?_)
    obtain rfl := RV_int.1 xA
    refine EL_p (fPtr p1 0) (P_fieldAddr at_27_0 b7 (PT.ptr j3)) rfl ?_
    have yA := PT_field (part_TieHarness_0).1 j3
    refine EL_do .plain rfl (D_load (g := j7) Tryz.isAgg3 Tryz.sizeOf3 rfl yA fun jC zA => ?_)
    obtain rfl := RV_int.1 zA
    refine EL_in (.bool (((x1).Hooks != (x0).Hooks))) rfl rfl rfl rfl ?_
    refine EL_at (.bool (((x1).Hooks != (x0).Hooks))) rfl rfl ?_
    refine EL_nil (thn_n ?_)
    rcases csome h with ⟨y6, h⟩ | ⟨y6, h⟩
    ·refine E_ct y6 rfl ?_
     refine E_seq (E_region (EL_at (.slice none 0 0) rfl rfl ?_))
     refine EL_at (.int .i64 (4)) rfl rfl ?_
     refine EL_nil (thn_n (E_ret (blk_r ?_)))
     refine thn_r ?_
     obtain rfl := sinj h
     obtain ⟨gh, hxh, homh⟩ := OM.handn (i := iO) (t := 9) (α := Str) hfr
     exact end2 rfl rfl (show _ = .slice none 0 0 from rfl) (show _ = .int .i64 (4) from rfl) ⟨gh, hxh, _, _, rfl, homh, rfl⟩
    ·refine E_cf y6 rfl ?_
     exact E_skip (blk_n (thn_n (lA (g8) _ _ ⟨j7, (i8), hfr, b7, j3, z4, z2, k8, i5, l5⟩ h)))
  ·rintro mB vB kC ⟨y9, l8, hfr, m8, n8, o8, c7, q8, t8, x8⟩ h
   obtain ⟨d7, hx, h⟩ := bsome h
   refine E_join (fun e w => ∃ (g : Gh) (v4 : Value), Fr gI wI g w ∧ e 4 = v4 ∧ RV g.m w (d7 : List Str) v4 ∧ OS 1004 g w 9 (d7 : List Str) v4) (fun Q' hQ => ?_) (fun xB lC hR => ?_)
   ·replace h := hx
    clear hx
    refine E_seq (E_region (EL_p (fPtr p2 1) (P_fieldAddr at_29_1 o8 (PT.ptr c7)) rfl ?_))
    have aB := PT_field (part_Design_1).1 c7
    refine EL_do .plain rfl (D_load (g := y9) Tryz.isAgg25 Tryz.sizeOf25 rfl aB fun t5 z9 => ?_)
    refine EL_p (.int .i64 (((x1).Rows).length : Int)) (P_len Tryz.underlying25 rfl z9) rfl ?_
    refine EL_mw (.int .i64 (0)) rfl rfl ?_
    refine EL_nil (thn_n (E_block ?_))
    refine E_lp h (fun (s : (List Str) × Int) e w => ∃ (g : Gh) (v4 : Value), Fr gI wI g w ∧ e 2 = p1 ∧ PT g.m w (x0 : TieHarness) p1 ∧ e 4 = v4 ∧ RV g.m w (s.1 : List Str) v4 ∧ OS 1004 g w 9 (s.1 : List Str) v4 ∧ e 28 = t5 ∧ RV g.m w ((x1).Rows : List Int) t5 ∧ e 29 = .int .i64 ((((x1).Rows).length : Int)) ∧ e 30 = .int .i64 (s.2)) ⟨y9, (l8), hfr, m8, n8, q8, t8, x8, rfl, z9, rfl, rfl⟩ (fun X61 mC nA => ?_)
    rintro ⟨nB, j1⟩ yB qC ⟨x5, y8, hfr, e7, u0, g7, d3, i3, i6, o0, j6, u3⟩ h
    refine E_seq (E_region (EL_p (.bool ((decide (j1 < (((x1).Rows).length : Int))))) (P_int u3 j6 rfl) rfl ?_))
    refine EL_nil (thn_n (E_seq ?_))
    rcases csome h with ⟨a7, h⟩ | ⟨a7, h⟩
    ·refine E_ct a7 rfl ?_
     refine E_skip (thn_n ?_)
     obtain ⟨q5, hx, h⟩ := bsome h
     refine E_join (fun e w => ∃ (g : Gh) (v4 : Value), Fr gI wI g w ∧ e 2 = p1 ∧ PT g.m w (x0 : TieHarness) p1 ∧ e 4 = v4 ∧ RV g.m w (q5 : List Str) v4 ∧ OS 1004 g w 9 (q5 : List Str) v4 ∧ e 28 = t5 ∧ RV g.m w ((x1).Rows : List Int) t5 ∧ e 29 = .int .i64 ((((x1).Rows).length : Int)) ∧ e 30 = .int .i64 (j1)) (fun Q' hQ => ?_) (fun zB rC hR => ?_)
     ·replace h := hx
      clear hx
      refine E_block ?_
      refine E_seq (E_region ?_)
      obtain ⟨m7, n7, h⟩ := bsome h
      refine EL_p (ePtr t5 j1 1) (P_indexAddr (α := Int) Tryz.underlying25 Tryz.sizeOf3 i6 o0 u3 n7) rfl ?_
      have bB := PT_idx o0 n7
      refine EL_do .plain rfl (D_load (g := x5) Tryz.isAgg3 Tryz.sizeOf3 rfl bB fun tC cB => ?_)
      obtain rfl := RV_int.1 cB
      refine EL_at (.int .i64 (m7)) rfl rfl ?_
      refine EL_nil (thn_n (E_region (EL_mv g7 rfl ?_)))
      refine EL_do .plain rfl (D_load (g := x5) Tryz.isAgg27 Tryz.sizeOf27 e7 u0 fun o7 bA => ?_)
      have gA : RV x5.m _ (⟨x0⟩ : TieTieHarness) (.agg (setCh [[.int .i64 0, .slice none 0 0]] [(0, o7)]).flatten.toArray) := RV_build rfl (rep_last (RV.cells bA))
      generalize oA : (Value.agg (setCh [[.int .i64 0, .slice none 0 0]] [(0, o7)]).flatten.toArray) = iA at gA
      refine EL_p iA (oA ▸ P_build (vs := [(0, o7)]) [[.int .i64 0, .slice none 0 0]] lay_202 rfl rfl (.cons rfl .nil) ⟨⟨_, rfl, cells_size bA⟩, trivial⟩) rfl ?_
      refine EL_mw (.int .i64 (m7)) rfl rfl ?_
      obtain ⟨y81, pA, h⟩ := bsome h
      refine EL_do .plain rfl (D_call (g := x5) (vs := [iA, .int .i64 (m7)]) en122 (.cons rfl (.cons rfl .nil)) (wk122 gA pA) fun dB aC uC hs hr => ?_)
      have hfr := hfr.ext hs
      have u0 := u0.ext hs
      have d3 := d3.ext hs
      have i3 := i3.ext hs
      have o0 := o0.ext hs
      subst hr
      refine EL_do .plain rfl (D_buildSlice (g := dB) 3039 (xs := ([y81] : List Str)) (vs := [Str.v (y81)]) Tryz.underlying88 Tryz.sizeOf9 Tryz.zeroValue9 rfl rfl (.cons rfl .nil) (RVs.cons (RV_str.2 rfl) RVs.nil) rfl rfl fun eB vC xC hs o82 iB hxt hfl => ?_)
      have hfr := hfr.stp hs
      have u0 := u0.stp hs
      have d3 := d3.stp hs
      have i3 := i3.stp hs rfl
      have o0 := o0.stp hs
      obtain ⟨y84, qA, h⟩ := bsome h
      refine EL_do .plain rfl (D_append (g := eB) (i := 1004) Tryz.underlying88 info_9 rfl rfl i3 d3 rfl iB qA fun jB yC jA hs o83 kB _ => ?_)
      have hfr := hfr.stp hs
      have u0 := u0.stp hs
      have o0 := o0.stp hs
      refine EL_at jA rfl rfl ?_
      refine EL_nil (blk_n ?_)
      obtain rfl := sinj h
      exact hQ _ _ ⟨jB, (jA), hfr, e7, u0, rfl, kB, o83, i6, o0, j6, u3⟩
     ·clear hx
      obtain ⟨lB, a9, hfr, d9, e9, i9, k9, l9, u7, v7, c8, e8⟩ := hR
      refine E_region (EL_in (.int .i64 ((w64 (j1 + (1 : Int))))) e8 rfl rfl rfl ?_)
      refine EL_mw (.int .i64 ((w64 (j1 + (1 : Int))))) rfl rfl ?_
      exact EL_nil (thn_n (nA (q5, (w64 (j1 + (1 : Int)))) _ _ ⟨lB, (a9), hfr, d9, e9, i9, k9, l9, u7, v7, c8, rfl⟩ h))
    ·refine E_cf a7 rfl ?_
     refine E_exit ?_
     refine thn_e ?_
     refine thn_e ?_
     refine blk_hit ?_
     obtain rfl := sinj h
     exact hQ _ _ ⟨x5, (y8), hfr, g7, d3, i3⟩
   ·clear hx
    obtain ⟨aD, i7, hfr, n9, o9, t9⟩ := hR
    refine E_seq (E_region (EL_mv n9 rfl ?_))
    refine EL_at i7 rfl rfl ?_
    refine EL_at (.int .i64 (0)) rfl rfl ?_
    refine EL_nil (thn_n (E_ret ?_))
    obtain rfl := sinj h
    obtain ⟨gh, hxh, homh⟩ := OM.hand (i := iO) plain_str hfr t9 o9
    exact end2 rfl rfl (show _ = i7 from rfl) (show _ = .int .i64 (0) from rfl) ⟨gh, hxh, _, _, rfl, homh, rfl⟩
def f52 (x0 : FaultFaultLoom) (x1 : List FaultDamage) : Option ((List Str)) :=
 (f84 ((((x0).FaultLoom).Design).Rows)).bind fun y8 =>
 (f85 x1).bind fun y11 =>
 (f86 y11 ((fun a0 a1 => f87 a0 a1))).bind fun d7 =>
 Option.bind (α := (List Int) × (List (Int × Bool))) (
  lp (σ := (List Int) × (List (Int × Bool)) × Int) (fun kD (x8, a9, j1) =>
   bif (decide (j1 < ((d7).length : Int))) then
    Option.bind (α := (List Int) × (List (Int × Bool))) (
     (idx d7 j1).bind fun y55 =>
     (fchg ((y55).Kind) x0 y55 x8 a9).bind fun eB =>
     some (eB.1, eB.2)
     ) fun (o7, u7) =>
    kD (o7, u7, (w64 (j1 + (1 : Int))))
   else
    some (x8, a9)
   ) big (y8, ([] : List (Int × Bool)), (0 : Int))
  ) fun (c8, t5) =>
 (f90 (((x0).FaultLoom).Harness) ((⟨(((x0).FaultLoom).Design).Hooks, c8⟩ : Design))).bind fun x5 =>
 Option.bind (α := (List Str)) (
  lp (σ := (List Str) × Int) (fun iB (o3, o0) =>
   bif (decide (o0 < ((x5.1).length : Int))) then
    Option.bind (α := (List Str)) (
     (idx o3 o0).bind fun g8 =>
     Option.bind (α := (List UInt8)) (
      lp (σ := (List UInt8) × (List (Int × Bool))) (fun jB (u3, j7) =>
       bif j7.isEmpty then
        some (u3)
       else pickAll j7 fun i6 rm160 =>
        (idx u3 i6.1).bind fun uD =>
        jB ((List.set u3 (Int.toNat i6.1) ((46 : UInt8))), rm160)
       ) big ((g8).b, t5)
      ) fun x6 =>
     (idx o3 o0).bind fun y165 =>
     some ((List.set o3 (Int.toNat o0) ((⟨x6⟩ : Str))))
     ) fun e7 =>
    iB (e7, (w64 (o0 + (1 : Int))))
   else
    some (o3)
   ) big (x5.1, (0 : Int))
  ) fun i8 =>
 some (i8)
theorem en52 : Enters Tryz.prog 52 := enters_of Tryz.func52 (by kernel_rfl) rfl
theorem wk52 {gI : Gh} {wI : World} {x0 : FaultFaultLoom} {x1 : List FaultDamage} {up0 : Value} (rp0 : RV gI.m wI x0 up0) {up1 : Value} (rp1 : RV gI.m wI x1 up1) {r : (List Str)} (h : f52 x0 x1 = some r) : Fn Tryz.prog 52 #[up0, up1] gI wI (fun m w v => RV m w (r) v) := by
 unfold f52 at h
 refine fn_of_E Tryz.func52 rfl (Nat.le_of_ble_eq_true rfl) fun g0 hm hfr => ?_
 have rp0 : RV g0.m wI x0 up0 := hm ▸ rp0
 have rp1 : RV g0.m wI x1 up1 := hm ▸ rp1
 show E _ 79 none _ _ _ _ _
 refine E_seq (E_region (EL_do .plain rfl (D_box (g := g0) rfl rp0 fun g1 w1 p1 hs q1 => ?_)))
 have hfr := hfr.ext hs
 have rp1 := rp1.ext hs
 refine EL_at (.slice none 0 0) rfl rfl ?_
 have b2 : OA 4004 g1 w1 9 ([] : List Str) (.slice none 0 0) := OA.nil
 refine EL_nil (thn_n (E_seq (E_region (EL_p (fPtr p1 0) (P_fieldAddr at_86_0 rfl (PT.ptr q1)) rfl ?_))))
 have q3 := PT_field (part_FaultFaultLoom_0).1 q1
 refine EL_p (fPtr (fPtr p1 0) 2) (P_fieldAddr at_31_1 rfl (PT.ptr q3)) rfl ?_
 have q4 := PT_field (part_FaultLoom_1).1 q3
 refine EL_p (fPtr (fPtr (fPtr p1 0) 2) 1) (P_fieldAddr at_29_1 rfl (PT.ptr q4)) rfl ?_
 have q5 := PT_field (part_Design_1).1 q4
 refine EL_do .plain rfl (D_load (g := g1) Tryz.isAgg25 Tryz.sizeOf25 rfl q5 fun v6 r6 => ?_)
 obtain ⟨y8, nE, h⟩ := bsome h
 refine EL_do .plain rfl (D_callG (g := g1) (vs := [v6]) en84 (.cons rfl .nil) (v84_0 (iO := 9018) r6 nE) fun g7 w7_ v7 hs hr => ?_)
 have hfr := hfr.ext hs
 have rp1 := rp1.ext hs
 have q1 := q1.ext hs
 have hm7 := hr
 refine EL_do .plain rfl (D_makeMap (g := g7) (Value.int .i64) Bool 8019 fun g9 w9 v9 hs m9 => ?_)
 have hfr := hfr.stp hs
 have rp1 := rp1.stp hs
 have q1 := q1.stp hs
 have hm7 := hm7.stp hs rfl
 refine EL_at v7 rfl rfl ?_
 refine EL_at v9 rfl rfl ?_
 refine EL_nil (thn_n (E_seq (E_region (EL_mw up1 rfl rfl ?_))))
 obtain ⟨y11, vD, h⟩ := bsome h
 refine EL_do .plain rfl (D_callG (g := g9) (vs := [up1]) en85 (.cons rfl .nil) (v85_0 (iO := 9021) rp1 vD) fun oE xF j6 hs hr => ?_)
 have hfr := hfr.ext hs
 have q1 := q1.ext hs
 have hm7 := hm7.ext hs
 have m9 := m9.ext hs
 have hm10 := hr
 refine EL_at j6 rfl rfl ?_
 refine EL_nil (thn_n (E_seq (E_region (EL_mw j6 rfl rfl ?_))))
 obtain ⟨d7, xD, h⟩ := bsome h
 refine EL_do .plain rfl (D_callM (g := oE) (i := 9021) (vs := [j6, .func (.func 87) #[] #[]]) en86 (.cons rfl (.cons rfl .nil)) (wk86 hm10 ⟨87, #[], #[], rfl, en87, fun g' w' hch a0 a1 b0 b1 r hu0 hu1 hr => by exact Fn.mono (wk87 hu0 hu1  hr) fun _ _ _ h => RV_int.2 h⟩ xD) fun rE yF sG hs hr => ?_)
 obtain ⟨hrv, b12⟩ := hr
 have hfr := hfr.stp hs
 have q1 := q1.stp hs
 have hm7 := hm7.stp hs rfl
 have m9 := m9.stp hs rfl
 subst hrv
 refine EL_nil (thn_n (E_seq (E_region (EL_do .plain rfl (D_callG (g := rE) (vs := []) en89 .nil (wk89 (i := 8800)) fun sE tG n9 hs m14 => ?_)))))
 have hfr := hfr.ext hs
 have b12 := b12.ext hs
 have q1 := q1.ext hs
 have hm7 := hm7.ext hs
 have m9 := m9.ext hs
 refine EL_at n9 rfl rfl ?_
 refine EL_nil (thn_n ?_)
 obtain ⟨⟨c8, t5⟩, hx, h⟩ := bsome h
 refine E_join (fun e w => ∃ (g : Gh) , Fr gI wI g w ∧ e 2 = p1 ∧ PT g.m w (x0 : FaultFaultLoom) p1 ∧ e 5 = v7 ∧ OM 9018 g w 3 (c8 : List Int) v7 ∧ e 6 = v9 ∧ MP (Value.int .i64) 8019 g w (t5 : List (Int × Bool)) v9) (fun Q' hQ => ?_) (fun zF uG hR => ?_)
 ·replace h := hx
  clear hx
  refine E_seq (E_region (EL_mw j6 rfl rfl ?_))
  refine EL_p (.int .i64 ((d7).length : Int)) (P_lenM Tryz.underlying41 rfl b12) rfl ?_
  refine EL_mw (.int .i64 (0)) rfl rfl ?_
  refine EL_nil (thn_n (E_block ?_))
  refine E_lp h (fun (s : (List Int) × (List (Int × Bool)) × Int) e w => ∃ (g : Gh) , Fr gI wI g w ∧ e 1 = j6 ∧ OM 9021 g w 39 (d7 : List FaultDamage) j6 ∧ e 2 = p1 ∧ PT g.m w (x0 : FaultFaultLoom) p1 ∧ e 5 = v7 ∧ OM 9018 g w 3 (s.1 : List Int) v7 ∧ e 6 = v9 ∧ MP (Value.int .i64) 8019 g w (s.2.1 : List (Int × Bool)) v9 ∧ e 7 = n9 ∧ MP (Value.int .i64) 8800 g w chgM n9 ∧ e 25 = j6 ∧ e 26 = .int .i64 (((d7).length : Int)) ∧ e 27 = .int .i64 (s.2.2)) ⟨sE, hfr, rfl, b12, rfl, q1, rfl, hm7, rfl, m9, rfl, m14, rfl, rfl, rfl⟩ (fun X41 kD yD => ?_)
  rintro ⟨x8, a9, j1⟩ aG vG ⟨kB, hfr, lC, z2, d9, d3, e9, y6, i9, a7, nA, i3, o9, t9, k8⟩ h
  refine E_seq (E_region (EL_in (.bool ((decide (j1 < ((d7).length : Int))))) k8 t9 rfl rfl ?_))
  refine EL_nil (thn_n (E_seq ?_))
  rcases csome h with ⟨kA, h⟩ | ⟨kA, h⟩
  ·refine E_ct kA rfl ?_
   refine E_skip (thn_n ?_)
   obtain ⟨⟨o7, u7⟩, hx, h⟩ := bsome h
   refine E_join (fun e w => ∃ (g : Gh) , Fr gI wI g w ∧ e 1 = j6 ∧ OM 9021 g w 39 (d7 : List FaultDamage) j6 ∧ e 2 = p1 ∧ PT g.m w (x0 : FaultFaultLoom) p1 ∧ e 5 = v7 ∧ OM 9018 g w 3 (o7 : List Int) v7 ∧ e 6 = v9 ∧ MP (Value.int .i64) 8019 g w (u7 : List (Int × Bool)) v9 ∧ e 7 = n9 ∧ MP (Value.int .i64) 8800 g w chgM n9 ∧ e 25 = j6 ∧ e 26 = .int .i64 (((d7).length : Int)) ∧ e 27 = .int .i64 (j1)) (fun Q' hQ => ?_) (fun bG xG hR => ?_)
   ·replace h := hx
    clear hx
    refine E_block ?_
    refine E_seq (E_region ?_)
    obtain ⟨y55, lB, h⟩ := bsome h
    refine EL_p (ePtr j6 j1 5) (P_indexAddrM (α := FaultDamage) Tryz.underlying41 Tryz.sizeOf39 o9 z2 k8 lB) rfl ?_
    refine EL_do .plain rfl (D_loadM (g := kB) Tryz.isAgg39 Tryz.sizeOf39 rfl z2 lB fun tE mB => ?_)
    refine EL_do .plain rfl (D_allocOc (g := kB) 2009 (⟨0, 0, 0, 0, false⟩ : FaultDamage) Tryz.zeroValue39 (fun m w => ⟨_, (rep_two rep_int (rep_two rep_int (rep_two rep_int (rep_two rep_int rep_bool)))), rfl⟩) fun uE yG vE hs b57 cb => ?_)
    have hfr := hfr.stp hs
    have z2 := z2.stp hs rfl
    have d3 := d3.stp hs
    have y6 := y6.stp hs rfl
    have a7 := a7.stp hs rfl
    have i3 := i3.stp hs rfl
    have mB := mB.stp hs
    clear cb
    refine EL_do .plain rfl (D_storeOc (g := uE) (v := tE) Tryz.sizeOf39 rfl b57 rfl mB fun u9 zG hs b58 cb => ?_)
    clear cb
    have hfr := hfr.stp hs
    have z2 := z2.stp hs rfl
    have d3 := d3.stp hs
    have y6 := y6.stp hs rfl
    have a7 := a7.stp hs rfl
    have i3 := i3.stp hs rfl
    refine EL_nil (thn_n (E_region (EL_mv nA rfl ?_)))
    refine EL_p (fPtr vE 0) (P_fieldAddr at_39_0 rfl (OB.ptr b58)) rfl ?_
    refine EL_do .plain rfl (D_loadF (g := u9) part_FaultDamage_0.1 Tryz.isAgg37 Tryz.sizeOf37 rfl b58 fun aH xE => ?_)
    obtain rfl := RV_int.1 xE
    refine EL_do .plain rfl (D_lookup (g := u9) (z0 := fv0) Tryz.underlying171 key_37 Tryz.zeroValue174 (fun _ _ => RV_fv.2 rfl) rfl i3 rfl fun bH yE => ?_)
    have zD := RV_fv.1 yE
    refine EL_do .plain rfl (D_load (g := u9) Tryz.isAgg86 Tryz.sizeOf86 d9 d3 fun v62 zE => ?_)
    refine EL_do .plain rfl (D_loadO (g := u9) Tryz.isAgg39 Tryz.sizeOf39 rfl b58 fun cH cF => ?_)
    refine EL_mv e9 rfl ?_
    refine EL_mv i9 rfl ?_
    obtain ⟨eB, aE, h⟩ := bsome h
    refine EL_do .plain rfl (D_chg (g := u9) (i := 9018) (j := 8019) aE (show _ = _ from zD) rfl rfl rfl rfl zE cF y6 a7 rfl rfl fun dH gH bE cG iH hs hs2 mr65 mb65 => ?_)
    have hfr := hfr.stp hs
    have z2 := z2.stp hs rfl
    have d3 := d3.stp hs
    have i3 := i3.stp hs rfl
    have hfr := hfr.stp hs2
    have z2 := z2.stp hs2 rfl
    have d3 := d3.stp hs2
    have i3 := i3.stp hs2 rfl
    refine EL_nil (blk_n ?_)
    obtain ⟨rfl, rfl⟩ := pairs2 h
    exact hQ _ _ ⟨bE, hfr, lC, z2, d9, d3, e9, mr65, i9, mb65, nA, i3, o9, t9, k8⟩
   ·clear hx
    obtain ⟨dF, hfr, mC, qC, rC, tC, uC, vC, xC, yC, aD, bD, nB, oB, tB⟩ := hR
    refine E_region (EL_in (.int .i64 ((w64 (j1 + (1 : Int))))) tB rfl rfl rfl ?_)
    refine EL_mw (.int .i64 ((w64 (j1 + (1 : Int))))) rfl rfl ?_
    exact EL_nil (thn_n (yD (o7, u7, (w64 (j1 + (1 : Int)))) _ _ ⟨dF, hfr, mC, qC, rC, tC, uC, vC, xC, yC, aD, bD, nB, oB, rfl⟩ h))
  ·refine E_cf kA rfl ?_
   refine E_exit ?_
   refine thn_e ?_
   refine thn_e ?_
   refine blk_hit ?_
   obtain ⟨rfl, rfl⟩ := pairs2 h
   exact hQ _ _ ⟨kB, hfr, d9, d3, e9, y6, i9, a7⟩
 ·clear hx
  obtain ⟨lD, hfr, oA, e8, cD, eD, gD, i7⟩ := hR
  refine E_seq (E_region (EL_p (fPtr p1 0) (P_fieldAddr at_86_0 oA (PT.ptr e8)) rfl ?_))
  have mD := PT_field (part_FaultFaultLoom_0).1 e8
  refine EL_p (fPtr (fPtr p1 0) 0) (P_fieldAddr at_31_0 rfl (PT.ptr mD)) rfl ?_
  have eF := PT_field (part_FaultLoom_0).1 mD
  refine EL_do .plain rfl (D_load (g := lD) Tryz.isAgg27 Tryz.sizeOf27 rfl eF fun iF vB => ?_)
  refine EL_p (fPtr p1 0) (P_fieldAddr at_86_0 oA (PT.ptr e8)) rfl ?_
  have nD := PT_field (part_FaultFaultLoom_0).1 e8
  refine EL_p (fPtr (fPtr p1 0) 2) (P_fieldAddr at_31_1 rfl (PT.ptr nD)) rfl ?_
  have oD := PT_field (part_FaultLoom_1).1 nD
  refine EL_p (fPtr (fPtr (fPtr p1 0) 2) 0) (P_fieldAddr at_29_0 rfl (PT.ptr oD)) rfl ?_
  have nF := PT_field (part_Design_0).1 oD
  refine EL_do .plain rfl (D_load (g := lD) Tryz.isAgg3 Tryz.sizeOf3 rfl nF fun jH oF => ?_)
  obtain rfl := RV_int.1 oF
  refine EL_mv cD rfl ?_
  obtain ⟨gp77, hs, rp77⟩ := OM.pub eD
  have hfr := hfr.stp hs
  have i7 := i7.stp hs rfl
  have vB := vB.stp hs
  have sD : RV gp77.m _ (⟨(((x0).FaultLoom).Design).Hooks, c8⟩ : Design) (.agg (setCh [[.int .i64 0], [.slice none 0 0]] [(0, .int .i64 ((((x0).FaultLoom).Design).Hooks)), (1, v7)]).flatten.toArray) := RV_build rfl (rep_pair (rfl) (rep_last (RV.cells rp77)))
  generalize cE : (Value.agg (setCh [[.int .i64 0], [.slice none 0 0]] [(0, .int .i64 ((((x0).FaultLoom).Design).Hooks)), (1, v7)]).flatten.toArray) = tD at sD
  refine EL_p tD (cE ▸ P_build (vs := [(0, .int .i64 ((((x0).FaultLoom).Design).Hooks)), (1, v7)]) [[.int .i64 0], [.slice none 0 0]] lay_29 rfl rfl (.cons rfl (.cons rfl .nil)) ⟨⟨_, rfl, rfl⟩, ⟨⟨_, rfl, cells_size rp77⟩, trivial⟩⟩) rfl ?_
  obtain ⟨x5, dE, h⟩ := bsome h
  refine EL_do .plain rfl (D_callG (g := gp77) (vs := [iF, tD]) en90 (.cons rfl (.cons rfl .nil)) (v90_0 (iO := 9051) vB sD dE) fun pF dG kH hs hr => ?_)
  have hfr := hfr.ext hs
  have i7 := i7.ext hs
  obtain ⟨u0, qF, rfl, hm78, rfl⟩ := hr
  refine EL_mw (.tuple #[u0, .int .i64 (x5.2)]) rfl rfl ?_
  refine EL_p u0 (P_extract rfl rfl) rfl ?_
  refine EL_p (.int .i64 (x5.2)) (P_extract rfl rfl) rfl ?_
  refine EL_at u0 rfl rfl ?_
  refine EL_nil (thn_n ?_)
  obtain ⟨i8, hx, h⟩ := bsome h
  refine E_join (fun e w => ∃ (g : Gh) , Fr gI wI g w ∧ e 4 = u0 ∧ OM 9051 g w 9 (i8 : List Str) u0) (fun Q' hQ => ?_) (fun rF eG hR => ?_)
  ·replace h := hx
   clear hx
   refine E_seq (E_region (EL_mw u0 rfl rfl ?_))
   refine EL_p (.int .i64 ((x5.1).length : Int)) (P_lenM Tryz.underlying88 rfl hm78) rfl ?_
   refine EL_mw (.int .i64 (0)) rfl rfl ?_
   refine EL_nil (thn_n (E_block ?_))
   refine E_lp h (fun (s : (List Str) × Int) e w => ∃ (g : Gh) , Fr gI wI g w ∧ e 4 = u0 ∧ OM 9051 g w 9 (s.1 : List Str) u0 ∧ e 6 = v9 ∧ MP (Value.int .i64) 8019 g w (t5 : List (Int × Bool)) v9 ∧ e 54 = u0 ∧ e 55 = .int .i64 (((x5.1).length : Int)) ∧ e 56 = .int .i64 (s.2)) ⟨pF, hfr, rfl, hm78, gD, i7, rfl, rfl, rfl⟩ (fun X124 iB iD => ?_)
   rintro ⟨o3, o0⟩ sF gG ⟨lA, hfr, y9, j3, z9, z3, m8, n8, b7⟩ h
   refine E_seq (E_region (EL_in (.bool ((decide (o0 < ((x5.1).length : Int))))) b7 n8 rfl rfl ?_))
   refine EL_nil (thn_n (E_seq ?_))
   rcases csome h with ⟨k9, h⟩ | ⟨k9, h⟩
   ·refine E_ct k9 rfl ?_
    refine E_skip (thn_n ?_)
    obtain ⟨e7, hx, h⟩ := bsome h
    refine E_join (fun e w => ∃ (g : Gh) , Fr gI wI g w ∧ e 4 = u0 ∧ OM 9051 g w 9 (e7 : List Str) u0 ∧ e 6 = v9 ∧ MP (Value.int .i64) 8019 g w (t5 : List (Int × Bool)) v9 ∧ e 54 = u0 ∧ e 55 = .int .i64 (((x5.1).length : Int)) ∧ e 56 = .int .i64 (o0)) (fun Q' hQ => ?_) (fun tF hG hR => ?_)
    ·replace h := hx
     clear hx
     refine E_block ?_
     refine E_seq (E_region (EL_mv b7 rfl ?_))
     obtain ⟨g8, pA, h⟩ := bsome h
     refine EL_p (ePtr u0 o0 1) (P_indexAddrM (α := Str) Tryz.underlying88 Tryz.sizeOf9 m8 j3 b7 pA) rfl ?_
     refine EL_do .plain rfl (D_loadM (g := lA) Tryz.isAgg9 Tryz.sizeOf9 rfl j3 pA fun iG eE => ?_)
     obtain rfl := RV_str.1 eE
     refine EL_at (.int .i64 (o0)) rfl rfl ?_
     refine EL_at (Str.v (g8)) rfl rfl ?_
     refine EL_nil (thn_n (E_seq (E_region (EL_mw (Str.v (g8)) rfl rfl ?_))))
     refine EL_do .plain rfl (D_convSB (g := lA) (s := g8) 9062 Tryz.underlying9 Tryz.underlying176 Tryz.underlying5 rfl fun gE jG m7 hs m149 => ?_)
     have hfr := hfr.stp hs
     have j3 := j3.stp hs rfl
     have z3 := z3.stp hs rfl
     refine EL_at m7 rfl rfl ?_
     refine EL_nil (thn_n ?_)
     obtain ⟨x6, hx, h⟩ := bsome h
     refine E_join (fun e w => ∃ (g : Gh) , Fr gI wI g w ∧ e 4 = u0 ∧ OM 9051 g w 9 (o3 : List Str) u0 ∧ e 6 = v9 ∧ MP (Value.int .i64) 8019 g w (t5 : List (Int × Bool)) v9 ∧ e 10 = .int .i64 (o0) ∧ e 12 = m7 ∧ OM 9062 g w 5 (x6 : List UInt8) m7 ∧ e 54 = u0 ∧ e 55 = .int .i64 (((x5.1).length : Int)) ∧ e 56 = .int .i64 (o0)) (fun Q' hQ => ?_) (fun uF kG hR => ?_)
     ·replace h := hx
      clear hx
      refine E_seq (E_region (EL_mv z9 rfl ?_))
      refine EL_do .plain rfl (D_rangeM (g := gE) 7564 Tryz.underlying166 rfl z3 fun iE lG xB hs b157 => ?_)
      have hfr := hfr.stp hs
      have j3 := j3.stp hs rfl
      have z3 := z3.stp hs rfl
      have m149 := m149.stp hs rfl
      refine EL_nil (thn_n (E_block ?_))
      refine E_lp h (fun (s : (List UInt8) × (List (Int × Bool))) e w => ∃ (g : Gh) , Fr gI wI g w ∧ e 4 = u0 ∧ OM 9051 g w 9 (o3 : List Str) u0 ∧ e 6 = v9 ∧ MP (Value.int .i64) 8019 g w (t5 : List (Int × Bool)) v9 ∧ e 10 = .int .i64 (o0) ∧ e 12 = m7 ∧ OM 9062 g w 5 (s.1 : List UInt8) m7 ∧ e 54 = u0 ∧ e 55 = .int .i64 (((x5.1).length : Int)) ∧ e 56 = .int .i64 (o0) ∧ e 64 = xB ∧ MI (Value.int .i64) 7564 8019 g w (s.2 : List (Int × Bool)) none xB) ⟨iE, hfr, y9, j3, z9, z3, rfl, rfl, m149, m8, n8, b7, rfl, b157.dropc⟩ (fun X158 jB jD => ?_)
      rintro ⟨u3, j7⟩ vF mG ⟨mA, hfr, bA, z4, gA, i5, o8, n7, l5, q8, r8, t8, c7, v8⟩ h
      refine E_seq (E_region ?_)
      rcases csome h with ⟨l9, h⟩ | ⟨l9, h⟩
      ·refine EL_do .plain rfl (D_nextM_f (g := mA) c7 v8 l9 ?_)
       refine EL_p (.bool false) (P_extract rfl rfl) rfl ?_
       refine EL_nil (thn_n (E_seq (E_cond_false (by rw [show ev _ _ = _ from rfl]; exact congrArg Value.bool rfl) ?_)))
       refine E_exit ?_
       refine thn_e ?_
       refine thn_e ?_
       refine blk_hit ?_
       obtain rfl := sinj h
       exact hQ _ _ ⟨mA, hfr, bA, z4, gA, i5, o8, n7, l5, q8, r8, t8⟩
      ·refine EL_do .plain rfl (D_nextM_t (g := mA) c7 v8 rfl l9 fun i6 rm160 u160 yB nG hmem hs b160 ru160 => ?_)
       replace h := pickAll_h h _ hmem
       clear hmem
       obtain rfl := RV_bool.1 ru160
       have hfr := hfr.stp hs
       have z4 := z4.stp hs rfl
       have i5 := i5.stp hs rfl
       have l5 := l5.stp hs rfl
       refine EL_p (.bool true) (P_extract rfl rfl) rfl ?_
       refine EL_nil (thn_n (E_seq (E_cond_true (by rw [show ev _ _ = _ from rfl]; exact congrArg Value.bool rfl) ?_)))
       refine E_skip (thn_n (E_block ?_))
       refine E_seq (E_region (EL_do .plain rfl (D_entry (g := yB) c7 b160 fun oG jE => ?_)))
       obtain rfl := RV_bool.1 jE
       refine EL_p (.int .i64 (i6.1)) (P_extract rfl rfl) rfl ?_
       refine EL_at (.int .i64 (i6.1)) rfl rfl ?_
       refine EL_nil (thn_n (E_region (EL_mv n7 rfl ?_)))
       refine EL_mw (.int .i64 (i6.1)) rfl rfl ?_
       obtain ⟨uD, qA, h⟩ := bsome h
       refine EL_p (ePtr m7 i6.1 1) (P_indexAddrM (α := UInt8) Tryz.underlying176 Tryz.sizeOf5 rfl l5 rfl qA) rfl ?_
       refine EL_do .plain rfl (D_storeM (g := yB) (α := UInt8) (a' := ((46 : UInt8))) Tryz.sizeOf5 rfl l5 qA rfl (RV_u8.2 rfl) fun kE pG hs b163 => ?_)
       have hfr := hfr.stp hs
       have z4 := z4.stp hs rfl
       have i5 := i5.stp hs rfl
       have b160 := b160.stp hs rfl
       exact EL_nil (blk_n (thn_n (jD ((List.set u3 (Int.toNat i6.1) ((46 : UInt8))), rm160) _ _ ⟨kE, hfr, bA, z4, gA, i5, o8, n7, b163, q8, r8, t8, c7, b160.dropc⟩ h)))
     ·clear hx
      obtain ⟨zB, hfr, iA, jA, aC, l8, sA, uA, xA, yA, zA, aB⟩ := hR
      refine E_region (EL_mv iA rfl ?_)
      refine EL_mv sA rfl ?_
      refine EL_mv uA rfl ?_
      refine EL_do .plain rfl (D_convBS (g := zB) Tryz.underlying176 Tryz.underlying9 Tryz.underlying5 rfl xA ?_)
      obtain ⟨y165, rA, h⟩ := bsome h
      refine EL_p (ePtr u0 o0 1) (P_indexAddrM (α := Str) Tryz.underlying88 Tryz.sizeOf9 rfl jA rfl rA) rfl ?_
      refine EL_do .plain rfl (D_storeM (g := zB) (α := Str) (a' := ((⟨x6⟩ : Str))) Tryz.sizeOf9 rfl jA rA rfl (RV_str.2 rfl) fun lE qG hs b166 => ?_)
      have hfr := hfr.stp hs
      have l8 := l8.stp hs rfl
      refine EL_nil (blk_n ?_)
      obtain rfl := sinj h
      exact hQ _ _ ⟨lE, hfr, iA, b166, aC, l8, yA, zA, aB⟩
    ·clear hx
     obtain ⟨mE, hfr, cC, dC, eC, iC, bB, cB, dB⟩ := hR
     refine E_region (EL_in (.int .i64 ((w64 (o0 + (1 : Int))))) dB rfl rfl rfl ?_)
     refine EL_mw (.int .i64 ((w64 (o0 + (1 : Int))))) rfl rfl ?_
     exact EL_nil (thn_n (iD (e7, (w64 (o0 + (1 : Int)))) _ _ ⟨mE, hfr, cC, dC, eC, iC, bB, cB, rfl⟩ h))
   ·refine E_cf k9 rfl ?_
    refine E_exit ?_
    refine thn_e ?_
    refine thn_e ?_
    refine blk_hit ?_
    obtain rfl := sinj h
    exact hQ _ _ ⟨lA, hfr, y9, j3⟩
  ·clear hx
   obtain ⟨rG, hfr, jC, kC⟩ := hR
   refine E_seq (E_region (EL_mv jC rfl ?_))
   refine EL_at u0 rfl rfl ?_
   refine EL_nil (thn_n (E_ret ?_))
   obtain ⟨gp169, hs, rp169⟩ := OM.pub kC
   have hfr := hfr.stp hs
   obtain rfl := sinj h
   exact end1 rfl rfl (show _ = u0 from rfl) ⟨_, hfr, rp169⟩
def f26 (x0 : FaultFaultLoom) (σ : Type) (cons : Cons σ (FaultDamage × (List Str))) (s0 : σ) : Option σ :=
 (f52 x0 ([])).bind fun y5 =>
 ((fun σ cons s => f53 x0 σ cons s) (Nat × σ) (guardC fun i5 j3 =>
  (f52 x0 (([j3] : List FaultDamage))).bind fun y44 =>
  Option.bind (α := σ × Bool) (
   (f54 y44 y5).bind fun y55 =>
   bif (!y55) then
    (cons i5 (j3, y44)).bind fun (yb59, ys59) =>
    some (ys59, (!yb59))
   else
    some (i5, false)
   ) fun (cs_61, s26_61) =>
  bif s26_61 then
   some (false, ((1 : Nat), (cs_61)))
  else
   some (true, ((0 : Nat), (cs_61)))
  ) (0, (s0))).bind fun (o3, l5) =>
 bif Nat.beq o3 0 then
  some l5
 else
  some l5
theorem en26 : Enters Tryz.prog 26 := enters_of Tryz.func26 (by kernel_rfl) rfl
theorem wk26 {σ : Type} {cons : Cons σ (FaultDamage × (List Str))} {s0 r : σ} {gI : Gh} {wI : World} {x0 : FaultFaultLoom} {up0 : Value} (rp0 : RV gI.m wI x0 up0) (h : f26 x0 σ cons s0 = some r) : IterC Tryz.prog (RA2 (α := FaultDamage) (β := (List Str))) 26 #[up0] #[] gI wI cons s0 r := by
 unfold f26 at h
 refine iterD_of_E Tryz.func26 rfl (Nat.le_of_ble_eq_true rfl) fun l B J g0 hm hAb hRo hfr => ?_
 have hmk : MkF g0 wI [] := MkF.start
 have rp0 : RV g0.m wI x0 up0 := hm ▸ rp0
 show E _ 27 none _ _ (envAt #[up0, .func (.yield l) #[] #[]]) _ _
 refine E_seq (E_region (EL_do .plain rfl (D_box (g := g0) rfl rp0 fun g1 w1 p1 hs q1 => ?_)))
 have hfr := hfr.ext_ hAb hs
 have hmk := hmk.ext hs
 refine EL_do .plain rfl (D_box (g := g1) (a := (⟨(.func (.yield l) #[] #[]), rfl⟩ : Fv)) rfl (RV_fv.2 rfl) fun g2 w2 p2 hs q2 => ?_)
 have hfr := hfr.ext_ hAb hs
 have hmk := hmk.ext hs
 have q1 := q1.ext hs
 refine EL_nil (thn_n (E_seq (E_region (EL_do .plain rfl (D_load (g := g2) Tryz.isAgg86 Tryz.sizeOf86 rfl q1 fun v3 r3 => ?_)))))
 obtain ⟨y5, hy5, h⟩ := bsome h
 refine EL_do .plain rfl (D_call (g := g2) (vs := [v3, .slice none 0 0]) en52 (.cons rfl (.cons rfl .nil)) (wk52 r3 RV_nil hy5) fun g4 w4_ v4 hs hr => ?_)
 have hfr := hfr.ext_ hAb hs
 have hmk := hmk.ext hs
 have q1 := q1.ext hs
 have q2 := q2.ext hs
 have r4 := hr
 refine EL_do .plain rfl (D_allocOc (g := g4) 2004 ([] : List Str) Tryz.zeroValue88 (fun m w => ⟨_, rep_nil, rfl⟩) fun g6 w6 p6 hs b6 cb => ?_)
 have hfr := hfr.stp_ hAb hs rfl
 have hmk := hmk.stp hs
 have q1 := q1.stp hs
 have q2 := q2.stp hs
 have r4 := r4.stp hs
 have y9 : OSF 2004 60400 0 g6 w6 9 88 ([] : List Str) p6 := cb.osf (by rfl)
 clear cb
 refine EL_do .plain rfl (D_storeOc (g := g6) (v := v4) Tryz.sizeOf88 rfl b6 rfl r4 fun g7 w7 hs b7 cb => ?_)
 clear cb
 have hfr := hfr.stp_ hAb hs rfl
 have hmk := hmk.stp hs
 have q1 := q1.stp hs
 have q2 := q2.stp hs
 refine EL_nil (thn_n (E_seq (E_region (EL_do .plain rfl (D_load (g := g7) Tryz.isAgg86 Tryz.sizeOf86 rfl q1 fun v8 r8 => ?_)))))
 refine EL_p ((.func (.func 53) #[v8] #[])) (P_makeFunc (capf_1_0 (show ev _ _ = v8 from rfl))) rfl ?_
 refine EL_nil (thn_n (E_block ?_))
 have hB0 := hfr.hB
 have hmk0 := hmk
 obtain ⟨⟨o3, l5⟩, hφ, h⟩ := bsome h
 refine E_rangeFunc (σ := (Nat × σ)) (s0 := (0, (s0))) 10 rfl (fun s => s.1) [.ret] (fun (s : Nat × σ) (g : Gh) (w : World) => FrY gI wI B J (s.2) g w ∧ MkF g w [] ∧ PT g.m w (x0 : FaultFaultLoom) p1 ∧ PT g.m w (⟨(.func (.yield l) #[] #[]), rfl⟩ : Fv) p2 ∧ OB 2004 g w 88 (y5 : List Str) p6) rfl (show ItV Tryz.prog (RA1 (α := FaultDamage)) (fun σ cons s => f53 x0 σ cons s) ((.func (.func 53) #[v8] #[])) g7.m w7 from ⟨53, #[v8], #[], rfl, en53, fun g' w' hch σ cons s s' h => wk53 (r8.ch hch)  h⟩) hφ (fun _ _ _ h => (guardC_h h).1) rfl ra1_size rfl (fun _ _ _ _ _ hx hR => by obtain ⟨hfr, hmk, z2, z3, z4⟩ := hR; exact ⟨hfr.ist_ hAb hx hB0, hmk.ist hx, z2.ist hx, z3.ist hx, z4.ist hx⟩) (fun _ _ _ _ _ hx hR => by obtain ⟨hfr, hmk, z2, z3, z4⟩ := hR; exact ⟨hfr.stp_ hAb hx rfl, hmk.stp hx, z2.stp hx, z3.stp hx, z4.stp hx rfl⟩) ⟨hfr, hmk, q1, q2, b7⟩ (fun _ h => by cases h) ?_ ?_
 ·intro o7 i7 s x b s2 a7 m7 vs hsz h hR hrec_0 c7 hrd
  obtain ⟨hs0, h⟩ := guardC_h h
  obtain ⟨st, i5⟩ := s
  obtain ⟨hfr, hmk, u0, j1, d3⟩ := hR
  obtain ⟨j3, hxe⟩ : ∃ y, y = x := ⟨x, rfl⟩
  subst hxe
  obtain ⟨j7, rfl, u3⟩ := ra1_get hrd
  have o0 := RFr.refl a7 m7
  refine E_region (EL_do .plain rfl (D_allocOc (g := a7) 2005 (⟨0, 0, 0, 0, false⟩ : FaultDamage) Tryz.zeroValue39 (fun m w => ⟨_, (rep_two rep_int (rep_two rep_int (rep_two rep_int (rep_two rep_int rep_bool)))), rfl⟩) fun e8 iA jA hs b37 cb => ?_))
  have hfr := hfr.stp_ hAb hs rfl
  have hmk := hmk.stp hs
  have o0 := o0.stp hs
  have hrec_0 := hrec_0.stp hs rfl
  have u0 := u0.stp hs
  have j1 := j1.stp hs
  have d3 := d3.stp hs rfl
  have u3 := u3.stp hs
  clear cb
  refine EL_do .plain rfl (D_storeOc (g := e8) (v := j7) Tryz.sizeOf39 rfl b37 rfl u3 fun d7 kA hs b38 cb => ?_)
  clear cb
  have hfr := hfr.stp_ hAb hs rfl
  have hmk := hmk.stp hs
  have o0 := o0.stp hs
  have hrec_0 := hrec_0.stp hs rfl
  have u0 := u0.stp hs
  have j1 := j1.stp hs
  have d3 := d3.stp hs rfl
  refine EL_nil (thn_n ?_)
  obtain ⟨g8, hbr, hs, hrN⟩ := begin_round hrec_0 c7
  refine ⟨g8, hbr, ?_⟩
  have hfr := hfr.stp_ hAb hs rfl
  have hmk := hmk.stp hs
  have o0 := o0.stp hs
  have u0 := u0.stp hs
  have j1 := j1.stp hs
  have d3 := d3.stp hs rfl
  have b38 := b38.stp hs rfl
  have hrec_0 := hrN
  clear hbr hs hrN
  refine E_block ?_
  refine E_seq (E_region (EL_do .plain rfl (D_load (g := d7) Tryz.isAgg86 Tryz.sizeOf86 rfl u0 fun i8 e7 => ?_)))
  refine EL_do .plain rfl (D_loadO (g := d7) Tryz.isAgg39 Tryz.sizeOf39 rfl b38 fun k8 l8 => ?_)
  refine EL_do .plain rfl (D_buildSlice (g := d7) 3014 (xs := ([j3] : List FaultDamage)) (vs := [k8]) Tryz.underlying41 Tryz.sizeOf39 Tryz.zeroValue39 rfl rfl (.cons rfl .nil) (RVs.cons l8 RVs.nil) rfl rfl fun m8 lA n8 hs o42 o8 hxt hfl => ?_)
  have hfr := hfr.stp_ hAb hs rfl
  have hmk := hmk.stp hs
  have o0 := o0.stp hs
  have hrec_0 := hrec_0.stp hs rfl
  have u0 := u0.stp hs
  have j1 := j1.stp hs
  have d3 := d3.stp hs rfl
  have b38 := b38.stp hs rfl
  have e7 := e7.stp hs
  obtain ⟨y44, u7, h⟩ := bsome h
  refine EL_do .plain rfl (D_call (g := m8) (vs := [i8, n8]) en52 (.cons rfl (.cons rfl .nil)) (wk52 e7 o8 u7) fun n7 z9 x5 hs hr => ?_)
  have hfr := hfr.ext_ hAb hs
  have hmk := hmk.ext hs
  have o0 := o0.ext hs
  have hrec_0 := hrec_0.ext hs
  have u0 := u0.ext hs
  have j1 := j1.ext hs
  have d3 := d3.ext hs
  have b38 := b38.ext hs
  have i6 := hr
  refine EL_at x5 rfl rfl ?_
  refine EL_nil (thn_n ?_)
  obtain ⟨⟨cs_61, s26_61⟩, hx, h⟩ := bsome h
  refine E_join (fun e w => ∃ (g : Gh) , FrY gI wI B J (cs_61) g w ∧ MkF g w [] ∧ RFr a7 m7 g w ∧ HB 10 g w o7 (.loop { i7 with state := .busy }) ∧ e 2 = p1 ∧ PT g.m w (x0 : FaultFaultLoom) p1 ∧ e 3 = p2 ∧ PT g.m w (⟨(.func (.yield l) #[] #[]), rfl⟩ : Fv) p2 ∧ e 4 = p6 ∧ OB 2004 g w 88 (y5 : List Str) p6 ∧ e 10 = (.func (.func 53) #[v8] #[]) ∧ e 26 = .bool (s26_61)) (fun Q' hQ => ?_) (fun bA mA hR => ?_)
  ·replace h := hx
   clear hx
   refine E_region (EL_mw x5 rfl rfl ?_)
   refine EL_do .plain rfl (D_loadO (g := n7) Tryz.isAgg88 Tryz.sizeOf88 rfl d3 fun q8 t8 => ?_)
   obtain ⟨y55, v7, h⟩ := bsome h
   refine EL_do .plain rfl (D_call (g := n7) (vs := [x5, q8]) en54 (.cons rfl (.cons rfl .nil)) (wk54 i6 t8 v7) fun j6 gA nA hs hr => ?_)
   have hfr := hfr.ext_ hAb hs
   have hmk := hmk.ext hs
   have o0 := o0.ext hs
   have hrec_0 := hrec_0.ext hs
   have u0 := u0.ext hs
   have j1 := j1.ext hs
   have d3 := d3.ext hs
   have b38 := b38.ext hs
   have i6 := i6.ext hs
   subst hr
   refine EL_p (.bool (!y55)) (P_not rfl) rfl ?_
   refine EL_mw (.bool (!y55)) rfl rfl ?_
   rcases csome h with ⟨i3, h⟩ | ⟨i3, h⟩
   ·refine EL_do (.yes2 rfl rfl i3) rfl (D_load (α := Fv) (g := j6) Tryz.isAgg137 Tryz.sizeOf137 rfl j1 fun oA x8 => ?_)
    obtain rfl := RV_fv.1 x8
    refine EL_do (.yes2 rfl rfl i3) rfl (D_loadO (g := j6) Tryz.isAgg39 Tryz.sizeOf39 rfl b38 fun pA y8 => ?_)
    refine EL_y x5 (P_move rfl) rfl rfl i3 rfl ?_
    obtain ⟨a9, c8, h⟩ := bsome h
    obtain ⟨yb59, ys59⟩ := a9
    refine EL_do (.yes2 rfl rfl i3) rfl (D_yield (g := j6) (x := (j3, y44)) rfl (.cons rfl (.cons rfl .nil)) hRo hfr c8 ⟨_, _, rfl, y8, i6⟩ fun d9 qA hs hfrY => ?_)
    have hmk := hmk.stp hs
    have o0 := o0.stp hs
    have hrec_0 := hrec_0.stp hs rfl
    have u0 := u0.stp hs
    have j1 := j1.stp hs
    have d3 := d3.stp hs rfl
    have hfr := hfrY
    clear hfrY
    refine EL_y (.bool (!yb59)) (P_not rfl) rfl rfl i3 rfl ?_
    refine EL_p (.bool (!yb59)) (P_pick (b := (!y55)) rfl (pick_t i3 rfl)) rfl ?_
    refine EL_nil ?_
    obtain ⟨rfl, rfl⟩ := pairs2 h
    exact hQ _ _ ⟨d9, hfr, hmk, o0, hrec_0, rfl, u0, rfl, j1, rfl, d3, rfl, rfl⟩
   ·refine EL_s rfl rfl i3 rfl rfl ?_
    iterate 4 refine EL_s rfl rfl i3 rfl rfl ?_
    refine EL_p (.bool false) (P_pick (b := (!y55)) rfl (pick_f i3 rfl)) rfl ?_
    refine EL_nil ?_
    obtain ⟨rfl, rfl⟩ := pairs2 h
    exact hQ _ _ ⟨j6, hfr, hmk, o0, hrec_0, rfl, u0, rfl, j1, rfl, d3, rfl, rfl⟩
  ·clear hx
   obtain ⟨rA, hfr, hmk, o0, hrec_0, i9, v6, k9, x6, l9, y6, e9, q5⟩ := hR
   rcases csome h with ⟨t5, h⟩ | ⟨t5, h⟩
   ·refine E_cond_true (Eq.trans (show ev _ _ = .bool (s26_61) from q5) (congrArg Value.bool t5)) ?_
    refine E_ret (blk_r ?_)
    obtain ⟨rfl, rfl⟩ := pairs2 h
    exact ⟨_, o0, ⟨hfr, hmk, v6, x6, y6⟩, hrec_0, rfl, 0, rfl, rfl⟩
   ·refine E_cond_false (Eq.trans (show ev _ _ = .bool (s26_61) from q5) (congrArg Value.bool t5)) ?_
    refine E_skip (blk_n ?_)
    obtain ⟨rfl, rfl⟩ := pairs2 h
    exact ⟨_, o0, ⟨hfr, hmk, v6, x6, y6⟩, hrec_0, rfl, rfl⟩
 ·intro sA uA ds65 hsz hR hds
  obtain ⟨hfr, hmk, n9, o9, t9⟩ := hR
  obtain ⟨D, hdse, hD, hDb⟩ := hds.1 rfl
  subst hdse
  replace hmk := MkF.push hmk0 hmk hD hDb
  clear hD hDb hds
  revert hmk
  generalize ({ target := .collected D, args := #[] } :: [] : List Deferred) = u9
  intro hmk
  refine ⟨fun hs => ?_, fun k c hs hc => ?_⟩
  ·have hs : o3 = 0 := hs
   subst hs
   replace h := cond_t h rfl
   refine blk_n (endM (.inl rfl) hmk fun xA yA hs => ?_)
   have hfr := hfr.stp_ hAb hs rfl
   obtain rfl := sinj h
   exact end0n rfl rfl (FrY.done hfr)
  ·have hs : o3 = k + 1 := hs
   match k, hs, hc with
   | 0, hs, hc =>
    subst hs
    obtain rfl := sinj hc
    replace h := cond_f h rfl
    refine E_ret (blk_r ?_)
    refine endM (.inr rfl) hmk fun zA aB hs => ?_
    have hfr := hfr.stp_ hAb hs rfl
    obtain rfl := sinj h
    exact end0 rfl rfl (FrY.done hfr)
   | n + 1, _, hc => exact absurd hc (by simp)
def f28 (x0 : FaultLoom) (x1 : List FaultDamage) (x2 : Int) : Option ((List Str) × Int) :=
 jn (σ := (List Str)) (fun i6 =>
  (f52 ((⟨x0⟩ : FaultFaultLoom)) x1).bind fun o3 =>
  Option.bind (α := (List Str)) (
   lp (σ := (List Str) × Int) (fun t8 (z3, o0) =>
    bif (decide (o0 < x2)) then
     Option.bind (α := (List Str)) (
      (rem64 o0 ((o3).length : Int)).bind fun y44 =>
      (idx o3 y44).bind fun j6 =>
      (apnd 16 z3 (([j6] : List Str))).bind fun x8 =>
      some (x8)
      ) fun j1 =>
     t8 (j1, (w64 (o0 + (1 : Int))))
    else
     some (z3)
    ) big (i6, (0 : Int))
   ) fun z2 =>
  some (z2, (0 : Int))
  ) fun k6 =>
 (f55 x0 x1 x2).bind fun y9 =>
 bif (y9 != (0 : Int)) then
  some ([], y9)
 else
  k6 ([])
theorem en28 : Enters Tryz.prog 28 := enters_of Tryz.func28 (by kernel_rfl) rfl
theorem wk28 {gI : Gh} {wI : World} {x0 : FaultLoom} {x1 : List FaultDamage} {x2 : Int} {up0 : Value} (rp0 : RV gI.m wI x0 up0) {up1 : Value} (rp1 : RV gI.m wI x1 up1) {r : (List Str) × Int} (h : f28 x0 x1 x2 = some r) : Fn Tryz.prog 28 #[up0, up1, .int .i64 (x2)] gI wI (fun m w v => ∃ y0 y1, v = .tuple #[y0, y1] ∧ RV m w (r.1) y0 ∧ y1 = .int .i64 (r.2)) := by
 unfold f28 at h
 refine fn_of_E Tryz.func28 rfl (Nat.le_of_ble_eq_true rfl) fun g0 hm hfr => ?_
 have rp0 : RV g0.m wI x0 up0 := hm ▸ rp0
 have rp1 : RV g0.m wI x1 up1 := hm ▸ rp1
 show E _ 38 none _ _ _ _ _
 refine E_seq (E_region (EL_do .plain rfl (D_box (g := g0) rfl rp0 fun g1 w1 p1 hs q1 => ?_)))
 have hfr := hfr.ext hs
 have rp1 := rp1.ext hs
 refine EL_at (.slice none 0 0) rfl rfl ?_
 refine EL_at (.int .i64 (0)) rfl rfl ?_
 refine EL_nil (thn_n (E_joinC h (fun (s : (List Str)) e w => ∃ (g : Gh) (v6 : Value), Fr gI wI g w ∧ e 1 = up1 ∧ RV g.m w (x1 : List FaultDamage) up1 ∧ e 2 = .int .i64 (x2) ∧ e 3 = p1 ∧ PT g.m w (x0 : FaultLoom) p1 ∧ e 6 = v6 ∧ RV g.m w (s : List Str) v6 ∧ OS 1006 g w 9 (s : List Str) v6) (fun X6 k6 hk6 h => ?_) ?_))
 ·refine E_seq (E_region (EL_do .plain rfl (D_load (g := g1) Tryz.isAgg31 Tryz.sizeOf31 rfl q1 fun v7 r7 => ?_)))
  refine EL_mw up1 rfl rfl ?_
  refine EL_mw (.int .i64 (x2)) rfl rfl ?_
  obtain ⟨y9, t9, h⟩ := bsome h
  refine EL_do .plain rfl (D_call (g := g1) (vs := [v7, up1, .int .i64 (x2)]) en55 (.cons rfl (.cons rfl (.cons rfl .nil))) (wk55 r7 rp1 t9) fun g8 w8_ v8 hs hr => ?_)
  have hfr := hfr.ext hs
  have rp1 := rp1.ext hs
  have q1 := q1.ext hs
  subst hr
  refine EL_at (.int .i64 (y9)) rfl rfl ?_
  refine EL_nil (thn_n (E_seq (E_region (EL_mw (.int .i64 (y9)) rfl rfl ?_))))
  refine EL_in (.bool ((y9 != (0 : Int)))) rfl rfl rfl rfl ?_
  refine EL_nil (thn_n ?_)
  rcases csome h with ⟨t5, h⟩ | ⟨t5, h⟩
  ·refine E_ct t5 rfl ?_
   refine E_seq (E_region (EL_mw (.int .i64 (y9)) rfl rfl ?_))
   refine EL_at (.slice none 0 0) rfl rfl ?_
   refine EL_at (.int .i64 (y9)) rfl rfl ?_
   refine EL_nil (thn_n (E_ret (thn_r ?_)))
   obtain rfl := sinj h
   exact end2 rfl rfl (show _ = .slice none 0 0 from rfl) (show _ = .int .i64 (y9) from rfl) ⟨_, hfr, _, _, rfl, RV_nil, rfl⟩
  ·refine E_cf t5 rfl ?_
   exact E_skip (thn_n (hk6 ([]) _ _ ⟨g8, (.slice none 0 0), hfr, rfl, rp1, rfl, rfl, q1, rfl, RV_nil, OS.nil⟩ h))
 ·rintro i6 oA uA ⟨a7, i7, hfr, j7, m7, n7, o7, u7, c8, z4, i5⟩ h
  refine E_seq (E_region (EL_do .plain rfl (D_load (g := a7) Tryz.isAgg31 Tryz.sizeOf31 o7 u7 fun b7 y8 => ?_)))
  have a9 : RV a7.m _ (⟨x0⟩ : FaultFaultLoom) (.agg (setCh [[.int .i64 0, .slice none 0 0, .int .i64 0, .slice none 0 0]] [(0, b7)]).flatten.toArray) := RV_build rfl (rep_last (RV.cells y8))
  generalize i9 : (Value.agg (setCh [[.int .i64 0, .slice none 0 0, .int .i64 0, .slice none 0 0]] [(0, b7)]).flatten.toArray) = d9 at a9
  refine EL_p d9 (i9 ▸ P_build (vs := [(0, b7)]) [[.int .i64 0, .slice none 0 0, .int .i64 0, .slice none 0 0]] lay_86 rfl rfl (.cons rfl .nil) ⟨⟨_, rfl, cells_size y8⟩, trivial⟩) rfl ?_
  refine EL_mv j7 rfl ?_
  obtain ⟨o3, k9, h⟩ := bsome h
  refine EL_do .plain rfl (D_call (g := a7) (vs := [d9, up1]) en52 (.cons rfl (.cons rfl .nil)) (wk52 a9 m7 k9) fun u9 pA u3 hs hr => ?_)
  have hfr := hfr.ext hs
  have z4 := z4.ext hs
  have i5 := i5.ext hs
  have z9 := hr
  refine EL_at u3 rfl rfl ?_
  refine EL_nil (thn_n ?_)
  obtain ⟨z2, hx, h⟩ := bsome h
  refine E_join (fun e w => ∃ (g : Gh) (v6 : Value), Fr gI wI g w ∧ e 6 = v6 ∧ RV g.m w (z2 : List Str) v6 ∧ OS 1006 g w 9 (z2 : List Str) v6) (fun Q' hQ => ?_) (fun qA xA hR => ?_)
  ·replace h := hx
   clear hx
   refine E_seq (E_region (EL_mv n7 rfl ?_))
   refine EL_mw (.int .i64 (0)) rfl rfl ?_
   refine EL_nil (thn_n (E_block ?_))
   refine E_lp h (fun (s : (List Str) × Int) e w => ∃ (g : Gh) (v6 : Value), Fr gI wI g w ∧ e 6 = v6 ∧ RV g.m w (s.1 : List Str) v6 ∧ OS 1006 g w 9 (s.1 : List Str) v6 ∧ e 9 = u3 ∧ RV g.m w (o3 : List Str) u3 ∧ e 22 = .int .i64 (x2) ∧ e 23 = .int .i64 (s.2)) ⟨u9, (i7), hfr, c8, z4, i5, rfl, z9, rfl, rfl⟩ (fun X34 t8 l9 => ?_)
   rintro ⟨z3, o0⟩ rA yA ⟨c7, e8, hfr, x6, d3, i3, l5, u0, q5, j3⟩ h
   refine E_seq (E_region (EL_in (.bool ((decide (o0 < x2)))) j3 q5 rfl rfl ?_))
   refine EL_nil (thn_n (E_seq ?_))
   rcases csome h with ⟨x5, h⟩ | ⟨x5, h⟩
   ·refine E_ct x5 rfl ?_
    refine E_skip (thn_n ?_)
    obtain ⟨j1, hx, h⟩ := bsome h
    refine E_join (fun e w => ∃ (g : Gh) (v6 : Value), Fr gI wI g w ∧ e 6 = v6 ∧ RV g.m w (j1 : List Str) v6 ∧ OS 1006 g w 9 (j1 : List Str) v6 ∧ e 9 = u3 ∧ RV g.m w (o3 : List Str) u3 ∧ e 22 = .int .i64 (x2) ∧ e 23 = .int .i64 (o0)) (fun Q' hQ => ?_) (fun sA zA hR => ?_)
    ·replace h := hx
     clear hx
     refine E_block ?_
     refine E_seq (E_region (EL_mv j3 rfl ?_))
     refine EL_at (.int .i64 (o0)) rfl rfl ?_
     refine EL_nil (thn_n (E_region (EL_mv x6 rfl ?_)))
     refine EL_mv l5 rfl ?_
     refine EL_mw (.int .i64 (o0)) rfl rfl ?_
     refine EL_mv l5 rfl ?_
     refine EL_p (.int .i64 ((o3).length : Int)) (P_len Tryz.underlying88 rfl u0) rfl ?_
     obtain ⟨y44, n9, h⟩ := bsome h
     refine EL_p (.int .i64 (y44)) (P_int rfl rfl (congrArg (Option.map (Value.int .i64)) n9)) rfl ?_
     obtain ⟨j6, d7, h⟩ := bsome h
     refine EL_p (ePtr u3 y44 1) (P_indexAddr (α := Str) Tryz.underlying88 Tryz.sizeOf9 rfl u0 rfl d7) rfl ?_
     have bA := PT_idx u0 d7
     refine EL_do .plain rfl (D_load (g := c7) Tryz.isAgg9 Tryz.sizeOf9 rfl bA fun aB gA => ?_)
     obtain rfl := RV_str.1 gA
     refine EL_do .plain rfl (D_buildSlice (g := c7) 3034 (xs := ([j6] : List Str)) (vs := [Str.v (j6)]) Tryz.underlying88 Tryz.sizeOf9 Tryz.zeroValue9 rfl rfl (.cons rfl .nil) (RVs.cons (RV_str.2 rfl) RVs.nil) rfl rfl fun iA bB cB hs o48 jA hxt hfl => ?_)
     have hfr := hfr.stp hs
     have d3 := d3.stp hs
     have i3 := i3.stp hs rfl
     have u0 := u0.stp hs
     obtain ⟨x8, o9, h⟩ := bsome h
     refine EL_do .plain rfl (D_append (g := iA) (i := 1006) Tryz.underlying88 info_9 rfl rfl i3 d3 rfl jA o9 fun kA dB e9 hs o49 lA _ => ?_)
     have hfr := hfr.stp hs
     have u0 := u0.stp hs
     refine EL_at e9 rfl rfl ?_
     refine EL_nil (blk_n ?_)
     obtain rfl := sinj h
     exact hQ _ _ ⟨kA, (e9), hfr, rfl, lA, o49, l5, u0, q5, j3⟩
    ·clear hx
     obtain ⟨mA, i8, hfr, k8, l8, m8, n8, o8, e7, g7⟩ := hR
     refine E_region (EL_in (.int .i64 ((w64 (o0 + (1 : Int))))) g7 rfl rfl rfl ?_)
     refine EL_mw (.int .i64 ((w64 (o0 + (1 : Int))))) rfl rfl ?_
     exact EL_nil (thn_n (l9 (j1, (w64 (o0 + (1 : Int)))) _ _ ⟨mA, (i8), hfr, k8, l8, m8, n8, o8, e7, rfl⟩ h))
   ·refine E_cf x5 rfl ?_
    refine E_exit ?_
    refine thn_e ?_
    refine thn_e ?_
    refine blk_hit ?_
    obtain rfl := sinj h
    exact hQ _ _ ⟨c7, (e8), hfr, x6, d3, i3⟩
  ·clear hx
   obtain ⟨eB, y6, hfr, q8, r8, nA⟩ := hR
   refine E_seq (E_region (EL_mv q8 rfl ?_))
   refine EL_at y6 rfl rfl ?_
   refine EL_at (.int .i64 (0)) rfl rfl ?_
   refine EL_nil (thn_n (E_ret ?_))
   obtain rfl := sinj h
   exact end2 rfl rfl (show _ = y6 from rfl) (show _ = .int .i64 (0) from rfl) ⟨_, hfr, _, _, rfl, r8, rfl⟩
def f35 (x0 : FaultLoom) (x1 : FaultDamage) (x2 : FaultDamage) : Option (Int × Int × Int) :=
 jn (σ := Int × Int × Int) (fun (d7, e7, g7) =>
  jn (σ := Int × Int × Int) (fun (t8, v8, x8) =>
   some ((0 : Int), (0 : Int), (7 : Int))
   ) fun qA =>
  (f52 ((⟨x0⟩ : FaultFaultLoom)) (([x1] : List FaultDamage))).bind fun c7 =>
  (f52 ((⟨x0⟩ : FaultFaultLoom)) (([x2] : List FaultDamage))).bind fun y98 =>
  (f29 c7 y98).bind fun x6 =>
  (x6 (Nat × Int × Int × Int) (guardC fun (y8, a9, d9) (d3, i3) =>
   some (false, ((1 : Nat), (d3, i3, (0 : Int))))
   ) (0, (d7, e7, g7))).bind fun (l5, (q5, t5, x5)) =>
  bif Nat.beq l5 0 then
   qA (q5, t5, x5)
  else
   some (q5, t5, x5)
  ) fun rA =>
 (f59 x0 (([x1, x2] : List FaultDamage))).bind fun y6 =>
 bif (y6 != (0 : Int)) then
  some ((0 : Int), (0 : Int), y6)
 else
  rA ((0 : Int), (0 : Int), (0 : Int))
theorem en35 : Enters Tryz.prog 35 := enters_of Tryz.func35 (by kernel_rfl) rfl
theorem wk35 {gI : Gh} {wI : World} {x0 : FaultLoom} {x1 : FaultDamage} {x2 : FaultDamage} {up0 : Value} (rp0 : RV gI.m wI x0 up0) {up1 : Value} (rp1 : RV gI.m wI x1 up1) {up2 : Value} (rp2 : RV gI.m wI x2 up2) {r : Int × Int × Int} (h : f35 x0 x1 x2 = some r) : Fn Tryz.prog 35 #[up0, up1, up2] gI wI (fun m w v => ∃ y0 y1 y2, v = .tuple #[y0, y1, y2] ∧ y0 = .int .i64 (r.1) ∧ y1 = .int .i64 (r.2.1) ∧ y2 = .int .i64 (r.2.2)) := by
 unfold f35 at h
 refine fnD_of_E Tryz.func35 rfl (Nat.le_of_ble_eq_true rfl) fun g0 hm hfr => ?_
 have hmk : MkF g0 wI [] := MkF.start
 have rp0 : RV g0.m wI x0 up0 := hm ▸ rp0
 have rp1 : RV g0.m wI x1 up1 := hm ▸ rp1
 have rp2 : RV g0.m wI x2 up2 := hm ▸ rp2
 show E _ 35 none _ _ _ _ _
 refine E_seq (E_region (EL_do .plain rfl (D_box (g := g0) rfl rp0 fun g1 w1 p1 hs q1 => ?_)))
 have hfr := hfr.ext hs
 have hmk := hmk.ext hs
 have rp1 := rp1.ext hs
 have rp2 := rp2.ext hs
 refine EL_do .plain rfl (D_box (g := g1) rfl rp1 fun g2 w2 p2 hs q2 => ?_)
 have hfr := hfr.ext hs
 have hmk := hmk.ext hs
 have rp2 := rp2.ext hs
 have q1 := q1.ext hs
 refine EL_do .plain rfl (D_box (g := g2) rfl rp2 fun g3 w3 p3 hs q3 => ?_)
 have hfr := hfr.ext hs
 have hmk := hmk.ext hs
 have q1 := q1.ext hs
 have q2 := q2.ext hs
 refine EL_do .plain rfl (D_allocOc (g := g3) 2006 (0 : Int) Tryz.zeroValue3 (fun m w => ⟨_, rep_int, rfl⟩) fun g4 w4 p4 hs b4 cb => ?_)
 have hfr := hfr.stp hs
 have hmk := hmk.stp hs
 have q1 := q1.stp hs
 have q2 := q2.stp hs
 have q3 := q3.stp hs
 clear cb
 refine EL_do .plain rfl (D_allocOc (g := g4) 2007 (0 : Int) Tryz.zeroValue3 (fun m w => ⟨_, rep_int, rfl⟩) fun g5 w5 p5 hs b5 cb => ?_)
 have hfr := hfr.stp hs
 have hmk := hmk.stp hs
 have q1 := q1.stp hs
 have q2 := q2.stp hs
 have q3 := q3.stp hs
 have b4 := b4.stp hs rfl
 clear cb
 refine EL_do .plain rfl (D_allocOc (g := g5) 2008 (0 : Int) Tryz.zeroValue42 (fun m w => ⟨_, rep_int, rfl⟩) fun g6 w6 p6 hs b6 cb => ?_)
 have hfr := hfr.stp hs
 have hmk := hmk.stp hs
 have q1 := q1.stp hs
 have q2 := q2.stp hs
 have q3 := q3.stp hs
 have b4 := b4.stp hs rfl
 have b5 := b5.stp hs rfl
 clear cb
 refine EL_nil (thn_n (E_joinCD h (fun (s : Int × Int × Int) e ds w => ∃ (g : Gh) , Fr gI wI g w ∧ MkF g w ds ∧ e 3 = p1 ∧ PT g.m w (x0 : FaultLoom) p1 ∧ e 4 = p2 ∧ PT g.m w (x1 : FaultDamage) p2 ∧ e 5 = p3 ∧ PT g.m w (x2 : FaultDamage) p3 ∧ e 6 = p4 ∧ OB 2006 g w 3 (s.1 : Int) p4 ∧ e 7 = p5 ∧ OB 2007 g w 3 (s.2.1 : Int) p5 ∧ e 8 = p6 ∧ OB 2008 g w 42 (s.2.2 : Int) p6) (fun X21 rA iB h => ?_) ?_))
 ·refine E_seq (E_region (EL_do .plain rfl (D_load (g := g6) Tryz.isAgg31 Tryz.sizeOf31 rfl q1 fun tC e9 => ?_)))
  refine EL_do .plain rfl (D_load (g := g6) Tryz.isAgg39 Tryz.sizeOf39 rfl q2 fun uC vC => ?_)
  refine EL_do .plain rfl (D_load (g := g6) Tryz.isAgg39 Tryz.sizeOf39 rfl q3 fun xC yC => ?_)
  refine EL_do .plain rfl (D_buildSlice (g := g6) 3015 (xs := ([x1, x2] : List FaultDamage)) (vs := [uC, xC]) Tryz.underlying41 Tryz.sizeOf39 Tryz.zeroValue39 rfl rfl (.cons rfl (.cons rfl .nil)) (RVs.cons vC (RVs.cons yC RVs.nil)) rfl rfl fun aD tE bD hs o25 cD hxt hfl => ?_)
  have hfr := hfr.stp hs
  have hmk := hmk.stp hs
  have q1 := q1.stp hs
  have q2 := q2.stp hs
  have q3 := q3.stp hs
  have b4 := b4.stp hs rfl
  have b5 := b5.stp hs rfl
  have b6 := b6.stp hs rfl
  have e9 := e9.stp hs
  obtain ⟨y6, jB, h⟩ := bsome h
  refine EL_do .plain rfl (D_call (g := aD) (vs := [tC, bD]) en59 (.cons rfl (.cons rfl .nil)) (wk59 e9 cD jB) fun sA sD uE hs hr => ?_)
  have hfr := hfr.ext hs
  have hmk := hmk.ext hs
  have q1 := q1.ext hs
  have q2 := q2.ext hs
  have q3 := q3.ext hs
  have b4 := b4.ext hs
  have b5 := b5.ext hs
  have b6 := b6.ext hs
  subst hr
  refine EL_at (.int .i64 (y6)) rfl rfl ?_
  refine EL_nil (thn_n (E_seq (E_region (EL_mw (.int .i64 (y6)) rfl rfl ?_))))
  refine EL_in (.bool ((y6 != (0 : Int)))) rfl rfl rfl rfl ?_
  refine EL_nil (thn_n ?_)
  rcases csome h with ⟨g8, h⟩ | ⟨g8, h⟩
  ·refine E_ct g8 rfl ?_
   refine E_seq (E_region (EL_mw (.int .i64 (y6)) rfl rfl ?_))
   refine EL_do .plain rfl (D_storeOc (g := sA) (v := .int .i64 (0)) Tryz.sizeOf3 rfl b4 rfl (RV_int.2 rfl) fun eD vE hs b29 cb => ?_)
   clear cb
   have hfr := hfr.stp hs
   have hmk := hmk.stp hs
   have b5 := b5.stp hs rfl
   have b6 := b6.stp hs rfl
   refine EL_do .plain rfl (D_storeOc (g := eD) (v := .int .i64 (0)) Tryz.sizeOf3 rfl b5 rfl (RV_int.2 rfl) fun gD xE hs b30 cb => ?_)
   clear cb
   have hfr := hfr.stp hs
   have hmk := hmk.stp hs
   have b29 := b29.stp hs rfl
   have b6 := b6.stp hs rfl
   refine EL_do .plain rfl (D_storeOc (g := gD) (v := .int .i64 (y6)) Tryz.sizeOf42 rfl b6 rfl (RV_int.2 rfl) fun yE zE hs b31 cb => ?_)
   clear cb
   have hfr := hfr.stp hs
   have hmk := hmk.stp hs
   have b29 := b29.stp hs rfl
   have b30 := b30.stp hs rfl
   refine EL_nil (thn_n (E_ret (thn_r ?_)))
   refine endM (.inr rfl) hmk fun cF dF hs => ?_
   have hfr := hfr.stp hs
   have b29 := b29.stp hs rfl
   have b30 := b30.stp hs rfl
   have b31 := b31.stp hs rfl
   obtain rfl := sinj h
   obtain ⟨ad33, cv33, hp33, kB, cr33⟩ := ob_read Tryz.isAgg3 Tryz.sizeOf3 b29
   obtain rfl := RV_int.1 cr33
   obtain ⟨ad34, cv34, hp34, lB, cr34⟩ := ob_read Tryz.isAgg3 Tryz.sizeOf3 b30
   obtain rfl := RV_int.1 cr34
   obtain ⟨ad35, cv35, hp35, mB, cr35⟩ := ob_read Tryz.isAgg42 Tryz.sizeOf42 b31
   obtain rfl := RV_int.1 cr35
   exact endm_ccc rfl rfl ((show _ = p4 from rfl).trans hp33) kB ((show _ = p5 from rfl).trans hp34) lB ((show _ = p6 from rfl).trans hp35) mB ⟨_, hfr, _, _, _, rfl, rfl, rfl, rfl⟩
  ·refine E_cf g8 rfl ?_
   exact E_skip (thn_n (iB ((0 : Int), (0 : Int), (0 : Int)) _ _ _ ⟨sA, hfr, hmk, rfl, q1, rfl, q2, rfl, q3, rfl, b4, rfl, b5, rfl, b6⟩ h))
 ·rintro ⟨d7, e7, g7⟩ tD i8 eF ⟨i9, hfr, hmk, k8, l8, z9, bA, gA, iA, i7, j7, m7, n7, o7, u7⟩ h
  refine E_joinCD h (fun (s : Int × Int × Int) e ds w => ∃ (g : Gh) , Fr gI wI g w ∧ MkF g w ds ∧ e 6 = p4 ∧ OB 2006 g w 3 (s.1 : Int) p4 ∧ e 7 = p5 ∧ OB 2007 g w 3 (s.2.1 : Int) p5 ∧ e 8 = p6 ∧ OB 2008 g w 42 (s.2.2 : Int) p6) (fun X86 qA nB h => ?_) ?_
  ·refine E_seq (L_load (x := .tmp 3) Tryz.isAgg31 Tryz.sizeOf31 l8 fun m8 uA oB => ?_)
   have xA : RV i9.m _ (⟨x0⟩ : FaultFaultLoom) (.agg (setCh [[.int .i64 0, .slice none 0 0, .int .i64 0, .slice none 0 0]] [(0, m8)]).flatten.toArray) := RV_build rfl (rep_last (RV.cells uA))
   generalize tB : (Value.agg (setCh [[.int .i64 0, .slice none 0 0, .int .i64 0, .slice none 0 0]] [(0, m8)]).flatten.toArray) = yA at xA
   refine L_load (x := .tmp 4) Tryz.isAgg39 Tryz.sizeOf39 bA fun zA iD vB => ?_
   obtain ⟨c7, xB, h⟩ := bsome h
   refine L_load (x := .tmp 3) Tryz.isAgg31 Tryz.sizeOf31 l8 fun n8 aB yB => ?_
   have bB : RV i9.m _ (⟨x0⟩ : FaultFaultLoom) (.agg (setCh [[.int .i64 0, .slice none 0 0, .int .i64 0, .slice none 0 0]] [(0, n8)]).flatten.toArray) := RV_build rfl (rep_last (RV.cells aB))
   generalize zB : (Value.agg (setCh [[.int .i64 0, .slice none 0 0, .int .i64 0, .slice none 0 0]] [(0, n8)]).flatten.toArray) = cB at bB
   refine L_load (x := .tmp 5) Tryz.isAgg39 Tryz.sizeOf39 iA fun dB jD aC => ?_
   obtain ⟨y98, cC, h⟩ := bsome h
   obtain ⟨x6, jA, h⟩ := bsome h
   refine E_drawL (g := i9) (n := 11) [(3, (fun v g w => RV g.m w ([x1] : List FaultDamage) v ∧ OS 3023 g w 39 ([x1] : List FaultDamage) v ∧ FullV v)), (4, (fun v g w => RV g.m w c7 v)), (8, (fun v g w => RV g.m w ([x2] : List FaultDamage) v ∧ OS 3028 g w 39 ([x2] : List FaultDamage) v ∧ FullV v)), (9, (fun v g w => RV g.m w y98 v)), (10, (fun v g w => ItV Tryz.prog (RA2 (α := Int) (β := Int)) x6 v g.m w))] [0, 1, 2, 3, 4, 5, 6, 7, 8, 9, 10] rfl mixed (by kernel_rfl) (⟨fun _ => up_and up_rv (up_and up_os (up_eq _)), fun _ => up_rv, fun _ => up_and up_rv (up_and up_os (up_eq _)), fun _ => up_rv, fun _ => up_itv, trivial⟩) ?_
   refine L_ld (c := m8) rfl rfl .plain (fun _ _ h => h.ch) oB k8 ?_
   refine L_p yA rfl rfl (tB ▸ P_build (vs := [(0, m8)]) [[.int .i64 0, .slice none 0 0, .int .i64 0, .slice none 0 0]] lay_86 rfl rfl (.cons rfl .nil) ⟨⟨_, rfl, cells_size uA⟩, trivial⟩) ?_
   refine L_ld (c := zA) rfl rfl .plain (fun _ _ h => h.ch) vB z9 ?_
   refine L_do (φ := fun v g w => RV g.m w ([x1] : List FaultDamage) v ∧ OS 3023 g w 39 ([x1] : List FaultDamage) v ∧ FullV v) rfl rfl .plain (fun g w hd => D_buildSlice (g := g) 3023 (xs := ([x1] : List FaultDamage)) (vs := [zA]) Tryz.underlying41 Tryz.sizeOf39 Tryz.zeroValue39 rfl rfl (.cons rfl .nil) (RVs.cons (iD.ext hd.1) RVs.nil) rfl rfl fun g' w' v hs o r hxt hfl => ⟨g', hxt, r, o, hfl⟩) (fun u3 hv => ?_)
   clear hv
   refine L_do (φ := fun v g w => RV g.m w c7 v) rfl rfl .plain (fun g w hd => D_call (g := g) (vs := [yA, u3]) en52 (.cons rfl (.cons rfl .nil)) (wk52 (xA.ext hd.1) (word (A := fun g w => RV g.m w ([x1] : List FaultDamage) u3 ∧ OS 3023 g w 39 ([x1] : List FaultDamage) u3 ∧ FullV u3) 3 rfl rfl (deps_of hd)).1 xB) fun g' w' v hs hr => ⟨g', hs, hr⟩) (fun k9 hv => ?_)
   obtain ⟨_, _, _, rq91⟩ := hv
   refine L_ld (c := n8) rfl rfl .plain (fun _ _ h => h.ch) yB k8 ?_
   refine L_p cB rfl rfl (zB ▸ P_build (vs := [(0, n8)]) [[.int .i64 0, .slice none 0 0, .int .i64 0, .slice none 0 0]] lay_86 rfl rfl (.cons rfl .nil) ⟨⟨_, rfl, cells_size aB⟩, trivial⟩) ?_
   refine L_ld (c := dB) rfl rfl .plain (fun _ _ h => h.ch) aC gA ?_
   refine L_do (φ := fun v g w => RV g.m w ([x2] : List FaultDamage) v ∧ OS 3028 g w 39 ([x2] : List FaultDamage) v ∧ FullV v) rfl rfl .plain (fun g w hd => D_buildSlice (g := g) 3028 (xs := ([x2] : List FaultDamage)) (vs := [dB]) Tryz.underlying41 Tryz.sizeOf39 Tryz.zeroValue39 rfl rfl (.cons rfl .nil) (RVs.cons (jD.ext hd.1) RVs.nil) rfl rfl fun g' w' v hs o r hxt hfl => ⟨g', hxt, r, o, hfl⟩) (fun i5 hv => ?_)
   clear hv
   refine L_do (φ := fun v g w => RV g.m w y98 v) rfl rfl .plain (fun g w hd => D_call (g := g) (vs := [cB, i5]) en52 (.cons rfl (.cons rfl .nil)) (wk52 (bB.ext hd.1) (word (A := fun g w => RV g.m w ([x2] : List FaultDamage) i5 ∧ OS 3028 g w 39 ([x2] : List FaultDamage) i5 ∧ FullV i5) 8 rfl rfl (deps_of hd)).1 cC) fun g' w' v hs hr => ⟨g', hs, hr⟩) (fun l9 hv => ?_)
   obtain ⟨_, _, _, rq97⟩ := hv
   refine L_do (φ := fun v g w => ItV Tryz.prog (RA2 (α := Int) (β := Int)) x6 v g.m w) rfl rfl .plain (fun g w hd => D_call (g := g) (vs := [k9, l9]) en29 (.cons rfl (.cons rfl .nil)) (wk29 (word (A := fun g w => RV g.m w c7 k9) 4 rfl rfl (deps_of hd)) (word (A := fun g w => RV g.m w y98 l9) 9 rfl rfl (deps_of hd)) jA) fun g' w' v hs hr => ⟨g', hs, hr⟩) (fun eB hv => ?_)
   clear hv
   refine L_nil fun uD vD hall => ?_
   have hs := hall.1
   have hfr := hfr.ext hs
   have hmk := hmk.ext hs
   have j7 := j7.ext hs
   have n7 := n7.ext hs
   have u7 := u7.ext hs
   have xD := (word_all (A := fun g w => RV g.m w ([x1] : List FaultDamage) u3 ∧ OS 3023 g w 39 ([x1] : List FaultDamage) u3 ∧ FullV u3) 3 rfl hall).1
   have o111 := (word_all (A := fun g w => RV g.m w ([x1] : List FaultDamage) u3 ∧ OS 3023 g w 39 ([x1] : List FaultDamage) u3 ∧ FullV u3) 3 rfl hall).2.1
   have yD := (word_all (A := fun g w => RV g.m w c7 k9) 4 rfl hall)
   have zD := (word_all (A := fun g w => RV g.m w ([x2] : List FaultDamage) i5 ∧ OS 3028 g w 39 ([x2] : List FaultDamage) i5 ∧ FullV i5) 8 rfl hall).1
   have o116 := (word_all (A := fun g w => RV g.m w ([x2] : List FaultDamage) i5 ∧ OS 3028 g w 39 ([x2] : List FaultDamage) i5 ∧ FullV i5) 8 rfl hall).2.1
   have aE := (word_all (A := fun g w => RV g.m w y98 l9) 9 rfl hall)
   have n9 := (word_all (A := fun g w => ItV Tryz.prog (RA2 (α := Int) (β := Int)) x6 eB g.m w) 10 rfl hall)
   clear hs hall
   refine EL_nil (thn_n (E_block ?_))
   have hB0 := hfr.size
   have hmk0 := hmk
   obtain ⟨⟨l5, ⟨q5, t5, x5⟩⟩, hφ, h⟩ := bsome h
   refine E_rangeFunc (σ := (Nat × Int × Int × Int)) (s0 := (0, (d7, e7, g7))) 10 rfl (fun s => s.1) [.ret] (fun (s : Nat × Int × Int × Int) (g : Gh) (w : World) => Fr gI wI g w ∧ MkF g w i8 ∧ OB 2006 g w 3 (s.2.1 : Int) p4 ∧ OB 2007 g w 3 (s.2.2.1 : Int) p5 ∧ OB 2008 g w 42 (s.2.2.2 : Int) p6 ∧ ItV Tryz.prog (RA2 (α := Int) (β := Int)) x6 eB g.m w) rfl n9 hφ (fun _ _ _ h => (guardC_h h).1) rfl ra2_size rfl (fun _ _ _ _ _ hx hR => by obtain ⟨hfr, hmk, z2, z3, z4, z5⟩ := hR; exact ⟨hfr.ist hx hB0, hmk.ist hx, z2.ist hx, z3.ist hx, z4.ist hx, z5.ist hx⟩) (fun _ _ _ _ _ hx hR => by obtain ⟨hfr, hmk, z2, z3, z4, z5⟩ := hR; exact ⟨hfr.stp hx, hmk.stp hx, z2.stp hx rfl, z3.stp hx rfl, z4.stp hx rfl, z5.stp hx⟩) ⟨hfr, hmk, j7, n7, u7, n9⟩ (fun _ h => by cases h) ?_ ?_
   ·intro nD kD s x b s2 o9 dC vs hsz h hR hrec_0 o8 hrd
    obtain ⟨hs0, h⟩ := guardC_h h
    obtain ⟨st, ⟨y8, a9, d9⟩⟩ := s
    obtain ⟨hfr, hmk, a7, j3, j1, o0⟩ := hR
    obtain ⟨d3, i3⟩ := x
    obtain ⟨t9, u9, rfl, q8, r8⟩ := ra2_get hrd
    obtain rfl : t9 = .int .i64 (d3) := RV_int.1 q8
    obtain rfl : u9 = .int .i64 (i3) := RV_int.1 r8
    have u0 := RFr.refl o9 dC
    refine E_seq (E_region (EL_at (.int .i64 (d3)) rfl rfl ?_))
    refine EL_nil (thn_n (E_region (EL_at (.int .i64 (i3)) rfl rfl ?_)))
    refine EL_nil (thn_n ?_)
    obtain ⟨eC, hbr, hs, hrN⟩ := begin_round hrec_0 o8
    refine ⟨eC, hbr, ?_⟩
    have hfr := hfr.stp hs
    have hmk := hmk.stp hs
    have u0 := u0.stp hs
    have a7 := a7.stp hs rfl
    have j3 := j3.stp hs rfl
    have j1 := j1.stp hs rfl
    have o0 := o0.stp hs
    have hrec_0 := hrN
    clear hbr hs hrN
    refine E_block ?_
    refine E_seq (E_region (EL_mw (.int .i64 (d3)) rfl rfl ?_))
    refine EL_mw (.int .i64 (i3)) rfl rfl ?_
    refine EL_do .plain rfl (D_storeOc (g := o9) (v := .int .i64 (d3)) Tryz.sizeOf3 i7 a7 rfl (RV_int.2 rfl) fun iC bE hs b126 cb => ?_)
    clear cb
    have hfr := hfr.stp hs
    have hmk := hmk.stp hs
    have u0 := u0.stp hs
    have hrec_0 := hrec_0.stp hs rfl
    have j3 := j3.stp hs rfl
    have j1 := j1.stp hs rfl
    have o0 := o0.stp hs
    refine EL_do .plain rfl (D_storeOc (g := iC) (v := .int .i64 (i3)) Tryz.sizeOf3 m7 j3 rfl (RV_int.2 rfl) fun jC cE hs b127 cb => ?_)
    clear cb
    have hfr := hfr.stp hs
    have hmk := hmk.stp hs
    have u0 := u0.stp hs
    have hrec_0 := hrec_0.stp hs rfl
    have b126 := b126.stp hs rfl
    have j1 := j1.stp hs rfl
    have o0 := o0.stp hs
    refine EL_do .plain rfl (D_storeOc (g := jC) (v := .int .i64 (0)) Tryz.sizeOf42 o7 j1 rfl (RV_int.2 rfl) fun dE eE hs b128 cb => ?_)
    clear cb
    have hfr := hfr.stp hs
    have hmk := hmk.stp hs
    have u0 := u0.stp hs
    have hrec_0 := hrec_0.stp hs rfl
    have b126 := b126.stp hs rfl
    have b127 := b127.stp hs rfl
    have o0 := o0.stp hs
    refine EL_nil (thn_n (E_ret (blk_r ?_)))
    obtain ⟨rfl, rfl⟩ := pairs2 h
    exact ⟨_, u0, ⟨hfr, hmk, b126, b127, b128, o0⟩, hrec_0, rfl, 0, rfl, rfl⟩
   ·intro kC gE ds130 hsz hR hds
    obtain ⟨hfr, hmk, i6, j6, v6, rC⟩ := hR
    obtain ⟨D, hdse, hD, hDb⟩ := hds.1 rfl
    subst hdse
    replace hmk := MkF.push hmk0 hmk hD hDb
    clear hD hDb hds
    revert hmk
    generalize ({ target := .collected D, args := #[] } :: i8 : List Deferred) = lD
    intro hmk
    refine ⟨fun hs => ?_, fun k c hs hc => ?_⟩
    ·have hs : l5 = 0 := hs
     subst hs
     replace h := cond_t h rfl
     exact blk_n (thn_n (nB (q5, t5, x5) _ _ _ ⟨kC, hfr, hmk, i7, i6, m7, j6, o7, v6⟩ h))
    ·have hs : l5 = k + 1 := hs
     match k, hs, hc with
     | 0, hs, hc =>
      subst hs
      obtain rfl := sinj hc
      replace h := cond_f h rfl
      refine E_ret (blk_r ?_)
      refine thn_r ?_
      refine endM (.inr rfl) hmk fun iE jE hs => ?_
      have hfr := hfr.stp hs
      have i6 := i6.stp hs rfl
      have j6 := j6.stp hs rfl
      have v6 := v6.stp hs rfl
      obtain rfl := sinj h
      obtain ⟨ad132, cv132, hp132, kA, cr132⟩ := ob_read Tryz.isAgg3 Tryz.sizeOf3 i6
      obtain rfl := RV_int.1 cr132
      obtain ⟨ad133, cv133, hp133, lA, cr133⟩ := ob_read Tryz.isAgg3 Tryz.sizeOf3 j6
      obtain rfl := RV_int.1 cr133
      obtain ⟨ad134, cv134, hp134, mA, cr134⟩ := ob_read Tryz.isAgg42 Tryz.sizeOf42 v6
      obtain rfl := RV_int.1 cr134
      exact endm_ccc rfl rfl ((show _ = p4 from i7).trans hp132) kA ((show _ = p5 from m7).trans hp133) lA ((show _ = p6 from o7).trans hp134) mA ⟨_, hfr, _, _, _, rfl, rfl, rfl, rfl⟩
     | n + 1, _, hc => exact absurd hc (by simp)
  ·rintro ⟨t8, v8, x8⟩ oD mD kE ⟨lC, hfr, hmk, v7, y9, c8, b7, e8, o3⟩ h
   refine E_seq (E_region (EL_do .plain rfl (D_storeOc (g := lC) (v := .int .i64 (0)) Tryz.sizeOf3 v7 y9 rfl (RV_int.2 rfl) fun mC lE hs b136 cb => ?_)))
   clear cb
   have hfr := hfr.stp hs
   have hmk := hmk.stp hs
   have b7 := b7.stp hs rfl
   have o3 := o3.stp hs rfl
   refine EL_do .plain rfl (D_storeOc (g := mC) (v := .int .i64 (0)) Tryz.sizeOf3 c8 b7 rfl (RV_int.2 rfl) fun qC mE hs b137 cb => ?_)
   clear cb
   have hfr := hfr.stp hs
   have hmk := hmk.stp hs
   have b136 := b136.stp hs rfl
   have o3 := o3.stp hs rfl
   refine EL_do .plain rfl (D_storeOc (g := qC) (v := .int .i64 (7)) Tryz.sizeOf42 e8 o3 rfl (RV_int.2 rfl) fun nE oE hs b138 cb => ?_)
   clear cb
   have hfr := hfr.stp hs
   have hmk := hmk.stp hs
   have b136 := b136.stp hs rfl
   have b137 := b137.stp hs rfl
   refine EL_nil (thn_n (E_ret (endM (.inr rfl) hmk fun rE sE hs => ?_)))
   have hfr := hfr.stp hs
   have b136 := b136.stp hs rfl
   have b137 := b137.stp hs rfl
   have b138 := b138.stp hs rfl
   obtain rfl := sinj h
   obtain ⟨ad140, cv140, hp140, nA, cr140⟩ := ob_read Tryz.isAgg3 Tryz.sizeOf3 b136
   obtain rfl := RV_int.1 cr140
   obtain ⟨ad141, cv141, hp141, oA, cr141⟩ := ob_read Tryz.isAgg3 Tryz.sizeOf3 b137
   obtain rfl := RV_int.1 cr141
   obtain ⟨ad142, cv142, hp142, pA, cr142⟩ := ob_read Tryz.isAgg42 Tryz.sizeOf42 b138
   obtain rfl := RV_int.1 cr142
   exact endm_ccc rfl rfl ((show _ = p4 from v7).trans hp140) nA ((show _ = p5 from c8).trans hp141) oA ((show _ = p6 from e8).trans hp142) pA ⟨_, hfr, _, _, _, rfl, rfl, rfl, rfl⟩
def f8 (x0 : FaultLoom) : Option ((List FaultDamage) × Int) :=
 jn (σ := (List FaultDamage)) (fun j3 =>
  Option.bind (α := (List FaultDamage)) (
   ((fun σ cons s => f26 ((⟨x0⟩ : FaultFaultLoom)) σ cons s) ((List FaultDamage)) (fun m2_55 (o3, b7) =>
    (apnd 40 m2_55 (([o3] : List FaultDamage))).bind fun y63 =>
    some (true, (y63))
    ) (j3)).bind fun t5 =>
   some (t5)
   ) fun j1 =>
  some (j1, (0 : Int))
  ) fun m7 =>
 (f25 x0).bind fun d3 =>
 bif (d3 != (0 : Int)) then
  some ([], d3)
 else
  m7 (([] : List FaultDamage))
theorem en8 : Enters Tryz.prog 8 := enters_of Tryz.func8 (by kernel_rfl) rfl
theorem wk8 {gI : Gh} {wI : World} {x0 : FaultLoom} {up0 : Value} (rp0 : RV gI.m wI x0 up0) {r : (List FaultDamage) × Int} (h : f8 x0 = some r) : Fn Tryz.prog 8 #[up0] gI wI (fun m w v => ∃ y0 y1, v = .tuple #[y0, y1] ∧ RV m w (r.1) y0 ∧ y1 = .int .i64 (r.2)) := by
 unfold f8 at h
 refine fnD_of_E Tryz.func8 rfl (Nat.le_of_ble_eq_true rfl) fun g0 hm hfr => ?_
 have hmk : MkF g0 wI [] := MkF.start
 have rp0 : RV g0.m wI x0 up0 := hm ▸ rp0
 show E _ 21 none _ _ _ _ _
 refine E_seq (E_region (EL_do .plain rfl (D_box (g := g0) rfl rp0 fun g1 w1 p1 hs q1 => ?_)))
 have hfr := hfr.ext hs
 have hmk := hmk.ext hs
 refine EL_do .plain rfl (D_allocOc (g := g1) 2002 ([] : List FaultDamage) Tryz.zeroValue41 (fun m w => ⟨_, rep_nil, rfl⟩) fun g2 w2 p2 hs b2 cb => ?_)
 have hfr := hfr.stp hs
 have hmk := hmk.stp hs
 have q1 := q1.stp hs
 have l5 : OSF 2002 60200 0 g2 w2 39 41 ([] : List FaultDamage) p2 := cb.osf (by rfl)
 clear cb
 refine EL_at (.int .i64 (0)) rfl rfl ?_
 refine EL_nil (thn_n (E_joinCD h (fun (s : (List FaultDamage)) e ds w => ∃ (g : Gh) , Fr gI wI g w ∧ MkF g w ds ∧ e 1 = p1 ∧ PT g.m w (x0 : FaultLoom) p1 ∧ e 2 = p2 ∧ OB 2002 g w 41 (s : List FaultDamage) p2 ∧ OSF 2002 60200 0 g w 39 41 (s) p2) (fun X10 m7 i8 h => ?_) ?_))
 ·refine E_seq (E_region (EL_do .plain rfl (D_load (g := g2) Tryz.isAgg31 Tryz.sizeOf31 rfl q1 fun q8 r8 => ?_)))
  obtain ⟨d3, k8, h⟩ := bsome h
  refine EL_do .plain rfl (D_call (g := g2) (vs := [q8]) en25 (.cons rfl .nil) (wk25 r8 k8) fun n7 nA rA hs hr => ?_)
  have hfr := hfr.ext hs
  have hmk := hmk.ext hs
  have q1 := q1.ext hs
  have l5 := l5.ext hs
  have b2 := b2.ext hs
  subst hr
  refine EL_at (.int .i64 (d3)) rfl rfl ?_
  refine EL_nil (thn_n (E_seq (E_region (EL_mw (.int .i64 (d3)) rfl rfl ?_))))
  refine EL_in (.bool ((d3 != (0 : Int)))) rfl rfl rfl rfl ?_
  refine EL_nil (thn_n ?_)
  rcases csome h with ⟨q5, h⟩ | ⟨q5, h⟩
  ·refine E_ct q5 rfl ?_
   refine E_seq (E_region (EL_mw (.int .i64 (d3)) rfl rfl ?_))
   refine EL_do .plain rfl (D_storeOc (g := n7) (v := .slice none 0 0) Tryz.sizeOf41 rfl b2 rfl RV_nil fun t8 w15 hs b15 cb => ?_)
   have gA : OSF 2002 60200 0 t8 w15 39 41 ([] : List FaultDamage) p2 := cb.osfr (rfl) OS.nil
   clear cb
   have hfr := hfr.stp hs
   have hmk := hmk.stp hs
   refine EL_at (.int .i64 (d3)) rfl rfl ?_
   refine EL_nil (thn_n (E_ret (thn_r ?_)))
   refine endM (.inr rfl) hmk fun sA uA hs => ?_
   have hfr := hfr.stp hs
   have b15 := b15.stp hs rfl
   obtain rfl := sinj h
   obtain ⟨ad17, cv17, hp17, l8, cr17⟩ := ob_read Tryz.isAgg41 Tryz.sizeOf41 b15
   exact endm_ct rfl rfl ((show _ = p2 from rfl).trans hp17) l8 (show _ = .int .i64 (d3) from rfl) ⟨_, hfr, _, _, rfl, cr17, rfl⟩
  ·refine E_cf q5 rfl ?_
   exact E_skip (thn_n (i8 (([] : List FaultDamage)) _ _ _ ⟨n7, hfr, hmk, rfl, q1, rfl, b2, l5⟩ h))
 ·rintro j3 oA x5 v8 ⟨j6, hfr, hmk, c7, d7, u3, e7, u2_0_18⟩ h
  obtain ⟨j1, hx, h⟩ := bsome h
  refine E_joinD (fun e ds w => ∃ (g : Gh) , Fr gI wI g w ∧ MkF g w ds ∧ e 2 = p2 ∧ OB 2002 g w 41 (j1 : List FaultDamage) p2 ∧ OSF 2002 60200 0 g w 39 41 (j1) p2) (fun Q' hQ => ?_) (fun pA iA xA hR => ?_)
  ·replace h := hx
   clear hx
   refine E_seq (E_region (EL_do .plain rfl (D_load (g := j6) Tryz.isAgg31 Tryz.sizeOf31 c7 d7 fun v6 o7 => ?_)))
   have u7 : RV j6.m _ (⟨x0⟩ : FaultFaultLoom) (.agg (setCh [[.int .i64 0, .slice none 0 0, .int .i64 0, .slice none 0 0]] [(0, v6)]).flatten.toArray) := RV_build rfl (rep_last (RV.cells o7))
   generalize m8 : (Value.agg (setCh [[.int .i64 0, .slice none 0 0, .int .i64 0, .slice none 0 0]] [(0, v6)]).flatten.toArray) = i5 at u7
   refine EL_p i5 (m8 ▸ P_build (vs := [(0, v6)]) [[.int .i64 0, .slice none 0 0, .int .i64 0, .slice none 0 0]] lay_86 rfl rfl (.cons rfl .nil) ⟨⟨_, rfl, cells_size o7⟩, trivial⟩) rfl ?_
   refine EL_p ((.func (.func 26) #[i5] #[])) (P_makeFunc (capf_1_0 (show ev _ _ = i5 from rfl))) rfl ?_
   refine EL_nil (thn_n (E_block ?_))
   have hB0 := hfr.size
   have hmk0 := hmk
   obtain ⟨t5, hφ, h⟩ := bsome h
   refine E_rangeFunc (σ := ((List FaultDamage))) (s0 := (j3)) 10 rfl (fun _ => 0) [] (fun (s : (List FaultDamage)) (g : Gh) (w : World) => Fr gI wI g w ∧ MkF g w x5 ∧ OB 2002 g w 41 (s : List FaultDamage) p2 ∧ OSF 2002 60200 0 g w 39 41 (s) p2) rfl (show ItV Tryz.prog (RA2 (α := FaultDamage) (β := (List Str))) (fun σ cons s => f26 ((⟨x0⟩ : FaultFaultLoom)) σ cons s) ((.func (.func 26) #[i5] #[])) j6.m v8 from ⟨26, #[i5], #[], rfl, en26, fun g' w' hch σ cons s s' h => wk26 (u7.ch hch)  h⟩) hφ (fun _ _ _ _ => rfl) rfl ra2_size rfl (fun _ _ _ _ _ hx hR => by obtain ⟨hfr, hmk, z2, z3⟩ := hR; exact ⟨hfr.ist hx hB0, hmk.ist hx, z2.ist hx, z3.ist hx⟩) (fun _ _ _ _ _ hx hR => by obtain ⟨hfr, hmk, z2, z3⟩ := hR; exact ⟨hfr.stp hx, hmk.stp hx, z2.stp hx rfl, z3.stp hx rfl⟩) ⟨hfr, hmk, e7, u2_0_18⟩ (fun _ h => by cases h) ?_ ?_
   ·intro qA jA s x b s2 v7 x8 vs hsz h hR hrec_0 x6 hrd
    obtain ⟨m2_55, hse⟩ : ∃ y, y = s := ⟨s, rfl⟩
    subst hse
    obtain ⟨hfr, hmk, u0, u2_0_55⟩ := hR
    obtain ⟨o3, b7⟩ := x
    obtain ⟨g7, kA, rfl, i3, y8⟩ := ra2_get hrd
    have o0 := RFr.refl v7 x8
    refine E_region (EL_do .plain rfl (D_allocOc (g := v7) 2005 (⟨0, 0, 0, 0, false⟩ : FaultDamage) Tryz.zeroValue39 (fun m w => ⟨_, (rep_two rep_int (rep_two rep_int (rep_two rep_int (rep_two rep_int rep_bool)))), rfl⟩) fun a9 yA zA hs b56 cb => ?_))
    have hfr := hfr.stp hs
    have hmk := hmk.stp hs
    have o0 := o0.stp hs
    have hrec_0 := hrec_0.stp hs rfl
    have u2_0_55 := u2_0_55.stp hs rfl
    have u0 := u0.stp hs rfl
    have i3 := i3.stp hs
    clear cb
    refine EL_do .plain rfl (D_storeOc (g := a9) (v := g7) Tryz.sizeOf39 rfl b56 rfl i3 fun y6 aB hs b57 cb => ?_)
    clear cb
    have hfr := hfr.stp hs
    have hmk := hmk.stp hs
    have o0 := o0.stp hs
    have hrec_0 := hrec_0.stp hs rfl
    have u2_0_55 := u2_0_55.stp hs rfl
    have u0 := u0.stp hs rfl
    refine EL_nil (thn_n ?_)
    obtain ⟨d9, hbr, hs, hrN⟩ := begin_round hrec_0 x6
    refine ⟨d9, hbr, ?_⟩
    have hfr := hfr.stp hs
    have hmk := hmk.stp hs
    have o0 := o0.stp hs
    have u2_0_55 := u2_0_55.stp hs rfl
    have u0 := u0.stp hs rfl
    have b57 := b57.stp hs rfl
    have hrec_0 := hrN
    clear hbr hs hrN
    refine E_block ?_
    refine E_region (EL_do .plain rfl (D_loadOS (g := y6) Tryz.isAgg41 Tryz.sizeOf41 u3 u0 u2_0_55 fun bB a7 o59 => ?_))
    refine EL_do .plain rfl (D_loadO (g := y6) Tryz.isAgg39 Tryz.sizeOf39 rfl b57 fun e9 i9 => ?_)
    refine EL_do .plain rfl (D_buildSlice (g := y6) 3018 (xs := ([o3] : List FaultDamage)) (vs := [e9]) Tryz.underlying41 Tryz.sizeOf39 Tryz.zeroValue39 rfl rfl (.cons rfl .nil) (RVs.cons i9 RVs.nil) rfl rfl fun k9 cB dB hs o61 l9 hxt hfl => ?_)
    have hfr := hfr.stp hs
    have hmk := hmk.stp hs
    have o0 := o0.stp hs
    have hrec_0 := hrec_0.stp hs rfl
    have u0 := u0.stp hs rfl
    have a7 := a7.stp hs
    have o59 := o59.stp hs rfl
    obtain ⟨y63, n8, h⟩ := bsome h
    refine EL_do .plain rfl (D_append (g := k9) (i := 60200) Tryz.underlying41 info_39 rfl rfl o59 a7 rfl l9 n8 fun n9 eB v62 hs o62 c8 _ => ?_)
    have hfr := hfr.stp hs
    have hmk := hmk.stp hs
    have o0 := o0.stp hs
    have hrec_0 := hrec_0.stp hs rfl
    have u0 := u0.stp hs rfl
    refine EL_do .plain rfl (D_storeOc (g := n9) (v := v62) Tryz.sizeOf41 u3 u0 rfl c8 fun o9 t9 hs b65 cb => ?_)
    have i7 : OSF 2002 60200 0 o9 t9 39 41 (y63 : List FaultDamage) p2 := cb.osfr (rv_cells1 c8) (o62.stp hs rfl)
    clear cb
    have hfr := hfr.stp hs
    have hmk := hmk.stp hs
    have o0 := o0.stp hs
    have hrec_0 := hrec_0.stp hs rfl
    refine EL_nil (blk_n ?_)
    obtain ⟨rfl, rfl⟩ := pairs2 h
    exact ⟨_, o0, ⟨hfr, hmk, b65, i7⟩, hrec_0, rfl, rfl⟩
   ·intro u9 iB ds67 hsz hR hds
    obtain ⟨hfr, hmk, j7, u2_0_67⟩ := hR
    obtain ⟨D, hdse, hD, hDb⟩ := hds.1 rfl
    subst hdse
    replace hmk := MkF.push hmk0 hmk hD hDb
    clear hD hDb hds
    revert hmk
    generalize ({ target := .collected D, args := #[] } :: x5 : List Deferred) = lA
    intro hmk
    refine ⟨fun _ => ?_, fun k c hs _ => absurd hs (Nat.succ_ne_zero k).symm⟩
    refine blk_n ?_
    obtain rfl := sinj h
    exact hQ _ _ _ ⟨u9, hfr, hmk, u3, j7, u2_0_67⟩
  ·clear hx
   obtain ⟨e8, hfr, hmk, z4, i6, u2_0_68⟩ := hR
   refine E_seq (E_region (EL_do .plain rfl (D_loadOS (g := e8) Tryz.isAgg41 Tryz.sizeOf41 z4 i6 u2_0_68 fun y9 g8 o69 => ?_)))
   refine EL_do .plain rfl (D_storeOc (g := e8) (v := y9) Tryz.sizeOf41 z4 i6 rfl g8 fun z9 bA hs b70 cb => ?_)
   have mA : OSF 2002 60200 0 z9 bA 39 41 (j1 : List FaultDamage) p2 := cb.osfr (rv_cells1 g8) (o69.stp hs rfl)
   clear cb
   have hfr := hfr.stp hs
   have hmk := hmk.stp hs
   refine EL_at (.int .i64 (0)) rfl rfl ?_
   refine EL_nil (thn_n (E_ret (endM (.inr rfl) hmk fun jB kB hs => ?_)))
   have hfr := hfr.stp hs
   have b70 := b70.stp hs rfl
   obtain rfl := sinj h
   obtain ⟨ad72, cv72, hp72, o8, cr72⟩ := ob_read Tryz.isAgg41 Tryz.sizeOf41 b70
   exact endm_ct rfl rfl ((show _ = p2 from z4).trans hp72) o8 (show _ = .int .i64 (0) from rfl) ⟨_, hfr, _, _, rfl, cr72, rfl⟩
def f10 (x0 : FaultLoom) (x1 : List FaultDamage) (x2 : Int) : Option ((List FaultSight) × Int) :=
 (f28 x0 x1 x2).bind fun y5 =>
 jn (σ := (List FaultSight)) (fun j6 =>
  (f28 x0 ([]) x2).bind fun x6 =>
  Option.bind (α := (List FaultSight)) (
   (f29 (y5.1) (x6.1)).bind fun k8 =>
   (k8 ((List FaultSight)) (fun y6 (o0, u0) =>
    (idx (y5.1) o0).bind fun d7 =>
    (idx (d7).b u0).bind fun j1 =>
    (apnd 24 y6 (([(⟨o0, u0, (j1 == (120 : UInt8))⟩ : FaultSight)] : List FaultSight))).bind fun e7 =>
    some (true, (e7))
    ) (j6)).bind fun a7 =>
   some (a7)
   ) fun u3 =>
  some (u3, (0 : Int))
  ) fun gA =>
 bif (y5.2 != (0 : Int)) then
  some ([], y5.2)
 else
  gA (([] : List FaultSight))
theorem en10 : Enters Tryz.prog 10 := enters_of Tryz.func10 (by kernel_rfl) rfl
theorem wk10 {gI : Gh} {wI : World} {x0 : FaultLoom} {x1 : List FaultDamage} {x2 : Int} {up0 : Value} (rp0 : RV gI.m wI x0 up0) {up1 : Value} (rp1 : RV gI.m wI x1 up1) {r : (List FaultSight) × Int} (h : f10 x0 x1 x2 = some r) : Fn Tryz.prog 10 #[up0, up1, .int .i64 (x2)] gI wI (fun m w v => ∃ y0 y1, v = .tuple #[y0, y1] ∧ RV m w (r.1) y0 ∧ y1 = .int .i64 (r.2)) := by
 unfold f10 at h
 refine fnD_of_E Tryz.func10 rfl (Nat.le_of_ble_eq_true rfl) fun g0 hm hfr => ?_
 have hmk : MkF g0 wI [] := MkF.start
 have rp0 : RV g0.m wI x0 up0 := hm ▸ rp0
 have rp1 : RV g0.m wI x1 up1 := hm ▸ rp1
 show E _ 48 none _ _ _ _ _
 refine E_seq (E_region (EL_do .plain rfl (D_box (g := g0) rfl rp0 fun g1 w1 p1 hs q1 => ?_)))
 have hfr := hfr.ext hs
 have hmk := hmk.ext hs
 have rp1 := rp1.ext hs
 refine EL_do .plain rfl (D_allocOc (g := g1) 2006 ([] : List FaultSight) Tryz.zeroValue46 (fun m w => ⟨_, rep_nil, rfl⟩) fun g2 w2 p2 hs b2 cb => ?_)
 have hfr := hfr.stp hs
 have hmk := hmk.stp hs
 have rp1 := rp1.stp hs
 have q1 := q1.stp hs
 have l5 : OSF 2006 60600 0 g2 w2 94 46 ([] : List FaultSight) p2 := cb.osf (by rfl)
 clear cb
 refine EL_at (.int .i64 (0)) rfl rfl ?_
 refine EL_nil (thn_n (E_seq (E_region (EL_do .plain rfl (D_load (g := g2) Tryz.isAgg31 Tryz.sizeOf31 rfl q1 fun v3 r3 => ?_)))))
 refine EL_mw up1 rfl rfl ?_
 refine EL_mw (.int .i64 (x2)) rfl rfl ?_
 obtain ⟨y5, hy5, h⟩ := bsome h
 refine EL_do .plain rfl (D_call (g := g2) (vs := [v3, up1, .int .i64 (x2)]) en28 (.cons rfl (.cons rfl (.cons rfl .nil))) (wk28 r3 rp1 hy5) fun g4 w4_ v4 hs hr => ?_)
 have hfr := hfr.ext hs
 have hmk := hmk.ext hs
 have q1 := q1.ext hs
 have l5 := l5.ext hs
 have b2 := b2.ext hs
 obtain ⟨i7, kC, rfl, j7, rfl⟩ := hr
 refine EL_mw (.tuple #[i7, .int .i64 (y5.2)]) rfl rfl ?_
 refine EL_p i7 (P_extract rfl rfl) rfl ?_
 refine EL_p (.int .i64 (y5.2)) (P_extract rfl rfl) rfl ?_
 refine EL_do .plain rfl (D_allocOc (g := g4) 2008 ([] : List Str) Tryz.zeroValue88 (fun m w => ⟨_, rep_nil, rfl⟩) fun g6 w6 p6 hs b6 cb => ?_)
 have hfr := hfr.stp hs
 have hmk := hmk.stp hs
 have q1 := q1.stp hs
 have l5 := l5.stp hs rfl
 have b2 := b2.stp hs rfl
 have j7 := j7.stp hs
 have lC : OSF 2008 60800 0 g6 w6 9 88 ([] : List Str) p6 := cb.osf (by rfl)
 clear cb
 refine EL_do .plain rfl (D_storeOc (g := g6) (v := i7) Tryz.sizeOf88 rfl b6 rfl j7 fun g7 w7 hs b7 cb => ?_)
 clear cb
 have hfr := hfr.stp hs
 have hmk := hmk.stp hs
 have q1 := q1.stp hs
 have l5 := l5.stp hs rfl
 have b2 := b2.stp hs rfl
 refine EL_at (.int .i64 (y5.2)) rfl rfl ?_
 refine EL_nil (thn_n (E_joinCD h (fun (s : (List FaultSight)) e ds w => ∃ (g : Gh) , Fr gI wI g w ∧ MkF g w ds ∧ e 2 = .int .i64 (x2) ∧ e 3 = p1 ∧ PT g.m w (x0 : FaultLoom) p1 ∧ e 6 = p2 ∧ OB 2006 g w 46 (s : List FaultSight) p2 ∧ OSF 2006 60600 0 g w 94 46 (s) p2 ∧ e 8 = p6 ∧ OB 2008 g w 88 (y5.1 : List Str) p6) (fun X12 gA lA h => ?_) ?_))
 ·refine E_seq (E_region (EL_mw (.int .i64 (y5.2)) rfl rfl ?_))
  refine EL_in (.bool ((y5.2 != (0 : Int)))) rfl rfl rfl rfl ?_
  refine EL_nil (thn_n ?_)
  rcases csome h with ⟨m7, h⟩ | ⟨m7, h⟩
  ·refine E_ct m7 rfl ?_
   refine E_seq (E_region (EL_mw (.int .i64 (y5.2)) rfl rfl ?_))
   refine EL_do .plain rfl (D_storeOc (g := g7) (v := .slice none 0 0) Tryz.sizeOf46 rfl b2 rfl RV_nil fun kB lB hs b14 cb => ?_)
   have dC : OSF 2006 60600 0 kB lB 94 46 ([] : List FaultSight) p2 := cb.osfr (rfl) OS.nil
   clear cb
   have hfr := hfr.stp hs
   have hmk := hmk.stp hs
   refine EL_at (.int .i64 (y5.2)) rfl rfl ?_
   refine EL_nil (thn_n (E_ret (thn_r ?_)))
   refine endM (.inr rfl) hmk fun cD w15 hs => ?_
   have hfr := hfr.stp hs
   have b14 := b14.stp hs rfl
   obtain rfl := sinj h
   obtain ⟨ad16, cv16, hp16, mA, cr16⟩ := ob_read Tryz.isAgg46 Tryz.sizeOf46 b14
   exact endm_ct rfl rfl ((show _ = p2 from rfl).trans hp16) mA (show _ = .int .i64 (y5.2) from rfl) ⟨_, hfr, _, _, rfl, cr16, rfl⟩
  ·refine E_cf m7 rfl ?_
   exact E_skip (thn_n (lA (([] : List FaultSight)) _ _ _ ⟨g7, hfr, hmk, rfl, rfl, q1, rfl, b2, l5, rfl, b7⟩ h))
 ·rintro j6 mC u7 eD ⟨iA, hfr, hmk, e9, i9, k9, v6, q5, u6_0_17, v7, i5⟩ h
  refine E_seq (E_region (EL_do .plain rfl (D_load (g := iA) Tryz.isAgg31 Tryz.sizeOf31 i9 k9 fun mB nB => ?_)))
  refine EL_mv e9 rfl ?_
  obtain ⟨x6, nA, h⟩ := bsome h
  refine EL_do .plain rfl (D_call (g := iA) (vs := [mB, .slice none 0 0, .int .i64 (x2)]) en28 (.cons rfl (.cons rfl (.cons rfl .nil))) (wk28 nB RV_nil nA) fun jA qC gD hs hr => ?_)
  have hfr := hfr.ext hs
  have hmk := hmk.ext hs
  have u6_0_17 := u6_0_17.ext hs
  have q5 := q5.ext hs
  have i5 := i5.ext hs
  obtain ⟨t5, eC, rfl, l9, rfl⟩ := hr
  refine EL_mw (.tuple #[t5, .int .i64 (x6.2)]) rfl rfl ?_
  refine EL_p t5 (P_extract rfl rfl) rfl ?_
  refine EL_p (.int .i64 (x6.2)) (P_extract rfl rfl) rfl ?_
  refine EL_at t5 rfl rfl ?_
  refine EL_at (.int .i64 (x6.2)) rfl rfl ?_
  refine EL_nil (thn_n ?_)
  obtain ⟨u3, hx, h⟩ := bsome h
  refine E_joinD (fun e ds w => ∃ (g : Gh) , Fr gI wI g w ∧ MkF g w ds ∧ e 6 = p2 ∧ OB 2006 g w 46 (u3 : List FaultSight) p2 ∧ OSF 2006 60600 0 g w 94 46 (u3) p2) (fun Q' hQ => ?_) (fun iC oB rC hR => ?_)
  ·replace h := hx
   clear hx
   refine E_seq (E_region (EL_do .plain rfl (D_loadO (g := jA) Tryz.isAgg88 Tryz.sizeOf88 v7 i5 fun tB vB => ?_)))
   refine EL_mw t5 rfl rfl ?_
   obtain ⟨k8, oA, h⟩ := bsome h
   refine EL_do .plain rfl (D_call (g := jA) (vs := [tB, t5]) en29 (.cons rfl (.cons rfl .nil)) (wk29 vB l9 oA) fun iD tC xB hs hr => ?_)
   have hfr := hfr.ext hs
   have hmk := hmk.ext hs
   have u6_0_17 := u6_0_17.ext hs
   have q5 := q5.ext hs
   have i5 := i5.ext hs
   have kA := hr
   refine EL_nil (thn_n (E_block ?_))
   have hB0 := hfr.size
   have hmk0 := hmk
   obtain ⟨a7, hφ, h⟩ := bsome h
   refine E_rangeFunc (σ := ((List FaultSight))) (s0 := (j6)) 10 rfl (fun _ => 0) [] (fun (s : (List FaultSight)) (g : Gh) (w : World) => Fr gI wI g w ∧ MkF g w u7 ∧ OB 2006 g w 46 (s : List FaultSight) p2 ∧ OSF 2006 60600 0 g w 94 46 (s) p2 ∧ OB 2008 g w 88 (y5.1 : List Str) p6 ∧ ItV Tryz.prog (RA2 (α := Int) (β := Int)) k8 xB g.m w) rfl kA hφ (fun _ _ _ _ => rfl) rfl ra2_size rfl (fun _ _ _ _ _ hx hR => by obtain ⟨hfr, hmk, z2, z3, z4, z5⟩ := hR; exact ⟨hfr.ist hx hB0, hmk.ist hx, z2.ist hx, z3.ist hx, z4.ist hx, z5.ist hx⟩) (fun _ _ _ _ _ hx hR => by obtain ⟨hfr, hmk, z2, z3, z4, z5⟩ := hR; exact ⟨hfr.stp hx, hmk.stp hx, z2.stp hx rfl, z3.stp hx rfl, z4.stp hx rfl, z5.stp hx⟩) ⟨hfr, hmk, q5, u6_0_17, i5, kA⟩ (fun _ h => by cases h) ?_ ?_
   ·intro jC yB s x b s2 n7 pA vs hsz h hR hrec_0 e8 hrd
    obtain ⟨y6, hse⟩ : ∃ y, y = s := ⟨s, rfl⟩
    subst hse
    obtain ⟨hfr, hmk, j3, u6_0_129, i3, d3⟩ := hR
    obtain ⟨o0, u0⟩ := x
    obtain ⟨l8, m8, rfl, g8, i8⟩ := ra2_get hrd
    obtain rfl : l8 = .int .i64 (o0) := RV_int.1 g8
    obtain rfl : m8 = .int .i64 (u0) := RV_int.1 i8
    have o3 := RFr.refl n7 pA
    refine E_seq (E_region (EL_at (.int .i64 (o0)) rfl rfl ?_))
    refine EL_nil (thn_n (E_region (EL_at (.int .i64 (u0)) rfl rfl ?_)))
    refine EL_nil (thn_n ?_)
    obtain ⟨n8, hbr, hs, hrN⟩ := begin_round hrec_0 e8
    refine ⟨n8, hbr, ?_⟩
    have hfr := hfr.stp hs
    have hmk := hmk.stp hs
    have o3 := o3.stp hs
    have u6_0_129 := u6_0_129.stp hs rfl
    have j3 := j3.stp hs rfl
    have i3 := i3.stp hs rfl
    have d3 := d3.stp hs
    have hrec_0 := hrN
    clear hbr hs hrN
    refine E_block ?_
    refine L_loadOS (x := .tmp 6) Tryz.isAgg46 Tryz.sizeOf46 j3 u6_0_129 fun qA o7 o131 n9 => ?_
    refine L_loadO0 (x := .tmp 8) Tryz.isAgg88 Tryz.sizeOf88 i3 fun o8 q8 o9 => ?_
    obtain ⟨d7, c8, h⟩ := bsome h
    have rA := PT_idx q8 c8
    refine L_load (x := .tmp 39) Tryz.isAgg9 Tryz.sizeOf9 rA fun uC sA t9 => ?_
    obtain rfl := RV_str.1 sA
    obtain ⟨j1, u9, h⟩ := bsome h
    have r8 : RV n7.m n8 (⟨o0, u0, (j1 == (120 : UInt8))⟩ : FaultSight) (.agg (setCh [[.int .i64 0], [.int .i64 0], [.bool false]] [(0, .int .i64 (o0)), (1, .int .i64 (u0)), (2, .bool ((j1 == (120 : UInt8))))]).flatten.toArray) := RV_build rfl (rep_pair (rfl) (rep_pair (rfl) (rep_last (rfl))))
    generalize y9 : (Value.agg (setCh [[.int .i64 0], [.int .i64 0], [.bool false]] [(0, .int .i64 (o0)), (1, .int .i64 (u0)), (2, .bool ((j1 == (120 : UInt8))))]).flatten.toArray) = t8 at r8
    refine E_drawL (g := n7) (n := 12) [(11, (fun v g w => RV g.m w ([(⟨o0, u0, (j1 == (120 : UInt8))⟩ : FaultSight)] : List FaultSight) v ∧ OS 3045 g w 94 ([(⟨o0, u0, (j1 == (120 : UInt8))⟩ : FaultSight)] : List FaultSight) v ∧ FullV v))] [0, 1, 2, 3, 4, 5, 6, 7, 8, 9, 10, 11] rfl mixed (by kernel_rfl) (⟨fun _ => up_and up_rv (up_and up_os (up_eq _)), trivial⟩) ?_
    refine L_ld (c := qA) rfl rfl .plain (fun _ _ h => ⟨h.ch, fun b hb _ => h.below.block b hb⟩) n9 v6 ?_
    refine L_p (.int .i64 (o0)) rfl rfl (P_move rfl) ?_
    refine L_p (.int .i64 (u0)) rfl rfl (P_move rfl) ?_
    refine L_ld (c := o8) rfl rfl .plain (fun _ _ h => ⟨h.ch, fun b hb _ => h.below.block b hb⟩) o9 v7 ?_
    refine L_p (.int .i64 (o0)) rfl rfl (P_move rfl) ?_
    refine L_p (ePtr o8 o0 1) rfl rfl (P_indexAddr (α := Str) Tryz.underlying88 Tryz.sizeOf9 rfl q8 rfl c8) ?_
    refine L_ld (c := Str.v (d7)) rfl rfl .plain (fun _ _ h => h.ch) t9 rfl ?_
    refine L_p (.int .i64 (u0)) rfl rfl (P_move rfl) ?_
    refine L_p (.int .u8 (UInt8.toNat (j1))) rfl rfl (P_indexS Tryz.underlying9 rfl rfl u9) ?_
    refine L_p (.bool ((j1 == (120 : UInt8)))) rfl rfl (P_u8 rfl rfl rfl) ?_
    refine L_p t8 rfl rfl (y9 ▸ P_build (vs := [(0, .int .i64 (o0)), (1, .int .i64 (u0)), (2, .bool ((j1 == (120 : UInt8))))]) [[.int .i64 0], [.int .i64 0], [.bool false]] lay_94 rfl rfl (.cons rfl (.cons rfl (.cons rfl .nil))) ⟨⟨_, rfl, rfl⟩, ⟨⟨_, rfl, rfl⟩, ⟨⟨_, rfl, rfl⟩, trivial⟩⟩⟩) ?_
    refine L_do (φ := fun v g w => RV g.m w ([(⟨o0, u0, (j1 == (120 : UInt8))⟩ : FaultSight)] : List FaultSight) v ∧ OS 3045 g w 94 ([(⟨o0, u0, (j1 == (120 : UInt8))⟩ : FaultSight)] : List FaultSight) v ∧ FullV v) rfl rfl .plain (fun g w hd => D_buildSlice (g := g) 3045 (xs := ([(⟨o0, u0, (j1 == (120 : UInt8))⟩ : FaultSight)] : List FaultSight)) (vs := [t8]) Tryz.underlying46 Tryz.sizeOf94 Tryz.zeroValue94 rfl rfl (.cons rfl .nil) (RVs.cons (r8.ext hd.1) RVs.nil) rfl rfl fun g' w' v hs o r hxt hfl => ⟨g', hxt, r, o, hfl⟩) (fun x5 hv => ?_)
    clear hv
    refine L_nil fun uA vC hall => ?_
    have hs := hall.1
    have hfr := hfr.ext hs
    have hmk := hmk.ext hs
    have o3 := o3.ext hs
    have hrec_0 := hrec_0.ext hs
    have j3 := j3.ext hs
    have i3 := i3.ext hs
    have d3 := d3.ext hs
    have o7 := o7.ext hs
    have o131 := o131.ext hs
    have xA := (word_all (A := fun g w => RV g.m w ([(⟨o0, u0, (j1 == (120 : UInt8))⟩ : FaultSight)] : List FaultSight) x5 ∧ OS 3045 g w 94 ([(⟨o0, u0, (j1 == (120 : UInt8))⟩ : FaultSight)] : List FaultSight) x5 ∧ FullV x5) 11 rfl hall).1
    have o158 := (word_all (A := fun g w => RV g.m w ([(⟨o0, u0, (j1 == (120 : UInt8))⟩ : FaultSight)] : List FaultSight) x5 ∧ OS 3045 g w 94 ([(⟨o0, u0, (j1 == (120 : UInt8))⟩ : FaultSight)] : List FaultSight) x5 ∧ FullV x5) 11 rfl hall).2.1
    clear hs hall
    obtain ⟨e7, z9, h⟩ := bsome h
    refine EL_do .plain rfl (D_append (g := uA) (i := 60600) Tryz.underlying46 info_94 rfl rfl o131 o7 rfl xA z9 fun yA xC zA hs o159 v8 _ => ?_)
    have hfr := hfr.stp hs
    have hmk := hmk.stp hs
    have o3 := o3.stp hs
    have hrec_0 := hrec_0.stp hs rfl
    have j3 := j3.stp hs rfl
    have i3 := i3.stp hs rfl
    have d3 := d3.stp hs
    refine EL_do .plain rfl (D_storeOc (g := yA) (v := zA) Tryz.sizeOf46 v6 j3 rfl v8 fun aB bB hs b161 cb => ?_)
    have x8 : OSF 2006 60600 0 aB bB 94 46 (e7 : List FaultSight) p2 := cb.osfr (rv_cells1 v8) (o159.stp hs rfl)
    clear cb
    have hfr := hfr.stp hs
    have hmk := hmk.stp hs
    have o3 := o3.stp hs
    have hrec_0 := hrec_0.stp hs rfl
    have i3 := i3.stp hs rfl
    have d3 := d3.stp hs
    refine EL_nil (blk_n ?_)
    obtain ⟨rfl, rfl⟩ := pairs2 h
    exact ⟨_, o3, ⟨hfr, hmk, b161, x8, i3, d3⟩, hrec_0, rfl, rfl⟩
   ·intro cB yC ds163 hsz hR hds
    obtain ⟨hfr, hmk, y8, u6_0_163, zB, jB⟩ := hR
    obtain ⟨D, hdse, hD, hDb⟩ := hds.1 rfl
    subst hdse
    replace hmk := MkF.push hmk0 hmk hD hDb
    clear hD hDb hds
    revert hmk
    generalize ({ target := .collected D, args := #[] } :: u7 : List Deferred) = aC
    intro hmk
    refine ⟨fun _ => ?_, fun k c hs _ => absurd hs (Nat.succ_ne_zero k).symm⟩
    refine blk_n ?_
    obtain rfl := sinj h
    exact hQ _ _ _ ⟨cB, hfr, hmk, v6, y8, u6_0_163⟩
  ·clear hx
   obtain ⟨a9, hfr, hmk, i6, c7, u6_0_164⟩ := hR
   refine E_seq (E_region (EL_do .plain rfl (D_loadOS (g := a9) Tryz.isAgg46 Tryz.sizeOf46 i6 c7 u6_0_164 fun dB d9 o165 => ?_)))
   refine EL_do .plain rfl (D_storeOc (g := a9) (v := dB) Tryz.sizeOf46 i6 c7 rfl d9 fun eB iB hs b166 cb => ?_)
   have cC : OSF 2006 60600 0 eB iB 94 46 (u3 : List FaultSight) p2 := cb.osfr (rv_cells1 d9) (o165.stp hs rfl)
   clear cb
   have hfr := hfr.stp hs
   have hmk := hmk.stp hs
   refine EL_at (.int .i64 (0)) rfl rfl ?_
   refine EL_nil (thn_n (E_ret (endM (.inr rfl) hmk fun aD bD hs => ?_)))
   have hfr := hfr.stp hs
   have b166 := b166.stp hs rfl
   obtain rfl := sinj h
   obtain ⟨ad168, cv168, hp168, bA, cr168⟩ := ob_read Tryz.isAgg46 Tryz.sizeOf46 b166
   exact endm_ct rfl rfl ((show _ = p2 from i6).trans hp168) bA (show _ = .int .i64 (0) from rfl) ⟨_, hfr, _, _, rfl, cr168, rfl⟩
def f13  : Option (Bool) :=
 (f34).bind fun y2 =>
 (f28 y2 (([(⟨(2 : Int), 0, (1 : Int), 0, false⟩ : FaultDamage)] : List FaultDamage)) ((2 : Int))).bind fun y9 =>
 (f34).bind fun y11 =>
 (f35 y11 ((⟨(1 : Int), (1 : Int), (2 : Int), 0, false⟩ : FaultDamage)) ((⟨(5 : Int), 0, 0, (4 : Int), false⟩ : FaultDamage))).bind fun o0 =>
 Option.bind (α := Bool) (
  bif (y9.2 == (0 : Int)) then
   bif (o0.2.2 == (0 : Int)) then
    bif (((y9.1).length : Int) == (2 : Int)) then
     (idx (y9.1) (0 : Int)).bind fun i5 =>
     bif ((i5).b == ((⟨[120, 46, 46, 46, 46, 46]⟩ : Str)).b) then
      (idx (y9.1) (1 : Int)).bind fun l5 =>
      bif ((l5).b == ((⟨[46, 46, 120, 46, 120, 46]⟩ : Str)).b) then
       bif (o0.1 == (1 : Int)) then
        some ((o0.2.1 == (2 : Int)))
       else
        some (false)
      else
       some (false)
     else
      some (false)
    else
     some (false)
   else
    some (false)
  else
   some (false)
  ) fun z4 =>
 some (z4)
theorem en13 : Enters Tryz.prog 13 := enters_of Tryz.func13 (by kernel_rfl) rfl
theorem wk13 {gI : Gh} {wI : World}   {r : Bool} (h : f13  = some r) : Fn Tryz.prog 13 #[] gI wI (fun _ _ v => v = .bool (r)) := by
 unfold f13 at h
 refine fn_of_E Tryz.func13 rfl (Nat.le_of_ble_eq_true rfl) fun g0 hm hfr => ?_
 show E _ 54 none _ _ _ _ _
 refine E_seq (E_region (EL_at (.bool false) rfl rfl ?_))
 refine EL_nil (thn_n (E_seq (E_region ?_)))
 obtain ⟨y2, hy2, h⟩ := bsome h
 refine EL_do .plain rfl (D_call (g := g0) (vs := []) en34 .nil (wk34  hy2) fun g1 w1_ v1 hs hr => ?_)
 have hfr := hfr.ext hs
 have r1 := hr
 refine EL_do .plain rfl (D_allocOc (g := g1) 2001 (⟨⟨0, []⟩, ⟨0, []⟩⟩ : FaultLoom) Tryz.zeroValue31 (fun m w => ⟨_, (rep_two (rep_two rep_int rep_nil) (rep_two rep_int rep_nil)), rfl⟩) fun g3 w3 p3 hs b3 cb => ?_)
 have hfr := hfr.stp hs
 have r1 := r1.stp hs
 have o8 : OSF 2001 60101 1 g3 w3 3 31 ([] : List Int) p3 := cb.osf (by rfl)
 have q8 : OSF 2001 60103 3 g3 w3 3 31 ([] : List Int) p3 := cb.osf (by rfl)
 clear cb
 refine EL_do .plain rfl (D_storeOc (g := g3) (v := v1) Tryz.sizeOf31 rfl b3 rfl r1 fun g4 w4 hs b4 cb => ?_)
 clear cb
 have hfr := hfr.stp hs
 refine EL_nil (thn_n (E_seq (E_region (EL_do .plain rfl (D_loadO (g := g4) Tryz.isAgg31 Tryz.sizeOf31 rfl b4 fun v5 r5 => ?_)))))
 have r6 : RV g4.m w4 (⟨(2 : Int), 0, (1 : Int), 0, false⟩ : FaultDamage) (.agg (setCh [[.int .i64 0], [.int .i64 0], [.int .i64 0], [.int .i64 0], [.bool false]] [(0, .int .i64 (2)), (2, .int .i64 (1))]).flatten.toArray) := RV_build rfl (rep_pair (rfl) (rep_pair (rep_int) (rep_pair (rfl) (rep_pair (rep_int) (rep_last (rep_bool))))))
 generalize j7 : (Value.agg (setCh [[.int .i64 0], [.int .i64 0], [.int .i64 0], [.int .i64 0], [.bool false]] [(0, .int .i64 (2)), (2, .int .i64 (1))]).flatten.toArray) = v6 at r6
 refine EL_p v6 (j7 ▸ P_build (vs := [(0, .int .i64 (2)), (2, .int .i64 (1))]) [[.int .i64 0], [.int .i64 0], [.int .i64 0], [.int .i64 0], [.bool false]] lay_39 rfl rfl (.cons rfl (.cons rfl .nil)) ⟨⟨_, rfl, rfl⟩, ⟨⟨_, rfl, rfl⟩, trivial⟩⟩) rfl ?_
 refine EL_do .plain rfl (D_buildSlice (g := g4) 3011 (xs := ([(⟨(2 : Int), 0, (1 : Int), 0, false⟩ : FaultDamage)] : List FaultDamage)) (vs := [v6]) Tryz.underlying41 Tryz.sizeOf39 Tryz.zeroValue39 rfl rfl (.cons rfl .nil) (RVs.cons r6 RVs.nil) rfl rfl fun g7 w7 v7 hs o7 r7 hxt hfl => ?_)
 have hfr := hfr.stp hs
 have r5 := r5.stp hs
 obtain ⟨y9, m7, h⟩ := bsome h
 refine EL_do .plain rfl (D_call (g := g7) (vs := [v5, v7, .int .i64 (2)]) en28 (.cons rfl (.cons rfl (.cons rfl .nil))) (wk28 r5 r7 m7) fun g8 w8_ v8 hs hr => ?_)
 have hfr := hfr.ext hs
 obtain ⟨i3, r8, rfl, u0, rfl⟩ := hr
 refine EL_mw (.tuple #[i3, .int .i64 (y9.2)]) rfl rfl ?_
 refine EL_p i3 (P_extract rfl rfl) rfl ?_
 refine EL_p (.int .i64 (y9.2)) (P_extract rfl rfl) rfl ?_
 refine EL_at i3 rfl rfl ?_
 refine EL_at (.int .i64 (y9.2)) rfl rfl ?_
 refine EL_nil (thn_n (E_seq (E_region ?_)))
 obtain ⟨y11, c7, h⟩ := bsome h
 refine EL_do .plain rfl (D_call (g := g8) (vs := []) en34 .nil (wk34  c7) fun q5 t5 n7 hs hr => ?_)
 have hfr := hfr.ext hs
 have u0 := u0.ext hs
 have u7 := hr
 have x6 : RV q5.m t5 (⟨(1 : Int), (1 : Int), (2 : Int), 0, false⟩ : FaultDamage) (.agg (setCh [[.int .i64 0], [.int .i64 0], [.int .i64 0], [.int .i64 0], [.bool false]] [(0, .int .i64 (1)), (1, .int .i64 (1)), (2, .int .i64 (2))]).flatten.toArray) := RV_build rfl (rep_pair (rfl) (rep_pair (rfl) (rep_pair (rfl) (rep_pair (rep_int) (rep_last (rep_bool))))))
 generalize d7 : (Value.agg (setCh [[.int .i64 0], [.int .i64 0], [.int .i64 0], [.int .i64 0], [.bool false]] [(0, .int .i64 (1)), (1, .int .i64 (1)), (2, .int .i64 (2))]).flatten.toArray) = y6 at x6
 refine EL_p y6 (d7 ▸ P_build (vs := [(0, .int .i64 (1)), (1, .int .i64 (1)), (2, .int .i64 (2))]) [[.int .i64 0], [.int .i64 0], [.int .i64 0], [.int .i64 0], [.bool false]] lay_39 rfl rfl (.cons rfl (.cons rfl (.cons rfl .nil))) ⟨⟨_, rfl, rfl⟩, ⟨⟨_, rfl, rfl⟩, ⟨⟨_, rfl, rfl⟩, trivial⟩⟩⟩) rfl ?_
 have a7 : RV q5.m t5 (⟨(5 : Int), 0, 0, (4 : Int), false⟩ : FaultDamage) (.agg (setCh [[.int .i64 0], [.int .i64 0], [.int .i64 0], [.int .i64 0], [.bool false]] [(0, .int .i64 (5)), (3, .int .i64 (4))]).flatten.toArray) := RV_build rfl (rep_pair (rfl) (rep_pair (rep_int) (rep_pair (rep_int) (rep_pair (rfl) (rep_last (rep_bool))))))
 generalize e7 : (Value.agg (setCh [[.int .i64 0], [.int .i64 0], [.int .i64 0], [.int .i64 0], [.bool false]] [(0, .int .i64 (5)), (3, .int .i64 (4))]).flatten.toArray) = b7 at a7
 refine EL_p b7 (e7 ▸ P_build (vs := [(0, .int .i64 (5)), (3, .int .i64 (4))]) [[.int .i64 0], [.int .i64 0], [.int .i64 0], [.int .i64 0], [.bool false]] lay_39 rfl rfl (.cons rfl (.cons rfl .nil)) ⟨⟨_, rfl, rfl⟩, ⟨⟨_, rfl, rfl⟩, trivial⟩⟩) rfl ?_
 obtain ⟨o0, i7, h⟩ := bsome h
 refine EL_do .plain rfl (D_call (g := q5) (vs := [n7, y6, b7]) en35 (.cons rfl (.cons rfl (.cons rfl .nil))) (wk35 u7 x6 a7 i7) fun z3 t8 y8 hs hr => ?_)
 have hfr := hfr.ext hs
 have u0 := u0.ext hs
 obtain ⟨l8, m8, n8, rfl, rfl, rfl, rfl⟩ := hr
 refine EL_mw (.tuple #[.int .i64 (o0.1), .int .i64 (o0.2.1), .int .i64 (o0.2.2)]) rfl rfl ?_
 refine EL_p (.int .i64 (o0.1)) (P_extract rfl rfl) rfl ?_
 refine EL_p (.int .i64 (o0.2.1)) (P_extract rfl rfl) rfl ?_
 refine EL_p (.int .i64 (o0.2.2)) (P_extract rfl rfl) rfl ?_
 refine EL_at (.int .i64 (o0.1)) rfl rfl ?_
 refine EL_at (.int .i64 (o0.2.1)) rfl rfl ?_
 refine EL_at (.int .i64 (o0.2.2)) rfl rfl ?_
 refine EL_nil (thn_n ?_)
 obtain ⟨z4, hx, h⟩ := bsome h
 refine E_join (fun e w => ∃ (g : Gh) , Fr gI wI g w ∧ e 0 = .bool (z4)) (fun Q' hQ => ?_) (fun x8 a9 hR => ?_)
 ·replace h := hx
  clear hx
  refine E_region (EL_mw (.int .i64 (y9.2)) rfl rfl ?_)
  refine EL_in (.bool ((y9.2 == (0 : Int)))) rfl rfl rfl rfl ?_
  refine EL_mw (.bool ((y9.2 == (0 : Int)))) rfl rfl ?_
  rcases csome h with ⟨j3, h⟩ | ⟨j3, h⟩
  ·refine EL_y (.int .i64 (o0.2.2)) (P_move rfl) rfl rfl j3 rfl ?_
   refine EL_y (.bool ((o0.2.2 == (0 : Int)))) (P_int rfl rfl rfl) rfl rfl j3 rfl ?_
   refine EL_p (.bool ((o0.2.2 == (0 : Int)))) (P_pick (b := (y9.2 == (0 : Int))) rfl (pick_t j3 rfl)) rfl ?_
   refine EL_mw (.bool ((o0.2.2 == (0 : Int)))) rfl rfl ?_
   rcases csome h with ⟨j1, h⟩ | ⟨j1, h⟩
   ·refine EL_y i3 (P_move rfl) rfl rfl j1 rfl ?_
    refine EL_y (.int .i64 ((y9.1).length : Int)) (P_len Tryz.underlying88 rfl u0) rfl rfl j1 rfl ?_
    refine EL_y (.bool ((((y9.1).length : Int) == (2 : Int)))) (P_int rfl rfl rfl) rfl rfl j1 rfl ?_
    refine EL_p (.bool ((((y9.1).length : Int) == (2 : Int)))) (P_pick (b := (o0.2.2 == (0 : Int))) rfl (pick_t j1 rfl)) rfl ?_
    refine EL_mw (.bool ((((y9.1).length : Int) == (2 : Int)))) rfl rfl ?_
    rcases csome h with ⟨z2, h⟩ | ⟨z2, h⟩
    ·refine EL_y i3 (P_move rfl) rfl rfl z2 rfl ?_
     obtain ⟨i5, x5, h⟩ := bsome h
     refine EL_y (ePtr i3 (0 : Int) 1) (P_indexAddr (α := Str) Tryz.underlying88 Tryz.sizeOf9 rfl u0 rfl x5) rfl rfl z2 rfl ?_
     have c8 := PT_idx u0 x5
     refine EL_do (.yes2 rfl rfl z2) rfl (D_load (g := z3) Tryz.isAgg9 Tryz.sizeOf9 rfl c8 fun d9 e8 => ?_)
     obtain rfl := RV_str.1 e8
     refine EL_y (.bool (((i5).b == ((⟨[120, 46, 46, 46, 46, 46]⟩ : Str)).b))) (P_str rfl rfl rfl) rfl rfl z2 rfl ?_
     refine EL_p (.bool (((i5).b == ((⟨[120, 46, 46, 46, 46, 46]⟩ : Str)).b))) (P_pick (b := (((y9.1).length : Int) == (2 : Int))) rfl (pick_t z2 rfl)) rfl ?_
     refine EL_mw (.bool (((i5).b == ((⟨[120, 46, 46, 46, 46, 46]⟩ : Str)).b))) rfl rfl ?_
     rcases csome h with ⟨d3, h⟩ | ⟨d3, h⟩
     ·refine EL_y i3 (P_move rfl) rfl rfl d3 rfl ?_
      obtain ⟨l5, i6, h⟩ := bsome h
      refine EL_y (ePtr i3 (1 : Int) 1) (P_indexAddr (α := Str) Tryz.underlying88 Tryz.sizeOf9 rfl u0 rfl i6) rfl rfl d3 rfl ?_
      have i8 := PT_idx u0 i6
      refine EL_do (.yes2 rfl rfl d3) rfl (D_load (g := z3) Tryz.isAgg9 Tryz.sizeOf9 rfl i8 fun e9 k8 => ?_)
      obtain rfl := RV_str.1 k8
      refine EL_y (.bool (((l5).b == ((⟨[46, 46, 120, 46, 120, 46]⟩ : Str)).b))) (P_str rfl rfl rfl) rfl rfl d3 rfl ?_
      refine EL_p (.bool (((l5).b == ((⟨[46, 46, 120, 46, 120, 46]⟩ : Str)).b))) (P_pick (b := ((i5).b == ((⟨[120, 46, 46, 46, 46, 46]⟩ : Str)).b)) rfl (pick_t d3 rfl)) rfl ?_
      refine EL_mw (.bool (((l5).b == ((⟨[46, 46, 120, 46, 120, 46]⟩ : Str)).b))) rfl rfl ?_
      rcases csome h with ⟨o3, h⟩ | ⟨o3, h⟩
      ·refine EL_y (.int .i64 (o0.1)) (P_move rfl) rfl rfl o3 rfl ?_
       refine EL_y (.bool ((o0.1 == (1 : Int)))) (P_int rfl rfl rfl) rfl rfl o3 rfl ?_
       refine EL_p (.bool ((o0.1 == (1 : Int)))) (P_pick (b := ((l5).b == ((⟨[46, 46, 120, 46, 120, 46]⟩ : Str)).b)) rfl (pick_t o3 rfl)) rfl ?_
       refine EL_mw (.bool ((o0.1 == (1 : Int)))) rfl rfl ?_
       rcases csome h with ⟨u3, h⟩ | ⟨u3, h⟩
       ·refine EL_y (.int .i64 (o0.2.1)) (P_move rfl) rfl rfl u3 rfl ?_
        refine EL_y (.bool ((o0.2.1 == (2 : Int)))) (P_int rfl rfl rfl) rfl rfl u3 rfl ?_
        refine EL_p (.bool ((o0.2.1 == (2 : Int)))) (P_pick (b := (o0.1 == (1 : Int))) rfl (pick_t u3 rfl)) rfl ?_
        refine EL_at (.bool ((o0.2.1 == (2 : Int)))) rfl rfl ?_
        refine EL_nil ?_
        obtain rfl := sinj h
        exact hQ _ _ ⟨z3, hfr, rfl⟩
       ·refine EL_s rfl rfl u3 rfl rfl ?_
        refine EL_s rfl rfl u3 rfl rfl ?_
        refine EL_p (.bool false) (P_pick (b := (o0.1 == (1 : Int))) rfl (pick_f u3 rfl)) rfl ?_
        refine EL_at (.bool false) rfl rfl ?_
        refine EL_nil ?_
        obtain rfl := sinj h
        exact hQ _ _ ⟨z3, hfr, rfl⟩
      ·refine EL_s rfl rfl o3 rfl rfl ?_
       refine EL_s rfl rfl o3 rfl rfl ?_
       refine EL_p (.bool false) (P_pick (b := ((l5).b == ((⟨[46, 46, 120, 46, 120, 46]⟩ : Str)).b)) rfl (pick_f o3 rfl)) rfl ?_
       refine EL_dead 4 rfl ?_
       refine EL_at (.bool false) rfl rfl ?_
       refine EL_nil ?_
       obtain rfl := sinj h
       exact hQ _ _ ⟨z3, hfr, rfl⟩
     ·refine EL_s rfl rfl d3 rfl rfl ?_
      iterate 3 refine EL_s rfl rfl d3 rfl rfl ?_
      refine EL_p (.bool false) (P_pick (b := ((i5).b == ((⟨[120, 46, 46, 46, 46, 46]⟩ : Str)).b)) rfl (pick_f d3 rfl)) rfl ?_
      refine EL_dead 8 rfl ?_
      refine EL_at (.bool false) rfl rfl ?_
      refine EL_nil ?_
      obtain rfl := sinj h
      exact hQ _ _ ⟨z3, hfr, rfl⟩
    ·refine EL_s rfl rfl z2 rfl rfl ?_
     iterate 3 refine EL_s rfl rfl z2 rfl rfl ?_
     refine EL_p (.bool false) (P_pick (b := (((y9.1).length : Int) == (2 : Int))) rfl (pick_f z2 rfl)) rfl ?_
     refine EL_dead 14 rfl ?_
     refine EL_at (.bool false) rfl rfl ?_
     refine EL_nil ?_
     obtain rfl := sinj h
     exact hQ _ _ ⟨z3, hfr, rfl⟩
   ·refine EL_s rfl rfl j1 rfl rfl ?_
    refine EL_s rfl rfl j1 rfl rfl ?_
    refine EL_s rfl rfl j1 rfl rfl ?_
    refine EL_p (.bool false) (P_pick (b := (o0.2.2 == (0 : Int))) rfl (pick_f j1 rfl)) rfl ?_
    refine EL_dead 20 rfl ?_
    refine EL_at (.bool false) rfl rfl ?_
    refine EL_nil ?_
    obtain rfl := sinj h
    exact hQ _ _ ⟨z3, hfr, rfl⟩
  ·refine EL_s rfl rfl j3 rfl rfl ?_
   refine EL_s rfl rfl j3 rfl rfl ?_
   refine EL_p (.bool false) (P_pick (b := (y9.2 == (0 : Int))) rfl (pick_f j3 rfl)) rfl ?_
   refine EL_dead 25 rfl ?_
   refine EL_at (.bool false) rfl rfl ?_
   refine EL_nil ?_
   obtain rfl := sinj h
   exact hQ _ _ ⟨z3, hfr, rfl⟩
 ·clear hx
  obtain ⟨i9, hfr, j6⟩ := hR
  refine E_ret ?_
  obtain rfl := sinj h
  exact end1 rfl rfl (show _ = .bool (z4) from j6) ⟨_, hfr, rfl⟩
def f3 (x0 : List UInt16) (x1 : Vector UInt8 3) (x2 : Vector UInt8 4) : Option (Bool) :=
 (idx (x2).toList (2 : Int)).bind fun y3 =>
 (f5 y3 x0).bind fun y7 =>
 (f6 x2).bind fun x6 =>
 (f7 y7 x1).bind fun o3 =>
 (f9 y7).bind fun oH =>
 (f8 oH).bind fun v7 =>
 jn (σ := Unit) (fun _ =>
  Option.bind (α := Bool) (
   lp (σ := Bool × Int) (fun kD (z4, u3) =>
    jn (σ := Unit) (fun _ =>
     Option.bind (α := Bool) (
      bif z4 then
       some (true)
      else
       (idx (v7.1) u3).bind fun o9 =>
       some ((decide (o9 = o3)))
      ) fun o8 =>
     kD (o8, (w64 (u3 + (1 : Int))))
     ) fun lD =>
    bif (decide (u3 < ((v7.1).length : Int))) then
     lD ()
    else
     some (z4)
    ) big (false, (0 : Int))
   ) fun u0 =>
  jn (σ := Unit) (fun _ =>
   (f9 y7).bind fun mD =>
   (f10 mD ([]) (((((y7).Design).Rows).length : Int))).bind fun l5 =>
   Option.bind (α := Bool) (
    bif (l5.2 == (0 : Int)) then
     bif (((l5.1).length : Int) == (0 : Int)) then
      (f13).bind fun a9 =>
      bif a9 then
       (f14).bind fun nA =>
       some (nA)
      else
       some (false)
     else
      some (false)
    else
     some (false)
    ) fun q8 =>
   some (q8)
   ) fun nD =>
  lp (σ := Int × Int) (fun oD (q5, z2) =>
   jn (σ := Unit) (fun _ =>
    jn (σ := Int) (fun d9 =>
     oD (d9, (w64 (z2 + (1 : Int))))
     ) fun sD =>
    (f9 y7).bind fun e9 =>
    (f10 e9 (([o3] : List FaultDamage)) ((w64 (z2 * ((((y7).Design).Rows).length : Int))))).bind fun j1 =>
    (f12 x6).bind fun tD =>
    (f11 tD ((⟨0, (50 : Int), (5000 : Int), [], (min64 (100 : Int) (((j1.1 : List FaultSight)).length : Int))⟩ : PayPiece))).bind fun o0 =>
    jn (σ := Unit) (fun _ =>
     sD (o0.2.1)
     ) fun uD =>
    Option.bind (α := Bool) (
     bif (j1.2 != (0 : Int)) then
      some (true)
     else
      bif (o0.2.2.2 != (0 : Int)) then
       some (true)
      else
       bif (!((decide ((((j1.1 : List FaultSight)).length : Int) > (0 : Int))) == u0)) then
        some (true)
       else
        bif (decide (o0.2.1 < q5)) then
         some (true)
        else
         bif (decide ((w64 (o0.2.1 * (1000 : Int))) > (w64 (o0.1 * (x6).Cap)))) then
          some (true)
         else
          bif (o0.1 != (w64 (o0.2.1 + o0.2.2.1))) then
           some (true)
          else
           bif (!u0) then
            some ((o0.2.1 != (0 : Int)))
           else
            some (false)
     ) fun c8 =>
    bif c8 then
     some (false)
    else
     uD ()
    ) fun vD =>
   bif (decide (z2 ≤ (2 : Int))) then
    vD ()
   else
    nD ()
   ) big ((0 : Int), (1 : Int))
  ) fun pH =>
 bif (v7.2 != (0 : Int)) then
  some (false)
 else
  pH ()
theorem wk3 {gI : Gh} {wI : World} {x0 : List UInt16} {x1 : Vector UInt8 3} {x2 : Vector UInt8 4} {up0 : Value} (rp0 : RV gI.m wI x0 up0) {up1 : Value} (rp1 : RV gI.m wI x1 up1) {up2 : Value} (rp2 : RV gI.m wI x2 up2) {r : Bool} (h : f3 x0 x1 x2 = some r) : Fn Tryz.prog 3 #[up0, up1, up2] gI wI (fun _ _ v => v = .bool (r)) := by
 unfold f3 at h
 refine fn_of_E Tryz.func3 rfl (Nat.le_of_ble_eq_true rfl) fun g0 hm hfr => ?_
 have rp0 : RV g0.m wI x0 up0 := hm ▸ rp0
 have rp1 : RV g0.m wI x1 up1 := hm ▸ rp1
 have rp2 : RV g0.m wI x2 up2 := hm ▸ rp2
 show E _ 151 none _ _ _ _ _
 refine E_seq (E_region (EL_do .plain rfl (D_box (g := g0) rfl rp1 fun g1 w1 p1 hs q1 => ?_)))
 have hfr := hfr.ext hs
 have rp0 := rp0.ext hs
 have rp2 := rp2.ext hs
 refine EL_do .plain rfl (D_box (g := g1) rfl rp2 fun g2 w2 p2 hs q2 => ?_)
 have hfr := hfr.ext hs
 have rp0 := rp0.ext hs
 have q1 := q1.ext hs
 refine EL_at (.bool false) rfl rfl ?_
 refine EL_nil (thn_n (E_seq ?_))
 obtain ⟨y3, hy3, h⟩ := bsome h
 have q4 := PT_idxA q2 hy3
 refine L_load (x := .tmp 25) Tryz.isAgg5 Tryz.sizeOf5 q4 fun v5 r5 mJ => ?_
 obtain rfl := RV_u8.1 r5
 obtain ⟨y7, nJ, h⟩ := bsome h
 refine L_load (x := .tmp 5) Tryz.isAgg24 Tryz.sizeOf24 q2 fun v8 r8 oJ => ?_
 obtain ⟨x6, vH, h⟩ := bsome h
 refine E_drawL (g := g2) (n := 8) [(3, (fun v g w => RV g.m w y7 v)), (5, (fun v g w => RV g.m w x6 v)), (6, (fun v g w => OB 2007 g w 31 (⟨⟨0, []⟩, ⟨0, []⟩⟩ : FaultLoom) v)), (7, (fun v g w => OB 2008 g w 35 (⟨[], [], 0, 0⟩ : PayList) v))] [0, 1, 2, 3, 4, 5, 6, 7] rfl mixed (by kernel_rfl) (⟨fun _ => up_rv, fun _ => up_rv, fun _ => up_ob, fun _ => up_ob, trivial⟩) ?_
 refine L_p (fPtr p2 (((2 : Int) : Int).toNat * 1)) rfl rfl (P_indexAddrA (α := UInt8) Tryz.underlying24 Tryz.sizeOf5 rfl (PT.ptr q2) rfl hy3) ?_
 refine L_ld (c := .int .u8 (UInt8.toNat (y3))) rfl rfl .plain (fun _ _ h => h.ch) mJ rfl ?_
 refine L_p up0 rfl rfl (P_move rfl) ?_
 refine L_do (φ := fun v g w => RV g.m w y7 v) rfl rfl .plain (fun g w hd => D_call (g := g) (vs := [.int .u8 (UInt8.toNat (y3)), up0]) en5 (.cons rfl (.cons rfl .nil)) (wk5 (rp0.ext hd.1) nJ) fun g' w' v hs hr => ⟨g', hs, hr⟩) (fun v6 hv => ?_)
 obtain ⟨_, _, _, rq6⟩ := hv
 refine L_ld (c := v8) rfl rfl .plain (fun _ _ h => h.ch) oJ rfl ?_
 refine L_do (φ := fun v g w => RV g.m w x6 v) rfl rfl .plain (fun g w hd => D_call (g := g) (vs := [v8]) en6 (.cons rfl .nil) (wk6 (r8.ext hd.1) vH) fun g' w' v hs hr => ⟨g', hs, hr⟩) (fun v9 hv => ?_)
 obtain ⟨_, _, _, rq9⟩ := hv
 refine L_do (φ := fun v g w => OB 2007 g w 31 (⟨⟨0, []⟩, ⟨0, []⟩⟩ : FaultLoom) v) rfl rfl .plain (fun g w hd => D_allocX (g := g) 2007 (⟨⟨0, []⟩, ⟨0, []⟩⟩ : FaultLoom) Tryz.zeroValue31 (fun m w => ⟨_, (rep_two (rep_two rep_int rep_nil) (rep_two rep_int rep_nil)), rfl⟩) fun g' w' v hs b => ⟨g', hs, b⟩) (fun z3 hv => ?_)
 clear hv
 refine L_do (φ := fun v g w => OB 2008 g w 35 (⟨[], [], 0, 0⟩ : PayList) v) rfl rfl .plain (fun g w hd => D_allocX (g := g) 2008 (⟨[], [], 0, 0⟩ : PayList) Tryz.zeroValue35 (fun m w => ⟨_, (rep_two rep_nil (rep_two rep_nil (rep_two rep_int rep_int))), rfl⟩) fun g' w' v hs b => ⟨g', hs, b⟩) (fun y6 hv => ?_)
 clear hv
 refine L_nil fun pJ tM hall => ?_
 have hs := hall.1
 have hfr := hfr.ext hs
 have q1 := q1.ext hs
 have qJ := (word_all (A := fun g w => RV g.m w y7 v6) 3 rfl hall)
 have xD := (word_all (A := fun g w => RV g.m w x6 v9) 5 rfl hall)
 have b26 := (word_all (A := fun g w => OB 2007 g w 31 (⟨⟨0, []⟩, ⟨0, []⟩⟩ : FaultLoom) z3) 6 rfl hall)
 have b27 := (word_all (A := fun g w => OB 2008 g w 35 (⟨[], [], 0, 0⟩ : PayList) y6) 7 rfl hall)
 clear hs hall
 refine EL_do .plain rfl (D_storeOc (g := pJ) (v := v6) Tryz.sizeOf31 rfl b26 rfl qJ fun rJ uM hs b28 cb => ?_)
 clear cb
 have hfr := hfr.stp hs
 have q1 := q1.stp hs
 have xD := xD.stp hs
 have b27 := b27.stp hs rfl
 refine EL_do .plain rfl (D_storeOc (g := rJ) (v := v9) Tryz.sizeOf35 rfl b27 rfl xD fun sJ vM hs b29 cb => ?_)
 clear cb
 have hfr := hfr.stp hs
 have q1 := q1.stp hs
 have b28 := b28.stp hs rfl
 refine EL_nil (thn_n (E_seq (L_loadO (x := .tmp 32) (SubS.comp part_FaultLoom_1 part_Design_1 rfl).1 Tryz.isAgg25 Tryz.sizeOf25 b28 fun tJ uJ xH => ?_)))
 refine L_loadO0 (x := .tmp 7) Tryz.isAgg31 Tryz.sizeOf31 b28 fun qH vJ yH => ?_
 refine L_load (x := .tmp 4) Tryz.isAgg23 Tryz.sizeOf23 q1 fun sH xJ zH => ?_
 obtain ⟨o3, aI, h⟩ := bsome h
 refine E_drawL (g := sJ) (n := 9) [(6, (fun v g w => RV g.m w o3 v)), (7, (fun v g w => OB 2010 g w 39 (⟨0, 0, 0, 0, false⟩ : FaultDamage) v))] [0, 1, 2, 3, 4, 5, 6, 7, 8] rfl mixed (by kernel_rfl) (⟨fun _ => up_rv, fun _ => up_ob, trivial⟩) ?_
 refine L_p (fPtr z3 2) rfl rfl (P_fieldAddr at_31_1 rfl (OB.ptr b28)) ?_
 refine L_p (fPtr z3 3) rfl rfl (P_fieldAddr2 (o1 := 2) rfl at_29_1 rfl (OB.ptr b28)) ?_
 refine L_ld (c := tJ) rfl rfl .plain (fun _ _ h => ⟨h.ch, fun b hb _ => h.below.block b hb⟩) xH rfl ?_
 refine L_p (.int .i64 ((((y7).Design).Rows).length : Int)) rfl rfl (P_len Tryz.underlying25 rfl uJ) ?_
 refine L_ld (c := qH) rfl rfl .plain (fun _ _ h => ⟨h.ch, fun b hb _ => h.below.block b hb⟩) yH rfl ?_
 refine L_ld (c := sH) rfl rfl .plain (fun _ _ h => h.ch) zH rfl ?_
 refine L_do (φ := fun v g w => RV g.m w o3 v) rfl rfl .plain (fun g w hd => D_call (g := g) (vs := [qH, sH]) en7 (.cons rfl (.cons rfl .nil)) (wk7 (vJ.ext hd.1) (xJ.ext hd.1) aI) fun g' w' v hs hr => ⟨g', hs, hr⟩) (fun tH hv => ?_)
 obtain ⟨_, _, _, rq35⟩ := hv
 refine L_do (φ := fun v g w => OB 2010 g w 39 (⟨0, 0, 0, 0, false⟩ : FaultDamage) v) rfl rfl .plain (fun g w hd => D_allocX (g := g) 2010 (⟨0, 0, 0, 0, false⟩ : FaultDamage) Tryz.zeroValue39 (fun m w => ⟨_, (rep_two rep_int (rep_two rep_int (rep_two rep_int (rep_two rep_int rep_bool)))), rfl⟩) fun g' w' v hs b => ⟨g', hs, b⟩) (fun a7 hv => ?_)
 clear hv
 refine L_p (.int .i64 ((((y7).Design).Rows).length : Int)) rfl rfl (P_assign rfl) ?_
 refine L_nil fun yJ xM hall => ?_
 have hs := hall.1
 have hfr := hfr.ext hs
 have b28 := b28.ext hs
 have b29 := b29.ext hs
 have zJ := (word_all (A := fun g w => RV g.m w o3 tH) 6 rfl hall)
 have b60 := (word_all (A := fun g w => OB 2010 g w 39 (⟨0, 0, 0, 0, false⟩ : FaultDamage) a7) 7 rfl hall)
 clear hs hall
 refine EL_do .plain rfl (D_storeOc (g := yJ) (v := tH) Tryz.sizeOf39 rfl b60 rfl zJ fun uH yM hs b62 cb => ?_)
 clear cb
 have hfr := hfr.stp hs
 have b28 := b28.stp hs rfl
 have b29 := b29.stp hs rfl
 refine EL_nil (thn_n (E_seq (E_region (EL_do .plain rfl (D_loadO (g := uH) Tryz.isAgg31 Tryz.sizeOf31 rfl b28 fun aK bK => ?_)))))
 obtain ⟨oH, bI, h⟩ := bsome h
 refine EL_do .plain rfl (D_call (g := uH) (vs := [aK]) en9 (.cons rfl .nil) (wk9 bK bI) fun cK nL dK hs hr => ?_)
 have hfr := hfr.ext hs
 have b28 := b28.ext hs
 have b29 := b29.ext hs
 have b62 := b62.ext hs
 have eK := hr
 obtain ⟨v7, cI, h⟩ := bsome h
 refine EL_do .plain rfl (D_call (g := cK) (vs := [dK]) en8 (.cons rfl .nil) (wk8 eK cI) fun lK oL zM hs hr => ?_)
 have hfr := hfr.ext hs
 have b28 := b28.ext hs
 have b29 := b29.ext hs
 have b62 := b62.ext hs
 obtain ⟨t5, tK, rfl, jG, rfl⟩ := hr
 refine EL_mw (.tuple #[t5, .int .i64 (v7.2)]) rfl rfl ?_
 refine EL_p t5 (P_extract rfl rfl) rfl ?_
 refine EL_p (.int .i64 (v7.2)) (P_extract rfl rfl) rfl ?_
 refine EL_at t5 rfl rfl ?_
 refine EL_at (.int .i64 (v7.2)) rfl rfl ?_
 refine EL_nil (thn_n (E_joinC h (fun (s : Unit) e w => ∃ (g : Gh) , Fr gI wI g w ∧ e 7 = z3 ∧ OB 2007 g w 31 (y7 : FaultLoom) z3 ∧ e 8 = y6 ∧ OB 2008 g w 35 (x6 : PayList) y6 ∧ e 9 = .int .i64 (((((y7).Design).Rows).length : Int)) ∧ e 10 = a7 ∧ OB 2010 g w 39 (o3 : FaultDamage) a7 ∧ e 11 = t5 ∧ RV g.m w (v7.1 : List FaultDamage) t5) (fun X70 pH dI h => ?_) ?_))
 ·refine E_seq (E_region (EL_mw (.int .i64 (v7.2)) rfl rfl ?_))
  refine EL_in (.bool ((v7.2 != (0 : Int)))) rfl rfl rfl rfl ?_
  refine EL_nil (thn_n ?_)
  rcases csome h with ⟨iB, h⟩ | ⟨iB, h⟩
  ·refine E_ct iB rfl ?_
   refine E_seq (E_region (EL_at (.bool false) rfl rfl ?_))
   refine EL_nil (thn_n (E_ret (thn_r ?_)))
   obtain rfl := sinj h
   exact end1 rfl rfl (show _ = .bool false from rfl) ⟨_, hfr, rfl⟩
  ·refine E_cf iB rfl ?_
   exact E_skip (thn_n (dI () _ _ ⟨lK, hfr, rfl, b28, rfl, b29, rfl, rfl, b62, rfl, jG⟩ h))
 ·rintro _ pL bN ⟨mK, hfr, kG, lG, mG, nG, oG, yD, zD, aE, bE⟩ h
  refine E_seq (E_region (EL_at (.bool false) rfl rfl ?_))
  refine EL_at (.int .i64 (0)) rfl rfl ?_
  refine EL_nil (thn_n ?_)
  obtain ⟨u0, hx, h⟩ := bsome h
  refine E_join (fun e w => ∃ (g : Gh) , Fr gI wI g w ∧ e 7 = z3 ∧ OB 2007 g w 31 (y7 : FaultLoom) z3 ∧ e 8 = y6 ∧ OB 2008 g w 35 (x6 : PayList) y6 ∧ e 9 = .int .i64 (((((y7).Design).Rows).length : Int)) ∧ e 10 = a7 ∧ OB 2010 g w 39 (o3 : FaultDamage) a7 ∧ e 13 = .bool (u0) ∧ e 14 = .int .i64 ((0 : Int))) (fun Q' hQ => ?_) (fun uK qL hR => ?_)
  ·replace h := hx
   clear hx
   refine E_seq (E_region (EL_at (.int .i64 (0)) rfl rfl ?_))
   refine EL_nil (thn_n (E_block ?_))
   refine E_lp h (fun (s : Bool × Int) e w => ∃ (g : Gh) , Fr gI wI g w ∧ e 7 = z3 ∧ OB 2007 g w 31 (y7 : FaultLoom) z3 ∧ e 8 = y6 ∧ OB 2008 g w 35 (x6 : PayList) y6 ∧ e 9 = .int .i64 (((((y7).Design).Rows).length : Int)) ∧ e 10 = a7 ∧ OB 2010 g w 39 (o3 : FaultDamage) a7 ∧ e 11 = t5 ∧ RV g.m w (v7.1 : List FaultDamage) t5 ∧ e 13 = .bool (s.1) ∧ e 14 = .int .i64 ((0 : Int)) ∧ e 15 = .int .i64 (s.2)) ⟨mK, hfr, kG, lG, mG, nG, oG, yD, zD, aE, bE, rfl, rfl, rfl⟩ (fun X162 kD pG => ?_)
   rintro ⟨z4, u3⟩ vK rL ⟨cE, hfr, rA, sA, uA, xA, yA, u9, y9, z9, bA, gA, iA, jA⟩ h
   refine E_joinC h (fun (s : Unit) e w => ∃ (g : Gh) , Fr gI wI g w ∧ e 7 = z3 ∧ OB 2007 g w 31 (y7 : FaultLoom) z3 ∧ e 8 = y6 ∧ OB 2008 g w 35 (x6 : PayList) y6 ∧ e 9 = .int .i64 (((((y7).Design).Rows).length : Int)) ∧ e 10 = a7 ∧ OB 2010 g w 39 (o3 : FaultDamage) a7 ∧ e 11 = t5 ∧ RV g.m w (v7.1 : List FaultDamage) t5 ∧ e 13 = .bool (z4) ∧ e 14 = .int .i64 ((0 : Int)) ∧ e 15 = .int .i64 (u3)) (fun X165 lD qG h => ?_) ?_
   ·refine E_seq (E_region (EL_mv jA rfl ?_))
    refine EL_mv z9 rfl ?_
    refine EL_p (.int .i64 ((v7.1).length : Int)) (P_len Tryz.underlying41 rfl bA) rfl ?_
    refine EL_in (.bool ((decide (u3 < ((v7.1).length : Int))))) rfl rfl rfl rfl ?_
    refine EL_nil (thn_n ?_)
    rcases csome h with ⟨oA, h⟩ | ⟨oA, h⟩
    ·refine E_ct oA rfl ?_
     exact E_skip (thn_n (qG () _ _ ⟨cE, hfr, rA, sA, uA, xA, yA, u9, y9, z9, bA, gA, iA, jA⟩ h))
    ·refine E_cf oA rfl ?_
     refine E_exit ?_
     refine thn_e ?_
     refine thn_e ?_
     refine blk_hit ?_
     obtain rfl := sinj h
     exact hQ _ _ ⟨cE, hfr, rA, sA, uA, xA, yA, u9, y9, gA, iA⟩
   ·rintro _ xK tL ⟨dE, hfr, zA, i8, aB, k8, bB, i9, i7, k9, d7, kA, lA, l9⟩ h
    obtain ⟨o8, hx, h⟩ := bsome h
    refine E_join (fun e w => ∃ (g : Gh) , Fr gI wI g w ∧ e 7 = z3 ∧ OB 2007 g w 31 (y7 : FaultLoom) z3 ∧ e 8 = y6 ∧ OB 2008 g w 35 (x6 : PayList) y6 ∧ e 9 = .int .i64 (((((y7).Design).Rows).length : Int)) ∧ e 10 = a7 ∧ OB 2010 g w 39 (o3 : FaultDamage) a7 ∧ e 11 = t5 ∧ RV g.m w (v7.1 : List FaultDamage) t5 ∧ e 13 = .bool (o8) ∧ e 14 = .int .i64 ((0 : Int)) ∧ e 15 = .int .i64 (u3)) (fun Q' hQ => ?_) (fun yK uL hR => ?_)
    ·replace h := hx
     clear hx
     refine E_block ?_
     rcases csome h with ⟨j7, h⟩ | ⟨j7, h⟩
     ·refine E_drawL (g := dE) (n := 10) [] [0, 1, 2, 3, 4, 5, 6, 7, 8, 9] rfl mixed (by kernel_rfl) trivial ?_
      refine L_p (.bool (z4)) rfl rfl (P_move kA) ?_
      refine L_p (.bool (z4)) rfl rfl (P_move rfl) ?_
      iterate 6 refine L_s rfl rfl rfl j7 rfl ?_
      refine L_p (.bool true) rfl rfl (P_pick (b := z4) rfl (pick_t j7 rfl)) ?_
      refine L_p (.bool true) rfl rfl (P_assign rfl) ?_
      refine L_nl fun iI vL hs => ?_
      have hfr := hfr.ext hs
      have i8 := i8.ext hs
      have k8 := k8.ext hs
      have i7 := i7.ext hs
      have d7 := d7.ext hs
      clear hs
      refine EL_nil (blk_n ?_)
      obtain rfl := sinj h
      exact hQ _ _ ⟨iI, hfr, zA, i8, aB, k8, bB, i9, i7, k9, d7, rfl, lA, l9⟩
     ·obtain ⟨o9, lB, h⟩ := bsome h
      have jI := PT_idx d7 lB
      refine L_load (x := .tmp 56) Tryz.isAgg39 Tryz.sizeOf39 jI fun kI lI rG => ?_
      refine L_loadO0 (x := .tmp 10) Tryz.isAgg39 Tryz.sizeOf39 i7 fun mI nI sG => ?_
      refine E_drawL (g := dE) (n := 10) [] [0, 1, 2, 3, 4, 5, 6, 7, 8, 9] rfl mixed (by kernel_rfl) trivial ?_
      refine L_p (.bool (z4)) rfl rfl (P_move kA) ?_
      refine L_p (.bool (z4)) rfl rfl (P_move rfl) ?_
      refine L_y t5 rfl rfl rfl rfl j7 (P_move k9) ?_
      refine L_y (.int .i64 (u3)) rfl rfl rfl rfl j7 (P_move l9) ?_
      refine L_y (ePtr t5 u3 5) rfl rfl rfl rfl j7 (P_indexAddr (α := FaultDamage) Tryz.underlying41 Tryz.sizeOf39 rfl d7 rfl lB) ?_
      refine L_ld (c := kI) rfl rfl (.yes2 rfl rfl j7) (fun _ _ h => h.ch) rG rfl ?_
      refine L_ld (c := mI) rfl rfl (.yes2 rfl rfl j7) (fun _ _ h => ⟨h.ch, fun b hb _ => h.below.block b hb⟩) sG i9 ?_
      refine L_y (.bool ((decide (o9 = o3)))) rfl rfl rfl rfl j7 (P_seq seq_39 rfl eg_39 rfl rfl lI nI) ?_
      refine L_p (.bool ((decide (o9 = o3)))) rfl rfl (P_pick (b := z4) rfl (pick_f j7 rfl)) ?_
      refine L_p (.bool ((decide (o9 = o3)))) rfl rfl (P_assign rfl) ?_
      refine L_nl fun oI xL hs => ?_
      have hfr := hfr.ext hs
      have i8 := i8.ext hs
      have k8 := k8.ext hs
      have i7 := i7.ext hs
      have d7 := d7.ext hs
      clear hs
      refine EL_nil (blk_n ?_)
      obtain rfl := sinj h
      exact hQ _ _ ⟨oI, hfr, zA, i8, aB, k8, bB, i9, i7, k9, d7, rfl, lA, l9⟩
    ·clear hx
     obtain ⟨pI, hfr, eE, gE, iE, jE, kE, mB, nB, oB, tB, vB, xB, yB⟩ := hR
     refine E_region (EL_mv yB rfl ?_)
     refine EL_in (.int .i64 ((w64 (u3 + (1 : Int))))) rfl rfl rfl rfl ?_
     refine EL_at (.int .i64 ((w64 (u3 + (1 : Int))))) rfl rfl ?_
     exact EL_nil (thn_n (pG (o8, (w64 (u3 + (1 : Int)))) _ _ ⟨pI, hfr, eE, gE, iE, jE, kE, mB, nB, oB, tB, vB, xB, rfl⟩ h))
  ·clear hx
   obtain ⟨qI, hfr, lE, mE, nE, oE, rE, zB, aC, cC, dC⟩ := hR
   refine E_joinC h (fun (s : Unit) e w => ∃ (g : Gh) , Fr gI wI g w ∧ e 7 = z3 ∧ OB 2007 g w 31 (y7 : FaultLoom) z3 ∧ e 9 = .int .i64 (((((y7).Design).Rows).length : Int))) (fun X412 nD tG h => ?_) ?_
   ·refine E_seq (E_region (EL_at (.int .i64 (1)) rfl rfl ?_))
    refine EL_nil (thn_n (E_block ?_))
    refine E_lp h (fun (s : Int × Int) e w => ∃ (g : Gh) , Fr gI wI g w ∧ e 7 = z3 ∧ OB 2007 g w 31 (y7 : FaultLoom) z3 ∧ e 8 = y6 ∧ OB 2008 g w 35 (x6 : PayList) y6 ∧ e 9 = .int .i64 (((((y7).Design).Rows).length : Int)) ∧ e 10 = a7 ∧ OB 2010 g w 39 (o3 : FaultDamage) a7 ∧ e 13 = .bool (u0) ∧ e 14 = .int .i64 (s.1) ∧ e 16 = .int .i64 (s.2)) ⟨qI, hfr, lE, mE, nE, oE, rE, zB, aC, cC, dC, rfl⟩ (fun X413 oD uG => ?_)
    rintro ⟨q5, z2⟩ zK yL ⟨sE, hfr, cB, dB, tE, uE, eB, eC, iC, jC, kC, mA⟩ h
    refine E_joinC h (fun (s : Unit) e w => ∃ (g : Gh) , Fr gI wI g w ∧ e 7 = z3 ∧ OB 2007 g w 31 (y7 : FaultLoom) z3 ∧ e 8 = y6 ∧ OB 2008 g w 35 (x6 : PayList) y6 ∧ e 9 = .int .i64 (((((y7).Design).Rows).length : Int)) ∧ e 10 = a7 ∧ OB 2010 g w 39 (o3 : FaultDamage) a7 ∧ e 13 = .bool (u0) ∧ e 14 = .int .i64 (q5) ∧ e 16 = .int .i64 (z2)) (fun X416 vD vG h => ?_) ?_
    ·refine E_seq (E_region (EL_mv mA rfl ?_))
     refine EL_in (.bool ((decide (z2 ≤ (2 : Int))))) rfl rfl rfl rfl ?_
     refine EL_nil (thn_n ?_)
     rcases csome h with ⟨pA, h⟩ | ⟨pA, h⟩
     ·refine E_ct pA rfl ?_
      exact E_skip (thn_n (vG () _ _ ⟨sE, hfr, cB, dB, tE, uE, eB, eC, iC, jC, kC, mA⟩ h))
     ·refine E_cf pA rfl ?_
      refine E_exit ?_
      refine thn_e ?_
      refine thn_e ?_
      refine blk_hit ?_
      exact thn_n (tG () _ _ ⟨sE, hfr, cB, dB, eB⟩ h)
    ·rintro _ aL zL ⟨rI, hfr, e7, j3, b7, i3, g7, x5, d3, i5, lC, i6⟩ h
     refine E_joinC h (fun (s : Int) e w => ∃ (g : Gh) , Fr gI wI g w ∧ e 7 = z3 ∧ OB 2007 g w 31 (y7 : FaultLoom) z3 ∧ e 8 = y6 ∧ OB 2008 g w 35 (x6 : PayList) y6 ∧ e 9 = .int .i64 (((((y7).Design).Rows).length : Int)) ∧ e 10 = a7 ∧ OB 2010 g w 39 (o3 : FaultDamage) a7 ∧ e 13 = .bool (u0) ∧ e 14 = .int .i64 (s) ∧ e 16 = .int .i64 (z2)) (fun X495 sD xG h => ?_) ?_
     ·refine E_block ?_
      refine E_seq (L_loadO0 (x := .tmp 7) Tryz.isAgg31 Tryz.sizeOf31 j3 fun vE sI yG => ?_)
      obtain ⟨e9, zG, h⟩ := bsome h
      refine L_loadO0 (x := .tmp 10) Tryz.isAgg39 Tryz.sizeOf39 d3 fun xE tI aH => ?_
      obtain ⟨j1, bH, h⟩ := bsome h
      refine E_drawL (g := rI) (n := 13) [(1, (fun v g w => RV g.m w e9 v)), (3, (fun v g w => RV g.m w ([o3] : List FaultDamage) v ∧ OS 3069 g w 39 ([o3] : List FaultDamage) v ∧ FullV v)), (7, (fun v g w => ∃ y0 y1 : Value, v = .tuple #[y0, y1] ∧ RV g.m w (j1.1 : List FaultSight) y0 ∧ y1 = .int .i64 (j1.2)))] [0, 1, 2, 3, 4, 5, 6, 7, 8, 9, 10, 11, 12] rfl mixed (by kernel_rfl) (⟨fun _ => up_rv, fun _ => up_and up_rv (up_and up_os (up_eq _)), fun _ => (up_ex fun _ => (up_ex fun _ => (up_and (up_eq _) (up_and up_rv (up_eq _))))), trivial⟩) ?_
      refine L_ld (c := vE) rfl rfl .plain (fun _ _ h => ⟨h.ch, fun b hb _ => h.below.block b hb⟩) yG e7 ?_
      refine L_do (φ := fun v g w => RV g.m w e9 v) rfl rfl .plain (fun g w hd => D_call (g := g) (vs := [vE]) en9 (.cons rfl .nil) (wk9 (sI.ext hd.1) zG) fun g' w' v hs hr => ⟨g', hs, hr⟩) (fun jB hv => ?_)
      obtain ⟨_, _, _, rq497⟩ := hv
      refine L_ld (c := xE) rfl rfl .plain (fun _ _ h => ⟨h.ch, fun b hb _ => h.below.block b hb⟩) aH x5 ?_
      refine L_do (φ := fun v g w => RV g.m w ([o3] : List FaultDamage) v ∧ OS 3069 g w 39 ([o3] : List FaultDamage) v ∧ FullV v) rfl rfl .plain (fun g w hd => D_buildSlice (g := g) 3069 (xs := ([o3] : List FaultDamage)) (vs := [xE]) Tryz.underlying41 Tryz.sizeOf39 Tryz.zeroValue39 rfl rfl (.cons rfl .nil) (RVs.cons (tI.ext hd.1) RVs.nil) rfl rfl fun g' w' v hs o r hxt hfl => ⟨g', hxt, r, o, hfl⟩) (fun g8 hv => ?_)
      clear hv
      refine L_p (.int .i64 (z2)) rfl rfl (P_move i6) ?_
      refine L_p (.int .i64 (((((y7).Design).Rows).length : Int))) rfl rfl (P_move g7) ?_
      refine L_p (.int .i64 ((w64 (z2 * ((((y7).Design).Rows).length : Int))))) rfl rfl (P_int rfl rfl rfl) ?_
      refine L_do (φ := fun v g w => ∃ y0 y1 : Value, v = .tuple #[y0, y1] ∧ RV g.m w (j1.1 : List FaultSight) y0 ∧ y1 = .int .i64 (j1.2)) rfl rfl .plain (fun g w hd => D_call (g := g) (vs := [jB, g8, .int .i64 ((w64 (z2 * ((((y7).Design).Rows).length : Int))))]) en10 (.cons rfl (.cons rfl (.cons rfl .nil))) (wk10 (word (A := fun g w => RV g.m w e9 jB) 1 rfl rfl (deps_of hd)) (word (A := fun g w => RV g.m w ([o3] : List FaultDamage) g8 ∧ OS 3069 g w 39 ([o3] : List FaultDamage) g8 ∧ FullV g8) 3 rfl rfl (deps_of hd)).1 bH) fun g' w' v hs hr => ⟨g', hs, hr⟩) (fun aM hv => ?_)
      obtain ⟨_, _, _, e8, _, rfl, lJ, rfl⟩ := hv
      refine L_p (.tuple #[e8, .int .i64 (j1.2)]) rfl rfl (P_move rfl) ?_
      refine L_p e8 rfl rfl (P_extract rfl rfl) ?_
      refine L_p (.int .i64 (j1.2)) rfl rfl (P_extract rfl rfl) ?_
      refine L_p e8 rfl rfl (P_assign rfl) ?_
      refine L_p (.int .i64 (j1.2)) rfl rfl (P_assign rfl) ?_
      refine L_nil fun yE bM hall => ?_
      have hs := hall.1
      have hfr := hfr.ext hs
      have j3 := j3.ext hs
      have i3 := i3.ext hs
      have d3 := d3.ext hs
      have cM := (word_all (A := fun g w => RV g.m w e9 jB) 1 rfl hall)
      have dM := (word_all (A := fun g w => RV g.m w ([o3] : List FaultDamage) g8 ∧ OS 3069 g w 39 ([o3] : List FaultDamage) g8 ∧ FullV g8) 3 rfl hall).1
      have o514 := (word_all (A := fun g w => RV g.m w ([o3] : List FaultDamage) g8 ∧ OS 3069 g w 39 ([o3] : List FaultDamage) g8 ∧ FullV g8) 3 rfl hall).2.1
      have eM := (tup2_0 (word_all (A := fun g w => ∃ y0 y1 : Value, Value.tuple #[e8, .int .i64 (j1.2)] = .tuple #[y0, y1] ∧ RV g.m w (j1.1 : List FaultSight) y0 ∧ y1 = .int .i64 (j1.2)) 7 rfl hall))
      have n9 := (tup2_0 (word_all (A := fun g w => ∃ y0 y1 : Value, Value.tuple #[e8, .int .i64 (j1.2)] = .tuple #[y0, y1] ∧ RV g.m w (j1.1 : List FaultSight) y0 ∧ y1 = .int .i64 (j1.2)) 7 rfl hall))
      clear hs hall
      refine EL_nil (thn_n (E_seq (E_region (EL_do .plain rfl (D_loadO (g := yE) Tryz.isAgg35 Tryz.sizeOf35 b7 i3 fun uI vI => ?_)))))
      obtain ⟨tD, cH, h⟩ := bsome h
      refine EL_do .plain rfl (D_call (g := yE) (vs := [uI]) en12 (.cons rfl .nil) (wk12 vI cH) fun zE dH xI hs hr => ?_)
      have hfr := hfr.ext hs
      have j3 := j3.ext hs
      have i3 := i3.ext hs
      have d3 := d3.ext hs
      have n9 := n9.ext hs
      have yI := hr
      refine EL_mw e8 rfl rfl ?_
      refine EL_p (.int .i64 (((j1.1 : List FaultSight)).length : Int)) (P_len Tryz.underlying46 rfl n9) rfl ?_
      refine EL_p (.int .i64 (min64 (100 : Int) (((j1.1 : List FaultSight)).length : Int))) (P_min rfl rfl) rfl ?_
      have cF : RV zE.m dH (⟨0, (50 : Int), (5000 : Int), [], (min64 (100 : Int) (((j1.1 : List FaultSight)).length : Int))⟩ : PayPiece) (.agg (setCh [[.int .i64 0], [.int .i64 0], [.int .i64 0], [.slice none 0 0], [.int .i64 0]] [(1, .int .i64 (50)), (2, .int .i64 (5000)), (4, .int .i64 (min64 (100 : Int) (((j1.1 : List FaultSight)).length : Int)))]).flatten.toArray) := RV_build rfl (rep_pair (rep_int) (rep_pair (rfl) (rep_pair (rfl) (rep_pair (rep_nil) (rep_last (rfl))))))
      generalize gH : (Value.agg (setCh [[.int .i64 0], [.int .i64 0], [.int .i64 0], [.slice none 0 0], [.int .i64 0]] [(1, .int .i64 (50)), (2, .int .i64 (5000)), (4, .int .i64 (min64 (100 : Int) (((j1.1 : List FaultSight)).length : Int)))]).flatten.toArray) = dF at cF
      refine EL_p dF (gH ▸ P_build (vs := [(1, .int .i64 (50)), (2, .int .i64 (5000)), (4, .int .i64 (min64 (100 : Int) (((j1.1 : List FaultSight)).length : Int)))]) [[.int .i64 0], [.int .i64 0], [.int .i64 0], [.slice none 0 0], [.int .i64 0]] lay_53 rfl rfl (.cons rfl (.cons rfl (.cons rfl .nil))) ⟨⟨_, rfl, rfl⟩, ⟨⟨_, rfl, rfl⟩, ⟨⟨_, rfl, rfl⟩, trivial⟩⟩⟩) rfl ?_
      obtain ⟨o0, iH, h⟩ := bsome h
      refine EL_do .plain rfl (D_call (g := zE) (vs := [xI, dF]) en11 (.cons rfl (.cons rfl .nil)) (wk11 yI cF iH) fun l8 bL gM hs hr => ?_)
      have hfr := hfr.ext hs
      have j3 := j3.ext hs
      have i3 := i3.ext hs
      have d3 := d3.ext hs
      have n9 := n9.ext hs
      obtain ⟨nK, oK, pK, qK, rfl, rfl, rfl, rfl, rfl⟩ := hr
      refine EL_mw (.tuple #[.int .i64 (o0.1), .int .i64 (o0.2.1), .int .i64 (o0.2.2.1), .int .i64 (o0.2.2.2)]) rfl rfl ?_
      refine EL_p (.int .i64 (o0.1)) (P_extract rfl rfl) rfl ?_
      refine EL_p (.int .i64 (o0.2.1)) (P_extract rfl rfl) rfl ?_
      refine EL_p (.int .i64 (o0.2.2.1)) (P_extract rfl rfl) rfl ?_
      refine EL_p (.int .i64 (o0.2.2.2)) (P_extract rfl rfl) rfl ?_
      refine EL_at (.int .i64 (o0.1)) rfl rfl ?_
      refine EL_at (.int .i64 (o0.2.1)) rfl rfl ?_
      refine EL_at (.int .i64 (o0.2.2.1)) rfl rfl ?_
      refine EL_at (.int .i64 (o0.2.2.2)) rfl rfl ?_
      refine EL_nil (thn_n (E_joinC h (fun (s : Unit) e w => ∃ (g : Gh) , Fr gI wI g w ∧ e 7 = z3 ∧ OB 2007 g w 31 (y7 : FaultLoom) z3 ∧ e 8 = y6 ∧ OB 2008 g w 35 (x6 : PayList) y6 ∧ e 9 = .int .i64 (((((y7).Design).Rows).length : Int)) ∧ e 10 = a7 ∧ OB 2010 g w 39 (o3 : FaultDamage) a7 ∧ e 13 = .bool (u0) ∧ e 16 = .int .i64 (z2) ∧ e 20 = .int .i64 (o0.2.1)) (fun X550 uD jH h => ?_) ?_))
      ·obtain ⟨c8, hx, h⟩ := bsome h
       refine E_join (fun e w => ∃ (g : Gh) , Fr gI wI g w ∧ e 7 = z3 ∧ OB 2007 g w 31 (y7 : FaultLoom) z3 ∧ e 8 = y6 ∧ OB 2008 g w 35 (x6 : PayList) y6 ∧ e 9 = .int .i64 (((((y7).Design).Rows).length : Int)) ∧ e 10 = a7 ∧ OB 2010 g w 39 (o3 : FaultDamage) a7 ∧ e 13 = .bool (u0) ∧ e 16 = .int .i64 (z2) ∧ e 20 = .int .i64 (o0.2.1) ∧ e 129 = .bool (c8)) (fun Q' hQ => ?_) (fun cL iM hR => ?_)
       ·replace h := hx
        clear hx
        refine E_region (EL_mw (.int .i64 (j1.2)) rfl rfl ?_)
        refine EL_in (.bool ((j1.2 != (0 : Int)))) rfl rfl rfl rfl ?_
        refine EL_mw (.bool ((j1.2 != (0 : Int)))) rfl rfl ?_
        rcases csome h with ⟨m8, h⟩ | ⟨m8, h⟩
        ·refine EL_s rfl rfl m8 rfl rfl ?_
         refine EL_s rfl rfl m8 rfl rfl ?_
         refine EL_p (.bool true) (P_pick (b := (j1.2 != (0 : Int))) rfl (pick_t m8 rfl)) rfl ?_
         refine EL_dead 36 rfl ?_
         refine EL_nil ?_
         obtain rfl := sinj h
         exact hQ _ _ ⟨l8, hfr, e7, j3, b7, i3, g7, x5, d3, i5, i6, rfl, rfl⟩
        ·refine EL_y (.int .i64 (o0.2.2.2)) (P_move rfl) rfl rfl m8 rfl ?_
         refine EL_y (.bool ((o0.2.2.2 != (0 : Int)))) (P_int rfl rfl rfl) rfl rfl m8 rfl ?_
         refine EL_p (.bool ((o0.2.2.2 != (0 : Int)))) (P_pick (b := (j1.2 != (0 : Int))) rfl (pick_f m8 rfl)) rfl ?_
         refine EL_mw (.bool ((o0.2.2.2 != (0 : Int)))) rfl rfl ?_
         rcases csome h with ⟨m7, h⟩ | ⟨m7, h⟩
         ·refine EL_s rfl rfl m7 rfl rfl ?_
          iterate 4 refine EL_s rfl rfl m7 rfl rfl ?_
          refine EL_p (.bool true) (P_pick (b := (o0.2.2.2 != (0 : Int))) rfl (pick_t m7 rfl)) rfl ?_
          refine EL_dead 29 rfl ?_
          refine EL_nil ?_
          obtain rfl := sinj h
          exact hQ _ _ ⟨l8, hfr, e7, j3, b7, i3, g7, x5, d3, i5, i6, rfl, rfl⟩
         ·refine EL_y e8 (P_move rfl) rfl rfl m7 rfl ?_
          refine EL_y (.int .i64 (((j1.1 : List FaultSight)).length : Int)) (P_len Tryz.underlying46 rfl n9) rfl rfl m7 rfl ?_
          refine EL_y (.bool ((decide ((((j1.1 : List FaultSight)).length : Int) > (0 : Int))))) (P_int rfl rfl rfl) rfl rfl m7 rfl ?_
          refine EL_y (.bool (u0)) (P_move i5) rfl rfl m7 rfl ?_
          refine EL_y (.bool ((!((decide ((((j1.1 : List FaultSight)).length : Int) > (0 : Int))) == u0)))) (P_bool Tryz.underlying4 rfl rfl rfl) rfl rfl m7 rfl ?_
          refine EL_p (.bool ((!((decide ((((j1.1 : List FaultSight)).length : Int) > (0 : Int))) == u0)))) (P_pick (b := (o0.2.2.2 != (0 : Int))) rfl (pick_f m7 rfl)) rfl ?_
          refine EL_p (.bool ((!((decide ((((j1.1 : List FaultSight)).length : Int) > (0 : Int))) == u0)))) (P_move rfl) rfl ?_
          rcases csome h with ⟨o7, h⟩ | ⟨o7, h⟩
          ·refine EL_s rfl rfl o7 rfl rfl ?_
           refine EL_s rfl rfl o7 rfl rfl ?_
           refine EL_s rfl rfl o7 rfl rfl ?_
           refine EL_p (.bool true) (P_pick (b := (!((decide ((((j1.1 : List FaultSight)).length : Int) > (0 : Int))) == u0))) rfl (pick_t o7 rfl)) rfl ?_
           refine EL_dead 24 rfl ?_
           refine EL_nil ?_
           obtain rfl := sinj h
           exact hQ _ _ ⟨l8, hfr, e7, j3, b7, i3, g7, x5, d3, i5, i6, rfl, rfl⟩
          ·refine EL_y (.int .i64 (o0.2.1)) (P_move rfl) rfl rfl o7 rfl ?_
           refine EL_y (.int .i64 (q5)) (P_move lC) rfl rfl o7 rfl ?_
           refine EL_y (.bool ((decide (o0.2.1 < q5)))) (P_int rfl rfl rfl) rfl rfl o7 rfl ?_
           refine EL_p (.bool ((decide (o0.2.1 < q5)))) (P_pick (b := (!((decide ((((j1.1 : List FaultSight)).length : Int) > (0 : Int))) == u0))) rfl (pick_f o7 rfl)) rfl ?_
           refine EL_mw (.bool ((decide (o0.2.1 < q5)))) rfl rfl ?_
           rcases csome h with ⟨c7, h⟩ | ⟨c7, h⟩
           ·refine EL_s rfl rfl c7 rfl rfl ?_
            iterate 6 refine EL_s rfl rfl c7 rfl rfl ?_
            refine EL_p (.bool true) (P_pick (b := (decide (o0.2.1 < q5))) rfl (pick_t c7 rfl)) rfl ?_
            refine EL_dead 15 rfl ?_
            refine EL_nil ?_
            obtain rfl := sinj h
            exact hQ _ _ ⟨l8, hfr, e7, j3, b7, i3, g7, x5, d3, i5, i6, rfl, rfl⟩
           ·refine EL_y (.int .i64 (o0.2.1)) (P_move rfl) rfl rfl c7 rfl ?_
            refine EL_y (.int .i64 ((w64 (o0.2.1 * (1000 : Int))))) (P_int rfl rfl rfl) rfl rfl c7 rfl ?_
            refine EL_y (.int .i64 (o0.1)) (P_move rfl) rfl rfl c7 rfl ?_
            refine EL_y (fPtr y6 3) (P_fieldAddr at_35_3 b7 (OB.ptr i3)) rfl rfl c7 rfl ?_
            refine EL_do (.yes2 rfl rfl c7) rfl (D_loadF (g := l8) part_PayList_3.1 Tryz.isAgg3 Tryz.sizeOf3 rfl i3 fun jM zI => ?_)
            obtain rfl := RV_int.1 zI
            refine EL_y (.int .i64 ((w64 (o0.1 * (x6).Cap)))) (P_int rfl rfl rfl) rfl rfl c7 rfl ?_
            refine EL_y (.bool ((decide ((w64 (o0.2.1 * (1000 : Int))) > (w64 (o0.1 * (x6).Cap)))))) (P_int rfl rfl rfl) rfl rfl c7 rfl ?_
            refine EL_p (.bool ((decide ((w64 (o0.2.1 * (1000 : Int))) > (w64 (o0.1 * (x6).Cap)))))) (P_pick (b := (decide (o0.2.1 < q5))) rfl (pick_f c7 rfl)) rfl ?_
            refine EL_p (.bool ((decide ((w64 (o0.2.1 * (1000 : Int))) > (w64 (o0.1 * (x6).Cap)))))) (P_move rfl) rfl ?_
            rcases csome h with ⟨n7, h⟩ | ⟨n7, h⟩
            ·refine EL_s rfl rfl n7 rfl rfl ?_
             iterate 4 refine EL_s rfl rfl n7 rfl rfl ?_
             refine EL_p (.bool true) (P_pick (b := (decide ((w64 (o0.2.1 * (1000 : Int))) > (w64 (o0.1 * (x6).Cap))))) rfl (pick_t n7 rfl)) rfl ?_
             refine EL_dead 8 rfl ?_
             refine EL_nil ?_
             obtain rfl := sinj h
             exact hQ _ _ ⟨l8, hfr, e7, j3, b7, i3, g7, x5, d3, i5, i6, rfl, rfl⟩
            ·refine EL_y (.int .i64 (o0.1)) (P_move rfl) rfl rfl n7 rfl ?_
             refine EL_y (.int .i64 (o0.2.1)) (P_move rfl) rfl rfl n7 rfl ?_
             refine EL_y (.int .i64 (o0.2.2.1)) (P_move rfl) rfl rfl n7 rfl ?_
             refine EL_y (.int .i64 ((w64 (o0.2.1 + o0.2.2.1)))) (P_int rfl rfl rfl) rfl rfl n7 rfl ?_
             refine EL_y (.bool ((o0.1 != (w64 (o0.2.1 + o0.2.2.1))))) (P_int rfl rfl rfl) rfl rfl n7 rfl ?_
             refine EL_p (.bool ((o0.1 != (w64 (o0.2.1 + o0.2.2.1))))) (P_pick (b := (decide ((w64 (o0.2.1 * (1000 : Int))) > (w64 (o0.1 * (x6).Cap))))) rfl (pick_f n7 rfl)) rfl ?_
             refine EL_mw (.bool ((o0.1 != (w64 (o0.2.1 + o0.2.2.1))))) rfl rfl ?_
             rcases csome h with ⟨j6, h⟩ | ⟨j6, h⟩
             ·refine EL_s rfl rfl j6 rfl rfl ?_
              refine EL_s rfl rfl j6 rfl rfl ?_
              refine EL_s rfl rfl j6 rfl rfl ?_
              refine EL_skip (.off rfl rfl) rfl ?_
              refine EL_skip (.off rfl rfl) rfl ?_
              refine EL_s rfl rfl j6 rfl rfl ?_
              refine EL_p (.bool true) (P_pick (b := (o0.1 != (w64 (o0.2.1 + o0.2.2.1)))) rfl (pick_t j6 rfl)) rfl ?_
              refine EL_nil ?_
              obtain rfl := sinj h
              exact hQ _ _ ⟨l8, hfr, e7, j3, b7, i3, g7, x5, d3, i5, i6, rfl, rfl⟩
             ·refine EL_y (.bool (u0)) (P_move i5) rfl rfl j6 rfl ?_
              refine EL_y (.bool (!u0)) (P_not rfl) rfl rfl j6 rfl ?_
              refine EL_y (.bool (!u0)) (P_move rfl) rfl rfl j6 rfl ?_
              rcases csome h with ⟨n8, h⟩ | ⟨n8, h⟩
              ·refine EL_y (.int .i64 (o0.2.1)) (P_move rfl) rfl rfl n8 rfl ?_
               refine EL_y (.bool ((o0.2.1 != (0 : Int)))) (P_int rfl rfl rfl) rfl rfl n8 rfl ?_
               refine EL_y (.bool ((o0.2.1 != (0 : Int)))) (P_pick (b := (!u0)) rfl (pick_t n8 rfl)) rfl rfl j6 rfl ?_
               refine EL_p (.bool ((o0.2.1 != (0 : Int)))) (P_pick (b := (o0.1 != (w64 (o0.2.1 + o0.2.2.1)))) rfl (pick_f j6 rfl)) rfl ?_
               refine EL_nil ?_
               obtain rfl := sinj h
               exact hQ _ _ ⟨l8, hfr, e7, j3, b7, i3, g7, x5, d3, i5, i6, rfl, rfl⟩
              ·refine EL_s rfl rfl n8 rfl rfl ?_
               refine EL_s rfl rfl n8 rfl rfl ?_
               refine EL_y (.bool false) (P_pick (b := (!u0)) rfl (pick_f n8 rfl)) rfl rfl j6 rfl ?_
               refine EL_p (.bool false) (P_pick (b := (o0.1 != (w64 (o0.2.1 + o0.2.2.1)))) rfl (pick_f j6 rfl)) rfl ?_
               refine EL_nil ?_
               obtain rfl := sinj h
               exact hQ _ _ ⟨l8, hfr, e7, j3, b7, i3, g7, x5, d3, i5, i6, rfl, rfl⟩
       ·clear hx
        obtain ⟨aJ, hfr, eF, iF, nF, oF, pF, mC, qC, rC, tC, uC, t9⟩ := hR
        rcases csome h with ⟨qA, h⟩ | ⟨qA, h⟩
        ·refine E_cond_true (Eq.trans (show ev _ _ = .bool (c8) from t9) (congrArg Value.bool qA)) ?_
         refine E_seq (E_region (EL_at (.bool false) rfl rfl ?_))
         refine EL_nil (thn_n (E_ret (thn_r ?_)))
         refine blk_r ?_
         refine thn_r ?_
         refine thn_r ?_
         refine blk_r ?_
         refine thn_r ?_
         obtain rfl := sinj h
         exact end1 rfl rfl (show _ = .bool false from rfl) ⟨_, hfr, rfl⟩
        ·refine E_cond_false (Eq.trans (show ev _ _ = .bool (c8) from t9) (congrArg Value.bool qA)) ?_
         exact E_skip (thn_n (jH () _ _ ⟨aJ, hfr, eF, iF, nF, oF, pF, mC, qC, rC, tC, uC⟩ h))
      ·rintro _ dL kM ⟨bJ, hfr, qF, rF, sF, tF, uF, vC, xC, yC, aD, bD⟩ h
       refine E_region (EL_mv bD rfl ?_)
       refine EL_at (.int .i64 (o0.2.1)) rfl rfl ?_
       exact EL_nil (blk_n (thn_n (xG (o0.2.1) _ _ ⟨bJ, hfr, qF, rF, sF, tF, uF, vC, xC, yC, rfl, aD⟩ h)))
     ·rintro d9 eL mM ⟨cJ, hfr, vF, xF, yF, zF, aG, cD, eD, gD, iD, jD⟩ h
      refine E_region (EL_mv jD rfl ?_)
      refine EL_in (.int .i64 ((w64 (z2 + (1 : Int))))) rfl rfl rfl rfl ?_
      refine EL_at (.int .i64 ((w64 (z2 + (1 : Int))))) rfl rfl ?_
      exact EL_nil (thn_n (uG (d9, (w64 (z2 + (1 : Int)))) _ _ ⟨cJ, hfr, vF, xF, yF, zF, aG, cD, eD, gD, iD, rfl⟩ h))
   ·rintro _ gL nM ⟨bG, hfr, cG, dG, eG⟩ h
    refine E_seq (E_region (EL_do .plain rfl (D_loadO (g := bG) Tryz.isAgg31 Tryz.sizeOf31 cG dG fun dJ eJ => ?_)))
    obtain ⟨mD, kH, h⟩ := bsome h
    refine EL_do .plain rfl (D_call (g := bG) (vs := [dJ]) en9 (.cons rfl .nil) (wk9 eJ kH) fun gJ iL iJ hs hr => ?_)
    have hfr := hfr.ext hs
    have jJ := hr
    refine EL_mv eG rfl ?_
    obtain ⟨l5, lH, h⟩ := bsome h
    refine EL_do .plain rfl (D_call (g := gJ) (vs := [iJ, .slice none 0 0, .int .i64 (((((y7).Design).Rows).length : Int))]) en10 (.cons rfl (.cons rfl (.cons rfl .nil))) (wk10 jJ RV_nil lH) fun kB jL oM hs hr => ?_)
    have hfr := hfr.ext hs
    obtain ⟨t8, sK, rfl, gG, rfl⟩ := hr
    refine EL_mw (.tuple #[t8, .int .i64 (l5.2)]) rfl rfl ?_
    refine EL_p t8 (P_extract rfl rfl) rfl ?_
    refine EL_p (.int .i64 (l5.2)) (P_extract rfl rfl) rfl ?_
    refine EL_at t8 rfl rfl ?_
    refine EL_at (.int .i64 (l5.2)) rfl rfl ?_
    refine EL_nil (thn_n ?_)
    obtain ⟨q8, hx, h⟩ := bsome h
    refine E_join (fun e w => ∃ (g : Gh) , Fr gI wI g w ∧ e 6 = .bool (q8)) (fun Q' hQ => ?_) (fun kL pM hR => ?_)
    ·replace h := hx
     clear hx
     refine E_region (EL_mw (.int .i64 (l5.2)) rfl rfl ?_)
     refine EL_in (.bool ((l5.2 == (0 : Int)))) rfl rfl rfl rfl ?_
     refine EL_mw (.bool ((l5.2 == (0 : Int)))) rfl rfl ?_
     rcases csome h with ⟨u7, h⟩ | ⟨u7, h⟩
     ·refine EL_y t8 (P_move rfl) rfl rfl u7 rfl ?_
      refine EL_y (.int .i64 ((l5.1).length : Int)) (P_len Tryz.underlying46 rfl gG) rfl rfl u7 rfl ?_
      refine EL_y (.bool ((((l5.1).length : Int) == (0 : Int)))) (P_int rfl rfl rfl) rfl rfl u7 rfl ?_
      refine EL_p (.bool ((((l5.1).length : Int) == (0 : Int)))) (P_pick (b := (l5.2 == (0 : Int))) rfl (pick_t u7 rfl)) rfl ?_
      refine EL_mw (.bool ((((l5.1).length : Int) == (0 : Int)))) rfl rfl ?_
      rcases csome h with ⟨x8, h⟩ | ⟨x8, h⟩
      ·obtain ⟨a9, mH, h⟩ := bsome h
       refine EL_do (.yes2 rfl rfl x8) rfl (D_call (g := kB) (vs := []) en13 .nil (wk13  mH) fun hG lL qM hs hr => ?_)
       have hfr := hfr.ext hs
       subst hr
       refine EL_p (.bool (a9)) (P_pick (b := (((l5.1).length : Int) == (0 : Int))) rfl (pick_t x8 rfl)) rfl ?_
       refine EL_mw (.bool (a9)) rfl rfl ?_
       rcases csome h with ⟨y8, h⟩ | ⟨y8, h⟩
       ·obtain ⟨nA, nH, h⟩ := bsome h
        refine EL_do (.yes2 rfl rfl y8) rfl (D_call (g := hG) (vs := []) en14 .nil (wk14  nH) fun kJ mL rM hs hr => ?_)
        have hfr := hfr.ext hs
        subst hr
        refine EL_p (.bool (nA)) (P_pick (b := a9) rfl (pick_t y8 rfl)) rfl ?_
        refine EL_at (.bool (nA)) rfl rfl ?_
        refine EL_nil ?_
        obtain rfl := sinj h
        exact hQ _ _ ⟨kJ, hfr, rfl⟩
       ·refine EL_s rfl rfl y8 rfl rfl ?_
        refine EL_p (.bool false) (P_pick (b := a9) rfl (pick_f y8 rfl)) rfl ?_
        refine EL_at (.bool false) rfl rfl ?_
        refine EL_nil ?_
        obtain rfl := sinj h
        exact hQ _ _ ⟨hG, hfr, rfl⟩
      ·refine EL_s rfl rfl x8 rfl rfl ?_
       refine EL_p (.bool false) (P_pick (b := (((l5.1).length : Int) == (0 : Int))) rfl (pick_f x8 rfl)) rfl ?_
       refine EL_dead 3 rfl ?_
       refine EL_at (.bool false) rfl rfl ?_
       refine EL_nil ?_
       obtain rfl := sinj h
       exact hQ _ _ ⟨kB, hfr, rfl⟩
     ·refine EL_s rfl rfl u7 rfl rfl ?_
      refine EL_s rfl rfl u7 rfl rfl ?_
      refine EL_s rfl rfl u7 rfl rfl ?_
      refine EL_p (.bool false) (P_pick (b := (l5.2 == (0 : Int))) rfl (pick_f u7 rfl)) rfl ?_
      refine EL_dead 6 rfl ?_
      refine EL_at (.bool false) rfl rfl ?_
      refine EL_nil ?_
      obtain rfl := sinj h
      exact hQ _ _ ⟨kB, hfr, rfl⟩
    ·clear hx
     obtain ⟨sM, hfr, iG⟩ := hR
     refine E_ret ?_
     obtain rfl := sinj h
     exact end1 rfl rfl (show _ = .bool (q8) from iG) ⟨_, hfr, rfl⟩
end Go.Proofs.YtcjpochjapnoaaaGreat
