import Derived.Test.YtmpjooneiaiffaaCode4
set_option maxRecDepth 8000
set_option maxHeartbeats 4000000
namespace Go.Proofs.Ytmpjooneiaiffaa
open Go.RowKit
def f3 (x0 : BoxLoom) (x1 : List Int) : Option (Bool) :=
 jn (σ := Unit) (fun _ =>
  (f15 x0).bind fun aD =>
  (f16 x1).bind fun y40 =>
  (f17 aD y40).bind fun o0 =>
  jn (σ := Unit) (fun _ =>
   (f20 x0).bind fun u9 =>
   jn (σ := Int × Int) (fun (d7, t5) =>
    Option.bind (α := Bool) (
     bif (o0.2.2.2 == d7) then
      bif (o0.2.2.1 == t5) then
       bif (((o0.1).length : Int) == (0 : Int)) then
        bif (o0.2.1 == (0 : Int)) then
         (f14).bind fun pA =>
         some (pA)
        else
         some (false)
       else
        some (false)
      else
       some (false)
     else
      some (false)
     ) fun t8 =>
    some (t8)
    ) fun iA =>
   bif (u9 != (0 : Int)) then
    iA (u9, (0 : Int))
   else
    bif (decide (((x1).length : Int) > (24 : Int))) then
     iA ((5 : Int), (0 : Int))
    else
     (f21 x1).bind fun qA =>
     bif (!qA) then
      iA ((2 : Int), (0 : Int))
     else
      (f22 big x0 x1).bind fun i5 =>
      jn (σ := Unit) (fun _ =>
       iA ((9 : Int), i5.2.2)
       ) fun bD =>
      bif (i5.2.2 == ((x1).length : Int)) then
       Option.bind (α := Bool) (
        bif (o0.2.2.2 == (0 : Int)) then
         (f23 (o0.1) (i5.1)).bind fun n9 =>
         bif n9 then
          bif (o0.2.1 == i5.2.1) then
           bif (o0.2.2.1 == (0 : Int)) then
            (f14).bind fun rA =>
            some (rA)
           else
            some (false)
          else
           some (false)
         else
          some (false)
        else
         some (false)
        ) fun v8 =>
       some (v8)
      else
       bD ()
   ) fun vE =>
  Option.bind (α := Bool) (
   (f18 aD x0).bind fun y74 =>
   bif (!y74) then
    some (true)
   else
    (f19 y40 x1).bind fun aC =>
    some ((!aC))
   ) fun i8 =>
  bif i8 then
   some (false)
  else
   vE ()
  ) fun k18 =>
 Option.bind (α := Bool) (
  (f13 x0).bind fun mA =>
  bif mA then
   some (true)
  else
   bif (decide (((x1).length : Int) > (4 : Int))) then
    bif (decide (((x1).length : Int) ≤ (24 : Int))) then
     some (true)
    else
     some ((decide (((x1).length : Int) > (30 : Int))))
   else
    some ((decide (((x1).length : Int) > (30 : Int))))
  ) fun k8 =>
 bif k8 then
  (f14).bind fun cC =>
  some (cC)
 else
  k18 ()
theorem wk3 {gI : Gh} {wI : World} {x0 : BoxLoom} {x1 : List Int} {up0 : Value} (rp0 : RV gI.m wI x0 up0) {up1 : Value} (rp1 : RV gI.m wI x1 up1) {r : Bool} (h : f3 x0 x1 = some r) : Fn Try.prog 3 #[up0, up1] gI wI (fun _ _ v => v = .bool (r)) := by
 unfold f3 at h
 refine fn_of_E Try.func3 rfl (Nat.le_of_ble_eq_true rfl) fun g0 hm hfr => ?_
 have rp0 : RV g0.m wI x0 up0 := hm ▸ rp0
 have rp1 : RV g0.m wI x1 up1 := hm ▸ rp1
 show E _ 120 none _ _ _ _ _
 refine E_seq (E_region (EL_do .plain rfl (D_box (g := g0) rfl rp0 fun g1 w1 p1 hs q1 => ?_)))
 have hfr := hfr.ext hs
 have rp1 := rp1.ext hs
 refine EL_at (.bool false) rfl rfl ?_
 refine EL_nil (thn_n (E_joinC h (fun (s : Unit) e w => ∃ (g : Gh) , Fr gI wI g w ∧ e 1 = up1 ∧ RV g.m w (x1 : List Int) up1 ∧ e 2 = p1 ∧ PT g.m w (x0 : BoxLoom) p1) (fun X18 k18 eF h => ?_) ?_))
 ·obtain ⟨k8, hx, h⟩ := bsome h
  refine E_join (fun e w => ∃ (g : Gh) , Fr gI wI g w ∧ e 1 = up1 ∧ RV g.m w (x1 : List Int) up1 ∧ e 2 = p1 ∧ PT g.m w (x0 : BoxLoom) p1 ∧ e 32 = .bool (k8)) (fun Q' hQ => ?_) (fun oH tI hR => ?_)
  ·replace h := hx
   clear hx
   refine E_region (EL_do .plain rfl (D_load (g := g1) Try.isAgg25 Try.sizeOf25 rfl q1 fun bG cG => ?_))
   obtain ⟨mA, iF, h⟩ := bsome h
   refine EL_do .plain rfl (D_call (g := g1) (vs := [bG]) en13 (.cons rfl .nil) (wk13 cG iF) fun eC pH uI hs hr => ?_)
   have hfr := hfr.ext hs
   have rp1 := rp1.ext hs
   have q1 := q1.ext hs
   subst hr
   refine EL_mw (.bool (mA)) rfl rfl ?_
   rcases csome h with ⟨i6, h⟩ | ⟨i6, h⟩
   ·refine EL_s rfl rfl i6 rfl rfl ?_
    iterate 3 refine EL_s rfl rfl i6 rfl rfl ?_
    refine EL_dead 3 rfl ?_
    refine EL_s rfl rfl i6 rfl rfl ?_
    refine EL_p (.bool true) (P_pick (b := mA) rfl (pick_t i6 rfl)) rfl ?_
    refine EL_dead 5 rfl ?_
    refine EL_nil ?_
    obtain rfl := sinj h
    exact hQ _ _ ⟨eC, hfr, rfl, rp1, rfl, q1, rfl⟩
   ·refine EL_y up1 (P_move rfl) rfl rfl i6 rfl ?_
    refine EL_y (.int .i64 ((x1).length : Int)) (P_len Try.underlying22 rfl rp1) rfl rfl i6 rfl ?_
    refine EL_y (.bool ((decide (((x1).length : Int) > (4 : Int))))) (P_int rfl rfl rfl) rfl rfl i6 rfl ?_
    refine EL_y (.bool ((decide (((x1).length : Int) > (4 : Int))))) (P_move rfl) rfl rfl i6 rfl ?_
    rcases csome h with ⟨i7, h⟩ | ⟨i7, h⟩
    ·refine EL_y up1 (P_move rfl) rfl rfl i7 rfl ?_
     refine EL_y (.int .i64 ((x1).length : Int)) (P_len Try.underlying22 rfl rp1) rfl rfl i7 rfl ?_
     refine EL_y (.bool ((decide (((x1).length : Int) ≤ (24 : Int))))) (P_int rfl rfl rfl) rfl rfl i7 rfl ?_
     refine EL_y (.bool ((decide (((x1).length : Int) ≤ (24 : Int))))) (P_pick (b := (decide (((x1).length : Int) > (4 : Int)))) rfl (pick_t i7 rfl)) rfl rfl i6 rfl ?_
     refine EL_p (.bool ((decide (((x1).length : Int) ≤ (24 : Int))))) (P_pick (b := mA) rfl (pick_f i6 rfl)) rfl ?_
     refine EL_mw (.bool ((decide (((x1).length : Int) ≤ (24 : Int))))) rfl rfl ?_
     rcases csome h with ⟨j7, h⟩ | ⟨j7, h⟩
     ·refine EL_s rfl rfl j7 rfl rfl ?_
      refine EL_s rfl rfl j7 rfl rfl ?_
      refine EL_s rfl rfl j7 rfl rfl ?_
      refine EL_p (.bool true) (P_pick (b := (decide (((x1).length : Int) ≤ (24 : Int)))) rfl (pick_t j7 rfl)) rfl ?_
      refine EL_nil ?_
      obtain rfl := sinj h
      exact hQ _ _ ⟨eC, hfr, rfl, rp1, rfl, q1, rfl⟩
     ·refine EL_y up1 (P_move rfl) rfl rfl j7 rfl ?_
      refine EL_y (.int .i64 ((x1).length : Int)) (P_len Try.underlying22 rfl rp1) rfl rfl j7 rfl ?_
      refine EL_y (.bool ((decide (((x1).length : Int) > (30 : Int))))) (P_int rfl rfl rfl) rfl rfl j7 rfl ?_
      refine EL_p (.bool ((decide (((x1).length : Int) > (30 : Int))))) (P_pick (b := (decide (((x1).length : Int) ≤ (24 : Int)))) rfl (pick_f j7 rfl)) rfl ?_
      refine EL_nil ?_
      obtain rfl := sinj h
      exact hQ _ _ ⟨eC, hfr, rfl, rp1, rfl, q1, rfl⟩
    ·refine EL_s rfl rfl i7 rfl rfl ?_
     refine EL_s rfl rfl i7 rfl rfl ?_
     refine EL_s rfl rfl i7 rfl rfl ?_
     refine EL_y (.bool false) (P_pick (b := (decide (((x1).length : Int) > (4 : Int)))) rfl (pick_f i7 rfl)) rfl rfl i6 rfl ?_
     refine EL_p (.bool false) (P_pick (b := mA) rfl (pick_f i6 rfl)) rfl ?_
     refine EL_mw (.bool false) rfl rfl ?_
     refine EL_y up1 (P_move rfl) rfl rfl rfl rfl ?_
     refine EL_y (.int .i64 ((x1).length : Int)) (P_len Try.underlying22 rfl rp1) rfl rfl rfl rfl ?_
     refine EL_y (.bool ((decide (((x1).length : Int) > (30 : Int))))) (P_int rfl rfl rfl) rfl rfl rfl rfl ?_
     refine EL_p (.bool ((decide (((x1).length : Int) > (30 : Int))))) (P_pick (b := false) rfl (pick_f rfl rfl)) rfl ?_
     refine EL_nil ?_
     obtain rfl := sinj h
     exact hQ _ _ ⟨eC, hfr, rfl, rp1, rfl, q1, rfl⟩
  ·clear hx
   obtain ⟨xE, hfr, zD, aE, bE, cE, lB⟩ := hR
   rcases csome h with ⟨tB, h⟩ | ⟨tB, h⟩
   ·refine E_cond_true (Eq.trans (show ev _ _ = .bool (k8) from lB) (congrArg Value.bool tB)) ?_
    refine E_seq (E_region ?_)
    obtain ⟨cC, nF, h⟩ := bsome h
    refine EL_do .plain rfl (D_call (g := xE) (vs := []) en14 .nil (wk14  nF) fun vI qH xI hs hr => ?_)
    have hfr := hfr.ext hs
    subst hr
    refine EL_at (.bool (cC)) rfl rfl ?_
    refine EL_nil (thn_n (E_ret (thn_r ?_)))
    obtain rfl := sinj h
    exact end1 rfl rfl (show _ = .bool (cC) from rfl) ⟨_, hfr, rfl⟩
   ·refine E_cond_false (Eq.trans (show ev _ _ = .bool (k8) from lB) (congrArg Value.bool tB)) ?_
    exact E_skip (thn_n (eF () _ _ ⟨xE, hfr, zD, aE, bE, cE⟩ h))
 ·rintro _ sH yI ⟨yE, hfr, y9, i3, z9, u3⟩ h
  refine E_seq (E_region (EL_do .plain rfl (D_load (g := yE) Try.isAgg25 Try.sizeOf25 z9 u3 fun dG eG => ?_)))
  obtain ⟨aD, oF, h⟩ := bsome h
  refine EL_do .plain rfl (D_call (g := yE) (vs := [dG]) en15 (.cons rfl .nil) (wk15 eG oF) fun gG tH hG hs hr => ?_)
  have hfr := hfr.ext hs
  have i3 := i3.ext hs
  have u3 := u3.ext hs
  have mB := hr
  refine EL_mv y9 rfl ?_
  obtain ⟨y40, pF, h⟩ := bsome h
  refine EL_do .plain rfl (D_call (g := gG) (vs := [up1]) en16 (.cons rfl .nil) (wk16 i3 pF) fun iG uH nB hs hr => ?_)
  have hfr := hfr.ext hs
  have i3 := i3.ext hs
  have u3 := u3.ext hs
  have mB := mB.ext hs
  have r8 := hr
  refine EL_do .plain rfl (D_allocOc (g := iG) 2005 (⟨[], [], []⟩ : BoxLoom) Try.zeroValue25 (fun m w => ⟨_, (rep_two rep_nil (rep_two rep_nil rep_nil)), rfl⟩) fun iC cD eD hs b41 cb => ?_)
  have hfr := hfr.stp hs
  have i3 := i3.stp hs
  have u3 := u3.stp hs
  have mB := mB.stp hs
  have r8 := r8.stp hs
  have vG : OSF 2005 60500 0 iC cD 3 25 ([] : List Int) eD := cb.osf (by rfl)
  have xG : OSF 2005 60501 1 iC cD 3 25 ([] : List Int) eD := cb.osf (by rfl)
  have yG : OSF 2005 60502 2 iC cD 87 25 ([] : List BoxShuttle) eD := cb.osf (by rfl)
  clear cb
  refine EL_do .plain rfl (D_storeOc (g := iC) (v := hG) Try.sizeOf25 rfl b41 rfl mB fun zE zI hs b42 cb => ?_)
  clear cb
  have hfr := hfr.stp hs
  have i3 := i3.stp hs
  have u3 := u3.stp hs
  have r8 := r8.stp hs
  refine EL_at nB rfl rfl ?_
  refine EL_nil (thn_n (E_seq (E_region (EL_do .plain rfl (D_loadO (g := zE) Try.isAgg25 Try.sizeOf25 rfl b42 fun jG kG => ?_)))))
  refine EL_mw nB rfl rfl ?_
  obtain ⟨o0, qF, h⟩ := bsome h
  refine EL_do .plain rfl (D_call (g := zE) (vs := [jG, nB]) en17 (.cons rfl (.cons rfl .nil)) (wk17 kG r8 qF) fun gD xH aJ hs hr => ?_)
  have hfr := hfr.ext hs
  have i3 := i3.ext hs
  have u3 := u3.ext hs
  have r8 := r8.ext hs
  have b42 := b42.ext hs
  obtain ⟨l5, zG, aH, bH, rfl, n8, rfl, rfl, rfl⟩ := hr
  refine EL_mw (.tuple #[l5, .int .i64 (o0.2.1), .int .i64 (o0.2.2.1), .int .i64 (o0.2.2.2)]) rfl rfl ?_
  refine EL_p l5 (P_extract rfl rfl) rfl ?_
  refine EL_p (.int .i64 (o0.2.1)) (P_extract rfl rfl) rfl ?_
  refine EL_p (.int .i64 (o0.2.2.1)) (P_extract rfl rfl) rfl ?_
  refine EL_p (.int .i64 (o0.2.2.2)) (P_extract rfl rfl) rfl ?_
  refine EL_at l5 rfl rfl ?_
  refine EL_at (.int .i64 (o0.2.1)) rfl rfl ?_
  refine EL_at (.int .i64 (o0.2.2.1)) rfl rfl ?_
  refine EL_at (.int .i64 (o0.2.2.2)) rfl rfl ?_
  refine EL_nil (thn_n (E_joinC h (fun (s : Unit) e w => ∃ (g : Gh) , Fr gI wI g w ∧ e 1 = up1 ∧ RV g.m w (x1 : List Int) up1 ∧ e 2 = p1 ∧ PT g.m w (x0 : BoxLoom) p1 ∧ e 7 = l5 ∧ RV g.m w (o0.1 : List BoxPick) l5 ∧ e 8 = .int .i64 (o0.2.1) ∧ e 9 = .int .i64 (o0.2.2.1) ∧ e 10 = .int .i64 (o0.2.2.2)) (fun X62 vE rF h => ?_) ?_))
  ·obtain ⟨i8, hx, h⟩ := bsome h
   refine E_join (fun e w => ∃ (g : Gh) , Fr gI wI g w ∧ e 1 = up1 ∧ RV g.m w (x1 : List Int) up1 ∧ e 2 = p1 ∧ PT g.m w (x0 : BoxLoom) p1 ∧ e 7 = l5 ∧ RV g.m w (o0.1 : List BoxPick) l5 ∧ e 8 = .int .i64 (o0.2.1) ∧ e 9 = .int .i64 (o0.2.2.1) ∧ e 10 = .int .i64 (o0.2.2.2) ∧ e 55 = .bool (i8)) (fun Q' hQ => ?_) (fun yH bJ hR => ?_)
   ·replace h := hx
    clear hx
    refine E_region (EL_do .plain rfl (D_loadO (g := gD) Try.isAgg25 Try.sizeOf25 rfl b42 fun lG mG => ?_))
    refine EL_do .plain rfl (D_load (g := gD) Try.isAgg25 Try.sizeOf25 z9 u3 fun nG oG => ?_)
    obtain ⟨y74, sF, h⟩ := bsome h
    refine EL_do .plain rfl (D_call (g := gD) (vs := [lG, nG]) en18 (.cons rfl (.cons rfl .nil)) (wk18 mG oG sF) fun cF zH cJ hs hr => ?_)
    have hfr := hfr.ext hs
    have i3 := i3.ext hs
    have u3 := u3.ext hs
    have r8 := r8.ext hs
    have n8 := n8.ext hs
    subst hr
    refine EL_p (.bool (!y74)) (P_not rfl) rfl ?_
    refine EL_mw (.bool (!y74)) rfl rfl ?_
    rcases csome h with ⟨m7, h⟩ | ⟨m7, h⟩
    ·refine EL_s rfl rfl m7 rfl rfl ?_
     iterate 3 refine EL_s rfl rfl m7 rfl rfl ?_
     refine EL_p (.bool true) (P_pick (b := (!y74)) rfl (pick_t m7 rfl)) rfl ?_
     refine EL_nil ?_
     obtain rfl := sinj h
     exact hQ _ _ ⟨cF, hfr, y9, i3, z9, u3, rfl, n8, rfl, rfl, rfl, rfl⟩
    ·refine EL_y nB (P_move rfl) rfl rfl m7 rfl ?_
     refine EL_y up1 (P_move y9) rfl rfl m7 rfl ?_
     obtain ⟨aC, tF, h⟩ := bsome h
     refine EL_do (.yes2 rfl rfl m7) rfl (D_call (g := cF) (vs := [nB, up1]) en19 (.cons rfl (.cons rfl .nil)) (wk19 r8 i3 tF) fun pG aI dJ hs hr => ?_)
     have hfr := hfr.ext hs
     have i3 := i3.ext hs
     have u3 := u3.ext hs
     have n8 := n8.ext hs
     subst hr
     refine EL_y (.bool (!aC)) (P_not rfl) rfl rfl m7 rfl ?_
     refine EL_p (.bool (!aC)) (P_pick (b := (!y74)) rfl (pick_f m7 rfl)) rfl ?_
     refine EL_nil ?_
     obtain rfl := sinj h
     exact hQ _ _ ⟨pG, hfr, y9, i3, z9, u3, rfl, n8, rfl, rfl, rfl, rfl⟩
   ·clear hx
    obtain ⟨qG, hfr, dE, eE, gE, iE, jE, kE, lE, mE, iD, oB⟩ := hR
    rcases csome h with ⟨vB, h⟩ | ⟨vB, h⟩
    ·refine E_cond_true (Eq.trans (show ev _ _ = .bool (i8) from oB) (congrArg Value.bool vB)) ?_
     refine E_seq (E_region (EL_at (.bool false) rfl rfl ?_))
     refine EL_nil (thn_n (E_ret (thn_r ?_)))
     obtain rfl := sinj h
     exact end1 rfl rfl (show _ = .bool false from rfl) ⟨_, hfr, rfl⟩
    ·refine E_cond_false (Eq.trans (show ev _ _ = .bool (i8) from oB) (congrArg Value.bool vB)) ?_
     exact E_skip (thn_n (rF () _ _ ⟨qG, hfr, dE, eE, gE, iE, jE, kE, lE, mE, iD⟩ h))
  ·rintro _ bI eJ ⟨dF, hfr, bA, j6, lC, q8, x8, x5, a9, d9, l8⟩ h
   refine E_seq (E_region (EL_do .plain rfl (D_load (g := dF) Try.isAgg25 Try.sizeOf25 lC q8 fun rG sG => ?_)))
   obtain ⟨u9, uF, h⟩ := bsome h
   refine EL_do .plain rfl (D_call (g := dF) (vs := [rG]) en20 (.cons rfl .nil) (wk20 sG uF) fun jD cI gJ hs hr => ?_)
   have hfr := hfr.ext hs
   have j6 := j6.ext hs
   have q8 := q8.ext hs
   have x5 := x5.ext hs
   subst hr
   refine EL_at (.int .i64 (u9)) rfl rfl ?_
   refine EL_at (.int .i64 (0)) rfl rfl ?_
   refine EL_nil (thn_n (E_joinC h (fun (s : Int × Int) e w => ∃ (g : Gh) , Fr gI wI g w ∧ e 7 = l5 ∧ RV g.m w (o0.1 : List BoxPick) l5 ∧ e 8 = .int .i64 (o0.2.1) ∧ e 9 = .int .i64 (o0.2.2.1) ∧ e 10 = .int .i64 (o0.2.2.2) ∧ e 11 = .int .i64 (s.1) ∧ e 12 = .int .i64 (s.2)) (fun X130 iA gA h => ?_) ?_))
   ·refine E_block ?_
    refine E_seq (E_region (EL_mw (.int .i64 (u9)) rfl rfl ?_))
    refine EL_in (.bool ((u9 != (0 : Int)))) rfl rfl rfl rfl ?_
    refine EL_at (.bool ((u9 != (0 : Int)))) rfl rfl ?_
    refine EL_nil (thn_n ?_)
    rcases csome h with ⟨yA, h⟩ | ⟨yA, h⟩
    ·refine E_ct yA rfl ?_
     exact E_skip (blk_n (thn_n (gA (u9, (0 : Int)) _ _ ⟨jD, hfr, x8, x5, a9, d9, l8, rfl, rfl⟩ h)))
    ·refine E_cf yA rfl ?_
     refine E_seq (E_region (EL_mv bA rfl ?_))
     refine EL_p (.int .i64 ((x1).length : Int)) (P_len Try.underlying22 rfl j6) rfl ?_
     refine EL_in (.bool ((decide (((x1).length : Int) > (24 : Int))))) rfl rfl rfl rfl ?_
     refine EL_at (.bool ((decide (((x1).length : Int) > (24 : Int))))) rfl rfl ?_
     refine EL_nil (thn_n ?_)
     rcases csome h with ⟨aB, h⟩ | ⟨aB, h⟩
     ·refine E_ct aB rfl ?_
      refine E_region (EL_at (.int .i64 (5)) rfl rfl ?_)
      exact EL_nil (blk_n (thn_n (gA ((5 : Int), (0 : Int)) _ _ ⟨jD, hfr, x8, x5, a9, d9, l8, rfl, rfl⟩ h)))
     ·refine E_cf aB rfl ?_
      refine E_seq (E_region (EL_mv bA rfl ?_))
      obtain ⟨qA, nE, h⟩ := bsome h
      refine EL_do .plain rfl (D_call (g := jD) (vs := [up1]) en21 (.cons rfl .nil) (wk21 j6 nE) fun yB cH dI hs hr => ?_)
      have hfr := hfr.ext hs
      have j6 := j6.ext hs
      have q8 := q8.ext hs
      have x5 := x5.ext hs
      subst hr
      refine EL_p (.bool (!qA)) (P_not rfl) rfl ?_
      refine EL_at (.bool (!qA)) rfl rfl ?_
      refine EL_nil (thn_n ?_)
      rcases csome h with ⟨dB, h⟩ | ⟨dB, h⟩
      ·refine E_ct dB rfl ?_
       refine E_region (EL_at (.int .i64 (2)) rfl rfl ?_)
       exact EL_nil (blk_n (thn_n (gA ((2 : Int), (0 : Int)) _ _ ⟨yB, hfr, x8, x5, a9, d9, l8, rfl, rfl⟩ h)))
      ·refine E_cf dB rfl ?_
       refine E_seq (E_region (EL_do .plain rfl (D_load (g := yB) Try.isAgg25 Try.sizeOf25 lC q8 fun vF xF => ?_)))
       refine EL_mv bA rfl ?_
       obtain ⟨i5, oE, h⟩ := bsome h
       refine EL_do .plain rfl (D_call (g := yB) (vs := [vF, up1]) en22 (.cons rfl (.cons rfl .nil)) (wk22 big xF j6 oE) fun zB dH iI hs hr => ?_)
       have hfr := hfr.ext hs
       have j6 := j6.ext hs
       have x5 := x5.ext hs
       obtain ⟨m8, tG, uG, rfl, kD, rfl, rfl⟩ := hr
       refine EL_mw (.tuple #[m8, .int .i64 (i5.2.1), .int .i64 (i5.2.2)]) rfl rfl ?_
       refine EL_p m8 (P_extract rfl rfl) rfl ?_
       refine EL_p (.int .i64 (i5.2.1)) (P_extract rfl rfl) rfl ?_
       refine EL_p (.int .i64 (i5.2.2)) (P_extract rfl rfl) rfl ?_
       refine EL_at m8 rfl rfl ?_
       refine EL_at (.int .i64 (i5.2.1)) rfl rfl ?_
       refine EL_at (.int .i64 (i5.2.2)) rfl rfl ?_
       refine EL_nil (thn_n (E_joinC h (fun (s : Unit) e w => ∃ (g : Gh) , Fr gI wI g w ∧ e 7 = l5 ∧ RV g.m w (o0.1 : List BoxPick) l5 ∧ e 8 = .int .i64 (o0.2.1) ∧ e 9 = .int .i64 (o0.2.2.1) ∧ e 10 = .int .i64 (o0.2.2.2) ∧ e 15 = .int .i64 (i5.2.2)) (fun X157 bD rE h => ?_) ?_))
       ·refine E_seq (E_region (EL_mw (.int .i64 (i5.2.2)) rfl rfl ?_))
        refine EL_mv bA rfl ?_
        refine EL_p (.int .i64 ((x1).length : Int)) (P_len Try.underlying22 rfl j6) rfl ?_
        refine EL_in (.bool ((i5.2.2 == ((x1).length : Int)))) rfl rfl rfl rfl ?_
        refine EL_nil (thn_n ?_)
        rcases csome h with ⟨iB, h⟩ | ⟨iB, h⟩
        ·refine E_ct iB rfl ?_
         obtain ⟨v8, hx, h⟩ := bsome h
         refine E_join (fun e w => ∃ (g : Gh) , Fr gI wI g w ∧ e 4 = .bool (v8)) (fun Q' hQ => ?_) (fun gH jI hR => ?_)
         ·replace h := hx
          clear hx
          refine E_region (EL_mv l8 rfl ?_)
          refine EL_in (.bool ((o0.2.2.2 == (0 : Int)))) rfl rfl rfl rfl ?_
          refine EL_mw (.bool ((o0.2.2.2 == (0 : Int)))) rfl rfl ?_
          rcases csome h with ⟨v6, h⟩ | ⟨v6, h⟩
          ·refine EL_y l5 (P_move x8) rfl rfl v6 rfl ?_
           refine EL_y m8 (P_move rfl) rfl rfl v6 rfl ?_
           obtain ⟨n9, sE, h⟩ := bsome h
           refine EL_do (.yes2 rfl rfl v6) rfl (D_call (g := zB) (vs := [l5, m8]) en23 (.cons rfl (.cons rfl .nil)) (wk23 x5 kD sE) fun jB iH kI hs hr => ?_)
           have hfr := hfr.ext hs
           subst hr
           refine EL_p (.bool (n9)) (P_pick (b := (o0.2.2.2 == (0 : Int))) rfl (pick_t v6 rfl)) rfl ?_
           refine EL_mw (.bool (n9)) rfl rfl ?_
           rcases csome h with ⟨x6, h⟩ | ⟨x6, h⟩
           ·refine EL_y (.int .i64 (o0.2.1)) (P_move a9) rfl rfl x6 rfl ?_
            refine EL_y (.int .i64 (i5.2.1)) (P_move rfl) rfl rfl x6 rfl ?_
            refine EL_y (.bool ((o0.2.1 == i5.2.1))) (P_int rfl rfl rfl) rfl rfl x6 rfl ?_
            refine EL_p (.bool ((o0.2.1 == i5.2.1))) (P_pick (b := n9) rfl (pick_t x6 rfl)) rfl ?_
            refine EL_mw (.bool ((o0.2.1 == i5.2.1))) rfl rfl ?_
            rcases csome h with ⟨v7, h⟩ | ⟨v7, h⟩
            ·refine EL_y (.int .i64 (o0.2.2.1)) (P_move d9) rfl rfl v7 rfl ?_
             refine EL_y (.bool ((o0.2.2.1 == (0 : Int)))) (P_int rfl rfl rfl) rfl rfl v7 rfl ?_
             refine EL_p (.bool ((o0.2.2.1 == (0 : Int)))) (P_pick (b := (o0.2.1 == i5.2.1)) rfl (pick_t v7 rfl)) rfl ?_
             refine EL_mw (.bool ((o0.2.2.1 == (0 : Int)))) rfl rfl ?_
             rcases csome h with ⟨k9, h⟩ | ⟨k9, h⟩
             ·obtain ⟨rA, tE, h⟩ := bsome h
              refine EL_do (.yes2 rfl rfl k9) rfl (D_call (g := jB) (vs := []) en14 .nil (wk14  tE) fun yF jH lI hs hr => ?_)
              have hfr := hfr.ext hs
              subst hr
              refine EL_p (.bool (rA)) (P_pick (b := (o0.2.2.1 == (0 : Int))) rfl (pick_t k9 rfl)) rfl ?_
              refine EL_at (.bool (rA)) rfl rfl ?_
              refine EL_nil ?_
              obtain rfl := sinj h
              exact hQ _ _ ⟨yF, hfr, rfl⟩
             ·refine EL_s rfl rfl k9 rfl rfl ?_
              refine EL_p (.bool false) (P_pick (b := (o0.2.2.1 == (0 : Int))) rfl (pick_f k9 rfl)) rfl ?_
              refine EL_at (.bool false) rfl rfl ?_
              refine EL_nil ?_
              obtain rfl := sinj h
              exact hQ _ _ ⟨jB, hfr, rfl⟩
            ·refine EL_s rfl rfl v7 rfl rfl ?_
             refine EL_s rfl rfl v7 rfl rfl ?_
             refine EL_p (.bool false) (P_pick (b := (o0.2.1 == i5.2.1)) rfl (pick_f v7 rfl)) rfl ?_
             refine EL_dead 3 rfl ?_
             refine EL_at (.bool false) rfl rfl ?_
             refine EL_nil ?_
             obtain rfl := sinj h
             exact hQ _ _ ⟨jB, hfr, rfl⟩
           ·refine EL_s rfl rfl x6 rfl rfl ?_
            refine EL_s rfl rfl x6 rfl rfl ?_
            refine EL_s rfl rfl x6 rfl rfl ?_
            refine EL_p (.bool false) (P_pick (b := n9) rfl (pick_f x6 rfl)) rfl ?_
            refine EL_dead 7 rfl ?_
            refine EL_at (.bool false) rfl rfl ?_
            refine EL_nil ?_
            obtain rfl := sinj h
            exact hQ _ _ ⟨jB, hfr, rfl⟩
          ·refine EL_s rfl rfl v6 rfl rfl ?_
           refine EL_s rfl rfl v6 rfl rfl ?_
           refine EL_s rfl rfl v6 rfl rfl ?_
           refine EL_p (.bool false) (P_pick (b := (o0.2.2.2 == (0 : Int))) rfl (pick_f v6 rfl)) rfl ?_
           refine EL_dead 12 rfl ?_
           refine EL_at (.bool false) rfl rfl ?_
           refine EL_nil ?_
           obtain rfl := sinj h
           exact hQ _ _ ⟨zB, hfr, rfl⟩
         ·clear hx
          obtain ⟨mI, hfr, lD⟩ := hR
          refine E_ret (thn_r ?_)
          refine blk_r ?_
          refine thn_r ?_
          obtain rfl := sinj h
          exact end1 rfl rfl (show _ = .bool (v8) from lD) ⟨_, hfr, rfl⟩
        ·refine E_cf iB rfl ?_
         exact E_skip (thn_n (rE () _ _ ⟨zB, hfr, x8, x5, a9, d9, l8, rfl⟩ h))
       ·rintro _ kH nI ⟨zF, hfr, mD, nD, oD, sD, mC, qC⟩ h
        refine E_region (EL_mv qC rfl ?_)
        refine EL_at (.int .i64 (9)) rfl rfl ?_
        refine EL_at (.int .i64 (i5.2.2)) rfl rfl ?_
        exact EL_nil (blk_n (thn_n (gA ((9 : Int), i5.2.2) _ _ ⟨zF, hfr, mD, nD, oD, sD, mC, rfl, rfl⟩ h)))
   ·rintro ⟨d7, t5⟩ lH pI ⟨jA, hfr, tD, uD, vD, xD, rC, uC, vC⟩ h
    obtain ⟨t8, hx, h⟩ := bsome h
    refine E_join (fun e w => ∃ (g : Gh) , Fr gI wI g w ∧ e 4 = .bool (t8)) (fun Q' hQ => ?_) (fun mH qI hR => ?_)
    ·replace h := hx
     clear hx
     refine E_region (EL_mv rC rfl ?_)
     refine EL_mv uC rfl ?_
     refine EL_in (.bool ((o0.2.2.2 == d7))) rfl rfl rfl rfl ?_
     refine EL_mw (.bool ((o0.2.2.2 == d7))) rfl rfl ?_
     rcases csome h with ⟨y6, h⟩ | ⟨y6, h⟩
     ·refine EL_y (.int .i64 (o0.2.2.1)) (P_move xD) rfl rfl y6 rfl ?_
      refine EL_y (.int .i64 (t5)) (P_move vC) rfl rfl y6 rfl ?_
      refine EL_y (.bool ((o0.2.2.1 == t5))) (P_int rfl rfl rfl) rfl rfl y6 rfl ?_
      refine EL_p (.bool ((o0.2.2.1 == t5))) (P_pick (b := (o0.2.2.2 == d7)) rfl (pick_t y6 rfl)) rfl ?_
      refine EL_mw (.bool ((o0.2.2.1 == t5))) rfl rfl ?_
      rcases csome h with ⟨a7, h⟩ | ⟨a7, h⟩
      ·refine EL_y l5 (P_move tD) rfl rfl a7 rfl ?_
       refine EL_y (.int .i64 ((o0.1).length : Int)) (P_len Try.underlying30 rfl uD) rfl rfl a7 rfl ?_
       refine EL_y (.bool ((((o0.1).length : Int) == (0 : Int)))) (P_int rfl rfl rfl) rfl rfl a7 rfl ?_
       refine EL_p (.bool ((((o0.1).length : Int) == (0 : Int)))) (P_pick (b := (o0.2.2.1 == t5)) rfl (pick_t a7 rfl)) rfl ?_
       refine EL_mw (.bool ((((o0.1).length : Int) == (0 : Int)))) rfl rfl ?_
       rcases csome h with ⟨g8, h⟩ | ⟨g8, h⟩
       ·refine EL_y (.int .i64 (o0.2.1)) (P_move vD) rfl rfl g8 rfl ?_
        refine EL_y (.bool ((o0.2.1 == (0 : Int)))) (P_int rfl rfl rfl) rfl rfl g8 rfl ?_
        refine EL_p (.bool ((o0.2.1 == (0 : Int)))) (P_pick (b := (((o0.1).length : Int) == (0 : Int))) rfl (pick_t g8 rfl)) rfl ?_
        refine EL_mw (.bool ((o0.2.1 == (0 : Int)))) rfl rfl ?_
        rcases csome h with ⟨l9, h⟩ | ⟨l9, h⟩
        ·obtain ⟨pA, uE, h⟩ := bsome h
         refine EL_do (.yes2 rfl rfl l9) rfl (D_call (g := jA) (vs := []) en14 .nil (wk14  uE) fun aG nH rI hs hr => ?_)
         have hfr := hfr.ext hs
         subst hr
         refine EL_p (.bool (pA)) (P_pick (b := (o0.2.1 == (0 : Int))) rfl (pick_t l9 rfl)) rfl ?_
         refine EL_at (.bool (pA)) rfl rfl ?_
         refine EL_nil ?_
         obtain rfl := sinj h
         exact hQ _ _ ⟨aG, hfr, rfl⟩
        ·refine EL_s rfl rfl l9 rfl rfl ?_
         refine EL_p (.bool false) (P_pick (b := (o0.2.1 == (0 : Int))) rfl (pick_f l9 rfl)) rfl ?_
         refine EL_at (.bool false) rfl rfl ?_
         refine EL_nil ?_
         obtain rfl := sinj h
         exact hQ _ _ ⟨jA, hfr, rfl⟩
       ·refine EL_s rfl rfl g8 rfl rfl ?_
        refine EL_s rfl rfl g8 rfl rfl ?_
        refine EL_p (.bool false) (P_pick (b := (((o0.1).length : Int) == (0 : Int))) rfl (pick_f g8 rfl)) rfl ?_
        refine EL_dead 3 rfl ?_
        refine EL_at (.bool false) rfl rfl ?_
        refine EL_nil ?_
        obtain rfl := sinj h
        exact hQ _ _ ⟨jA, hfr, rfl⟩
      ·refine EL_s rfl rfl a7 rfl rfl ?_
       refine EL_s rfl rfl a7 rfl rfl ?_
       refine EL_s rfl rfl a7 rfl rfl ?_
       refine EL_p (.bool false) (P_pick (b := (o0.2.2.1 == t5)) rfl (pick_f a7 rfl)) rfl ?_
       refine EL_dead 7 rfl ?_
       refine EL_at (.bool false) rfl rfl ?_
       refine EL_nil ?_
       obtain rfl := sinj h
       exact hQ _ _ ⟨jA, hfr, rfl⟩
     ·refine EL_s rfl rfl y6 rfl rfl ?_
      refine EL_s rfl rfl y6 rfl rfl ?_
      refine EL_s rfl rfl y6 rfl rfl ?_
      refine EL_p (.bool false) (P_pick (b := (o0.2.2.2 == d7)) rfl (pick_f y6 rfl)) rfl ?_
      refine EL_dead 12 rfl ?_
      refine EL_at (.bool false) rfl rfl ?_
      refine EL_nil ?_
      obtain rfl := sinj h
      exact hQ _ _ ⟨jA, hfr, rfl⟩
    ·clear hx
     obtain ⟨sI, hfr, yD⟩ := hR
     refine E_ret ?_
     obtain rfl := sinj h
     exact end1 rfl rfl (show _ = .bool (t8) from yD) ⟨_, hfr, rfl⟩
end Go.Proofs.Ytmpjooneiaiffaa
