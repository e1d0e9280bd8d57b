import Derived.Test.YtpiaipiehjcflaaCode4
set_option maxRecDepth 8000
set_option maxHeartbeats 4000000
namespace Go.Proofs.Ytpiaipiehjcflaa
open Go.RowKit
/-- griffe/griffelaw05.FaultLooks -/
def f7 (x0 : FaultLoom) (x1 : List FaultDamage) (x2 : Int) : Option (Bool) :=
 jn (σ := Unit) (fun (_ : Unit) =>
  (f23 x0 x1).bind fun u6 =>
  Option.bind (α := Int) (
   Option.bind (α := Bool) (
    bif (u6 == (0 : Int)) then
     (f24 x2 ((1 : Int)) ((120 : Int))).bind fun y44 =>
     some ((!y44))
    else
     some (false)
    ) fun z5 =>
   bif z5 then
    some ((3 : Int))
   else
    some (u6)
   ) fun c4 =>
  Option.bind (α := Int) (
   Option.bind (α := Bool) (
    bif (c4 == (0 : Int)) then
     some ((((x1).length : Int) == (0 : Int)))
    else
     some (false)
    ) fun a6 =>
   bif a6 then
    some ((7 : Int))
   else
    some (c4)
   ) fun z1 =>
  jn (σ := Unit) (fun (_ : Unit) =>
   (f16 x0).bind fun rI =>
   (f17 x1).bind fun sI =>
   (f41 rI sI x2).bind fun j0 =>
   jn (σ := Unit) (fun (_ : Unit) =>
    jn (σ := Unit) (fun (_ : Unit) =>
     Option.bind (α := (List (List Str))) (
      lp (σ := (List (List Str)) × Int) (fun tI (o4, q2) =>
       jn (σ := Unit) (fun (_ : Unit) =>
        Option.bind (α := (List (List Str))) (
         (idx x1 q2).bind fun uI =>
         (f36 x0 uI).bind fun d7 =>
         (f25 d7 x2).bind fun j3 =>
         (apnd 24 o4 (([j3] : List (List Str)))).bind fun vI =>
         some (vI)
         ) fun p4 =>
        tI (p4, (w64 (q2 + (1 : Int))))
        ) fun xI =>
       bif (decide (q2 < ((x1).length : Int))) then
        xI ()
       else
        some (o4)
       ) big (([] : List (List Str)), (0 : Int))
      ) fun o0 =>
     Option.bind (α := (Vector Int 2) × Int) (
      lp (σ := (Vector Int 2) × Int × Int) (fun yI (j6, k6, u0) =>
       jn (σ := Unit) (fun (_ : Unit) =>
        Option.bind (α := (Vector Int 2) × Int) (
         lp (σ := (Vector Int 2) × Int × Int) (fun zI (o3, z2, i1) =>
          jn (σ := Unit) (fun (_ : Unit) =>
           Option.bind (α := (Vector Int 2) × Int) (
            Option.bind (α := (Vector Int 2)) (
             lp (σ := (Vector Int 2) × Int) (fun aJ (j1, s2) =>
              jn (σ := Unit) (fun (_ : Unit) =>
               Option.bind (α := (Vector Int 2)) (
                (idx o0 s2).bind fun bJ =>
                (idx bJ u0).bind fun cJ =>
                (idx (cJ).b i1).bind fun zA =>
                bif (zA == (120 : UInt8)) then
                 some ((Vector.set j1 1 ((w64 ((j1)[1] + (1 : Int)))) (by decide)))
                else
                 some ((Vector.set j1 0 ((w64 ((j1)[0] + (1 : Int)))) (by decide)))
                ) fun l6 =>
               aJ (l6, (w64 (s2 + (1 : Int))))
               ) fun dJ =>
              bif (decide (s2 < ((o0).length : Int))) then
               dJ ()
              else
               some (j1)
              ) big ((⟨List.toArray [0, 0], rfl⟩ : Vector Int 2), (0 : Int))
             ) fun y0 =>
            bif (decide ((max64 (y0)[0] (y0)[1]) < z2)) then
             some ((⟨List.toArray [u0, i1], rfl⟩ : Vector Int 2), (max64 (y0)[0] (y0)[1]))
            else
             some (o3, z2)
            ) fun (m6, n6) =>
           zI (m6, n6, (w64 (i1 + (1 : Int))))
           ) fun eJ =>
          bif (decide (i1 < ((((x0).Harness).Warps).length : Int))) then
           eJ ()
          else
           some (o3, z2)
          ) big (j6, k6, (0 : Int))
         ) fun (o6, p6) =>
        yI (o6, p6, (w64 (u0 + (1 : Int))))
        ) fun gJ =>
       bif (decide (u0 < x2)) then
        gJ ()
       else
        some (j6, k6)
       ) big ((⟨List.toArray [0, 0], rfl⟩ : Vector Int 2), (1000 : Int), (0 : Int))
      ) fun (p3, d3) =>
     Option.bind (α := Bool) (
      bif (j0.2.2.2 == (0 : Int)) then
       bif (decide (p3 = (⟨List.toArray [j0.1, j0.2.1], rfl⟩ : Vector Int 2))) then
        bif (j0.2.2.1 == d3) then
         (f15).bind fun aB =>
         some (aB)
        else
         some (false)
       else
        some (false)
      else
       some (false)
      ) fun x6 =>
     some (x6)
     ) fun iJ =>
    bif (z1 != (0 : Int)) then
     Option.bind (α := Bool) (
      bif (j0.2.2.2 == z1) then
       bif (j0.1 == (0 : Int)) then
        bif (j0.2.1 == (0 : Int)) then
         bif (j0.2.2.1 == (0 : Int)) then
          (f15).bind fun bB =>
          some (bB)
         else
          some (false)
        else
         some (false)
       else
        some (false)
      else
       some (false)
      ) fun y6 =>
     some (y6)
    else
     iJ ()
    ) fun mN =>
   Option.bind (α := Bool) (
    (f21 rI x0).bind fun e7 =>
    bif (!e7) then
     some (true)
    else
     (f22 sI x1).bind fun cB =>
     some ((!cB))
    ) fun q4 =>
   bif q4 then
    some (false)
   else
    mN ()
   ) fun nN =>
  Option.bind (α := Bool) (
   bif (z1 == (0 : Int)) then
    some ((decide (((x1).length : Int) > (20 : Int))))
   else
    some (false)
   ) fun b6 =>
  bif b6 then
   (f15).bind fun nD =>
   some (nD)
  else
   nN ()
  ) fun oN =>
 Option.bind (α := Bool) (
  (f14 x0).bind fun bC =>
  bif bC then
   some (true)
  else
   some ((decide (((x1).length : Int) > (110 : Int))))
  ) fun c6 =>
 bif c6 then
  (f15).bind fun oD =>
  some (oD)
 else
  oN ()
theorem wk7 {gI : Gh} {wI : World} {x0 : FaultLoom} {x1 : List FaultDamage} {x2 : Int} {up0 : Value} (rp0 : RV gI.m wI x0 up0) {up1 : Value} (rp1 : RV gI.m wI x1 up1) {r : Bool} (h : f7 x0 x1 x2 = some r) : Fn Try.prog 7 #[up0, up1, .int .i64 (x2)] gI wI (fun _ _ v => v = .bool (r)) := by
 unfold f7 at h
 refine fn_of_E Try.func7 rfl (Nat.le_of_ble_eq_true rfl) fun g0 hm hfr => ?_
 have rp0 : RV g0.m wI x0 up0 := hm ▸ rp0
 have rp1 : RV g0.m wI x1 up1 := hm ▸ rp1
 show E _ 185 none _ _ _ _ _
 refine E_seq (E_region (EL_do .plain rfl (D_box (g := g0) rfl rp0 fun g1 w1 p1 hs q1 => ?_)))
 have hfr := hfr.ext hs
 have rp1 := rp1.ext hs
 refine EL_at (.bool false) rfl rfl ?_
 refine EL_nil (thn_n (E_joinC h (fun (s : Unit) e w => ∃ (g : Gh) , Fr gI wI g w ∧ e 1 = up1 ∧ RV g.m w (x1 : List FaultDamage) up1 ∧ e 2 = .int .i64 (x2) ∧ e 3 = p1 ∧ PT g.m w (x0 : FaultLoom) p1) (fun X14 oN dO h => ?_) ?_))
 ·obtain ⟨c6, hx, h⟩ := bsome h
  refine E_join (fun e w => ∃ (g : Gh) , Fr gI wI g w ∧ e 1 = up1 ∧ RV g.m w (x1 : List FaultDamage) up1 ∧ e 2 = .int .i64 (x2) ∧ e 3 = p1 ∧ PT g.m w (x0 : FaultLoom) p1 ∧ e 29 = .bool (c6)) (fun Q' hQ => ?_) (fun mS xU hR => ?_)
  ·replace h := hx
   clear hx
   refine E_region (EL_do .plain rfl (D_load (g := g1) Try.isAgg28 Try.sizeOf28 rfl q1 fun qQ rQ => ?_))
   obtain ⟨bC, eO, h⟩ := bsome h
   refine EL_do .plain rfl (D_call (g := g1) (vs := [qQ]) en14 (.cons rfl .nil) (wk14 rQ eO) fun pN nS yU hs hr => ?_)
   have hfr := hfr.ext hs
   have rp1 := rp1.ext hs
   have q1 := q1.ext hs
   subst hr
   refine EL_mw (.bool (bC)) rfl rfl ?_
   rcases csome h with ⟨m5, h⟩ | ⟨m5, h⟩
   ·refine EL_skip (.no2 rfl rfl m5 rfl) rfl ?_
    refine EL_skip (.no2 rfl rfl m5 rfl) rfl ?_
    refine EL_skip (.no2 rfl rfl m5 rfl) rfl ?_
    refine EL_pur (v := .bool true) (P_pick (b := bC) rfl (pick_t m5 rfl)) .plain rfl ?_
    refine EL_nil ?_
    obtain rfl := sinj h
    exact hQ _ _ ⟨pN, hfr, rfl, rp1, rfl, rfl, q1, rfl⟩
   ·refine EL_pur (v := up1) (P_move rfl) (.yes2 rfl rfl m5) rfl ?_
    refine EL_pur (v := .int .i64 ((x1).length : Int)) (P_len Try.underlying29 rfl rp1) (.yes2 rfl rfl m5) rfl ?_
    refine EL_pur (v := .bool ((decide (((x1).length : Int) > (110 : Int))))) (P_int rfl rfl rfl) (.yes2 rfl rfl m5) rfl ?_
    refine EL_pur (v := .bool ((decide (((x1).length : Int) > (110 : Int))))) (P_pick (b := bC) rfl (pick_f m5 rfl)) .plain rfl ?_
    refine EL_nil ?_
    obtain rfl := sinj h
    exact hQ _ _ ⟨pN, hfr, rfl, rp1, rfl, rfl, q1, rfl⟩
  ·clear hx
   obtain ⟨qN, hfr, xL, yL, zL, aM, bM, cC⟩ := hR
   rcases csome h with ⟨eD, h⟩ | ⟨eD, h⟩
   ·refine E_cond_true (Eq.trans (show ev _ _ = .bool (c6) from cC) (congrArg Value.bool eD)) ?_
    refine E_seq (E_region ?_)
    obtain ⟨oD, gO, h⟩ := bsome h
    refine EL_do .plain rfl (D_call (g := qN) (vs := []) en15 .nil (wk15  gO) fun zU oS aV hs hr => ?_)
    have hfr := hfr.ext hs
    subst hr
    refine EL_at (.bool (oD)) rfl rfl ?_
    refine EL_nil (thn_n (E_ret (thn_r ?_)))
    obtain rfl := sinj h
    exact end1 rfl rfl (show _ = .bool (oD) from rfl) ⟨_, hfr, rfl⟩
   ·refine E_cond_false (Eq.trans (show ev _ _ = .bool (c6) from cC) (congrArg Value.bool eD)) ?_
    exact E_skip (thn_n (dO () _ _ ⟨qN, hfr, xL, yL, zL, aM, bM⟩ h))
 ·rintro _ pS bV ⟨rN, hfr, dB, n5, eB, iB, o5⟩ h
  refine E_seq (E_region (EL_do .plain rfl (D_load (g := rN) Try.isAgg28 Try.sizeOf28 iB o5 fun sQ tQ => ?_)))
  refine EL_mv dB rfl ?_
  obtain ⟨u6, hO, h⟩ := bsome h
  refine EL_do .plain rfl (D_call (g := rN) (vs := [sQ, up1]) en23 (.cons rfl (.cons rfl .nil)) (wk23 tQ n5 hO) fun sN qS cV hs hr => ?_)
  have hfr := hfr.ext hs
  have n5 := n5.ext hs
  have o5 := o5.ext hs
  subst hr
  refine EL_at (.int .i64 (u6)) rfl rfl ?_
  refine EL_nil (thn_n ?_)
  obtain ⟨c4, hx, h⟩ := bsome h
  refine E_join (fun e w => ∃ (g : Gh) , Fr gI wI g w ∧ e 1 = up1 ∧ RV g.m w (x1 : List FaultDamage) up1 ∧ e 2 = .int .i64 (x2) ∧ e 3 = p1 ∧ PT g.m w (x0 : FaultLoom) p1 ∧ e 7 = .int .i64 (c4)) (fun Q' hQ => ?_) (fun rS dV hR => ?_)
  ·replace h := hx
   clear hx
   obtain ⟨z5, hx, h⟩ := bsome h
   refine E_join (fun e w => ∃ (g : Gh) , Fr gI wI g w ∧ e 1 = up1 ∧ RV g.m w (x1 : List FaultDamage) up1 ∧ e 2 = .int .i64 (x2) ∧ e 3 = p1 ∧ PT g.m w (x0 : FaultLoom) p1 ∧ e 7 = .int .i64 (u6) ∧ e 40 = .bool (z5)) (fun Q' hQ => ?_) (fun sS eV hR => ?_)
   ·replace h := hx
    clear hx
    refine E_region (EL_mw (.int .i64 (u6)) rfl rfl ?_)
    refine EL_in (.bool ((u6 == (0 : Int)))) rfl rfl rfl rfl ?_
    refine EL_mw (.bool ((u6 == (0 : Int)))) rfl rfl ?_
    rcases csome h with ⟨p5, h⟩ | ⟨p5, h⟩
    ·refine EL_pur (v := .int .i64 (x2)) (P_move eB) (.yes2 rfl rfl p5) rfl ?_
     obtain ⟨y44, iO, h⟩ := bsome h
     refine EL_do (.yes2 rfl rfl p5) rfl (D_call (g := sN) (vs := [.int .i64 (x2), .int .i64 (1), .int .i64 (120)]) en24 (.cons rfl (.cons rfl (.cons rfl .nil))) (wk24  iO) fun uQ tS gV hs hr => ?_)
     have hfr := hfr.ext hs
     have n5 := n5.ext hs
     have o5 := o5.ext hs
     subst hr
     refine EL_pur (v := .bool (!y44)) (P_not rfl) (.yes2 rfl rfl p5) rfl ?_
     refine EL_pur (v := .bool (!y44)) (P_pick (b := (u6 == (0 : Int))) rfl (pick_t p5 rfl)) .plain rfl ?_
     refine EL_nil ?_
     obtain rfl := sinj h
     exact hQ _ _ ⟨uQ, hfr, dB, n5, eB, iB, o5, rfl, rfl⟩
    ·refine EL_skip (.no2 rfl rfl p5 rfl) rfl ?_
     refine EL_skip (.no2 rfl rfl p5 rfl) rfl ?_
     refine EL_skip (.no2 rfl rfl p5 rfl) rfl ?_
     refine EL_pur (v := .bool false) (P_pick (b := (u6 == (0 : Int))) rfl (pick_f p5 rfl)) .plain rfl ?_
     refine EL_nil ?_
     obtain rfl := sinj h
     exact hQ _ _ ⟨sN, hfr, dB, n5, eB, iB, o5, rfl, rfl⟩
   ·clear hx
    obtain ⟨tN, hfr, pD, qD, rD, sD, tD, cM, dC⟩ := hR
    rcases csome h with ⟨gD, h⟩ | ⟨gD, h⟩
    ·refine E_cond_true (Eq.trans (show ev _ _ = .bool (z5) from dC) (congrArg Value.bool gD)) ?_
     refine E_region (EL_at (.int .i64 (3)) rfl rfl ?_)
     refine EL_nil ?_
     obtain rfl := sinj h
     exact hQ _ _ ⟨tN, hfr, pD, qD, rD, sD, tD, rfl⟩
    ·refine E_cond_false (Eq.trans (show ev _ _ = .bool (z5) from dC) (congrArg Value.bool gD)) ?_
     refine E_skip ?_
     obtain rfl := sinj h
     exact hQ _ _ ⟨tN, hfr, pD, qD, rD, sD, tD, cM⟩
  ·clear hx
   obtain ⟨uN, hfr, jB, kB, uD, vD, xD, lB⟩ := hR
   obtain ⟨z1, hx, h⟩ := bsome h
   refine E_join (fun e w => ∃ (g : Gh) , Fr gI wI g w ∧ e 1 = up1 ∧ RV g.m w (x1 : List FaultDamage) up1 ∧ e 2 = .int .i64 (x2) ∧ e 3 = p1 ∧ PT g.m w (x0 : FaultLoom) p1 ∧ e 7 = .int .i64 (z1)) (fun Q' hQ => ?_) (fun uS iV hR => ?_)
   ·replace h := hx
    clear hx
    obtain ⟨a6, hx, h⟩ := bsome h
    refine E_join (fun e w => ∃ (g : Gh) , Fr gI wI g w ∧ e 1 = up1 ∧ RV g.m w (x1 : List FaultDamage) up1 ∧ e 2 = .int .i64 (x2) ∧ e 3 = p1 ∧ PT g.m w (x0 : FaultLoom) p1 ∧ e 7 = .int .i64 (c4) ∧ e 47 = .bool (a6)) (fun Q' hQ => ?_) (fun vS jV hR => ?_)
    ·replace h := hx
     clear hx
     refine E_region (EL_mv lB rfl ?_)
     refine EL_in (.bool ((c4 == (0 : Int)))) rfl rfl rfl rfl ?_
     refine EL_mw (.bool ((c4 == (0 : Int)))) rfl rfl ?_
     rcases csome h with ⟨q5, h⟩ | ⟨q5, h⟩
     ·refine EL_pur (v := up1) (P_move jB) (.yes2 rfl rfl q5) rfl ?_
      refine EL_pur (v := .int .i64 ((x1).length : Int)) (P_len Try.underlying29 rfl kB) (.yes2 rfl rfl q5) rfl ?_
      refine EL_pur (v := .bool ((((x1).length : Int) == (0 : Int)))) (P_int rfl rfl rfl) (.yes2 rfl rfl q5) rfl ?_
      refine EL_pur (v := .bool ((((x1).length : Int) == (0 : Int)))) (P_pick (b := (c4 == (0 : Int))) rfl (pick_t q5 rfl)) .plain rfl ?_
      refine EL_nil ?_
      obtain rfl := sinj h
      exact hQ _ _ ⟨uN, hfr, jB, kB, uD, vD, xD, lB, rfl⟩
     ·refine EL_skip (.no2 rfl rfl q5 rfl) rfl ?_
      refine EL_skip (.no2 rfl rfl q5 rfl) rfl ?_
      refine EL_skip (.no2 rfl rfl q5 rfl) rfl ?_
      refine EL_pur (v := .bool false) (P_pick (b := (c4 == (0 : Int))) rfl (pick_f q5 rfl)) .plain rfl ?_
      refine EL_nil ?_
      obtain rfl := sinj h
      exact hQ _ _ ⟨uN, hfr, jB, kB, uD, vD, xD, lB, rfl⟩
    ·clear hx
     obtain ⟨vN, hfr, yD, zD, aE, bE, cE, dM, eC⟩ := hR
     rcases csome h with ⟨iD, h⟩ | ⟨iD, h⟩
     ·refine E_cond_true (Eq.trans (show ev _ _ = .bool (a6) from eC) (congrArg Value.bool iD)) ?_
      refine E_region (EL_at (.int .i64 (7)) rfl rfl ?_)
      refine EL_nil ?_
      obtain rfl := sinj h
      exact hQ _ _ ⟨vN, hfr, yD, zD, aE, bE, cE, rfl⟩
     ·refine E_cond_false (Eq.trans (show ev _ _ = .bool (a6) from eC) (congrArg Value.bool iD)) ?_
      refine E_skip ?_
      obtain rfl := sinj h
      exact hQ _ _ ⟨vN, hfr, yD, zD, aE, bE, cE, dM⟩
   ·clear hx
    obtain ⟨xN, hfr, mB, nB, dE, eE, gE, oB⟩ := hR
    refine E_joinC h (fun (s : Unit) e w => ∃ (g : Gh) , Fr gI wI g w ∧ e 1 = up1 ∧ RV g.m w (x1 : List FaultDamage) up1 ∧ e 2 = .int .i64 (x2) ∧ e 3 = p1 ∧ PT g.m w (x0 : FaultLoom) p1 ∧ e 7 = .int .i64 (z1)) (fun X63 nN jO h => ?_) ?_
    ·obtain ⟨b6, hx, h⟩ := bsome h
     refine E_join (fun e w => ∃ (g : Gh) , Fr gI wI g w ∧ e 1 = up1 ∧ RV g.m w (x1 : List FaultDamage) up1 ∧ e 2 = .int .i64 (x2) ∧ e 3 = p1 ∧ PT g.m w (x0 : FaultLoom) p1 ∧ e 7 = .int .i64 (z1) ∧ e 54 = .bool (b6)) (fun Q' hQ => ?_) (fun xS kV hR => ?_)
     ·replace h := hx
      clear hx
      refine E_region (EL_mv oB rfl ?_)
      refine EL_in (.bool ((z1 == (0 : Int)))) rfl rfl rfl rfl ?_
      refine EL_mw (.bool ((z1 == (0 : Int)))) rfl rfl ?_
      rcases csome h with ⟨t5, h⟩ | ⟨t5, h⟩
      ·refine EL_pur (v := up1) (P_move mB) (.yes2 rfl rfl t5) rfl ?_
       refine EL_pur (v := .int .i64 ((x1).length : Int)) (P_len Try.underlying29 rfl nB) (.yes2 rfl rfl t5) rfl ?_
       refine EL_pur (v := .bool ((decide (((x1).length : Int) > (20 : Int))))) (P_int rfl rfl rfl) (.yes2 rfl rfl t5) rfl ?_
       refine EL_pur (v := .bool ((decide (((x1).length : Int) > (20 : Int))))) (P_pick (b := (z1 == (0 : Int))) rfl (pick_t t5 rfl)) .plain rfl ?_
       refine EL_nil ?_
       obtain rfl := sinj h
       exact hQ _ _ ⟨xN, hfr, mB, nB, dE, eE, gE, oB, rfl⟩
      ·refine EL_skip (.no2 rfl rfl t5 rfl) rfl ?_
       refine EL_skip (.no2 rfl rfl t5 rfl) rfl ?_
       refine EL_skip (.no2 rfl rfl t5 rfl) rfl ?_
       refine EL_pur (v := .bool false) (P_pick (b := (z1 == (0 : Int))) rfl (pick_f t5 rfl)) .plain rfl ?_
       refine EL_nil ?_
       obtain rfl := sinj h
       exact hQ _ _ ⟨xN, hfr, mB, nB, dE, eE, gE, oB, rfl⟩
     ·clear hx
      obtain ⟨yN, hfr, eM, gM, iM, jM, kM, lM, iC⟩ := hR
      rcases csome h with ⟨jD, h⟩ | ⟨jD, h⟩
      ·refine E_cond_true (Eq.trans (show ev _ _ = .bool (b6) from iC) (congrArg Value.bool jD)) ?_
       refine E_seq (E_region ?_)
       obtain ⟨nD, kO, h⟩ := bsome h
       refine EL_do .plain rfl (D_call (g := yN) (vs := []) en15 .nil (wk15  kO) fun lV yS mV hs hr => ?_)
       have hfr := hfr.ext hs
       subst hr
       refine EL_at (.bool (nD)) rfl rfl ?_
       refine EL_nil (thn_n (E_ret (thn_r ?_)))
       obtain rfl := sinj h
       exact end1 rfl rfl (show _ = .bool (nD) from rfl) ⟨_, hfr, rfl⟩
      ·refine E_cond_false (Eq.trans (show ev _ _ = .bool (b6) from iC) (congrArg Value.bool jD)) ?_
       exact E_skip (thn_n (jO () _ _ ⟨yN, hfr, eM, gM, iM, jM, kM, lM⟩ h))
    ·rintro _ zS nV ⟨zN, hfr, z7, d2, pB, a8, i2, iE⟩ h
     refine E_seq (E_region (EL_do .plain rfl (D_load (g := zN) Try.isAgg28 Try.sizeOf28 a8 i2 fun vQ xQ => ?_)))
     obtain ⟨rI, lO, h⟩ := bsome h
     refine EL_do .plain rfl (D_call (g := zN) (vs := [vQ]) en16 (.cons rfl .nil) (wk16 xQ lO) fun yQ aT zQ hs hr => ?_)
     have hfr := hfr.ext hs
     have d2 := d2.ext hs
     have i2 := i2.ext hs
     have jC := hr
     refine EL_mv z7 rfl ?_
     obtain ⟨sI, mO, h⟩ := bsome h
     refine EL_do .plain rfl (D_call (g := yQ) (vs := [up1]) en17 (.cons rfl .nil) (wk17 d2 mO) fun aR bT kC hs hr => ?_)
     have hfr := hfr.ext hs
     have d2 := d2.ext hs
     have i2 := i2.ext hs
     have jC := jC.ext hs
     have v6 := hr
     refine EL_do .plain rfl (D_allocOc (g := aR) 2008 (⟨⟨0, []⟩, ⟨0, []⟩⟩ : FaultLoom) Try.zeroValue28 (fun m w => ⟨_, (rep_two (rep_two rep_int rep_nil) (rep_two rep_int rep_nil)), rfl⟩) fun jJ aO bO hs b76 cb => ?_)
     have hfr := hfr.stp hs
     have d2 := d2.stp hs
     have i2 := i2.stp hs
     have jC := jC.stp hs
     have v6 := v6.stp hs
     have dR : OSF 2008 60801 1 jJ aO 3 28 ([] : List Int) bO := cb.osf (by rfl)
     have eR : OSF 2008 60803 3 jJ aO 3 28 ([] : List Int) bO := cb.osf (by rfl)
     clear cb
     refine EL_do .plain rfl (D_storeOc (g := jJ) (v := zQ) Try.sizeOf28 rfl b76 rfl jC fun cO oV hs b77 cb => ?_)
     clear cb
     have hfr := hfr.stp hs
     have d2 := d2.stp hs
     have i2 := i2.stp hs
     have v6 := v6.stp hs
     refine EL_at kC rfl rfl ?_
     refine EL_nil (thn_n (E_seq (E_region (EL_do .plain rfl (D_loadO (g := cO) Try.isAgg28 Try.sizeOf28 rfl b77 fun bR cR => ?_)))))
     refine EL_mw kC rfl rfl ?_
     refine EL_mv pB rfl ?_
     obtain ⟨j0, nO, h⟩ := bsome h
     refine EL_do .plain rfl (D_call (g := cO) (vs := [bR, kC, .int .i64 (x2)]) en41 (.cons rfl (.cons rfl (.cons rfl .nil))) (wk41 cR v6 nO) fun kJ cT pV hs hr => ?_)
     have hfr := hfr.ext hs
     have d2 := d2.ext hs
     have i2 := i2.ext hs
     have v6 := v6.ext hs
     have b77 := b77.ext hs
     obtain ⟨gR, iR, jR, kR, rfl, rfl, rfl, rfl, rfl⟩ := hr
     refine EL_mw (.tuple #[.int .i64 (j0.1), .int .i64 (j0.2.1), .int .i64 (j0.2.2.1), .int .i64 (j0.2.2.2)]) rfl rfl ?_
     refine EL_pur (v := .int .i64 (j0.1)) (P_extract rfl rfl) .plain rfl ?_
     refine EL_pur (v := .int .i64 (j0.2.1)) (P_extract rfl rfl) .plain rfl ?_
     refine EL_pur (v := .int .i64 (j0.2.2.1)) (P_extract rfl rfl) .plain rfl ?_
     refine EL_pur (v := .int .i64 (j0.2.2.2)) (P_extract rfl rfl) .plain rfl ?_
     refine EL_at (.int .i64 (j0.1)) rfl rfl ?_
     refine EL_at (.int .i64 (j0.2.1)) rfl rfl ?_
     refine EL_at (.int .i64 (j0.2.2.1)) rfl rfl ?_
     refine EL_at (.int .i64 (j0.2.2.2)) rfl rfl ?_
     refine EL_nil (thn_n (E_joinC h (fun (s : Unit) e w => ∃ (g : Gh) , Fr gI wI g w ∧ e 1 = up1 ∧ RV g.m w (x1 : List FaultDamage) up1 ∧ e 2 = .int .i64 (x2) ∧ e 3 = p1 ∧ PT g.m w (x0 : FaultLoom) p1 ∧ e 7 = .int .i64 (z1) ∧ e 10 = .int .i64 (j0.1) ∧ e 11 = .int .i64 (j0.2.1) ∧ e 12 = .int .i64 (j0.2.2.1) ∧ e 13 = .int .i64 (j0.2.2.2)) (fun X97 mN oO h => ?_) ?_))
     ·obtain ⟨q4, hx, h⟩ := bsome h
      refine E_join (fun e w => ∃ (g : Gh) , Fr gI wI g w ∧ e 1 = up1 ∧ RV g.m w (x1 : List FaultDamage) up1 ∧ e 2 = .int .i64 (x2) ∧ e 3 = p1 ∧ PT g.m w (x0 : FaultLoom) p1 ∧ e 7 = .int .i64 (z1) ∧ e 10 = .int .i64 (j0.1) ∧ e 11 = .int .i64 (j0.2.1) ∧ e 12 = .int .i64 (j0.2.2.1) ∧ e 13 = .int .i64 (j0.2.2.2) ∧ e 78 = .bool (q4)) (fun Q' hQ => ?_) (fun lR dT hR => ?_)
      ·replace h := hx
       clear hx
       refine E_region (EL_do .plain rfl (D_loadO (g := kJ) Try.isAgg28 Try.sizeOf28 rfl b77 fun pO qO => ?_))
       refine EL_do .plain rfl (D_load (g := kJ) Try.isAgg28 Try.sizeOf28 a8 i2 fun rO sO => ?_)
       obtain ⟨e7, mM, h⟩ := bsome h
       refine EL_do .plain rfl (D_call (g := kJ) (vs := [pO, rO]) en21 (.cons rfl (.cons rfl .nil)) (wk21 qO sO mM) fun lJ mR eT hs hr => ?_)
       have hfr := hfr.ext hs
       have d2 := d2.ext hs
       have i2 := i2.ext hs
       have v6 := v6.ext hs
       subst hr
       refine EL_pur (v := .bool (!e7)) (P_not rfl) .plain rfl ?_
       refine EL_mw (.bool (!e7)) rfl rfl ?_
       rcases csome h with ⟨u3, h⟩ | ⟨u3, h⟩
       ·refine EL_skip (.no2 rfl rfl u3 rfl) rfl ?_
        refine EL_skip (.no2 rfl rfl u3 rfl) rfl ?_
        refine EL_skip (.no2 rfl rfl u3 rfl) rfl ?_
        refine EL_skip (.no2 rfl rfl u3 rfl) rfl ?_
        refine EL_pur (v := .bool true) (P_pick (b := (!e7)) rfl (pick_t u3 rfl)) .plain rfl ?_
        refine EL_nil ?_
        obtain rfl := sinj h
        exact hQ _ _ ⟨lJ, hfr, z7, d2, pB, a8, i2, iE, rfl, rfl, rfl, rfl, rfl⟩
       ·refine EL_pur (v := kC) (P_move rfl) (.yes2 rfl rfl u3) rfl ?_
        refine EL_pur (v := up1) (P_move z7) (.yes2 rfl rfl u3) rfl ?_
        obtain ⟨cB, nM, h⟩ := bsome h
        refine EL_do (.yes2 rfl rfl u3) rfl (D_call (g := lJ) (vs := [kC, up1]) en22 (.cons rfl (.cons rfl .nil)) (wk22 v6 d2 nM) fun tO nR gT hs hr => ?_)
        have hfr := hfr.ext hs
        have d2 := d2.ext hs
        have i2 := i2.ext hs
        subst hr
        refine EL_pur (v := .bool (!cB)) (P_not rfl) (.yes2 rfl rfl u3) rfl ?_
        refine EL_pur (v := .bool (!cB)) (P_pick (b := (!e7)) rfl (pick_f u3 rfl)) .plain rfl ?_
        refine EL_nil ?_
        obtain rfl := sinj h
        exact hQ _ _ ⟨tO, hfr, z7, d2, pB, a8, i2, iE, rfl, rfl, rfl, rfl, rfl⟩
      ·clear hx
       obtain ⟨uO, hfr, mJ, nJ, oJ, pJ, qJ, rJ, mE, nE, oE, pE, g8⟩ := hR
       rcases csome h with ⟨qB, h⟩ | ⟨qB, h⟩
       ·refine E_cond_true (Eq.trans (show ev _ _ = .bool (q4) from g8) (congrArg Value.bool qB)) ?_
        refine E_seq (E_region (EL_at (.bool false) rfl rfl ?_))
        refine EL_nil (thn_n (E_ret (thn_r ?_)))
        obtain rfl := sinj h
        exact end1 rfl rfl (show _ = .bool false from rfl) ⟨_, hfr, rfl⟩
       ·refine E_cond_false (Eq.trans (show ev _ _ = .bool (q4) from g8) (congrArg Value.bool qB)) ?_
        exact E_skip (thn_n (oO () _ _ ⟨uO, hfr, mJ, nJ, oJ, pJ, qJ, rJ, mE, nE, oE, pE⟩ h))
     ·rintro _ oR iT ⟨g7, hfr, sJ, tJ, uJ, vJ, xJ, lC, i8, j8, k8, l8⟩ h
      refine E_joinC h (fun (s : Unit) e w => ∃ (g : Gh) , Fr gI wI g w ∧ e 1 = up1 ∧ RV g.m w (x1 : List FaultDamage) up1 ∧ e 2 = .int .i64 (x2) ∧ e 3 = p1 ∧ PT g.m w (x0 : FaultLoom) p1 ∧ e 10 = .int .i64 (j0.1) ∧ e 11 = .int .i64 (j0.2.1) ∧ e 12 = .int .i64 (j0.2.2.1) ∧ e 13 = .int .i64 (j0.2.2.2)) (fun X129 iJ oM h => ?_) ?_
      ·refine E_seq (E_region (EL_mv lC rfl ?_))
       refine EL_in (.bool ((z1 != (0 : Int)))) rfl rfl rfl rfl ?_
       refine EL_nil (thn_n ?_)
       rcases csome h with ⟨rB, h⟩ | ⟨rB, h⟩
       ·refine E_ct rB rfl ?_
        obtain ⟨y6, hx, h⟩ := bsome h
        refine E_join (fun e w => ∃ (g : Gh) , Fr gI wI g w ∧ e 6 = .bool (y6)) (fun Q' hQ => ?_) (fun pR jT hR => ?_)
        ·replace h := hx
         clear hx
         refine E_region (EL_mv l8 rfl ?_)
         refine EL_mv lC rfl ?_
         refine EL_in (.bool ((j0.2.2.2 == z1))) rfl rfl rfl rfl ?_
         refine EL_mw (.bool ((j0.2.2.2 == z1))) rfl rfl ?_
         rcases csome h with ⟨u5, h⟩ | ⟨u5, h⟩
         ·refine EL_pur (v := .int .i64 (j0.1)) (P_move i8) (.yes2 rfl rfl u5) rfl ?_
          refine EL_pur (v := .bool ((j0.1 == (0 : Int)))) (P_int rfl rfl rfl) (.yes2 rfl rfl u5) rfl ?_
          refine EL_pur (v := .bool ((j0.1 == (0 : Int)))) (P_pick (b := (j0.2.2.2 == z1)) rfl (pick_t u5 rfl)) .plain rfl ?_
          refine EL_mw (.bool ((j0.1 == (0 : Int)))) rfl rfl ?_
          rcases csome h with ⟨x5, h⟩ | ⟨x5, h⟩
          ·refine EL_pur (v := .int .i64 (j0.2.1)) (P_move j8) (.yes2 rfl rfl x5) rfl ?_
           refine EL_pur (v := .bool ((j0.2.1 == (0 : Int)))) (P_int rfl rfl rfl) (.yes2 rfl rfl x5) rfl ?_
           refine EL_pur (v := .bool ((j0.2.1 == (0 : Int)))) (P_pick (b := (j0.1 == (0 : Int))) rfl (pick_t x5 rfl)) .plain rfl ?_
           refine EL_mw (.bool ((j0.2.1 == (0 : Int)))) rfl rfl ?_
           rcases csome h with ⟨y5, h⟩ | ⟨y5, h⟩
           ·refine EL_pur (v := .int .i64 (j0.2.2.1)) (P_move k8) (.yes2 rfl rfl y5) rfl ?_
            refine EL_pur (v := .bool ((j0.2.2.1 == (0 : Int)))) (P_int rfl rfl rfl) (.yes2 rfl rfl y5) rfl ?_
            refine EL_pur (v := .bool ((j0.2.2.1 == (0 : Int)))) (P_pick (b := (j0.2.1 == (0 : Int))) rfl (pick_t y5 rfl)) .plain rfl ?_
            refine EL_mw (.bool ((j0.2.2.1 == (0 : Int)))) rfl rfl ?_
            rcases csome h with ⟨z6, h⟩ | ⟨z6, h⟩
            ·obtain ⟨bB, pM, h⟩ := bsome h
             refine EL_do (.yes2 rfl rfl z6) rfl (D_call (g := g7) (vs := []) en15 .nil (wk15  pM) fun vO qR kT hs hr => ?_)
             have hfr := hfr.ext hs
             subst hr
             refine EL_pur (v := .bool (bB)) (P_pick (b := (j0.2.2.1 == (0 : Int))) rfl (pick_t z6 rfl)) .plain rfl ?_
             refine EL_at (.bool (bB)) rfl rfl ?_
             refine EL_nil ?_
             obtain rfl := sinj h
             exact hQ _ _ ⟨vO, hfr, rfl⟩
            ·refine EL_skip (.no2 rfl rfl z6 rfl) rfl ?_
             refine EL_pur (v := .bool false) (P_pick (b := (j0.2.2.1 == (0 : Int))) rfl (pick_f z6 rfl)) .plain rfl ?_
             refine EL_at (.bool false) rfl rfl ?_
             refine EL_nil ?_
             obtain rfl := sinj h
             exact hQ _ _ ⟨g7, hfr, rfl⟩
           ·refine EL_skip (.no2 rfl rfl y5 rfl) rfl ?_
            refine EL_skip (.no2 rfl rfl y5 rfl) rfl ?_
            refine EL_pur (v := .bool false) (P_pick (b := (j0.2.1 == (0 : Int))) rfl (pick_f y5 rfl)) .plain rfl ?_
            refine EL_dead 3 rfl ?_
            refine EL_at (.bool false) rfl rfl ?_
            refine EL_nil ?_
            obtain rfl := sinj h
            exact hQ _ _ ⟨g7, hfr, rfl⟩
          ·refine EL_skip (.no2 rfl rfl x5 rfl) rfl ?_
           refine EL_skip (.no2 rfl rfl x5 rfl) rfl ?_
           refine EL_pur (v := .bool false) (P_pick (b := (j0.1 == (0 : Int))) rfl (pick_f x5 rfl)) .plain rfl ?_
           refine EL_dead 7 rfl ?_
           refine EL_at (.bool false) rfl rfl ?_
           refine EL_nil ?_
           obtain rfl := sinj h
           exact hQ _ _ ⟨g7, hfr, rfl⟩
         ·refine EL_skip (.no2 rfl rfl u5 rfl) rfl ?_
          refine EL_skip (.no2 rfl rfl u5 rfl) rfl ?_
          refine EL_pur (v := .bool false) (P_pick (b := (j0.2.2.2 == z1)) rfl (pick_f u5 rfl)) .plain rfl ?_
          refine EL_dead 11 rfl ?_
          refine EL_at (.bool false) rfl rfl ?_
          refine EL_nil ?_
          obtain rfl := sinj h
          exact hQ _ _ ⟨g7, hfr, rfl⟩
        ·clear hx
         obtain ⟨lT, hfr, yJ⟩ := hR
         refine E_ret (thn_r ?_)
         obtain rfl := sinj h
         exact end1 rfl rfl (show _ = .bool (y6) from yJ) ⟨_, hfr, rfl⟩
       ·refine E_cf rB rfl ?_
        exact E_skip (thn_n (oM () _ _ ⟨g7, hfr, sJ, tJ, uJ, vJ, xJ, i8, j8, k8, l8⟩ h))
      ·rintro _ rR mT ⟨xO, hfr, zJ, b8, aK, bK, c8, qE, rE, sE, tE⟩ h
       refine E_seq (E_region (EL_do .plain rfl (D_buildSlice (g := xO) 3099 (xs := ([] : List (List Str))) (vs := []) Try.underlying78 Try.sizeOf36 Try.zeroValue36 rfl rfl .nil RVs.nil rfl rfl fun yO nT cK hs o145 zO hxt hfl => ?_)))
       have hfr := hfr.stp hs
       have b8 := b8.stp hs
       have c8 := c8.stp hs
       refine EL_at cK rfl rfl ?_
       refine EL_nil (thn_n ?_)
       obtain ⟨o0, hx, h⟩ := bsome h
       refine E_join (fun e w => ∃ (g : Gh) (d6 : Value), Fr gI wI g w ∧ e 2 = .int .i64 (x2) ∧ e 3 = p1 ∧ PT g.m w (x0 : FaultLoom) p1 ∧ e 10 = .int .i64 (j0.1) ∧ e 11 = .int .i64 (j0.2.1) ∧ e 12 = .int .i64 (j0.2.2.1) ∧ e 13 = .int .i64 (j0.2.2.2) ∧ e 14 = d6 ∧ RV g.m w (o0 : List (List Str)) d6 ∧ OS 3099 g w 36 (o0 : List (List Str)) d6) (fun Q' hQ => ?_) (fun sR aP hR => ?_)
       ·replace h := hx
        clear hx
        refine E_seq (E_region (EL_at (.int .i64 (0)) rfl rfl ?_))
        refine EL_nil (thn_n (E_block ?_))
        refine E_lp h (fun (s : (List (List Str)) × Int) e w => ∃ (g : Gh) (d6 : Value), Fr gI wI g w ∧ e 1 = up1 ∧ RV g.m w (x1 : List FaultDamage) up1 ∧ e 2 = .int .i64 (x2) ∧ e 3 = p1 ∧ PT g.m w (x0 : FaultLoom) p1 ∧ e 10 = .int .i64 (j0.1) ∧ e 11 = .int .i64 (j0.2.1) ∧ e 12 = .int .i64 (j0.2.2.1) ∧ e 13 = .int .i64 (j0.2.2.2) ∧ e 14 = d6 ∧ RV g.m w (s.1 : List (List Str)) d6 ∧ OS 3099 g w 36 (s.1 : List (List Str)) d6 ∧ e 15 = .int .i64 (s.2)) ⟨yO, (cK), hfr, zJ, b8, aK, bK, c8, qE, rE, sE, tE, rfl, zO, o145, rfl⟩ (fun X215 tI qM => ?_)
        rintro ⟨o4, q2⟩ tR oT ⟨dK, u4, hfr, mC, nC, oC, pC, qC, m8, n8, o8, p8, q8, r8, t8, v8⟩ h
        refine E_joinC h (fun (s : Unit) e w => ∃ (g : Gh) , Fr gI wI g w ∧ e 1 = up1 ∧ RV g.m w (x1 : List FaultDamage) up1 ∧ e 2 = .int .i64 (x2) ∧ e 3 = p1 ∧ PT g.m w (x0 : FaultLoom) p1 ∧ e 10 = .int .i64 (j0.1) ∧ e 11 = .int .i64 (j0.2.1) ∧ e 12 = .int .i64 (j0.2.2.1) ∧ e 13 = .int .i64 (j0.2.2.2) ∧ e 14 = u4 ∧ RV g.m w (o4 : List (List Str)) u4 ∧ OS 3099 g w 36 (o4 : List (List Str)) u4 ∧ e 15 = .int .i64 (q2)) (fun X218 xI rM h => ?_) ?_
        ·refine E_seq (E_region (EL_mv v8 rfl ?_))
         refine EL_mv mC rfl ?_
         refine EL_pur (v := .int .i64 ((x1).length : Int)) (P_len Try.underlying29 rfl nC) .plain rfl ?_
         refine EL_in (.bool ((decide (q2 < ((x1).length : Int))))) rfl rfl rfl rfl ?_
         refine EL_nil (thn_n ?_)
         rcases csome h with ⟨sB, h⟩ | ⟨sB, h⟩
         ·refine E_ct sB rfl ?_
          exact E_skip (thn_n (rM () _ _ ⟨dK, hfr, mC, nC, oC, pC, qC, m8, n8, o8, p8, q8, r8, t8, v8⟩ h))
         ·refine E_cf sB rfl ?_
          refine E_exit ?_
          refine thn_e ?_
          refine thn_e ?_
          refine blk_hit ?_
          obtain rfl := sinj h
          exact hQ _ _ ⟨dK, (u4), hfr, oC, pC, qC, m8, n8, o8, p8, q8, r8, t8⟩
        ·rintro _ uR pT ⟨bP, hfr, rC, n4, sC, tC, x4, uE, vE, xE, yE, zE, i7, j7, x8⟩ h
         obtain ⟨p4, hx, h⟩ := bsome h
         refine E_join (fun e w => ∃ (g : Gh) (d6 : Value), Fr gI wI g w ∧ e 1 = up1 ∧ RV g.m w (x1 : List FaultDamage) up1 ∧ e 2 = .int .i64 (x2) ∧ e 3 = p1 ∧ PT g.m w (x0 : FaultLoom) p1 ∧ e 10 = .int .i64 (j0.1) ∧ e 11 = .int .i64 (j0.2.1) ∧ e 12 = .int .i64 (j0.2.2.1) ∧ e 13 = .int .i64 (j0.2.2.2) ∧ e 14 = d6 ∧ RV g.m w (p4 : List (List Str)) d6 ∧ OS 3099 g w 36 (p4 : List (List Str)) d6 ∧ e 15 = .int .i64 (q2)) (fun Q' hQ => ?_) (fun vR qT hR => ?_)
         ·replace h := hx
          clear hx
          refine E_block ?_
          refine L_load (x := .tmp 3) Try.isAgg28 Try.sizeOf28 x4 fun eK cP sM => ?_
          obtain ⟨uI, jE, h⟩ := bsome h
          have dP := PT_idx n4 jE
          refine L_load (x := .tmp 110) Try.isAgg62 Try.sizeOf62 dP fun gK eP tM => ?_
          obtain ⟨d7, uM, h⟩ := bsome h
          obtain ⟨j3, vM, h⟩ := bsome h
          refine E_drawL (g := bP) (n := 10) [(6, (fun v g w => RV g.m w d7 v)), (8, (fun v g w => RV g.m w j3 v)), (9, (fun v g w => RV g.m w ([j3] : List (List Str)) v ∧ OS 3115 g w 36 ([j3] : List (List Str)) v ∧ FullV v))] [0, 1, 2, 3, 4, 5, 6, 7, 8, 9] rfl mixed (by kernel_rfl) (⟨fun _ => up_rv, fun _ => up_rv, fun _ => up_and up_rv (up_and up_os (up_eq _)), trivial⟩) ?_
          refine L_pur (c := u4) rfl rfl .plain (fun _ _ hd => P_move zE) ?_
          refine L_ld (c := eK) rfl rfl .plain (fun _ _ h => h.ch) sM tC ?_
          refine L_pur (c := up1) rfl rfl .plain (fun _ _ hd => P_move rC) ?_
          refine L_pur (c := .int .i64 (q2)) rfl rfl .plain (fun _ _ hd => P_move x8) ?_
          refine L_pur (c := ePtr up1 q2 5) rfl rfl .plain (fun _ _ hd => P_indexAddr (α := FaultDamage) Try.underlying29 Try.sizeOf62 rfl n4 rfl jE) ?_
          refine L_ld (c := gK) rfl rfl .plain (fun _ _ h => h.ch) tM rfl ?_
          refine L_do (φ := fun v g w => RV g.m w d7 v) rfl rfl .plain (fun g w hd => D_call (g := g) (vs := [eK, gK]) en36 (.cons rfl (.cons rfl .nil)) (wk36 (cP.ext hd.1) (eP.ext hd.1) uM) fun g' w' v hs hr => ⟨g', hs, hr⟩) (fun kD hv => ?_)
          obtain ⟨_, _, _, rq256⟩ := hv
          refine L_pur (c := .int .i64 (x2)) rfl rfl .plain (fun _ _ hd => P_move sC) ?_
          refine L_do (φ := fun v g w => RV g.m w j3 v) rfl rfl .plain (fun g w hd => D_call (g := g) (vs := [kD, .int .i64 (x2)]) en25 (.cons rfl (.cons rfl .nil)) (wk25 (word (A := fun g w => RV g.m w d7 kD) 6 rfl rfl (deps_of hd)) vM) fun g' w' v hs hr => ⟨g', hs, hr⟩) (fun lD hv => ?_)
          obtain ⟨_, _, _, rq258⟩ := hv
          refine L_do (φ := fun v g w => RV g.m w ([j3] : List (List Str)) v ∧ OS 3115 g w 36 ([j3] : List (List Str)) v ∧ FullV v) rfl rfl .plain (fun g w hd => D_buildSlice (g := g) 3115 (xs := ([j3] : List (List Str))) (vs := [lD]) Try.underlying78 Try.sizeOf36 Try.zeroValue36 rfl rfl (.cons rfl .nil) (RVs.cons (word (A := fun g w => RV g.m w j3 lD) 8 rfl rfl (deps_of hd)) RVs.nil) rfl rfl fun g' w' v hs o r hxt hfl => ⟨g', hxt, r, o, hfl⟩) (fun l7 hv => ?_)
          clear hv
          refine L_nil fun gP rT hall => ?_
          have hs := hall.1
          have hfr := hfr.ext hs
          have n4 := n4.ext hs
          have x4 := x4.ext hs
          have i7 := i7.ext hs
          have j7 := j7.ext hs
          have sT := (word_all (A := fun g w => RV g.m w d7 kD) 6 rfl hall)
          have tT := (word_all (A := fun g w => RV g.m w j3 lD) 8 rfl hall)
          have hP := (word_all (A := fun g w => RV g.m w ([j3] : List (List Str)) l7 ∧ OS 3115 g w 36 ([j3] : List (List Str)) l7 ∧ FullV l7) 9 rfl hall).1
          have o280 := (word_all (A := fun g w => RV g.m w ([j3] : List (List Str)) l7 ∧ OS 3115 g w 36 ([j3] : List (List Str)) l7 ∧ FullV l7) 9 rfl hall).2.1
          clear hs hall
          obtain ⟨vI, xM, h⟩ := bsome h
          refine EL_do .plain rfl (D_append (g := gP) (i := 3099) Try.underlying78 info_36 rfl rfl j7 i7 rfl hP xM fun iP uT iK hs o281 jP _ => ?_)
          have hfr := hfr.stp hs
          have n4 := n4.stp hs
          have x4 := x4.stp hs
          refine EL_at iK rfl rfl ?_
          refine EL_nil (blk_n ?_)
          obtain rfl := sinj h
          exact hQ _ _ ⟨iP, (iK), hfr, rC, n4, sC, tC, x4, uE, vE, xE, yE, rfl, jP, o281, x8⟩
         ·clear hx
          obtain ⟨kP, aF, hfr, jK, kK, lK, mK, nK, bF, cF, dF, eF, gF, iF, jF, kF⟩ := hR
          refine E_region (EL_mv kF rfl ?_)
          refine EL_in (.int .i64 ((w64 (q2 + (1 : Int))))) rfl rfl rfl rfl ?_
          refine EL_at (.int .i64 ((w64 (q2 + (1 : Int))))) rfl rfl ?_
          exact EL_nil (thn_n (qM (p4, (w64 (q2 + (1 : Int)))) _ _ ⟨kP, (aF), hfr, jK, kK, lK, mK, nK, bF, cF, dF, eF, gF, iF, jF, rfl⟩ h))
       ·clear hx
        obtain ⟨oK, n0, hfr, pK, qK, e6, lF, mF, nF, oF, pF, z4, c5⟩ := hR
        refine E_seq (E_region ?_)
        have tB : RV oK.m aP (⟨List.toArray [0, 0], rfl⟩ : Vector Int 2) (.agg (setCh [[.int .i64 0], [.int .i64 0]] []).flatten.toArray) := RV_build rfl (rep_vec (flat_chunk rep_int (flat_chunk rep_int flat_nil)) rfl)
        generalize yM : (Value.agg (setCh [[.int .i64 0], [.int .i64 0]] []).flatten.toArray) = sK at tB
        refine EL_pur (v := sK) (yM ▸ P_buildA (vs := []) [[.int .i64 0], [.int .i64 0]] Try.underlying79 layA_79 szA_3 rfl (by simp) .nil trivial) .plain rfl ?_
        refine EL_do .plain rfl (D_allocOc (g := oK) 2016 ((⟨List.toArray [0, 0], rfl⟩ : Vector Int 2) : Vector Int 2) Try.zeroValue79 (fun m w => ⟨_, (rep_vec (flat_chunk rep_int (flat_chunk rep_int flat_nil)) rfl), rfl⟩) fun lP vT j2 hs b286 cb => ?_)
        have hfr := hfr.stp hs
        have e6 := e6.stp hs
        have z4 := z4.stp hs
        have c5 := c5.stp hs rfl
        have tB := tB.stp hs
        clear cb
        refine EL_do .plain rfl (D_storeOc (g := lP) (v := sK) Try.sizeOf79 rfl b286 rfl tB fun mP xT hs b287 cb => ?_)
        clear cb
        have hfr := hfr.stp hs
        have e6 := e6.stp hs
        have z4 := z4.stp hs
        have c5 := c5.stp hs rfl
        refine EL_at (.int .i64 (1000)) rfl rfl ?_
        refine EL_nil (thn_n ?_)
        obtain ⟨⟨p3, d3⟩, hx, h⟩ := bsome h
        refine E_join (fun e w => ∃ (g : Gh) , Fr gI wI g w ∧ e 10 = .int .i64 (j0.1) ∧ e 11 = .int .i64 (j0.2.1) ∧ e 12 = .int .i64 (j0.2.2.1) ∧ e 13 = .int .i64 (j0.2.2.2) ∧ e 16 = j2 ∧ OB 2016 g w 79 (p3 : Vector Int 2) j2 ∧ e 17 = .int .i64 (d3)) (fun Q' hQ => ?_) (fun xR nP hR => ?_)
        ·replace h := hx
         clear hx
         refine E_seq (E_region (EL_at (.int .i64 (0)) rfl rfl ?_))
         refine EL_nil (thn_n (E_block ?_))
         refine E_lp h (fun (s : (Vector Int 2) × Int × Int) e w => ∃ (g : Gh) , Fr gI wI g w ∧ e 2 = .int .i64 (x2) ∧ e 3 = p1 ∧ PT g.m w (x0 : FaultLoom) p1 ∧ e 10 = .int .i64 (j0.1) ∧ e 11 = .int .i64 (j0.2.1) ∧ e 12 = .int .i64 (j0.2.2.1) ∧ e 13 = .int .i64 (j0.2.2.2) ∧ e 14 = n0 ∧ RV g.m w (o0 : List (List Str)) n0 ∧ OS 3099 g w 36 (o0 : List (List Str)) n0 ∧ e 16 = j2 ∧ OB 2016 g w 79 (s.1 : Vector Int 2) j2 ∧ e 17 = .int .i64 (s.2.1) ∧ e 18 = .int .i64 (s.2.2)) ⟨mP, hfr, pK, qK, e6, lF, mF, nF, oF, pF, z4, c5, rfl, b287, rfl, rfl⟩ (fun X605 yI zM => ?_)
         rintro ⟨j6, k6, u0⟩ yR yT ⟨tK, hfr, uC, uK, vK, y8, z8, a9, b9, qF, rF, sF, c9, d9, e9, g9⟩ h
         refine E_joinC h (fun (s : Unit) e w => ∃ (g : Gh) , Fr gI wI g w ∧ e 2 = .int .i64 (x2) ∧ e 3 = p1 ∧ PT g.m w (x0 : FaultLoom) p1 ∧ e 10 = .int .i64 (j0.1) ∧ e 11 = .int .i64 (j0.2.1) ∧ e 12 = .int .i64 (j0.2.2.1) ∧ e 13 = .int .i64 (j0.2.2.2) ∧ e 14 = n0 ∧ RV g.m w (o0 : List (List Str)) n0 ∧ OS 3099 g w 36 (o0 : List (List Str)) n0 ∧ e 16 = j2 ∧ OB 2016 g w 79 (j6 : Vector Int 2) j2 ∧ e 17 = .int .i64 (k6) ∧ e 18 = .int .i64 (u0)) (fun X608 gJ aN h => ?_) ?_
         ·refine E_seq (E_region (EL_mv g9 rfl ?_))
          refine EL_mv uC rfl ?_
          refine EL_in (.bool ((decide (u0 < x2)))) rfl rfl rfl rfl ?_
          refine EL_nil (thn_n ?_)
          rcases csome h with ⟨uB, h⟩ | ⟨uB, h⟩
          ·refine E_ct uB rfl ?_
           exact E_skip (thn_n (aN () _ _ ⟨tK, hfr, uC, uK, vK, y8, z8, a9, b9, qF, rF, sF, c9, d9, e9, g9⟩ h))
          ·refine E_cf uB rfl ?_
           refine E_exit ?_
           refine thn_e ?_
           refine thn_e ?_
           refine blk_hit ?_
           obtain ⟨rfl, rfl⟩ := pairs2 h
           exact hQ _ _ ⟨tK, hfr, y8, z8, a9, b9, c9, d9, e9⟩
         ·rintro _ zR zT ⟨oP, hfr, xK, yK, zK, tF, uF, vF, xF, yF, zF, aG, bG, cG, dG, eG⟩ h
          obtain ⟨⟨o6, p6⟩, hx, h⟩ := bsome h
          refine E_join (fun e w => ∃ (g : Gh) , Fr gI wI g w ∧ e 2 = .int .i64 (x2) ∧ e 3 = p1 ∧ PT g.m w (x0 : FaultLoom) p1 ∧ e 10 = .int .i64 (j0.1) ∧ e 11 = .int .i64 (j0.2.1) ∧ e 12 = .int .i64 (j0.2.2.1) ∧ e 13 = .int .i64 (j0.2.2.2) ∧ e 14 = n0 ∧ RV g.m w (o0 : List (List Str)) n0 ∧ OS 3099 g w 36 (o0 : List (List Str)) n0 ∧ e 16 = j2 ∧ OB 2016 g w 79 (o6 : Vector Int 2) j2 ∧ e 17 = .int .i64 (p6) ∧ e 18 = .int .i64 (u0)) (fun Q' hQ => ?_) (fun aS aU hR => ?_)
          ·replace h := hx
           clear hx
           refine E_block ?_
           refine E_seq (E_region (EL_at (.int .i64 (0)) rfl rfl ?_))
           refine EL_nil (thn_n (E_block ?_))
           refine E_lp h (fun (s : (Vector Int 2) × Int × Int) e w => ∃ (g : Gh) , Fr gI wI g w ∧ e 2 = .int .i64 (x2) ∧ e 3 = p1 ∧ PT g.m w (x0 : FaultLoom) p1 ∧ e 10 = .int .i64 (j0.1) ∧ e 11 = .int .i64 (j0.2.1) ∧ e 12 = .int .i64 (j0.2.2.1) ∧ e 13 = .int .i64 (j0.2.2.2) ∧ e 14 = n0 ∧ RV g.m w (o0 : List (List Str)) n0 ∧ OS 3099 g w 36 (o0 : List (List Str)) n0 ∧ e 16 = j2 ∧ OB 2016 g w 79 (s.1 : Vector Int 2) j2 ∧ e 17 = .int .i64 (s.2.1) ∧ e 18 = .int .i64 (u0) ∧ e 19 = .int .i64 (s.2.2)) ⟨oP, hfr, xK, yK, zK, tF, uF, vF, xF, yF, zF, aG, bG, cG, dG, eG, rfl⟩ (fun X766 zI bN => ?_)
           rintro ⟨o3, z2, i1⟩ bS bU ⟨mD, hfr, vC, d8, a7, i9, j9, k9, l9, m9, n9, o9, p9, q9, r9, s9, t9⟩ h
           refine E_joinC h (fun (s : Unit) e w => ∃ (g : Gh) , Fr gI wI g w ∧ e 2 = .int .i64 (x2) ∧ e 3 = p1 ∧ PT g.m w (x0 : FaultLoom) p1 ∧ e 10 = .int .i64 (j0.1) ∧ e 11 = .int .i64 (j0.2.1) ∧ e 12 = .int .i64 (j0.2.2.1) ∧ e 13 = .int .i64 (j0.2.2.2) ∧ e 14 = n0 ∧ RV g.m w (o0 : List (List Str)) n0 ∧ OS 3099 g w 36 (o0 : List (List Str)) n0 ∧ e 16 = j2 ∧ OB 2016 g w 79 (o3 : Vector Int 2) j2 ∧ e 17 = .int .i64 (z2) ∧ e 18 = .int .i64 (u0) ∧ e 19 = .int .i64 (i1)) (fun X772 eJ cN h => ?_) ?_
           ·refine E_seq (E_region (EL_mv t9 rfl ?_))
            refine EL_pur (v := fPtr p1 0) (P_fieldAddr at_28_0 d8 (PT.ptr a7)) .plain rfl ?_
            have aL := PT_field (part_FaultLoom_0).1 a7
            refine EL_pur (v := fPtr (fPtr p1 0) 1) (P_fieldAddr at_24_1 rfl (PT.ptr aL)) .plain rfl ?_
            have pP := PT_field (part_TieHarness_1).1 aL
            refine EL_do .plain rfl (D_load (g := mD) Try.isAgg22 Try.sizeOf22 rfl pP fun cU qP => ?_)
            refine EL_pur (v := .int .i64 ((((x0).Harness).Warps).length : Int)) (P_len Try.underlying22 rfl qP) .plain rfl ?_
            refine EL_pur (v := .bool ((decide (i1 < ((((x0).Harness).Warps).length : Int))))) (P_int rfl rfl rfl) .plain rfl ?_
            refine EL_nil (thn_n ?_)
            rcases csome h with ⟨vB, h⟩ | ⟨vB, h⟩
            ·refine E_ct vB rfl ?_
             exact E_skip (thn_n (cN () _ _ ⟨mD, hfr, vC, d8, a7, i9, j9, k9, l9, m9, n9, o9, p9, q9, r9, s9, t9⟩ h))
            ·refine E_cf vB rfl ?_
             refine E_exit ?_
             refine thn_e ?_
             refine thn_e ?_
             refine blk_hit ?_
             refine blk_n ?_
             obtain ⟨rfl, rfl⟩ := pairs2 h
             exact hQ _ _ ⟨mD, hfr, vC, d8, a7, i9, j9, k9, l9, m9, n9, o9, p9, q9, r9, s9⟩
           ·rintro _ cS sP ⟨bL, hfr, cL, dL, i6, gG, hG, iG, jG, kG, d5, i5, lG, j5, mG, nG, oG⟩ h
            obtain ⟨⟨m6, n6⟩, hx, h⟩ := bsome h
            refine E_join (fun e w => ∃ (g : Gh) , Fr gI wI g w ∧ e 2 = .int .i64 (x2) ∧ e 3 = p1 ∧ PT g.m w (x0 : FaultLoom) p1 ∧ e 10 = .int .i64 (j0.1) ∧ e 11 = .int .i64 (j0.2.1) ∧ e 12 = .int .i64 (j0.2.2.1) ∧ e 13 = .int .i64 (j0.2.2.2) ∧ e 14 = n0 ∧ RV g.m w (o0 : List (List Str)) n0 ∧ OS 3099 g w 36 (o0 : List (List Str)) n0 ∧ e 16 = j2 ∧ OB 2016 g w 79 (m6 : Vector Int 2) j2 ∧ e 17 = .int .i64 (n6) ∧ e 18 = .int .i64 (u0) ∧ e 19 = .int .i64 (i1)) (fun Q' hQ => ?_) (fun dS dU hR => ?_)
            ·replace h := hx
             clear hx
             refine E_block ?_
             refine E_seq (E_region ?_)
             have xB : RV bL.m sP (⟨List.toArray [0, 0], rfl⟩ : Vector Int 2) (.agg (setCh [[.int .i64 0], [.int .i64 0]] []).flatten.toArray) := RV_build rfl (rep_vec (flat_chunk rep_int (flat_chunk rep_int flat_nil)) rfl)
             generalize dN : (Value.agg (setCh [[.int .i64 0], [.int .i64 0]] []).flatten.toArray) = eL at xB
             refine EL_pur (v := eL) (dN ▸ P_buildA (vs := []) [[.int .i64 0], [.int .i64 0]] Try.underlying79 layA_79 szA_3 rfl (by simp) .nil trivial) .plain rfl ?_
             refine EL_do .plain rfl (D_allocOc (g := bL) 2020 ((⟨List.toArray [0, 0], rfl⟩ : Vector Int 2) : Vector Int 2) Try.zeroValue79 (fun m w => ⟨_, (rep_vec (flat_chunk rep_int (flat_chunk rep_int flat_nil)) rfl), rfl⟩) fun tP eU z3 hs b850 cb => ?_)
             have hfr := hfr.stp hs
             have i6 := i6.stp hs
             have d5 := d5.stp hs
             have i5 := i5.stp hs rfl
             have j5 := j5.stp hs rfl
             have xB := xB.stp hs
             clear cb
             refine EL_do .plain rfl (D_storeOc (g := tP) (v := eL) Try.sizeOf79 rfl b850 rfl xB fun uP gU hs b851 cb => ?_)
             clear cb
             have hfr := hfr.stp hs
             have i6 := i6.stp hs
             have d5 := d5.stp hs
             have i5 := i5.stp hs rfl
             have j5 := j5.stp hs rfl
             refine EL_nil (thn_n ?_)
             obtain ⟨y0, hx, h⟩ := bsome h
             refine E_join (fun e w => ∃ (g : Gh) , Fr gI wI g w ∧ e 2 = .int .i64 (x2) ∧ e 3 = p1 ∧ PT g.m w (x0 : FaultLoom) p1 ∧ e 10 = .int .i64 (j0.1) ∧ e 11 = .int .i64 (j0.2.1) ∧ e 12 = .int .i64 (j0.2.2.1) ∧ e 13 = .int .i64 (j0.2.2.2) ∧ e 14 = n0 ∧ RV g.m w (o0 : List (List Str)) n0 ∧ OS 3099 g w 36 (o0 : List (List Str)) n0 ∧ e 16 = j2 ∧ OB 2016 g w 79 (o3 : Vector Int 2) j2 ∧ e 17 = .int .i64 (z2) ∧ e 18 = .int .i64 (u0) ∧ e 19 = .int .i64 (i1) ∧ e 20 = z3 ∧ OB 2020 g w 79 (y0 : Vector Int 2) z3) (fun Q' hQ => ?_) (fun eS vP hR => ?_)
             ·replace h := hx
              clear hx
              refine E_seq (E_region (EL_at (.int .i64 (0)) rfl rfl ?_))
              refine EL_nil (thn_n (E_block ?_))
              refine E_lp h (fun (s : (Vector Int 2) × Int) e w => ∃ (g : Gh) , Fr gI wI g w ∧ e 2 = .int .i64 (x2) ∧ e 3 = p1 ∧ PT g.m w (x0 : FaultLoom) p1 ∧ e 10 = .int .i64 (j0.1) ∧ e 11 = .int .i64 (j0.2.1) ∧ e 12 = .int .i64 (j0.2.2.1) ∧ e 13 = .int .i64 (j0.2.2.2) ∧ e 14 = n0 ∧ RV g.m w (o0 : List (List Str)) n0 ∧ OS 3099 g w 36 (o0 : List (List Str)) n0 ∧ e 16 = j2 ∧ OB 2016 g w 79 (o3 : Vector Int 2) j2 ∧ e 17 = .int .i64 (z2) ∧ e 18 = .int .i64 (u0) ∧ e 19 = .int .i64 (i1) ∧ e 20 = z3 ∧ OB 2020 g w 79 (s.1 : Vector Int 2) z3 ∧ e 21 = .int .i64 (s.2)) ⟨uP, hfr, cL, dL, i6, gG, hG, iG, jG, kG, d5, i5, lG, j5, mG, nG, oG, rfl, b851, rfl⟩ (fun X883 aJ eN => ?_)
              rintro ⟨j1, s2⟩ gS hU ⟨gL, hfr, xC, yC, zC, u9, v9, x9, y9, m7, n7, z9, aA, bA, cA, dA, eA, gA, iA, jA⟩ h
              refine E_joinC h (fun (s : Unit) e w => ∃ (g : Gh) , Fr gI wI g w ∧ e 2 = .int .i64 (x2) ∧ e 3 = p1 ∧ PT g.m w (x0 : FaultLoom) p1 ∧ e 10 = .int .i64 (j0.1) ∧ e 11 = .int .i64 (j0.2.1) ∧ e 12 = .int .i64 (j0.2.2.1) ∧ e 13 = .int .i64 (j0.2.2.2) ∧ e 14 = n0 ∧ RV g.m w (o0 : List (List Str)) n0 ∧ OS 3099 g w 36 (o0 : List (List Str)) n0 ∧ e 16 = j2 ∧ OB 2016 g w 79 (o3 : Vector Int 2) j2 ∧ e 17 = .int .i64 (z2) ∧ e 18 = .int .i64 (u0) ∧ e 19 = .int .i64 (i1) ∧ e 20 = z3 ∧ OB 2020 g w 79 (j1 : Vector Int 2) z3 ∧ e 21 = .int .i64 (s2)) (fun X886 dJ gN h => ?_) ?_
              ·refine E_seq (E_region (EL_mv jA rfl ?_))
               refine EL_mv m7 rfl ?_
               refine EL_pur (v := .int .i64 ((o0).length : Int)) (P_len Try.underlying78 rfl n7) .plain rfl ?_
               refine EL_in (.bool ((decide (s2 < ((o0).length : Int))))) rfl rfl rfl rfl ?_
               refine EL_nil (thn_n ?_)
               rcases csome h with ⟨yB, h⟩ | ⟨yB, h⟩
               ·refine E_ct yB rfl ?_
                exact E_skip (thn_n (gN () _ _ ⟨gL, hfr, xC, yC, zC, u9, v9, x9, y9, m7, n7, z9, aA, bA, cA, dA, eA, gA, iA, jA⟩ h))
               ·refine E_cf yB rfl ?_
                refine E_exit ?_
                refine thn_e ?_
                refine thn_e ?_
                refine blk_hit ?_
                obtain rfl := sinj h
                exact hQ _ _ ⟨gL, hfr, xC, yC, zC, u9, v9, x9, y9, m7, n7, z9, aA, bA, cA, dA, eA, gA, iA⟩
              ·rintro _ iS iU ⟨o7, hfr, aD, bD, l5, kA, lA, mA, nA, p7, q3, i4, oA, j4, pA, q7, r7, m4, s3, t7⟩ h
               obtain ⟨l6, hx, h⟩ := bsome h
               refine E_join (fun e w => ∃ (g : Gh) , Fr gI wI g w ∧ e 2 = .int .i64 (x2) ∧ e 3 = p1 ∧ PT g.m w (x0 : FaultLoom) p1 ∧ e 10 = .int .i64 (j0.1) ∧ e 11 = .int .i64 (j0.2.1) ∧ e 12 = .int .i64 (j0.2.2.1) ∧ e 13 = .int .i64 (j0.2.2.2) ∧ e 14 = n0 ∧ RV g.m w (o0 : List (List Str)) n0 ∧ OS 3099 g w 36 (o0 : List (List Str)) n0 ∧ e 16 = j2 ∧ OB 2016 g w 79 (o3 : Vector Int 2) j2 ∧ e 17 = .int .i64 (z2) ∧ e 18 = .int .i64 (u0) ∧ e 19 = .int .i64 (i1) ∧ e 20 = z3 ∧ OB 2020 g w 79 (l6 : Vector Int 2) z3 ∧ e 21 = .int .i64 (s2)) (fun Q' hQ => ?_) (fun jS jU hR => ?_)
               ·replace h := hx
                clear hx
                refine E_block ?_
                refine E_seq (E_region (EL_mv p7 rfl ?_))
                refine EL_mv t7 rfl ?_
                obtain ⟨bJ, kE, h⟩ := bsome h
                refine EL_pur (v := ePtr n0 s2 1) (P_indexAddr (α := List Str) Try.underlying78 Try.sizeOf36 rfl q3 rfl kE) .plain rfl ?_
                have xP := PT_idx q3 kE
                refine EL_do .plain rfl (D_load (g := o7) Try.isAgg36 Try.sizeOf36 rfl xP fun yP iL => ?_)
                refine EL_mv q7 rfl ?_
                obtain ⟨cJ, lE, h⟩ := bsome h
                refine EL_pur (v := ePtr yP u0 1) (P_indexAddr (α := Str) Try.underlying36 Try.sizeOf9 rfl iL rfl lE) .plain rfl ?_
                have zP := PT_idx iL lE
                refine EL_do .plain rfl (D_load (g := o7) Try.isAgg9 Try.sizeOf9 rfl zP fun kU aQ => ?_)
                obtain rfl := RV_str.1 aQ
                refine EL_mv r7 rfl ?_
                obtain ⟨zA, iN, h⟩ := bsome h
                refine EL_pur (v := .int .u8 (UInt8.toNat (zA))) (P_indexS Try.underlying9 rfl rfl iN) .plain rfl ?_
                refine EL_pur (v := .bool ((zA == (120 : UInt8)))) (P_u8 rfl rfl rfl) .plain rfl ?_
                refine EL_nil (thn_n ?_)
                rcases csome h with ⟨zB, h⟩ | ⟨zB, h⟩
                ·refine E_ct zB rfl ?_
                 refine E_region (EL_pur (v := fPtr z3 1) (P_indexAddrA (α := Int) (i := (1 : Int)) Try.underlying79 Try.sizeOf3 m4 (OB.ptr s3) rfl (idx_vec (v := j1) (i := 1) (by decide))) .plain rfl ?_)
                 refine EL_do .plain rfl (D_loadF (g := o7) (SubS.vec (β := Int) (n := 2) (i := 1) (by decide)).1 Try.isAgg3 Try.sizeOf3 rfl s3 fun lU bQ => ?_)
                 obtain rfl := RV_int.1 bQ
                 refine EL_in (.int .i64 ((w64 ((j1)[1] + (1 : Int))))) rfl rfl rfl rfl ?_
                 refine EL_pur (v := fPtr z3 1) (P_indexAddrA (α := Int) (i := (1 : Int)) Try.underlying79 Try.sizeOf3 m4 (OB.ptr s3) rfl (idx_vec (v := j1) (i := 1) (by decide))) .plain rfl ?_
                 refine EL_do .plain rfl (D_storeFc (g := o7) (SubS.vec (β := Int) (n := 2) (i := 1) (by decide)) Try.sizeOf3 rfl s3 rfl (RV_int.2 rfl) fun cQ mU hs b910 rst hos => ?_)
                 clear rst hos
                 have hfr := hfr.stp hs
                 have l5 := l5.stp hs
                 have q3 := q3.stp hs
                 have i4 := i4.stp hs rfl
                 have j4 := j4.stp hs rfl
                 refine EL_nil (blk_n ?_)
                 obtain rfl := sinj h
                 exact hQ _ _ ⟨cQ, hfr, aD, bD, l5, kA, lA, mA, nA, p7, q3, i4, oA, j4, pA, q7, r7, m4, b910, t7⟩
                ·refine E_cf zB rfl ?_
                 refine E_region (EL_pur (v := fPtr z3 0) (P_indexAddrA (α := Int) (i := (0 : Int)) Try.underlying79 Try.sizeOf3 m4 (OB.ptr s3) rfl (idx_vec (v := j1) (i := 0) (by decide))) .plain rfl ?_)
                 refine EL_do .plain rfl (D_loadF (g := o7) (SubS.vec (β := Int) (n := 2) (i := 0) (by decide)).1 Try.isAgg3 Try.sizeOf3 rfl s3 fun nU dQ => ?_)
                 obtain rfl := RV_int.1 dQ
                 refine EL_in (.int .i64 ((w64 ((j1)[0] + (1 : Int))))) rfl rfl rfl rfl ?_
                 refine EL_pur (v := fPtr z3 0) (P_indexAddrA (α := Int) (i := (0 : Int)) Try.underlying79 Try.sizeOf3 m4 (OB.ptr s3) rfl (idx_vec (v := j1) (i := 0) (by decide))) .plain rfl ?_
                 refine EL_do .plain rfl (D_storeFc (g := o7) (SubS.vec (β := Int) (n := 2) (i := 0) (by decide)) Try.sizeOf3 rfl s3 rfl (RV_int.2 rfl) fun eQ oU hs b912 rst hos => ?_)
                 clear rst hos
                 have hfr := hfr.stp hs
                 have l5 := l5.stp hs
                 have q3 := q3.stp hs
                 have i4 := i4.stp hs rfl
                 have j4 := j4.stp hs rfl
                 refine EL_nil (blk_n ?_)
                 obtain rfl := sinj h
                 exact hQ _ _ ⟨eQ, hfr, aD, bD, l5, kA, lA, mA, nA, p7, q3, i4, oA, j4, pA, q7, r7, m4, b912, t7⟩
               ·clear hx
                obtain ⟨gQ, hfr, jL, kL, lL, pG, qG, rG, sG, tG, uG, vG, xG, yG, zG, aH, bH, cH, dH, gH⟩ := hR
                refine E_region (EL_mv gH rfl ?_)
                refine EL_in (.int .i64 ((w64 (s2 + (1 : Int))))) rfl rfl rfl rfl ?_
                refine EL_at (.int .i64 ((w64 (s2 + (1 : Int))))) rfl rfl ?_
                exact EL_nil (thn_n (eN (l6, (w64 (s2 + (1 : Int)))) _ _ ⟨gQ, hfr, jL, kL, lL, pG, qG, rG, sG, tG, uG, vG, xG, yG, zG, aH, bH, cH, dH, rfl⟩ h))
             ·clear hx
              obtain ⟨e8, hfr, cD, dD, b7, qA, rA, sA, tA, uA, q6, r6, u7, vA, xA, v7, x7, yA, t6⟩ := hR
              refine E_seq (E_region (EL_pur (v := fPtr z3 0) (P_indexAddrA (α := Int) (i := (0 : Int)) Try.underlying79 Try.sizeOf3 yA (OB.ptr t6) rfl (idx_vec (v := y0) (i := 0) (by decide))) .plain rfl ?_))
              refine EL_do .plain rfl (D_loadF (g := e8) (SubS.vec (β := Int) (n := 2) (i := 0) (by decide)).1 Try.isAgg3 Try.sizeOf3 rfl t6 fun pU iQ => ?_)
              obtain rfl := RV_int.1 iQ
              refine EL_pur (v := fPtr z3 1) (P_indexAddrA (α := Int) (i := (1 : Int)) Try.underlying79 Try.sizeOf3 yA (OB.ptr t6) rfl (idx_vec (v := y0) (i := 1) (by decide))) .plain rfl ?_
              refine EL_do .plain rfl (D_loadF (g := e8) (SubS.vec (β := Int) (n := 2) (i := 1) (by decide)).1 Try.isAgg3 Try.sizeOf3 rfl t6 fun qU jQ => ?_)
              obtain rfl := RV_int.1 jQ
              refine EL_pur (v := .int .i64 (max64 (y0)[0] (y0)[1])) (P_max rfl rfl) .plain rfl ?_
              refine EL_at (.int .i64 (max64 (y0)[0] (y0)[1])) rfl rfl ?_
              refine EL_nil (thn_n (E_seq (E_region (EL_mw (.int .i64 (max64 (y0)[0] (y0)[1])) rfl rfl ?_))))
              refine EL_mv xA rfl ?_
              refine EL_in (.bool ((decide ((max64 (y0)[0] (y0)[1]) < z2)))) rfl rfl rfl rfl ?_
              refine EL_nil (thn_n ?_)
              rcases csome h with ⟨aC, h⟩ | ⟨aC, h⟩
              ·refine E_ct aC rfl ?_
               refine E_region (EL_mv v7 rfl ?_)
               refine EL_mv x7 rfl ?_
               have mL : RV e8.m vP (⟨List.toArray [u0, i1], rfl⟩ : Vector Int 2) (.agg (setCh [[.int .i64 0], [.int .i64 0]] [(0, .int .i64 (u0)), (1, .int .i64 (i1))]).flatten.toArray) := RV_build rfl (rep_vec (flat_chunk rfl (flat_chunk rfl flat_nil)) rfl)
               generalize jN : (Value.agg (setCh [[.int .i64 0], [.int .i64 0]] [(0, .int .i64 (u0)), (1, .int .i64 (i1))]).flatten.toArray) = nL at mL
               refine EL_pur (v := nL) (jN ▸ P_buildA (vs := [(0, .int .i64 (u0)), (1, .int .i64 (i1))]) [[.int .i64 0], [.int .i64 0]] Try.underlying79 layA_79 szA_3 rfl (by simp) (.cons rfl (.cons rfl .nil)) ⟨⟨_, rfl, rfl⟩, ⟨⟨_, rfl, rfl⟩, trivial⟩⟩) .plain rfl ?_
               refine EL_mw (.int .i64 (max64 (y0)[0] (y0)[1])) rfl rfl ?_
               refine EL_do .plain rfl (D_storeOc (g := e8) (v := nL) Try.sizeOf79 u7 vA rfl mL fun kQ rU hs b919 cb => ?_)
               clear cb
               have hfr := hfr.stp hs
               have b7 := b7.stp hs
               have q6 := q6.stp hs
               have r6 := r6.stp hs rfl
               refine EL_at (.int .i64 (max64 (y0)[0] (y0)[1])) rfl rfl ?_
               refine EL_nil (blk_n ?_)
               obtain ⟨rfl, rfl⟩ := pairs2 h
               exact hQ _ _ ⟨kQ, hfr, cD, dD, b7, qA, rA, sA, tA, uA, q6, r6, u7, b919, rfl, v7, x7⟩
              ·refine E_cf aC rfl ?_
               refine E_skip (blk_n ?_)
               obtain ⟨rfl, rfl⟩ := pairs2 h
               exact hQ _ _ ⟨e8, hfr, cD, dD, b7, qA, rA, sA, tA, uA, q6, r6, u7, vA, xA, v7, x7⟩
            ·clear hx
             obtain ⟨lQ, hfr, oL, pL, qL, iH, jH, kH, lH, mH, nH, oH, pH, qH, sH, tH, uH⟩ := hR
             refine E_region (EL_mv uH rfl ?_)
             refine EL_in (.int .i64 ((w64 (i1 + (1 : Int))))) rfl rfl rfl rfl ?_
             refine EL_at (.int .i64 ((w64 (i1 + (1 : Int))))) rfl rfl ?_
             exact EL_nil (thn_n (bN (m6, n6, (w64 (i1 + (1 : Int)))) _ _ ⟨lQ, hfr, oL, pL, qL, iH, jH, kH, lH, mH, nH, oH, pH, qH, sH, tH, rfl⟩ h))
          ·clear hx
           obtain ⟨mQ, hfr, rL, sL, tL, vH, xH, yH, zH, aI, bI, cI, dI, eI, iI, jI⟩ := hR
           refine E_region (EL_mv jI rfl ?_)
           refine EL_in (.int .i64 ((w64 (u0 + (1 : Int))))) rfl rfl rfl rfl ?_
           refine EL_at (.int .i64 ((w64 (u0 + (1 : Int))))) rfl rfl ?_
           exact EL_nil (thn_n (zM (o6, p6, (w64 (u0 + (1 : Int)))) _ _ ⟨mQ, hfr, rL, sL, tL, vH, xH, yH, zH, aI, bI, cI, dI, eI, iI, rfl⟩ h))
        ·clear hx
         obtain ⟨y7, hfr, kI, lI, mI, nI, oI, pI, qI⟩ := hR
         obtain ⟨x6, hx, h⟩ := bsome h
         refine E_join (fun e w => ∃ (g : Gh) , Fr gI wI g w ∧ e 6 = .bool (x6)) (fun Q' hQ => ?_) (fun kS sU hR => ?_)
         ·replace h := hx
          clear hx
          refine E_region (EL_mv nI rfl ?_)
          refine EL_in (.bool ((j0.2.2.2 == (0 : Int)))) rfl rfl rfl rfl ?_
          refine EL_mw (.bool ((j0.2.2.2 == (0 : Int)))) rfl rfl ?_
          rcases csome h with ⟨i3, h⟩ | ⟨i3, h⟩
          ·refine EL_do (.yes2 rfl rfl i3) rfl (D_loadO (g := y7) Try.isAgg79 Try.sizeOf79 oI pI fun tU nQ => ?_)
           refine EL_pur (v := .int .i64 (j0.1)) (P_move kI) (.yes2 rfl rfl i3) rfl ?_
           refine EL_pur (v := .int .i64 (j0.2.1)) (P_move lI) (.yes2 rfl rfl i3) rfl ?_
           have uL : RV y7.m nP (⟨List.toArray [j0.1, j0.2.1], rfl⟩ : Vector Int 2) (.agg (setCh [[.int .i64 0], [.int .i64 0]] [(0, .int .i64 (j0.1)), (1, .int .i64 (j0.2.1))]).flatten.toArray) := RV_build rfl (rep_vec (flat_chunk rfl (flat_chunk rfl flat_nil)) rfl)
           generalize kN : (Value.agg (setCh [[.int .i64 0], [.int .i64 0]] [(0, .int .i64 (j0.1)), (1, .int .i64 (j0.2.1))]).flatten.toArray) = oQ at uL
           refine EL_pur (v := oQ) (kN ▸ P_buildA (vs := [(0, .int .i64 (j0.1)), (1, .int .i64 (j0.2.1))]) [[.int .i64 0], [.int .i64 0]] Try.underlying79 layA_79 szA_3 rfl (by simp) (.cons rfl (.cons rfl .nil)) ⟨⟨_, rfl, rfl⟩, ⟨⟨_, rfl, rfl⟩, trivial⟩⟩) (.yes2 rfl rfl i3) rfl ?_
           refine EL_pur (v := .bool ((decide (p3 = (⟨List.toArray [j0.1, j0.2.1], rfl⟩ : Vector Int 2))))) (P_seq seq_79 rfl eg_79 rfl rfl nQ uL) (.yes2 rfl rfl i3) rfl ?_
           refine EL_pur (v := .bool ((decide (p3 = (⟨List.toArray [j0.1, j0.2.1], rfl⟩ : Vector Int 2))))) (P_pick (b := (j0.2.2.2 == (0 : Int))) rfl (pick_t i3 rfl)) .plain rfl ?_
           refine EL_mw (.bool ((decide (p3 = (⟨List.toArray [j0.1, j0.2.1], rfl⟩ : Vector Int 2))))) rfl rfl ?_
           rcases csome h with ⟨d4, h⟩ | ⟨d4, h⟩
           ·refine EL_pur (v := .int .i64 (j0.2.2.1)) (P_move mI) (.yes2 rfl rfl d4) rfl ?_
            refine EL_pur (v := .int .i64 (d3)) (P_move qI) (.yes2 rfl rfl d4) rfl ?_
            refine EL_pur (v := .bool ((j0.2.2.1 == d3))) (P_int rfl rfl rfl) (.yes2 rfl rfl d4) rfl ?_
            refine EL_pur (v := .bool ((j0.2.2.1 == d3))) (P_pick (b := (decide (p3 = (⟨List.toArray [j0.1, j0.2.1], rfl⟩ : Vector Int 2)))) rfl (pick_t d4 rfl)) .plain rfl ?_
            refine EL_mw (.bool ((j0.2.2.1 == d3))) rfl rfl ?_
            rcases csome h with ⟨c7, h⟩ | ⟨c7, h⟩
            ·obtain ⟨aB, lN, h⟩ := bsome h
             refine EL_do (.yes2 rfl rfl c7) rfl (D_call (g := y7) (vs := []) en15 .nil (wk15  lN) fun pQ lS uU hs hr => ?_)
             have hfr := hfr.ext hs
             subst hr
             refine EL_pur (v := .bool (aB)) (P_pick (b := (j0.2.2.1 == d3)) rfl (pick_t c7 rfl)) .plain rfl ?_
             refine EL_at (.bool (aB)) rfl rfl ?_
             refine EL_nil ?_
             obtain rfl := sinj h
             exact hQ _ _ ⟨pQ, hfr, rfl⟩
            ·refine EL_skip (.no2 rfl rfl c7 rfl) rfl ?_
             refine EL_pur (v := .bool false) (P_pick (b := (j0.2.2.1 == d3)) rfl (pick_f c7 rfl)) .plain rfl ?_
             refine EL_at (.bool false) rfl rfl ?_
             refine EL_nil ?_
             obtain rfl := sinj h
             exact hQ _ _ ⟨y7, hfr, rfl⟩
           ·refine EL_skip (.no2 rfl rfl d4 rfl) rfl ?_
            refine EL_skip (.no2 rfl rfl d4 rfl) rfl ?_
            refine EL_skip (.no2 rfl rfl d4 rfl) rfl ?_
            refine EL_pur (v := .bool false) (P_pick (b := (decide (p3 = (⟨List.toArray [j0.1, j0.2.1], rfl⟩ : Vector Int 2)))) rfl (pick_f d4 rfl)) .plain rfl ?_
            refine EL_dead 3 rfl ?_
            refine EL_at (.bool false) rfl rfl ?_
            refine EL_nil ?_
            obtain rfl := sinj h
            exact hQ _ _ ⟨y7, hfr, rfl⟩
          ·refine EL_skip (.no2 rfl rfl i3 rfl) rfl ?_
           refine EL_skip (.no2 rfl rfl i3 rfl) rfl ?_
           refine EL_skip (.no2 rfl rfl i3 rfl) rfl ?_
           refine EL_skip (.no2 rfl rfl i3 rfl) rfl ?_
           refine EL_skip (.no2 rfl rfl i3 rfl) rfl ?_
           refine EL_pur (v := .bool false) (P_pick (b := (j0.2.2.2 == (0 : Int))) rfl (pick_f i3 rfl)) .plain rfl ?_
           refine EL_dead 8 rfl ?_
           refine EL_at (.bool false) rfl rfl ?_
           refine EL_nil ?_
           obtain rfl := sinj h
           exact hQ _ _ ⟨y7, hfr, rfl⟩
         ·clear hx
          obtain ⟨vU, hfr, vL⟩ := hR
          refine E_ret ?_
          obtain rfl := sinj h
          exact end1 rfl rfl (show _ = .bool (x6) from vL) ⟨_, hfr, rfl⟩
end Go.Proofs.Ytpiaipiehjcflaa
