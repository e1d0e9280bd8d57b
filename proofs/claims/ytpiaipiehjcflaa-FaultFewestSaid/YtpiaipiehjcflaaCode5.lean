import Derived.Test.YtpiaipiehjcflaaCode4
set_option maxRecDepth 8000
set_option maxHeartbeats 4000000
namespace Go.Proofs.Ytpiaipiehjcflaa
open Go.RowKit
/-- griffe/griffelaw05.FaultApart -/
def f6 (x0 : FaultLoom) (x1 : List FaultDamage) : Option (Bool) :=
 jn (σ := Unit) (fun (_ : Unit) =>
  jn (σ := Int) (fun d3 =>
   (f16 x0).bind fun eF =>
   (f17 x1).bind fun gF =>
   (f38 eF gF).bind fun z1 =>
   (f39 eF gF).bind fun y0 =>
   jn (σ := Unit) (fun (_ : Unit) =>
    jn (σ := Unit) (fun (_ : Unit) =>
     jn (σ := Unit) (fun (_ : Unit) =>
      jn (σ := Int × Int) (fun (o3, c4) =>
       Option.bind (α := Bool) (
        bif (c4 == ((y0.1).length : Int)) then
         bif (z1.1 == o3) then
          (f15).bind fun o7 =>
          some (o7)
         else
          some (false)
        else
         some (false)
        ) fun l6 =>
       some (l6)
       ) fun pI =>
      lp (σ := Int × Int × Int) (fun qI (j5, n0, o0) =>
       jn (σ := Unit) (fun (_ : Unit) =>
        jn (σ := Int × Int) (fun (q6, r6) =>
         qI (q6, r6, (w64 (o0 + (1 : Int))))
         ) fun yA =>
        Option.bind (α := Int × (List Int) × Bool) (
         lp (σ := Int × (List Int) × Bool × Int) (fun iF (p3, d4, q3, j1) =>
          jn (σ := Unit) (fun (_ : Unit) =>
           Option.bind (α := Int × (List Int) × Bool) (
            (idx x1 o0).bind fun jF =>
            (f36 x0 jF).bind fun m6 =>
            (idx x1 j1).bind fun kF =>
            (f36 x0 kF).bind fun n6 =>
            (f40 m6 n6).bind fun s3 =>
            bif (s3 == (0 : Int)) then
             (apnd 8 d4 (([j1] : List Int))).bind fun zA =>
             bif q3 then
              some ((max64 p3 s3), zA, (decide (j1 ≥ o0)))
             else
              some ((max64 p3 s3), zA, false)
            else
             some ((max64 p3 s3), d4, q3)
            ) fun (p5, q4, q5) =>
           iF (p5, q4, q5, (w64 (j1 + (1 : Int))))
           ) fun lF =>
          bif (decide (j1 < ((x1).length : Int))) then
           lF ()
          else
           some (p3, d4, q3)
          ) big (j5, ([] : List Int), true, (0 : Int))
         ) fun (j2, u0, t5) =>
        jn (σ := Unit) (fun (_ : Unit) =>
         jn (σ := Unit) (fun (_ : Unit) =>
          jn (σ := Unit) (fun (_ : Unit) =>
           yA (j2, (w64 (n0 + (1 : Int))))
           ) fun mF =>
          lp (σ := Int) (fun nF d2 =>
           jn (σ := Unit) (fun (_ : Unit) =>
            jn (σ := Unit) (fun (_ : Unit) =>
             nF ((w64 (d2 + (1 : Int))))
             ) fun oF =>
            (idx (y0.1) n0).bind fun pF =>
            (idx pF d2).bind fun p7 =>
            (idx u0 d2).bind fun q7 =>
            bif (p7 != q7) then
             some (false)
            else
             oF ()
            ) fun qF =>
           bif (decide (d2 < ((u0).length : Int))) then
            qF ()
           else
            mF ()
           ) big ((0 : Int))
          ) fun rF =>
         Option.bind (α := Bool) (
          bif (decide (n0 ≥ ((y0.1).length : Int))) then
           some (true)
          else
           (idx (y0.1) n0).bind fun a7 =>
           some ((((a7).length : Int) != ((u0).length : Int)))
          ) fun n4 =>
         bif n4 then
          some (false)
         else
          rF ()
         ) fun sF =>
        bif (!t5) then
         yA (j2, n0)
        else
         sF ()
        ) fun rI =>
       bif (decide (o0 < ((x1).length : Int))) then
        rI ()
       else
        pI (j5, n0)
       ) big ((0 : Int), (0 : Int), (0 : Int))
      ) fun sI =>
     Option.bind (α := Bool) (
      bif (z1.2 != (0 : Int)) then
       some (true)
      else
       some ((y0.2 != (0 : Int)))
      ) fun l5 =>
     bif l5 then
      some (false)
     else
      sI ()
     ) fun tI =>
    bif (d3 != (0 : Int)) then
     Option.bind (α := Bool) (
      bif (z1.2 == d3) then
       bif (y0.2 == d3) then
        bif (z1.1 == (0 : Int)) then
         bif (((y0.1).length : Int) == (0 : Int)) then
          (f15).bind fun aB =>
          some (aB)
         else
          some (false)
        else
         some (false)
       else
        some (false)
      else
       some (false)
      ) fun b7 =>
     some (b7)
    else
     tI ()
    ) fun bN =>
   Option.bind (α := Bool) (
    (f21 eF x0).bind fun s9 =>
    bif (!s9) then
     some (true)
    else
     (f22 gF x1).bind fun tF =>
     some ((!tF))
    ) fun c6 =>
   bif c6 then
    some (false)
   else
    bN ()
   ) fun cN =>
  (f23 x0 x1).bind fun d6 =>
  Option.bind (α := Bool) (
   bif (d6 == (0 : Int)) then
    some ((decide (((x1).length : Int) > (20 : Int))))
   else
    some (false)
   ) fun e6 =>
  bif e6 then
   (f15).bind fun uF =>
   some (uF)
  else
   cN (d6)
  ) fun dN =>
 Option.bind (α := Bool) (
  (f14 x0).bind fun nB =>
  bif nB then
   some (true)
  else
   some ((decide (((x1).length : Int) > (110 : Int))))
  ) fun i6 =>
 bif i6 then
  (f15).bind fun vF =>
  some (vF)
 else
  dN ()
/-- griffe/griffelaw05.FaultFewest -/
def f8 (x0 : Mill) : Option (Bool) :=
 (f42 x0).bind fun y4 =>
 (f43 x0 y4 ((5 : Int))).bind fun u4 =>
 (f44 y4).bind fun yT =>
 (f17 u4).bind fun zT =>
 (f38 yT zT).bind fun n4 =>
 (f44 y4).bind fun aU =>
 (f17 u4).bind fun bU =>
 (f39 aU bU).bind fun l6 =>
 jn (σ := Unit) (fun (_ : Unit) =>
  (mks 8 (0 : Int) (((u4).length : Int))).bind fun y55 =>
  jn (σ := (List Int) × Int) (fun (j6, z4) =>
   jn (σ := Int) (fun v6 =>
    Option.bind (α := Bool) (
     bif (z4 == ((u4).length : Int)) then
      bif (v6 == n4.1) then
       (f15).bind fun gA =>
       some (gA)
      else
       some (false)
     else
      some (false)
     ) fun e9 =>
    some (e9)
    ) fun vE =>
   lp (σ := Int × Int) (fun xE (m8, j1) =>
    jn (σ := Unit) (fun (_ : Unit) =>
     jn (σ := Int) (fun i9 =>
      xE (i9, (w64 (j1 + (1 : Int))))
      ) fun yE =>
     lp (σ := Int × Int) (fun zE (c5, z2) =>
      jn (σ := Unit) (fun (_ : Unit) =>
       jn (σ := Int) (fun j9 =>
        zE (j9, (w64 (z2 + (1 : Int))))
        ) fun zB =>
       (f44 y4).bind fun x8 =>
       (idx u4 j1).bind fun aF =>
       (idx u4 z2).bind fun bF =>
       (f37 x8 aF bF).bind fun j0 =>
       (idx u4 j1).bind fun r6 =>
       (f45 y4 (((((y4).Design).Rows).length : Int)) (([r6] : List FaultDamage))).bind fun n0 =>
       (idx u4 z2).bind fun t6 =>
       (f45 y4 (((((y4).Design).Rows).length : Int)) (([t6] : List FaultDamage))).bind fun i2 =>
       jn (σ := Unit) (fun (_ : Unit) =>
        jn (σ := Unit) (fun (_ : Unit) =>
         jn (σ := Unit) (fun (_ : Unit) =>
          zB ((max64 c5 (w64 (j0.1 + (1 : Int)))))
          ) fun cF =>
         Option.bind (α := Bool) (
          bif (decide (j0.1 < (0 : Int))) then
           some (true)
          else
           bif (decide (j0.1 ≥ (((n0.1 : List Str)).length : Int))) then
            some (true)
           else
            bif (decide (j0.2.1 < (0 : Int))) then
             some (true)
            else
             (idx ((n0.1 : List Str)) (0 : Int)).bind fun o4 =>
             bif (decide (j0.2.1 ≥ ((o4).b.length : Int))) then
              some (true)
             else
              (cut ((n0.1 : List Str)) 0 j0.1).bind fun dF =>
              (cut ((i2.1 : List Str)) 0 j0.1).bind fun eF =>
              (f46 dF eF).bind fun x5 =>
              bif (!x5) then
               some (true)
              else
               (idx ((n0.1 : List Str)) j0.1).bind fun iA =>
               (cut (iA).b 0 j0.2.1).bind fun y6 =>
               (idx ((i2.1 : List Str)) j0.1).bind fun jA =>
               (cut (jA).b 0 j0.2.1).bind fun z6 =>
               bif (!(((⟨y6⟩ : Str)).b == ((⟨z6⟩ : Str)).b)) then
                some (true)
               else
                (idx ((n0.1 : List Str)) j0.1).bind fun aC =>
                (idx (aC).b j0.2.1).bind fun k9 =>
                (idx ((i2.1 : List Str)) j0.1).bind fun bC =>
                (idx (bC).b j0.2.1).bind fun l9 =>
                some ((k9 == l9))
          ) fun g8 =>
         bif g8 then
          some (false)
         else
          cF ()
         ) fun gF =>
        bif (j0.2.2 != (0 : Int)) then
         zB (c5)
        else
         gF ()
        ) fun iF =>
       Option.bind (α := Bool) (
        bif (!n0.2) then
         some (true)
        else
         bif (!i2.2) then
          some (true)
         else
          (idx j6 j1).bind fun p4 =>
          (idx j6 z2).bind fun q4 =>
          bif (!((j0.2.2 == (7 : Int)) == (p4 == q4))) then
           some (true)
          else
           (f46 ((n0.1 : List Str)) ((i2.1 : List Str))).bind fun y5 =>
           bif (!((j0.2.2 == (7 : Int)) == y5)) then
            some (true)
           else
            bif (j0.2.2 != (0 : Int)) then
             some ((j0.2.2 != (7 : Int)))
            else
             some (false)
        ) fun i8 =>
       bif i8 then
        some (false)
       else
        iF ()
       ) fun jF =>
      bif (decide (z2 < j1)) then
       jF ()
      else
       yE (c5)
      ) big (m8, (0 : Int))
     ) fun kF =>
    bif (decide (j1 < ((u4).length : Int))) then
     kF ()
    else
     vE (m8)
    ) big ((0 : Int), (0 : Int))
   ) fun iL =>
  lp (σ := (List Int) × Int × Int) (fun jL (y8, o8, u0) =>
   jn (σ := Unit) (fun (_ : Unit) =>
    jn (σ := (List Int) × Int) (fun (oA, x9) =>
     jL (oA, x9, (w64 (u0 + (1 : Int))))
     ) fun kL =>
    jn (σ := (List Int) × Int) (fun (pA, y9) =>
     (idx (l6.1) u0).bind fun uB =>
     bif (((uB).length : Int) == (0 : Int)) then
      some (false)
     else
      kL (pA, y9)
     ) fun lL =>
    lp (σ := (List Int) × Int × Int) (fun mL (j7, p6, j2) =>
     jn (σ := Unit) (fun (_ : Unit) =>
      jn (σ := (List Int) × Int) (fun (qA, z9) =>
       mL (qA, z9, (w64 (j2 + (1 : Int))))
       ) fun nL =>
      (idx (l6.1) u0).bind fun oL =>
      (idx oL j2).bind fun q3 =>
      jn (σ := Unit) (fun (_ : Unit) =>
       (idx j7 q3).bind fun _iS =>
       nL ((List.set j7 (Int.toNat q3) ((w64 (u0 + (1 : Int))))), (w64 (p6 + (1 : Int))))
       ) fun pL =>
      Option.bind (α := Bool) (
       bif (decide (q3 < (0 : Int))) then
        some (true)
       else
        bif (decide (q3 ≥ ((u4).length : Int))) then
         some (true)
        else
         bif (decide (j2 > (0 : Int))) then
          (idx (l6.1) u0).bind fun qL =>
          (idx qL (w64 (j2 - (1 : Int)))).bind fun l8 =>
          bif (decide (q3 ≤ l8)) then
           some (true)
          else
           bif (j2 == (0 : Int)) then
            bif (decide (u0 > (0 : Int))) then
             (idx (l6.1) (w64 (u0 - (1 : Int)))).bind fun rL =>
             (idx rL (0 : Int)).bind fun kA =>
             some ((decide (q3 ≤ kA)))
            else
             some (false)
           else
            some (false)
         else
          bif (j2 == (0 : Int)) then
           bif (decide (u0 > (0 : Int))) then
            (idx (l6.1) (w64 (u0 - (1 : Int)))).bind fun sL =>
            (idx sL (0 : Int)).bind fun lA =>
            some ((decide (q3 ≤ lA)))
           else
            some (false)
          else
           some (false)
       ) fun n8 =>
      bif n8 then
       some (false)
      else
       pL ()
      ) fun tL =>
     (idx (l6.1) u0).bind fun vB =>
     bif (decide (j2 < ((vB).length : Int))) then
      tL ()
     else
      lL (j7, p6)
     ) big (y8, o8, (0 : Int))
    ) fun uL =>
   bif (decide (u0 < ((l6.1).length : Int))) then
    uL ()
   else
    iL (y8, o8)
   ) big (y55, (0 : Int), (0 : Int))
  ) fun cU =>
 Option.bind (α := Bool) (
  bif (n4.2 != (0 : Int)) then
   some (true)
  else
   bif (l6.2 != (0 : Int)) then
    some (true)
   else
    bif (decide (n4.1 < (0 : Int))) then
     some (true)
    else
     some ((decide (n4.1 > ((((y4).Design).Rows).length : Int))))
  ) fun m9 =>
 bif m9 then
  some (false)
 else
  cU ()
theorem wk8 {gI : Gh} {wI : World} {x0 : Mill} {up0 : Value} (rp0 : RV gI.m wI x0 up0) {r : Bool} (h : f8 x0 = some r) : Fn Try.prog 8 #[up0] gI wI (fun _ _ v => v = .bool (r)) := by
 unfold f8 at h
 refine fn_of_E Try.func8 rfl (Nat.le_of_ble_eq_true rfl) fun g0 hm hfr => ?_
 have rp0 : RV g0.m wI x0 up0 := hm ▸ rp0
 show E _ 312 none _ _ _ _ _
 refine E_seq (E_region (EL_do .plain rfl (D_box (g := g0) rfl rp0 fun g1 w1 p1 hs q1 => ?_)))
 have hfr := hfr.ext hs
 refine EL_at (.bool false) rfl rfl ?_
 refine EL_nil (thn_n (E_seq (E_region (EL_do .plain rfl (D_load (g := g1) Try.isAgg84 Try.sizeOf84 rfl q1 fun v2 r2 => ?_)))))
 obtain ⟨y4, gV, h⟩ := bsome h
 refine EL_do .plain rfl (D_call (g := g1) (vs := [v2]) en42 (.cons rfl .nil) (wk42 r2 gV) fun g3 w3_ v3 hs hr => ?_)
 have hfr := hfr.ext hs
 have q1 := q1.ext hs
 have r3 := hr
 refine EL_do .plain rfl (D_allocOc (g := g3) 2003 (⟨⟨0, []⟩, ⟨0, []⟩⟩ : FaultLoom) Try.zeroValue28 (fun m w => ⟨_, (rep_two (rep_two rep_int rep_nil) (rep_two rep_int rep_nil)), rfl⟩) fun g5 w5 p5 hs b5 cb => ?_)
 have hfr := hfr.stp hs
 have q1 := q1.stp hs
 have r3 := r3.stp hs
 have jZ : OSF 2003 60301 1 g5 w5 3 28 ([] : List Int) p5 := cb.osf (by rfl)
 have kZ : OSF 2003 60303 3 g5 w5 3 28 ([] : List Int) p5 := cb.osf (by rfl)
 clear cb
 refine EL_do .plain rfl (D_storeOc (g := g5) (v := v3) Try.sizeOf28 rfl b5 rfl r3 fun g6 w6 hs b6 cb => ?_)
 clear cb
 have hfr := hfr.stp hs
 have q1 := q1.stp hs
 refine EL_nil (thn_n (E_seq (E_region (EL_do .plain rfl (D_load (g := g6) Try.isAgg84 Try.sizeOf84 rfl q1 fun v7 r7 => ?_)))))
 refine EL_do .plain rfl (D_loadO (g := g6) Try.isAgg28 Try.sizeOf28 rfl b6 fun v8 r8 => ?_)
 obtain ⟨u4, hU, h⟩ := bsome h
 refine EL_do .plain rfl (D_call (g := g6) (vs := [v7, v8, .int .i64 (5)]) en43 (.cons rfl (.cons rfl (.cons rfl .nil))) (wk43 r7 r8 hU) fun g9 w9_ v9 hs hr => ?_)
 have hfr := hfr.ext hs
 have b6 := b6.ext hs
 have r9 := hr
 refine EL_at v9 rfl rfl ?_
 refine EL_nil (thn_n (E_seq (E_region (EL_do .plain rfl (D_loadO (g := g9) Try.isAgg28 Try.sizeOf28 rfl b6 fun iV jV => ?_)))))
 obtain ⟨yT, iU, h⟩ := bsome h
 refine EL_do .plain rfl (D_call (g := g9) (vs := [iV]) en44 (.cons rfl .nil) (wk44 jV iU) fun kV lZ lV hs hr => ?_)
 have hfr := hfr.ext hs
 have b6 := b6.ext hs
 have r9 := r9.ext hs
 have pP := hr
 refine EL_mw v9 rfl rfl ?_
 obtain ⟨zT, jU, h⟩ := bsome h
 refine EL_do .plain rfl (D_call (g := kV) (vs := [v9]) en17 (.cons rfl .nil) (wk17 r9 jU) fun mV mZ nV hs hr => ?_)
 have hfr := hfr.ext hs
 have b6 := b6.ext hs
 have r9 := r9.ext hs
 have pP := pP.ext hs
 have oV := hr
 obtain ⟨n4, kU, h⟩ := bsome h
 refine EL_do .plain rfl (D_call (g := mV) (vs := [lV, nV]) en38 (.cons rfl (.cons rfl .nil)) (wk38 pP oV kU) fun dU nZ tZ hs hr => ?_)
 have hfr := hfr.ext hs
 have b6 := b6.ext hs
 have r9 := r9.ext hs
 obtain ⟨nY, oY, rfl, rfl, rfl⟩ := hr
 refine EL_mw (.tuple #[.int .i64 (n4.1), .int .i64 (n4.2)]) rfl rfl ?_
 refine EL_pur (v := .int .i64 (n4.1)) (P_extract rfl rfl) .plain rfl ?_
 refine EL_pur (v := .int .i64 (n4.2)) (P_extract rfl rfl) .plain rfl ?_
 refine EL_at (.int .i64 (n4.1)) rfl rfl ?_
 refine EL_at (.int .i64 (n4.2)) rfl rfl ?_
 refine EL_nil (thn_n (E_seq (E_region (EL_do .plain rfl (D_loadO (g := dU) Try.isAgg28 Try.sizeOf28 rfl b6 fun pV qV => ?_)))))
 obtain ⟨aU, lU, h⟩ := bsome h
 refine EL_do .plain rfl (D_call (g := dU) (vs := [pV]) en44 (.cons rfl .nil) (wk44 qV lU) fun rV oZ sV hs hr => ?_)
 have hfr := hfr.ext hs
 have b6 := b6.ext hs
 have r9 := r9.ext hs
 have qP := hr
 refine EL_mw v9 rfl rfl ?_
 obtain ⟨bU, mU, h⟩ := bsome h
 refine EL_do .plain rfl (D_call (g := rV) (vs := [v9]) en17 (.cons rfl .nil) (wk17 r9 mU) fun tV pZ uV hs hr => ?_)
 have hfr := hfr.ext hs
 have b6 := b6.ext hs
 have r9 := r9.ext hs
 have qP := qP.ext hs
 have vV := hr
 obtain ⟨l6, nU, h⟩ := bsome h
 refine EL_do .plain rfl (D_call (g := tV) (vs := [sV, uV]) en39 (.cons rfl (.cons rfl .nil)) (wk39 qP vV nU) fun lF qZ uZ hs hr => ?_)
 have hfr := hfr.ext hs
 have b6 := b6.ext hs
 have r9 := r9.ext hs
 obtain ⟨m4, pY, rfl, xB, rfl⟩ := hr
 refine EL_mw (.tuple #[m4, .int .i64 (l6.2)]) rfl rfl ?_
 refine EL_pur (v := m4) (P_extract rfl rfl) .plain rfl ?_
 refine EL_pur (v := .int .i64 (l6.2)) (P_extract rfl rfl) .plain rfl ?_
 refine EL_at m4 rfl rfl ?_
 refine EL_at (.int .i64 (l6.2)) rfl rfl ?_
 refine EL_nil (thn_n (E_joinC h (fun (s : Unit) e w => ∃ (g : Gh) , Fr gI wI g w ∧ e 3 = p5 ∧ OB 2003 g w 28 (y4 : FaultLoom) p5 ∧ e 4 = v9 ∧ RV g.m w (u4 : List FaultDamage) v9 ∧ e 5 = .int .i64 (n4.1) ∧ e 7 = m4 ∧ RV g.m w (l6.1 : List (List Int)) m4) (fun X39 cU oU h => ?_) ?_))
 ·obtain ⟨m9, hx, h⟩ := bsome h
  refine E_join (fun e w => ∃ (g : Gh) , Fr gI wI g w ∧ e 3 = p5 ∧ OB 2003 g w 28 (y4 : FaultLoom) p5 ∧ e 4 = v9 ∧ RV g.m w (u4 : List FaultDamage) v9 ∧ e 5 = .int .i64 (n4.1) ∧ e 7 = m4 ∧ RV g.m w (l6.1 : List (List Int)) m4 ∧ e 62 = .bool (m9)) (fun Q' hQ => ?_) (fun rZ vZ hR => ?_)
  ·replace h := hx
   clear hx
   refine E_region (EL_mw (.int .i64 (n4.2)) rfl rfl ?_)
   refine EL_in (.bool ((n4.2 != (0 : Int)))) rfl rfl rfl rfl ?_
   refine EL_mw (.bool ((n4.2 != (0 : Int)))) rfl rfl ?_
   rcases csome h with ⟨aA, h⟩ | ⟨aA, h⟩
   ·refine EL_skip (.no2 rfl rfl aA rfl) rfl ?_
    refine EL_skip (.no2 rfl rfl aA rfl) rfl ?_
    refine EL_pur (v := .bool true) (P_pick (b := (n4.2 != (0 : Int))) rfl (pick_t aA rfl)) .plain rfl ?_
    refine EL_dead 12 rfl ?_
    refine EL_nil ?_
    obtain rfl := sinj h
    exact hQ _ _ ⟨lF, hfr, rfl, b6, rfl, r9, rfl, rfl, xB, rfl⟩
   ·refine EL_pur (v := .int .i64 (l6.2)) (P_move rfl) (.yes2 rfl rfl aA) rfl ?_
    refine EL_pur (v := .bool ((l6.2 != (0 : Int)))) (P_int rfl rfl rfl) (.yes2 rfl rfl aA) rfl ?_
    refine EL_pur (v := .bool ((l6.2 != (0 : Int)))) (P_pick (b := (n4.2 != (0 : Int))) rfl (pick_f aA rfl)) .plain rfl ?_
    refine EL_mw (.bool ((l6.2 != (0 : Int)))) rfl rfl ?_
    rcases csome h with ⟨bA, h⟩ | ⟨bA, h⟩
    ·refine EL_skip (.no2 rfl rfl bA rfl) rfl ?_
     refine EL_skip (.no2 rfl rfl bA rfl) rfl ?_
     refine EL_pur (v := .bool true) (P_pick (b := (l6.2 != (0 : Int))) rfl (pick_t bA rfl)) .plain rfl ?_
     refine EL_dead 8 rfl ?_
     refine EL_nil ?_
     obtain rfl := sinj h
     exact hQ _ _ ⟨lF, hfr, rfl, b6, rfl, r9, rfl, rfl, xB, rfl⟩
    ·refine EL_pur (v := .int .i64 (n4.1)) (P_move rfl) (.yes2 rfl rfl bA) rfl ?_
     refine EL_pur (v := .bool ((decide (n4.1 < (0 : Int))))) (P_int rfl rfl rfl) (.yes2 rfl rfl bA) rfl ?_
     refine EL_pur (v := .bool ((decide (n4.1 < (0 : Int))))) (P_pick (b := (l6.2 != (0 : Int))) rfl (pick_f bA rfl)) .plain rfl ?_
     refine EL_mw (.bool ((decide (n4.1 < (0 : Int))))) rfl rfl ?_
     rcases csome h with ⟨x7, h⟩ | ⟨x7, h⟩
     ·refine EL_skip (.no2 rfl rfl x7 rfl) rfl ?_
      refine EL_skip (.no2 rfl rfl x7 rfl) rfl ?_
      refine EL_skip (.no2 rfl rfl x7 rfl) rfl ?_
      refine EL_skip (.no2 rfl rfl x7 rfl) rfl ?_
      refine EL_skip (.no2 rfl rfl x7 rfl) rfl ?_
      refine EL_skip (.no2 rfl rfl x7 rfl) rfl ?_
      refine EL_pur (v := .bool true) (P_pick (b := (decide (n4.1 < (0 : Int)))) rfl (pick_t x7 rfl)) .plain rfl ?_
      refine EL_nil ?_
      obtain rfl := sinj h
      exact hQ _ _ ⟨lF, hfr, rfl, b6, rfl, r9, rfl, rfl, xB, rfl⟩
     ·refine EL_pur (v := .int .i64 (n4.1)) (P_move rfl) (.yes2 rfl rfl x7) rfl ?_
      refine EL_pur (v := fPtr p5 2) (P_fieldAddr at_28_1 rfl (OB.ptr b6)) (.yes2 rfl rfl x7) rfl ?_
      refine EL_pur (v := fPtr p5 3) (P_fieldAddr2 (o1 := 2) rfl at_26_1 rfl (OB.ptr b6)) (.yes2 rfl rfl x7) rfl ?_
      refine EL_do (.yes2 rfl rfl x7) rfl (D_loadF (g := lF) (SubS.comp part_FaultLoom_1 part_Design_1 rfl).1 Try.isAgg22 Try.sizeOf22 rfl b6 fun xZ xV => ?_)
      refine EL_pur (v := .int .i64 ((((y4).Design).Rows).length : Int)) (P_len Try.underlying22 rfl xV) (.yes2 rfl rfl x7) rfl ?_
      refine EL_pur (v := .bool ((decide (n4.1 > ((((y4).Design).Rows).length : Int))))) (P_int rfl rfl rfl) (.yes2 rfl rfl x7) rfl ?_
      refine EL_pur (v := .bool ((decide (n4.1 > ((((y4).Design).Rows).length : Int))))) (P_pick (b := (decide (n4.1 < (0 : Int)))) rfl (pick_f x7 rfl)) .plain rfl ?_
      refine EL_nil ?_
      obtain rfl := sinj h
      exact hQ _ _ ⟨lF, hfr, rfl, b6, rfl, r9, rfl, rfl, xB, rfl⟩
  ·clear hx
   obtain ⟨yV, hfr, jS, kS, lS, mS, nS, oS, pS, mF⟩ := hR
   rcases csome h with ⟨jI, h⟩ | ⟨jI, h⟩
   ·refine E_cond_true (Eq.trans (show ev _ _ = .bool (m9) from mF) (congrArg Value.bool jI)) ?_
    refine E_seq (E_region (EL_at (.bool false) rfl rfl ?_))
    refine EL_nil (thn_n (E_ret (thn_r ?_)))
    obtain rfl := sinj h
    exact end1 rfl rfl (show _ = .bool false from rfl) ⟨_, hfr, rfl⟩
   ·refine E_cond_false (Eq.trans (show ev _ _ = .bool (m9) from mF) (congrArg Value.bool jI)) ?_
    exact E_skip (thn_n (oU () _ _ ⟨yV, hfr, jS, kS, lS, mS, nS, oS, pS⟩ h))
 ·rintro _ sZ yZ ⟨zV, hfr, qS, sE, vL, yB, rS, sS, tE⟩ h
  refine E_seq (E_region (EL_mv vL rfl ?_))
  refine EL_pur (v := .int .i64 ((u4).length : Int)) (P_len Try.underlying29 rfl yB) .plain rfl ?_
  obtain ⟨y55, pU, h⟩ := bsome h
  refine EL_do .plain rfl (D_makeSliceM (g := zV) 9065 (0 : Int) rfl Try.underlying22 info_3 rfl (fun _ _ => rfl) rfl rfl pU fun aW zZ c4 hs b56 => ?_)
  have hfr := hfr.stp hs
  have sE := sE.stp hs rfl
  have yB := yB.stp hs
  have tE := tE.stp hs
  refine EL_at c4 rfl rfl ?_
  refine EL_at (.int .i64 (0)) rfl rfl ?_
  refine EL_nil (thn_n (E_joinC h (fun (s : (List Int) × Int) e w => ∃ (g : Gh) , Fr gI wI g w ∧ e 3 = p5 ∧ OB 2003 g w 28 (y4 : FaultLoom) p5 ∧ e 4 = v9 ∧ RV g.m w (u4 : List FaultDamage) v9 ∧ e 5 = .int .i64 (n4.1) ∧ e 9 = c4 ∧ OM 9065 g w 3 (s.1 : List Int) c4 ∧ e 10 = .int .i64 (s.2)) (fun X1077 iL sP h => ?_) ?_))
  ·refine E_seq (E_region (EL_at (.int .i64 (0)) rfl rfl ?_))
   refine EL_nil (thn_n (E_block ?_))
   refine E_lp h (fun (s : (List Int) × Int × Int) e w => ∃ (g : Gh) , Fr gI wI g w ∧ e 3 = p5 ∧ OB 2003 g w 28 (y4 : FaultLoom) p5 ∧ e 4 = v9 ∧ RV g.m w (u4 : List FaultDamage) v9 ∧ e 5 = .int .i64 (n4.1) ∧ e 7 = m4 ∧ RV g.m w (l6.1 : List (List Int)) m4 ∧ e 9 = c4 ∧ OM 9065 g w 3 (s.1 : List Int) c4 ∧ e 10 = .int .i64 (s.2.1) ∧ e 11 = .int .i64 (s.2.2)) ⟨aW, hfr, qS, sE, vL, yB, rS, sS, tE, rfl, b56, rfl, rfl⟩ (fun X1078 jL tP => ?_)
   rintro ⟨y8, o8, u0⟩ bW qY ⟨xL, hfr, lD, mD, nD, oD, pD, qD, rD, sD, tD, cC, dC⟩ h
   refine E_joinC h (fun (s : Unit) e w => ∃ (g : Gh) , Fr gI wI g w ∧ e 3 = p5 ∧ OB 2003 g w 28 (y4 : FaultLoom) p5 ∧ e 4 = v9 ∧ RV g.m w (u4 : List FaultDamage) v9 ∧ e 5 = .int .i64 (n4.1) ∧ e 7 = m4 ∧ RV g.m w (l6.1 : List (List Int)) m4 ∧ e 9 = c4 ∧ OM 9065 g w 3 (y8 : List Int) c4 ∧ e 10 = .int .i64 (o8) ∧ e 11 = .int .i64 (u0)) (fun X1081 uL uP h => ?_) ?_
   ·refine E_seq (E_region (EL_mv dC rfl ?_))
    refine EL_mv qD rfl ?_
    refine EL_pur (v := .int .i64 ((l6.1).length : Int)) (P_len Try.underlying71 rfl rD) .plain rfl ?_
    refine EL_in (.bool ((decide (u0 < ((l6.1).length : Int))))) rfl rfl rfl rfl ?_
    refine EL_nil (thn_n ?_)
    rcases csome h with ⟨eC, h⟩ | ⟨eC, h⟩
    ·refine E_ct eC rfl ?_
     exact E_skip (thn_n (uP () _ _ ⟨xL, hfr, lD, mD, nD, oD, pD, qD, rD, sD, tD, cC, dC⟩ h))
    ·refine E_cf eC rfl ?_
     refine E_exit ?_
     refine thn_e ?_
     refine thn_e ?_
     refine blk_hit ?_
     exact thn_n (sP (y8, o8) _ _ ⟨xL, hfr, lD, mD, nD, oD, pD, sD, tD, cC⟩ h)
   ·rintro _ cW rY ⟨tS, hfr, dM, eM, gM, iM, jM, kM, lM, mM, nM, kI, lI⟩ h
    refine E_joinC h (fun (s : (List Int) × Int) e w => ∃ (g : Gh) , Fr gI wI g w ∧ e 3 = p5 ∧ OB 2003 g w 28 (y4 : FaultLoom) p5 ∧ e 4 = v9 ∧ RV g.m w (u4 : List FaultDamage) v9 ∧ e 5 = .int .i64 (n4.1) ∧ e 7 = m4 ∧ RV g.m w (l6.1 : List (List Int)) m4 ∧ e 9 = c4 ∧ OM 9065 g w 3 (s.1 : List Int) c4 ∧ e 10 = .int .i64 (s.2) ∧ e 11 = .int .i64 (u0)) (fun X1590 kL vP h => ?_) ?_
    ·refine E_block ?_
     refine E_joinC h (fun (s : (List Int) × Int) e w => ∃ (g : Gh) , Fr gI wI g w ∧ e 3 = p5 ∧ OB 2003 g w 28 (y4 : FaultLoom) p5 ∧ e 4 = v9 ∧ RV g.m w (u4 : List FaultDamage) v9 ∧ e 5 = .int .i64 (n4.1) ∧ e 7 = m4 ∧ RV g.m w (l6.1 : List (List Int)) m4 ∧ e 9 = c4 ∧ OM 9065 g w 3 (s.1 : List Int) c4 ∧ e 10 = .int .i64 (s.2) ∧ e 11 = .int .i64 (u0)) (fun X1841 lL xP h => ?_) ?_
     ·refine E_seq (E_region (EL_at (.int .i64 (0)) rfl rfl ?_))
      refine EL_nil (thn_n (E_block ?_))
      refine E_lp h (fun (s : (List Int) × Int × Int) e w => ∃ (g : Gh) , Fr gI wI g w ∧ e 3 = p5 ∧ OB 2003 g w 28 (y4 : FaultLoom) p5 ∧ e 4 = v9 ∧ RV g.m w (u4 : List FaultDamage) v9 ∧ e 5 = .int .i64 (n4.1) ∧ e 7 = m4 ∧ RV g.m w (l6.1 : List (List Int)) m4 ∧ e 9 = c4 ∧ OM 9065 g w 3 (s.1 : List Int) c4 ∧ e 10 = .int .i64 (s.2.1) ∧ e 11 = .int .i64 (u0) ∧ e 12 = .int .i64 (s.2.2)) ⟨tS, hfr, dM, eM, gM, iM, jM, kM, lM, mM, nM, kI, lI, rfl⟩ (fun X1842 mL yP => ?_)
      rintro ⟨j7, p6, j2⟩ dW sY ⟨uE, hfr, uD, vD, xD, yD, zD, rA, o9, aE, bE, iC, cA, jC⟩ h
      refine E_joinC h (fun (s : Unit) e w => ∃ (g : Gh) , Fr gI wI g w ∧ e 3 = p5 ∧ OB 2003 g w 28 (y4 : FaultLoom) p5 ∧ e 4 = v9 ∧ RV g.m w (u4 : List FaultDamage) v9 ∧ e 5 = .int .i64 (n4.1) ∧ e 7 = m4 ∧ RV g.m w (l6.1 : List (List Int)) m4 ∧ e 9 = c4 ∧ OM 9065 g w 3 (j7 : List Int) c4 ∧ e 10 = .int .i64 (p6) ∧ e 11 = .int .i64 (u0) ∧ e 12 = .int .i64 (j2)) (fun X1848 tL zP h => ?_) ?_
      ·refine E_seq (E_region (EL_mv jC rfl ?_))
       refine EL_mv rA rfl ?_
       refine EL_mv cA rfl ?_
       obtain ⟨vB, nF, h⟩ := bsome h
       refine EL_pur (v := ePtr m4 u0 1) (P_indexAddr (α := List Int) Try.underlying71 Try.sizeOf22 rfl o9 rfl nF) .plain rfl ?_
       have uS := PT_idx o9 nF
       refine EL_do .plain rfl (D_load (g := uE) Try.isAgg22 Try.sizeOf22 rfl uS fun tY vS => ?_)
       refine EL_pur (v := .int .i64 ((vB).length : Int)) (P_len Try.underlying22 rfl vS) .plain rfl ?_
       refine EL_in (.bool ((decide (j2 < ((vB).length : Int))))) rfl rfl rfl rfl ?_
       refine EL_nil (thn_n ?_)
       rcases csome h with ⟨kC, h⟩ | ⟨kC, h⟩
       ·refine E_ct kC rfl ?_
        exact E_skip (thn_n (zP () _ _ ⟨uE, hfr, uD, vD, xD, yD, zD, rA, o9, aE, bE, iC, cA, jC⟩ h))
       ·refine E_cf kC rfl ?_
        refine E_exit ?_
        refine thn_e ?_
        refine thn_e ?_
        refine blk_hit ?_
        exact thn_n (xP (j7, p6) _ _ ⟨uE, hfr, uD, vD, xD, yD, zD, rA, o9, aE, bE, iC, cA⟩ h)
      ·rintro _ eW uY ⟨n6, hfr, l7, m7, a7, b7, n7, k6, z5, o7, p7, x6, u5, a6⟩ h
       refine E_joinC h (fun (s : (List Int) × Int) e w => ∃ (g : Gh) , Fr gI wI g w ∧ e 3 = p5 ∧ OB 2003 g w 28 (y4 : FaultLoom) p5 ∧ e 4 = v9 ∧ RV g.m w (u4 : List FaultDamage) v9 ∧ e 5 = .int .i64 (n4.1) ∧ e 7 = m4 ∧ RV g.m w (l6.1 : List (List Int)) m4 ∧ e 9 = c4 ∧ OM 9065 g w 3 (s.1 : List Int) c4 ∧ e 10 = .int .i64 (s.2) ∧ e 11 = .int .i64 (u0) ∧ e 12 = .int .i64 (j2)) (fun X1972 nL aQ h => ?_) ?_
       ·refine E_block ?_
        refine E_seq (E_region (EL_mv k6 rfl ?_))
        refine EL_mv u5 rfl ?_
        obtain ⟨oL, oF, h⟩ := bsome h
        refine EL_pur (v := ePtr m4 u0 1) (P_indexAddr (α := List Int) Try.underlying71 Try.sizeOf22 rfl z5 rfl oF) .plain rfl ?_
        have xS := PT_idx z5 oF
        refine EL_do .plain rfl (D_load (g := n6) Try.isAgg22 Try.sizeOf22 rfl xS fun yS yL => ?_)
        refine EL_mv a6 rfl ?_
        obtain ⟨q3, pF, h⟩ := bsome h
        refine EL_pur (v := ePtr yS j2 1) (P_indexAddr (α := Int) Try.underlying22 Try.sizeOf3 rfl yL rfl pF) .plain rfl ?_
        have zS := PT_idx yL pF
        refine EL_do .plain rfl (D_load (g := n6) Try.isAgg3 Try.sizeOf3 rfl zS fun vY aT => ?_)
        obtain rfl := RV_int.1 aT
        refine EL_at (.int .i64 (q3)) rfl rfl ?_
        refine EL_nil (thn_n (E_joinC h (fun (s : Unit) e w => ∃ (g : Gh) , Fr gI wI g w ∧ e 3 = p5 ∧ OB 2003 g w 28 (y4 : FaultLoom) p5 ∧ e 4 = v9 ∧ RV g.m w (u4 : List FaultDamage) v9 ∧ e 5 = .int .i64 (n4.1) ∧ e 7 = m4 ∧ RV g.m w (l6.1 : List (List Int)) m4 ∧ e 9 = c4 ∧ OM 9065 g w 3 (j7 : List Int) c4 ∧ e 10 = .int .i64 (p6) ∧ e 11 = .int .i64 (u0) ∧ e 12 = .int .i64 (j2) ∧ e 13 = .int .i64 (q3)) (fun X2033 pL bQ h => ?_) ?_))
        ·obtain ⟨n8, hx, h⟩ := bsome h
         refine E_join (fun e w => ∃ (g : Gh) , Fr gI wI g w ∧ e 3 = p5 ∧ OB 2003 g w 28 (y4 : FaultLoom) p5 ∧ e 4 = v9 ∧ RV g.m w (u4 : List FaultDamage) v9 ∧ e 5 = .int .i64 (n4.1) ∧ e 7 = m4 ∧ RV g.m w (l6.1 : List (List Int)) m4 ∧ e 9 = c4 ∧ OM 9065 g w 3 (j7 : List Int) c4 ∧ e 10 = .int .i64 (p6) ∧ e 11 = .int .i64 (u0) ∧ e 12 = .int .i64 (j2) ∧ e 13 = .int .i64 (q3) ∧ e 130 = .bool (n8)) (fun Q' hQ => ?_) (fun gW xY hR => ?_)
         ·replace h := hx
          clear hx
          refine E_region (EL_mw (.int .i64 (q3)) rfl rfl ?_)
          refine EL_in (.bool ((decide (q3 < (0 : Int))))) rfl rfl rfl rfl ?_
          refine EL_mw (.bool ((decide (q3 < (0 : Int))))) rfl rfl ?_
          rcases csome h with ⟨c7, h⟩ | ⟨c7, h⟩
          ·refine EL_skip (.no2 rfl rfl c7 rfl) rfl ?_
           refine EL_skip (.no2 rfl rfl c7 rfl) rfl ?_
           refine EL_skip (.no2 rfl rfl c7 rfl) rfl ?_
           refine EL_skip (.no2 rfl rfl c7 rfl) rfl ?_
           refine EL_pur (v := .bool true) (P_pick (b := (decide (q3 < (0 : Int)))) rfl (pick_t c7 rfl)) .plain rfl ?_
           refine EL_dead 35 rfl ?_
           refine EL_nil ?_
           obtain rfl := sinj h
           exact hQ _ _ ⟨n6, hfr, l7, m7, a7, b7, n7, k6, z5, o7, p7, x6, u5, a6, rfl, rfl⟩
          ·refine EL_pur (v := .int .i64 (q3)) (P_move rfl) (.yes2 rfl rfl c7) rfl ?_
           refine EL_pur (v := v9) (P_move a7) (.yes2 rfl rfl c7) rfl ?_
           refine EL_pur (v := .int .i64 ((u4).length : Int)) (P_len Try.underlying29 rfl b7) (.yes2 rfl rfl c7) rfl ?_
           refine EL_pur (v := .bool ((decide (q3 ≥ ((u4).length : Int))))) (P_int rfl rfl rfl) (.yes2 rfl rfl c7) rfl ?_
           refine EL_pur (v := .bool ((decide (q3 ≥ ((u4).length : Int))))) (P_pick (b := (decide (q3 < (0 : Int)))) rfl (pick_f c7 rfl)) .plain rfl ?_
           refine EL_mw (.bool ((decide (q3 ≥ ((u4).length : Int))))) rfl rfl ?_
           rcases csome h with ⟨u6, h⟩ | ⟨u6, h⟩
           ·refine EL_skip (.no2 rfl rfl u6 rfl) rfl ?_
            refine EL_skip (.no2 rfl rfl u6 rfl) rfl ?_
            refine EL_skip (.no2 rfl rfl u6 rfl) rfl ?_
            refine EL_dead 10 rfl ?_
            refine EL_skip (.no2 rfl rfl u6 rfl) rfl ?_
            refine EL_pur (v := .bool true) (P_pick (b := (decide (q3 ≥ ((u4).length : Int)))) rfl (pick_t u6 rfl)) .plain rfl ?_
            refine EL_dead 19 rfl ?_
            refine EL_nil ?_
            obtain rfl := sinj h
            exact hQ _ _ ⟨n6, hfr, l7, m7, a7, b7, n7, k6, z5, o7, p7, x6, u5, a6, rfl, rfl⟩
           ·refine EL_pur (v := .int .i64 (j2)) (P_move a6) (.yes2 rfl rfl u6) rfl ?_
            refine EL_pur (v := .bool ((decide (j2 > (0 : Int))))) (P_int rfl rfl rfl) (.yes2 rfl rfl u6) rfl ?_
            refine EL_pur (v := .bool ((decide (j2 > (0 : Int))))) (P_move rfl) (.yes2 rfl rfl u6) rfl ?_
            rcases csome h with ⟨d5, h⟩ | ⟨d5, h⟩
            ·refine EL_pur (v := .int .i64 (q3)) (P_move rfl) (.yes2 rfl rfl d5) rfl ?_
             refine EL_pur (v := m4) (P_move k6) (.yes2 rfl rfl d5) rfl ?_
             refine EL_pur (v := .int .i64 (u0)) (P_move u5) (.yes2 rfl rfl d5) rfl ?_
             obtain ⟨qL, qF, h⟩ := bsome h
             refine EL_pur (v := ePtr m4 u0 1) (P_indexAddr (α := List Int) Try.underlying71 Try.sizeOf22 rfl z5 rfl qF) (.yes2 rfl rfl d5) rfl ?_
             have bT := PT_idx z5 qF
             refine EL_do (.yes2 rfl rfl d5) rfl (D_load (g := n6) Try.isAgg22 Try.sizeOf22 rfl bT fun cT zL => ?_)
             refine EL_pur (v := .int .i64 (j2)) (P_move a6) (.yes2 rfl rfl d5) rfl ?_
             refine EL_pur (v := .int .i64 ((w64 (j2 - (1 : Int))))) (P_int rfl rfl rfl) (.yes2 rfl rfl d5) rfl ?_
             obtain ⟨l8, rF, h⟩ := bsome h
             refine EL_pur (v := ePtr cT (w64 (j2 - (1 : Int))) 1) (P_indexAddr (α := Int) Try.underlying22 Try.sizeOf3 rfl zL rfl rF) (.yes2 rfl rfl d5) rfl ?_
             have dT := PT_idx zL rF
             refine EL_do (.yes2 rfl rfl d5) rfl (D_load (g := n6) Try.isAgg3 Try.sizeOf3 rfl dT fun yY eT => ?_)
             obtain rfl := RV_int.1 eT
             refine EL_pur (v := .bool ((decide (q3 ≤ l8)))) (P_int rfl rfl rfl) (.yes2 rfl rfl d5) rfl ?_
             refine EL_pur (v := .bool ((decide (q3 ≤ l8)))) (P_pick (b := (decide (j2 > (0 : Int)))) rfl (pick_t d5 rfl)) (.yes2 rfl rfl u6) rfl ?_
             refine EL_pur (v := .bool ((decide (q3 ≤ l8)))) (P_pick (b := (decide (q3 ≥ ((u4).length : Int)))) rfl (pick_f u6 rfl)) .plain rfl ?_
             refine EL_mw (.bool ((decide (q3 ≤ l8)))) rfl rfl ?_
             rcases csome h with ⟨n5, h⟩ | ⟨n5, h⟩
             ·refine EL_skip (.no2 rfl rfl n5 rfl) rfl ?_
              refine EL_skip (.no2 rfl rfl n5 rfl) rfl ?_
              refine EL_skip (.no2 rfl rfl n5 rfl) rfl ?_
              refine EL_skip (.off rfl rfl) rfl ?_
              refine EL_skip (.off rfl rfl) rfl ?_
              refine EL_skip (.no2 rfl rfl n5 rfl) rfl ?_
              refine EL_skip (.no2 rfl rfl n5 rfl) rfl ?_
              refine EL_dead 9 rfl ?_
              refine EL_skip (.no2 rfl rfl n5 rfl) rfl ?_
              refine EL_pur (v := .bool true) (P_pick (b := (decide (q3 ≤ l8))) rfl (pick_t n5 rfl)) .plain rfl ?_
              refine EL_nil ?_
              obtain rfl := sinj h
              exact hQ _ _ ⟨n6, hfr, l7, m7, a7, b7, n7, k6, z5, o7, p7, x6, u5, a6, rfl, rfl⟩
             ·refine EL_pur (v := .int .i64 (j2)) (P_move a6) (.yes2 rfl rfl n5) rfl ?_
              refine EL_pur (v := .bool ((j2 == (0 : Int)))) (P_int rfl rfl rfl) (.yes2 rfl rfl n5) rfl ?_
              refine EL_pur (v := .bool ((j2 == (0 : Int)))) (P_move rfl) (.yes2 rfl rfl n5) rfl ?_
              rcases csome h with ⟨p8, h⟩ | ⟨p8, h⟩
              ·refine EL_pur (v := .int .i64 (u0)) (P_move u5) (.yes2 rfl rfl p8) rfl ?_
               refine EL_pur (v := .bool ((decide (u0 > (0 : Int))))) (P_int rfl rfl rfl) (.yes2 rfl rfl p8) rfl ?_
               refine EL_pur (v := .bool ((decide (u0 > (0 : Int))))) (P_pick (b := (j2 == (0 : Int))) rfl (pick_t p8 rfl)) (.yes2 rfl rfl n5) rfl ?_
               refine EL_pur (v := .bool ((decide (u0 > (0 : Int))))) (P_move rfl) (.yes2 rfl rfl n5) rfl ?_
               rcases csome h with ⟨o5, h⟩ | ⟨o5, h⟩
               ·refine EL_pur (v := .int .i64 (q3)) (P_move rfl) (.yes2 rfl rfl o5) rfl ?_
                refine EL_pur (v := m4) (P_move k6) (.yes2 rfl rfl o5) rfl ?_
                refine EL_pur (v := .int .i64 (u0)) (P_move u5) (.yes2 rfl rfl o5) rfl ?_
                refine EL_pur (v := .int .i64 ((w64 (u0 - (1 : Int))))) (P_int rfl rfl rfl) (.yes2 rfl rfl o5) rfl ?_
                obtain ⟨rL, sF, h⟩ := bsome h
                refine EL_pur (v := ePtr m4 (w64 (u0 - (1 : Int))) 1) (P_indexAddr (α := List Int) Try.underlying71 Try.sizeOf22 rfl z5 rfl sF) (.yes2 rfl rfl o5) rfl ?_
                have gT := PT_idx z5 sF
                refine EL_do (.yes2 rfl rfl o5) rfl (D_load (g := n6) Try.isAgg22 Try.sizeOf22 rfl gT fun iT aM => ?_)
                obtain ⟨kA, tF, h⟩ := bsome h
                refine EL_pur (v := ePtr iT (0 : Int) 1) (P_indexAddr (α := Int) Try.underlying22 Try.sizeOf3 rfl aM rfl tF) (.yes2 rfl rfl o5) rfl ?_
                have jT := PT_idx aM tF
                refine EL_do (.yes2 rfl rfl o5) rfl (D_load (g := n6) Try.isAgg3 Try.sizeOf3 rfl jT fun zY kT => ?_)
                obtain rfl := RV_int.1 kT
                refine EL_pur (v := .bool ((decide (q3 ≤ kA)))) (P_int rfl rfl rfl) (.yes2 rfl rfl o5) rfl ?_
                refine EL_pur (v := .bool ((decide (q3 ≤ kA)))) (P_pick (b := (decide (u0 > (0 : Int)))) rfl (pick_t o5 rfl)) (.yes2 rfl rfl n5) rfl ?_
                refine EL_pur (v := .bool ((decide (q3 ≤ kA)))) (P_pick (b := (decide (q3 ≤ l8))) rfl (pick_f n5 rfl)) .plain rfl ?_
                refine EL_nil ?_
                obtain rfl := sinj h
                exact hQ _ _ ⟨n6, hfr, l7, m7, a7, b7, n7, k6, z5, o7, p7, x6, u5, a6, rfl, rfl⟩
               ·refine EL_skip (.no2 rfl rfl o5 rfl) rfl ?_
                refine EL_skip (.no2 rfl rfl o5 rfl) rfl ?_
                refine EL_skip (.no2 rfl rfl o5 rfl) rfl ?_
                refine EL_skip (.no2 rfl rfl o5 rfl) rfl ?_
                refine EL_skip (.no2 rfl rfl o5 rfl) rfl ?_
                refine EL_skip (.no2 rfl rfl o5 rfl) rfl ?_
                refine EL_skip (.no2 rfl rfl o5 rfl) rfl ?_
                refine EL_skip (.no2 rfl rfl o5 rfl) rfl ?_
                refine EL_skip (.no2 rfl rfl o5 rfl) rfl ?_
                refine EL_pur (v := .bool false) (P_pick (b := (decide (u0 > (0 : Int)))) rfl (pick_f o5 rfl)) (.yes2 rfl rfl n5) rfl ?_
                refine EL_pur (v := .bool false) (P_pick (b := (decide (q3 ≤ l8))) rfl (pick_f n5 rfl)) .plain rfl ?_
                refine EL_nil ?_
                obtain rfl := sinj h
                exact hQ _ _ ⟨n6, hfr, l7, m7, a7, b7, n7, k6, z5, o7, p7, x6, u5, a6, rfl, rfl⟩
              ·refine EL_skip (.no2 rfl rfl p8 rfl) rfl ?_
               refine EL_skip (.no2 rfl rfl p8 rfl) rfl ?_
               refine EL_pur (v := .bool false) (P_pick (b := (j2 == (0 : Int))) rfl (pick_f p8 rfl)) (.yes2 rfl rfl n5) rfl ?_
               refine EL_pur (v := .bool false) (P_move rfl) (.yes2 rfl rfl n5) rfl ?_
               refine EL_dead 9 rfl ?_
               refine EL_pur (v := .bool false) (P_pick (b := false) rfl (pick_f rfl rfl)) (.yes2 rfl rfl n5) rfl ?_
               refine EL_pur (v := .bool false) (P_pick (b := (decide (q3 ≤ l8))) rfl (pick_f n5 rfl)) .plain rfl ?_
               refine EL_nil ?_
               obtain rfl := sinj h
               exact hQ _ _ ⟨n6, hfr, l7, m7, a7, b7, n7, k6, z5, o7, p7, x6, u5, a6, rfl, rfl⟩
            ·refine EL_skip (.no2 rfl rfl d5 rfl) rfl ?_
             refine EL_skip (.no2 rfl rfl d5 rfl) rfl ?_
             refine EL_skip (.no2 rfl rfl d5 rfl) rfl ?_
             refine EL_skip (.no2 rfl rfl d5 rfl) rfl ?_
             refine EL_skip (.no2 rfl rfl d5 rfl) rfl ?_
             refine EL_skip (.no2 rfl rfl d5 rfl) rfl ?_
             refine EL_skip (.no2 rfl rfl d5 rfl) rfl ?_
             refine EL_skip (.no2 rfl rfl d5 rfl) rfl ?_
             refine EL_skip (.no2 rfl rfl d5 rfl) rfl ?_
             refine EL_skip (.no2 rfl rfl d5 rfl) rfl ?_
             refine EL_pur (v := .bool false) (P_pick (b := (decide (j2 > (0 : Int)))) rfl (pick_f d5 rfl)) (.yes2 rfl rfl u6) rfl ?_
             refine EL_pur (v := .bool false) (P_pick (b := (decide (q3 ≥ ((u4).length : Int)))) rfl (pick_f u6 rfl)) .plain rfl ?_
             refine EL_mw (.bool false) rfl rfl ?_
             refine EL_pur (v := .int .i64 (j2)) (P_move a6) (.yes2 rfl rfl rfl) rfl ?_
             refine EL_pur (v := .bool ((j2 == (0 : Int)))) (P_int rfl rfl rfl) (.yes2 rfl rfl rfl) rfl ?_
             refine EL_pur (v := .bool ((j2 == (0 : Int)))) (P_move rfl) (.yes2 rfl rfl rfl) rfl ?_
             rcases csome h with ⟨q8, h⟩ | ⟨q8, h⟩
             ·refine EL_pur (v := .int .i64 (u0)) (P_move u5) (.yes2 rfl rfl q8) rfl ?_
              refine EL_pur (v := .bool ((decide (u0 > (0 : Int))))) (P_int rfl rfl rfl) (.yes2 rfl rfl q8) rfl ?_
              refine EL_pur (v := .bool ((decide (u0 > (0 : Int))))) (P_pick (b := (j2 == (0 : Int))) rfl (pick_t q8 rfl)) (.yes2 rfl rfl rfl) rfl ?_
              refine EL_pur (v := .bool ((decide (u0 > (0 : Int))))) (P_move rfl) (.yes2 rfl rfl rfl) rfl ?_
              rcases csome h with ⟨q5, h⟩ | ⟨q5, h⟩
              ·refine EL_pur (v := .int .i64 (q3)) (P_move rfl) (.yes2 rfl rfl q5) rfl ?_
               refine EL_pur (v := m4) (P_move k6) (.yes2 rfl rfl q5) rfl ?_
               refine EL_pur (v := .int .i64 (u0)) (P_move u5) (.yes2 rfl rfl q5) rfl ?_
               refine EL_pur (v := .int .i64 ((w64 (u0 - (1 : Int))))) (P_int rfl rfl rfl) (.yes2 rfl rfl q5) rfl ?_
               obtain ⟨sL, uF, h⟩ := bsome h
               refine EL_pur (v := ePtr m4 (w64 (u0 - (1 : Int))) 1) (P_indexAddr (α := List Int) Try.underlying71 Try.sizeOf22 rfl z5 rfl uF) (.yes2 rfl rfl q5) rfl ?_
               have lT := PT_idx z5 uF
               refine EL_do (.yes2 rfl rfl q5) rfl (D_load (g := n6) Try.isAgg22 Try.sizeOf22 rfl lT fun mT bM => ?_)
               obtain ⟨lA, vF, h⟩ := bsome h
               refine EL_pur (v := ePtr mT (0 : Int) 1) (P_indexAddr (α := Int) Try.underlying22 Try.sizeOf3 rfl bM rfl vF) (.yes2 rfl rfl q5) rfl ?_
               have nT := PT_idx bM vF
               refine EL_do (.yes2 rfl rfl q5) rfl (D_load (g := n6) Try.isAgg3 Try.sizeOf3 rfl nT fun aZ oT => ?_)
               obtain rfl := RV_int.1 oT
               refine EL_pur (v := .bool ((decide (q3 ≤ lA)))) (P_int rfl rfl rfl) (.yes2 rfl rfl q5) rfl ?_
               refine EL_pur (v := .bool ((decide (q3 ≤ lA)))) (P_pick (b := (decide (u0 > (0 : Int)))) rfl (pick_t q5 rfl)) (.yes2 rfl rfl rfl) rfl ?_
               refine EL_pur (v := .bool ((decide (q3 ≤ lA)))) (P_pick (b := false) rfl (pick_f rfl rfl)) .plain rfl ?_
               refine EL_nil ?_
               obtain rfl := sinj h
               exact hQ _ _ ⟨n6, hfr, l7, m7, a7, b7, n7, k6, z5, o7, p7, x6, u5, a6, rfl, rfl⟩
              ·refine EL_skip (.no2 rfl rfl q5 rfl) rfl ?_
               refine EL_skip (.no2 rfl rfl q5 rfl) rfl ?_
               refine EL_skip (.no2 rfl rfl q5 rfl) rfl ?_
               refine EL_skip (.no2 rfl rfl q5 rfl) rfl ?_
               refine EL_skip (.no2 rfl rfl q5 rfl) rfl ?_
               refine EL_skip (.no2 rfl rfl q5 rfl) rfl ?_
               refine EL_skip (.no2 rfl rfl q5 rfl) rfl ?_
               refine EL_skip (.no2 rfl rfl q5 rfl) rfl ?_
               refine EL_skip (.no2 rfl rfl q5 rfl) rfl ?_
               refine EL_pur (v := .bool false) (P_pick (b := (decide (u0 > (0 : Int)))) rfl (pick_f q5 rfl)) (.yes2 rfl rfl rfl) rfl ?_
               refine EL_pur (v := .bool false) (P_pick (b := false) rfl (pick_f rfl rfl)) .plain rfl ?_
               refine EL_nil ?_
               obtain rfl := sinj h
               exact hQ _ _ ⟨n6, hfr, l7, m7, a7, b7, n7, k6, z5, o7, p7, x6, u5, a6, rfl, rfl⟩
             ·refine EL_skip (.no2 rfl rfl q8 rfl) rfl ?_
              refine EL_skip (.no2 rfl rfl q8 rfl) rfl ?_
              refine EL_pur (v := .bool false) (P_pick (b := (j2 == (0 : Int))) rfl (pick_f q8 rfl)) (.yes2 rfl rfl rfl) rfl ?_
              refine EL_pur (v := .bool false) (P_move rfl) (.yes2 rfl rfl rfl) rfl ?_
              refine EL_dead 9 rfl ?_
              refine EL_pur (v := .bool false) (P_pick (b := false) rfl (pick_f rfl rfl)) (.yes2 rfl rfl rfl) rfl ?_
              refine EL_pur (v := .bool false) (P_pick (b := false) rfl (pick_f rfl rfl)) .plain rfl ?_
              refine EL_nil ?_
              obtain rfl := sinj h
              exact hQ _ _ ⟨n6, hfr, l7, m7, a7, b7, n7, k6, z5, o7, p7, x6, u5, a6, rfl, rfl⟩
         ·clear hx
          obtain ⟨pT, hfr, oM, pM, qM, rM, sM, tM, uM, vM, xM, mI, nI, oI, pI, jB⟩ := hR
          rcases csome h with ⟨lC, h⟩ | ⟨lC, h⟩
          ·refine E_cond_true (Eq.trans (show ev _ _ = .bool (n8) from jB) (congrArg Value.bool lC)) ?_
           refine E_seq (E_region (EL_at (.bool false) rfl rfl ?_))
           refine EL_nil (thn_n (E_ret (thn_r ?_)))
           refine blk_r ?_
           refine thn_r ?_
           refine thn_r ?_
           refine blk_r ?_
           refine thn_r ?_
           refine blk_r ?_
           refine thn_r ?_
           refine thn_r ?_
           refine blk_r ?_
           refine thn_r ?_
           obtain rfl := sinj h
           exact end1 rfl rfl (show _ = .bool false from rfl) ⟨_, hfr, rfl⟩
          ·refine E_cond_false (Eq.trans (show ev _ _ = .bool (n8) from jB) (congrArg Value.bool lC)) ?_
           exact E_skip (thn_n (bQ () _ _ ⟨pT, hfr, oM, pM, qM, rM, sM, tM, uM, vM, xM, mI, nI, oI, pI⟩ h))
        ·rintro _ iW bZ ⟨qT, hfr, yM, sA, zM, tA, aN, bN, uA, cE, dE, qI, mC, rI, sI⟩ h
         refine E_seq (E_region (EL_mv cE rfl ?_))
         refine EL_mv sI rfl ?_
         refine EL_mv mC rfl ?_
         refine EL_in (.int .i64 ((w64 (u0 + (1 : Int))))) rfl rfl rfl rfl ?_
         obtain ⟨iS, xF, h⟩ := bsome h
         refine EL_pur (v := ePtr c4 q3 1) (P_indexAddrM (α := Int) Try.underlying22 Try.sizeOf3 rfl dE rfl xF) .plain rfl ?_
         refine EL_do .plain rfl (D_storeM (g := qT) (α := Int) (a' := ((w64 (u0 + (1 : Int))))) Try.sizeOf3 rfl dE xF rfl (RV_int.2 rfl) fun rT cZ hs b2090 => ?_)
         have hfr := hfr.stp hs
         have sA := sA.stp hs rfl
         have tA := tA.stp hs
         have uA := uA.stp hs
         refine EL_nil (thn_n (E_region (EL_mv qI rfl ?_)))
         refine EL_in (.int .i64 ((w64 (p6 + (1 : Int))))) rfl rfl rfl rfl ?_
         refine EL_at (.int .i64 ((w64 (p6 + (1 : Int))))) rfl rfl ?_
         exact EL_nil (blk_n (thn_n (aQ ((List.set j7 (Int.toNat q3) ((w64 (u0 + (1 : Int))))), (w64 (p6 + (1 : Int)))) _ _ ⟨rT, hfr, yM, sA, zM, tA, aN, bN, uA, cE, b2090, rfl, mC, rI⟩ h)))
       ·rintro ⟨qA, z9⟩ jW dZ ⟨sT, hfr, cN, dN, eN, gN, iN, jN, kN, lN, mN, tI, uI, vI⟩ h
        refine E_region (EL_mv vI rfl ?_)
        refine EL_in (.int .i64 ((w64 (j2 + (1 : Int))))) rfl rfl rfl rfl ?_
        refine EL_at (.int .i64 ((w64 (j2 + (1 : Int))))) rfl rfl ?_
        exact EL_nil (thn_n (yP (qA, z9, (w64 (j2 + (1 : Int)))) _ _ ⟨sT, hfr, cN, dN, eN, gN, iN, jN, kN, lN, mN, tI, uI, rfl⟩ h))
     ·rintro ⟨pA, y9⟩ kW eZ ⟨cM, hfr, nN, oN, pN, qN, rN, eE, vA, sN, tN, xI, nC⟩ h
      refine E_seq (E_region (EL_mv eE rfl ?_))
      refine EL_mv nC rfl ?_
      obtain ⟨uB, yF, h⟩ := bsome h
      refine EL_pur (v := ePtr m4 u0 1) (P_indexAddr (α := List Int) Try.underlying71 Try.sizeOf22 rfl vA rfl yF) .plain rfl ?_
      have tT := PT_idx vA yF
      refine EL_do .plain rfl (D_load (g := cM) Try.isAgg22 Try.sizeOf22 rfl tT fun gZ uT => ?_)
      refine EL_pur (v := .int .i64 ((uB).length : Int)) (P_len Try.underlying22 rfl uT) .plain rfl ?_
      refine EL_in (.bool ((((uB).length : Int) == (0 : Int)))) rfl rfl rfl rfl ?_
      refine EL_nil (thn_n ?_)
      rcases csome h with ⟨oC, h⟩ | ⟨oC, h⟩
      ·refine E_ct oC rfl ?_
       refine E_seq (E_region (EL_at (.bool false) rfl rfl ?_))
       refine EL_nil (thn_n (E_ret (blk_r ?_)))
       refine thn_r ?_
       refine thn_r ?_
       refine blk_r ?_
       refine thn_r ?_
       obtain rfl := sinj h
       exact end1 rfl rfl (show _ = .bool false from rfl) ⟨_, hfr, rfl⟩
      ·refine E_cf oC rfl ?_
       exact E_skip (blk_n (thn_n (vP (pA, y9) _ _ ⟨cM, hfr, nN, oN, pN, qN, rN, eE, vA, sN, tN, xI, nC⟩ h)))
    ·rintro ⟨oA, x9⟩ lW hZ ⟨vT, hfr, uN, vN, xN, yN, zN, aO, bO, cO, dO, yI, zI⟩ h
     refine E_region (EL_mv zI rfl ?_)
     refine EL_in (.int .i64 ((w64 (u0 + (1 : Int))))) rfl rfl rfl rfl ?_
     refine EL_at (.int .i64 ((w64 (u0 + (1 : Int))))) rfl rfl ?_
     exact EL_nil (thn_n (tP (oA, x9, (w64 (u0 + (1 : Int)))) _ _ ⟨vT, hfr, uN, vN, xN, yN, zN, aO, bO, cO, dO, yI, rfl⟩ h))
  ·rintro ⟨j6, z4⟩ mW iZ ⟨xT, hfr, eO, gO, hO, iO, jO, kO, lO, aJ⟩ h
   refine E_seq (E_region (EL_at (.int .i64 (0)) rfl rfl ?_))
   refine EL_nil (thn_n (E_joinC h (fun (s : Int) e w => ∃ (g : Gh) , Fr gI wI g w ∧ e 4 = v9 ∧ RV g.m w (u4 : List FaultDamage) v9 ∧ e 5 = .int .i64 (n4.1) ∧ e 10 = .int .i64 (z4) ∧ e 14 = .int .i64 (s)) (fun X20795 vE mO h => ?_) ?_))
   ·refine E_seq (E_region (EL_at (.int .i64 (0)) rfl rfl ?_))
    refine EL_nil (thn_n (E_block ?_))
    refine E_lp h (fun (s : Int × Int) e w => ∃ (g : Gh) , Fr gI wI g w ∧ e 3 = p5 ∧ OB 2003 g w 28 (y4 : FaultLoom) p5 ∧ e 4 = v9 ∧ RV g.m w (u4 : List FaultDamage) v9 ∧ e 5 = .int .i64 (n4.1) ∧ e 9 = c4 ∧ OM 9065 g w 3 (j6 : List Int) c4 ∧ e 10 = .int .i64 (z4) ∧ e 14 = .int .i64 (s.1) ∧ e 15 = .int .i64 (s.2)) ⟨xT, hfr, eO, gO, hO, iO, jO, kO, lO, aJ, rfl, rfl⟩ (fun X20796 xE nO => ?_)
    rintro ⟨m8, j1⟩ qU nW ⟨zF, hfr, bJ, cJ, dA, eA, pC, dJ, eJ, kB, lB, mB⟩ h
    refine E_joinC h (fun (s : Unit) e w => ∃ (g : Gh) , Fr gI wI g w ∧ e 3 = p5 ∧ OB 2003 g w 28 (y4 : FaultLoom) p5 ∧ e 4 = v9 ∧ RV g.m w (u4 : List FaultDamage) v9 ∧ e 5 = .int .i64 (n4.1) ∧ e 9 = c4 ∧ OM 9065 g w 3 (j6 : List Int) c4 ∧ e 10 = .int .i64 (z4) ∧ e 14 = .int .i64 (m8) ∧ e 15 = .int .i64 (j1)) (fun X20799 kF oO h => ?_) ?_
    ·refine E_seq (E_region (EL_mv mB rfl ?_))
     refine EL_mv dA rfl ?_
     refine EL_pur (v := .int .i64 ((u4).length : Int)) (P_len Try.underlying29 rfl eA) .plain rfl ?_
     refine EL_in (.bool ((decide (j1 < ((u4).length : Int))))) rfl rfl rfl rfl ?_
     refine EL_nil (thn_n ?_)
     rcases csome h with ⟨xA, h⟩ | ⟨xA, h⟩
     ·refine E_ct xA rfl ?_
      exact E_skip (thn_n (oO () _ _ ⟨zF, hfr, bJ, cJ, dA, eA, pC, dJ, eJ, kB, lB, mB⟩ h))
     ·refine E_cf xA rfl ?_
      refine E_exit ?_
      refine thn_e ?_
      refine thn_e ?_
      refine blk_hit ?_
      exact thn_n (mO (m8) _ _ ⟨zF, hfr, dA, eA, pC, kB, lB⟩ h)
    ·rintro _ rU oW ⟨cQ, hfr, gJ, iJ, jJ, kJ, lJ, mJ, nJ, aG, bG, cG⟩ h
     refine E_joinC h (fun (s : Int) e w => ∃ (g : Gh) , Fr gI wI g w ∧ e 3 = p5 ∧ OB 2003 g w 28 (y4 : FaultLoom) p5 ∧ e 4 = v9 ∧ RV g.m w (u4 : List FaultDamage) v9 ∧ e 5 = .int .i64 (n4.1) ∧ e 9 = c4 ∧ OM 9065 g w 3 (j6 : List Int) c4 ∧ e 10 = .int .i64 (z4) ∧ e 14 = .int .i64 (s) ∧ e 15 = .int .i64 (j1)) (fun X30146 yE pO h => ?_) ?_
     ·refine E_block ?_
      refine E_seq (E_region (EL_at (.int .i64 (0)) rfl rfl ?_))
      refine EL_nil (thn_n (E_block ?_))
      refine E_lp h (fun (s : Int × Int) e w => ∃ (g : Gh) , Fr gI wI g w ∧ e 3 = p5 ∧ OB 2003 g w 28 (y4 : FaultLoom) p5 ∧ e 4 = v9 ∧ RV g.m w (u4 : List FaultDamage) v9 ∧ e 5 = .int .i64 (n4.1) ∧ e 9 = c4 ∧ OM 9065 g w 3 (j6 : List Int) c4 ∧ e 10 = .int .i64 (z4) ∧ e 14 = .int .i64 (s.1) ∧ e 15 = .int .i64 (j1) ∧ e 16 = .int .i64 (s.2)) ⟨cQ, hfr, gJ, iJ, jJ, kJ, lJ, mJ, nJ, aG, bG, cG, rfl⟩ (fun X30147 zE qO => ?_)
      rintro ⟨c5, z2⟩ sU pW ⟨dG, hfr, qC, rC, sC, tC, uC, vC, xC, nB, oB, n9, pB⟩ h
      refine E_joinC h (fun (s : Unit) e w => ∃ (g : Gh) , Fr gI wI g w ∧ e 3 = p5 ∧ OB 2003 g w 28 (y4 : FaultLoom) p5 ∧ e 4 = v9 ∧ RV g.m w (u4 : List FaultDamage) v9 ∧ e 5 = .int .i64 (n4.1) ∧ e 9 = c4 ∧ OM 9065 g w 3 (j6 : List Int) c4 ∧ e 10 = .int .i64 (z4) ∧ e 14 = .int .i64 (c5) ∧ e 15 = .int .i64 (j1) ∧ e 16 = .int .i64 (z2)) (fun X30150 jF rO h => ?_) ?_
      ·refine E_seq (E_region (EL_mv pB rfl ?_))
       refine EL_mv n9 rfl ?_
       refine EL_in (.bool ((decide (z2 < j1)))) rfl rfl rfl rfl ?_
       refine EL_nil (thn_n ?_)
       rcases csome h with ⟨yA, h⟩ | ⟨yA, h⟩
       ·refine E_ct yA rfl ?_
        exact E_skip (thn_n (rO () _ _ ⟨dG, hfr, qC, rC, sC, tC, uC, vC, xC, nB, oB, n9, pB⟩ h))
       ·refine E_cf yA rfl ?_
        refine E_exit ?_
        refine thn_e ?_
        refine thn_e ?_
        refine blk_hit ?_
        exact blk_n (thn_n (pO (c5) _ _ ⟨dG, hfr, qC, rC, sC, tC, uC, vC, xC, nB, oB, n9⟩ h))
      ·rintro _ tU qW ⟨dQ, hfr, m6, s2, q6, i3, j8, c6, q2, c8, d8, e6, i6⟩ h
       refine E_joinC h (fun (s : Int) e w => ∃ (g : Gh) , Fr gI wI g w ∧ e 3 = p5 ∧ OB 2003 g w 28 (y4 : FaultLoom) p5 ∧ e 4 = v9 ∧ RV g.m w (u4 : List FaultDamage) v9 ∧ e 5 = .int .i64 (n4.1) ∧ e 9 = c4 ∧ OM 9065 g w 3 (j6 : List Int) c4 ∧ e 10 = .int .i64 (z4) ∧ e 14 = .int .i64 (s) ∧ e 15 = .int .i64 (j1) ∧ e 16 = .int .i64 (z2)) (fun X34821 zB gE h => ?_) ?_
       ·refine E_block ?_
        refine E_seq (L_loadO0 (x := .tmp 3) Try.isAgg28 Try.sizeOf28 s2 fun eG eQ sO => ?_)
        obtain ⟨x8, tO, h⟩ := bsome h
        obtain ⟨aF, iE, h⟩ := bsome h
        have gQ := PT_idx i3 iE
        refine L_load (x := .tmp 160) Try.isAgg62 Try.sizeOf62 gQ fun gG iQ uO => ?_
        obtain ⟨bF, jE, h⟩ := bsome h
        have jQ := PT_idx i3 jE
        refine L_load (x := .tmp 164) Try.isAgg62 Try.sizeOf62 jQ fun hG kQ vO => ?_
        obtain ⟨j0, xO, h⟩ := bsome h
        refine E_drawL (g := dQ) (n := 18) [(1, (fun v g w => RV g.m w x8 v)), (10, (fun v g w => ∃ y0 y1 y2 : Value, v = .tuple #[y0, y1, y2] ∧ y0 = .int .i64 (j0.1) ∧ y1 = .int .i64 (j0.2.1) ∧ y2 = .int .i64 (j0.2.2)))] [0, 1, 2, 3, 4, 5, 6, 7, 8, 9, 10, 11, 12, 13, 14, 15, 16, 17] rfl mixed (by kernel_rfl) (⟨fun _ => up_rv, fun _ => (up_ex fun _ => (up_ex fun _ => (up_ex fun _ => (up_and (up_eq _) (up_and (up_eq _) (up_and (up_eq _) (up_eq _))))))), trivial⟩) ?_
        refine L_ld (c := eG) rfl rfl .plain (fun _ _ h => ⟨h.ch, fun b hb _ => h.below.block b hb⟩) sO m6 ?_
        refine L_do (φ := fun v g w => RV g.m w x8 v) rfl rfl .plain (fun g w hd => D_call (g := g) (vs := [eG]) en44 (.cons rfl .nil) (wk44 (eQ.ext hd.1) tO) fun g' w' v hs hr => ⟨g', hs, hr⟩) (fun yC hv => ?_)
        obtain ⟨_, _, _, rq34823⟩ := hv
        refine L_pur (c := v9) rfl rfl .plain (fun _ _ hd => P_move q6) ?_
        refine L_pur (c := .int .i64 (j1)) rfl rfl .plain (fun _ _ hd => P_move e6) ?_
        refine L_pur (c := ePtr v9 j1 5) rfl rfl .plain (fun _ _ hd => P_indexAddr (α := FaultDamage) Try.underlying29 Try.sizeOf62 rfl i3 rfl iE) ?_
        refine L_ld (c := gG) rfl rfl .plain (fun _ _ h => h.ch) uO rfl ?_
        refine L_pur (c := v9) rfl rfl .plain (fun _ _ hd => P_move q6) ?_
        refine L_pur (c := .int .i64 (z2)) rfl rfl .plain (fun _ _ hd => P_move i6) ?_
        refine L_pur (c := ePtr v9 z2 5) rfl rfl .plain (fun _ _ hd => P_indexAddr (α := FaultDamage) Try.underlying29 Try.sizeOf62 rfl i3 rfl jE) ?_
        refine L_ld (c := hG) rfl rfl .plain (fun _ _ h => h.ch) vO rfl ?_
        refine L_do (φ := fun v g w => ∃ y0 y1 y2 : Value, v = .tuple #[y0, y1, y2] ∧ y0 = .int .i64 (j0.1) ∧ y1 = .int .i64 (j0.2.1) ∧ y2 = .int .i64 (j0.2.2)) rfl rfl .plain (fun g w hd => D_call (g := g) (vs := [yC, gG, hG]) en37 (.cons rfl (.cons rfl (.cons rfl .nil))) (wk37 (word (A := fun g w => RV g.m w x8 yC) 1 rfl rfl (deps_of hd)) (iQ.ext hd.1) (kQ.ext hd.1) xO) fun g' w' v hs hr => ⟨g', hs, hr⟩) (fun sW hv => ?_)
        obtain ⟨_, _, _, _, _, _, rfl, rfl, rfl, rfl⟩ := hv
        refine L_pur (c := .tuple #[.int .i64 (j0.1), .int .i64 (j0.2.1), .int .i64 (j0.2.2)]) rfl rfl .plain (fun _ _ hd => P_move rfl) ?_
        refine L_pur (c := .int .i64 (j0.1)) rfl rfl .plain (fun _ _ hd => P_extract rfl rfl) ?_
        refine L_pur (c := .int .i64 (j0.2.1)) rfl rfl .plain (fun _ _ hd => P_extract rfl rfl) ?_
        refine L_pur (c := .int .i64 (j0.2.2)) rfl rfl .plain (fun _ _ hd => P_extract rfl rfl) ?_
        refine L_pur (c := .int .i64 (j0.1)) rfl rfl .plain (fun _ _ hd => P_assign rfl) ?_
        refine L_pur (c := .int .i64 (j0.2.1)) rfl rfl .plain (fun _ _ hd => P_assign rfl) ?_
        refine L_pur (c := .int .i64 (j0.2.2)) rfl rfl .plain (fun _ _ hd => P_assign rfl) ?_
        refine L_nil fun lQ tW hall => ?_
        have hs := hall.1
        have hfr := hfr.ext hs
        have s2 := s2.ext hs
        have i3 := i3.ext hs
        have q2 := q2.ext hs
        have uW := (word_all (A := fun g w => RV g.m w x8 yC) 1 rfl hall)
        clear hs hall
        refine EL_nil (thn_n (E_seq (L_loadO0 (x := .tmp 3) Try.isAgg28 Try.sizeOf28 s2 fun iG mQ yO => ?_)))
        refine L_loadO (x := .tmp 173) (SubS.comp part_FaultLoom_1 part_Design_1 rfl).1 Try.isAgg22 Try.sizeOf22 s2 fun nQ oQ zO => ?_
        obtain ⟨r6, kE, h⟩ := bsome h
        have pQ := PT_idx i3 kE
        refine L_load (x := .tmp 178) Try.isAgg62 Try.sizeOf62 pQ fun jG qQ aP => ?_
        obtain ⟨n0, bP, h⟩ := bsome h
        refine E_drawL (g := lQ) (n := 16) [(9, (fun v g w => RV g.m w ([r6] : List FaultDamage) v ∧ OS 3180 g w 62 ([r6] : List FaultDamage) v ∧ FullV v)), (10, (fun v g w => ∃ y0 y1 : Value, v = .tuple #[y0, y1] ∧ RV g.m w (n0.1 : List Str) y0 ∧ y1 = .bool (n0.2)))] [0, 1, 2, 3, 4, 5, 6, 7, 8, 9, 10, 11, 12, 13, 14, 15] rfl mixed (by kernel_rfl) (⟨fun _ => up_and up_rv (up_and up_os (up_eq _)), fun _ => (up_ex fun _ => (up_ex fun _ => (up_and (up_eq _) (up_and up_rv (up_eq _))))), trivial⟩) ?_
        refine L_ld (c := iG) rfl rfl .plain (fun _ _ h => ⟨h.ch, fun b hb _ => h.below.block b hb⟩) yO m6 ?_
        refine L_pur (c := fPtr p5 2) rfl rfl .plain (fun _ _ hd => P_fieldAddr at_28_1 m6 (OB.ptr s2)) ?_
        refine L_pur (c := fPtr p5 3) rfl rfl .plain (fun _ _ hd => P_fieldAddr2 (o1 := 2) rfl at_26_1 rfl (OB.ptr s2)) ?_
        refine L_ld (c := nQ) rfl rfl .plain (fun _ _ h => ⟨h.ch, fun b hb _ => h.below.block b hb⟩) zO rfl ?_
        refine L_pur (c := .int .i64 ((((y4).Design).Rows).length : Int)) rfl rfl .plain (fun _ _ hd => P_len Try.underlying22 rfl oQ) ?_
        refine L_pur (c := v9) rfl rfl .plain (fun _ _ hd => P_move q6) ?_
        refine L_pur (c := .int .i64 (j1)) rfl rfl .plain (fun _ _ hd => P_move e6) ?_
        refine L_pur (c := ePtr v9 j1 5) rfl rfl .plain (fun _ _ hd => P_indexAddr (α := FaultDamage) Try.underlying29 Try.sizeOf62 rfl i3 rfl kE) ?_
        refine L_ld (c := jG) rfl rfl .plain (fun _ _ h => h.ch) aP rfl ?_
        refine L_do (φ := fun v g w => RV g.m w ([r6] : List FaultDamage) v ∧ OS 3180 g w 62 ([r6] : List FaultDamage) v ∧ FullV v) rfl rfl .plain (fun g w hd => D_buildSlice (g := g) 3180 (xs := ([r6] : List FaultDamage)) (vs := [jG]) Try.underlying29 Try.sizeOf62 Try.zeroValue62 rfl rfl (.cons rfl .nil) (RVs.cons (qQ.ext hd.1) RVs.nil) rfl rfl fun g' w' v hs o r hxt hfl => ⟨g', hxt, r, o, hfl⟩) (fun t7 hv => ?_)
        clear hv
        refine L_do (φ := fun v g w => ∃ y0 y1 : Value, v = .tuple #[y0, y1] ∧ RV g.m w (n0.1 : List Str) y0 ∧ y1 = .bool (n0.2)) rfl rfl .plain (fun g w hd => D_call (g := g) (vs := [iG, .int .i64 ((((y4).Design).Rows).length : Int), t7]) en45 (.cons rfl (.cons rfl (.cons rfl .nil))) (wk45 (mQ.ext hd.1) (word (A := fun g w => RV g.m w ([r6] : List FaultDamage) t7 ∧ OS 3180 g w 62 ([r6] : List FaultDamage) t7 ∧ FullV t7) 9 rfl rfl (deps_of hd)).1 bP) fun g' w' v hs hr => ⟨g', hs, hr⟩) (fun vW hv => ?_)
        obtain ⟨_, _, _, i1, _, rfl, eU, rfl⟩ := hv
        refine L_pur (c := .tuple #[i1, .bool (n0.2)]) rfl rfl .plain (fun _ _ hd => P_move rfl) ?_
        refine L_pur (c := i1) rfl rfl .plain (fun _ _ hd => P_extract rfl rfl) ?_
        refine L_pur (c := .bool (n0.2)) rfl rfl .plain (fun _ _ hd => P_extract rfl rfl) ?_
        refine L_pur (c := i1) rfl rfl .plain (fun _ _ hd => P_assign rfl) ?_
        refine L_pur (c := .bool (n0.2)) rfl rfl .plain (fun _ _ hd => P_assign rfl) ?_
        refine L_nil fun rQ xW hall => ?_
        have hs := hall.1
        have hfr := hfr.ext hs
        have s2 := s2.ext hs
        have i3 := i3.ext hs
        have q2 := q2.ext hs
        have yW := (word_all (A := fun g w => RV g.m w ([r6] : List FaultDamage) t7 ∧ OS 3180 g w 62 ([r6] : List FaultDamage) t7 ∧ FullV t7) 9 rfl hall).1
        have o34906 := (word_all (A := fun g w => RV g.m w ([r6] : List FaultDamage) t7 ∧ OS 3180 g w 62 ([r6] : List FaultDamage) t7 ∧ FullV t7) 9 rfl hall).2.1
        have zW := (tup2_0 (word_all (A := fun g w => ∃ y0 y1 : Value, Value.tuple #[i1, .bool (n0.2)] = .tuple #[y0, y1] ∧ RV g.m w (n0.1 : List Str) y0 ∧ y1 = .bool (n0.2)) 10 rfl hall))
        have i5 := (tup2_0 (word_all (A := fun g w => ∃ y0 y1 : Value, Value.tuple #[i1, .bool (n0.2)] = .tuple #[y0, y1] ∧ RV g.m w (n0.1 : List Str) y0 ∧ y1 = .bool (n0.2)) 10 rfl hall))
        clear hs hall
        refine EL_nil (thn_n (E_seq (L_loadO0 (x := .tmp 3) Try.isAgg28 Try.sizeOf28 s2 fun kG sQ cP => ?_)))
        refine L_loadO (x := .tmp 187) (SubS.comp part_FaultLoom_1 part_Design_1 rfl).1 Try.isAgg22 Try.sizeOf22 s2 fun tQ uQ dP => ?_
        obtain ⟨t6, lE, h⟩ := bsome h
        have vQ := PT_idx i3 lE
        refine L_load (x := .tmp 192) Try.isAgg62 Try.sizeOf62 vQ fun lG xQ eP => ?_
        obtain ⟨i2, gP, h⟩ := bsome h
        refine E_drawL (g := rQ) (n := 16) [(9, (fun v g w => RV g.m w ([t6] : List FaultDamage) v ∧ OS 3194 g w 62 ([t6] : List FaultDamage) v ∧ FullV v)), (10, (fun v g w => ∃ y0 y1 : Value, v = .tuple #[y0, y1] ∧ RV g.m w (i2.1 : List Str) y0 ∧ y1 = .bool (i2.2)))] [0, 1, 2, 3, 4, 5, 6, 7, 8, 9, 10, 11, 12, 13, 14, 15] rfl mixed (by kernel_rfl) (⟨fun _ => up_and up_rv (up_and up_os (up_eq _)), fun _ => (up_ex fun _ => (up_ex fun _ => (up_and (up_eq _) (up_and up_rv (up_eq _))))), trivial⟩) ?_
        refine L_ld (c := kG) rfl rfl .plain (fun _ _ h => ⟨h.ch, fun b hb _ => h.below.block b hb⟩) cP m6 ?_
        refine L_pur (c := fPtr p5 2) rfl rfl .plain (fun _ _ hd => P_fieldAddr at_28_1 m6 (OB.ptr s2)) ?_
        refine L_pur (c := fPtr p5 3) rfl rfl .plain (fun _ _ hd => P_fieldAddr2 (o1 := 2) rfl at_26_1 rfl (OB.ptr s2)) ?_
        refine L_ld (c := tQ) rfl rfl .plain (fun _ _ h => ⟨h.ch, fun b hb _ => h.below.block b hb⟩) dP rfl ?_
        refine L_pur (c := .int .i64 ((((y4).Design).Rows).length : Int)) rfl rfl .plain (fun _ _ hd => P_len Try.underlying22 rfl uQ) ?_
        refine L_pur (c := v9) rfl rfl .plain (fun _ _ hd => P_move q6) ?_
        refine L_pur (c := .int .i64 (z2)) rfl rfl .plain (fun _ _ hd => P_move i6) ?_
        refine L_pur (c := ePtr v9 z2 5) rfl rfl .plain (fun _ _ hd => P_indexAddr (α := FaultDamage) Try.underlying29 Try.sizeOf62 rfl i3 rfl lE) ?_
        refine L_ld (c := lG) rfl rfl .plain (fun _ _ h => h.ch) eP rfl ?_
        refine L_do (φ := fun v g w => RV g.m w ([t6] : List FaultDamage) v ∧ OS 3194 g w 62 ([t6] : List FaultDamage) v ∧ FullV v) rfl rfl .plain (fun g w hd => D_buildSlice (g := g) 3194 (xs := ([t6] : List FaultDamage)) (vs := [lG]) Try.underlying29 Try.sizeOf62 Try.zeroValue62 rfl rfl (.cons rfl .nil) (RVs.cons (xQ.ext hd.1) RVs.nil) rfl rfl fun g' w' v hs o r hxt hfl => ⟨g', hxt, r, o, hfl⟩) (fun u7 hv => ?_)
        clear hv
        refine L_do (φ := fun v g w => ∃ y0 y1 : Value, v = .tuple #[y0, y1] ∧ RV g.m w (i2.1 : List Str) y0 ∧ y1 = .bool (i2.2)) rfl rfl .plain (fun g w hd => D_call (g := g) (vs := [kG, .int .i64 ((((y4).Design).Rows).length : Int), u7]) en45 (.cons rfl (.cons rfl (.cons rfl .nil))) (wk45 (sQ.ext hd.1) (word (A := fun g w => RV g.m w ([t6] : List FaultDamage) u7 ∧ OS 3194 g w 62 ([t6] : List FaultDamage) u7 ∧ FullV u7) 9 rfl rfl (deps_of hd)).1 gP) fun g' w' v hs hr => ⟨g', hs, hr⟩) (fun aX hv => ?_)
        obtain ⟨_, _, _, j3, _, rfl, gU, rfl⟩ := hv
        refine L_pur (c := .tuple #[j3, .bool (i2.2)]) rfl rfl .plain (fun _ _ hd => P_move rfl) ?_
        refine L_pur (c := j3) rfl rfl .plain (fun _ _ hd => P_extract rfl rfl) ?_
        refine L_pur (c := .bool (i2.2)) rfl rfl .plain (fun _ _ hd => P_extract rfl rfl) ?_
        refine L_pur (c := j3) rfl rfl .plain (fun _ _ hd => P_assign rfl) ?_
        refine L_pur (c := .bool (i2.2)) rfl rfl .plain (fun _ _ hd => P_assign rfl) ?_
        refine L_nil fun z8 bX hall => ?_
        have hs := hall.1
        have hfr := hfr.ext hs
        have s2 := s2.ext hs
        have i3 := i3.ext hs
        have q2 := q2.ext hs
        have i5 := i5.ext hs
        have cX := (word_all (A := fun g w => RV g.m w ([t6] : List FaultDamage) u7 ∧ OS 3194 g w 62 ([t6] : List FaultDamage) u7 ∧ FullV u7) 9 rfl hall).1
        have o34975 := (word_all (A := fun g w => RV g.m w ([t6] : List FaultDamage) u7 ∧ OS 3194 g w 62 ([t6] : List FaultDamage) u7 ∧ FullV u7) 9 rfl hall).2.1
        have dX := (tup2_0 (word_all (A := fun g w => ∃ y0 y1 : Value, Value.tuple #[j3, .bool (i2.2)] = .tuple #[y0, y1] ∧ RV g.m w (i2.1 : List Str) y0 ∧ y1 = .bool (i2.2)) 10 rfl hall))
        have t5 := (tup2_0 (word_all (A := fun g w => ∃ y0 y1 : Value, Value.tuple #[j3, .bool (i2.2)] = .tuple #[y0, y1] ∧ RV g.m w (i2.1 : List Str) y0 ∧ y1 = .bool (i2.2)) 10 rfl hall))
        clear hs hall
        refine EL_nil (thn_n (E_joinC h (fun (s : Unit) e w => ∃ (g : Gh) , Fr gI wI g w ∧ e 3 = p5 ∧ OB 2003 g w 28 (y4 : FaultLoom) p5 ∧ e 4 = v9 ∧ RV g.m w (u4 : List FaultDamage) v9 ∧ e 5 = .int .i64 (n4.1) ∧ e 9 = c4 ∧ OM 9065 g w 3 (j6 : List Int) c4 ∧ e 10 = .int .i64 (z4) ∧ e 14 = .int .i64 (c5) ∧ e 15 = .int .i64 (j1) ∧ e 16 = .int .i64 (z2) ∧ e 17 = .int .i64 (j0.1) ∧ e 18 = .int .i64 (j0.2.1) ∧ e 19 = .int .i64 (j0.2.2) ∧ e 20 = i1 ∧ RV g.m w ((n0.1 : List Str) : List Str) i1 ∧ e 22 = j3 ∧ RV g.m w ((i2.1 : List Str) : List Str) j3) (fun X36146 iF hP h => ?_) ?_))
        ·obtain ⟨i8, hx, h⟩ := bsome h
         refine E_join (fun e w => ∃ (g : Gh) , Fr gI wI g w ∧ e 3 = p5 ∧ OB 2003 g w 28 (y4 : FaultLoom) p5 ∧ e 4 = v9 ∧ RV g.m w (u4 : List FaultDamage) v9 ∧ e 5 = .int .i64 (n4.1) ∧ e 9 = c4 ∧ OM 9065 g w 3 (j6 : List Int) c4 ∧ e 10 = .int .i64 (z4) ∧ e 14 = .int .i64 (c5) ∧ e 15 = .int .i64 (j1) ∧ e 16 = .int .i64 (z2) ∧ e 17 = .int .i64 (j0.1) ∧ e 18 = .int .i64 (j0.2.1) ∧ e 19 = .int .i64 (j0.2.2) ∧ e 20 = i1 ∧ RV g.m w ((n0.1 : List Str) : List Str) i1 ∧ e 22 = j3 ∧ RV g.m w ((i2.1 : List Str) : List Str) j3 ∧ e 233 = .bool (i8)) (fun Q' hQ => ?_) (fun uU eX hR => ?_)
         ·replace h := hx
          clear hx
          rcases csome h with ⟨l5, h⟩ | ⟨l5, h⟩
          ·refine E_drawL (g := z8) (n := 36) [] [0, 1, 2, 3, 4, 5, 6, 7, 8, 9, 10, 11, 12, 13, 14, 15, 16, 17, 18, 19, 20, 21, 22, 23, 24, 25, 26, 27, 28, 29, 30, 31, 32, 33, 34, 35] rfl mixed (by kernel_rfl) trivial ?_
           refine L_pur (c := .bool (n0.2)) rfl rfl .plain (fun _ _ hd => P_move rfl) ?_
           refine L_pur (c := .bool (!n0.2)) rfl rfl .plain (fun _ _ hd => P_not rfl) ?_
           refine L_pur (c := .bool (!n0.2)) rfl rfl .plain (fun _ _ hd => P_move rfl) ?_
           refine L_skip rfl (.no2 rfl rfl l5 rfl) ?_
           refine L_skip rfl (.no2 rfl rfl l5 rfl) ?_
           refine L_pur (c := .bool true) rfl rfl .plain (fun _ _ hd => P_pick (b := (!n0.2)) rfl (pick_t l5 rfl)) ?_
           refine L_dead (fun _ => rfl) 30 rfl ?_
           refine L_nil fun yQ gX hall => ?_
           have hs := hall.1
           have hfr := hfr.ext hs
           have s2 := s2.ext hs
           have i3 := i3.ext hs
           have q2 := q2.ext hs
           have i5 := i5.ext hs
           have t5 := t5.ext hs
           clear hs hall
           refine EL_nil ?_
           obtain rfl := sinj h
           exact hQ _ _ ⟨yQ, hfr, m6, s2, q6, i3, j8, c6, q2, c8, d8, e6, i6, rfl, rfl, rfl, rfl, i5, rfl, t5, rfl⟩
          ·rcases csome h with ⟨o0, h⟩ | ⟨o0, h⟩
           ·refine E_drawL (g := z8) (n := 36) [] [0, 1, 2, 3, 4, 5, 6, 7, 8, 9, 10, 11, 12, 13, 14, 15, 16, 17, 18, 19, 20, 21, 22, 23, 24, 25, 26, 27, 28, 29, 30, 31, 32, 33, 34, 35] rfl mixed (by kernel_rfl) trivial ?_
            refine L_pur (c := .bool (n0.2)) rfl rfl .plain (fun _ _ hd => P_move rfl) ?_
            refine L_pur (c := .bool (!n0.2)) rfl rfl .plain (fun _ _ hd => P_not rfl) ?_
            refine L_pur (c := .bool (!n0.2)) rfl rfl .plain (fun _ _ hd => P_move rfl) ?_
            refine L_pur (c := .bool (i2.2)) rfl rfl (.yes2 rfl rfl l5) (fun _ _ hd => P_move rfl) ?_
            refine L_pur (c := .bool (!i2.2)) rfl rfl (.yes2 rfl rfl l5) (fun _ _ hd => P_not rfl) ?_
            refine L_pur (c := .bool (!i2.2)) rfl rfl .plain (fun _ _ hd => P_pick (b := (!n0.2)) rfl (pick_f l5 rfl)) ?_
            refine L_pur (c := .bool (!i2.2)) rfl rfl .plain (fun _ _ hd => P_move rfl) ?_
            refine L_skip rfl (.no2 rfl rfl o0 rfl) ?_
            refine L_skip rfl (.no2 rfl rfl o0 rfl) ?_
            refine L_skip rfl (.no2 rfl rfl o0 rfl) ?_
            refine L_skip rfl (.no2 rfl rfl o0 rfl) ?_
            refine L_skip rfl (.no2 rfl rfl o0 rfl) ?_
            refine L_skip rfl (.no2 rfl rfl o0 rfl) ?_
            refine L_skip rfl (.no2 rfl rfl o0 rfl) ?_
            refine L_skip rfl (.no2 rfl rfl o0 rfl) ?_
            refine L_skip rfl (.no2 rfl rfl o0 rfl) ?_
            refine L_skip rfl (.no2 rfl rfl o0 rfl) ?_
            refine L_skip rfl (.no2 rfl rfl o0 rfl) ?_
            refine L_skip rfl (.no2 rfl rfl o0 rfl) ?_
            refine L_pur (c := .bool true) rfl rfl .plain (fun _ _ hd => P_pick (b := (!i2.2)) rfl (pick_t o0 rfl)) ?_
            refine L_dead (fun _ => rfl) 16 rfl ?_
            refine L_nil fun zQ iX hall => ?_
            have hs := hall.1
            have hfr := hfr.ext hs
            have s2 := s2.ext hs
            have i3 := i3.ext hs
            have q2 := q2.ext hs
            have i5 := i5.ext hs
            have t5 := t5.ext hs
            clear hs hall
            refine EL_nil ?_
            obtain rfl := sinj h
            exact hQ _ _ ⟨zQ, hfr, m6, s2, q6, i3, j8, c6, q2, c8, d8, e6, i6, rfl, rfl, rfl, rfl, i5, rfl, t5, rfl⟩
           ·obtain ⟨p4, a9, h⟩ := bsome h
            refine L_loadM (x := .tmp 209) Try.isAgg3 Try.sizeOf3 q2 a9 fun jX aR p9 => ?_
            obtain rfl := RV_int.1 aR
            obtain ⟨q4, b9, h⟩ := bsome h
            refine L_loadM (x := .tmp 213) Try.isAgg3 Try.sizeOf3 q2 b9 fun kX bR q9 => ?_
            obtain rfl := RV_int.1 bR
            rcases csome h with ⟨s3, h⟩ | ⟨s3, h⟩
            ·refine E_drawL (g := z8) (n := 36) [] [0, 1, 2, 3, 4, 5, 6, 7, 8, 9, 10, 11, 12, 13, 14, 15, 16, 17, 18, 19, 20, 21, 22, 23, 24, 25, 26, 27, 28, 29, 30, 31, 32, 33, 34, 35] rfl mixed (by kernel_rfl) trivial ?_
             refine L_pur (c := .bool (n0.2)) rfl rfl .plain (fun _ _ hd => P_move rfl) ?_
             refine L_pur (c := .bool (!n0.2)) rfl rfl .plain (fun _ _ hd => P_not rfl) ?_
             refine L_pur (c := .bool (!n0.2)) rfl rfl .plain (fun _ _ hd => P_move rfl) ?_
             refine L_pur (c := .bool (i2.2)) rfl rfl (.yes2 rfl rfl l5) (fun _ _ hd => P_move rfl) ?_
             refine L_pur (c := .bool (!i2.2)) rfl rfl (.yes2 rfl rfl l5) (fun _ _ hd => P_not rfl) ?_
             refine L_pur (c := .bool (!i2.2)) rfl rfl .plain (fun _ _ hd => P_pick (b := (!n0.2)) rfl (pick_f l5 rfl)) ?_
             refine L_pur (c := .bool (!i2.2)) rfl rfl .plain (fun _ _ hd => P_move rfl) ?_
             refine L_pur (c := .int .i64 (j0.2.2)) rfl rfl (.yes2 rfl rfl o0) (fun _ _ hd => P_move rfl) ?_
             refine L_pur (c := .bool ((j0.2.2 == (7 : Int)))) rfl rfl (.yes2 rfl rfl o0) (fun _ _ hd => P_int rfl rfl rfl) ?_
             refine L_pur (c := c4) rfl rfl (.yes2 rfl rfl o0) (fun _ _ hd => P_move c6) ?_
             refine L_pur (c := .int .i64 (j1)) rfl rfl (.yes2 rfl rfl o0) (fun _ _ hd => P_move e6) ?_
             refine L_pur (c := ePtr c4 j1 1) rfl rfl (.yes2 rfl rfl o0) (fun _ _ hd => P_indexAddrM (α := Int) Try.underlying22 Try.sizeOf3 rfl q2 rfl a9) ?_
             refine L_ld (c := .int .i64 (p4)) rfl rfl (.yes2 rfl rfl o0) (fun _ _ h => ⟨h.ch, fun b hb _ => h.below.block b hb⟩) p9 rfl ?_
             refine L_pur (c := c4) rfl rfl (.yes2 rfl rfl o0) (fun _ _ hd => P_move c6) ?_
             refine L_pur (c := .int .i64 (z2)) rfl rfl (.yes2 rfl rfl o0) (fun _ _ hd => P_move i6) ?_
             refine L_pur (c := ePtr c4 z2 1) rfl rfl (.yes2 rfl rfl o0) (fun _ _ hd => P_indexAddrM (α := Int) Try.underlying22 Try.sizeOf3 rfl q2 rfl b9) ?_
             refine L_ld (c := .int .i64 (q4)) rfl rfl (.yes2 rfl rfl o0) (fun _ _ h => ⟨h.ch, fun b hb _ => h.below.block b hb⟩) q9 rfl ?_
             refine L_pur (c := .bool ((p4 == q4))) rfl rfl (.yes2 rfl rfl o0) (fun _ _ hd => P_int rfl rfl rfl) ?_
             refine L_pur (c := .bool ((!((j0.2.2 == (7 : Int)) == (p4 == q4))))) rfl rfl (.yes2 rfl rfl o0) (fun _ _ hd => P_bool Try.underlying4 rfl rfl rfl) ?_
             refine L_pur (c := .bool ((!((j0.2.2 == (7 : Int)) == (p4 == q4))))) rfl rfl .plain (fun _ _ hd => P_pick (b := (!i2.2)) rfl (pick_f o0 rfl)) ?_
             refine L_pur (c := .bool ((!((j0.2.2 == (7 : Int)) == (p4 == q4))))) rfl rfl .plain (fun _ _ hd => P_move rfl) ?_
             refine L_skip rfl (.no2 rfl rfl s3 rfl) ?_
             refine L_skip rfl (.no2 rfl rfl s3 rfl) ?_
             refine L_skip rfl (.no2 rfl rfl s3 rfl) ?_
             refine L_skip rfl (.no2 rfl rfl s3 rfl) ?_
             refine L_skip rfl (.no2 rfl rfl s3 rfl) ?_
             refine L_skip rfl (.no2 rfl rfl s3 rfl) ?_
             refine L_pur (c := .bool true) rfl rfl .plain (fun _ _ hd => P_pick (b := (!((j0.2.2 == (7 : Int)) == (p4 == q4)))) rfl (pick_t s3 rfl)) ?_
             refine L_dead (fun _ => rfl) 8 rfl ?_
             refine L_nil fun cR lX hall => ?_
             have hs := hall.1
             have hfr := hfr.ext hs
             have s2 := s2.ext hs
             have i3 := i3.ext hs
             have q2 := q2.ext hs
             have i5 := i5.ext hs
             have t5 := t5.ext hs
             clear hs hall
             refine EL_nil ?_
             obtain rfl := sinj h
             exact hQ _ _ ⟨cR, hfr, m6, s2, q6, i3, j8, c6, q2, c8, d8, e6, i6, rfl, rfl, rfl, rfl, i5, rfl, t5, rfl⟩
            ·obtain ⟨y5, zA, h⟩ := bsome h
             rcases csome h with ⟨d6, h⟩ | ⟨d6, h⟩
             ·refine E_drawL (g := z8) (n := 36) [(25, (fun v g w => v = .bool (y5)))] [0, 1, 2, 3, 4, 5, 6, 7, 8, 9, 10, 11, 12, 13, 14, 15, 16, 17, 18, 19, 20, 21, 22, 23, 24, 25, 26, 27, 28, 29, 30, 31, 32, 33, 34, 35] rfl mixed (by kernel_rfl) (⟨fun _ => up_eq _, trivial⟩) ?_
              refine L_pur (c := .bool (n0.2)) rfl rfl .plain (fun _ _ hd => P_move rfl) ?_
              refine L_pur (c := .bool (!n0.2)) rfl rfl .plain (fun _ _ hd => P_not rfl) ?_
              refine L_pur (c := .bool (!n0.2)) rfl rfl .plain (fun _ _ hd => P_move rfl) ?_
              refine L_pur (c := .bool (i2.2)) rfl rfl (.yes2 rfl rfl l5) (fun _ _ hd => P_move rfl) ?_
              refine L_pur (c := .bool (!i2.2)) rfl rfl (.yes2 rfl rfl l5) (fun _ _ hd => P_not rfl) ?_
              refine L_pur (c := .bool (!i2.2)) rfl rfl .plain (fun _ _ hd => P_pick (b := (!n0.2)) rfl (pick_f l5 rfl)) ?_
              refine L_pur (c := .bool (!i2.2)) rfl rfl .plain (fun _ _ hd => P_move rfl) ?_
              refine L_pur (c := .int .i64 (j0.2.2)) rfl rfl (.yes2 rfl rfl o0) (fun _ _ hd => P_move rfl) ?_
              refine L_pur (c := .bool ((j0.2.2 == (7 : Int)))) rfl rfl (.yes2 rfl rfl o0) (fun _ _ hd => P_int rfl rfl rfl) ?_
              refine L_pur (c := c4) rfl rfl (.yes2 rfl rfl o0) (fun _ _ hd => P_move c6) ?_
              refine L_pur (c := .int .i64 (j1)) rfl rfl (.yes2 rfl rfl o0) (fun _ _ hd => P_move e6) ?_
              refine L_pur (c := ePtr c4 j1 1) rfl rfl (.yes2 rfl rfl o0) (fun _ _ hd => P_indexAddrM (α := Int) Try.underlying22 Try.sizeOf3 rfl q2 rfl a9) ?_
              refine L_ld (c := .int .i64 (p4)) rfl rfl (.yes2 rfl rfl o0) (fun _ _ h => ⟨h.ch, fun b hb _ => h.below.block b hb⟩) p9 rfl ?_
              refine L_pur (c := c4) rfl rfl (.yes2 rfl rfl o0) (fun _ _ hd => P_move c6) ?_
              refine L_pur (c := .int .i64 (z2)) rfl rfl (.yes2 rfl rfl o0) (fun _ _ hd => P_move i6) ?_
              refine L_pur (c := ePtr c4 z2 1) rfl rfl (.yes2 rfl rfl o0) (fun _ _ hd => P_indexAddrM (α := Int) Try.underlying22 Try.sizeOf3 rfl q2 rfl b9) ?_
              refine L_ld (c := .int .i64 (q4)) rfl rfl (.yes2 rfl rfl o0) (fun _ _ h => ⟨h.ch, fun b hb _ => h.below.block b hb⟩) q9 rfl ?_
              refine L_pur (c := .bool ((p4 == q4))) rfl rfl (.yes2 rfl rfl o0) (fun _ _ hd => P_int rfl rfl rfl) ?_
              refine L_pur (c := .bool ((!((j0.2.2 == (7 : Int)) == (p4 == q4))))) rfl rfl (.yes2 rfl rfl o0) (fun _ _ hd => P_bool Try.underlying4 rfl rfl rfl) ?_
              refine L_pur (c := .bool ((!((j0.2.2 == (7 : Int)) == (p4 == q4))))) rfl rfl .plain (fun _ _ hd => P_pick (b := (!i2.2)) rfl (pick_f o0 rfl)) ?_
              refine L_pur (c := .bool ((!((j0.2.2 == (7 : Int)) == (p4 == q4))))) rfl rfl .plain (fun _ _ hd => P_move rfl) ?_
              refine L_pur (c := .int .i64 (j0.2.2)) rfl rfl (.yes2 rfl rfl s3) (fun _ _ hd => P_move rfl) ?_
              refine L_pur (c := .bool ((j0.2.2 == (7 : Int)))) rfl rfl (.yes2 rfl rfl s3) (fun _ _ hd => P_int rfl rfl rfl) ?_
              refine L_pur (c := i1) rfl rfl (.yes2 rfl rfl s3) (fun _ _ hd => P_move rfl) ?_
              refine L_pur (c := j3) rfl rfl (.yes2 rfl rfl s3) (fun _ _ hd => P_move rfl) ?_
              refine L_do (φ := fun v g w => v = .bool (y5)) rfl rfl (.yes2 rfl rfl s3) (fun g w hd => D_call (g := g) (vs := [i1, j3]) en46 (.cons rfl (.cons rfl .nil)) (wk46 (i5.ext hd.1) (t5.ext hd.1) zA) fun g' w' v hs hr => ⟨g', hs, hr⟩) (fun mG hv => ?_)
              obtain ⟨_, _, _, rfl⟩ := hv
              refine L_pur (c := .bool ((!((j0.2.2 == (7 : Int)) == y5)))) rfl rfl (.yes2 rfl rfl s3) (fun _ _ hd => P_bool Try.underlying4 rfl rfl rfl) ?_
              refine L_pur (c := .bool ((!((j0.2.2 == (7 : Int)) == y5)))) rfl rfl .plain (fun _ _ hd => P_pick (b := (!((j0.2.2 == (7 : Int)) == (p4 == q4)))) rfl (pick_f s3 rfl)) ?_
              refine L_pur (c := .bool ((!((j0.2.2 == (7 : Int)) == y5)))) rfl rfl .plain (fun _ _ hd => P_move rfl) ?_
              refine L_skip rfl (.no2 rfl rfl d6 rfl) ?_
              refine L_skip rfl (.no2 rfl rfl d6 rfl) ?_
              refine L_skip rfl (.no2 rfl rfl d6 rfl) ?_
              refine L_skip rfl (.off rfl rfl) ?_
              refine L_skip rfl (.off rfl rfl) ?_
              refine L_skip rfl (.no2 rfl rfl d6 rfl) ?_
              refine L_pur (c := .bool true) rfl rfl .plain (fun _ _ hd => P_pick (b := (!((j0.2.2 == (7 : Int)) == y5))) rfl (pick_t d6 rfl)) ?_
              refine L_nil fun dR mX hall => ?_
              have hs := hall.1
              have hfr := hfr.ext hs
              have s2 := s2.ext hs
              have i3 := i3.ext hs
              have q2 := q2.ext hs
              have i5 := i5.ext hs
              have t5 := t5.ext hs
              clear hs hall
              refine EL_nil ?_
              obtain rfl := sinj h
              exact hQ _ _ ⟨dR, hfr, m6, s2, q6, i3, j8, c6, q2, c8, d8, e6, i6, rfl, rfl, rfl, rfl, i5, rfl, t5, rfl⟩
             ·rcases csome h with ⟨k8, h⟩ | ⟨k8, h⟩
              ·refine E_drawL (g := z8) (n := 36) [(25, (fun v g w => v = .bool (y5)))] [0, 1, 2, 3, 4, 5, 6, 7, 8, 9, 10, 11, 12, 13, 14, 15, 16, 17, 18, 19, 20, 21, 22, 23, 24, 25, 26, 27, 28, 29, 30, 31, 32, 33, 34, 35] rfl mixed (by kernel_rfl) (⟨fun _ => up_eq _, trivial⟩) ?_
               refine L_pur (c := .bool (n0.2)) rfl rfl .plain (fun _ _ hd => P_move rfl) ?_
               refine L_pur (c := .bool (!n0.2)) rfl rfl .plain (fun _ _ hd => P_not rfl) ?_
               refine L_pur (c := .bool (!n0.2)) rfl rfl .plain (fun _ _ hd => P_move rfl) ?_
               refine L_pur (c := .bool (i2.2)) rfl rfl (.yes2 rfl rfl l5) (fun _ _ hd => P_move rfl) ?_
               refine L_pur (c := .bool (!i2.2)) rfl rfl (.yes2 rfl rfl l5) (fun _ _ hd => P_not rfl) ?_
               refine L_pur (c := .bool (!i2.2)) rfl rfl .plain (fun _ _ hd => P_pick (b := (!n0.2)) rfl (pick_f l5 rfl)) ?_
               refine L_pur (c := .bool (!i2.2)) rfl rfl .plain (fun _ _ hd => P_move rfl) ?_
               refine L_pur (c := .int .i64 (j0.2.2)) rfl rfl (.yes2 rfl rfl o0) (fun _ _ hd => P_move rfl) ?_
               refine L_pur (c := .bool ((j0.2.2 == (7 : Int)))) rfl rfl (.yes2 rfl rfl o0) (fun _ _ hd => P_int rfl rfl rfl) ?_
               refine L_pur (c := c4) rfl rfl (.yes2 rfl rfl o0) (fun _ _ hd => P_move c6) ?_
               refine L_pur (c := .int .i64 (j1)) rfl rfl (.yes2 rfl rfl o0) (fun _ _ hd => P_move e6) ?_
               refine L_pur (c := ePtr c4 j1 1) rfl rfl (.yes2 rfl rfl o0) (fun _ _ hd => P_indexAddrM (α := Int) Try.underlying22 Try.sizeOf3 rfl q2 rfl a9) ?_
               refine L_ld (c := .int .i64 (p4)) rfl rfl (.yes2 rfl rfl o0) (fun _ _ h => ⟨h.ch, fun b hb _ => h.below.block b hb⟩) p9 rfl ?_
               refine L_pur (c := c4) rfl rfl (.yes2 rfl rfl o0) (fun _ _ hd => P_move c6) ?_
               refine L_pur (c := .int .i64 (z2)) rfl rfl (.yes2 rfl rfl o0) (fun _ _ hd => P_move i6) ?_
               refine L_pur (c := ePtr c4 z2 1) rfl rfl (.yes2 rfl rfl o0) (fun _ _ hd => P_indexAddrM (α := Int) Try.underlying22 Try.sizeOf3 rfl q2 rfl b9) ?_
               refine L_ld (c := .int .i64 (q4)) rfl rfl (.yes2 rfl rfl o0) (fun _ _ h => ⟨h.ch, fun b hb _ => h.below.block b hb⟩) q9 rfl ?_
               refine L_pur (c := .bool ((p4 == q4))) rfl rfl (.yes2 rfl rfl o0) (fun _ _ hd => P_int rfl rfl rfl) ?_
               refine L_pur (c := .bool ((!((j0.2.2 == (7 : Int)) == (p4 == q4))))) rfl rfl (.yes2 rfl rfl o0) (fun _ _ hd => P_bool Try.underlying4 rfl rfl rfl) ?_
               refine L_pur (c := .bool ((!((j0.2.2 == (7 : Int)) == (p4 == q4))))) rfl rfl .plain (fun _ _ hd => P_pick (b := (!i2.2)) rfl (pick_f o0 rfl)) ?_
               refine L_pur (c := .bool ((!((j0.2.2 == (7 : Int)) == (p4 == q4))))) rfl rfl .plain (fun _ _ hd => P_move rfl) ?_
               refine L_pur (c := .int .i64 (j0.2.2)) rfl rfl (.yes2 rfl rfl s3) (fun _ _ hd => P_move rfl) ?_
               refine L_pur (c := .bool ((j0.2.2 == (7 : Int)))) rfl rfl (.yes2 rfl rfl s3) (fun _ _ hd => P_int rfl rfl rfl) ?_
               refine L_pur (c := i1) rfl rfl (.yes2 rfl rfl s3) (fun _ _ hd => P_move rfl) ?_
               refine L_pur (c := j3) rfl rfl (.yes2 rfl rfl s3) (fun _ _ hd => P_move rfl) ?_
               refine L_do (φ := fun v g w => v = .bool (y5)) rfl rfl (.yes2 rfl rfl s3) (fun g w hd => D_call (g := g) (vs := [i1, j3]) en46 (.cons rfl (.cons rfl .nil)) (wk46 (i5.ext hd.1) (t5.ext hd.1) zA) fun g' w' v hs hr => ⟨g', hs, hr⟩) (fun mG hv => ?_)
               obtain ⟨_, _, _, rfl⟩ := hv
               refine L_pur (c := .bool ((!((j0.2.2 == (7 : Int)) == y5)))) rfl rfl (.yes2 rfl rfl s3) (fun _ _ hd => P_bool Try.underlying4 rfl rfl rfl) ?_
               refine L_pur (c := .bool ((!((j0.2.2 == (7 : Int)) == y5)))) rfl rfl .plain (fun _ _ hd => P_pick (b := (!((j0.2.2 == (7 : Int)) == (p4 == q4)))) rfl (pick_f s3 rfl)) ?_
               refine L_pur (c := .bool ((!((j0.2.2 == (7 : Int)) == y5)))) rfl rfl .plain (fun _ _ hd => P_move rfl) ?_
               refine L_pur (c := .int .i64 (j0.2.2)) rfl rfl (.yes2 rfl rfl d6) (fun _ _ hd => P_move rfl) ?_
               refine L_pur (c := .bool ((j0.2.2 != (0 : Int)))) rfl rfl (.yes2 rfl rfl d6) (fun _ _ hd => P_int rfl rfl rfl) ?_
               refine L_pur (c := .bool ((j0.2.2 != (0 : Int)))) rfl rfl (.yes2 rfl rfl d6) (fun _ _ hd => P_move rfl) ?_
               refine L_pur (c := .int .i64 (j0.2.2)) rfl rfl (.yes2 rfl rfl k8) (fun _ _ hd => P_move rfl) ?_
               refine L_pur (c := .bool ((j0.2.2 != (7 : Int)))) rfl rfl (.yes2 rfl rfl k8) (fun _ _ hd => P_int rfl rfl rfl) ?_
               refine L_pur (c := .bool ((j0.2.2 != (7 : Int)))) rfl rfl (.yes2 rfl rfl d6) (fun _ _ hd => P_pick (b := (j0.2.2 != (0 : Int))) rfl (pick_t k8 rfl)) ?_
               refine L_pur (c := .bool ((j0.2.2 != (7 : Int)))) rfl rfl .plain (fun _ _ hd => P_pick (b := (!((j0.2.2 == (7 : Int)) == y5))) rfl (pick_f d6 rfl)) ?_
               refine L_nil fun eR nX hall => ?_
               have hs := hall.1
               have hfr := hfr.ext hs
               have s2 := s2.ext hs
               have i3 := i3.ext hs
               have q2 := q2.ext hs
               have i5 := i5.ext hs
               have t5 := t5.ext hs
               clear hs hall
               refine EL_nil ?_
               obtain rfl := sinj h
               exact hQ _ _ ⟨eR, hfr, m6, s2, q6, i3, j8, c6, q2, c8, d8, e6, i6, rfl, rfl, rfl, rfl, i5, rfl, t5, rfl⟩
              ·refine E_drawL (g := z8) (n := 36) [(25, (fun v g w => v = .bool (y5)))] [0, 1, 2, 3, 4, 5, 6, 7, 8, 9, 10, 11, 12, 13, 14, 15, 16, 17, 18, 19, 20, 21, 22, 23, 24, 25, 26, 27, 28, 29, 30, 31, 32, 33, 34, 35] rfl mixed (by kernel_rfl) (⟨fun _ => up_eq _, trivial⟩) ?_
               refine L_pur (c := .bool (n0.2)) rfl rfl .plain (fun _ _ hd => P_move rfl) ?_
               refine L_pur (c := .bool (!n0.2)) rfl rfl .plain (fun _ _ hd => P_not rfl) ?_
               refine L_pur (c := .bool (!n0.2)) rfl rfl .plain (fun _ _ hd => P_move rfl) ?_
               refine L_pur (c := .bool (i2.2)) rfl rfl (.yes2 rfl rfl l5) (fun _ _ hd => P_move rfl) ?_
               refine L_pur (c := .bool (!i2.2)) rfl rfl (.yes2 rfl rfl l5) (fun _ _ hd => P_not rfl) ?_
               refine L_pur (c := .bool (!i2.2)) rfl rfl .plain (fun _ _ hd => P_pick (b := (!n0.2)) rfl (pick_f l5 rfl)) ?_
               refine L_pur (c := .bool (!i2.2)) rfl rfl .plain (fun _ _ hd => P_move rfl) ?_
               refine L_pur (c := .int .i64 (j0.2.2)) rfl rfl (.yes2 rfl rfl o0) (fun _ _ hd => P_move rfl) ?_
               refine L_pur (c := .bool ((j0.2.2 == (7 : Int)))) rfl rfl (.yes2 rfl rfl o0) (fun _ _ hd => P_int rfl rfl rfl) ?_
               refine L_pur (c := c4) rfl rfl (.yes2 rfl rfl o0) (fun _ _ hd => P_move c6) ?_
               refine L_pur (c := .int .i64 (j1)) rfl rfl (.yes2 rfl rfl o0) (fun _ _ hd => P_move e6) ?_
               refine L_pur (c := ePtr c4 j1 1) rfl rfl (.yes2 rfl rfl o0) (fun _ _ hd => P_indexAddrM (α := Int) Try.underlying22 Try.sizeOf3 rfl q2 rfl a9) ?_
               refine L_ld (c := .int .i64 (p4)) rfl rfl (.yes2 rfl rfl o0) (fun _ _ h => ⟨h.ch, fun b hb _ => h.below.block b hb⟩) p9 rfl ?_
               refine L_pur (c := c4) rfl rfl (.yes2 rfl rfl o0) (fun _ _ hd => P_move c6) ?_
               refine L_pur (c := .int .i64 (z2)) rfl rfl (.yes2 rfl rfl o0) (fun _ _ hd => P_move i6) ?_
               refine L_pur (c := ePtr c4 z2 1) rfl rfl (.yes2 rfl rfl o0) (fun _ _ hd => P_indexAddrM (α := Int) Try.underlying22 Try.sizeOf3 rfl q2 rfl b9) ?_
               refine L_ld (c := .int .i64 (q4)) rfl rfl (.yes2 rfl rfl o0) (fun _ _ h => ⟨h.ch, fun b hb _ => h.below.block b hb⟩) q9 rfl ?_
               refine L_pur (c := .bool ((p4 == q4))) rfl rfl (.yes2 rfl rfl o0) (fun _ _ hd => P_int rfl rfl rfl) ?_
               refine L_pur (c := .bool ((!((j0.2.2 == (7 : Int)) == (p4 == q4))))) rfl rfl (.yes2 rfl rfl o0) (fun _ _ hd => P_bool Try.underlying4 rfl rfl rfl) ?_
               refine L_pur (c := .bool ((!((j0.2.2 == (7 : Int)) == (p4 == q4))))) rfl rfl .plain (fun _ _ hd => P_pick (b := (!i2.2)) rfl (pick_f o0 rfl)) ?_
               refine L_pur (c := .bool ((!((j0.2.2 == (7 : Int)) == (p4 == q4))))) rfl rfl .plain (fun _ _ hd => P_move rfl) ?_
               refine L_pur (c := .int .i64 (j0.2.2)) rfl rfl (.yes2 rfl rfl s3) (fun _ _ hd => P_move rfl) ?_
               refine L_pur (c := .bool ((j0.2.2 == (7 : Int)))) rfl rfl (.yes2 rfl rfl s3) (fun _ _ hd => P_int rfl rfl rfl) ?_
               refine L_pur (c := i1) rfl rfl (.yes2 rfl rfl s3) (fun _ _ hd => P_move rfl) ?_
               refine L_pur (c := j3) rfl rfl (.yes2 rfl rfl s3) (fun _ _ hd => P_move rfl) ?_
               refine L_do (φ := fun v g w => v = .bool (y5)) rfl rfl (.yes2 rfl rfl s3) (fun g w hd => D_call (g := g) (vs := [i1, j3]) en46 (.cons rfl (.cons rfl .nil)) (wk46 (i5.ext hd.1) (t5.ext hd.1) zA) fun g' w' v hs hr => ⟨g', hs, hr⟩) (fun mG hv => ?_)
               obtain ⟨_, _, _, rfl⟩ := hv
               refine L_pur (c := .bool ((!((j0.2.2 == (7 : Int)) == y5)))) rfl rfl (.yes2 rfl rfl s3) (fun _ _ hd => P_bool Try.underlying4 rfl rfl rfl) ?_
               refine L_pur (c := .bool ((!((j0.2.2 == (7 : Int)) == y5)))) rfl rfl .plain (fun _ _ hd => P_pick (b := (!((j0.2.2 == (7 : Int)) == (p4 == q4)))) rfl (pick_f s3 rfl)) ?_
               refine L_pur (c := .bool ((!((j0.2.2 == (7 : Int)) == y5)))) rfl rfl .plain (fun _ _ hd => P_move rfl) ?_
               refine L_pur (c := .int .i64 (j0.2.2)) rfl rfl (.yes2 rfl rfl d6) (fun _ _ hd => P_move rfl) ?_
               refine L_pur (c := .bool ((j0.2.2 != (0 : Int)))) rfl rfl (.yes2 rfl rfl d6) (fun _ _ hd => P_int rfl rfl rfl) ?_
               refine L_pur (c := .bool ((j0.2.2 != (0 : Int)))) rfl rfl (.yes2 rfl rfl d6) (fun _ _ hd => P_move rfl) ?_
               refine L_skip rfl (.no2 rfl rfl k8 rfl) ?_
               refine L_skip rfl (.no2 rfl rfl k8 rfl) ?_
               refine L_pur (c := .bool false) rfl rfl (.yes2 rfl rfl d6) (fun _ _ hd => P_pick (b := (j0.2.2 != (0 : Int))) rfl (pick_f k8 rfl)) ?_
               refine L_pur (c := .bool false) rfl rfl .plain (fun _ _ hd => P_pick (b := (!((j0.2.2 == (7 : Int)) == y5))) rfl (pick_f d6 rfl)) ?_
               refine L_nil fun gR oX hall => ?_
               have hs := hall.1
               have hfr := hfr.ext hs
               have s2 := s2.ext hs
               have i3 := i3.ext hs
               have q2 := q2.ext hs
               have i5 := i5.ext hs
               have t5 := t5.ext hs
               clear hs hall
               refine EL_nil ?_
               obtain rfl := sinj h
               exact hQ _ _ ⟨gR, hfr, m6, s2, q6, i3, j8, c6, q2, c8, d8, e6, i6, rfl, rfl, rfl, rfl, i5, rfl, t5, rfl⟩
         ·clear hx
          obtain ⟨iR, hfr, oJ, pJ, qJ, rJ, sJ, tJ, uJ, nG, oG, pG, qG, rG, sG, tG, uG, vG, xG, yG, mA⟩ := hR
          rcases csome h with ⟨aB, h⟩ | ⟨aB, h⟩
          ·refine E_cond_true (Eq.trans (show ev _ _ = .bool (i8) from mA) (congrArg Value.bool aB)) ?_
           refine E_seq (E_region (EL_at (.bool false) rfl rfl ?_))
           refine EL_nil (thn_n (E_ret (thn_r ?_)))
           refine blk_r ?_
           refine thn_r ?_
           refine thn_r ?_
           refine blk_r ?_
           refine blk_r ?_
           refine thn_r ?_
           refine thn_r ?_
           refine blk_r ?_
           refine thn_r ?_
           obtain rfl := sinj h
           exact end1 rfl rfl (show _ = .bool false from rfl) ⟨_, hfr, rfl⟩
          ·refine E_cond_false (Eq.trans (show ev _ _ = .bool (i8) from mA) (congrArg Value.bool aB)) ?_
           exact E_skip (thn_n (hP () _ _ ⟨iR, hfr, oJ, pJ, qJ, rJ, sJ, tJ, uJ, nG, oG, pG, qG, rG, sG, tG, uG, vG, xG, yG⟩ h))
        ·rintro _ vU pX ⟨zG, hfr, zC, aD, bD, cD, dD, eD, gD, qB, rB, sB, tB, aH, bH, cH, dH, gH, iH, jH⟩ h
         refine E_joinC h (fun (s : Unit) e w => ∃ (g : Gh) , Fr gI wI g w ∧ e 3 = p5 ∧ OB 2003 g w 28 (y4 : FaultLoom) p5 ∧ e 4 = v9 ∧ RV g.m w (u4 : List FaultDamage) v9 ∧ e 5 = .int .i64 (n4.1) ∧ e 9 = c4 ∧ OM 9065 g w 3 (j6 : List Int) c4 ∧ e 10 = .int .i64 (z4) ∧ e 14 = .int .i64 (c5) ∧ e 15 = .int .i64 (j1) ∧ e 16 = .int .i64 (z2) ∧ e 17 = .int .i64 (j0.1) ∧ e 18 = .int .i64 (j0.2.1) ∧ e 20 = i1 ∧ RV g.m w ((n0.1 : List Str) : List Str) i1 ∧ e 22 = j3 ∧ RV g.m w ((i2.1 : List Str) : List Str) j3) (fun X37313 gF iP h => ?_) ?_
         ·refine E_seq (E_region (EL_mv cH rfl ?_))
          refine EL_in (.bool ((j0.2.2 != (0 : Int)))) rfl rfl rfl rfl ?_
          refine EL_nil (thn_n ?_)
          rcases csome h with ⟨bB, h⟩ | ⟨bB, h⟩
          ·refine E_ct bB rfl ?_
           refine E_exit ?_
           refine thn_e ?_
           refine blk_hit ?_
           exact thn_n (gE (c5) _ _ ⟨zG, hfr, zC, aD, bD, cD, dD, eD, gD, qB, rB, sB, tB⟩ h)
          ·refine E_cf bB rfl ?_
           exact E_skip (thn_n (iP () _ _ ⟨zG, hfr, zC, aD, bD, cD, dD, eD, gD, qB, rB, sB, tB, aH, bH, dH, gH, iH, jH⟩ h))
         ·rintro _ xU qX ⟨t8, hfr, y7, d4, z7, i4, a8, b8, j4, d7, e7, g7, i7, d2, j5, x4, z3, e8, o6⟩ h
          refine E_joinC h (fun (s : Unit) e w => ∃ (g : Gh) , Fr gI wI g w ∧ e 3 = p5 ∧ OB 2003 g w 28 (y4 : FaultLoom) p5 ∧ e 4 = v9 ∧ RV g.m w (u4 : List FaultDamage) v9 ∧ e 5 = .int .i64 (n4.1) ∧ e 9 = c4 ∧ OM 9065 g w 3 (j6 : List Int) c4 ∧ e 10 = .int .i64 (z4) ∧ e 14 = .int .i64 (c5) ∧ e 15 = .int .i64 (j1) ∧ e 16 = .int .i64 (z2) ∧ e 17 = .int .i64 (j0.1)) (fun X38402 cF jP h => ?_) ?_
          ·obtain ⟨g8, hx, h⟩ := bsome h
           refine E_join (fun e w => ∃ (g : Gh) , Fr gI wI g w ∧ e 3 = p5 ∧ OB 2003 g w 28 (y4 : FaultLoom) p5 ∧ e 4 = v9 ∧ RV g.m w (u4 : List FaultDamage) v9 ∧ e 5 = .int .i64 (n4.1) ∧ e 9 = c4 ∧ OM 9065 g w 3 (j6 : List Int) c4 ∧ e 10 = .int .i64 (z4) ∧ e 14 = .int .i64 (c5) ∧ e 15 = .int .i64 (j1) ∧ e 16 = .int .i64 (z2) ∧ e 17 = .int .i64 (j0.1) ∧ e 295 = .bool (g8)) (fun Q' hQ => ?_) (fun yU rX hR => ?_)
           ·replace h := hx
            clear hx
            rcases csome h with ⟨o3, h⟩ | ⟨o3, h⟩
            ·refine E_drawL (g := t8) (n := 60) [] [0, 1, 2, 3, 4, 5, 6, 7, 8, 9, 10, 11, 12, 13, 14, 15, 16, 17, 18, 19, 20, 21, 22, 23, 24, 25, 26, 27, 28, 29, 30, 31, 32, 33, 34, 35, 36, 37, 38, 39, 40, 41, 42, 43, 44, 45, 46, 47, 48, 49, 50, 51, 52, 53, 54, 55, 56, 57, 58, 59] rfl mixed (by kernel_rfl) trivial ?_
             refine L_pur (c := .int .i64 (j0.1)) rfl rfl .plain (fun _ _ hd => P_move d2) ?_
             refine L_pur (c := .bool ((decide (j0.1 < (0 : Int))))) rfl rfl .plain (fun _ _ hd => P_int rfl rfl rfl) ?_
             refine L_pur (c := .bool ((decide (j0.1 < (0 : Int))))) rfl rfl .plain (fun _ _ hd => P_move rfl) ?_
             refine L_skip rfl (.no2 rfl rfl o3 rfl) ?_
             refine L_skip rfl (.no2 rfl rfl o3 rfl) ?_
             refine L_skip rfl (.no2 rfl rfl o3 rfl) ?_
             refine L_skip rfl (.no2 rfl rfl o3 rfl) ?_
             refine L_pur (c := .bool true) rfl rfl .plain (fun _ _ hd => P_pick (b := (decide (j0.1 < (0 : Int)))) rfl (pick_t o3 rfl)) ?_
             refine L_dead (fun _ => rfl) 52 rfl ?_
             refine L_nil fun jR sX hall => ?_
             have hs := hall.1
             have hfr := hfr.ext hs
             have d4 := d4.ext hs
             have i4 := i4.ext hs
             have j4 := j4.ext hs
             clear hs hall
             refine EL_nil ?_
             obtain rfl := sinj h
             exact hQ _ _ ⟨jR, hfr, y7, d4, z7, i4, a8, b8, j4, d7, e7, g7, i7, d2, rfl⟩
            ·rcases csome h with ⟨m5, h⟩ | ⟨m5, h⟩
             ·refine E_drawL (g := t8) (n := 60) [] [0, 1, 2, 3, 4, 5, 6, 7, 8, 9, 10, 11, 12, 13, 14, 15, 16, 17, 18, 19, 20, 21, 22, 23, 24, 25, 26, 27, 28, 29, 30, 31, 32, 33, 34, 35, 36, 37, 38, 39, 40, 41, 42, 43, 44, 45, 46, 47, 48, 49, 50, 51, 52, 53, 54, 55, 56, 57, 58, 59] rfl mixed (by kernel_rfl) trivial ?_
              refine L_pur (c := .int .i64 (j0.1)) rfl rfl .plain (fun _ _ hd => P_move d2) ?_
              refine L_pur (c := .bool ((decide (j0.1 < (0 : Int))))) rfl rfl .plain (fun _ _ hd => P_int rfl rfl rfl) ?_
              refine L_pur (c := .bool ((decide (j0.1 < (0 : Int))))) rfl rfl .plain (fun _ _ hd => P_move rfl) ?_
              refine L_pur (c := .int .i64 (j0.1)) rfl rfl (.yes2 rfl rfl o3) (fun _ _ hd => P_move d2) ?_
              refine L_pur (c := i1) rfl rfl (.yes2 rfl rfl o3) (fun _ _ hd => P_move x4) ?_
              refine L_pur (c := .int .i64 (((n0.1 : List Str)).length : Int)) rfl rfl (.yes2 rfl rfl o3) (fun _ _ hd => P_len Try.underlying36 rfl z3) ?_
              refine L_pur (c := .bool ((decide (j0.1 ≥ (((n0.1 : List Str)).length : Int))))) rfl rfl (.yes2 rfl rfl o3) (fun _ _ hd => P_int rfl rfl rfl) ?_
              refine L_pur (c := .bool ((decide (j0.1 ≥ (((n0.1 : List Str)).length : Int))))) rfl rfl .plain (fun _ _ hd => P_pick (b := (decide (j0.1 < (0 : Int)))) rfl (pick_f o3 rfl)) ?_
              refine L_pur (c := .bool ((decide (j0.1 ≥ (((n0.1 : List Str)).length : Int))))) rfl rfl .plain (fun _ _ hd => P_move rfl) ?_
              refine L_skip rfl (.no2 rfl rfl m5 rfl) ?_
              refine L_skip rfl (.no2 rfl rfl m5 rfl) ?_
              refine L_pur (c := .bool true) rfl rfl .plain (fun _ _ hd => P_pick (b := (decide (j0.1 ≥ (((n0.1 : List Str)).length : Int)))) rfl (pick_t m5 rfl)) ?_
              refine L_dead (fun _ => rfl) 48 rfl ?_
              refine L_nil fun kR tX hall => ?_
              have hs := hall.1
              have hfr := hfr.ext hs
              have d4 := d4.ext hs
              have i4 := i4.ext hs
              have j4 := j4.ext hs
              clear hs hall
              refine EL_nil ?_
              obtain rfl := sinj h
              exact hQ _ _ ⟨kR, hfr, y7, d4, z7, i4, a8, b8, j4, d7, e7, g7, i7, d2, rfl⟩
             ·rcases csome h with ⟨p3, h⟩ | ⟨p3, h⟩
              ·refine E_drawL (g := t8) (n := 60) [] [0, 1, 2, 3, 4, 5, 6, 7, 8, 9, 10, 11, 12, 13, 14, 15, 16, 17, 18, 19, 20, 21, 22, 23, 24, 25, 26, 27, 28, 29, 30, 31, 32, 33, 34, 35, 36, 37, 38, 39, 40, 41, 42, 43, 44, 45, 46, 47, 48, 49, 50, 51, 52, 53, 54, 55, 56, 57, 58, 59] rfl mixed (by kernel_rfl) trivial ?_
               refine L_pur (c := .int .i64 (j0.1)) rfl rfl .plain (fun _ _ hd => P_move d2) ?_
               refine L_pur (c := .bool ((decide (j0.1 < (0 : Int))))) rfl rfl .plain (fun _ _ hd => P_int rfl rfl rfl) ?_
               refine L_pur (c := .bool ((decide (j0.1 < (0 : Int))))) rfl rfl .plain (fun _ _ hd => P_move rfl) ?_
               refine L_pur (c := .int .i64 (j0.1)) rfl rfl (.yes2 rfl rfl o3) (fun _ _ hd => P_move d2) ?_
               refine L_pur (c := i1) rfl rfl (.yes2 rfl rfl o3) (fun _ _ hd => P_move x4) ?_
               refine L_pur (c := .int .i64 (((n0.1 : List Str)).length : Int)) rfl rfl (.yes2 rfl rfl o3) (fun _ _ hd => P_len Try.underlying36 rfl z3) ?_
               refine L_pur (c := .bool ((decide (j0.1 ≥ (((n0.1 : List Str)).length : Int))))) rfl rfl (.yes2 rfl rfl o3) (fun _ _ hd => P_int rfl rfl rfl) ?_
               refine L_pur (c := .bool ((decide (j0.1 ≥ (((n0.1 : List Str)).length : Int))))) rfl rfl .plain (fun _ _ hd => P_pick (b := (decide (j0.1 < (0 : Int)))) rfl (pick_f o3 rfl)) ?_
               refine L_pur (c := .bool ((decide (j0.1 ≥ (((n0.1 : List Str)).length : Int))))) rfl rfl .plain (fun _ _ hd => P_move rfl) ?_
               refine L_pur (c := .int .i64 (j0.2.1)) rfl rfl (.yes2 rfl rfl m5) (fun _ _ hd => P_move j5) ?_
               refine L_pur (c := .bool ((decide (j0.2.1 < (0 : Int))))) rfl rfl (.yes2 rfl rfl m5) (fun _ _ hd => P_int rfl rfl rfl) ?_
               refine L_pur (c := .bool ((decide (j0.2.1 < (0 : Int))))) rfl rfl .plain (fun _ _ hd => P_pick (b := (decide (j0.1 ≥ (((n0.1 : List Str)).length : Int)))) rfl (pick_f m5 rfl)) ?_
               refine L_pur (c := .bool ((decide (j0.2.1 < (0 : Int))))) rfl rfl .plain (fun _ _ hd => P_move rfl) ?_
               refine L_skip rfl (.no2 rfl rfl p3 rfl) ?_
               refine L_skip rfl (.no2 rfl rfl p3 rfl) ?_
               refine L_skip rfl (.no2 rfl rfl p3 rfl) ?_
               refine L_skip rfl (.no2 rfl rfl p3 rfl) ?_
               refine L_skip rfl (.no2 rfl rfl p3 rfl) ?_
               refine L_skip rfl (.no2 rfl rfl p3 rfl) ?_
               refine L_pur (c := .bool true) rfl rfl .plain (fun _ _ hd => P_pick (b := (decide (j0.2.1 < (0 : Int)))) rfl (pick_t p3 rfl)) ?_
               refine L_dead (fun _ => rfl) 40 rfl ?_
               refine L_nil fun lR uX hall => ?_
               have hs := hall.1
               have hfr := hfr.ext hs
               have d4 := d4.ext hs
               have i4 := i4.ext hs
               have j4 := j4.ext hs
               clear hs hall
               refine EL_nil ?_
               obtain rfl := sinj h
               exact hQ _ _ ⟨lR, hfr, y7, d4, z7, i4, a8, b8, j4, d7, e7, g7, i7, d2, rfl⟩
              ·obtain ⟨o4, c9, h⟩ := bsome h
               have mR := PT_idx z3 c9
               refine L_load (x := .tmp 251) Try.isAgg9 Try.sizeOf9 mR fun vX nR s9 => ?_
               obtain rfl := RV_str.1 nR
               rcases csome h with ⟨d3, h⟩ | ⟨d3, h⟩
               ·refine E_drawL (g := t8) (n := 60) [] [0, 1, 2, 3, 4, 5, 6, 7, 8, 9, 10, 11, 12, 13, 14, 15, 16, 17, 18, 19, 20, 21, 22, 23, 24, 25, 26, 27, 28, 29, 30, 31, 32, 33, 34, 35, 36, 37, 38, 39, 40, 41, 42, 43, 44, 45, 46, 47, 48, 49, 50, 51, 52, 53, 54, 55, 56, 57, 58, 59] rfl mixed (by kernel_rfl) trivial ?_
                refine L_pur (c := .int .i64 (j0.1)) rfl rfl .plain (fun _ _ hd => P_move d2) ?_
                refine L_pur (c := .bool ((decide (j0.1 < (0 : Int))))) rfl rfl .plain (fun _ _ hd => P_int rfl rfl rfl) ?_
                refine L_pur (c := .bool ((decide (j0.1 < (0 : Int))))) rfl rfl .plain (fun _ _ hd => P_move rfl) ?_
                refine L_pur (c := .int .i64 (j0.1)) rfl rfl (.yes2 rfl rfl o3) (fun _ _ hd => P_move d2) ?_
                refine L_pur (c := i1) rfl rfl (.yes2 rfl rfl o3) (fun _ _ hd => P_move x4) ?_
                refine L_pur (c := .int .i64 (((n0.1 : List Str)).length : Int)) rfl rfl (.yes2 rfl rfl o3) (fun _ _ hd => P_len Try.underlying36 rfl z3) ?_
                refine L_pur (c := .bool ((decide (j0.1 ≥ (((n0.1 : List Str)).length : Int))))) rfl rfl (.yes2 rfl rfl o3) (fun _ _ hd => P_int rfl rfl rfl) ?_
                refine L_pur (c := .bool ((decide (j0.1 ≥ (((n0.1 : List Str)).length : Int))))) rfl rfl .plain (fun _ _ hd => P_pick (b := (decide (j0.1 < (0 : Int)))) rfl (pick_f o3 rfl)) ?_
                refine L_pur (c := .bool ((decide (j0.1 ≥ (((n0.1 : List Str)).length : Int))))) rfl rfl .plain (fun _ _ hd => P_move rfl) ?_
                refine L_pur (c := .int .i64 (j0.2.1)) rfl rfl (.yes2 rfl rfl m5) (fun _ _ hd => P_move j5) ?_
                refine L_pur (c := .bool ((decide (j0.2.1 < (0 : Int))))) rfl rfl (.yes2 rfl rfl m5) (fun _ _ hd => P_int rfl rfl rfl) ?_
                refine L_pur (c := .bool ((decide (j0.2.1 < (0 : Int))))) rfl rfl .plain (fun _ _ hd => P_pick (b := (decide (j0.1 ≥ (((n0.1 : List Str)).length : Int)))) rfl (pick_f m5 rfl)) ?_
                refine L_pur (c := .bool ((decide (j0.2.1 < (0 : Int))))) rfl rfl .plain (fun _ _ hd => P_move rfl) ?_
                refine L_pur (c := .int .i64 (j0.2.1)) rfl rfl (.yes2 rfl rfl p3) (fun _ _ hd => P_move j5) ?_
                refine L_pur (c := i1) rfl rfl (.yes2 rfl rfl p3) (fun _ _ hd => P_move x4) ?_
                refine L_pur (c := ePtr i1 (0 : Int) 1) rfl rfl (.yes2 rfl rfl p3) (fun _ _ hd => P_indexAddr (α := Str) Try.underlying36 Try.sizeOf9 rfl z3 rfl c9) ?_
                refine L_ld (c := Str.v (o4)) rfl rfl (.yes2 rfl rfl p3) (fun _ _ h => h.ch) s9 rfl ?_
                refine L_pur (c := .int .i64 ((o4).b.length : Int)) rfl rfl (.yes2 rfl rfl p3) (fun _ _ hd => P_lenS Try.underlying9 rfl) ?_
                refine L_pur (c := .bool ((decide (j0.2.1 ≥ ((o4).b.length : Int))))) rfl rfl (.yes2 rfl rfl p3) (fun _ _ hd => P_int rfl rfl rfl) ?_
                refine L_pur (c := .bool ((decide (j0.2.1 ≥ ((o4).b.length : Int))))) rfl rfl .plain (fun _ _ hd => P_pick (b := (decide (j0.2.1 < (0 : Int)))) rfl (pick_f p3 rfl)) ?_
                refine L_pur (c := .bool ((decide (j0.2.1 ≥ ((o4).b.length : Int))))) rfl rfl .plain (fun _ _ hd => P_move rfl) ?_
                refine L_skip rfl (.no2 rfl rfl d3 rfl) ?_
                refine L_skip rfl (.no2 rfl rfl d3 rfl) ?_
                refine L_skip rfl (.no2 rfl rfl d3 rfl) ?_
                refine L_skip rfl (.no2 rfl rfl d3 rfl) ?_
                refine L_skip rfl (.no2 rfl rfl d3 rfl) ?_
                refine L_skip rfl (.no2 rfl rfl d3 rfl) ?_
                refine L_skip rfl (.no2 rfl rfl d3 rfl) ?_
                refine L_skip rfl (.no2 rfl rfl d3 rfl) ?_
                refine L_pur (c := .bool true) rfl rfl .plain (fun _ _ hd => P_pick (b := (decide (j0.2.1 ≥ ((o4).b.length : Int)))) rfl (pick_t d3 rfl)) ?_
                refine L_dead (fun _ => rfl) 30 rfl ?_
                refine L_nil fun oR xX hall => ?_
                have hs := hall.1
                have hfr := hfr.ext hs
                have d4 := d4.ext hs
                have i4 := i4.ext hs
                have j4 := j4.ext hs
                clear hs hall
                refine EL_nil ?_
                obtain rfl := sinj h
                exact hQ _ _ ⟨oR, hfr, y7, d4, z7, i4, a8, b8, j4, d7, e7, g7, i7, d2, rfl⟩
               ·obtain ⟨dF, t9, h⟩ := bsome h
                have iD := RV_cut z3 t9
                obtain ⟨eF, u9, h⟩ := bsome h
                have jD := RV_cut o6 u9
                obtain ⟨x5, cB, h⟩ := bsome h
                rcases csome h with ⟨z1, h⟩ | ⟨z1, h⟩
                ·refine E_drawL (g := t8) (n := 60) [(27, (fun v g w => v = .bool (x5)))] [0, 1, 2, 3, 4, 5, 6, 7, 8, 9, 10, 11, 12, 13, 14, 15, 16, 17, 18, 19, 20, 21, 22, 23, 24, 25, 26, 27, 28, 29, 30, 31, 32, 33, 34, 35, 36, 37, 38, 39, 40, 41, 42, 43, 44, 45, 46, 47, 48, 49, 50, 51, 52, 53, 54, 55, 56, 57, 58, 59] rfl mixed (by kernel_rfl) (⟨fun _ => up_eq _, trivial⟩) ?_
                 refine L_pur (c := .int .i64 (j0.1)) rfl rfl .plain (fun _ _ hd => P_move d2) ?_
                 refine L_pur (c := .bool ((decide (j0.1 < (0 : Int))))) rfl rfl .plain (fun _ _ hd => P_int rfl rfl rfl) ?_
                 refine L_pur (c := .bool ((decide (j0.1 < (0 : Int))))) rfl rfl .plain (fun _ _ hd => P_move rfl) ?_
                 refine L_pur (c := .int .i64 (j0.1)) rfl rfl (.yes2 rfl rfl o3) (fun _ _ hd => P_move d2) ?_
                 refine L_pur (c := i1) rfl rfl (.yes2 rfl rfl o3) (fun _ _ hd => P_move x4) ?_
                 refine L_pur (c := .int .i64 (((n0.1 : List Str)).length : Int)) rfl rfl (.yes2 rfl rfl o3) (fun _ _ hd => P_len Try.underlying36 rfl z3) ?_
                 refine L_pur (c := .bool ((decide (j0.1 ≥ (((n0.1 : List Str)).length : Int))))) rfl rfl (.yes2 rfl rfl o3) (fun _ _ hd => P_int rfl rfl rfl) ?_
                 refine L_pur (c := .bool ((decide (j0.1 ≥ (((n0.1 : List Str)).length : Int))))) rfl rfl .plain (fun _ _ hd => P_pick (b := (decide (j0.1 < (0 : Int)))) rfl (pick_f o3 rfl)) ?_
                 refine L_pur (c := .bool ((decide (j0.1 ≥ (((n0.1 : List Str)).length : Int))))) rfl rfl .plain (fun _ _ hd => P_move rfl) ?_
                 refine L_pur (c := .int .i64 (j0.2.1)) rfl rfl (.yes2 rfl rfl m5) (fun _ _ hd => P_move j5) ?_
                 refine L_pur (c := .bool ((decide (j0.2.1 < (0 : Int))))) rfl rfl (.yes2 rfl rfl m5) (fun _ _ hd => P_int rfl rfl rfl) ?_
                 refine L_pur (c := .bool ((decide (j0.2.1 < (0 : Int))))) rfl rfl .plain (fun _ _ hd => P_pick (b := (decide (j0.1 ≥ (((n0.1 : List Str)).length : Int)))) rfl (pick_f m5 rfl)) ?_
                 refine L_pur (c := .bool ((decide (j0.2.1 < (0 : Int))))) rfl rfl .plain (fun _ _ hd => P_move rfl) ?_
                 refine L_pur (c := .int .i64 (j0.2.1)) rfl rfl (.yes2 rfl rfl p3) (fun _ _ hd => P_move j5) ?_
                 refine L_pur (c := i1) rfl rfl (.yes2 rfl rfl p3) (fun _ _ hd => P_move x4) ?_
                 refine L_pur (c := ePtr i1 (0 : Int) 1) rfl rfl (.yes2 rfl rfl p3) (fun _ _ hd => P_indexAddr (α := Str) Try.underlying36 Try.sizeOf9 rfl z3 rfl c9) ?_
                 refine L_ld (c := Str.v (o4)) rfl rfl (.yes2 rfl rfl p3) (fun _ _ h => h.ch) s9 rfl ?_
                 refine L_pur (c := .int .i64 ((o4).b.length : Int)) rfl rfl (.yes2 rfl rfl p3) (fun _ _ hd => P_lenS Try.underlying9 rfl) ?_
                 refine L_pur (c := .bool ((decide (j0.2.1 ≥ ((o4).b.length : Int))))) rfl rfl (.yes2 rfl rfl p3) (fun _ _ hd => P_int rfl rfl rfl) ?_
                 refine L_pur (c := .bool ((decide (j0.2.1 ≥ ((o4).b.length : Int))))) rfl rfl .plain (fun _ _ hd => P_pick (b := (decide (j0.2.1 < (0 : Int)))) rfl (pick_f p3 rfl)) ?_
                 refine L_pur (c := .bool ((decide (j0.2.1 ≥ ((o4).b.length : Int))))) rfl rfl .plain (fun _ _ hd => P_move rfl) ?_
                 refine L_pur (c := i1) rfl rfl (.yes2 rfl rfl d3) (fun _ _ hd => P_move x4) ?_
                 refine L_pur (c := .int .i64 (j0.1)) rfl rfl (.yes2 rfl rfl d3) (fun _ _ hd => P_move d2) ?_
                 refine L_pur (c := (cutV i1 (Int.toNat 0) (Int.toNat j0.1) 1)) rfl rfl (.yes2 rfl rfl d3) (fun _ _ hd => P_slice Try.underlying36 Try.sizeOf9 rfl z3 rfl rfl t9) ?_
                 refine L_pur (c := j3) rfl rfl (.yes2 rfl rfl d3) (fun _ _ hd => P_move e8) ?_
                 refine L_pur (c := .int .i64 (j0.1)) rfl rfl (.yes2 rfl rfl d3) (fun _ _ hd => P_move d2) ?_
                 refine L_pur (c := (cutV j3 (Int.toNat 0) (Int.toNat j0.1) 1)) rfl rfl (.yes2 rfl rfl d3) (fun _ _ hd => P_slice Try.underlying36 Try.sizeOf9 rfl o6 rfl rfl u9) ?_
                 refine L_do (φ := fun v g w => v = .bool (x5)) rfl rfl (.yes2 rfl rfl d3) (fun g w hd => D_call (g := g) (vs := [(cutV i1 (Int.toNat 0) (Int.toNat j0.1) 1), (cutV j3 (Int.toNat 0) (Int.toNat j0.1) 1)]) en46 (.cons rfl (.cons rfl .nil)) (wk46 (iD.ext hd.1) (jD.ext hd.1) cB) fun g' w' v hs hr => ⟨g', hs, hr⟩) (fun kH hv => ?_)
                 obtain ⟨_, _, _, rfl⟩ := hv
                 refine L_pur (c := .bool (!x5)) rfl rfl (.yes2 rfl rfl d3) (fun _ _ hd => P_not rfl) ?_
                 refine L_pur (c := .bool (!x5)) rfl rfl .plain (fun _ _ hd => P_pick (b := (decide (j0.2.1 ≥ ((o4).b.length : Int)))) rfl (pick_f d3 rfl)) ?_
                 refine L_pur (c := .bool (!x5)) rfl rfl .plain (fun _ _ hd => P_move rfl) ?_
                 refine L_skip rfl (.no2 rfl rfl z1 rfl) ?_
                 refine L_skip rfl (.no2 rfl rfl z1 rfl) ?_
                 refine L_skip rfl (.no2 rfl rfl z1 rfl) ?_
                 refine L_skip rfl (.no2 rfl rfl z1 rfl) ?_
                 refine L_skip rfl (.no2 rfl rfl z1 rfl) ?_
                 refine L_skip rfl (.no2 rfl rfl z1 rfl) ?_
                 refine L_skip rfl (.no2 rfl rfl z1 rfl) ?_
                 refine L_skip rfl (.no2 rfl rfl z1 rfl) ?_
                 refine L_skip rfl (.no2 rfl rfl z1 rfl) ?_
                 refine L_skip rfl (.no2 rfl rfl z1 rfl) ?_
                 refine L_skip rfl (.no2 rfl rfl z1 rfl) ?_
                 refine L_skip rfl (.no2 rfl rfl z1 rfl) ?_
                 refine L_skip rfl (.no2 rfl rfl z1 rfl) ?_
                 refine L_pur (c := .bool true) rfl rfl .plain (fun _ _ hd => P_pick (b := (!x5)) rfl (pick_t z1 rfl)) ?_
                 refine L_dead (fun _ => rfl) 15 rfl ?_
                 refine L_nil fun pR yX hall => ?_
                 have hs := hall.1
                 have hfr := hfr.ext hs
                 have d4 := d4.ext hs
                 have i4 := i4.ext hs
                 have j4 := j4.ext hs
                 clear hs hall
                 refine EL_nil ?_
                 obtain rfl := sinj h
                 exact hQ _ _ ⟨pR, hfr, y7, d4, z7, i4, a8, b8, j4, d7, e7, g7, i7, d2, rfl⟩
                ·obtain ⟨iA, dB, h⟩ := bsome h
                 have qR := PT_idx z3 dB
                 refine L_load (x := .tmp 269) Try.isAgg9 Try.sizeOf9 qR fun zX rR mE => ?_
                 obtain rfl := RV_str.1 rR
                 obtain ⟨y6, nE, h⟩ := bsome h
                 obtain ⟨jA, eB, h⟩ := bsome h
                 have sR := PT_idx o6 eB
                 refine L_load (x := .tmp 275) Try.isAgg9 Try.sizeOf9 sR fun aY tR oE => ?_
                 obtain rfl := RV_str.1 tR
                 obtain ⟨z6, pE, h⟩ := bsome h
                 rcases csome h with ⟨u3, h⟩ | ⟨u3, h⟩
                 ·refine E_drawL (g := t8) (n := 60) [(27, (fun v g w => v = .bool (x5)))] [0, 1, 2, 3, 4, 5, 6, 7, 8, 9, 10, 11, 12, 13, 14, 15, 16, 17, 18, 19, 20, 21, 22, 23, 24, 25, 26, 27, 28, 29, 30, 31, 32, 33, 34, 35, 36, 37, 38, 39, 40, 41, 42, 43, 44, 45, 46, 47, 48, 49, 50, 51, 52, 53, 54, 55, 56, 57, 58, 59] rfl mixed (by kernel_rfl) (⟨fun _ => up_eq _, trivial⟩) ?_
                  refine L_pur (c := .int .i64 (j0.1)) rfl rfl .plain (fun _ _ hd => P_move d2) ?_
                  refine L_pur (c := .bool ((decide (j0.1 < (0 : Int))))) rfl rfl .plain (fun _ _ hd => P_int rfl rfl rfl) ?_
                  refine L_pur (c := .bool ((decide (j0.1 < (0 : Int))))) rfl rfl .plain (fun _ _ hd => P_move rfl) ?_
                  refine L_pur (c := .int .i64 (j0.1)) rfl rfl (.yes2 rfl rfl o3) (fun _ _ hd => P_move d2) ?_
                  refine L_pur (c := i1) rfl rfl (.yes2 rfl rfl o3) (fun _ _ hd => P_move x4) ?_
                  refine L_pur (c := .int .i64 (((n0.1 : List Str)).length : Int)) rfl rfl (.yes2 rfl rfl o3) (fun _ _ hd => P_len Try.underlying36 rfl z3) ?_
                  refine L_pur (c := .bool ((decide (j0.1 ≥ (((n0.1 : List Str)).length : Int))))) rfl rfl (.yes2 rfl rfl o3) (fun _ _ hd => P_int rfl rfl rfl) ?_
                  refine L_pur (c := .bool ((decide (j0.1 ≥ (((n0.1 : List Str)).length : Int))))) rfl rfl .plain (fun _ _ hd => P_pick (b := (decide (j0.1 < (0 : Int)))) rfl (pick_f o3 rfl)) ?_
                  refine L_pur (c := .bool ((decide (j0.1 ≥ (((n0.1 : List Str)).length : Int))))) rfl rfl .plain (fun _ _ hd => P_move rfl) ?_
                  refine L_pur (c := .int .i64 (j0.2.1)) rfl rfl (.yes2 rfl rfl m5) (fun _ _ hd => P_move j5) ?_
                  refine L_pur (c := .bool ((decide (j0.2.1 < (0 : Int))))) rfl rfl (.yes2 rfl rfl m5) (fun _ _ hd => P_int rfl rfl rfl) ?_
                  refine L_pur (c := .bool ((decide (j0.2.1 < (0 : Int))))) rfl rfl .plain (fun _ _ hd => P_pick (b := (decide (j0.1 ≥ (((n0.1 : List Str)).length : Int)))) rfl (pick_f m5 rfl)) ?_
                  refine L_pur (c := .bool ((decide (j0.2.1 < (0 : Int))))) rfl rfl .plain (fun _ _ hd => P_move rfl) ?_
                  refine L_pur (c := .int .i64 (j0.2.1)) rfl rfl (.yes2 rfl rfl p3) (fun _ _ hd => P_move j5) ?_
                  refine L_pur (c := i1) rfl rfl (.yes2 rfl rfl p3) (fun _ _ hd => P_move x4) ?_
                  refine L_pur (c := ePtr i1 (0 : Int) 1) rfl rfl (.yes2 rfl rfl p3) (fun _ _ hd => P_indexAddr (α := Str) Try.underlying36 Try.sizeOf9 rfl z3 rfl c9) ?_
                  refine L_ld (c := Str.v (o4)) rfl rfl (.yes2 rfl rfl p3) (fun _ _ h => h.ch) s9 rfl ?_
                  refine L_pur (c := .int .i64 ((o4).b.length : Int)) rfl rfl (.yes2 rfl rfl p3) (fun _ _ hd => P_lenS Try.underlying9 rfl) ?_
                  refine L_pur (c := .bool ((decide (j0.2.1 ≥ ((o4).b.length : Int))))) rfl rfl (.yes2 rfl rfl p3) (fun _ _ hd => P_int rfl rfl rfl) ?_
                  refine L_pur (c := .bool ((decide (j0.2.1 ≥ ((o4).b.length : Int))))) rfl rfl .plain (fun _ _ hd => P_pick (b := (decide (j0.2.1 < (0 : Int)))) rfl (pick_f p3 rfl)) ?_
                  refine L_pur (c := .bool ((decide (j0.2.1 ≥ ((o4).b.length : Int))))) rfl rfl .plain (fun _ _ hd => P_move rfl) ?_
                  refine L_pur (c := i1) rfl rfl (.yes2 rfl rfl d3) (fun _ _ hd => P_move x4) ?_
                  refine L_pur (c := .int .i64 (j0.1)) rfl rfl (.yes2 rfl rfl d3) (fun _ _ hd => P_move d2) ?_
                  refine L_pur (c := (cutV i1 (Int.toNat 0) (Int.toNat j0.1) 1)) rfl rfl (.yes2 rfl rfl d3) (fun _ _ hd => P_slice Try.underlying36 Try.sizeOf9 rfl z3 rfl rfl t9) ?_
                  refine L_pur (c := j3) rfl rfl (.yes2 rfl rfl d3) (fun _ _ hd => P_move e8) ?_
                  refine L_pur (c := .int .i64 (j0.1)) rfl rfl (.yes2 rfl rfl d3) (fun _ _ hd => P_move d2) ?_
                  refine L_pur (c := (cutV j3 (Int.toNat 0) (Int.toNat j0.1) 1)) rfl rfl (.yes2 rfl rfl d3) (fun _ _ hd => P_slice Try.underlying36 Try.sizeOf9 rfl o6 rfl rfl u9) ?_
                  refine L_do (φ := fun v g w => v = .bool (x5)) rfl rfl (.yes2 rfl rfl d3) (fun g w hd => D_call (g := g) (vs := [(cutV i1 (Int.toNat 0) (Int.toNat j0.1) 1), (cutV j3 (Int.toNat 0) (Int.toNat j0.1) 1)]) en46 (.cons rfl (.cons rfl .nil)) (wk46 (iD.ext hd.1) (jD.ext hd.1) cB) fun g' w' v hs hr => ⟨g', hs, hr⟩) (fun kH hv => ?_)
                  obtain ⟨_, _, _, rfl⟩ := hv
                  refine L_pur (c := .bool (!x5)) rfl rfl (.yes2 rfl rfl d3) (fun _ _ hd => P_not rfl) ?_
                  refine L_pur (c := .bool (!x5)) rfl rfl .plain (fun _ _ hd => P_pick (b := (decide (j0.2.1 ≥ ((o4).b.length : Int)))) rfl (pick_f d3 rfl)) ?_
                  refine L_pur (c := .bool (!x5)) rfl rfl .plain (fun _ _ hd => P_move rfl) ?_
                  refine L_pur (c := i1) rfl rfl (.yes2 rfl rfl z1) (fun _ _ hd => P_move x4) ?_
                  refine L_pur (c := .int .i64 (j0.1)) rfl rfl (.yes2 rfl rfl z1) (fun _ _ hd => P_move d2) ?_
                  refine L_pur (c := ePtr i1 j0.1 1) rfl rfl (.yes2 rfl rfl z1) (fun _ _ hd => P_indexAddr (α := Str) Try.underlying36 Try.sizeOf9 rfl z3 rfl dB) ?_
                  refine L_ld (c := Str.v (iA)) rfl rfl (.yes2 rfl rfl z1) (fun _ _ h => h.ch) mE rfl ?_
                  refine L_pur (c := .int .i64 (j0.2.1)) rfl rfl (.yes2 rfl rfl z1) (fun _ _ hd => P_move j5) ?_
                  refine L_pur (c := Str.v (⟨y6⟩ : Str)) rfl rfl (.yes2 rfl rfl z1) (fun _ _ hd => P_sliceS Try.underlying9 rfl rfl rfl nE) ?_
                  refine L_pur (c := j3) rfl rfl (.yes2 rfl rfl z1) (fun _ _ hd => P_move e8) ?_
                  refine L_pur (c := .int .i64 (j0.1)) rfl rfl (.yes2 rfl rfl z1) (fun _ _ hd => P_move d2) ?_
                  refine L_pur (c := ePtr j3 j0.1 1) rfl rfl (.yes2 rfl rfl z1) (fun _ _ hd => P_indexAddr (α := Str) Try.underlying36 Try.sizeOf9 rfl o6 rfl eB) ?_
                  refine L_ld (c := Str.v (jA)) rfl rfl (.yes2 rfl rfl z1) (fun _ _ h => h.ch) oE rfl ?_
                  refine L_pur (c := .int .i64 (j0.2.1)) rfl rfl (.yes2 rfl rfl z1) (fun _ _ hd => P_move j5) ?_
                  refine L_pur (c := Str.v (⟨z6⟩ : Str)) rfl rfl (.yes2 rfl rfl z1) (fun _ _ hd => P_sliceS Try.underlying9 rfl rfl rfl pE) ?_
                  refine L_pur (c := .bool ((!(((⟨y6⟩ : Str)).b == ((⟨z6⟩ : Str)).b)))) rfl rfl (.yes2 rfl rfl z1) (fun _ _ hd => P_str rfl rfl rfl) ?_
                  refine L_pur (c := .bool ((!(((⟨y6⟩ : Str)).b == ((⟨z6⟩ : Str)).b)))) rfl rfl .plain (fun _ _ hd => P_pick (b := (!x5)) rfl (pick_f z1 rfl)) ?_
                  refine L_pur (c := .bool ((!(((⟨y6⟩ : Str)).b == ((⟨z6⟩ : Str)).b)))) rfl rfl .plain (fun _ _ hd => P_move rfl) ?_
                  refine L_skip rfl (.no2 rfl rfl u3 rfl) ?_
                  refine L_skip rfl (.no2 rfl rfl u3 rfl) ?_
                  refine L_skip rfl (.no2 rfl rfl u3 rfl) ?_
                  refine L_skip rfl (.no2 rfl rfl u3 rfl) ?_
                  refine L_skip rfl (.no2 rfl rfl u3 rfl) ?_
                  refine L_skip rfl (.no2 rfl rfl u3 rfl) ?_
                  refine L_skip rfl (.no2 rfl rfl u3 rfl) ?_
                  refine L_skip rfl (.no2 rfl rfl u3 rfl) ?_
                  refine L_skip rfl (.no2 rfl rfl u3 rfl) ?_
                  refine L_skip rfl (.no2 rfl rfl u3 rfl) ?_
                  refine L_skip rfl (.no2 rfl rfl u3 rfl) ?_
                  refine L_skip rfl (.no2 rfl rfl u3 rfl) ?_
                  refine L_skip rfl (.no2 rfl rfl u3 rfl) ?_
                  refine L_pur (c := .bool true) rfl rfl .plain (fun _ _ hd => P_pick (b := (!(((⟨y6⟩ : Str)).b == ((⟨z6⟩ : Str)).b))) rfl (pick_t u3 rfl)) ?_
                  refine L_nil fun uR bY hall => ?_
                  have hs := hall.1
                  have hfr := hfr.ext hs
                  have d4 := d4.ext hs
                  have i4 := i4.ext hs
                  have j4 := j4.ext hs
                  clear hs hall
                  refine EL_nil ?_
                  obtain rfl := sinj h
                  exact hQ _ _ ⟨uR, hfr, y7, d4, z7, i4, a8, b8, j4, d7, e7, g7, i7, d2, rfl⟩
                 ·obtain ⟨aC, qE, h⟩ := bsome h
                  have vR := PT_idx z3 qE
                  refine L_load (x := .tmp 284) Try.isAgg9 Try.sizeOf9 vR fun cY xR kP => ?_
                  obtain rfl := RV_str.1 xR
                  obtain ⟨k9, lP, h⟩ := bsome h
                  obtain ⟨bC, rE, h⟩ := bsome h
                  have yR := PT_idx o6 rE
                  refine L_load (x := .tmp 290) Try.isAgg9 Try.sizeOf9 yR fun dY zR mP => ?_
                  obtain rfl := RV_str.1 zR
                  obtain ⟨l9, nP, h⟩ := bsome h
                  refine E_drawL (g := t8) (n := 60) [(27, (fun v g w => v = .bool (x5)))] [0, 1, 2, 3, 4, 5, 6, 7, 8, 9, 10, 11, 12, 13, 14, 15, 16, 17, 18, 19, 20, 21, 22, 23, 24, 25, 26, 27, 28, 29, 30, 31, 32, 33, 34, 35, 36, 37, 38, 39, 40, 41, 42, 43, 44, 45, 46, 47, 48, 49, 50, 51, 52, 53, 54, 55, 56, 57, 58, 59] rfl mixed (by kernel_rfl) (⟨fun _ => up_eq _, trivial⟩) ?_
                  refine L_pur (c := .int .i64 (j0.1)) rfl rfl .plain (fun _ _ hd => P_move d2) ?_
                  refine L_pur (c := .bool ((decide (j0.1 < (0 : Int))))) rfl rfl .plain (fun _ _ hd => P_int rfl rfl rfl) ?_
                  refine L_pur (c := .bool ((decide (j0.1 < (0 : Int))))) rfl rfl .plain (fun _ _ hd => P_move rfl) ?_
                  refine L_pur (c := .int .i64 (j0.1)) rfl rfl (.yes2 rfl rfl o3) (fun _ _ hd => P_move d2) ?_
                  refine L_pur (c := i1) rfl rfl (.yes2 rfl rfl o3) (fun _ _ hd => P_move x4) ?_
                  refine L_pur (c := .int .i64 (((n0.1 : List Str)).length : Int)) rfl rfl (.yes2 rfl rfl o3) (fun _ _ hd => P_len Try.underlying36 rfl z3) ?_
                  refine L_pur (c := .bool ((decide (j0.1 ≥ (((n0.1 : List Str)).length : Int))))) rfl rfl (.yes2 rfl rfl o3) (fun _ _ hd => P_int rfl rfl rfl) ?_
                  refine L_pur (c := .bool ((decide (j0.1 ≥ (((n0.1 : List Str)).length : Int))))) rfl rfl .plain (fun _ _ hd => P_pick (b := (decide (j0.1 < (0 : Int)))) rfl (pick_f o3 rfl)) ?_
                  refine L_pur (c := .bool ((decide (j0.1 ≥ (((n0.1 : List Str)).length : Int))))) rfl rfl .plain (fun _ _ hd => P_move rfl) ?_
                  refine L_pur (c := .int .i64 (j0.2.1)) rfl rfl (.yes2 rfl rfl m5) (fun _ _ hd => P_move j5) ?_
                  refine L_pur (c := .bool ((decide (j0.2.1 < (0 : Int))))) rfl rfl (.yes2 rfl rfl m5) (fun _ _ hd => P_int rfl rfl rfl) ?_
                  refine L_pur (c := .bool ((decide (j0.2.1 < (0 : Int))))) rfl rfl .plain (fun _ _ hd => P_pick (b := (decide (j0.1 ≥ (((n0.1 : List Str)).length : Int)))) rfl (pick_f m5 rfl)) ?_
                  refine L_pur (c := .bool ((decide (j0.2.1 < (0 : Int))))) rfl rfl .plain (fun _ _ hd => P_move rfl) ?_
                  refine L_pur (c := .int .i64 (j0.2.1)) rfl rfl (.yes2 rfl rfl p3) (fun _ _ hd => P_move j5) ?_
                  refine L_pur (c := i1) rfl rfl (.yes2 rfl rfl p3) (fun _ _ hd => P_move x4) ?_
                  refine L_pur (c := ePtr i1 (0 : Int) 1) rfl rfl (.yes2 rfl rfl p3) (fun _ _ hd => P_indexAddr (α := Str) Try.underlying36 Try.sizeOf9 rfl z3 rfl c9) ?_
                  refine L_ld (c := Str.v (o4)) rfl rfl (.yes2 rfl rfl p3) (fun _ _ h => h.ch) s9 rfl ?_
                  refine L_pur (c := .int .i64 ((o4).b.length : Int)) rfl rfl (.yes2 rfl rfl p3) (fun _ _ hd => P_lenS Try.underlying9 rfl) ?_
                  refine L_pur (c := .bool ((decide (j0.2.1 ≥ ((o4).b.length : Int))))) rfl rfl (.yes2 rfl rfl p3) (fun _ _ hd => P_int rfl rfl rfl) ?_
                  refine L_pur (c := .bool ((decide (j0.2.1 ≥ ((o4).b.length : Int))))) rfl rfl .plain (fun _ _ hd => P_pick (b := (decide (j0.2.1 < (0 : Int)))) rfl (pick_f p3 rfl)) ?_
                  refine L_pur (c := .bool ((decide (j0.2.1 ≥ ((o4).b.length : Int))))) rfl rfl .plain (fun _ _ hd => P_move rfl) ?_
                  refine L_pur (c := i1) rfl rfl (.yes2 rfl rfl d3) (fun _ _ hd => P_move x4) ?_
                  refine L_pur (c := .int .i64 (j0.1)) rfl rfl (.yes2 rfl rfl d3) (fun _ _ hd => P_move d2) ?_
                  refine L_pur (c := (cutV i1 (Int.toNat 0) (Int.toNat j0.1) 1)) rfl rfl (.yes2 rfl rfl d3) (fun _ _ hd => P_slice Try.underlying36 Try.sizeOf9 rfl z3 rfl rfl t9) ?_
                  refine L_pur (c := j3) rfl rfl (.yes2 rfl rfl d3) (fun _ _ hd => P_move e8) ?_
                  refine L_pur (c := .int .i64 (j0.1)) rfl rfl (.yes2 rfl rfl d3) (fun _ _ hd => P_move d2) ?_
                  refine L_pur (c := (cutV j3 (Int.toNat 0) (Int.toNat j0.1) 1)) rfl rfl (.yes2 rfl rfl d3) (fun _ _ hd => P_slice Try.underlying36 Try.sizeOf9 rfl o6 rfl rfl u9) ?_
                  refine L_do (φ := fun v g w => v = .bool (x5)) rfl rfl (.yes2 rfl rfl d3) (fun g w hd => D_call (g := g) (vs := [(cutV i1 (Int.toNat 0) (Int.toNat j0.1) 1), (cutV j3 (Int.toNat 0) (Int.toNat j0.1) 1)]) en46 (.cons rfl (.cons rfl .nil)) (wk46 (iD.ext hd.1) (jD.ext hd.1) cB) fun g' w' v hs hr => ⟨g', hs, hr⟩) (fun kH hv => ?_)
                  obtain ⟨_, _, _, rfl⟩ := hv
                  refine L_pur (c := .bool (!x5)) rfl rfl (.yes2 rfl rfl d3) (fun _ _ hd => P_not rfl) ?_
                  refine L_pur (c := .bool (!x5)) rfl rfl .plain (fun _ _ hd => P_pick (b := (decide (j0.2.1 ≥ ((o4).b.length : Int)))) rfl (pick_f d3 rfl)) ?_
                  refine L_pur (c := .bool (!x5)) rfl rfl .plain (fun _ _ hd => P_move rfl) ?_
                  refine L_pur (c := i1) rfl rfl (.yes2 rfl rfl z1) (fun _ _ hd => P_move x4) ?_
                  refine L_pur (c := .int .i64 (j0.1)) rfl rfl (.yes2 rfl rfl z1) (fun _ _ hd => P_move d2) ?_
                  refine L_pur (c := ePtr i1 j0.1 1) rfl rfl (.yes2 rfl rfl z1) (fun _ _ hd => P_indexAddr (α := Str) Try.underlying36 Try.sizeOf9 rfl z3 rfl dB) ?_
                  refine L_ld (c := Str.v (iA)) rfl rfl (.yes2 rfl rfl z1) (fun _ _ h => h.ch) mE rfl ?_
                  refine L_pur (c := .int .i64 (j0.2.1)) rfl rfl (.yes2 rfl rfl z1) (fun _ _ hd => P_move j5) ?_
                  refine L_pur (c := Str.v (⟨y6⟩ : Str)) rfl rfl (.yes2 rfl rfl z1) (fun _ _ hd => P_sliceS Try.underlying9 rfl rfl rfl nE) ?_
                  refine L_pur (c := j3) rfl rfl (.yes2 rfl rfl z1) (fun _ _ hd => P_move e8) ?_
                  refine L_pur (c := .int .i64 (j0.1)) rfl rfl (.yes2 rfl rfl z1) (fun _ _ hd => P_move d2) ?_
                  refine L_pur (c := ePtr j3 j0.1 1) rfl rfl (.yes2 rfl rfl z1) (fun _ _ hd => P_indexAddr (α := Str) Try.underlying36 Try.sizeOf9 rfl o6 rfl eB) ?_
                  refine L_ld (c := Str.v (jA)) rfl rfl (.yes2 rfl rfl z1) (fun _ _ h => h.ch) oE rfl ?_
                  refine L_pur (c := .int .i64 (j0.2.1)) rfl rfl (.yes2 rfl rfl z1) (fun _ _ hd => P_move j5) ?_
                  refine L_pur (c := Str.v (⟨z6⟩ : Str)) rfl rfl (.yes2 rfl rfl z1) (fun _ _ hd => P_sliceS Try.underlying9 rfl rfl rfl pE) ?_
                  refine L_pur (c := .bool ((!(((⟨y6⟩ : Str)).b == ((⟨z6⟩ : Str)).b)))) rfl rfl (.yes2 rfl rfl z1) (fun _ _ hd => P_str rfl rfl rfl) ?_
                  refine L_pur (c := .bool ((!(((⟨y6⟩ : Str)).b == ((⟨z6⟩ : Str)).b)))) rfl rfl .plain (fun _ _ hd => P_pick (b := (!x5)) rfl (pick_f z1 rfl)) ?_
                  refine L_pur (c := .bool ((!(((⟨y6⟩ : Str)).b == ((⟨z6⟩ : Str)).b)))) rfl rfl .plain (fun _ _ hd => P_move rfl) ?_
                  refine L_pur (c := i1) rfl rfl (.yes2 rfl rfl u3) (fun _ _ hd => P_move x4) ?_
                  refine L_pur (c := .int .i64 (j0.1)) rfl rfl (.yes2 rfl rfl u3) (fun _ _ hd => P_move d2) ?_
                  refine L_pur (c := ePtr i1 j0.1 1) rfl rfl (.yes2 rfl rfl u3) (fun _ _ hd => P_indexAddr (α := Str) Try.underlying36 Try.sizeOf9 rfl z3 rfl qE) ?_
                  refine L_ld (c := Str.v (aC)) rfl rfl (.yes2 rfl rfl u3) (fun _ _ h => h.ch) kP rfl ?_
                  refine L_pur (c := .int .i64 (j0.2.1)) rfl rfl (.yes2 rfl rfl u3) (fun _ _ hd => P_move j5) ?_
                  refine L_pur (c := .int .u8 (UInt8.toNat (k9))) rfl rfl (.yes2 rfl rfl u3) (fun _ _ hd => P_indexS Try.underlying9 rfl rfl lP) ?_
                  refine L_pur (c := j3) rfl rfl (.yes2 rfl rfl u3) (fun _ _ hd => P_move e8) ?_
                  refine L_pur (c := .int .i64 (j0.1)) rfl rfl (.yes2 rfl rfl u3) (fun _ _ hd => P_move d2) ?_
                  refine L_pur (c := ePtr j3 j0.1 1) rfl rfl (.yes2 rfl rfl u3) (fun _ _ hd => P_indexAddr (α := Str) Try.underlying36 Try.sizeOf9 rfl o6 rfl rE) ?_
                  refine L_ld (c := Str.v (bC)) rfl rfl (.yes2 rfl rfl u3) (fun _ _ h => h.ch) mP rfl ?_
                  refine L_pur (c := .int .i64 (j0.2.1)) rfl rfl (.yes2 rfl rfl u3) (fun _ _ hd => P_move j5) ?_
                  refine L_pur (c := .int .u8 (UInt8.toNat (l9))) rfl rfl (.yes2 rfl rfl u3) (fun _ _ hd => P_indexS Try.underlying9 rfl rfl nP) ?_
                  refine L_pur (c := .bool ((k9 == l9))) rfl rfl (.yes2 rfl rfl u3) (fun _ _ hd => P_u8 rfl rfl rfl) ?_
                  refine L_pur (c := .bool ((k9 == l9))) rfl rfl .plain (fun _ _ hd => P_pick (b := (!(((⟨y6⟩ : Str)).b == ((⟨z6⟩ : Str)).b))) rfl (pick_f u3 rfl)) ?_
                  refine L_nil fun aS eY hall => ?_
                  have hs := hall.1
                  have hfr := hfr.ext hs
                  have d4 := d4.ext hs
                  have i4 := i4.ext hs
                  have j4 := j4.ext hs
                  clear hs hall
                  refine EL_nil ?_
                  obtain rfl := sinj h
                  exact hQ _ _ ⟨aS, hfr, y7, d4, z7, i4, a8, b8, j4, d7, e7, g7, i7, d2, rfl⟩
           ·clear hx
            obtain ⟨bS, hfr, vJ, xJ, yJ, zJ, aK, bK, cK, lH, mH, nH, oH, pH, nA⟩ := hR
            rcases csome h with ⟨iB, h⟩ | ⟨iB, h⟩
            ·refine E_cond_true (Eq.trans (show ev _ _ = .bool (g8) from nA) (congrArg Value.bool iB)) ?_
             refine E_seq (E_region (EL_at (.bool false) rfl rfl ?_))
             refine EL_nil (thn_n (E_ret (thn_r ?_)))
             refine blk_r ?_
             refine thn_r ?_
             refine thn_r ?_
             refine blk_r ?_
             refine blk_r ?_
             refine thn_r ?_
             refine thn_r ?_
             refine blk_r ?_
             refine thn_r ?_
             obtain rfl := sinj h
             exact end1 rfl rfl (show _ = .bool false from rfl) ⟨_, hfr, rfl⟩
            ·refine E_cond_false (Eq.trans (show ev _ _ = .bool (g8) from nA) (congrArg Value.bool iB)) ?_
             exact E_skip (thn_n (jP () _ _ ⟨bS, hfr, vJ, xJ, yJ, zJ, aK, bK, cK, lH, mH, nH, oH, pH⟩ h))
          ·rintro _ zU gY ⟨cS, hfr, dK, eK, gK, iK, jK, kK, lK, qH, sH, tH, uH, vH⟩ h
           refine E_region (EL_mv sH rfl ?_)
           refine EL_mv vH rfl ?_
           refine EL_in (.int .i64 ((w64 (j0.1 + (1 : Int))))) rfl rfl rfl rfl ?_
           refine EL_pur (v := .int .i64 (max64 c5 (w64 (j0.1 + (1 : Int))))) (P_max rfl rfl) .plain rfl ?_
           refine EL_at (.int .i64 (max64 c5 (w64 (j0.1 + (1 : Int))))) rfl rfl ?_
           exact EL_nil (blk_n (thn_n (gE ((max64 c5 (w64 (j0.1 + (1 : Int))))) _ _ ⟨cS, hfr, dK, eK, gK, iK, jK, kK, lK, qH, rfl, tH, uH⟩ h)))
       ·rintro j9 aV hY ⟨dS, hfr, mK, nK, oK, pK, qK, sK, tK, xH, yH, zH, aI⟩ h
        refine E_region (EL_mv aI rfl ?_)
        refine EL_in (.int .i64 ((w64 (z2 + (1 : Int))))) rfl rfl rfl rfl ?_
        refine EL_at (.int .i64 ((w64 (z2 + (1 : Int))))) rfl rfl ?_
        exact EL_nil (thn_n (qO (j9, (w64 (z2 + (1 : Int)))) _ _ ⟨dS, hfr, mK, nK, oK, pK, qK, sK, tK, xH, yH, zH, rfl⟩ h))
     ·rintro i9 bV iY ⟨eS, hfr, uK, vK, xK, yK, zK, aL, bL, bI, cI, dI⟩ h
      refine E_region (EL_mv dI rfl ?_)
      refine EL_in (.int .i64 ((w64 (j1 + (1 : Int))))) rfl rfl rfl rfl ?_
      refine EL_at (.int .i64 ((w64 (j1 + (1 : Int))))) rfl rfl ?_
      exact EL_nil (thn_n (nO (i9, (w64 (j1 + (1 : Int)))) _ _ ⟨eS, hfr, uK, vK, xK, yK, zK, aL, bL, bI, cI, rfl⟩ h))
   ·rintro v6 cV jY ⟨kD, hfr, cL, dL, eL, eI, iI⟩ h
    obtain ⟨e9, hx, h⟩ := bsome h
    refine E_join (fun e w => ∃ (g : Gh) , Fr gI wI g w ∧ e 2 = .bool (e9)) (fun Q' hQ => ?_) (fun dV kY hR => ?_)
    ·replace h := hx
     clear hx
     refine E_region (EL_mv eI rfl ?_)
     refine EL_mv cL rfl ?_
     refine EL_pur (v := .int .i64 ((u4).length : Int)) (P_len Try.underlying29 rfl dL) .plain rfl ?_
     refine EL_in (.bool ((z4 == ((u4).length : Int)))) rfl rfl rfl rfl ?_
     refine EL_mw (.bool ((z4 == ((u4).length : Int)))) rfl rfl ?_
     rcases csome h with ⟨q7, h⟩ | ⟨q7, h⟩
     ·refine EL_pur (v := .int .i64 (v6)) (P_move iI) (.yes2 rfl rfl q7) rfl ?_
      refine EL_pur (v := .int .i64 (n4.1)) (P_move eL) (.yes2 rfl rfl q7) rfl ?_
      refine EL_pur (v := .bool ((v6 == n4.1))) (P_int rfl rfl rfl) (.yes2 rfl rfl q7) rfl ?_
      refine EL_pur (v := .bool ((v6 == n4.1))) (P_pick (b := (z4 == ((u4).length : Int))) rfl (pick_t q7 rfl)) .plain rfl ?_
      refine EL_mw (.bool ((v6 == n4.1))) rfl rfl ?_
      rcases csome h with ⟨d9, h⟩ | ⟨d9, h⟩
      ·obtain ⟨gA, oP, h⟩ := bsome h
       refine EL_do (.yes2 rfl rfl d9) rfl (D_call (g := kD) (vs := []) en15 .nil (wk15  oP) fun gS eV lY hs hr => ?_)
       have hfr := hfr.ext hs
       subst hr
       refine EL_pur (v := .bool (gA)) (P_pick (b := (v6 == n4.1)) rfl (pick_t d9 rfl)) .plain rfl ?_
       refine EL_at (.bool (gA)) rfl rfl ?_
       refine EL_nil ?_
       obtain rfl := sinj h
       exact hQ _ _ ⟨gS, hfr, rfl⟩
      ·refine EL_skip (.no2 rfl rfl d9 rfl) rfl ?_
       refine EL_pur (v := .bool false) (P_pick (b := (v6 == n4.1)) rfl (pick_f d9 rfl)) .plain rfl ?_
       refine EL_at (.bool false) rfl rfl ?_
       refine EL_nil ?_
       obtain rfl := sinj h
       exact hQ _ _ ⟨kD, hfr, rfl⟩
     ·refine EL_skip (.no2 rfl rfl q7 rfl) rfl ?_
      refine EL_skip (.no2 rfl rfl q7 rfl) rfl ?_
      refine EL_skip (.no2 rfl rfl q7 rfl) rfl ?_
      refine EL_pur (v := .bool false) (P_pick (b := (z4 == ((u4).length : Int))) rfl (pick_f q7 rfl)) .plain rfl ?_
      refine EL_dead 3 rfl ?_
      refine EL_at (.bool false) rfl rfl ?_
      refine EL_nil ?_
      obtain rfl := sinj h
      exact hQ _ _ ⟨kD, hfr, rfl⟩
    ·clear hx
     obtain ⟨mY, hfr, gL⟩ := hR
     refine E_ret ?_
     obtain rfl := sinj h
     exact end1 rfl rfl (show _ = .bool (e9) from gL) ⟨_, hfr, rfl⟩
end Go.Proofs.Ytpiaipiehjcflaa
