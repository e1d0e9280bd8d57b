import Derived.Test.YtpiaipiehjcflaaCode4
set_option maxRecDepth 8000
set_option maxHeartbeats 4000000
namespace Go.Proofs.Ytpiaipiehjcflaa
open Go.RowKit
/-- griffe/griffelaw05.FaultApart -/
def f6 (x0 : FaultLoom) (x1 : List FaultDamage) : Option (Bool) :=
 jn (σ := Unit) (fun (_ : Unit) =>
  jn (σ := Int) (fun d3 =>
   (f16 x0).bind fun eF =>
   (f17 x1).bind fun gF =>
   (f38 eF gF).bind fun z1 =>
   (f39 eF gF).bind fun y0 =>
   jn (σ := Unit) (fun (_ : Unit) =>
    jn (σ := Unit) (fun (_ : Unit) =>
     jn (σ := Unit) (fun (_ : Unit) =>
      jn (σ := Int × Int) (fun (o3, c4) =>
       Option.bind (α := Bool) (
        bif (c4 == ((y0.1).length : Int)) then
         bif (z1.1 == o3) then
          (f15).bind fun o7 =>
          some (o7)
         else
          some (false)
        else
         some (false)
        ) fun l6 =>
       some (l6)
       ) fun pI =>
      lp (σ := Int × Int × Int) (fun qI (j5, n0, o0) =>
       jn (σ := Unit) (fun (_ : Unit) =>
        jn (σ := Int × Int) (fun (q6, r6) =>
         qI (q6, r6, (w64 (o0 + (1 : Int))))
         ) fun yA =>
        Option.bind (α := Int × (List Int) × Bool) (
         lp (σ := Int × (List Int) × Bool × Int) (fun iF (p3, d4, q3, j1) =>
          jn (σ := Unit) (fun (_ : Unit) =>
           Option.bind (α := Int × (List Int) × Bool) (
            (idx x1 o0).bind fun jF =>
            (f36 x0 jF).bind fun m6 =>
            (idx x1 j1).bind fun kF =>
            (f36 x0 kF).bind fun n6 =>
            (f40 m6 n6).bind fun s3 =>
            bif (s3 == (0 : Int)) then
             (apnd 8 d4 (([j1] : List Int))).bind fun zA =>
             bif q3 then
              some ((max64 p3 s3), zA, (decide (j1 ≥ o0)))
             else
              some ((max64 p3 s3), zA, false)
            else
             some ((max64 p3 s3), d4, q3)
            ) fun (p5, q4, q5) =>
           iF (p5, q4, q5, (w64 (j1 + (1 : Int))))
           ) fun lF =>
          bif (decide (j1 < ((x1).length : Int))) then
           lF ()
          else
           some (p3, d4, q3)
          ) big (j5, ([] : List Int), true, (0 : Int))
         ) fun (j2, u0, t5) =>
        jn (σ := Unit) (fun (_ : Unit) =>
         jn (σ := Unit) (fun (_ : Unit) =>
          jn (σ := Unit) (fun (_ : Unit) =>
           yA (j2, (w64 (n0 + (1 : Int))))
           ) fun mF =>
          lp (σ := Int) (fun nF d2 =>
           jn (σ := Unit) (fun (_ : Unit) =>
            jn (σ := Unit) (fun (_ : Unit) =>
             nF ((w64 (d2 + (1 : Int))))
             ) fun oF =>
            (idx (y0.1) n0).bind fun pF =>
            (idx pF d2).bind fun p7 =>
            (idx u0 d2).bind fun q7 =>
            bif (p7 != q7) then
             some (false)
            else
             oF ()
            ) fun qF =>
           bif (decide (d2 < ((u0).length : Int))) then
            qF ()
           else
            mF ()
           ) big ((0 : Int))
          ) fun rF =>
         Option.bind (α := Bool) (
          bif (decide (n0 ≥ ((y0.1).length : Int))) then
           some (true)
          else
           (idx (y0.1) n0).bind fun a7 =>
           some ((((a7).length : Int) != ((u0).length : Int)))
          ) fun n4 =>
         bif n4 then
          some (false)
         else
          rF ()
         ) fun sF =>
        bif (!t5) then
         yA (j2, n0)
        else
         sF ()
        ) fun rI =>
       bif (decide (o0 < ((x1).length : Int))) then
        rI ()
       else
        pI (j5, n0)
       ) big ((0 : Int), (0 : Int), (0 : Int))
      ) fun sI =>
     Option.bind (α := Bool) (
      bif (z1.2 != (0 : Int)) then
       some (true)
      else
       some ((y0.2 != (0 : Int)))
      ) fun l5 =>
     bif l5 then
      some (false)
     else
      sI ()
     ) fun tI =>
    bif (d3 != (0 : Int)) then
     Option.bind (α := Bool) (
      bif (z1.2 == d3) then
       bif (y0.2 == d3) then
        bif (z1.1 == (0 : Int)) then
         bif (((y0.1).length : Int) == (0 : Int)) then
          (f15).bind fun aB =>
          some (aB)
         else
          some (false)
        else
         some (false)
       else
        some (false)
      else
       some (false)
      ) fun b7 =>
     some (b7)
    else
     tI ()
    ) fun bN =>
   Option.bind (α := Bool) (
    (f21 eF x0).bind fun s9 =>
    bif (!s9) then
     some (true)
    else
     (f22 gF x1).bind fun tF =>
     some ((!tF))
    ) fun c6 =>
   bif c6 then
    some (false)
   else
    bN ()
   ) fun cN =>
  (f23 x0 x1).bind fun d6 =>
  Option.bind (α := Bool) (
   bif (d6 == (0 : Int)) then
    some ((decide (((x1).length : Int) > (20 : Int))))
   else
    some (false)
   ) fun e6 =>
  bif e6 then
   (f15).bind fun uF =>
   some (uF)
  else
   cN (d6)
  ) fun dN =>
 Option.bind (α := Bool) (
  (f14 x0).bind fun nB =>
  bif nB then
   some (true)
  else
   some ((decide (((x1).length : Int) > (110 : Int))))
  ) fun i6 =>
 bif i6 then
  (f15).bind fun vF =>
  some (vF)
 else
  dN ()
end Go.Proofs.Ytpiaipiehjcflaa
