import Derived.Test.YtmebkoemfjlbcaaGreatDoorCode4
set_option maxRecDepth 8000
set_option maxHeartbeats 4000000
namespace Go.Proofs.YtmebkoemfjlbcaaGreatDoor
open Go.RowKit Tryz
noncomputable def f13  : Option (Bool) :=
 (f15 ((⟨(3 : Int), ([(3 : Int), (4 : Int)] : List Int)⟩ : Tb))).bind fun y4 =>
 (f19 ((⟨[120, 120, 46, 10, 46, 46, 120, 10]⟩ : Str))).bind fun y6 =>
 (f52).bind fun zO =>
 (f23 zO).bind fun oD =>
 (f26 ((⟨[109, 105, 108, 108, 10, 116, 105, 101, 32, 112, 108, 97, 105, 110, 32, 50, 32, 48, 32, 49, 32, 48, 10, 99, 104, 97, 105, 110, 32, 116, 119, 105, 108, 108, 32, 50, 10, 99, 97, 114, 100, 32, 48, 32, 120, 46, 10, 116, 117, 114, 110, 101, 100, 32, 63, 32, 120, 46, 10, 101, 110, 100, 32, 53, 32, 52, 53, 49, 51, 10]⟩ : Str))).bind fun rE =>
 (f31 (([(⟨(258 : Int), (3 : Int), 0, 0, (5 : Int)⟩ : Z2)] : List Z2))).bind fun vE =>
 (f32 (([(1 : UInt8), (2 : UInt8), (3 : UInt8), (0 : UInt8), (0 : UInt8), (5 : UInt8), (11 : UInt8), (44 : UInt8)] : List UInt8))).bind fun y23 =>
 (f37 (([(1 : UInt8), (2 : UInt8), (3 : UInt8), (0 : UInt8), (0 : UInt8), (6 : UInt8), (11 : UInt8), (44 : UInt8)] : List UInt8))).bind fun bE =>
 (f53 ((0 : Int)) ((3 : Int))).bind fun eL =>
 (f31 (([eL] : List Z2))).bind fun nD =>
 (f53 ((5 : Int)) ((2 : Int))).bind fun gL =>
 (f31 (([gL] : List Z2))).bind fun zB =>
 (f42 (([zB.1, nD.1, zB.1] : List (List UInt8)))).bind fun mE =>
 (f52).bind fun aP =>
 (f43 aP (([zB.1, nD.1] : List (List UInt8)))).bind fun y44 =>
 jn (σ := Unit) (fun _ =>
  jn (σ := Unit) (fun _ =>
   Option.bind (α := Bool) (
    (apnd 1 (([] : List UInt8)) (nD.1)).bind fun iL =>
    (apnd 1 iL (zB.1)).bind fun jL =>
    (f36 (mE.1) jL).bind fun iI =>
    bif iI then
     bif (((y44.1).length : Int) == (16 : Int)) then
      (idx (y44.1) (0 : Int)).bind fun lG =>
      bif (((lG).length : Int) == (5 : Int)) then
       (idx (y44.1) (0 : Int)).bind fun lL =>
       (idx lL (0 : Int)).bind fun jH =>
       bif ((jH).b == ((⟨[120, 46, 120]⟩ : Str)).b) then
        (idx (y44.1) (0 : Int)).bind fun mL =>
        (idx mL (3 : Int)).bind fun oH =>
        some (((oH).b == ((⟨[46, 120, 46]⟩ : Str)).b))
       else
        none
      else
       none
     else
      none
    else
     none
    ) fun yG =>
   some (yG)
   ) fun nL =>
  Option.bind (α := Bool) (
   bif (!((y4.1).b == ((⟨[120, 120, 46, 10, 46, 46, 120, 10]⟩ : Str)).b)) then
    none
   else
    (f18 (y6.1) ((⟨(3 : Int), ([(3 : Int), (4 : Int)] : List Int)⟩ : Tb))).bind fun cG =>
    bif (!cG) then
     none
    else
     bif (!((oD.1).b == ((⟨[109, 105, 108, 108, 10, 116, 105, 101, 32, 112, 108, 97, 105, 110, 32, 50, 32, 48, 32, 49, 32, 48, 10, 99, 104, 97, 105, 110, 32, 116, 119, 105, 108, 108, 32, 50, 10, 99, 97, 114, 100, 32, 48, 32, 120, 46, 10, 116, 117, 114, 110, 101, 100, 32, 63, 32, 120, 46, 10, 101, 110, 100, 32, 53, 32, 52, 53, 49, 51, 10]⟩ : Str)).b)) then
      none
     else
      (f52).bind fun kH =>
      (f24 (rE.1) kH).bind fun eG =>
      bif (!eG) then
       none
      else
       (f36 (vE.1) (([(1 : UInt8), (2 : UInt8), (3 : UInt8), (0 : UInt8), (0 : UInt8), (5 : UInt8), (11 : UInt8), (44 : UInt8)] : List UInt8))).bind fun gG =>
       bif (!gG) then
        none
       else
        bif (((y23.1).length : Int) != (1 : Int)) then
         none
        else
         (idx (y23.1) (0 : Int)).bind fun mG =>
         bif ((mG).Day != (258 : Int)) then
          none
         else
          bif (((bE.1).length : Int) != (1 : Int)) then
           none
          else
           (idx (bE.1) (0 : Int)).bind fun pH =>
           some (((pH).Picks != (5 : Int)))
   ) fun yE =>
  bif yE then
   some (false)
  else
   nL ()
  ) fun cP =>
 Option.bind (α := Bool) (
  bif (y4.2 != (0 : Int)) then
   none
  else
   bif (y6.2.2 != (0 : Int)) then
    none
   else
    bif (oD.2 != (0 : Int)) then
     none
    else
     bif (rE.2.2 != (0 : Int)) then
      none
     else
      bif (vE.2.2 != (0 : Int)) then
       none
      else
       bif (y23.2.2 != (0 : Int)) then
        none
       else
        bif (bE.2 != (0 : Int)) then
         none
        else
         bif (nD.2.2 != (0 : Int)) then
          none
         else
          bif (zB.2.2 != (0 : Int)) then
           none
          else
           bif (mE.2.2 != (0 : Int)) then
            none
           else
            some ((y44.2.2 != (0 : Int)))
  ) fun rF =>
 bif rF then
  some (false)
 else
  cP ()
theorem en13 : Enters prog 13 := enters_of func13 (by kernel_rfl) rfl
theorem wk13 {gI : Gh} {wI : World} (hTI : Fa 0 1 4 5 gI.m wI)   {r : Bool} (h : f13  = some r) : Fn prog 13 #[] gI wI (fun _ _ v => v = .bool (r)) := by
 unfold f13 at h;refine fnE func13 rfl rfl fun g0 hm hfr => ?_;show E _ 228 none _ _ _ _ _;refine Z5 (Zg (.bool false) rfl rfl (Z3 (Z5 (Z4 rfl (Ga (g := g0) 3032 (xs := ([(3 : Int), (4 : Int)] : List Int)) (vs := [Iz (3), Iz (4)]) underlying22 sizeOf3 zeroValue3 rfl rfl (.cons rfl (.cons rfl .nil)) (RVs.cons (Zj.2 rfl) (RVs.cons (Zj.2 rfl) RVs.nil)) rfl rfl fun g1 w1 v1 hs o1 r1 hxt hfl => ?_)))));have hfr := hfr.stp hs;have r2 : RV g1.m _ (⟨(3 : Int), ([(3 : Int), (4 : Int)] : List Int)⟩ : Tb) (.agg (Qf [[Iz 0], [.slice none 0 0]] [(0, Iz (3)), (1, v1)]).flatten.toArray) := Qq rfl (Tq (rfl) (Qv (RV.cells r1)));generalize hv2 : (Value.agg (Qf [[Iz 0], [.slice none 0 0]] [(0, Iz (3)), (1, v1)]).flatten.toArray) = v2 at r2;refine Zx v2 (hv2 ▸ T7 (vs := [(0, Iz (3)), (1, v1)]) [[Iz 0], [.slice none 0 0]] Px rfl rfl (.cons rfl (.cons rfl .nil)) ⟨⟨_, rfl, rfl⟩, ⟨⟨_, rfl, T4 r1⟩, trivial⟩⟩) rfl ?_;obtain ⟨y4, lR, h⟩ := Z1 h;refine Z4 rfl (Zp (g := g1) (vs := [v2]) en15 (.cons rfl .nil) (wk15 r2 lR) fun g3 w3_ v3 hs hr => ?_);have hfr := hfr.ext hs;obtain ⟨zU, aV, rfl, rfl, rfl⟩ := hr;refine Zn (.tuple #[Str.v (y4.1), Iz (y4.2)]) rfl rfl (Zx (Str.v (y4.1)) (Zi rfl rfl) rfl (Zx (Iz (y4.2)) (Zi rfl rfl) rfl (Zg (Str.v (y4.1)) rfl rfl (Zg (Iz (y4.2)) rfl rfl (Z3 (Z5 ?_))))));obtain ⟨y6, mR, h⟩ := Z1 h;refine Z4 rfl (Zp (g := g3) (vs := [Str.v (⟨[120, 120, 46, 10, 46, 46, 120, 10]⟩ : Str)]) en19 (.cons rfl .nil) (wk19 (hTI.ch hfr.ch)  mR) fun g5 w5_ v5 hs hr => ?_);have hfr := hfr.ext hs;obtain ⟨xJ, bV, cV, rfl, zJ, rfl, rfl⟩ := hr;refine Zn (.tuple #[xJ, Iz (y6.2.1), Iz (y6.2.2)]) rfl rfl (Zx xJ (Zi rfl rfl) rfl (Zx (Iz (y6.2.1)) (Zi rfl rfl) rfl (Zx (Iz (y6.2.2)) (Zi rfl rfl) rfl (Z4 rfl (Td (g := g5) 2003 (⟨0, []⟩ : Tb) zeroValue24 (fun m w => ⟨_, (Gk Zw Q0), rfl⟩) fun g7 w7 p7 hs b7 cb => ?_)))));have hfr := hfr.stp hs;have zJ := zJ.stp hs;have dV : OSF 2003 60301 1 g7 w7 3 24 ([] : List Int) p7 := cb.osf (by rfl);clear cb;refine Z4 rfl (Gv (g := g7) (v := xJ) sizeOf24 rfl b7 rfl zJ fun g8 w8 hs b8 cb => ?_);clear cb;have hfr := hfr.stp hs;refine Zg (Iz (y6.2.1)) rfl rfl (Zg (Iz (y6.2.2)) rfl rfl (Z3 (Z5 ?_)));obtain ⟨zO, iP, h⟩ := Z1 h;refine Z4 rfl (Zp (g := g8) (vs := []) en52 .nil (wk52  iP) fun g9 w9_ v9 hs hr => ?_);have hfr := hfr.ext hs;have b8 := b8.ext hs;have r9 := hr;obtain ⟨oD, hy12, h⟩ := Z1 h;refine Z4 rfl (Zp (g := g9) (vs := [v9]) en23 (.cons rfl .nil) (wk23 (hTI.ch hfr.ch).tab r9 hy12) fun g11 eV xW hs hr => ?_);have hfr := hfr.ext hs;have b8 := b8.ext hs;obtain ⟨zT, aU, rfl, rfl, rfl⟩ := hr;refine Zn (.tuple #[Str.v (oD.1), Iz (oD.2)]) rfl rfl (Zx (Str.v (oD.1)) (Zi rfl rfl) rfl (Zx (Iz (oD.2)) (Zi rfl rfl) rfl (Zg (Str.v (oD.1)) rfl rfl (Zg (Iz (oD.2)) rfl rfl (Z3 (Z5 ?_))))));obtain ⟨rE, jP, h⟩ := Z1 h;refine Z4 rfl (Zp (g := g11) (vs := [Str.v (⟨[109, 105, 108, 108, 10, 116, 105, 101, 32, 112, 108, 97, 105, 110, 32, 50, 32, 48, 32, 49, 32, 48, 10, 99, 104, 97, 105, 110, 32, 116, 119, 105, 108, 108, 32, 50, 10, 99, 97, 114, 100, 32, 48, 32, 120, 46, 10, 116, 117, 114, 110, 101, 100, 32, 63, 32, 120, 46, 10, 101, 110, 100, 32, 53, 32, 52, 53, 49, 51, 10]⟩ : Str)]) en26 (.cons rfl .nil) (wk26 (hTI.ch hfr.ch)  jP) fun nR gV yW hs hr => ?_);have hfr := hfr.ext hs;have b8 := b8.ext hs;obtain ⟨jI, bU, cU, rfl, kI, rfl, rfl⟩ := hr;refine Zn (.tuple #[jI, Iz (rE.2.1), Iz (rE.2.2)]) rfl rfl (Zx jI (Zi rfl rfl) rfl (Zx (Iz (rE.2.1)) (Zi rfl rfl) rfl (Zx (Iz (rE.2.2)) (Zi rfl rfl) rfl (Z4 rfl (Td (g := nR) 2008 (⟨[], []⟩ : Gg) zeroValue39 (fun m w => ⟨_, (Gk Q0 Q0), rfl⟩) fun oL w15 bI hs b15 cb => ?_)))));have hfr := hfr.stp hs;have b8 := b8.stp hs rfl;have kI := kI.stp hs;have dU : OSF 2008 60800 0 oL w15 108 39 ([] : List Gs) bI := cb.osf (by rfl);have eU : OSF 2008 60801 1 oL w15 94 39 ([] : List Gi) bI := cb.osf (by rfl);clear cb;refine Z4 rfl (Gv (g := oL) (v := jI) sizeOf39 rfl b15 rfl kI fun dP pR hs b16 cb => ?_);clear cb;have hfr := hfr.stp hs;have b8 := b8.stp hs rfl;refine Zg (Iz (rE.2.1)) rfl rfl (Zg (Iz (rE.2.2)) rfl rfl (Z3 (Z5 ?_)))
 have eP : RV dP.m pR (⟨(258 : Int), (3 : Int), 0, 0, (5 : Int)⟩ : Z2) (.agg (Qf [[Iz 0], [Iz 0], [Iz 0], [Iz 0], [Iz 0]] [(0, Iz (258)), (1, Iz (3)), (4, Iz (5))]).flatten.toArray) := Qq rfl (Tq (rfl) (Tq (rfl) (Tq (Zw) (Tq (Zw) (Qv (rfl))))));generalize kP : (Value.agg (Qf [[Iz 0], [Iz 0], [Iz 0], [Iz 0], [Iz 0]] [(0, Iz (258)), (1, Iz (3)), (4, Iz (5))]).flatten.toArray) = gP at eP;refine Zx gP (kP ▸ T7 (vs := [(0, Iz (258)), (1, Iz (3)), (4, Iz (5))]) [[Iz 0], [Iz 0], [Iz 0], [Iz 0], [Iz 0]] Bf rfl rfl (.cons rfl (.cons rfl (.cons rfl .nil))) ⟨⟨_, rfl, rfl⟩, ⟨⟨_, rfl, rfl⟩, ⟨⟨_, rfl, rfl⟩, trivial⟩⟩⟩) rfl (Z4 rfl (Ga (g := dP) 3054 (xs := ([(⟨(258 : Int), (3 : Int), 0, 0, (5 : Int)⟩ : Z2)] : List Z2)) (vs := [gP]) underlying49 sizeOf63 zeroValue63 rfl rfl (.cons rfl .nil) (RVs.cons eP RVs.nil) rfl rfl fun qR zW tR hs o18 uR hxt hfl => ?_));have hfr := hfr.stp hs;have b8 := b8.stp hs rfl;have b16 := b16.stp hs rfl;obtain ⟨vE, hy20, h⟩ := Z1 h;refine Z4 rfl (Zp (g := qR) (vs := [tR]) en31 (.cons rfl .nil) (wk31 uR hy20) fun xR iV aX hs hr => ?_);have hfr := hfr.ext hs;have b8 := b8.ext hs;have b16 := b16.ext hs;obtain ⟨xE, gU, iU, rfl, n8, rfl, rfl⟩ := hr;refine Zn (.tuple #[xE, Iz (vE.2.1), Iz (vE.2.2)]) rfl rfl (Zx xE (Zi rfl rfl) rfl (Zx (Iz (vE.2.1)) (Zi rfl rfl) rfl (Zx (Iz (vE.2.2)) (Zi rfl rfl) rfl (Zg xE rfl rfl (Zg (Iz (vE.2.1)) rfl rfl (Zg (Iz (vE.2.2)) rfl rfl (Z3 (Z5 (Z4 rfl (Ga (g := xR) 3060 (xs := ([(1 : UInt8), (2 : UInt8), (3 : UInt8), (0 : UInt8), (0 : UInt8), (5 : UInt8), (11 : UInt8), (44 : UInt8)] : List UInt8)) (vs := [.int .u8 (UInt8.toNat 1), .int .u8 (UInt8.toNat 2), .int .u8 (UInt8.toNat 3), .int .u8 (UInt8.toNat 0), .int .u8 (UInt8.toNat 0), .int .u8 (UInt8.toNat 5), .int .u8 (UInt8.toNat 11), .int .u8 (UInt8.toNat 44)]) underlying50 sizeOf5 zeroValue5 rfl rfl (.cons rfl (.cons rfl (.cons rfl (.cons rfl (.cons rfl (.cons rfl (.cons rfl (.cons rfl .nil)))))))) (RVs.cons (Tz.2 rfl) (RVs.cons (Tz.2 rfl) (RVs.cons (Tz.2 rfl) (RVs.cons (Tz.2 rfl) (RVs.cons (Tz.2 rfl) (RVs.cons (Tz.2 rfl) (RVs.cons (Tz.2 rfl) (RVs.cons (Tz.2 rfl) RVs.nil)))))))) rfl rfl fun yR bX zR hs o21 aS hxt hfl => ?_))))))))));have hfr := hfr.stp hs;have b8 := b8.stp hs rfl;have b16 := b16.stp hs rfl;have n8 := n8.stp hs;obtain ⟨y23, lP, h⟩ := Z1 h;refine Z4 rfl (Zp (g := yR) (vs := [zR]) en32 (.cons rfl .nil) (wk32 aS lP) fun cS jV cX hs hr => ?_);have hfr := hfr.ext hs;have b8 := b8.ext hs;have b16 := b16.ext hs;have n8 := n8.ext hs;obtain ⟨iE, jU, kU, rfl, n9, rfl, rfl⟩ := hr;refine Zn (.tuple #[iE, Iz (y23.2.1), Iz (y23.2.2)]) rfl rfl (Zx iE (Zi rfl rfl) rfl (Zx (Iz (y23.2.1)) (Zi rfl rfl) rfl (Zx (Iz (y23.2.2)) (Zi rfl rfl) rfl (Zg iE rfl rfl (Zg (Iz (y23.2.1)) rfl rfl (Zg (Iz (y23.2.2)) rfl rfl (Z3 (Z5 (Z4 rfl (Ga (g := cS) 3066 (xs := ([(1 : UInt8), (2 : UInt8), (3 : UInt8), (0 : UInt8), (0 : UInt8), (6 : UInt8), (11 : UInt8), (44 : UInt8)] : List UInt8)) (vs := [.int .u8 (UInt8.toNat 1), .int .u8 (UInt8.toNat 2), .int .u8 (UInt8.toNat 3), .int .u8 (UInt8.toNat 0), .int .u8 (UInt8.toNat 0), .int .u8 (UInt8.toNat 6), .int .u8 (UInt8.toNat 11), .int .u8 (UInt8.toNat 44)]) underlying50 sizeOf5 zeroValue5 rfl rfl (.cons rfl (.cons rfl (.cons rfl (.cons rfl (.cons rfl (.cons rfl (.cons rfl (.cons rfl .nil)))))))) (RVs.cons (Tz.2 rfl) (RVs.cons (Tz.2 rfl) (RVs.cons (Tz.2 rfl) (RVs.cons (Tz.2 rfl) (RVs.cons (Tz.2 rfl) (RVs.cons (Tz.2 rfl) (RVs.cons (Tz.2 rfl) (RVs.cons (Tz.2 rfl) RVs.nil)))))))) rfl rfl fun dS dX eS hs o24 gS hxt hfl => ?_))))))))));have hfr := hfr.stp hs;have b8 := b8.stp hs rfl;have b16 := b16.stp hs rfl;have n8 := n8.stp hs;have n9 := n9.stp hs;obtain ⟨bE, sP, h⟩ := Z1 h;refine Z4 rfl (Zp (g := dS) (vs := [eS]) en37 (.cons rfl .nil) (wk37 gS sP) fun iS kV eX hs hr => ?_);have hfr := hfr.ext hs;have b8 := b8.ext hs;have b16 := b16.ext hs;have n8 := n8.ext hs;have n9 := n9.ext hs;obtain ⟨lE, lU, rfl, aB, rfl⟩ := hr;refine Zn (.tuple #[lE, Iz (bE.2)]) rfl rfl (Zx lE (Zi rfl rfl) rfl (Zx (Iz (bE.2)) (Zi rfl rfl) rfl (Zg lE rfl rfl (Zg (Iz (bE.2)) rfl rfl (Z3 (Z5 ?_))))))
 obtain ⟨eL, tP, h⟩ := Z1 h;refine Z4 rfl (Zp (g := iS) (vs := [Iz (0), Iz (3)]) en53 (.cons rfl (.cons rfl .nil)) (wk53  tP) fun jS lV lS hs hr => ?_);have hfr := hfr.ext hs;have b8 := b8.ext hs;have b16 := b16.ext hs;have n8 := n8.ext hs;have n9 := n9.ext hs;have aB := aB.ext hs;have mS := hr;refine Z4 rfl (Ga (g := jS) 3072 (xs := ([eL] : List Z2)) (vs := [lS]) underlying49 sizeOf63 zeroValue63 rfl rfl (.cons rfl .nil) (RVs.cons mS RVs.nil) rfl rfl fun nS w29 oS hs o29 pS hxt hfl => ?_);have hfr := hfr.stp hs;have b8 := b8.stp hs rfl;have b16 := b16.stp hs rfl;have n8 := n8.stp hs;have n9 := n9.stp hs;have aB := aB.stp hs;obtain ⟨nD, uP, h⟩ := Z1 h;refine Z4 rfl (Zp (g := nS) (vs := [oS]) en31 (.cons rfl .nil) (wk31 pS uP) fun qS mV gX hs hr => ?_);have hfr := hfr.ext hs;have b8 := b8.ext hs;have b16 := b16.ext hs;have n8 := n8.ext hs;have n9 := n9.ext hs;have aB := aB.ext hs;obtain ⟨yB, mU, nU, rfl, mB, rfl, rfl⟩ := hr;refine Zn (.tuple #[yB, Iz (nD.2.1), Iz (nD.2.2)]) rfl rfl (Zx yB (Zi rfl rfl) rfl (Zx (Iz (nD.2.1)) (Zi rfl rfl) rfl (Zx (Iz (nD.2.2)) (Zi rfl rfl) rfl (Zg yB rfl rfl (Zg (Iz (nD.2.1)) rfl rfl (Zg (Iz (nD.2.2)) rfl rfl (Z3 (Z5 ?_))))))));obtain ⟨gL, vP, h⟩ := Z1 h;refine Z4 rfl (Zp (g := qS) (vs := [Iz (5), Iz (2)]) en53 (.cons rfl (.cons rfl .nil)) (wk53  vP) fun rS nV sS hs hr => ?_);have hfr := hfr.ext hs;have b8 := b8.ext hs;have b16 := b16.ext hs;have n8 := n8.ext hs;have n9 := n9.ext hs;have aB := aB.ext hs;have mB := mB.ext hs;have tS := hr;refine Z4 rfl (Ga (g := rS) 3079 (xs := ([gL] : List Z2)) (vs := [sS]) underlying49 sizeOf63 zeroValue63 rfl rfl (.cons rfl .nil) (RVs.cons tS RVs.nil) rfl rfl fun uS iX vS hs o34 xS hxt hfl => ?_);have hfr := hfr.stp hs;have b8 := b8.stp hs rfl;have b16 := b16.stp hs rfl;have n8 := n8.stp hs;have n9 := n9.stp hs;have aB := aB.stp hs;have mB := mB.stp hs;obtain ⟨zB, xP, h⟩ := Z1 h;refine Z4 rfl (Zp (g := uS) (vs := [vS]) en31 (.cons rfl .nil) (wk31 xS xP) fun yS oV jX hs hr => ?_);have hfr := hfr.ext hs;have b8 := b8.ext hs;have b16 := b16.ext hs;have n8 := n8.ext hs;have n9 := n9.ext hs;have aB := aB.ext hs;have mB := mB.ext hs;obtain ⟨oB, oU, pU, rfl, cC, rfl, rfl⟩ := hr;refine Zn (.tuple #[oB, Iz (zB.2.1), Iz (zB.2.2)]) rfl rfl (Zx oB (Zi rfl rfl) rfl (Zx (Iz (zB.2.1)) (Zi rfl rfl) rfl (Zx (Iz (zB.2.2)) (Zi rfl rfl) rfl (Zg oB rfl rfl (Zg (Iz (zB.2.1)) rfl rfl (Zg (Iz (zB.2.2)) rfl rfl (Z3 (Z5 (Zn oB rfl rfl (Zn yB rfl rfl (Zn oB rfl rfl (Z4 rfl (Ga (g := yS) 3088 (xs := ([zB.1, nD.1, zB.1] : List (List UInt8))) (vs := [oB, yB, oB]) underlying69 sizeOf50 zeroValue50 rfl rfl (.cons rfl (.cons rfl (.cons rfl .nil))) (RVs.cons cC (RVs.cons mB (RVs.cons cC RVs.nil))) rfl rfl fun zS kX eT hs o37 lT hxt hfl => ?_)))))))))))));have hfr := hfr.stp hs;have b8 := b8.stp hs rfl;have b16 := b16.stp hs rfl;have n8 := n8.stp hs;have n9 := n9.stp hs;have aB := aB.stp hs;have mB := mB.stp hs;have cC := cC.stp hs;obtain ⟨mE, yP, h⟩ := Z1 h;refine Z4 rfl (Zp (g := zS) (vs := [eT]) en42 (.cons rfl .nil) (wk42 lT yP) fun mT pV lX hs hr => ?_);have hfr := hfr.ext hs;have b8 := b8.ext hs;have b16 := b16.ext hs;have n8 := n8.ext hs;have n9 := n9.ext hs;have aB := aB.ext hs;have mB := mB.ext hs;have cC := cC.ext hs;obtain ⟨aE, qU, rU, rfl, vF, rfl, rfl⟩ := hr;refine Zn (.tuple #[aE, Iz (mE.2.1), Iz (mE.2.2)]) rfl rfl (Zx aE (Zi rfl rfl) rfl (Zx (Iz (mE.2.1)) (Zi rfl rfl) rfl (Zx (Iz (mE.2.2)) (Zi rfl rfl) rfl (Zg aE rfl rfl (Zg (Iz (mE.2.1)) rfl rfl (Zg (Iz (mE.2.2)) rfl rfl (Z3 (Z5 ?_))))))));obtain ⟨aP, zP, h⟩ := Z1 h;refine Z4 rfl (Zp (g := mT) (vs := []) en52 .nil (wk52  zP) fun nT qV oT hs hr => ?_);have hfr := hfr.ext hs;have b8 := b8.ext hs;have b16 := b16.ext hs;have n8 := n8.ext hs;have n9 := n9.ext hs;have aB := aB.ext hs;have mB := mB.ext hs;have cC := cC.ext hs;have vF := vF.ext hs;have xL := hr;refine Zn oB rfl rfl (Zn yB rfl rfl (Z4 rfl (Ga (g := nT) 3097 (xs := ([zB.1, nD.1] : List (List UInt8))) (vs := [oB, yB]) underlying69 sizeOf50 zeroValue50 rfl rfl (.cons rfl (.cons rfl .nil)) (RVs.cons cC (RVs.cons mB RVs.nil)) rfl rfl fun pT mX sT hs o42 tT hxt hfl => ?_)))
 have hfr := hfr.stp hs;have b8 := b8.stp hs rfl;have b16 := b16.stp hs rfl;have n8 := n8.stp hs;have n9 := n9.stp hs;have aB := aB.stp hs;have mB := mB.stp hs;have cC := cC.stp hs;have vF := vF.stp hs;have xL := xL.stp hs;obtain ⟨y44, bQ, h⟩ := Z1 h;refine Z4 rfl (Zp (g := pT) (vs := [oT, sT]) en43 (.cons rfl (.cons rfl .nil)) (wk43 xL tT bQ) fun uT rV nX hs hr => ?_);have hfr := hfr.ext hs;have b8 := b8.ext hs;have b16 := b16.ext hs;have n8 := n8.ext hs;have n9 := n9.ext hs;have aB := aB.ext hs;have mB := mB.ext hs;have cC := cC.ext hs;have vF := vF.ext hs;obtain ⟨nB, sU, tU, rfl, vN, rfl, rfl⟩ := hr;refine Zn (.tuple #[nB, Iz (y44.2.1), Iz (y44.2.2)]) rfl rfl (Zx nB (Zi rfl rfl) rfl (Zx (Iz (y44.2.1)) (Zi rfl rfl) rfl (Zx (Iz (y44.2.2)) (Zi rfl rfl) rfl (Zg nB rfl rfl (Zg (Iz (y44.2.1)) rfl rfl (Zg (Iz (y44.2.2)) rfl rfl (Z3 (Zq h (fun (s : Unit) e w => ∃ (g : Gh) , Fr gI wI g w ∧ e 1 = Str.v (y4.1) ∧ e 3 = p7 ∧ OB 2003 g w 24 (y6.1 : Tb) p7 ∧ e 6 = Str.v (oD.1) ∧ e 8 = bI ∧ OB 2008 g w 39 (rE.1 : Gg) bI ∧ e 11 = xE ∧ RV g.m w (vE.1 : List UInt8) xE ∧ e 14 = iE ∧ RV g.m w (y23.1 : List Z2) iE ∧ e 17 = lE ∧ RV g.m w (bE.1 : List Z2) lE ∧ e 19 = yB ∧ RV g.m w (nD.1 : List UInt8) yB ∧ e 22 = oB ∧ RV g.m w (zB.1 : List UInt8) oB ∧ e 25 = aE ∧ RV g.m w (mE.1 : List UInt8) aE ∧ e 28 = nB ∧ RV g.m w (y44.1 : List (List Str)) nB) (fun X68 cP cQ h => ?_) ?_))))))))
 ·obtain ⟨rF, hx, h⟩ := Z1 h
  refine G6 (fun e w => ∃ (g : Gh) , Fr gI wI g w ∧ e 1 = Str.v (y4.1) ∧ e 3 = p7 ∧ OB 2003 g w 24 (y6.1 : Tb) p7 ∧ e 6 = Str.v (oD.1) ∧ e 8 = bI ∧ OB 2008 g w 39 (rE.1 : Gg) bI ∧ e 11 = xE ∧ RV g.m w (vE.1 : List UInt8) xE ∧ e 14 = iE ∧ RV g.m w (y23.1 : List Z2) iE ∧ e 17 = lE ∧ RV g.m w (bE.1 : List Z2) lE ∧ e 19 = yB ∧ RV g.m w (nD.1 : List UInt8) yB ∧ e 22 = oB ∧ RV g.m w (zB.1 : List UInt8) oB ∧ e 25 = aE ∧ RV g.m w (mE.1 : List UInt8) aE ∧ e 28 = nB ∧ RV g.m w (y44.1 : List (List Str)) nB ∧ e 143 = .bool (rF)) (fun Q' hQ => ?_) (fun sV oX hR => ?_)
  ·replace h := hx
   clear hx;refine Za (Zn (Iz (y4.2)) rfl rfl (Gd (.bool ((y4.2 != (0 : Int)))) rfl rfl rfl rfl (Zn (.bool ((y4.2 != (0 : Int)))) rfl rfl ?_)));rcases Zt h with ⟨lI, h⟩ | ⟨lI, h⟩
   ·cases h
   ·refine Zy (Iz (y6.2.2)) (Zk rfl) rfl rfl lI rfl (Zy (.bool ((y6.2.2 != (0 : Int)))) (Gp rfl rfl rfl) rfl rfl lI rfl (Zx (.bool ((y6.2.2 != (0 : Int)))) (Zl (b := (y4.2 != (0 : Int))) rfl (Gz lI rfl)) rfl (Zn (.bool ((y6.2.2 != (0 : Int)))) rfl rfl ?_)))
    rcases Zt h with ⟨mI, h⟩ | ⟨mI, h⟩
    ·cases h
    ·refine Zy (Iz (oD.2)) (Zk rfl) rfl rfl mI rfl (Zy (.bool ((oD.2 != (0 : Int)))) (Gp rfl rfl rfl) rfl rfl mI rfl (Zx (.bool ((oD.2 != (0 : Int)))) (Zl (b := (y6.2.2 != (0 : Int))) rfl (Gz mI rfl)) rfl (Zn (.bool ((oD.2 != (0 : Int)))) rfl rfl ?_)))
     rcases Zt h with ⟨nI, h⟩ | ⟨nI, h⟩
     ·cases h
     ·refine Zy (Iz (rE.2.2)) (Zk rfl) rfl rfl nI rfl (Zy (.bool ((rE.2.2 != (0 : Int)))) (Gp rfl rfl rfl) rfl rfl nI rfl (Zx (.bool ((rE.2.2 != (0 : Int)))) (Zl (b := (oD.2 != (0 : Int))) rfl (Gz nI rfl)) rfl (Zn (.bool ((rE.2.2 != (0 : Int)))) rfl rfl ?_)))
      rcases Zt h with ⟨pI, h⟩ | ⟨pI, h⟩
      ·cases h
      ·refine Zy (Iz (vE.2.2)) (Zk rfl) rfl rfl pI rfl (Zy (.bool ((vE.2.2 != (0 : Int)))) (Gp rfl rfl rfl) rfl rfl pI rfl (Zx (.bool ((vE.2.2 != (0 : Int)))) (Zl (b := (rE.2.2 != (0 : Int))) rfl (Gz pI rfl)) rfl (Zn (.bool ((vE.2.2 != (0 : Int)))) rfl rfl ?_)))
       rcases Zt h with ⟨qI, h⟩ | ⟨qI, h⟩
       ·cases h
       ·refine Zy (Iz (y23.2.2)) (Zk rfl) rfl rfl qI rfl (Zy (.bool ((y23.2.2 != (0 : Int)))) (Gp rfl rfl rfl) rfl rfl qI rfl (Zx (.bool ((y23.2.2 != (0 : Int)))) (Zl (b := (vE.2.2 != (0 : Int))) rfl (Gz qI rfl)) rfl (Zn (.bool ((y23.2.2 != (0 : Int)))) rfl rfl ?_)))
        rcases Zt h with ⟨sI, h⟩ | ⟨sI, h⟩
        ·cases h
        ·refine Zy (Iz (bE.2)) (Zk rfl) rfl rfl sI rfl (Zy (.bool ((bE.2 != (0 : Int)))) (Gp rfl rfl rfl) rfl rfl sI rfl (Zx (.bool ((bE.2 != (0 : Int)))) (Zl (b := (y23.2.2 != (0 : Int))) rfl (Gz sI rfl)) rfl (Zn (.bool ((bE.2 != (0 : Int)))) rfl rfl ?_)))
         rcases Zt h with ⟨jJ, h⟩ | ⟨jJ, h⟩
         ·cases h
         ·refine Zy (Iz (nD.2.2)) (Zk rfl) rfl rfl jJ rfl (Zy (.bool ((nD.2.2 != (0 : Int)))) (Gp rfl rfl rfl) rfl rfl jJ rfl (Zx (.bool ((nD.2.2 != (0 : Int)))) (Zl (b := (bE.2 != (0 : Int))) rfl (Gz jJ rfl)) rfl (Zn (.bool ((nD.2.2 != (0 : Int)))) rfl rfl ?_)))
          rcases Zt h with ⟨kJ, h⟩ | ⟨kJ, h⟩
          ·cases h
          ·refine Zy (Iz (zB.2.2)) (Zk rfl) rfl rfl kJ rfl (Zy (.bool ((zB.2.2 != (0 : Int)))) (Gp rfl rfl rfl) rfl rfl kJ rfl (Zx (.bool ((zB.2.2 != (0 : Int)))) (Zl (b := (nD.2.2 != (0 : Int))) rfl (Gz kJ rfl)) rfl (Zn (.bool ((zB.2.2 != (0 : Int)))) rfl rfl ?_)))
           rcases Zt h with ⟨lJ, h⟩ | ⟨lJ, h⟩
           ·cases h
           ·refine Zy (Iz (mE.2.2)) (Zk rfl) rfl rfl lJ rfl (Zy (.bool ((mE.2.2 != (0 : Int)))) (Gp rfl rfl rfl) rfl rfl lJ rfl (Zx (.bool ((mE.2.2 != (0 : Int)))) (Zl (b := (zB.2.2 != (0 : Int))) rfl (Gz lJ rfl)) rfl (Zn (.bool ((mE.2.2 != (0 : Int)))) rfl rfl ?_)))
            rcases Zt h with ⟨oJ, h⟩ | ⟨oJ, h⟩
            ·cases h
            ·refine Zy (Iz (y44.2.2)) (Zk rfl) rfl rfl oJ rfl (Zy (.bool ((y44.2.2 != (0 : Int)))) (Gp rfl rfl rfl) rfl rfl oJ rfl (Zx (.bool ((y44.2.2 != (0 : Int)))) (Zl (b := (mE.2.2 != (0 : Int))) rfl (Gz oJ rfl)) rfl (Zb ?_)))
             obtain rfl := sinj h;exact hQ _ _ ⟨uT, hfr, rfl, rfl, b8, rfl, rfl, b16, rfl, n8, rfl, n9, rfl, aB, rfl, mB, rfl, cC, rfl, vF, rfl, vN, rfl⟩
  ·clear hx
   obtain ⟨xT, hfr, xN, yN, zN, aO, bO, cO, yL, zL, aM, cM, dM, eM, iM, jM, kM, pM, qM, rM, eN, gN, dI⟩ := hR;rcases Zt h with ⟨aK, h⟩ | ⟨aK, h⟩
   ·refine Ta (Eq.trans (show ev _ _ = .bool (rF) from dI) (congrArg Value.bool aK)) (Z5 (Zg (.bool false) rfl rfl (Z3 (Z9 (Gf ?_)))))
    obtain rfl := sinj h;exact G0 rfl rfl (rq (.bool false)) ⟨_, hfr, rfl⟩
   ·refine G1 (Eq.trans (show ev _ _ = .bool (rF) from dI) (congrArg Value.bool aK)) ?_
    exact Zu (Zd (cQ () _ _ ⟨xT, hfr, xN, yN, zN, aO, bO, cO, yL, zL, aM, cM, dM, eM, iM, jM, kM, pM, qM, rM, eN, gN⟩ h))
 ·rintro _ tV pX ⟨yT, hfr, dO, eO, gO, jO, kO, lO, iN, jN, sJ, qH, vJ, sH, kN, tH, lN, uH, mN, yH, nN, zH⟩ h
  refine Zq h (fun (s : Unit) e w => ∃ (g : Gh) , Fr gI wI g w ∧ e 19 = yB ∧ RV g.m w (nD.1 : List UInt8) yB ∧ e 22 = oB ∧ RV g.m w (zB.1 : List UInt8) oB ∧ e 25 = aE ∧ RV g.m w (mE.1 : List UInt8) aE ∧ e 28 = nB ∧ RV g.m w (y44.1 : List (List Str)) nB) (fun X274 nL mO h => ?_) ?_
  ·obtain ⟨yE, hx, h⟩ := Z1 h
   refine G6 (fun e w => ∃ (g : Gh) , Fr gI wI g w ∧ e 19 = yB ∧ RV g.m w (nD.1 : List UInt8) yB ∧ e 22 = oB ∧ RV g.m w (zB.1 : List UInt8) oB ∧ e 25 = aE ∧ RV g.m w (mE.1 : List UInt8) aE ∧ e 28 = nB ∧ RV g.m w (y44.1 : List (List Str)) nB ∧ e 192 = .bool (yE)) (fun Q' hQ => ?_) (fun uU uV hR => ?_)
   ·replace h := hx
    clear hx;rcases Zt h with ⟨xF, h⟩ | ⟨xF, h⟩
    ·cases h
    ·refine H4 (x := .tmp 3) isAgg24 sizeOf24 gO fun oN dQ nO => ?_
     obtain ⟨cG, oO, h⟩ := Z1 h;rcases Zt h with ⟨nH, h⟩ | ⟨nH, h⟩
     ·cases h
     ·rcases Zt h with ⟨iG, h⟩ | ⟨iG, h⟩
      ·cases h
      ·refine H4 (x := .tmp 8) isAgg39 sizeOf39 lO fun pN eQ pO => ?_
       obtain ⟨kH, qO, h⟩ := Z1 h;obtain ⟨eG, rO, h⟩ := Z1 h;rcases Zt h with ⟨jG, h⟩ | ⟨jG, h⟩
       ·cases h
       ·obtain ⟨gG, sO, h⟩ := Z1 h
        rcases Zt h with ⟨zG, h⟩ | ⟨zG, h⟩
        ·cases h
        ·rcases Zt h with ⟨yF, h⟩ | ⟨yF, h⟩
         ·cases h
         ·obtain ⟨mG, cK, h⟩ := Z1 h
          have qN := Gn qH cK;have gQ := Zm (G8).1 qN;refine Zs (x := .tmp 177) isAgg3 sizeOf3 gQ fun vV iQ tO => ?_;obtain rfl := Zj.1 iQ;rcases Zt h with ⟨cH, h⟩ | ⟨cH, h⟩
          ·cases h
          ·rcases Zt h with ⟨aG, h⟩ | ⟨aG, h⟩
           ·cases h
           ·obtain ⟨pH, dK, h⟩ := Z1 h
            have rN := Gn sH dK;have jQ := Zm (Wn).1 rN;refine Zs (x := .tmp 189) isAgg3 sizeOf3 jQ fun xV kQ uO => ?_;obtain rfl := Zj.1 kQ;refine T6 (g := yT) (n := 49) [(4, (fun v g w => RV g.m w ([(3 : Int), (4 : Int)] : List Int) v ∧ OS 3148 g w 3 ([(3 : Int), (4 : Int)] : List Int) v ∧ Hl v)), (6, (fun v g w => v = .bool (cG))), (15, (fun v g w => RV g.m w kH v)), (16, (fun v g w => v = .bool (eG))), (21, (fun v g w => RV g.m w ([(1 : UInt8), (2 : UInt8), (3 : UInt8), (0 : UInt8), (0 : UInt8), (5 : UInt8), (11 : UInt8), (44 : UInt8)] : List UInt8) v ∧ OS 3165 g w 5 ([(1 : UInt8), (2 : UInt8), (3 : UInt8), (0 : UInt8), (0 : UInt8), (5 : UInt8), (11 : UInt8), (44 : UInt8)] : List UInt8) v ∧ Hl v)), (22, (fun v g w => v = .bool (gG)))] [0, 1, 2, 3, 4, 5, 6, 7, 8, 9, 10, 11, 12, 13, 14, 15, 16, 17, 18, 19, 20, 21, 22, 23, 24, 25, 26, 27, 28, 29, 30, 31, 32, 33, 34, 35, 36, 37, 38, 39, 40, 41, 42, 43, 44, 45, 46, 47, 48] rfl mixed (by kernel_rfl) (⟨fun _ => Xc Dx (Xc Mh (Ha _)), fun _ => Ha _, fun _ => Dx, fun _ => Ha _, fun _ => Xc Dx (Xc Mh (Ha _)), fun _ => Ha _, trivial⟩) (Z0 (Str.v (y4.1)) rfl rfl (Zk dO) (Z0 (.bool ((!((y4.1).b == ((⟨[120, 120, 46, 10, 46, 46, 120, 10]⟩ : Str)).b)))) rfl rfl (W2 rfl rfl rfl) (Z0 (.bool ((!((y4.1).b == ((⟨[120, 120, 46, 10, 46, 46, 120, 10]⟩ : Str)).b)))) rfl rfl (Zk rfl) (Ti (c := oN) rfl rfl (.yes2 rfl rfl xF) (fun _ _ h => ⟨h.ch, fun b hb _ => h.below.block b hb⟩) nO eO (Hn (φ := fun v g w => RV g.m w ([(3 : Int), (4 : Int)] : List Int) v ∧ OS 3148 g w 3 ([(3 : Int), (4 : Int)] : List Int) v ∧ Hl v) rfl rfl (.yes2 rfl rfl xF) (fun g w hd => Ga (g := g) 3148 (xs := ([(3 : Int), (4 : Int)] : List Int)) (vs := [Iz (3), Iz (4)]) underlying22 sizeOf3 zeroValue3 rfl rfl (.cons rfl (.cons rfl .nil)) (RVs.cons (Zj.2 rfl) (RVs.cons (Zj.2 rfl) RVs.nil)) rfl rfl fun g' w' v hs o r hxt hfl => ⟨g', hxt, r, o, hfl⟩) (fun lD hv => ?_))))));clear hv;apply Exists.elim (show ∃ v, v = (Value.agg (Qf [[Iz 0], [.slice none 0 0]] [(0, Iz (3)), (1, lD)]).flatten.toArray) from ⟨_, rfl⟩);intro pJ qJ;refine Yx (c := pJ) rfl rfl (.yes2 rfl rfl xF) (fun _ _ hd => qJ ▸ T7 (vs := [(0, Iz (3)), (1, lD)]) [[Iz 0], [.slice none 0 0]] Px rfl rfl (.cons rfl (.cons rfl .nil)) ⟨⟨_, rfl, rfl⟩, ⟨⟨_, rfl, T4 (Cq (A := fun g w => RV g.m w ([(3 : Int), (4 : Int)] : List Int) lD ∧ OS 3148 g w 3 ([(3 : Int), (4 : Int)] : List Int) lD ∧ Hl lD) 4 rfl rfl (Ju hd)).1⟩, trivial⟩⟩) (Hn (φ := fun v g w => v = .bool (cG)) rfl rfl (.yes2 rfl rfl xF) (fun g w hd => Zp (g := g) (vs := [oN, pJ]) en18 (.cons rfl (.cons rfl .nil)) (wk18 (dQ.ext hd.1) (show RV _ _ (⟨(3 : Int), ([(3 : Int), (4 : Int)] : List Int)⟩ : Tb) pJ from qJ ▸ Qq rfl (Tq (rfl) (Qv (RV.cells (Cq (A := fun g w => RV g.m w ([(3 : Int), (4 : Int)] : List Int) lD ∧ OS 3148 g w 3 ([(3 : Int), (4 : Int)] : List Int) lD ∧ Hl lD) 4 rfl rfl (hop 5 rfl rfl (Ju hd))).1)))) oO) fun g' w' v hs hr => ⟨g', hs, hr⟩) (fun yV hv => ?_));obtain ⟨_, _, _, rfl⟩ := hv;refine L_y (.bool (!cG)) rfl rfl rfl rfl xF (Qj rfl) (Z0 (.bool (!cG)) rfl rfl (Zl (b := (!((y4.1).b == ((⟨[120, 120, 46, 10, 46, 46, 120, 10]⟩ : Str)).b))) rfl (Gz xF rfl)) (Z0 (.bool (!cG)) rfl rfl (Zk rfl) (L_y (Str.v (oD.1)) rfl rfl rfl rfl nH (Zk jO) (L_y (.bool ((!((oD.1).b == ((⟨[109, 105, 108, 108, 10, 116, 105, 101, 32, 112, 108, 97, 105, 110, 32, 50, 32, 48, 32, 49, 32, 48, 10, 99, 104, 97, 105, 110, 32, 116, 119, 105, 108, 108, 32, 50, 10, 99, 97, 114, 100, 32, 48, 32, 120, 46, 10, 116, 117, 114, 110, 101, 100, 32, 63, 32, 120, 46, 10, 101, 110, 100, 32, 53, 32, 52, 53, 49, 51, 10]⟩ : Str)).b)))) rfl rfl rfl rfl nH (W2 rfl rfl rfl) (Z0 (.bool ((!((oD.1).b == ((⟨[109, 105, 108, 108, 10, 116, 105, 101, 32, 112, 108, 97, 105, 110, 32, 50, 32, 48, 32, 49, 32, 48, 10, 99, 104, 97, 105, 110, 32, 116, 119, 105, 108, 108, 32, 50, 10, 99, 97, 114, 100, 32, 48, 32, 120, 46, 10, 116, 117, 114, 110, 101, 100, 32, 63, 32, 120, 46, 10, 101, 110, 100, 32, 53, 32, 52, 53, 49, 51, 10]⟩ : Str)).b)))) rfl rfl (Zl (b := (!cG)) rfl (Gz nH rfl)) (Z0 (.bool ((!((oD.1).b == ((⟨[109, 105, 108, 108, 10, 116, 105, 101, 32, 112, 108, 97, 105, 110, 32, 50, 32, 48, 32, 49, 32, 48, 10, 99, 104, 97, 105, 110, 32, 116, 119, 105, 108, 108, 32, 50, 10, 99, 97, 114, 100, 32, 48, 32, 120, 46, 10, 116, 117, 114, 110, 101, 100, 32, 63, 32, 120, 46, 10, 101, 110, 100, 32, 53, 32, 52, 53, 49, 51, 10]⟩ : Str)).b)))) rfl rfl (Zk rfl) (Ti (c := pN) rfl rfl (.yes2 rfl rfl iG) (fun _ _ h => ⟨h.ch, fun b hb _ => h.below.block b hb⟩) pO kO (Hn (φ := fun v g w => RV g.m w kH v) rfl rfl (.yes2 rfl rfl iG) (fun g w hd => Zp (g := g) (vs := []) en52 .nil (wk52  qO) fun g' w' v hs hr => ⟨g', hs, hr⟩) (fun bK hv => ?_)))))))))
            obtain ⟨_, _, _, rq374⟩ := hv;refine Hn (φ := fun v g w => v = .bool (eG)) rfl rfl (.yes2 rfl rfl iG) (fun g w hd => Zp (g := g) (vs := [pN, bK]) en24 (.cons rfl (.cons rfl .nil)) (wk24 (eQ.ext hd.1) (Cq (A := fun g w => RV g.m w kH bK) 15 rfl rfl (Ju hd)) rO) fun g' w' v hs hr => ⟨g', hs, hr⟩) (fun zV hv => ?_);obtain ⟨_, _, _, rfl⟩ := hv;refine L_y (.bool (!eG)) rfl rfl rfl rfl iG (Qj rfl) (Z0 (.bool (!eG)) rfl rfl (Zl (b := (!((oD.1).b == ((⟨[109, 105, 108, 108, 10, 116, 105, 101, 32, 112, 108, 97, 105, 110, 32, 50, 32, 48, 32, 49, 32, 48, 10, 99, 104, 97, 105, 110, 32, 116, 119, 105, 108, 108, 32, 50, 10, 99, 97, 114, 100, 32, 48, 32, 120, 46, 10, 116, 117, 114, 110, 101, 100, 32, 63, 32, 120, 46, 10, 101, 110, 100, 32, 53, 32, 52, 53, 49, 51, 10]⟩ : Str)).b))) rfl (Gz iG rfl)) (Z0 (.bool (!eG)) rfl rfl (Zk rfl) (L_y xE rfl rfl rfl rfl jG (Zk iN) (Hn (φ := fun v g w => RV g.m w ([(1 : UInt8), (2 : UInt8), (3 : UInt8), (0 : UInt8), (0 : UInt8), (5 : UInt8), (11 : UInt8), (44 : UInt8)] : List UInt8) v ∧ OS 3165 g w 5 ([(1 : UInt8), (2 : UInt8), (3 : UInt8), (0 : UInt8), (0 : UInt8), (5 : UInt8), (11 : UInt8), (44 : UInt8)] : List UInt8) v ∧ Hl v) rfl rfl (.yes2 rfl rfl jG) (fun g w hd => Ga (g := g) 3165 (xs := ([(1 : UInt8), (2 : UInt8), (3 : UInt8), (0 : UInt8), (0 : UInt8), (5 : UInt8), (11 : UInt8), (44 : UInt8)] : List UInt8)) (vs := [.int .u8 (UInt8.toNat 1), .int .u8 (UInt8.toNat 2), .int .u8 (UInt8.toNat 3), .int .u8 (UInt8.toNat 0), .int .u8 (UInt8.toNat 0), .int .u8 (UInt8.toNat 5), .int .u8 (UInt8.toNat 11), .int .u8 (UInt8.toNat 44)]) underlying50 sizeOf5 zeroValue5 rfl rfl (.cons rfl (.cons rfl (.cons rfl (.cons rfl (.cons rfl (.cons rfl (.cons rfl (.cons rfl .nil)))))))) (RVs.cons (Tz.2 rfl) (RVs.cons (Tz.2 rfl) (RVs.cons (Tz.2 rfl) (RVs.cons (Tz.2 rfl) (RVs.cons (Tz.2 rfl) (RVs.cons (Tz.2 rfl) (RVs.cons (Tz.2 rfl) (RVs.cons (Tz.2 rfl) RVs.nil)))))))) rfl rfl fun g' w' v hs o r hxt hfl => ⟨g', hxt, r, o, hfl⟩) (fun eF hv => ?_)))));clear hv;refine Hn (φ := fun v g w => v = .bool (gG)) rfl rfl (.yes2 rfl rfl jG) (fun g w hd => Zp (g := g) (vs := [xE, eF]) en36 (.cons rfl (.cons rfl .nil)) (wk36 (jN.ext hd.1) (Cq (A := fun g w => RV g.m w ([(1 : UInt8), (2 : UInt8), (3 : UInt8), (0 : UInt8), (0 : UInt8), (5 : UInt8), (11 : UInt8), (44 : UInt8)] : List UInt8) eF ∧ OS 3165 g w 5 ([(1 : UInt8), (2 : UInt8), (3 : UInt8), (0 : UInt8), (0 : UInt8), (5 : UInt8), (11 : UInt8), (44 : UInt8)] : List UInt8) eF ∧ Hl eF) 21 rfl rfl (Ju hd)).1 sO) fun g' w' v hs hr => ⟨g', hs, hr⟩) (fun aW hv => ?_);obtain ⟨_, _, _, rfl⟩ := hv;refine L_y (.bool (!gG)) rfl rfl rfl rfl jG (Qj rfl) (Z0 (.bool (!gG)) rfl rfl (Zl (b := (!eG)) rfl (Gz jG rfl)) (Z0 (.bool (!gG)) rfl rfl (Zk rfl) (L_y iE rfl rfl rfl rfl zG (Zk sJ) (L_y (Iz ((y23.1).length : Int)) rfl rfl rfl rfl zG (G3 underlying49 rfl qH) (L_y (.bool ((((y23.1).length : Int) != (1 : Int)))) rfl rfl rfl rfl zG (Gp rfl rfl rfl) (Z0 (.bool ((((y23.1).length : Int) != (1 : Int)))) rfl rfl (Zl (b := (!gG)) rfl (Gz zG rfl)) (Z0 (.bool ((((y23.1).length : Int) != (1 : Int)))) rfl rfl (Zk rfl) (L_y iE rfl rfl rfl rfl yF (Zk sJ) (L_y (Gq iE (0 : Int) 5) rfl rfl rfl rfl yF (Zh (α := Z2) underlying49 sizeOf63 rfl qH rfl cK) (L_y (Gc (Gq iE (0 : Int) 5) 0) rfl rfl rfl rfl yF (Zc W1 rfl (PT.ptr qN)) (Ti (c := Iz ((mG).Day)) rfl rfl (.yes2 rfl rfl yF) (fun _ _ h => h.ch) tO rfl (L_y (.bool (((mG).Day != (258 : Int)))) rfl rfl rfl rfl yF (Gp rfl rfl rfl) (Z0 (.bool (((mG).Day != (258 : Int)))) rfl rfl (Zl (b := (((y23.1).length : Int) != (1 : Int))) rfl (Gz yF rfl)) (Z0 (.bool (((mG).Day != (258 : Int)))) rfl rfl (Zk rfl) (L_y lE rfl rfl rfl rfl cH (Zk vJ) (L_y (Iz ((bE.1).length : Int)) rfl rfl rfl rfl cH (G3 underlying49 rfl sH) ?_))))))))))))))));refine L_y (.bool ((((bE.1).length : Int) != (1 : Int)))) rfl rfl rfl rfl cH (Gp rfl rfl rfl) (Z0 (.bool ((((bE.1).length : Int) != (1 : Int)))) rfl rfl (Zl (b := ((mG).Day != (258 : Int))) rfl (Gz cH rfl)) (Z0 (.bool ((((bE.1).length : Int) != (1 : Int)))) rfl rfl (Zk rfl) (L_y lE rfl rfl rfl rfl aG (Zk vJ) (L_y (Gq lE (0 : Int) 5) rfl rfl rfl rfl aG (Zh (α := Z2) underlying49 sizeOf63 rfl sH rfl dK) (L_y (Gc (Gq lE (0 : Int) 5) 4) rfl rfl rfl rfl aG (Zc Uq rfl (PT.ptr rN)) (Ti (c := Iz ((pH).Picks)) rfl rfl (.yes2 rfl rfl aG) (fun _ _ h => h.ch) uO rfl (L_y (.bool (((pH).Picks != (5 : Int)))) rfl rfl rfl rfl aG (Gp rfl rfl rfl) (Z0 (.bool (((pH).Picks != (5 : Int)))) rfl rfl (Zl (b := (((bE.1).length : Int) != (1 : Int))) rfl (Gz aG rfl)) (Y7 fun lQ bW hall => ?_)))))))))
            have hs := hall.1;have hfr := hfr.ext hs;have tH := tH.ext hs;have uH := uH.ext hs;have yH := yH.ext hs;have zH := zH.ext hs;have cW := (Kd (A := fun g w => RV g.m w ([(3 : Int), (4 : Int)] : List Int) lD ∧ OS 3148 g w 3 ([(3 : Int), (4 : Int)] : List Int) lD ∧ Hl lD) 4 rfl hall).1;have o410 := (Kd (A := fun g w => RV g.m w ([(3 : Int), (4 : Int)] : List Int) lD ∧ OS 3148 g w 3 ([(3 : Int), (4 : Int)] : List Int) lD ∧ Hl lD) 4 rfl hall).2.1;have dW := (show RV _ _ (⟨(3 : Int), ([(3 : Int), (4 : Int)] : List Int)⟩ : Tb) pJ from qJ ▸ Qq rfl (Tq (rfl) (Qv (RV.cells (Kd (A := fun g w => RV g.m w ([(3 : Int), (4 : Int)] : List Int) lD ∧ OS 3148 g w 3 ([(3 : Int), (4 : Int)] : List Int) lD ∧ Hl lD) 4 rfl hall).1))));have eW := (Kd (A := fun g w => RV g.m w kH bK) 15 rfl hall);have gW := (Kd (A := fun g w => RV g.m w ([(1 : UInt8), (2 : UInt8), (3 : UInt8), (0 : UInt8), (0 : UInt8), (5 : UInt8), (11 : UInt8), (44 : UInt8)] : List UInt8) eF ∧ OS 3165 g w 5 ([(1 : UInt8), (2 : UInt8), (3 : UInt8), (0 : UInt8), (0 : UInt8), (5 : UInt8), (11 : UInt8), (44 : UInt8)] : List UInt8) eF ∧ Hl eF) 21 rfl hall).1;have o427 := (Kd (A := fun g w => RV g.m w ([(1 : UInt8), (2 : UInt8), (3 : UInt8), (0 : UInt8), (0 : UInt8), (5 : UInt8), (11 : UInt8), (44 : UInt8)] : List UInt8) eF ∧ OS 3165 g w 5 ([(1 : UInt8), (2 : UInt8), (3 : UInt8), (0 : UInt8), (0 : UInt8), (5 : UInt8), (11 : UInt8), (44 : UInt8)] : List UInt8) eF ∧ Hl eF) 21 rfl hall).2.1;clear hs hall;refine Zb ?_;obtain rfl := sinj h;exact hQ _ _ ⟨lQ, hfr, kN, tH, lN, uH, mN, yH, nN, zH, rfl⟩
   ·clear hx
    obtain ⟨mQ, hfr, qK, sK, tK, uK, vK, xK, yK, zK, aI⟩ := hR;rcases Zt h with ⟨rJ, h⟩ | ⟨rJ, h⟩
    ·refine Ta (Eq.trans (show ev _ _ = .bool (yE) from aI) (congrArg Value.bool rJ)) (Z5 (Zg (.bool false) rfl rfl (Z3 (Z9 (Gf ?_)))))
     obtain rfl := sinj h;exact G0 rfl rfl (rq (.bool false)) ⟨_, hfr, rfl⟩
    ·refine G1 (Eq.trans (show ev _ _ = .bool (yE) from aI) (congrArg Value.bool rJ)) ?_
     exact Zu (Zd (mO () _ _ ⟨mQ, hfr, qK, sK, tK, uK, vK, xK, yK, zK⟩ h))
  ·rintro _ vU iW ⟨nQ, hfr, aL, lH, bL, sF, dL, oE, kG, lB⟩ h
   obtain ⟨yG, hx, h⟩ := Z1 h;refine G6 (fun e w => ∃ (g : Gh) , Fr gI wI g w ∧ e 0 = .bool (yG)) (fun Q' hQ => ?_) (fun xU jW hR => ?_)
   ·replace h := hx
    clear hx;refine Za (Zo dL rfl (Z4 rfl (Ga (g := nQ) 3194 (xs := ([] : List UInt8)) (vs := []) underlying50 sizeOf5 zeroValue5 rfl rfl .nil RVs.nil rfl rfl fun oQ kW lW hs o484 pQ hxt hfl => ?_)));have hfr := hfr.stp hs;have lH := lH.stp hs;have sF := sF.stp hs;have oE := oE.stp hs;have lB := lB.stp hs;refine Zo aL rfl ?_;obtain ⟨iL, vO, h⟩ := Z1 h;refine Z4 rfl (Qd (g := oQ) (i := 3194) underlying50 Yq rfl rfl o484 pQ rfl lH vO fun qQ mW nW hs o485 rQ _ => ?_);have hfr := hfr.stp hs;have sF := sF.stp hs;have oE := oE.stp hs;have lB := lB.stp hs;refine Zo bL rfl ?_;obtain ⟨jL, xO, h⟩ := Z1 h;refine Z4 rfl (Qd (g := qQ) (i := 3194) underlying50 Yq rfl rfl o485 rQ rfl sF xO fun sQ oW tQ hs o487 uQ _ => ?_);have hfr := hfr.stp hs;have oE := oE.stp hs;have lB := lB.stp hs;obtain ⟨iI, yO, h⟩ := Z1 h;refine Z4 rfl (Zp (g := sQ) (vs := [aE, tQ]) en36 (.cons rfl (.cons rfl .nil)) (wk36 oE uQ yO) fun mH yU pW hs hr => ?_);have hfr := hfr.ext hs;have lB := lB.ext hs;subst hr;refine Zn (.bool (iI)) rfl rfl ?_;rcases Zt h with ⟨gH, h⟩ | ⟨gH, h⟩
    ·refine Zy nB (Zk kG) rfl rfl gH rfl (Zy (Iz ((y44.1).length : Int)) (G3 underlying72 rfl lB) rfl rfl gH rfl (Zy (.bool ((((y44.1).length : Int) == (16 : Int)))) (Gp rfl rfl rfl) rfl rfl gH rfl (Zx (.bool ((((y44.1).length : Int) == (16 : Int)))) (Zl (b := iI) rfl (Tc gH rfl)) rfl (Zn (.bool ((((y44.1).length : Int) == (16 : Int)))) rfl rfl ?_))))
     rcases Zt h with ⟨bG, h⟩ | ⟨bG, h⟩
     ·refine Zy nB (Zk kG) rfl rfl bG rfl ?_
      obtain ⟨lG, lK, h⟩ := Z1 h;refine Zy (Gq nB (0 : Int) 1) (Zh (α := List Str) underlying72 sizeOf104 rfl lB rfl lK) rfl rfl bG rfl ?_;have vQ := Gn lB lK;refine Ze (.yes2 rfl rfl bG) rfl (Z7 (g := mH) isAgg104 sizeOf104 rfl vQ fun qW xQ => (Zy (Iz ((lG).length : Int)) (G3 underlying104 rfl xQ) rfl rfl bG rfl (Zy (.bool ((((lG).length : Int) == (5 : Int)))) (Gp rfl rfl rfl) rfl rfl bG rfl (Zx (.bool ((((lG).length : Int) == (5 : Int)))) (Zl (b := (((y44.1).length : Int) == (16 : Int))) rfl (Tc bG rfl)) rfl (Zn (.bool ((((lG).length : Int) == (5 : Int)))) rfl rfl ?_)))));rcases Zt h with ⟨zE, h⟩ | ⟨zE, h⟩
      ·refine Zy nB (Zk kG) rfl rfl zE rfl ?_
       obtain ⟨lL, mK, h⟩ := Z1 h;refine Zy (Gq nB (0 : Int) 1) (Zh (α := List Str) underlying72 sizeOf104 rfl lB rfl mK) rfl rfl zE rfl ?_;have yQ := Gn lB mK;refine Ze (.yes2 rfl rfl zE) rfl (Z7 (g := mH) isAgg104 sizeOf104 rfl yQ fun zQ sN => ?_);obtain ⟨jH, nK, h⟩ := Z1 h;refine Zy (Gq zQ (0 : Int) 1) (Zh (α := Str) underlying104 sizeOf9 rfl sN rfl nK) rfl rfl zE rfl ?_;have aR := Gn sN nK;refine Ze (.yes2 rfl rfl zE) rfl (Z7 (g := mH) isAgg9 sizeOf9 rfl aR fun sW dR => ?_);obtain rfl := Ts.1 dR;refine Zy (.bool (((jH).b == ((⟨[120, 46, 120]⟩ : Str)).b))) (W2 rfl rfl rfl) rfl rfl zE rfl (Zx (.bool (((jH).b == ((⟨[120, 46, 120]⟩ : Str)).b))) (Zl (b := (((lG).length : Int) == (5 : Int))) rfl (Tc zE rfl)) rfl (Zn (.bool (((jH).b == ((⟨[120, 46, 120]⟩ : Str)).b))) rfl rfl ?_));rcases Zt h with ⟨cF, h⟩ | ⟨cF, h⟩
       ·refine Zy nB (Zk kG) rfl rfl cF rfl ?_
        obtain ⟨mL, oK, h⟩ := Z1 h;refine Zy (Gq nB (0 : Int) 1) (Zh (α := List Str) underlying72 sizeOf104 rfl lB rfl oK) rfl rfl cF rfl ?_;have eR := Gn lB oK;refine Ze (.yes2 rfl rfl cF) rfl (Z7 (g := mH) isAgg104 sizeOf104 rfl eR fun gR tN => ?_);obtain ⟨oH, pK, h⟩ := Z1 h;refine Zy (Gq gR (3 : Int) 1) (Zh (α := Str) underlying104 sizeOf9 rfl tN rfl pK) rfl rfl cF rfl ?_;have iR := Gn tN pK;refine Ze (.yes2 rfl rfl cF) rfl (Z7 (g := mH) isAgg9 sizeOf9 rfl iR fun tW jR => ?_);obtain rfl := Ts.1 jR;refine Zy (.bool (((oH).b == ((⟨[46, 120, 46]⟩ : Str)).b))) (W2 rfl rfl rfl) rfl rfl cF rfl (Zx (.bool (((oH).b == ((⟨[46, 120, 46]⟩ : Str)).b))) (Zl (b := ((jH).b == ((⟨[120, 46, 120]⟩ : Str)).b)) rfl (Tc cF rfl)) rfl (Zg (.bool (((oH).b == ((⟨[46, 120, 46]⟩ : Str)).b))) rfl rfl (Zb ?_)));obtain rfl := sinj h;exact hQ _ _ ⟨mH, hfr, rfl⟩
       ·cases h
      ·cases h
     ·cases h
    ·cases h
   ·clear hx
    obtain ⟨uW, hfr, uN⟩ := hR;refine Z9 ?_;obtain rfl := sinj h;exact G0 rfl rfl (show _ = .bool (yG) from uN) ⟨_, hfr, rfl⟩
noncomputable def f6 (x0 : List Z2) (x1 : List UInt8) : Option (Bool) :=
 jn (σ := Unit) (fun _ =>
  (f29 x0).bind fun lJ =>
  (f30 x1).bind fun oJ =>
  (f31 lJ).bind fun nB =>
  (f32 oJ).bind fun mB =>
  (f33 x0).bind fun yB =>
  (f34 x1).bind fun zB =>
  jn (σ := Unit) (fun _ =>
   jn (σ := Unit) (fun _ =>
    jn (σ := Unit) (fun _ =>
     (f13).bind fun jH =>
     some (jH)
     ) fun yH =>
    bif (mB.2.2 == (0 : Int)) then
     (f29 (mB.1)).bind fun pJ =>
     (f31 pJ).bind fun y140 =>
     Option.bind (α := Bool) (
      bif (y140.2.2 != (0 : Int)) then
       some (true)
      else
       (f36 (y140.1) x1).bind fun kH =>
       some ((!kH))
      ) fun mE =>
     bif mE then
      some (false)
     else
      yH ()
    else
     yH ()
    ) fun zH =>
   bif (nB.2.2 == (0 : Int)) then
    (f30 (nB.1)).bind fun y110 =>
    (f32 y110).bind fun cC =>
    Option.bind (α := Bool) (
     bif (cC.2.2 != (0 : Int)) then
      some (true)
     else
      (f35 (cC.1) x0).bind fun lH =>
      some ((!lH))
     ) fun oE =>
    bif oE then
     some (false)
    else
     zH ()
   else
    zH ()
   ) fun oL =>
  Option.bind (α := Bool) (
   (f35 lJ x0).bind fun cH =>
   bif (!cH) then
    some (true)
   else
    (f36 oJ x1).bind fun y80 =>
    bif (!y80) then
     some (true)
    else
     bif (nB.2.2 != yB.2.2) then
      some (true)
     else
      bif (nB.2.1 != yB.2.1) then
       some (true)
      else
       (f36 (nB.1) (yB.1)).bind fun kG =>
       bif (!kG) then
        some (true)
       else
        bif (mB.2.2 != zB.2.2) then
         some (true)
        else
         bif (mB.2.1 != zB.2.1) then
          some (true)
         else
          (f35 (mB.1) (zB.1)).bind fun dI =>
          some ((!dI))
   ) fun rE =>
  bif rE then
   some (false)
  else
   oL ()
  ) fun k7 =>
 Option.bind (α := Bool) (
  bif (decide (((x0).length : Int) > (110 : Int))) then
   some (true)
  else
   some ((decide (((x1).length : Int) > (900 : Int))))
  ) fun aG =>
 bif aG then
  (f13).bind fun iI =>
  some (iI)
 else
  k7 ()
theorem wk6 {gI : Gh} {wI : World} (hTI : Fa 0 1 4 5 gI.m wI) {x0 : List Z2} {x1 : List UInt8} {up0 : Value} (rp0 : RV gI.m wI x0 up0) {up1 : Value} (rp1 : RV gI.m wI x1 up1) {r : Bool} (h : f6 x0 x1 = some r) : Fn prog 6 #[up0, up1] gI wI (fun _ _ v => v = .bool (r)) := by
 unfold f6 at h;refine fnE func6 rfl rfl fun g0 hm hfr => ?_;have rp0 := RVc hm rp0;have rp1 := RVc hm rp1;show E _ 139 none _ _ _ _ _;refine Z5 (Zg (.bool false) rfl rfl (Z3 (Zq h (fun (s : Unit) e w => ∃ (g : Gh) , Fr gI wI g w ∧ e 0 = up0 ∧ RV g.m w (x0 : List Z2) up0 ∧ e 1 = up1 ∧ RV g.m w (x1 : List UInt8) up1) (fun X7 k7 hk7 h => ?_) ?_)))
 ·obtain ⟨aG, hx, h⟩ := Z1 h
  refine G6 (fun e w => ∃ (g : Gh) , Fr gI wI g w ∧ e 0 = up0 ∧ RV g.m w (x0 : List Z2) up0 ∧ e 1 = up1 ∧ RV g.m w (x1 : List UInt8) up1 ∧ e 32 = .bool (aG)) (fun Q' hQ => ?_) (fun dP w10 hR => ?_)
  ·replace h := hx
   clear hx;refine Za (Zn up0 rfl rfl (Zx (Iz ((x0).length : Int)) (G3 underlying49 rfl rp0) rfl (Gd (.bool ((decide (((x0).length : Int) > (110 : Int))))) rfl rfl rfl rfl (Zn (.bool ((decide (((x0).length : Int) > (110 : Int))))) rfl rfl ?_))));rcases Zt h with ⟨hc9, h⟩ | ⟨hc9, h⟩
   ·refine Zz rfl rfl hc9 rfl rfl (Zz rfl rfl hc9 rfl rfl (Zz rfl rfl hc9 rfl rfl (Zx (.bool true) (Zl (b := (decide (((x0).length : Int) > (110 : Int)))) rfl (Tc hc9 rfl)) rfl (Zb ?_))))
    obtain rfl := sinj h;exact hQ _ _ ⟨g0, hfr, rfl, rp0, rfl, rp1, rfl⟩
   ·refine Zy up1 (Zk rfl) rfl rfl hc9 rfl (Zy (Iz ((x1).length : Int)) (G3 underlying50 rfl rp1) rfl rfl hc9 rfl (Zy (.bool ((decide (((x1).length : Int) > (900 : Int))))) (Gp rfl rfl rfl) rfl rfl hc9 rfl (Zx (.bool ((decide (((x1).length : Int) > (900 : Int))))) (Zl (b := (decide (((x0).length : Int) > (110 : Int)))) rfl (Gz hc9 rfl)) rfl (Zb ?_))))
    obtain rfl := sinj h;exact hQ _ _ ⟨g0, hfr, rfl, rp0, rfl, rp1, rfl⟩
  ·clear hx
   obtain ⟨g10, hfr, mK, nK, oK, pK, sH⟩ := hR;rcases Zt h with ⟨aI, h⟩ | ⟨aI, h⟩
   ·refine Ta (Eq.trans (show ev _ _ = .bool (aG) from sH) (congrArg Value.bool aI)) (Z5 ?_)
    obtain ⟨iI, zL, h⟩ := Z1 h;refine Z4 rfl (Zp (g := g10) (vs := []) en13 .nil (wk13 (hTI.ch hfr.ch)  zL) fun oQ eP pQ hs hr => ?_);have hfr := hfr.ext hs;subst hr;refine Zg (.bool (iI)) rfl rfl (Z3 (Z9 (Gf ?_)));obtain rfl := sinj h;exact G0 rfl rfl (rq (.bool (iI))) ⟨_, hfr, rfl⟩
   ·refine G1 (Eq.trans (show ev _ _ = .bool (aG) from sH) (congrArg Value.bool aI)) ?_
    exact Zu (Zd (hk7 () _ _ ⟨g10, hfr, mK, nK, oK, pK⟩ h))
 ·rintro _ gP qQ ⟨rN, hfr, lD, n8, nD, n9⟩ h
  refine Z5 (Zo lD rfl ?_);obtain ⟨lJ, aM, h⟩ := Z1 h;refine Z4 rfl (Zp (g := rN) (vs := [up0]) en29 (.cons rfl .nil) (wk29 n8 aM) fun sN iP tH hs hr => ?_);have hfr := hfr.ext hs;have n8 := n8.ext hs;have n9 := n9.ext hs;have xF := hr;refine Zo nD rfl ?_;obtain ⟨oJ, cM, h⟩ := Z1 h;refine Z4 rfl (Zp (g := sN) (vs := [up1]) en30 (.cons rfl .nil) (wk30 n9 cM) fun tN jP uH hs hr => ?_);have hfr := hfr.ext hs;have n8 := n8.ext hs;have n9 := n9.ext hs;have xF := xF.ext hs;have yF := hr;refine Zg tH rfl rfl (Zg uH rfl rfl (Z3 (Z5 (Zn tH rfl rfl ?_))));obtain ⟨nB, hy20, h⟩ := Z1 h;refine Z4 rfl (Zp (g := tN) (vs := [tH]) en31 (.cons rfl .nil) (wk31 xF hy20) fun uN kP rQ hs hr => ?_);have hfr := hfr.ext hs;have n8 := n8.ext hs;have n9 := n9.ext hs;have xF := xF.ext hs;have yF := yF.ext hs;obtain ⟨aE, gO, jO, rfl, aB, rfl, rfl⟩ := hr;refine Zn (.tuple #[aE, Iz (nB.2.1), Iz (nB.2.2)]) rfl rfl (Zx aE (Zi rfl rfl) rfl (Zx (Iz (nB.2.1)) (Zi rfl rfl) rfl (Zx (Iz (nB.2.2)) (Zi rfl rfl) rfl (Zg aE rfl rfl (Zg (Iz (nB.2.1)) rfl rfl (Zg (Iz (nB.2.2)) rfl rfl (Z3 (Z5 (Zn uH rfl rfl ?_)))))))));obtain ⟨mB, dM, h⟩ := Z1 h;refine Z4 rfl (Zp (g := uN) (vs := [uH]) en32 (.cons rfl .nil) (wk32 yF dM) fun vN lP sQ hs hr => ?_);have hfr := hfr.ext hs;have n8 := n8.ext hs;have n9 := n9.ext hs;have xF := xF.ext hs;have yF := yF.ext hs;have aB := aB.ext hs;obtain ⟨oB, kO, lO, rfl, lB, rfl, rfl⟩ := hr;refine Zn (.tuple #[oB, Iz (mB.2.1), Iz (mB.2.2)]) rfl rfl (Zx oB (Zi rfl rfl) rfl (Zx (Iz (mB.2.1)) (Zi rfl rfl) rfl (Zx (Iz (mB.2.2)) (Zi rfl rfl) rfl (Zg oB rfl rfl (Zg (Iz (mB.2.1)) rfl rfl (Zg (Iz (mB.2.2)) rfl rfl (Z3 (Z5 (Zo lD rfl ?_)))))))));obtain ⟨yB, eM, h⟩ := Z1 h;refine Z4 rfl (Zp (g := vN) (vs := [up0]) en33 (.cons rfl .nil) (wk33 n8 eM) fun xN sP tQ hs hr => ?_);have hfr := hfr.ext hs;have n8 := n8.ext hs;have n9 := n9.ext hs;have xF := xF.ext hs;have yF := yF.ext hs;have aB := aB.ext hs;have lB := lB.ext hs;obtain ⟨gG, mO, nO, rfl, vE, rfl, rfl⟩ := hr;refine Zn (.tuple #[gG, Iz (yB.2.1), Iz (yB.2.2)]) rfl rfl (Zx gG (Zi rfl rfl) rfl (Zx (Iz (yB.2.1)) (Zi rfl rfl) rfl (Zx (Iz (yB.2.2)) (Zi rfl rfl) rfl (Zg gG rfl rfl (Zg (Iz (yB.2.1)) rfl rfl (Zg (Iz (yB.2.2)) rfl rfl (Z3 (Z5 (Zo nD rfl ?_)))))))));obtain ⟨zB, iM, h⟩ := Z1 h;refine Z4 rfl (Zp (g := xN) (vs := [up1]) en34 (.cons rfl .nil) (wk34 n9 iM) fun yN tP uQ hs hr => ?_);have hfr := hfr.ext hs;have n8 := n8.ext hs;have n9 := n9.ext hs;have xF := xF.ext hs;have yF := yF.ext hs;have aB := aB.ext hs;have lB := lB.ext hs;have vE := vE.ext hs;obtain ⟨iG, oO, pO, rfl, xE, rfl, rfl⟩ := hr;refine Zn (.tuple #[iG, Iz (zB.2.1), Iz (zB.2.2)]) rfl rfl (Zx iG (Zi rfl rfl) rfl (Zx (Iz (zB.2.1)) (Zi rfl rfl) rfl (Zx (Iz (zB.2.2)) (Zi rfl rfl) rfl (Zg iG rfl rfl (Zg (Iz (zB.2.1)) rfl rfl (Zg (Iz (zB.2.2)) rfl rfl (Z3 (Zq h (fun (s : Unit) e w => ∃ (g : Gh) , Fr gI wI g w ∧ e 0 = up0 ∧ RV g.m w (x0 : List Z2) up0 ∧ e 1 = up1 ∧ RV g.m w (x1 : List UInt8) up1 ∧ e 7 = aE ∧ RV g.m w (nB.1 : List UInt8) aE ∧ e 9 = Iz (nB.2.2) ∧ e 10 = oB ∧ RV g.m w (mB.1 : List Z2) oB ∧ e 12 = Iz (mB.2.2)) (fun X59 oL jM h => ?_) ?_))))))))
  ·obtain ⟨rE, hx, h⟩ := Z1 h
   refine G6 (fun e w => ∃ (g : Gh) , Fr gI wI g w ∧ e 0 = up0 ∧ RV g.m w (x0 : List Z2) up0 ∧ e 1 = up1 ∧ RV g.m w (x1 : List UInt8) up1 ∧ e 7 = aE ∧ RV g.m w (nB.1 : List UInt8) aE ∧ e 9 = Iz (nB.2.2) ∧ e 10 = oB ∧ RV g.m w (mB.1 : List Z2) oB ∧ e 12 = Iz (mB.2.2) ∧ e 103 = .bool (rE)) (fun Q' hQ => ?_) (fun uP vQ hR => ?_)
   ·replace h := hx
    clear hx;refine Za (Zn tH rfl rfl (Zo lD rfl ?_));obtain ⟨cH, kM, h⟩ := Z1 h;refine Z4 rfl (Zp (g := yN) (vs := [tH, up0]) en35 (.cons rfl (.cons rfl .nil)) (wk35 xF n8 kM) fun xL vP xQ hs hr => ?_);have hfr := hfr.ext hs;have n8 := n8.ext hs;have n9 := n9.ext hs;have yF := yF.ext hs;have aB := aB.ext hs;have lB := lB.ext hs;have vE := vE.ext hs;have xE := xE.ext hs;subst hr;refine Zx (.bool (!cH)) (Qj rfl) rfl (Zn (.bool (!cH)) rfl rfl ?_);rcases Zt h with ⟨yE, h⟩ | ⟨yE, h⟩
    ·refine Zz rfl rfl yE rfl rfl ?_
     iterate 3 refine Zz rfl rfl yE rfl rfl ?_
     refine Zx (.bool true) (Zl (b := (!cH)) rfl (Tc yE rfl)) rfl (Kk 32 rfl (Zb ?_));obtain rfl := sinj h;exact hQ _ _ ⟨xL, hfr, lD, n8, nD, n9, rfl, aB, rfl, rfl, lB, rfl, rfl⟩
    ·refine Zy uH (Zk rfl) rfl rfl yE rfl (Zy up1 (Zk nD) rfl rfl yE rfl ?_)
     obtain ⟨y80, pM, h⟩ := Z1 h;refine Ze (.yes2 rfl rfl yE) rfl (Zp (g := xL) (vs := [uH, up1]) en36 (.cons rfl (.cons rfl .nil)) (wk36 yF n9 pM) fun jI xP yQ hs hr => ?_);have hfr := hfr.ext hs;have n8 := n8.ext hs;have n9 := n9.ext hs;have aB := aB.ext hs;have lB := lB.ext hs;have vE := vE.ext hs;have xE := xE.ext hs;subst hr;refine Zy (.bool (!y80)) (Qj rfl) rfl rfl yE rfl (Zx (.bool (!y80)) (Zl (b := (!cH)) rfl (Gz yE rfl)) rfl (Zn (.bool (!y80)) rfl rfl ?_));rcases Zt h with ⟨zE, h⟩ | ⟨zE, h⟩
     ·refine Zz rfl rfl zE rfl rfl (Zz rfl rfl zE rfl rfl (Zz rfl rfl zE rfl rfl (Zx (.bool true) (Zl (b := (!y80)) rfl (Tc zE rfl)) rfl (Kk 27 rfl (Zb ?_)))))
      obtain rfl := sinj h;exact hQ _ _ ⟨jI, hfr, lD, n8, nD, n9, rfl, aB, rfl, rfl, lB, rfl, rfl⟩
     ·refine Zy (Iz (nB.2.2)) (Zk rfl) rfl rfl zE rfl (Zy (Iz (yB.2.2)) (Zk rfl) rfl rfl zE rfl (Zy (.bool ((nB.2.2 != yB.2.2))) (Gp rfl rfl rfl) rfl rfl zE rfl (Zx (.bool ((nB.2.2 != yB.2.2))) (Zl (b := (!y80)) rfl (Gz zE rfl)) rfl (Zn (.bool ((nB.2.2 != yB.2.2))) rfl rfl ?_))))
      rcases Zt h with ⟨cF, h⟩ | ⟨cF, h⟩
      ·refine Zz rfl rfl cF rfl rfl (Zz rfl rfl cF rfl rfl (Zz rfl rfl cF rfl rfl (Zx (.bool true) (Zl (b := (nB.2.2 != yB.2.2)) rfl (Tc cF rfl)) rfl (Kk 22 rfl (Zb ?_)))))
       obtain rfl := sinj h;exact hQ _ _ ⟨jI, hfr, lD, n8, nD, n9, rfl, aB, rfl, rfl, lB, rfl, rfl⟩
      ·refine Zy (Iz (nB.2.1)) (Zk rfl) rfl rfl cF rfl (Zy (Iz (yB.2.1)) (Zk rfl) rfl rfl cF rfl (Zy (.bool ((nB.2.1 != yB.2.1))) (Gp rfl rfl rfl) rfl rfl cF rfl (Zx (.bool ((nB.2.1 != yB.2.1))) (Zl (b := (nB.2.2 != yB.2.2)) rfl (Gz cF rfl)) rfl (Zn (.bool ((nB.2.1 != yB.2.1))) rfl rfl ?_))))
       rcases Zt h with ⟨eF, h⟩ | ⟨eF, h⟩
       ·refine Zz rfl rfl eF rfl rfl ?_
        iterate 3 refine Zz rfl rfl eF rfl rfl ?_
        refine Zx (.bool true) (Zl (b := (nB.2.1 != yB.2.1)) rfl (Tc eF rfl)) rfl (Kk 16 rfl (Zb ?_));obtain rfl := sinj h;exact hQ _ _ ⟨jI, hfr, lD, n8, nD, n9, rfl, aB, rfl, rfl, lB, rfl, rfl⟩
       ·refine Zy aE (Zk rfl) rfl rfl eF rfl (Zy gG (Zk rfl) rfl rfl eF rfl ?_)
        obtain ⟨kG, qM, h⟩ := Z1 h;refine Ze (.yes2 rfl rfl eF) rfl (Zp (g := jI) (vs := [aE, gG]) en36 (.cons rfl (.cons rfl .nil)) (wk36 aB vE qM) fun kI yP zQ hs hr => ?_);have hfr := hfr.ext hs;have n8 := n8.ext hs;have n9 := n9.ext hs;have aB := aB.ext hs;have lB := lB.ext hs;have xE := xE.ext hs;subst hr;refine Zy (.bool (!kG)) (Qj rfl) rfl rfl eF rfl (Zx (.bool (!kG)) (Zl (b := (nB.2.1 != yB.2.1)) rfl (Gz eF rfl)) rfl (Zn (.bool (!kG)) rfl rfl ?_));rcases Zt h with ⟨rF, h⟩ | ⟨rF, h⟩
        ·refine Zz rfl rfl rF rfl rfl (Zz rfl rfl rF rfl rfl (Zz rfl rfl rF rfl rfl (Zx (.bool true) (Zl (b := (!kG)) rfl (Tc rF rfl)) rfl (Kk 11 rfl (Zb ?_)))))
         obtain rfl := sinj h;exact hQ _ _ ⟨kI, hfr, lD, n8, nD, n9, rfl, aB, rfl, rfl, lB, rfl, rfl⟩
        ·refine Zy (Iz (mB.2.2)) (Zk rfl) rfl rfl rF rfl (Zy (Iz (zB.2.2)) (Zk rfl) rfl rfl rF rfl (Zy (.bool ((mB.2.2 != zB.2.2))) (Gp rfl rfl rfl) rfl rfl rF rfl (Zx (.bool ((mB.2.2 != zB.2.2))) (Zl (b := (!kG)) rfl (Gz rF rfl)) rfl (Zn (.bool ((mB.2.2 != zB.2.2))) rfl rfl ?_))))
         rcases Zt h with ⟨sF, h⟩ | ⟨sF, h⟩
         ·refine Zz rfl rfl sF rfl rfl (Zz rfl rfl sF rfl rfl (Zz rfl rfl sF rfl rfl (Zx (.bool true) (Zl (b := (mB.2.2 != zB.2.2)) rfl (Tc sF rfl)) rfl (Kk 6 rfl (Zb ?_)))))
          obtain rfl := sinj h;exact hQ _ _ ⟨kI, hfr, lD, n8, nD, n9, rfl, aB, rfl, rfl, lB, rfl, rfl⟩
         ·refine Zy (Iz (mB.2.1)) (Zk rfl) rfl rfl sF rfl (Zy (Iz (zB.2.1)) (Zk rfl) rfl rfl sF rfl (Zy (.bool ((mB.2.1 != zB.2.1))) (Gp rfl rfl rfl) rfl rfl sF rfl (Zx (.bool ((mB.2.1 != zB.2.1))) (Zl (b := (mB.2.2 != zB.2.2)) rfl (Gz sF rfl)) rfl (Zn (.bool ((mB.2.1 != zB.2.1))) rfl rfl ?_))))
          rcases Zt h with ⟨vF, h⟩ | ⟨vF, h⟩
          ·refine Zz rfl rfl vF rfl rfl ?_
           iterate 3 refine Zz rfl rfl vF rfl rfl ?_
           refine Zx (.bool true) (Zl (b := (mB.2.1 != zB.2.1)) rfl (Tc vF rfl)) rfl (Zb ?_);obtain rfl := sinj h;exact hQ _ _ ⟨kI, hfr, lD, n8, nD, n9, rfl, aB, rfl, rfl, lB, rfl, rfl⟩
          ·refine Zy oB (Zk rfl) rfl rfl vF rfl (Zy iG (Zk rfl) rfl rfl vF rfl ?_)
           obtain ⟨dI, rM, h⟩ := Z1 h;refine Ze (.yes2 rfl rfl vF) rfl (Zp (g := kI) (vs := [oB, iG]) en35 (.cons rfl (.cons rfl .nil)) (wk35 lB xE rM) fun zN zP aR hs hr => ?_);have hfr := hfr.ext hs;have n8 := n8.ext hs;have n9 := n9.ext hs;have aB := aB.ext hs;have lB := lB.ext hs;subst hr;refine Zy (.bool (!dI)) (Qj rfl) rfl rfl vF rfl (Zx (.bool (!dI)) (Zl (b := (mB.2.1 != zB.2.1)) rfl (Gz vF rfl)) rfl (Zb ?_));obtain rfl := sinj h;exact hQ _ _ ⟨zN, hfr, lD, n8, nD, n9, rfl, aB, rfl, rfl, lB, rfl, rfl⟩
   ·clear hx
    obtain ⟨aO, hfr, qK, sK, tK, uK, vK, xK, yK, qJ, rJ, sJ, gH⟩ := hR;rcases Zt h with ⟨bI, h⟩ | ⟨bI, h⟩
    ·refine Ta (Eq.trans (show ev _ _ = .bool (rE) from gH) (congrArg Value.bool bI)) (Z5 (Zg (.bool false) rfl rfl (Z3 (Z9 (Gf ?_)))))
     obtain rfl := sinj h;exact G0 rfl rfl (rq (.bool false)) ⟨_, hfr, rfl⟩
    ·refine G1 (Eq.trans (show ev _ _ = .bool (rE) from gH) (congrArg Value.bool bI)) ?_
     exact Zu (Zd (jM () _ _ ⟨aO, hfr, qK, sK, tK, uK, vK, xK, yK, qJ, rJ, sJ⟩ h))
  ·rintro _ bQ dR ⟨yL, hfr, zK, jG, mH, bE, aL, bL, dL, lG, oD, mG⟩ h
   refine Zq h (fun (s : Unit) e w => ∃ (g : Gh) , Fr gI wI g w ∧ e 1 = up1 ∧ RV g.m w (x1 : List UInt8) up1 ∧ e 10 = oB ∧ RV g.m w (mB.1 : List Z2) oB ∧ e 12 = Iz (mB.2.2)) (fun X107 zH lI h => ?_) ?_
   ·refine Z5 (Zo dL rfl (Gd (.bool ((nB.2.2 == (0 : Int)))) rfl rfl rfl rfl (Z3 ?_)))
    rcases Zt h with ⟨nH, h⟩ | ⟨nH, h⟩
    ·refine Gx nH rfl (Z5 (Zo aL rfl ?_))
     obtain ⟨y110, eL, h⟩ := Z1 h;refine Z4 rfl (Zp (g := yL) (vs := [aE]) en30 (.cons rfl .nil) (wk30 bL eL) fun eN qO gN hs hr => ?_);have hfr := hfr.ext hs;have jG := jG.ext hs;have bE := bE.ext hs;have oD := oD.ext hs;have iN := hr;obtain ⟨cC, gL, h⟩ := Z1 h;refine Z4 rfl (Zp (g := eN) (vs := [gN]) en32 (.cons rfl .nil) (wk32 iN gL) fun vJ rO cQ hs hr => ?_);have hfr := hfr.ext hs;have jG := jG.ext hs;have bE := bE.ext hs;have oD := oD.ext hs;obtain ⟨bG, bO, cO, rfl, xJ, rfl, rfl⟩ := hr;refine Zn (.tuple #[bG, Iz (cC.2.1), Iz (cC.2.2)]) rfl rfl (Zx bG (Zi rfl rfl) rfl (Zx (Iz (cC.2.1)) (Zi rfl rfl) rfl (Zx (Iz (cC.2.2)) (Zi rfl rfl) rfl (Zg bG rfl rfl (Zg (Iz (cC.2.1)) rfl rfl (Zg (Iz (cC.2.2)) rfl rfl (Z3 ?_)))))));obtain ⟨oE, hx, h⟩ := Z1 h;refine G6 (fun e w => ∃ (g : Gh) , Fr gI wI g w ∧ e 1 = up1 ∧ RV g.m w (x1 : List UInt8) up1 ∧ e 10 = oB ∧ RV g.m w (mB.1 : List Z2) oB ∧ e 12 = Iz (mB.2.2) ∧ e 120 = .bool (oE)) (fun Q' hQ => ?_) (fun sO dQ hR => ?_)
     ·replace h := hx
      clear hx;refine Za (Zn (Iz (cC.2.2)) rfl rfl (Gd (.bool ((cC.2.2 != (0 : Int)))) rfl rfl rfl rfl (Zn (.bool ((cC.2.2 != (0 : Int)))) rfl rfl ?_)));rcases Zt h with ⟨iE, h⟩ | ⟨iE, h⟩
      ·refine Zz rfl rfl iE rfl rfl ?_
       iterate 3 refine Zz rfl rfl iE rfl rfl ?_
       refine Zx (.bool true) (Zl (b := (cC.2.2 != (0 : Int))) rfl (Tc iE rfl)) rfl (Zb ?_);obtain rfl := sinj h;exact hQ _ _ ⟨vJ, hfr, mH, bE, lG, oD, mG, rfl⟩
      ·refine Zy bG (Zk rfl) rfl rfl iE rfl (Zy up0 (Zk zK) rfl rfl iE rfl ?_)
       obtain ⟨lH, iL, h⟩ := Z1 h;refine Ze (.yes2 rfl rfl iE) rfl (Zp (g := vJ) (vs := [bG, up0]) en35 (.cons rfl (.cons rfl .nil)) (wk35 xJ jG iL) fun jN tO eQ hs hr => ?_);have hfr := hfr.ext hs;have bE := bE.ext hs;have oD := oD.ext hs;subst hr;refine Zy (.bool (!lH)) (Qj rfl) rfl rfl iE rfl (Zx (.bool (!lH)) (Zl (b := (cC.2.2 != (0 : Int))) rfl (Gz iE rfl)) rfl (Zb ?_));obtain rfl := sinj h;exact hQ _ _ ⟨jN, hfr, mH, bE, lG, oD, mG, rfl⟩
     ·clear hx
      obtain ⟨kN, hfr, zJ, aK, nI, pI, qI, yG⟩ := hR;rcases Zt h with ⟨oH, h⟩ | ⟨oH, h⟩
      ·refine Ta (Eq.trans (show ev _ _ = .bool (oE) from yG) (congrArg Value.bool oH)) (Z5 (Zg (.bool false) rfl rfl (Z3 (Z9 (Gf ?_)))))
       obtain rfl := sinj h;exact G0 rfl rfl (rq (.bool false)) ⟨_, hfr, rfl⟩
      ·refine G1 (Eq.trans (show ev _ _ = .bool (oE) from yG) (congrArg Value.bool oH)) ?_
       exact Zu (Zd (lI () _ _ ⟨kN, hfr, zJ, aK, nI, pI, qI⟩ h))
    ·refine Gy nH rfl ?_
     exact Zu (Zd (lI () _ _ ⟨yL, hfr, mH, bE, lG, oD, mG⟩ h))
   ·rintro _ uO gQ ⟨bK, hfr, cK, cG, sI, jJ, kJ⟩ h
    refine Zq h (fun (s : Unit) e w => ∃ (g : Gh) , Fr gI wI g w) (fun X135 yH mI h => ?_) ?_
    ·refine Z5 (Zo kJ rfl (Gd (.bool ((mB.2.2 == (0 : Int)))) rfl rfl rfl rfl (Z3 ?_)))
     rcases Zt h with ⟨pH, h⟩ | ⟨pH, h⟩
     ·refine Gx pH rfl (Z5 (Zo sI rfl ?_))
      obtain ⟨pJ, jL, h⟩ := Z1 h;refine Z4 rfl (Zp (g := bK) (vs := [oB]) en29 (.cons rfl .nil) (wk29 jJ jL) fun lN vO mN hs hr => ?_);have hfr := hfr.ext hs;have cG := cG.ext hs;have nN := hr;obtain ⟨y140, lL, h⟩ := Z1 h;refine Z4 rfl (Zp (g := lN) (vs := [mN]) en31 (.cons rfl .nil) (wk31 nN lL) fun dK xO iQ hs hr => ?_);have hfr := hfr.ext hs;have cG := cG.ext hs;obtain ⟨eG, dO, eO, rfl, lK, rfl, rfl⟩ := hr;refine Zn (.tuple #[eG, Iz (y140.2.1), Iz (y140.2.2)]) rfl rfl (Zx eG (Zi rfl rfl) rfl (Zx (Iz (y140.2.1)) (Zi rfl rfl) rfl (Zx (Iz (y140.2.2)) (Zi rfl rfl) rfl (Zg eG rfl rfl (Zg (Iz (y140.2.1)) rfl rfl (Zg (Iz (y140.2.2)) rfl rfl (Z3 ?_)))))));obtain ⟨mE, hx, h⟩ := Z1 h;refine G6 (fun e w => ∃ (g : Gh) , Fr gI wI g w ∧ e 137 = .bool (mE)) (fun Q' hQ => ?_) (fun yO jQ hR => ?_)
      ·replace h := hx
       clear hx;refine Za (Zn (Iz (y140.2.2)) rfl rfl (Gd (.bool ((y140.2.2 != (0 : Int)))) rfl rfl rfl rfl (Zn (.bool ((y140.2.2 != (0 : Int)))) rfl rfl ?_)));rcases Zt h with ⟨lE, h⟩ | ⟨lE, h⟩
       ·refine Zz rfl rfl lE rfl rfl ?_
        iterate 3 refine Zz rfl rfl lE rfl rfl ?_
        refine Zx (.bool true) (Zl (b := (y140.2.2 != (0 : Int))) rfl (Tc lE rfl)) rfl (Zb ?_);obtain rfl := sinj h;exact hQ _ _ ⟨dK, hfr, rfl⟩
       ·refine Zy eG (Zk rfl) rfl rfl lE rfl (Zy up1 (Zk cK) rfl rfl lE rfl ?_)
        obtain ⟨kH, mL, h⟩ := Z1 h;refine Ze (.yes2 rfl rfl lE) rfl (Zp (g := dK) (vs := [eG, up1]) en36 (.cons rfl (.cons rfl .nil)) (wk36 lK cG mL) fun oN zO kQ hs hr => ?_);have hfr := hfr.ext hs;subst hr;refine Zy (.bool (!kH)) (Qj rfl) rfl rfl lE rfl (Zx (.bool (!kH)) (Zl (b := (y140.2.2 != (0 : Int))) rfl (Gz lE rfl)) rfl (Zb ?_));obtain rfl := sinj h;exact hQ _ _ ⟨oN, hfr, rfl⟩
      ·clear hx
       obtain ⟨pN, hfr, zG⟩ := hR;rcases Zt h with ⟨qH, h⟩ | ⟨qH, h⟩
       ·refine Ta (Eq.trans (show ev _ _ = .bool (mE) from zG) (congrArg Value.bool qH)) (Z5 (Zg (.bool false) rfl rfl (Z3 (Z9 (Gf ?_)))))
        obtain rfl := sinj h;exact G0 rfl rfl (rq (.bool false)) ⟨_, hfr, rfl⟩
       ·refine G1 (Eq.trans (show ev _ _ = .bool (mE) from zG) (congrArg Value.bool qH)) ?_
        exact Zu (Zd (mI () _ _ ⟨pN, hfr⟩ h))
     ·refine Gy pH rfl ?_
      exact Zu (Zd (mI () _ _ ⟨bK, hfr⟩ h))
    ·rintro _ aP lQ ⟨qN, hfr⟩ h
     refine Z5 ?_;obtain ⟨jH, nL, h⟩ := Z1 h;refine Z4 rfl (Zp (g := qN) (vs := []) en13 .nil (wk13 (hTI.ch hfr.ch)  nL) fun mQ cP nQ hs hr => ?_);have hfr := hfr.ext hs;subst hr;refine Zg (.bool (jH)) rfl rfl (Z3 (Z9 ?_));obtain rfl := sinj h;exact G0 rfl rfl (rq (.bool (jH))) ⟨_, hfr, rfl⟩
end Go.Proofs.YtmebkoemfjlbcaaGreatDoor
