import Derived.Test.YtmebkoemfjlbcaaGreatDoorCode1
set_option maxRecDepth 8000
set_option maxHeartbeats 4000000
namespace Go.Proofs.YtmebkoemfjlbcaaGreatDoor
open Go.RowKit Tryz
def f18 (x0 : Tb) (x1 : Tb) : Option (Bool) :=
 Option.bind (α := Bool) (
  bif ((x0).Hooks == (x1).Hooks) then
   (f58 ((x0).Rows) ((x1).Rows)).bind fun aB =>
   some (aB)
  else
   some (false)
  ) fun n9 =>
 some (n9)
theorem en18 : Enters prog 18 := enters_of func18 (by kernel_rfl) rfl
theorem wk18 {gI : Gh} {wI : World} {x0 : Tb} {x1 : Tb} {up0 : Value} (rp0 : RV gI.m wI x0 up0) {up1 : Value} (rp1 : RV gI.m wI x1 up1) {r : Bool} (h : f18 x0 x1 = some r) : Fn prog 18 #[up0, up1] gI wI (fun _ _ v => v = .bool (r)) := by
 unfold f18 at h;refine fnE func18 rfl rfl fun g0 hm hfr => ?_;have rp0 := RVc hm rp0;have rp1 := RVc hm rp1;show E _ 17 none _ _ _ _ _;refine Z5 (Z4 rfl (T1 (g := g0) rfl rp0 fun g1 w1 p1 hs q1 => ?_));have hfr := hfr.ext hs;have rp1 := rp1.ext hs;refine Z4 rfl (T1 (g := g1) rfl rp1 fun g2 w2 p2 hs q2 => ?_);have hfr := hfr.ext hs;have q1 := q1.ext hs;refine Zg (.bool false) rfl rfl (Z3 ?_);obtain ⟨n9, hx, h⟩ := Z1 h;refine G6 (fun e w => ∃ (g : Gh) , Fr gI wI g w ∧ e 4 = .bool (n9)) (fun Q' hQ => ?_) (fun lE oE hR => ?_)
 ·replace h := hx
  clear hx;refine Za (Zx (Gc p1 0) (Zc H1 rfl (PT.ptr q1)) rfl ?_);have nB := Zm (Wm).1 q1;refine Z4 rfl (Z7 (g := g2) isAgg3 sizeOf3 rfl nB fun rE oB => ?_);obtain rfl := Zj.1 oB;refine Zx (Gc p2 0) (Zc H1 rfl (PT.ptr q2)) rfl ?_;have yB := Zm (Wm).1 q2;refine Z4 rfl (Z7 (g := g2) isAgg3 sizeOf3 rfl yB fun vE zB => ?_);obtain rfl := Zj.1 zB;refine Gd (.bool (((x0).Hooks == (x1).Hooks))) rfl rfl rfl rfl (Zn (.bool (((x0).Hooks == (x1).Hooks))) rfl rfl ?_);rcases Zt h with ⟨n8, h⟩ | ⟨n8, h⟩
  ·refine Zy (Gc p1 1) (Zc Hf rfl (PT.ptr q1)) rfl rfl n8 rfl ?_
   have cC := Zm (Qt).1 q1;refine Ze (.yes2 rfl rfl n8) rfl (Z7 (g := g2) isAgg22 sizeOf22 rfl cC fun lD nD => (Zy (Gc p2 1) (Zc Hf rfl (PT.ptr q2)) rfl rfl n8 rfl ?_));have oD := Zm (Qt).1 q2;refine Ze (.yes2 rfl rfl n8) rfl (Z7 (g := g2) isAgg22 sizeOf22 rfl oD fun aE bE => ?_);obtain ⟨aB, mB, h⟩ := Z1 h;refine Ze (.yes2 rfl rfl n8) rfl (Zp (g := g2) (vs := [lD, aE]) en58 (.cons rfl (.cons rfl .nil)) (wk58 nD bE mB) fun iE mE xE hs hr => ?_);have hfr := hfr.ext hs;subst hr;refine Zx (.bool (aB)) (Zl (b := ((x0).Hooks == (x1).Hooks)) rfl (Tc n8 rfl)) rfl (Zg (.bool (aB)) rfl rfl (Zb ?_));obtain rfl := sinj h;exact hQ _ _ ⟨iE, hfr, rfl⟩
  ·refine Zz rfl rfl n8 rfl rfl ?_
   iterate 4 refine Zz rfl rfl n8 rfl rfl ?_
   refine Zx (.bool false) (Zl (b := ((x0).Hooks == (x1).Hooks)) rfl (Gz n8 rfl)) rfl (Zg (.bool false) rfl rfl (Zb ?_));obtain rfl := sinj h;exact hQ _ _ ⟨g2, hfr, rfl⟩
 ·clear hx
  obtain ⟨yE, hfr, lB⟩ := hR;refine Z9 ?_;obtain rfl := sinj h;exact G0 rfl rfl (show _ = .bool (n9) from lB) ⟨_, hfr, rfl⟩
def f38 (x0 : List UInt8) : Option (Z2 × Bool) :=
 (cut x0 0 (6 : Int)).bind fun y2 =>
 (f94 y2).bind fun y5 =>
 Option.bind (α := Z2 × Bool) (
  (idx x0 (0 : Int)).bind fun n8 =>
  (idx x0 (1 : Int)).bind fun n9 =>
  (idx x0 (2 : Int)).bind fun aB =>
  (idx x0 (3 : Int)).bind fun lB =>
  (idx x0 (4 : Int)).bind fun mB =>
  (idx x0 (5 : Int)).bind fun nB =>
  (idx x0 (6 : Int)).bind fun y158 =>
  bif (y5.1 == y158) then
   (idx x0 (7 : Int)).bind fun zB =>
   some ((⟨(w64 ((w64 (((n8).toNat : Int) * (256 : Int))) + ((n9).toNat : Int))), ((aB).toNat : Int), ((lB).toNat : Int), ((mB).toNat : Int), ((nB).toNat : Int)⟩ : Z2), (y5.2 == zB))
  else
   some ((⟨(w64 ((w64 (((n8).toNat : Int) * (256 : Int))) + ((n9).toNat : Int))), ((aB).toNat : Int), ((lB).toNat : Int), ((mB).toNat : Int), ((nB).toNat : Int)⟩ : Z2), false)
  ) fun (cC, yB) =>
 some (cC, yB)
theorem en38 : Enters prog 38 := enters_of func38 (by kernel_rfl) rfl
theorem wk38 {gI : Gh} {wI : World} {x0 : List UInt8} {up0 : Value} (rp0 : RV gI.m wI x0 up0) {r : Z2 × Bool} (h : f38 x0 = some r) : Fn prog 38 #[up0] gI wI (fun m w v => ∃ y0 y1, v = .tuple #[y0, y1] ∧ RV m w (r.1) y0 ∧ y1 = .bool (r.2)) := by
 unfold f38 at h;refine fnE func38 rfl rfl fun g0 hm hfr => ?_;have rp0 := RVc hm rp0;show E _ 51 none _ _ _ _ _;refine Z5 (Z4 rfl (Td (g := g0) 2002 (⟨0, 0, 0, 0, 0⟩ : Z2) zeroValue63 (fun m w => ⟨_, (Gk Zw (Gk Zw (Gk Zw (Gk Zw Zw)))), rfl⟩) fun g1 w1 p1 hs b1 cb => ?_));have hfr := hfr.stp hs;have rp0 := rp0.stp hs;clear cb;refine Zg (.bool false) rfl rfl (Z3 (Z5 (Zn up0 rfl rfl ?_)));obtain ⟨y2, hy2, h⟩ := Z1 h;have r3 := U7 rp0 hy2;refine Zx ((Kf up0 (Int.toNat 0) (Int.toNat (6 : Int)) 1)) (X9 underlying50 sizeOf5 rfl rp0 rfl rfl hy2) rfl ?_;obtain ⟨y5, hy5, h⟩ := Z1 h;refine Z4 rfl (Zp (g := g1) (vs := [(Kf up0 (Int.toNat 0) (Int.toNat (6 : Int)) 1)]) en94 (.cons rfl .nil) (wk94 r3 hy5) fun g4 w4_ v4 hs hr => ?_);have hfr := hfr.ext hs;have rp0 := rp0.ext hs;have b1 := b1.ext hs;obtain ⟨qH, sH, rfl, rfl, rfl⟩ := hr;refine Zn (.tuple #[.int .u8 (UInt8.toNat (y5.1)), .int .u8 (UInt8.toNat (y5.2))]) rfl rfl (Zx (.int .u8 (UInt8.toNat (y5.1))) (Zi rfl rfl) rfl (Zx (.int .u8 (UInt8.toNat (y5.2))) (Zi rfl rfl) rfl (Zg (.int .u8 (UInt8.toNat (y5.1))) rfl rfl (Zg (.int .u8 (UInt8.toNat (y5.2))) rfl rfl (Z3 ?_)))));obtain ⟨⟨cC, yB⟩, hx, h⟩ := Z1 h;refine G6 (fun e w => ∃ (g : Gh) , Fr gI wI g w ∧ e 2 = p1 ∧ OB 2002 g w 63 (cC : Z2) p1 ∧ e 3 = .bool (yB)) (fun Q' hQ => ?_) (fun pH tH hR => ?_)
 ·replace h := hx
  clear hx;obtain ⟨n8, lD, h⟩ := Z1 h;have cG := Gn rp0 lD;refine Zs (x := .tmp 13) isAgg5 sizeOf5 cG fun uH eG oE => ?_;obtain rfl := Tz.1 eG;obtain ⟨n9, nD, h⟩ := Z1 h;have gG := Gn rp0 nD;refine Zs (x := .tmp 18) isAgg5 sizeOf5 gG fun yH iG rE => ?_;obtain rfl := Tz.1 iG;obtain ⟨aB, oD, h⟩ := Z1 h;have jG := Gn rp0 oD;refine Zs (x := .tmp 23) isAgg5 sizeOf5 jG fun zH kG vE => ?_;obtain rfl := Tz.1 kG;obtain ⟨lB, aE, h⟩ := Z1 h;have lG := Gn rp0 aE;refine Zs (x := .tmp 27) isAgg5 sizeOf5 lG fun aI mG xE => ?_;obtain rfl := Tz.1 mG;obtain ⟨mB, bE, h⟩ := Z1 h;have yG := Gn rp0 bE;refine Zs (x := .tmp 31) isAgg5 sizeOf5 yG fun bI zG yE => ?_;obtain rfl := Tz.1 zG;obtain ⟨nB, iE, h⟩ := Z1 h;have cH := Gn rp0 iE;refine Zs (x := .tmp 35) isAgg5 sizeOf5 cH fun dI gH zE => ?_;obtain rfl := Tz.1 gH;have mE : RV g4.m w4_ (⟨(w64 ((w64 (((n8).toNat : Int) * (256 : Int))) + ((n9).toNat : Int))), ((aB).toNat : Int), ((lB).toNat : Int), ((mB).toNat : Int), ((nB).toNat : Int)⟩ : Z2) (.agg (Qf [[Iz 0], [Iz 0], [Iz 0], [Iz 0], [Iz 0]] [(0, Iz ((w64 ((w64 (((n8).toNat : Int) * (256 : Int))) + ((n9).toNat : Int))))), (1, Iz (((aB).toNat : Int))), (2, Iz (((lB).toNat : Int))), (3, Iz (((mB).toNat : Int))), (4, Iz (((nB).toNat : Int)))]).flatten.toArray) := Qq rfl (Tq (rfl) (Tq (rfl) (Tq (rfl) (Tq (rfl) (Qv (rfl))))));generalize cF : (Value.agg (Qf [[Iz 0], [Iz 0], [Iz 0], [Iz 0], [Iz 0]] [(0, Iz ((w64 ((w64 (((n8).toNat : Int) * (256 : Int))) + ((n9).toNat : Int))))), (1, Iz (((aB).toNat : Int))), (2, Iz (((lB).toNat : Int))), (3, Iz (((mB).toNat : Int))), (4, Iz (((nB).toNat : Int)))]).flatten.toArray) = sF at mE;obtain ⟨y158, lE, h⟩ := Z1 h;have jH := Gn rp0 lE;refine Zs (x := .tmp 41) isAgg5 sizeOf5 jH fun iI kH eF => ?_;obtain rfl := Tz.1 kH;rcases Zt h with ⟨oB, h⟩ | ⟨oB, h⟩
  ·obtain ⟨zB, rF, h⟩ := Z1 h
   have lH := Gn rp0 rF;refine Zs (x := .tmp 47) isAgg5 sizeOf5 lH fun jI mH aG => ?_;obtain rfl := Tz.1 mH;refine Lf (a0 := ((⟨0, 0, 0, 0, 0⟩ : Z2) : Z2)) (a1 := ((⟨(w64 ((w64 (((n8).toNat : Int) * (256 : Int))) + ((n9).toNat : Int))), ((aB).toNat : Int), ((lB).toNat : Int), ((mB).toNat : Int), ((nB).toNat : Int)⟩ : Z2) : Z2)) b1 (n := 41) [(39, (fun _ g w => OB 2002 g w 63 ((⟨(w64 ((w64 (((n8).toNat : Int) * (256 : Int))) + ((n9).toNat : Int))), ((aB).toNat : Int), ((lB).toNat : Int), ((mB).toNat : Int), ((nB).toNat : Int)⟩ : Z2) : Z2) p1))] [0, 1, 2, 3, 4, 5, 6, 7, 8, 9, 10, 11, 12, 13, 14, 15, 16, 17, 18, 19, 20, 21, 22, 23, 24, 25, 26, 27, 28, 29, 30, 31, 32, 33, 34, 35, 36, 37, 38, 39, 40] rfl mixed (by kernel_rfl) (⟨fun _ => Ah, trivial⟩) (Z0 up0 rfl rfl (Zk rfl) (Z0 (Gq up0 (0 : Int) 1) rfl rfl (Zh (α := UInt8) underlying50 sizeOf5 rfl rp0 rfl lD) (Ti (c := .int .u8 (UInt8.toNat (n8))) rfl rfl .plain (fun _ _ h => h.1.ch) oE rfl (Z0 (Iz (((n8).toNat : Int))) rfl rfl (Wa underlying5 underlying3 rfl) (Z0 (Iz ((w64 (((n8).toNat : Int) * (256 : Int))))) rfl rfl (Gp rfl rfl rfl) (Z0 up0 rfl rfl (Zk rfl) (Z0 (Gq up0 (1 : Int) 1) rfl rfl (Zh (α := UInt8) underlying50 sizeOf5 rfl rp0 rfl nD) (Ti (c := .int .u8 (UInt8.toNat (n9))) rfl rfl .plain (fun _ _ h => h.1.ch) rE rfl (Z0 (Iz (((n9).toNat : Int))) rfl rfl (Wa underlying5 underlying3 rfl) (Z0 (Iz ((w64 ((w64 (((n8).toNat : Int) * (256 : Int))) + ((n9).toNat : Int))))) rfl rfl (Gp rfl rfl rfl) (Z0 up0 rfl rfl (Zk rfl) (Z0 (Gq up0 (2 : Int) 1) rfl rfl (Zh (α := UInt8) underlying50 sizeOf5 rfl rp0 rfl oD) (Ti (c := .int .u8 (UInt8.toNat (aB))) rfl rfl .plain (fun _ _ h => h.1.ch) vE rfl (Z0 (Iz (((aB).toNat : Int))) rfl rfl (Wa underlying5 underlying3 rfl) (Z0 up0 rfl rfl (Zk rfl) (Z0 (Gq up0 (3 : Int) 1) rfl rfl (Zh (α := UInt8) underlying50 sizeOf5 rfl rp0 rfl aE) ?_))))))))))))))));refine Ti (c := .int .u8 (UInt8.toNat (lB))) rfl rfl .plain (fun _ _ h => h.1.ch) xE rfl (Z0 (Iz (((lB).toNat : Int))) rfl rfl (Wa underlying5 underlying3 rfl) (Z0 up0 rfl rfl (Zk rfl) (Z0 (Gq up0 (4 : Int) 1) rfl rfl (Zh (α := UInt8) underlying50 sizeOf5 rfl rp0 rfl bE) (Ti (c := .int .u8 (UInt8.toNat (mB))) rfl rfl .plain (fun _ _ h => h.1.ch) yE rfl (Z0 (Iz (((mB).toNat : Int))) rfl rfl (Wa underlying5 underlying3 rfl) (Z0 up0 rfl rfl (Zk rfl) (Z0 (Gq up0 (5 : Int) 1) rfl rfl (Zh (α := UInt8) underlying50 sizeOf5 rfl rp0 rfl iE) (Ti (c := .int .u8 (UInt8.toNat (nB))) rfl rfl .plain (fun _ _ h => h.1.ch) zE rfl (Z0 (Iz (((nB).toNat : Int))) rfl rfl (Wa underlying5 underlying3 rfl) (Z0 sF rfl rfl (cF ▸ T7 (vs := [(0, Iz ((w64 ((w64 (((n8).toNat : Int) * (256 : Int))) + ((n9).toNat : Int))))), (1, Iz (((aB).toNat : Int))), (2, Iz (((lB).toNat : Int))), (3, Iz (((mB).toNat : Int))), (4, Iz (((nB).toNat : Int)))]) [[Iz 0], [Iz 0], [Iz 0], [Iz 0], [Iz 0]] Bf rfl rfl (.cons rfl (.cons rfl (.cons rfl (.cons rfl (.cons rfl .nil))))) ⟨⟨_, rfl, rfl⟩, ⟨⟨_, rfl, rfl⟩, ⟨⟨_, rfl, rfl⟩, ⟨⟨_, rfl, rfl⟩, ⟨⟨_, rfl, rfl⟩, trivial⟩⟩⟩⟩⟩) (Z0 (.int .u8 (UInt8.toNat (y5.1))) rfl rfl (Zk rfl) (Z0 up0 rfl rfl (Zk rfl) (Z0 (Gq up0 (6 : Int) 1) rfl rfl (Zh (α := UInt8) underlying50 sizeOf5 rfl rp0 rfl lE) (Ti (c := .int .u8 (UInt8.toNat (y158))) rfl rfl .plain (fun _ _ h => h.1.ch) eF rfl (Z0 (.bool ((y5.1 == y158))) rfl rfl (F0 rfl rfl rfl) (Z0 (.bool ((y5.1 == y158))) rfl rfl (Zk rfl) ?_))))))))))))))));refine L_y (.int .u8 (UInt8.toNat (y5.2))) rfl rfl rfl rfl oB (Zk rfl) (L_y up0 rfl rfl rfl rfl oB (Zk rfl) (L_y (Gq up0 (7 : Int) 1) rfl rfl rfl rfl oB (Zh (α := UInt8) underlying50 sizeOf5 rfl rp0 rfl rF) (Ti (c := .int .u8 (UInt8.toNat (zB))) rfl rfl (.yes2 rfl rfl oB) (fun _ _ h => h.1.ch) aG rfl (L_y (.bool ((y5.2 == zB))) rfl rfl rfl rfl oB (F0 rfl rfl rfl) (Z0 (.bool ((y5.2 == zB))) rfl rfl (Zl (b := (y5.1 == y158)) rfl (Tc oB rfl)) (Hn (φ := fun _ g w => OB 2002 g w 63 ((⟨(w64 ((w64 (((n8).toNat : Int) * (256 : Int))) + ((n9).toNat : Int))), ((aB).toNat : Int), ((lB).toNat : Int), ((mB).toNat : Int), ((nB).toNat : Int)⟩ : Z2) : Z2) p1) rfl rfl .plain (fun g w hd => Bv (g := g) sizeOf63 rfl hd.1.2 rfl (mE.stp hd.1.1)) (fun kI hv => ?_)))))))
   clear hv;refine Z0 (.bool ((y5.2 == zB))) rfl rfl (Tv rfl) (Y7 fun nH lI hall => ?_);have hs := hall.1.1;have hfr := hfr.stp hs;have b169 := (Kd (A := fun g w => OB 2002 g w 63 ((⟨(w64 ((w64 (((n8).toNat : Int) * (256 : Int))) + ((n9).toNat : Int))), ((aB).toNat : Int), ((lB).toNat : Int), ((mB).toNat : Int), ((nB).toNat : Int)⟩ : Z2) : Z2) p1) 39 rfl hall);clear hs hall;refine Zb ?_;obtain ⟨rfl, rfl⟩ := Jb h;exact hQ _ _ ⟨nH, hfr, rfl, b169, rfl⟩
  ·refine Lf (a0 := ((⟨0, 0, 0, 0, 0⟩ : Z2) : Z2)) (a1 := ((⟨(w64 ((w64 (((n8).toNat : Int) * (256 : Int))) + ((n9).toNat : Int))), ((aB).toNat : Int), ((lB).toNat : Int), ((mB).toNat : Int), ((nB).toNat : Int)⟩ : Z2) : Z2)) b1 (n := 41) [(39, (fun _ g w => OB 2002 g w 63 ((⟨(w64 ((w64 (((n8).toNat : Int) * (256 : Int))) + ((n9).toNat : Int))), ((aB).toNat : Int), ((lB).toNat : Int), ((mB).toNat : Int), ((nB).toNat : Int)⟩ : Z2) : Z2) p1))] [0, 1, 2, 3, 4, 5, 6, 7, 8, 9, 10, 11, 12, 13, 14, 15, 16, 17, 18, 19, 20, 21, 22, 23, 24, 25, 26, 27, 28, 29, 30, 31, 32, 33, 34, 35, 36, 37, 38, 39, 40] rfl mixed (by kernel_rfl) (⟨fun _ => Ah, trivial⟩) (Z0 up0 rfl rfl (Zk rfl) (Z0 (Gq up0 (0 : Int) 1) rfl rfl (Zh (α := UInt8) underlying50 sizeOf5 rfl rp0 rfl lD) (Ti (c := .int .u8 (UInt8.toNat (n8))) rfl rfl .plain (fun _ _ h => h.1.ch) oE rfl (Z0 (Iz (((n8).toNat : Int))) rfl rfl (Wa underlying5 underlying3 rfl) (Z0 (Iz ((w64 (((n8).toNat : Int) * (256 : Int))))) rfl rfl (Gp rfl rfl rfl) (Z0 up0 rfl rfl (Zk rfl) (Z0 (Gq up0 (1 : Int) 1) rfl rfl (Zh (α := UInt8) underlying50 sizeOf5 rfl rp0 rfl nD) (Ti (c := .int .u8 (UInt8.toNat (n9))) rfl rfl .plain (fun _ _ h => h.1.ch) rE rfl (Z0 (Iz (((n9).toNat : Int))) rfl rfl (Wa underlying5 underlying3 rfl) (Z0 (Iz ((w64 ((w64 (((n8).toNat : Int) * (256 : Int))) + ((n9).toNat : Int))))) rfl rfl (Gp rfl rfl rfl) (Z0 up0 rfl rfl (Zk rfl) (Z0 (Gq up0 (2 : Int) 1) rfl rfl (Zh (α := UInt8) underlying50 sizeOf5 rfl rp0 rfl oD) (Ti (c := .int .u8 (UInt8.toNat (aB))) rfl rfl .plain (fun _ _ h => h.1.ch) vE rfl (Z0 (Iz (((aB).toNat : Int))) rfl rfl (Wa underlying5 underlying3 rfl) (Z0 up0 rfl rfl (Zk rfl) (Z0 (Gq up0 (3 : Int) 1) rfl rfl (Zh (α := UInt8) underlying50 sizeOf5 rfl rp0 rfl aE) ?_))))))))))))))))
   refine Ti (c := .int .u8 (UInt8.toNat (lB))) rfl rfl .plain (fun _ _ h => h.1.ch) xE rfl (Z0 (Iz (((lB).toNat : Int))) rfl rfl (Wa underlying5 underlying3 rfl) (Z0 up0 rfl rfl (Zk rfl) (Z0 (Gq up0 (4 : Int) 1) rfl rfl (Zh (α := UInt8) underlying50 sizeOf5 rfl rp0 rfl bE) (Ti (c := .int .u8 (UInt8.toNat (mB))) rfl rfl .plain (fun _ _ h => h.1.ch) yE rfl (Z0 (Iz (((mB).toNat : Int))) rfl rfl (Wa underlying5 underlying3 rfl) (Z0 up0 rfl rfl (Zk rfl) (Z0 (Gq up0 (5 : Int) 1) rfl rfl (Zh (α := UInt8) underlying50 sizeOf5 rfl rp0 rfl iE) (Ti (c := .int .u8 (UInt8.toNat (nB))) rfl rfl .plain (fun _ _ h => h.1.ch) zE rfl (Z0 (Iz (((nB).toNat : Int))) rfl rfl (Wa underlying5 underlying3 rfl) (Z0 sF rfl rfl (cF ▸ T7 (vs := [(0, Iz ((w64 ((w64 (((n8).toNat : Int) * (256 : Int))) + ((n9).toNat : Int))))), (1, Iz (((aB).toNat : Int))), (2, Iz (((lB).toNat : Int))), (3, Iz (((mB).toNat : Int))), (4, Iz (((nB).toNat : Int)))]) [[Iz 0], [Iz 0], [Iz 0], [Iz 0], [Iz 0]] Bf rfl rfl (.cons rfl (.cons rfl (.cons rfl (.cons rfl (.cons rfl .nil))))) ⟨⟨_, rfl, rfl⟩, ⟨⟨_, rfl, rfl⟩, ⟨⟨_, rfl, rfl⟩, ⟨⟨_, rfl, rfl⟩, ⟨⟨_, rfl, rfl⟩, trivial⟩⟩⟩⟩⟩) (Z0 (.int .u8 (UInt8.toNat (y5.1))) rfl rfl (Zk rfl) (Z0 up0 rfl rfl (Zk rfl) (Z0 (Gq up0 (6 : Int) 1) rfl rfl (Zh (α := UInt8) underlying50 sizeOf5 rfl rp0 rfl lE) (Ti (c := .int .u8 (UInt8.toNat (y158))) rfl rfl .plain (fun _ _ h => h.1.ch) eF rfl (Z0 (.bool ((y5.1 == y158))) rfl rfl (F0 rfl rfl rfl) (Z0 (.bool ((y5.1 == y158))) rfl rfl (Zk rfl) ?_))))))))))))))));iterate 5 refine L_s rfl rfl rfl oB rfl ?_
   refine Z0 (.bool false) rfl rfl (Zl (b := (y5.1 == y158)) rfl (Gz oB rfl)) (Hn (φ := fun _ g w => OB 2002 g w 63 ((⟨(w64 ((w64 (((n8).toNat : Int) * (256 : Int))) + ((n9).toNat : Int))), ((aB).toNat : Int), ((lB).toNat : Int), ((mB).toNat : Int), ((nB).toNat : Int)⟩ : Z2) : Z2) p1) rfl rfl .plain (fun g w hd => Bv (g := g) sizeOf63 rfl hd.1.2 rfl (mE.stp hd.1.1)) (fun mI hv => ?_));clear hv;refine Z0 (.bool false) rfl rfl (Tv rfl) (Y7 fun oH nI hall => ?_);have hs := hall.1.1;have hfr := hfr.stp hs;have b222 := (Kd (A := fun g w => OB 2002 g w 63 ((⟨(w64 ((w64 (((n8).toNat : Int) * (256 : Int))) + ((n9).toNat : Int))), ((aB).toNat : Int), ((lB).toNat : Int), ((mB).toNat : Int), ((nB).toNat : Int)⟩ : Z2) : Z2) p1) 39 rfl hall);clear hs hall;refine Zb ?_;obtain ⟨rfl, rfl⟩ := Jb h;exact hQ _ _ ⟨oH, hfr, rfl, b222, rfl⟩
 ·clear hx
  obtain ⟨pI, hfr, vF, xF, yF⟩ := hR;refine Z9 ?_;obtain rfl := sinj h;obtain ⟨ad272, cv272, hp272, bG, cr272⟩ := Qy isAgg63 sizeOf63 xF;exact Jr rfl rfl ((show _ = p1 from vF).trans hp272) bG (show _ = .bool (yB) from yF) ⟨_, hfr, _, _, rfl, cr272, rfl⟩
def f39 (x0 : Z2) : Option (Bool) :=
 Option.bind (α := Bool) (
  (f56 ((x0).Day) ((0 : Int)) ((65535 : Int))).bind fun yB =>
  bif yB then
   (f56 ((x0).Loom) ((0 : Int)) ((15 : Int))).bind fun nB =>
   bif nB then
    (f56 ((x0).Chain) ((0 : Int)) ((7 : Int))).bind fun oB =>
    bif oB then
     (f56 ((x0).Tie) ((0 : Int)) ((7 : Int))).bind fun y44 =>
     bif y44 then
      (f56 ((x0).Picks) ((1 : Int)) ((60 : Int))).bind fun zB =>
      some (zB)
     else
      some (false)
    else
     some (false)
   else
    some (false)
  else
   some (false)
  ) fun mB =>
 some (mB)
theorem en39 : Enters prog 39 := enters_of func39 (by kernel_rfl) rfl
theorem wk39 {gI : Gh} {wI : World} {x0 : Z2} {up0 : Value} (rp0 : RV gI.m wI x0 up0) {r : Bool} (h : f39 x0 = some r) : Fn prog 39 #[up0] gI wI (fun _ _ v => v = .bool (r)) := by
 unfold f39 at h;refine fnE func39 rfl rfl fun g0 hm hfr => ?_;have rp0 := RVc hm rp0;show E _ 26 none _ _ _ _ _;refine Z5 (Z4 rfl (T1 (g := g0) rfl rp0 fun g1 w1 p1 hs q1 => ?_));have hfr := hfr.ext hs;refine Zg (.bool false) rfl rfl (Z3 ?_);obtain ⟨mB, hx, h⟩ := Z1 h;refine G6 (fun e w => ∃ (g : Gh) , Fr gI wI g w ∧ e 2 = .bool (mB)) (fun Q' hQ => ?_) (fun yF iG hR => ?_)
 ·replace h := hx
  clear hx;refine Za (Zx (Gc p1 0) (Zc W1 rfl (PT.ptr q1)) rfl ?_);have rE := Zm (G8).1 q1;refine Z4 rfl (Z7 (g := g1) isAgg3 sizeOf3 rfl rE fun jG vE => ?_);obtain rfl := Zj.1 vE;obtain ⟨yB, bE, h⟩ := Z1 h;refine Z4 rfl (Zp (g := g1) (vs := [Iz ((x0).Day), Iz (0), Iz (65535)]) en56 (.cons rfl (.cons rfl (.cons rfl .nil))) (wk56  bE) fun cC aG kG hs hr => ?_);have hfr := hfr.ext hs;have q1 := q1.ext hs;subst hr;refine Zn (.bool (yB)) rfl rfl ?_;rcases Zt h with ⟨n8, h⟩ | ⟨n8, h⟩
  ·refine Zy (Gc p1 1) (Zc Kh rfl (PT.ptr q1)) rfl rfl n8 rfl ?_
   have xE := Zm (Tg).1 q1;refine Ze (.yes2 rfl rfl n8) rfl (Z7 (g := cC) isAgg3 sizeOf3 rfl xE fun lG yE => ?_);obtain rfl := Zj.1 yE;obtain ⟨nB, iE, h⟩ := Z1 h;refine Ze (.yes2 rfl rfl n8) rfl (Zp (g := cC) (vs := [Iz ((x0).Loom), Iz (0), Iz (15)]) en56 (.cons rfl (.cons rfl (.cons rfl .nil))) (wk56  iE) fun lD bG mG hs hr => ?_);have hfr := hfr.ext hs;have q1 := q1.ext hs;subst hr;refine Zx (.bool (nB)) (Zl (b := yB) rfl (Tc n8 rfl)) rfl (Zn (.bool (nB)) rfl rfl ?_);rcases Zt h with ⟨n9, h⟩ | ⟨n9, h⟩
   ·refine Zy (Gc p1 2) (Zc Jx rfl (PT.ptr q1)) rfl rfl n9 rfl ?_
    have zE := Zm (Qs).1 q1;refine Ze (.yes2 rfl rfl n9) rfl (Z7 (g := lD) isAgg3 sizeOf3 rfl zE fun yG cF => ?_);obtain rfl := Zj.1 cF;obtain ⟨oB, lE, h⟩ := Z1 h;refine Ze (.yes2 rfl rfl n9) rfl (Zp (g := lD) (vs := [Iz ((x0).Chain), Iz (0), Iz (7)]) en56 (.cons rfl (.cons rfl (.cons rfl .nil))) (wk56  lE) fun nD cG zG hs hr => ?_);have hfr := hfr.ext hs;have q1 := q1.ext hs;subst hr;refine Zx (.bool (oB)) (Zl (b := nB) rfl (Tc n9 rfl)) rfl (Zn (.bool (oB)) rfl rfl ?_);rcases Zt h with ⟨aB, h⟩ | ⟨aB, h⟩
    ·refine Zy (Gc p1 3) (Zc Ur rfl (PT.ptr q1)) rfl rfl aB rfl ?_
     have eF := Zm (Wq).1 q1;refine Ze (.yes2 rfl rfl aB) rfl (Z7 (g := nD) isAgg3 sizeOf3 rfl eF fun cH rF => ?_);obtain rfl := Zj.1 rF;obtain ⟨y44, mE, h⟩ := Z1 h;refine Ze (.yes2 rfl rfl aB) rfl (Zp (g := nD) (vs := [Iz ((x0).Tie), Iz (0), Iz (7)]) en56 (.cons rfl (.cons rfl (.cons rfl .nil))) (wk56  mE) fun oD eG gH hs hr => ?_);have hfr := hfr.ext hs;have q1 := q1.ext hs;subst hr;refine Zx (.bool (y44)) (Zl (b := oB) rfl (Tc aB rfl)) rfl (Zn (.bool (y44)) rfl rfl ?_);rcases Zt h with ⟨lB, h⟩ | ⟨lB, h⟩
     ·refine Zy (Gc p1 4) (Zc Uq rfl (PT.ptr q1)) rfl rfl lB rfl ?_
      have sF := Zm (Wn).1 q1;refine Ze (.yes2 rfl rfl lB) rfl (Z7 (g := oD) isAgg3 sizeOf3 rfl sF fun jH vF => ?_);obtain rfl := Zj.1 vF;obtain ⟨zB, oE, h⟩ := Z1 h;refine Ze (.yes2 rfl rfl lB) rfl (Zp (g := oD) (vs := [Iz ((x0).Picks), Iz (1), Iz (60)]) en56 (.cons rfl (.cons rfl (.cons rfl .nil))) (wk56  oE) fun xF gG kH hs hr => ?_);have hfr := hfr.ext hs;subst hr;refine Zx (.bool (zB)) (Zl (b := y44) rfl (Tc lB rfl)) rfl (Zg (.bool (zB)) rfl rfl (Zb ?_));obtain rfl := sinj h;exact hQ _ _ ⟨xF, hfr, rfl⟩
     ·refine Zz rfl rfl lB rfl rfl (Zz rfl rfl lB rfl rfl (Zz rfl rfl lB rfl rfl (Zx (.bool false) (Zl (b := y44) rfl (Gz lB rfl)) rfl (Zg (.bool false) rfl rfl (Zb ?_)))))
      obtain rfl := sinj h;exact hQ _ _ ⟨oD, hfr, rfl⟩
    ·refine Zz rfl rfl aB rfl rfl (Zz rfl rfl aB rfl rfl (Zz rfl rfl aB rfl rfl (Zx (.bool false) (Zl (b := oB) rfl (Gz aB rfl)) rfl (Kk 5 rfl (Zg (.bool false) rfl rfl (Zb ?_))))))
     obtain rfl := sinj h;exact hQ _ _ ⟨nD, hfr, rfl⟩
   ·refine Zz rfl rfl n9 rfl rfl (Zz rfl rfl n9 rfl rfl (Zz rfl rfl n9 rfl rfl (Zx (.bool false) (Zl (b := nB) rfl (Gz n9 rfl)) rfl (Kk 10 rfl (Zg (.bool false) rfl rfl (Zb ?_))))))
    obtain rfl := sinj h;exact hQ _ _ ⟨lD, hfr, rfl⟩
  ·refine Zz rfl rfl n8 rfl rfl (Zz rfl rfl n8 rfl rfl (Zz rfl rfl n8 rfl rfl (Zx (.bool false) (Zl (b := yB) rfl (Gz n8 rfl)) rfl (Kk 15 rfl (Zg (.bool false) rfl rfl (Zb ?_))))))
   obtain rfl := sinj h;exact hQ _ _ ⟨cC, hfr, rfl⟩
 ·clear hx
  obtain ⟨lH, hfr, aE⟩ := hR;refine Z9 ?_;obtain rfl := sinj h;exact G0 rfl rfl (show _ = .bool (mB) from aE) ⟨_, hfr, rfl⟩
def f46 (x0 : Z2) : Option ((List UInt8)) :=
 (U2 (x0).Day (256 : Int)).bind fun y4 =>
 (H3 (x0).Day (256 : Int)).bind fun y7 =>
 (f94 (([(u8w y4), (u8w y7), (u8w ((x0).Loom)), (u8w ((x0).Chain)), (u8w ((x0).Tie)), (u8w ((x0).Picks))] : List UInt8))).bind fun n8 =>
 (apnd 1 (([(u8w y4), (u8w y7), (u8w ((x0).Loom)), (u8w ((x0).Chain)), (u8w ((x0).Tie)), (u8w ((x0).Picks))] : List UInt8)) (([n8.1, n8.2] : List UInt8))).bind fun lB =>
 some (lB)
theorem en46 : Enters prog 46 := enters_of func46 (by kernel_rfl) rfl
theorem wk46 {gI : Gh} {wI : World} {x0 : Z2} {up0 : Value} (rp0 : RV gI.m wI x0 up0) {r : (List UInt8)} (h : f46 x0 = some r) : Fn prog 46 #[up0] gI wI (fun m w v => RV m w (r) v) := by
 unfold f46 at h;refine fnE func46 rfl rfl fun g0 hm hfr => ?_;have rp0 := RVc hm rp0;show E _ 37 none _ _ _ _ _;refine Z5 (Z4 rfl (T1 (g := g0) rfl rp0 fun g1 w1 p1 hs q1 => ?_));have hfr := hfr.ext hs;refine Zg (.slice none 0 0) rfl rfl (Z3 (Z5 (Zx (Gc p1 0) (Zc W1 rfl (PT.ptr q1)) rfl ?_)));have q2 := Zm (G8).1 q1;refine Z4 rfl (Z7 (g := g1) isAgg3 sizeOf3 rfl q2 fun v3 r3 => ?_);obtain rfl := Zj.1 r3;obtain ⟨y4, yB, h⟩ := Z1 h;refine Zx (Iz (y4)) (Gp rfl rfl (congrArg (Option.map (Value.int .i64)) yB)) rfl (Zx (.int .u8 (UInt8.toNat ((u8w y4)))) (W3 underlying3 underlying5 rfl) rfl (Zx (Gc p1 0) (Zc W1 rfl (PT.ptr q1)) rfl ?_));have q5 := Zm (G8).1 q1;refine Z4 rfl (Z7 (g := g1) isAgg3 sizeOf3 rfl q5 fun v6 r6 => ?_);obtain rfl := Zj.1 r6;obtain ⟨y7, zB, h⟩ := Z1 h;refine Zx (Iz (y7)) (Gp rfl rfl (congrArg (Option.map (Value.int .i64)) zB)) rfl (Zx (.int .u8 (UInt8.toNat ((u8w y7)))) (W3 underlying3 underlying5 rfl) rfl (Zx (Gc p1 1) (Zc Kh rfl (PT.ptr q1)) rfl ?_));have q8 := Zm (Tg).1 q1;refine Z4 rfl (Z7 (g := g1) isAgg3 sizeOf3 rfl q8 fun v9 r9 => ?_);obtain rfl := Zj.1 r9;refine Zx (.int .u8 (UInt8.toNat ((u8w ((x0).Loom))))) (W3 underlying3 underlying5 rfl) rfl (Zx (Gc p1 2) (Zc Jx rfl (PT.ptr q1)) rfl ?_);have cC := Zm (Qs).1 q1;refine Z4 rfl (Z7 (g := g1) isAgg3 sizeOf3 rfl cC fun zE lD => ?_);obtain rfl := Zj.1 lD;refine Zx (.int .u8 (UInt8.toNat ((u8w ((x0).Chain))))) (W3 underlying3 underlying5 rfl) rfl (Zx (Gc p1 3) (Zc Ur rfl (PT.ptr q1)) rfl ?_);have nD := Zm (Wq).1 q1;refine Z4 rfl (Z7 (g := g1) isAgg3 sizeOf3 rfl nD fun cF oD => ?_);obtain rfl := Zj.1 oD;refine Zx (.int .u8 (UInt8.toNat ((u8w ((x0).Tie))))) (W3 underlying3 underlying5 rfl) rfl (Zx (Gc p1 4) (Zc Uq rfl (PT.ptr q1)) rfl ?_);have aE := Zm (Wn).1 q1;refine Z4 rfl (Z7 (g := g1) isAgg3 sizeOf3 rfl aE fun eF bE => ?_);obtain rfl := Zj.1 bE;refine Zx (.int .u8 (UInt8.toNat ((u8w ((x0).Picks))))) (W3 underlying3 underlying5 rfl) rfl (Z4 rfl (Ga (g := g1) 3026 (xs := ([(u8w y4), (u8w y7), (u8w ((x0).Loom)), (u8w ((x0).Chain)), (u8w ((x0).Tie)), (u8w ((x0).Picks))] : List UInt8)) (vs := [.int .u8 (UInt8.toNat ((u8w y4))), .int .u8 (UInt8.toNat ((u8w y7))), .int .u8 (UInt8.toNat ((u8w ((x0).Loom)))), .int .u8 (UInt8.toNat ((u8w ((x0).Chain)))), .int .u8 (UInt8.toNat ((u8w ((x0).Tie)))), .int .u8 (UInt8.toNat ((u8w ((x0).Picks))))]) underlying50 sizeOf5 zeroValue5 rfl rfl (.cons rfl (.cons rfl (.cons rfl (.cons rfl (.cons rfl (.cons rfl .nil)))))) (RVs.cons (Tz.2 rfl) (RVs.cons (Tz.2 rfl) (RVs.cons (Tz.2 rfl) (RVs.cons (Tz.2 rfl) (RVs.cons (Tz.2 rfl) (RVs.cons (Tz.2 rfl) RVs.nil)))))) rfl rfl fun iE rF aB hs o16 n9 hxt hfl => ?_));have hfr := hfr.stp hs;refine Zg aB rfl rfl (Z3 (Z5 (Zn aB rfl rfl ?_)));obtain ⟨n8, nB, h⟩ := Z1 h;refine Z4 rfl (Zp (g := iE) (vs := [aB]) en94 (.cons rfl .nil) (wk94 n9 nB) fun lE yE sF hs hr => ?_);have hfr := hfr.ext hs;have n9 := n9.ext hs;have o16 := o16.ext hs;obtain ⟨vE, xE, rfl, rfl, rfl⟩ := hr;refine Zn (.tuple #[.int .u8 (UInt8.toNat (n8.1)), .int .u8 (UInt8.toNat (n8.2))]) rfl rfl (Zx (.int .u8 (UInt8.toNat (n8.1))) (Zi rfl rfl) rfl (Zx (.int .u8 (UInt8.toNat (n8.2))) (Zi rfl rfl) rfl (Zg (.int .u8 (UInt8.toNat (n8.1))) rfl rfl (Zg (.int .u8 (UInt8.toNat (n8.2))) rfl rfl (Z3 (Z5 (Zn aB rfl rfl (Zn (.int .u8 (UInt8.toNat (n8.1))) rfl rfl (Zn (.int .u8 (UInt8.toNat (n8.2))) rfl rfl (Z4 rfl (Ga (g := lE) 3035 (xs := ([n8.1, n8.2] : List UInt8)) (vs := [.int .u8 (UInt8.toNat (n8.1)), .int .u8 (UInt8.toNat (n8.2))]) underlying50 sizeOf5 zeroValue5 rfl rfl (.cons rfl (.cons rfl .nil)) (RVs.cons (Tz.2 rfl) (RVs.cons (Tz.2 rfl) RVs.nil)) rfl rfl fun mE vF xF hs o19 oE hxt hfl => ?_)))))))))));have hfr := hfr.stp hs;have n9 := n9.stp hs;have o16 := o16.stp hs rfl;obtain ⟨lB, oB, h⟩ := Z1 h;refine Z4 rfl (Qd (g := mE) (i := 3026) underlying50 Yq rfl rfl o16 n9 rfl oE oB fun yF aG mB hs o20 rE _ => ?_)
 have hfr := hfr.stp hs;refine Zg mB rfl rfl (Z3 (Z9 ?_));obtain rfl := sinj h;exact G0 rfl rfl (rq mB) ⟨_, hfr, rE⟩
def f72 (x0 : ChainBelt) (x1 : ChainBelt) : Option (Bool) :=
 Option.bind (α := Bool) (
  bif ((x0).Hooks == (x1).Hooks) then
   (f117 ((x0).Cards) ((x1).Cards)).bind fun aB =>
   some (aB)
  else
   some (false)
  ) fun n9 =>
 some (n9)
theorem en72 : Enters prog 72 := enters_of func72 (by kernel_rfl) rfl
theorem wk72 {gI : Gh} {wI : World} {x0 : ChainBelt} {x1 : ChainBelt} {up0 : Value} (rp0 : RV gI.m wI x0 up0) {up1 : Value} (rp1 : RV gI.m wI x1 up1) {r : Bool} (h : f72 x0 x1 = some r) : Fn prog 72 #[up0, up1] gI wI (fun _ _ v => v = .bool (r)) := by
 unfold f72 at h;refine fnE func72 rfl rfl fun g0 hm hfr => ?_;have rp0 := RVc hm rp0;have rp1 := RVc hm rp1;show E _ 17 none _ _ _ _ _;refine Z5 (Z4 rfl (T1 (g := g0) rfl rp0 fun g1 w1 p1 hs q1 => ?_));have hfr := hfr.ext hs;have rp1 := rp1.ext hs;refine Z4 rfl (T1 (g := g1) rfl rp1 fun g2 w2 p2 hs q2 => ?_);have hfr := hfr.ext hs;have q1 := q1.ext hs;refine Zg (.bool false) rfl rfl (Z3 ?_);obtain ⟨n9, hx, h⟩ := Z1 h;refine G6 (fun e w => ∃ (g : Gh) , Fr gI wI g w ∧ e 4 = .bool (n9)) (fun Q' hQ => ?_) (fun lE oE hR => ?_)
 ·replace h := hx
  clear hx;refine Za (Zx (Gc p1 0) (Zc Jv rfl (PT.ptr q1)) rfl ?_);have nB := Zm (Q5).1 q1;refine Z4 rfl (Z7 (g := g2) isAgg3 sizeOf3 rfl nB fun rE oB => ?_);obtain rfl := Zj.1 oB;refine Zx (Gc p2 0) (Zc Jv rfl (PT.ptr q2)) rfl ?_;have yB := Zm (Q5).1 q2;refine Z4 rfl (Z7 (g := g2) isAgg3 sizeOf3 rfl yB fun vE zB => ?_);obtain rfl := Zj.1 zB;refine Gd (.bool (((x0).Hooks == (x1).Hooks))) rfl rfl rfl rfl (Zn (.bool (((x0).Hooks == (x1).Hooks))) rfl rfl ?_);rcases Zt h with ⟨n8, h⟩ | ⟨n8, h⟩
  ·refine Zy (Gc p1 1) (Zc Hg rfl (PT.ptr q1)) rfl rfl n8 rfl ?_
   have cC := Zm (Qi).1 q1;refine Ze (.yes2 rfl rfl n8) rfl (Z7 (g := g2) isAgg90 sizeOf90 rfl cC fun lD nD => (Zy (Gc p2 1) (Zc Hg rfl (PT.ptr q2)) rfl rfl n8 rfl ?_));have oD := Zm (Qi).1 q2;refine Ze (.yes2 rfl rfl n8) rfl (Z7 (g := g2) isAgg90 sizeOf90 rfl oD fun aE bE => ?_);obtain ⟨aB, mB, h⟩ := Z1 h;refine Ze (.yes2 rfl rfl n8) rfl (Zp (g := g2) (vs := [lD, aE]) en117 (.cons rfl (.cons rfl .nil)) (wk117 nD bE mB) fun iE mE xE hs hr => ?_);have hfr := hfr.ext hs;subst hr;refine Zx (.bool (aB)) (Zl (b := ((x0).Hooks == (x1).Hooks)) rfl (Tc n8 rfl)) rfl (Zg (.bool (aB)) rfl rfl (Zb ?_));obtain rfl := sinj h;exact hQ _ _ ⟨iE, hfr, rfl⟩
  ·refine Zz rfl rfl n8 rfl rfl ?_
   iterate 4 refine Zz rfl rfl n8 rfl rfl ?_
   refine Zx (.bool false) (Zl (b := ((x0).Hooks == (x1).Hooks)) rfl (Gz n8 rfl)) rfl (Zg (.bool false) rfl rfl (Zb ?_));obtain rfl := sinj h;exact hQ _ _ ⟨g2, hfr, rfl⟩
 ·clear hx
  obtain ⟨yE, hfr, lB⟩ := hR;refine Z9 ?_;obtain rfl := sinj h;exact G0 rfl rfl (show _ = .bool (n9) from lB) ⟨_, hfr, rfl⟩
def f90 (x0 : Z2) : Option ((Vector UInt8 8)) :=
 (Kz (x0).Day ((8 : Int))).bind fun y5 =>
 (f131 ((⟨List.toArray [(u8w y5), (u8w ((x0).Day)), (u8w ((x0).Loom)), (u8w ((x0).Chain)), (u8w ((x0).Tie)), (u8w ((x0).Picks)), 0, 0], rfl⟩ : Vector UInt8 8))).bind fun n8 =>
 some ((Vector.set ((Vector.set ((⟨List.toArray [(u8w y5), (u8w ((x0).Day)), (u8w ((x0).Loom)), (u8w ((x0).Chain)), (u8w ((x0).Tie)), (u8w ((x0).Picks)), 0, 0], rfl⟩ : Vector UInt8 8)) 6 (n8.1) (by decide))) 7 (n8.2) (by decide)))
theorem en90 : Enters prog 90 := enters_of func90 (by kernel_rfl) rfl
theorem wk90 {gI : Gh} {wI : World} {x0 : Z2} {up0 : Value} (rp0 : RV gI.m wI x0 up0) {r : (Vector UInt8 8)} (h : f90 x0 = some r) : Fn prog 90 #[up0] gI wI (fun m w v => RV m w (r) v) := by
 unfold f90 at h;refine fnE func90 rfl rfl fun g0 hm hfr => ?_;have rp0 := RVc hm rp0;show E _ 31 none _ _ _ _ _;refine Z5 (Z4 rfl (T1 (g := g0) rfl rp0 fun g1 w1 p1 hs q1 => ?_));have hfr := hfr.ext hs;refine Z4 rfl (Td (g := g1) 2002 ((⟨List.toArray [0, 0, 0, 0, 0, 0, 0, 0], rfl⟩ : Vector UInt8 8) : Vector UInt8 8) zeroValue155 (fun m w => ⟨_, (Yu (Zv Ty (Zv Ty (Zv Ty (Zv Ty (Zv Ty (Zv Ty (Zv Ty (Zv Ty Ya)))))))) rfl), rfl⟩) fun g2 w2 p2 hs b2 cb => ?_);have hfr := hfr.stp hs;have q1 := q1.stp hs;clear cb;refine Z3 (Z5 (Zx (Gc p1 0) (Zc W1 rfl (PT.ptr q1)) rfl ?_));have q3 := Zm (G8).1 q1;refine Z4 rfl (Z7 (g := g2) isAgg3 sizeOf3 rfl q3 fun v4 r4 => ?_);obtain rfl := Zj.1 r4;obtain ⟨y5, hy5, h⟩ := Z1 h;refine Zx (Iz (y5)) (P_shru rfl rfl hy5) rfl (Zx (.int .u8 (UInt8.toNat ((u8w y5)))) (W3 underlying3 underlying5 rfl) rfl (Zx (Gc p1 0) (Zc W1 rfl (PT.ptr q1)) rfl ?_));have q6 := Zm (G8).1 q1;refine Z4 rfl (Z7 (g := g2) isAgg3 sizeOf3 rfl q6 fun v7 r7 => ?_);obtain rfl := Zj.1 r7;refine Zx (.int .u8 (UInt8.toNat ((u8w ((x0).Day))))) (W3 underlying3 underlying5 rfl) rfl (Zx (Gc p1 1) (Zc Kh rfl (PT.ptr q1)) rfl ?_);have q8 := Zm (Tg).1 q1;refine Z4 rfl (Z7 (g := g2) isAgg3 sizeOf3 rfl q8 fun v9 r9 => ?_);obtain rfl := Zj.1 r9;refine Zx (.int .u8 (UInt8.toNat ((u8w ((x0).Loom))))) (W3 underlying3 underlying5 rfl) rfl (Zx (Gc p1 2) (Zc Jx rfl (PT.ptr q1)) rfl ?_);have yB := Zm (Qs).1 q1;refine Z4 rfl (Z7 (g := g2) isAgg3 sizeOf3 rfl yB fun yE zB => ?_);obtain rfl := Zj.1 zB;refine Zx (.int .u8 (UInt8.toNat ((u8w ((x0).Chain))))) (W3 underlying3 underlying5 rfl) rfl (Zx (Gc p1 3) (Zc Ur rfl (PT.ptr q1)) rfl ?_);have cC := Zm (Wq).1 q1;refine Z4 rfl (Z7 (g := g2) isAgg3 sizeOf3 rfl cC fun zE lD => ?_);obtain rfl := Zj.1 lD;refine Zx (.int .u8 (UInt8.toNat ((u8w ((x0).Tie))))) (W3 underlying3 underlying5 rfl) rfl (Zx (Gc p1 4) (Zc Uq rfl (PT.ptr q1)) rfl ?_);have nD := Zm (Wn).1 q1;refine Z4 rfl (Z7 (g := g2) isAgg3 sizeOf3 rfl nD fun cF oD => ?_);obtain rfl := Zj.1 oD;refine Zx (.int .u8 (UInt8.toNat ((u8w ((x0).Picks))))) (W3 underlying3 underlying5 rfl) rfl ?_;have n9 : RV g2.m w2 (⟨List.toArray [(u8w y5), (u8w ((x0).Day)), (u8w ((x0).Loom)), (u8w ((x0).Chain)), (u8w ((x0).Tie)), (u8w ((x0).Picks)), 0, 0], rfl⟩ : Vector UInt8 8) (.agg (Qf [[.int .u8 0], [.int .u8 0], [.int .u8 0], [.int .u8 0], [.int .u8 0], [.int .u8 0], [.int .u8 0], [.int .u8 0]] [(0, .int .u8 (UInt8.toNat ((u8w y5)))), (1, .int .u8 (UInt8.toNat ((u8w ((x0).Day))))), (2, .int .u8 (UInt8.toNat ((u8w ((x0).Loom))))), (3, .int .u8 (UInt8.toNat ((u8w ((x0).Chain))))), (4, .int .u8 (UInt8.toNat ((u8w ((x0).Tie))))), (5, .int .u8 (UInt8.toNat ((u8w ((x0).Picks)))))]).flatten.toArray) := Qq rfl (Yu (Zv rfl (Zv rfl (Zv rfl (Zv rfl (Zv rfl (Zv rfl (Zv Ty (Zv Ty Ya)))))))) rfl);generalize nB : (Value.agg (Qf [[.int .u8 0], [.int .u8 0], [.int .u8 0], [.int .u8 0], [.int .u8 0], [.int .u8 0], [.int .u8 0], [.int .u8 0]] [(0, .int .u8 (UInt8.toNat ((u8w y5)))), (1, .int .u8 (UInt8.toNat ((u8w ((x0).Day))))), (2, .int .u8 (UInt8.toNat ((u8w ((x0).Loom))))), (3, .int .u8 (UInt8.toNat ((u8w ((x0).Chain))))), (4, .int .u8 (UInt8.toNat ((u8w ((x0).Tie))))), (5, .int .u8 (UInt8.toNat ((u8w ((x0).Picks)))))]).flatten.toArray) = aB at n9;refine Zx aB (nB ▸ Md (vs := [(0, .int .u8 (UInt8.toNat ((u8w y5)))), (1, .int .u8 (UInt8.toNat ((u8w ((x0).Day))))), (2, .int .u8 (UInt8.toNat ((u8w ((x0).Loom))))), (3, .int .u8 (UInt8.toNat ((u8w ((x0).Chain))))), (4, .int .u8 (UInt8.toNat ((u8w ((x0).Tie))))), (5, .int .u8 (UInt8.toNat ((u8w ((x0).Picks)))))]) [[.int .u8 0], [.int .u8 0], [.int .u8 0], [.int .u8 0], [.int .u8 0], [.int .u8 0], [.int .u8 0], [.int .u8 0]] underlying155 Ay szA_5 rfl (by simp) (.cons rfl (.cons rfl (.cons rfl (.cons rfl (.cons rfl (.cons rfl .nil)))))) ⟨⟨_, rfl, rfl⟩, ⟨⟨_, rfl, rfl⟩, ⟨⟨_, rfl, rfl⟩, ⟨⟨_, rfl, rfl⟩, ⟨⟨_, rfl, rfl⟩, ⟨⟨_, rfl, rfl⟩, trivial⟩⟩⟩⟩⟩⟩) rfl (Z4 rfl (Gv (g := g2) (v := aB) sizeOf155 rfl b2 rfl n9 fun lB eF hs b17 cb => ?_))
 clear cb;have hfr := hfr.stp hs;refine Z3 (Z5 (Z4 rfl (T8 (g := lB) isAgg155 sizeOf155 rfl b17 fun aE bE => ?_)));obtain ⟨n8, hy20, h⟩ := Z1 h;refine Z4 rfl (Zp (g := lB) (vs := [aE]) en131 (.cons rfl .nil) (wk131 bE hy20) fun iE xE rF hs hr => ?_);have hfr := hfr.ext hs;have b17 := b17.ext hs;obtain ⟨rE, vE, rfl, rfl, rfl⟩ := hr;refine Zn (.tuple #[.int .u8 (UInt8.toNat (n8.1)), .int .u8 (UInt8.toNat (n8.2))]) rfl rfl (Zx (.int .u8 (UInt8.toNat (n8.1))) (Zi rfl rfl) rfl (Zx (.int .u8 (UInt8.toNat (n8.2))) (Zi rfl rfl) rfl (Zx (Gc p2 6) (Qw (α := UInt8) (i := (6 : Int)) underlying155 sizeOf5 rfl (OB.ptr b17) rfl (Lj (v := (⟨List.toArray [(u8w y5), (u8w ((x0).Day)), (u8w ((x0).Loom)), (u8w ((x0).Chain)), (u8w ((x0).Tie)), (u8w ((x0).Picks)), 0, 0], rfl⟩ : Vector UInt8 8)) (i := 6) (by decide))) rfl (Z4 rfl (Yf (g := iE) (Gr.vec (β := UInt8) (n := 8) (i := 6) (by decide)) sizeOf5 rfl b17 rfl (Tz.2 rfl) fun lE sF hs b21 rst hos => ?_)))));clear rst hos;have hfr := hfr.stp hs;refine Zx (Gc p2 7) (Qw (α := UInt8) (i := (7 : Int)) underlying155 sizeOf5 rfl (OB.ptr b21) rfl (Lj (v := (Vector.set ((⟨List.toArray [(u8w y5), (u8w ((x0).Day)), (u8w ((x0).Loom)), (u8w ((x0).Chain)), (u8w ((x0).Tie)), (u8w ((x0).Picks)), 0, 0], rfl⟩ : Vector UInt8 8)) 6 (n8.1) (by decide))) (i := 7) (by decide))) rfl (Z4 rfl (Yf (g := lE) (Gr.vec (β := UInt8) (n := 8) (i := 7) (by decide)) sizeOf5 rfl b21 rfl (Tz.2 rfl) fun mB vF hs b22 rst hos => ?_));clear rst hos;have hfr := hfr.stp hs;refine Z3 (Z5 (Z4 rfl (T8 (g := mB) isAgg155 sizeOf155 rfl b22 fun mE oE => (Z4 rfl (Gv (g := mB) (v := mE) sizeOf155 rfl b22 rfl oE fun xF yF hs b24 cb => ?_)))));clear cb;have hfr := hfr.stp hs;refine Z3 (Z9 ?_);obtain rfl := sinj h;obtain ⟨ad25, cv25, hp25, oB, cr25⟩ := Qy isAgg155 sizeOf155 b24;exact Fd rfl rfl ((rq p2).trans hp25) oB ⟨_, hfr, cr25⟩
def f113 (x0 : List Gs) (x1 : Gs → Option Bool) : Option (Bool) :=
 (f150 x0 x1).bind fun y2 =>
 some ((decide (y2 ≥ (0 : Int))))
theorem en113 : Enters prog 113 := enters_of func113 (by kernel_rfl) rfl
theorem wk113 {gI : Gh} {wI : World} {x0 : List Gs} {x1 : Gs → Option Bool} {up0 : Value} (rp0 : RV gI.m wI x0 up0) {up1 : Value} (rp1 : H9 prog x1 up1 gI wI) {r : Bool} (h : f113 x0 x1 = some r) : Fn prog 113 #[up0, up1] gI wI (fun _ _ v => v = .bool (r)) := by
 unfold f113 at h;refine fnE func113 rfl rfl fun g0 hm hfr => ?_;have rp0 := RVc hm rp0;obtain ⟨ff1, fa1, fc1, rfl, fen1, fcl1⟩ := rp1;show E _ 9 none _ _ _ _ _;refine Z5 (Zg (.bool false) rfl rfl (Z3 (Z5 (Zn up0 rfl rfl (Zn ((.func (.func ff1) fa1 fc1)) rfl rfl ?_)))));obtain ⟨y2, hy2, h⟩ := Z1 h;refine Z4 rfl (Zp (g := g0) (vs := [up0, (.func (.func ff1) fa1 fc1)]) en150 (.cons rfl (.cons rfl .nil)) (wk150 rp0 (H9.ch ⟨_, _, _, rfl, fen1, fcl1⟩ hfr.ch) hy2) fun g1 w1_ v1 hs hr => ?_);have hfr := hfr.ext hs;subst hr;refine Gd (.bool ((decide (y2 ≥ (0 : Int))))) rfl rfl rfl rfl (Zg (.bool ((decide (y2 ≥ (0 : Int))))) rfl rfl (Z3 (Z9 ?_)));obtain rfl := sinj h;exact G0 rfl rfl (rq (.bool ((decide (y2 ≥ (0 : Int)))))) ⟨_, hfr, rfl⟩
def f114 (x0 : List Gi) (x1 : Gi → Option Bool) : Option (Bool) :=
 (f151 x0 x1).bind fun y2 =>
 some ((decide (y2 ≥ (0 : Int))))
theorem en114 : Enters prog 114 := enters_of func114 (by kernel_rfl) rfl
theorem wk114 {gI : Gh} {wI : World} {x0 : List Gi} {x1 : Gi → Option Bool} {up0 : Value} (rp0 : RV gI.m wI x0 up0) {up1 : Value} (rp1 : H9 prog x1 up1 gI wI) {r : Bool} (h : f114 x0 x1 = some r) : Fn prog 114 #[up0, up1] gI wI (fun _ _ v => v = .bool (r)) := by
 unfold f114 at h;refine fnE func114 rfl rfl fun g0 hm hfr => ?_;have rp0 := RVc hm rp0;obtain ⟨ff1, fa1, fc1, rfl, fen1, fcl1⟩ := rp1;show E _ 9 none _ _ _ _ _;refine Z5 (Zg (.bool false) rfl rfl (Z3 (Z5 (Zn up0 rfl rfl (Zn ((.func (.func ff1) fa1 fc1)) rfl rfl ?_)))));obtain ⟨y2, hy2, h⟩ := Z1 h;refine Z4 rfl (Zp (g := g0) (vs := [up0, (.func (.func ff1) fa1 fc1)]) en151 (.cons rfl (.cons rfl .nil)) (wk151 rp0 (H9.ch ⟨_, _, _, rfl, fen1, fcl1⟩ hfr.ch) hy2) fun g1 w1_ v1 hs hr => ?_);have hfr := hfr.ext hs;subst hr;refine Gd (.bool ((decide (y2 ≥ (0 : Int))))) rfl rfl rfl rfl (Zg (.bool ((decide (y2 ≥ (0 : Int))))) rfl rfl (Z3 (Z9 ?_)));obtain rfl := sinj h;exact G0 rfl rfl (rq (.bool ((decide (y2 ≥ (0 : Int)))))) ⟨_, hfr, rfl⟩
def f130 (x0 : Int) (x1 : Int) : Option (Int) :=
 (f159 x0).bind fun y2 =>
 (f159 x1).bind fun y4 =>
 jn (σ := Unit) (fun _ =>
  jn (σ := Unit) (fun _ =>
   jn (σ := Unit) (fun _ =>
    jn (σ := Unit) (fun _ =>
     some ((0 : Int))
     ) fun k26 =>
    bif (decide (x0 > x1)) then
     some ((1 : Int))
    else
     k26 ()
    ) fun oD =>
   bif (decide (x0 < x1)) then
    some ((-1 : Int))
   else
    oD ()
   ) fun k18 =>
  bif y4 then
   some ((1 : Int))
  else
   k18 ()
  ) fun aE =>
 bif y2 then
  jn (σ := Unit) (fun _ =>
   some ((-1 : Int))
   ) fun bE =>
  bif y4 then
   some ((0 : Int))
  else
   bE ()
 else
  aE ()
theorem en130 : Enters prog 130 := enters_of func130 (by kernel_rfl) rfl
theorem wk130 {gI : Gh} {wI : World} {x0 : Int} {x1 : Int}  {r : Int} (h : f130 x0 x1 = some r) : Fn prog 130 #[Iz (x0), Iz (x1)] gI wI (fun _ _ v => v = Iz (r)) := by
 unfold f130 at h;refine fnE func130 rfl rfl fun g0 hm hfr => ?_;show E _ 20 none _ _ _ _ _;refine Z5 (Zg (Iz (0)) rfl rfl (Z3 (Z5 (Zn (Iz (x0)) rfl rfl ?_))));obtain ⟨y2, hy2, h⟩ := Z1 h;refine Z4 rfl (Zp (g := g0) (vs := [Iz (x0)]) en159 (.cons rfl .nil) (wk159  hy2) fun g1 w1_ v1 hs hr => ?_);have hfr := hfr.ext hs;subst hr;refine Zg (.bool (y2)) rfl rfl (Z3 (Z5 (Zn (Iz (x1)) rfl rfl ?_)));obtain ⟨y4, vE, h⟩ := Z1 h;refine Z4 rfl (Zp (g := g1) (vs := [Iz (x1)]) en159 (.cons rfl .nil) (wk159  vE) fun g3 w3_ v3 hs hr => ?_);have hfr := hfr.ext hs;subst hr;refine Zg (.bool (y4)) rfl rfl (Z3 (Zq h (fun (s : Unit) e w => ∃ (g : Gh) , Fr gI wI g w ∧ e 0 = Iz (x0) ∧ e 1 = Iz (x1) ∧ e 6 = .bool (y4)) (fun X10 aE iE h => ?_) ?_))
 ·refine Z5 (Zn (.bool (y2)) rfl rfl (Z3 ?_))
  rcases Zt h with ⟨n8, h⟩ | ⟨n8, h⟩
  ·refine Gx n8 rfl (Zq h (fun (s : Unit) e w => ∃ (g : Gh) , Fr gI wI g w) (fun X13 bE lE h => ?_) ?_)
   ·refine Z5 (Zn (.bool (y4)) rfl rfl (Z3 ?_))
    rcases Zt h with ⟨n9, h⟩ | ⟨n9, h⟩
    ·refine Gx n9 rfl (Z5 (Zg (Iz (0)) rfl rfl (Z3 (Z9 (Gf (Gf ?_))))))
     obtain rfl := sinj h;exact G0 rfl rfl (rq (Iz (0))) ⟨_, hfr, rfl⟩
    ·refine Gy n9 rfl ?_
     exact Zu (Zd (lE () _ _ ⟨g3, hfr⟩ h))
   ·rintro _ cF w15 ⟨xF, hfr⟩ h
    refine Z5 (Zg (Iz (-1)) rfl rfl (Z3 (Z9 (Gf ?_))));obtain rfl := sinj h;exact G0 rfl rfl (rq (Iz (-1))) ⟨_, hfr, rfl⟩
  ·refine Gy n8 rfl ?_
   exact Zu (Zd (iE () _ _ ⟨g3, hfr, rfl, rfl, rfl⟩ h))
 ·rintro _ eF yF ⟨xE, hfr, yB, zB, cC⟩ h
  refine Zq h (fun (s : Unit) e w => ∃ (g : Gh) , Fr gI wI g w ∧ e 0 = Iz (x0) ∧ e 1 = Iz (x1)) (fun X18 k18 mE h => ?_) ?_
  ·refine Z5 (Zo cC rfl (Z3 ?_))
   rcases Zt h with ⟨aB, h⟩ | ⟨aB, h⟩
   ·refine Gx aB rfl (Z5 (Zg (Iz (1)) rfl rfl (Z3 (Z9 (Gf ?_)))))
    obtain rfl := sinj h;exact G0 rfl rfl (rq (Iz (1))) ⟨_, hfr, rfl⟩
   ·refine Gy aB rfl ?_
    exact Zu (Zd (mE () _ _ ⟨xE, hfr, yB, zB⟩ h))
  ·rintro _ rF aG ⟨yE, hfr, nB, oB⟩ h
   refine Zq h (fun (s : Unit) e w => ∃ (g : Gh) , Fr gI wI g w ∧ e 0 = Iz (x0) ∧ e 1 = Iz (x1)) (fun X22 oD oE h => ?_) ?_
   ·refine Z5 (Zo nB rfl (Zo oB rfl (Gd (.bool ((decide (x0 < x1)))) rfl rfl rfl rfl (Z3 ?_))))
    rcases Zt h with ⟨lB, h⟩ | ⟨lB, h⟩
    ·refine Gx lB rfl (Z5 (Zg (Iz (-1)) rfl rfl (Z3 (Z9 (Gf ?_)))))
     obtain rfl := sinj h;exact G0 rfl rfl (rq (Iz (-1))) ⟨_, hfr, rfl⟩
    ·refine Gy lB rfl ?_
     exact Zu (Zd (oE () _ _ ⟨yE, hfr, nB, oB⟩ h))
   ·rintro _ sF bG ⟨zE, hfr, lD, nD⟩ h
    refine Zq h (fun (s : Unit) e w => ∃ (g : Gh) , Fr gI wI g w) (fun X26 k26 rE h => ?_) ?_
    ·refine Z5 (Zo lD rfl (Zo nD rfl (Gd (.bool ((decide (x0 > x1)))) rfl rfl rfl rfl (Z3 ?_))))
     rcases Zt h with ⟨mB, h⟩ | ⟨mB, h⟩
     ·refine Gx mB rfl (Z5 (Zg (Iz (1)) rfl rfl (Z3 (Z9 (Gf ?_)))))
      obtain rfl := sinj h;exact G0 rfl rfl (rq (Iz (1))) ⟨_, hfr, rfl⟩
     ·refine Gy mB rfl ?_
      exact Zu (Zd (rE () _ _ ⟨zE, hfr⟩ h))
    ·rintro _ vF cG ⟨eG, hfr⟩ h
     refine Z5 (Zg (Iz (0)) rfl rfl (Z3 (Z9 ?_)));obtain rfl := sinj h;exact G0 rfl rfl (rq (Iz (0))) ⟨_, hfr, rfl⟩
def f133 (x0 : List UInt8) (x1 : Int) : Option (It (List UInt8)) :=
 Option.bind (α := Unit) (
  bif (decide (x1 < (1 : Int))) then
   none
  else
   some ()
  ) fun (_ : Unit) =>
 some ((fun σ cons s => f160 x0 x1 σ cons s))
theorem en133 : Enters prog 133 := enters_of func133 (by kernel_rfl) rfl
theorem wk133 {gI : Gh} {wI : World} {x0 : List UInt8} {x1 : Int} {up0 : Value} (rp0 : RV gI.m wI x0 up0) {r : It (List UInt8)} (h : f133 x0 x1 = some r) : Fn prog 133 #[up0, Iz (x1)] gI wI (fun m w v => ItV prog (RA1 (α := (List UInt8))) (r) v m w) := by
 unfold f133 at h;refine fnE func133 rfl rfl fun g0 hm hfr => ?_;have rp0 := RVc hm rp0;show E _ 9 none _ _ _ _ _;refine Z5 (Z4 rfl (T1 (g := g0) rfl rp0 fun g1 w1 p1 hs q1 => ?_));have hfr := hfr.ext hs;refine Z4 rfl (T1 (g := g1) rfl (Zj.2 rfl) fun g2 w2 p2 hs q2 => ?_);have hfr := hfr.ext hs;have q1 := q1.ext hs;refine Zg (.nilFunc) rfl rfl (Z3 ?_);obtain ⟨_, hx, h⟩ := Z1 h;refine G6 (fun e w => ∃ (g : Gh) , Fr gI wI g w ∧ e 2 = p1 ∧ PT g.m w (x0 : List UInt8) p1 ∧ e 3 = p2 ∧ PT g.m w (x1 : Int) p2) (fun Q' hQ => ?_) (fun mB w7 hR => ?_)
 ·replace h := hx
  clear hx;refine Z5 (Z4 rfl (Z7 (g := g2) isAgg3 sizeOf3 rfl q2 fun v5 r5 => ?_));obtain rfl := Zj.1 r5;refine Gd (.bool ((decide (x1 < (1 : Int))))) rfl rfl rfl rfl (Z3 ?_);rcases Zt h with ⟨hc6, h⟩ | ⟨hc6, h⟩
  ·refine Gx hc6 rfl (Za ?_)
   cases h
  ·refine Gy hc6 rfl (Zu ?_)
   obtain rfl := sinj h;exact hQ _ _ ⟨g2, hfr, rfl, q1, rfl, q2⟩
 ·clear hx
  obtain ⟨g7, hfr, n8, n9, aB, lB⟩ := hR;refine Z5 (Zx ((.func (.func 160) #[] #[p1, p2])) (Wt (Ui (show ev _ _ = p1 from n8) (show ev _ _ = p2 from aB))) rfl (Zg ((.func (.func 160) #[] #[p1, p2])) rfl rfl (Z3 (Z9 ?_))));obtain rfl := sinj h;exact G0 rfl rfl (rq (.func (.func 160) #[] #[p1, p2])) ⟨_, hfr, (show ItV prog (RA1 (α := (List UInt8))) (fun σ cons s => f160 x0 x1 σ cons s) ((.func (.func 160) #[] #[p1, p2])) g7.m w7 from ⟨160, #[], #[p1, p2], rfl, en160, fun g' w' hch σ cons s s' h => wk160  (n9.ch hch) (lB.ch hch) h⟩)⟩
def f138 (x0 : List Int) (x1 : Int → Option Bool) : Option (Bool) :=
 (f169 x0 x1).bind fun y2 =>
 some ((decide (y2 ≥ (0 : Int))))
theorem en138 : Enters prog 138 := enters_of func138 (by kernel_rfl) rfl
theorem wk138 {gI : Gh} {wI : World} {x0 : List Int} {x1 : Int → Option Bool} {up0 : Value} (rp0 : RV gI.m wI x0 up0) {up1 : Value} (rp1 : H9 prog x1 up1 gI wI) {r : Bool} (h : f138 x0 x1 = some r) : Fn prog 138 #[up0, up1] gI wI (fun _ _ v => v = .bool (r)) := by
 unfold f138 at h;refine fnE func138 rfl rfl fun g0 hm hfr => ?_;have rp0 := RVc hm rp0;obtain ⟨ff1, fa1, fc1, rfl, fen1, fcl1⟩ := rp1;show E _ 9 none _ _ _ _ _;refine Z5 (Zg (.bool false) rfl rfl (Z3 (Z5 (Zn up0 rfl rfl (Zn ((.func (.func ff1) fa1 fc1)) rfl rfl ?_)))));obtain ⟨y2, hy2, h⟩ := Z1 h;refine Z4 rfl (Zp (g := g0) (vs := [up0, (.func (.func ff1) fa1 fc1)]) en169 (.cons rfl (.cons rfl .nil)) (wk169 rp0 (H9.ch ⟨_, _, _, rfl, fen1, fcl1⟩ hfr.ch) hy2) fun g1 w1_ v1 hs hr => ?_);have hfr := hfr.ext hs;subst hr;refine Gd (.bool ((decide (y2 ≥ (0 : Int))))) rfl rfl rfl rfl (Zg (.bool ((decide (y2 ≥ (0 : Int))))) rfl rfl (Z3 (Z9 ?_)));obtain rfl := sinj h;exact G0 rfl rfl (rq (.bool ((decide (y2 ≥ (0 : Int)))))) ⟨_, hfr, rfl⟩
def f142 (x0 : Int) (x1 : Int) (x2 : List Int) : Option (Bool) :=
 (f138 x2 ((fun a0 => f172 a0 x0 x1))).bind fun y4 =>
 some ((!y4))
theorem en142 : Enters prog 142 := enters_of func142 (by kernel_rfl) rfl
theorem wk142 {gI : Gh} {wI : World} {x0 : Int} {x1 : Int} {x2 : List Int} {up2 : Value} (rp2 : RV gI.m wI x2 up2) {r : Bool} (h : f142 x0 x1 x2 = some r) : Fn prog 142 #[Iz (x0), Iz (x1), up2] gI wI (fun _ _ v => v = .bool (r)) := by
 unfold f142 at h;refine fnE func142 rfl rfl fun g0 hm hfr => ?_;have rp2 := RVc hm rp2;show E _ 11 none _ _ _ _ _;refine Z5 (Z4 rfl (T1 (g := g0) rfl (Zj.2 rfl) fun g1 w1 p1 hs q1 => ?_));have hfr := hfr.ext hs;have rp2 := rp2.ext hs;refine Z4 rfl (T1 (g := g1) rfl (Zj.2 rfl) fun g2 w2 p2 hs q2 => ?_);have hfr := hfr.ext hs;have rp2 := rp2.ext hs;have q1 := q1.ext hs;refine Zg (.bool false) rfl rfl (Z3 (Z5 (Zn up2 rfl rfl (Zx ((.func (.func 172) #[] #[p1, p2])) (Wt (Ui (show ev _ _ = p1 from rfl) (show ev _ _ = p2 from rfl))) rfl ?_))));obtain ⟨y4, n8, h⟩ := Z1 h;refine Z4 rfl (Zp (g := g2) (vs := [up2, (.func (.func 172) #[] #[p1, p2])]) en138 (.cons rfl (.cons rfl .nil)) (wk138 rp2 ⟨172, #[], #[p1, p2], rfl, en172, fun g' w' hch a0 b0 r hu0 hr => by obtain rfl := Zj.1 hu0; exact Fn.mono (wk172  (q1.ch hch) (q2.ch hch) hr) fun _ _ _ h => Wl.2 h⟩ n8) fun g3 w3_ v3 hs hr => ?_);have hfr := hfr.ext hs;subst hr;refine Zx (.bool (!y4)) (Qj rfl) rfl (Zg (.bool (!y4)) rfl rfl (Z3 (Z9 ?_)));obtain rfl := sinj h;exact G0 rfl rfl (rq (.bool (!y4))) ⟨_, hfr, rfl⟩
def f146 (x0 : List Str) (x1 : Str → Option Bool) : Option (Bool) :=
 (f177 x0 x1).bind fun y2 =>
 some ((decide (y2 ≥ (0 : Int))))
theorem en146 : Enters prog 146 := enters_of func146 (by kernel_rfl) rfl
theorem wk146 {gI : Gh} {wI : World} {x0 : List Str} {x1 : Str → Option Bool} {up0 : Value} (rp0 : RV gI.m wI x0 up0) {up1 : Value} (rp1 : H9 prog x1 up1 gI wI) {r : Bool} (h : f146 x0 x1 = some r) : Fn prog 146 #[up0, up1] gI wI (fun _ _ v => v = .bool (r)) := by
 unfold f146 at h;refine fnE func146 rfl rfl fun g0 hm hfr => ?_;have rp0 := RVc hm rp0;obtain ⟨ff1, fa1, fc1, rfl, fen1, fcl1⟩ := rp1;show E _ 9 none _ _ _ _ _;refine Z5 (Zg (.bool false) rfl rfl (Z3 (Z5 (Zn up0 rfl rfl (Zn ((.func (.func ff1) fa1 fc1)) rfl rfl ?_)))));obtain ⟨y2, hy2, h⟩ := Z1 h;refine Z4 rfl (Zp (g := g0) (vs := [up0, (.func (.func ff1) fa1 fc1)]) en177 (.cons rfl (.cons rfl .nil)) (wk177 rp0 (H9.ch ⟨_, _, _, rfl, fen1, fcl1⟩ hfr.ch) hy2) fun g1 w1_ v1 hs hr => ?_);have hfr := hfr.ext hs;subst hr;refine Gd (.bool ((decide (y2 ≥ (0 : Int))))) rfl rfl rfl rfl (Zg (.bool ((decide (y2 ≥ (0 : Int))))) rfl rfl (Z3 (Z9 ?_)));obtain rfl := sinj h;exact G0 rfl rfl (rq (.bool ((decide (y2 ≥ (0 : Int)))))) ⟨_, hfr, rfl⟩
def f163 (x0 : Int) (x1 : Int) (x2 : List Int) : Option (Bool) :=
 (f138 x2 ((fun a0 => f196 a0 x0 x1))).bind fun y4 =>
 some ((!y4))
theorem en163 : Enters prog 163 := enters_of func163 (by kernel_rfl) rfl
theorem wk163 {gI : Gh} {wI : World} {x0 : Int} {x1 : Int} {x2 : List Int} {up2 : Value} (rp2 : RV gI.m wI x2 up2) {r : Bool} (h : f163 x0 x1 x2 = some r) : Fn prog 163 #[Iz (x0), Iz (x1), up2] gI wI (fun _ _ v => v = .bool (r)) := by
 unfold f163 at h;refine fnE func163 rfl rfl fun g0 hm hfr => ?_;have rp2 := RVc hm rp2;show E _ 11 none _ _ _ _ _;refine Z5 (Z4 rfl (T1 (g := g0) rfl (Zj.2 rfl) fun g1 w1 p1 hs q1 => ?_));have hfr := hfr.ext hs;have rp2 := rp2.ext hs;refine Z4 rfl (T1 (g := g1) rfl (Zj.2 rfl) fun g2 w2 p2 hs q2 => ?_);have hfr := hfr.ext hs;have rp2 := rp2.ext hs;have q1 := q1.ext hs;refine Zg (.bool false) rfl rfl (Z3 (Z5 (Zn up2 rfl rfl (Zx ((.func (.func 196) #[] #[p1, p2])) (Wt (Ui (show ev _ _ = p1 from rfl) (show ev _ _ = p2 from rfl))) rfl ?_))));obtain ⟨y4, n8, h⟩ := Z1 h;refine Z4 rfl (Zp (g := g2) (vs := [up2, (.func (.func 196) #[] #[p1, p2])]) en138 (.cons rfl (.cons rfl .nil)) (wk138 rp2 ⟨196, #[], #[p1, p2], rfl, en196, fun g' w' hch a0 b0 r hu0 hr => by obtain rfl := Zj.1 hu0; exact Fn.mono (wk196  (q1.ch hch) (q2.ch hch) hr) fun _ _ _ h => Wl.2 h⟩ n8) fun g3 w3_ v3 hs hr => ?_);have hfr := hfr.ext hs;subst hr;refine Zx (.bool (!y4)) (Qj rfl) rfl (Zg (.bool (!y4)) rfl rfl (Z3 (Z9 ?_)));obtain rfl := sinj h;exact G0 rfl rfl (rq (.bool (!y4))) ⟨_, hfr, rfl⟩
def f166 (x0 : U64) (x1 : U64) : Option (U64 × U64) :=
 (f199 x0 x1).bind fun y2 =>
 some (y2.1, y2.2)
theorem en166 : Enters prog 166 := enters_of func166 (by kernel_rfl) rfl
theorem wk166 {gI : Gh} {wI : World} {x0 : U64} {x1 : U64}  {r : U64 × U64} (h : f166 x0 x1 = some r) : Fn prog 166 #[.int .u64 ((x0).n), .int .u64 ((x1).n)] gI wI (fun m w v => ∃ y0 y1, v = .tuple #[y0, y1] ∧ y0 = .int .u64 ((r.1).n) ∧ y1 = .int .u64 ((r.2).n)) := by
 unfold f166 at h;refine fnE func166 rfl rfl fun g0 hm hfr => ?_;show E _ 30 none _ _ _ _ _;refine Z5 (Zg (.int .u64 (0)) rfl rfl (Zg (.int .u64 (0)) rfl rfl (Z3 (Zf (G1 (by rw [show ev _ _ = _ from rfl]; exact congrArg Value.bool rfl) (Zu (Zd (Z5 (Zn (.int .u64 ((x0).n)) rfl rfl (Zn (.int .u64 ((x1).n)) rfl rfl ?_))))))))));obtain ⟨y2, hy2, h⟩ := Z1 h;refine Z4 rfl (Zp (g := g0) (vs := [.int .u64 ((x0).n), .int .u64 ((x1).n)]) en199 (.cons rfl (.cons rfl .nil)) (wk199  hy2) fun g1 w1_ v1 hs hr => ?_);have hfr := hfr.ext hs;obtain ⟨n8, n9, rfl, rfl, rfl⟩ := hr;refine Zn (.tuple #[.int .u64 ((y2.1).n), .int .u64 ((y2.2).n)]) rfl rfl (Zx (.int .u64 ((y2.1).n)) (Zi rfl rfl) rfl (Zx (.int .u64 ((y2.2).n)) (Zi rfl rfl) rfl (Zg (.int .u64 ((y2.1).n)) rfl rfl (Zg (.int .u64 ((y2.2).n)) rfl rfl (Z3 (Z5 (Zn (.int .u64 ((y2.1).n)) rfl rfl (Zn (.int .u64 ((y2.2).n)) rfl rfl (Zg (.int .u64 ((y2.1).n)) rfl rfl (Zg (.int .u64 ((y2.2).n)) rfl rfl (Z3 (Z9 ?_))))))))))));obtain rfl := sinj h;exact J4 rfl rfl (rq (.int .u64 ((y2.1).n))) (rq (.int .u64 ((y2.2).n))) ⟨_, hfr, _, _, rfl, rfl, rfl⟩
def f168 (x0 : Qe) (x1 : Int) : Option (Str) :=
 Option.bind (α := List UInt8) (
  lp (σ := List UInt8 × Int) (fun eF (nB, n8) =>
   bif (decide (n8 < ((((x0).TieHarness).Warps).length : Int))) then
    Option.bind (α := List UInt8) (
     (f202 x0 x1 n8).bind fun aE =>
     (f201 aE).bind fun bE =>
     (apnd 1 nB [bE]).bind fun y43 =>
     some (y43)
     ) fun lB =>
    eF (lB, (w64 (n8 + (1 : Int))))
   else
    some (nB)
   ) big (([] : List UInt8), (0 : Int))
  ) fun oB =>
 (F7 oB).bind fun lD =>
 some (lD)
theorem en168 : Enters prog 168 := enters_of func168 (by kernel_rfl) rfl
theorem wk168 {gI : Gh} {wI : World} {x0 : Qe} {x1 : Int} {up0 : Value} (rp0 : RV gI.m wI x0 up0) {r : Str} (h : f168 x0 x1 = some r) : Fn prog 168 #[up0, Iz (x1)] gI wI (fun _ _ v => v = Str.v (r)) := by
 unfold f168 at h;refine fnE func168 rfl rfl fun g0 hm hfr => ?_;have rp0 := RVc hm rp0;show E _ 22 none _ _ _ _ _;refine Z5 (Z4 rfl (T1 (g := g0) rfl rp0 fun g1 w1 p1 hs q1 => ?_));have hfr := hfr.ext hs;refine Zg (Str.v (⟨[]⟩ : Str)) rfl rfl (Z3 (Z5 (Z4 rfl (Td (g := g1) 2005 ((⟨.pointer none, rfl⟩, []) : Fv × List UInt8) zeroValue131 (fun m w => ⟨_, Gk (show GoT.rep m w (⟨.pointer none, rfl⟩ : Fv) [.pointer none] from rfl) Q0, rfl⟩) fun g2 w2 p2 hs b2 cb => ?_))));have hfr := hfr.stp hs;have q1 := q1.stp hs;replace b2 : SB 2005 60501 g2 w2 5 131 [] p2 := ⟨_, b2, cb.osf rfl, .inl rfl⟩;clear cb;refine Z3 ?_;obtain ⟨oB, hx, h⟩ := Z1 h;refine G6 (fun e w => ∃ (g : Gh) , Fr gI wI g w ∧ e 5 = p2 ∧ SB 2005 60501 g w 5 131 (oB) p2) (fun Q' hQ => ?_) (fun lG gH hR => ?_)
 ·replace h := hx
  clear hx;refine Z5 (Zx (Gc p1 0) (Zc Cb rfl (PT.ptr q1)) rfl ?_);have rF := Zm (H7).1 q1;refine Zx (Gc (Gc p1 0) 1) (Zc Hb rfl (PT.ptr rF)) rfl ?_;have bG := Zm (Ql).1 rF;refine Z4 rfl (Z7 (g := g2) isAgg22 sizeOf22 rfl bG fun jH cG => (Zx (Iz ((((x0).TieHarness).Warps).length : Int)) (G3 underlying22 rfl cG) rfl (Zn (Iz (0)) rfl rfl (Z3 (Zr (Kv h (fun (s : List UInt8 × Int) e w => ∃ (g : Gh) , Fr gI wI g w ∧ e 1 = Iz (x1) ∧ e 2 = p1 ∧ PT g.m w (x0 : Qe) p1 ∧ e 5 = p2 ∧ SB 2005 60501 g w 5 131 (s.1) p2 ∧ e 10 = Iz (((((x0).TieHarness).Warps).length : Int)) ∧ e 11 = Iz (s.2)) ⟨g2, hfr, rfl, rfl, q1, rfl, b2, rfl, rfl⟩ (fun X27 eF sF => ?_)))))));rintro ⟨nB, n8⟩ mG kH ⟨iE, hfr, nD, oD, n9, yB, aB, zB, mB⟩ h;refine Z5 (Zx (.bool ((decide (n8 < ((((x0).TieHarness).Warps).length : Int))))) (Gp mB zB rfl) rfl (Z3 (Zf ?_)));rcases Zt h with ⟨cC, h⟩ | ⟨cC, h⟩
  ·refine Gx cC rfl (Zu (Zd ?_))
   obtain ⟨lB, hx, h⟩ := Z1 h;refine G6 (fun e w => ∃ (g : Gh) , Fr gI wI g w ∧ e 1 = Iz (x1) ∧ e 2 = p1 ∧ PT g.m w (x0 : Qe) p1 ∧ e 5 = p2 ∧ SB 2005 60501 g w 5 131 (lB) p2 ∧ e 10 = Iz (((((x0).TieHarness).Warps).length : Int)) ∧ e 11 = Iz (n8)) (fun Q' hQ => ?_) (fun yG lH hR => ?_)
   ·replace h := hx
    clear hx;refine Zr (Z5 (Zo mB rfl (Zg (Iz (n8)) rfl rfl (Z3 (Za (Z4 rfl (Z7 (g := iE) isAgg237 sizeOf237 oD n9 fun eG gG => (Zo nD rfl (Zn (Iz (n8)) rfl rfl ?_)))))))));obtain ⟨aE, vF, h⟩ := Z1 h;refine Z4 rfl (Zp (g := iE) (vs := [eG, Iz (x1), Iz (n8)]) en202 (.cons rfl (.cons rfl (.cons rfl .nil))) (wk202 gG vF) fun iG zG mH hs hr => ?_);have hfr := hfr.ext hs;have n9 := n9.ext hs;have aB := aB.ext hs;subst hr;obtain ⟨bE, xF, h⟩ := Z1 h;refine Z4 rfl (Zp (g := iG) (vs := [.bool (aE)]) en201 (.cons rfl .nil) (wk201  xF) fun nH cH oH hs hr => ?_);have hfr := hfr.ext hs;have n9 := n9.ext hs;have aB := aB.ext hs;subst hr;obtain ⟨y43, yF, h⟩ := Z1 h;refine Z4 rfl (Qg (vs := [p2, .int .u8 (UInt8.toNat (bE))]) en101 (.cons yB (.cons rfl .nil)) (wk101 (i := 2005) (j := 60501) rfl rfl aB yF) fun pH qH hq => ?_);obtain ⟨hv, jG, ⟨_, _, _, _, hs1, hs2, hs3⟩, b42⟩ := hq;subst hv;have hfr := hfr.stp hs1;have n9 := n9.stp hs1;have hfr := hfr.stp hs2;have n9 := n9.stp hs2;have hfr := hfr.stp hs3;have n9 := n9.stp hs3;clear hs1 hs2 hs3;refine Zb (Th ?_);obtain rfl := sinj h;exact hQ _ _ ⟨jG, hfr, nD, oD, n9, yB, b42, zB, mB⟩
   ·clear hx
    obtain ⟨kG, hfr, oE, rE, vE, xE, yE, lE, mE⟩ := hR;refine Za (Gd (Iz ((w64 (n8 + (1 : Int))))) mE rfl rfl rfl (Zn (Iz ((w64 (n8 + (1 : Int))))) rfl rfl ?_));exact Z3 (sF (lB, (w64 (n8 + (1 : Int)))) _ _ ⟨kG, hfr, oE, rE, vE, xE, yE, lE, rfl⟩ h)
  ·refine Gy cC rfl (Tu (G5 (G5 (Tf ?_))))
   obtain rfl := sinj h;exact hQ _ _ ⟨iE, hfr, yB, aB⟩
 ·clear hx
  obtain ⟨sH, hfr, zE, cF⟩ := hR;refine Z5 ?_;obtain ⟨lD, aG, h⟩ := Z1 h;obtain ⟨hne46, hye46⟩ := Lp aG;refine Z4 rfl (Qg (vs := [p2]) en71 (.cons zE .nil) (wk71 (i := 2005) (j := 60501) rfl cF hne46) fun tH uH hq => ?_);obtain ⟨hv, yH, hs⟩ := hq;rw [← hye46] at hv;subst hv;have hfr := hfr.stp hs;refine Zg (Str.v lD) rfl rfl (Z3 (Z9 ?_));obtain rfl := sinj h;exact G0 rfl rfl (rq (Str.v lD)) ⟨_, hfr, rfl⟩
def f173 (x0 : Int) : Option (Bool) :=
 (f163 ((1 : Int)) ((24 : Int)) (([x0] : List Int))).bind fun y3 =>
 some (y3)
theorem en173 : Enters prog 173 := enters_of func173 (by kernel_rfl) rfl
theorem wk173 {gI : Gh} {wI : World} {x0 : Int}  {r : Bool} (h : f173 x0 = some r) : Fn prog 173 #[Iz (x0)] gI wI (fun _ _ v => v = .bool (r)) := by
 unfold f173 at h;refine fnE func173 rfl rfl fun g0 hm hfr => ?_;show E _ 6 none _ _ _ _ _;refine Z5 (Zg (.bool false) rfl rfl (Z3 (Z5 (Zn (Iz (x0)) rfl rfl (Z4 rfl (Ga (g := g0) 3004 (xs := ([x0] : List Int)) (vs := [Iz (x0)]) underlying22 sizeOf3 zeroValue3 rfl rfl (.cons rfl .nil) (RVs.cons (Zj.2 rfl) RVs.nil) rfl rfl fun g1 w1 v1 hs o1 r1 hxt hfl => ?_))))));have hfr := hfr.stp hs;obtain ⟨y3, hy3, h⟩ := Z1 h;refine Z4 rfl (Zp (g := g1) (vs := [Iz (1), Iz (24), v1]) en163 (.cons rfl (.cons rfl (.cons rfl .nil))) (wk163 r1 hy3) fun g2 w2_ v2 hs hr => ?_);have hfr := hfr.ext hs;subst hr;refine Zg (.bool (y3)) rfl rfl (Z3 (Z9 ?_));obtain rfl := sinj h;exact G0 rfl rfl (rq (.bool (y3))) ⟨_, hfr, rfl⟩
def f178 (x0 : Str) (x1 : Str) : Option (Bool) :=
 Option.bind (α := Bool) (
  (f211 x0).bind fun y8 =>
  bif y8 then
   (f211 x1).bind fun y11 =>
   bif (!y11) then
    some (true)
   else
    some ((Op.bytesLess (x0).b (x1).b))
  else
   some ((Op.bytesLess (x0).b (x1).b))
  ) fun n9 =>
 some (n9)
theorem en178 : Enters prog 178 := enters_of func178 (by kernel_rfl) rfl
theorem wk178 {gI : Gh} {wI : World} {x0 : Str} {x1 : Str}  {r : Bool} (h : f178 x0 x1 = some r) : Fn prog 178 #[Str.v (x0), Str.v (x1)] gI wI (fun _ _ v => v = .bool (r)) := by
 unfold f178 at h;refine fnE func178 rfl rfl fun g0 hm hfr => ?_;show E _ 17 none _ _ _ _ _;refine Z5 (Zg (.bool false) rfl rfl (Z3 ?_));obtain ⟨n9, hx, h⟩ := Z1 h;refine G6 (fun e w => ∃ (g : Gh) , Fr gI wI g w ∧ e 4 = .bool (n9)) (fun Q' hQ => ?_) (fun nB yB hR => ?_)
 ·replace h := hx
  clear hx;refine Za (Zn (Str.v (x0)) rfl rfl ?_);obtain ⟨y8, mB, h⟩ := Z1 h;refine Z4 rfl (Zp (g := g0) (vs := [Str.v (x0)]) en211 (.cons rfl .nil) (wk211  mB) fun g7 w7_ v7 hs hr => ?_);have hfr := hfr.ext hs;subst hr;refine Zn (.bool (y8)) rfl rfl ?_;rcases Zt h with ⟨hc9, h⟩ | ⟨hc9, h⟩
  ·refine Zy (Str.v (x1)) (Zk rfl) rfl rfl hc9 rfl ?_
   obtain ⟨y11, lB, h⟩ := Z1 h;refine Ze (.yes2 rfl rfl hc9) rfl (Zp (g := g7) (vs := [Str.v (x1)]) en211 (.cons rfl .nil) (wk211  lB) fun g10 oB v10 hs hr => ?_);have hfr := hfr.ext hs;subst hr;refine Zy (.bool (!y11)) (Qj rfl) rfl rfl hc9 rfl (Zx (.bool (!y11)) (Zl (b := y8) rfl (Tc hc9 rfl)) rfl (Zn (.bool (!y11)) rfl rfl ?_));rcases Zt h with ⟨n8, h⟩ | ⟨n8, h⟩
   ·refine Zz rfl rfl n8 rfl rfl (Zz rfl rfl n8 rfl rfl (Zz rfl rfl n8 rfl rfl (Zx (.bool true) (Zl (b := (!y11)) rfl (Tc n8 rfl)) rfl (Zg (.bool true) rfl rfl (Zb ?_)))))
    obtain rfl := sinj h;exact hQ _ _ ⟨g10, hfr, rfl⟩
   ·refine Zy (Str.v (x0)) (Zk rfl) rfl rfl n8 rfl (Zy (Str.v (x1)) (Zk rfl) rfl rfl n8 rfl (Zy (.bool ((Op.bytesLess (x0).b (x1).b))) (W2 rfl rfl rfl) rfl rfl n8 rfl (Zx (.bool ((Op.bytesLess (x0).b (x1).b))) (Zl (b := (!y11)) rfl (Gz n8 rfl)) rfl (Zg (.bool ((Op.bytesLess (x0).b (x1).b))) rfl rfl (Zb ?_)))))
    obtain rfl := sinj h;exact hQ _ _ ⟨g10, hfr, rfl⟩
  ·refine Zz rfl rfl hc9 rfl rfl (Zz rfl rfl hc9 rfl rfl (Zz rfl rfl hc9 rfl rfl (Zx (.bool false) (Zl (b := y8) rfl (Gz hc9 rfl)) rfl (Zn (.bool false) rfl rfl (Zy (Str.v (x0)) (Zk rfl) rfl rfl rfl rfl (Zy (Str.v (x1)) (Zk rfl) rfl rfl rfl rfl (Zy (.bool ((Op.bytesLess (x0).b (x1).b))) (W2 rfl rfl rfl) rfl rfl rfl rfl (Zx (.bool ((Op.bytesLess (x0).b (x1).b))) (Zl (b := false) rfl (Gz rfl rfl)) rfl (Zg (.bool ((Op.bytesLess (x0).b (x1).b))) rfl rfl (Zb ?_))))))))))
   obtain rfl := sinj h;exact hQ _ _ ⟨g7, hfr, rfl⟩
 ·clear hx
  obtain ⟨zB, hfr, aB⟩ := hR;refine Z9 ?_;obtain rfl := sinj h;exact G0 rfl rfl (show _ = .bool (n9) from aB) ⟨_, hfr, rfl⟩
def f200 (x0 : Int) (x1 : Int) (x2 : List Int) : Option (Bool) :=
 (f138 x2 ((fun a0 => f228 a0 x0 x1))).bind fun y4 =>
 some ((!y4))
theorem en200 : Enters prog 200 := enters_of func200 (by kernel_rfl) rfl
theorem wk200 {gI : Gh} {wI : World} {x0 : Int} {x1 : Int} {x2 : List Int} {up2 : Value} (rp2 : RV gI.m wI x2 up2) {r : Bool} (h : f200 x0 x1 x2 = some r) : Fn prog 200 #[Iz (x0), Iz (x1), up2] gI wI (fun _ _ v => v = .bool (r)) := by
 unfold f200 at h;refine fnE func200 rfl rfl fun g0 hm hfr => ?_;have rp2 := RVc hm rp2;show E _ 11 none _ _ _ _ _;refine Z5 (Z4 rfl (T1 (g := g0) rfl (Zj.2 rfl) fun g1 w1 p1 hs q1 => ?_));have hfr := hfr.ext hs;have rp2 := rp2.ext hs;refine Z4 rfl (T1 (g := g1) rfl (Zj.2 rfl) fun g2 w2 p2 hs q2 => ?_);have hfr := hfr.ext hs;have rp2 := rp2.ext hs;have q1 := q1.ext hs;refine Zg (.bool false) rfl rfl (Z3 (Z5 (Zn up2 rfl rfl (Zx ((.func (.func 228) #[] #[p1, p2])) (Wt (Ui (show ev _ _ = p1 from rfl) (show ev _ _ = p2 from rfl))) rfl ?_))));obtain ⟨y4, n8, h⟩ := Z1 h;refine Z4 rfl (Zp (g := g2) (vs := [up2, (.func (.func 228) #[] #[p1, p2])]) en138 (.cons rfl (.cons rfl .nil)) (wk138 rp2 ⟨228, #[], #[p1, p2], rfl, en228, fun g' w' hch a0 b0 r hu0 hr => by obtain rfl := Zj.1 hu0; exact Fn.mono (wk228  (q1.ch hch) (q2.ch hch) hr) fun _ _ _ h => Wl.2 h⟩ n8) fun g3 w3_ v3 hs hr => ?_);have hfr := hfr.ext hs;subst hr;refine Zx (.bool (!y4)) (Qj rfl) rfl (Zg (.bool (!y4)) rfl rfl (Z3 (Z9 ?_)));obtain rfl := sinj h;exact G0 rfl rfl (rq (.bool (!y4))) ⟨_, hfr, rfl⟩
def f208 (x0 : Int) (x1 : List Int) : Option (Bool) :=
 (Ve (1 : Int) x0).bind fun y1 =>
 (f163 ((0 : Int)) ((w64 (y1 - (1 : Int)))) x1).bind fun y3 =>
 some (y3)
theorem en208 : Enters prog 208 := enters_of func208 (by kernel_rfl) rfl
theorem wk208 {gI : Gh} {wI : World} {x0 : Int} {x1 : List Int} {up1 : Value} (rp1 : RV gI.m wI x1 up1) {r : Bool} (h : f208 x0 x1 = some r) : Fn prog 208 #[Iz (x0), up1] gI wI (fun _ _ v => v = .bool (r)) := by
 unfold f208 at h;refine fnE func208 rfl rfl fun g0 hm hfr => ?_;have rp1 := RVc hm rp1;show E _ 10 none _ _ _ _ _;refine Z5 (Zg (.bool false) rfl rfl (Z3 (Z5 (Zn (Iz (x0)) rfl rfl ?_))));obtain ⟨y1, hy1, h⟩ := Z1 h;refine Zx (Iz (y1)) (Gp rfl rfl (congrArg (Option.map (Value.int .i64)) hy1)) rfl (Gd (Iz ((w64 (y1 - (1 : Int))))) rfl rfl rfl rfl (Zn up1 rfl rfl ?_));obtain ⟨y3, hy3, h⟩ := Z1 h;refine Z4 rfl (Zp (g := g0) (vs := [Iz (0), Iz ((w64 (y1 - (1 : Int)))), up1]) en163 (.cons rfl (.cons rfl (.cons rfl .nil))) (wk163 rp1 hy3) fun g2 w2_ v2 hs hr => ?_);have hfr := hfr.ext hs;subst hr;refine Zg (.bool (y3)) rfl rfl (Z3 (Z9 ?_));obtain rfl := sinj h;exact G0 rfl rfl (rq (.bool (y3))) ⟨_, hfr, rfl⟩
def f209 (x0 : List Gb) (x1 : Gb → Option Bool) : Option (Bool) :=
 (f231 x0 x1).bind fun y2 =>
 some ((decide (y2 ≥ (0 : Int))))
theorem en209 : Enters prog 209 := enters_of func209 (by kernel_rfl) rfl
theorem wk209 {gI : Gh} {wI : World} {x0 : List Gb} {x1 : Gb → Option Bool} {up0 : Value} (rp0 : RV gI.m wI x0 up0) {up1 : Value} (rp1 : H9 prog x1 up1 gI wI) {r : Bool} (h : f209 x0 x1 = some r) : Fn prog 209 #[up0, up1] gI wI (fun _ _ v => v = .bool (r)) := by
 unfold f209 at h;refine fnE func209 rfl rfl fun g0 hm hfr => ?_;have rp0 := RVc hm rp0;obtain ⟨ff1, fa1, fc1, rfl, fen1, fcl1⟩ := rp1;show E _ 9 none _ _ _ _ _;refine Z5 (Zg (.bool false) rfl rfl (Z3 (Z5 (Zn up0 rfl rfl (Zn ((.func (.func ff1) fa1 fc1)) rfl rfl ?_)))));obtain ⟨y2, hy2, h⟩ := Z1 h;refine Z4 rfl (Zp (g := g0) (vs := [up0, (.func (.func ff1) fa1 fc1)]) en231 (.cons rfl (.cons rfl .nil)) (wk231 rp0 (H9.ch ⟨_, _, _, rfl, fen1, fcl1⟩ hfr.ch) hy2) fun g1 w1_ v1 hs hr => ?_);have hfr := hfr.ext hs;subst hr;refine Gd (.bool ((decide (y2 ≥ (0 : Int))))) rfl rfl rfl rfl (Zg (.bool ((decide (y2 ≥ (0 : Int))))) rfl rfl (Z3 (Z9 ?_)));obtain rfl := sinj h;exact G0 rfl rfl (rq (.bool ((decide (y2 ≥ (0 : Int)))))) ⟨_, hfr, rfl⟩
def f210 (x0 : Str) (x1 : I32 → Option Bool) : Option (Int) :=
 (f232 x0 x1 true).bind fun y2 =>
 some (y2)
theorem en210 : Enters prog 210 := enters_of func210 (by kernel_rfl) rfl
theorem wk210 {gI : Gh} {wI : World} {x0 : Str} {x1 : I32 → Option Bool} {up1 : Value} (rp1 : H9 prog x1 up1 gI wI) {r : Int} (h : f210 x0 x1 = some r) : Fn prog 210 #[Str.v (x0), up1] gI wI (fun _ _ v => v = Iz (r)) := by
 unfold f210 at h;refine fnE func210 rfl rfl fun g0 hm hfr => ?_;obtain ⟨ff1, fa1, fc1, rfl, fen1, fcl1⟩ := rp1;show E _ 8 none _ _ _ _ _;refine Z5 (Zg (Iz (0)) rfl rfl (Z3 (Z5 (Zn (Str.v (x0)) rfl rfl (Zn ((.func (.func ff1) fa1 fc1)) rfl rfl ?_)))));obtain ⟨y2, hy2, h⟩ := Z1 h;refine Z4 rfl (Zp (g := g0) (vs := [Str.v (x0), (.func (.func ff1) fa1 fc1), .bool true]) en232 (.cons rfl (.cons rfl (.cons rfl .nil))) (wk232 (H9.ch ⟨_, _, _, rfl, fen1, fcl1⟩ hfr.ch) hy2) fun g1 w1_ v1 hs hr => ?_);have hfr := hfr.ext hs;subst hr;refine Zg (Iz (y2)) rfl rfl (Z3 (Z9 ?_));obtain rfl := sinj h;exact G0 rfl rfl (rq (Iz (y2))) ⟨_, hfr, rfl⟩
def f227 (x0 : U64) : Option (U64) :=
 (Kz ((x0).n) ((1 : Int))).bind fun y1 =>
 (Co (G9 .and ((x0).n) ((6148914691236517205 : Int))) ((1 : Int))).bind fun y2 =>
 (Kz (G9 .or (G9 .and y1 ((6148914691236517205 : Int))) y2) ((2 : Int))).bind fun y3 =>
 (Co (G9 .and (G9 .or (G9 .and y1 ((6148914691236517205 : Int))) y2) ((3689348814741910323 : Int))) ((2 : Int))).bind fun y4 =>
 (Kz (G9 .or (G9 .and y3 ((3689348814741910323 : Int))) y4) ((4 : Int))).bind fun y5 =>
 (Co (G9 .and (G9 .or (G9 .and y3 ((3689348814741910323 : Int))) y4) ((1085102592571150095 : Int))) ((4 : Int))).bind fun y6 =>
 (f241 ((⟨G9 .or (G9 .and y5 ((1085102592571150095 : Int))) y6⟩ : U64))).bind fun y8 =>
 some (y8)
theorem en227 : Enters prog 227 := enters_of func227 (by kernel_rfl) rfl
theorem wk227 {gI : Gh} {wI : World} {x0 : U64}  {r : U64} (h : f227 x0 = some r) : Fn prog 227 #[.int .u64 ((x0).n)] gI wI (fun _ _ v => v = .int .u64 ((r).n)) := by
 unfold f227 at h;refine fnE func227 rfl rfl fun g0 hm hfr => ?_;show E _ 26 none _ _ _ _ _;refine Z5 (Zg (.int .u64 (0)) rfl rfl (Z3 (Z5 (Zn (.int .u64 ((x0).n)) rfl rfl ?_))));obtain ⟨y1, hy1, h⟩ := Z1 h;refine Zx (.int .u64 (y1)) (Je rfl rfl hy1) rfl (Zx (.int .u64 (G9 .and y1 ((6148914691236517205 : Int)))) (Kj (by simp) rfl rfl) rfl (Zn (.int .u64 ((x0).n)) rfl rfl (Zx (.int .u64 (G9 .and ((x0).n) ((6148914691236517205 : Int)))) (Kj (by simp) rfl rfl) rfl ?_)));obtain ⟨y2, hy2, h⟩ := Z1 h;refine Zx (.int .u64 (y2)) (Xd rfl rfl hy2) rfl (Zx (.int .u64 (G9 .or (G9 .and y1 ((6148914691236517205 : Int))) y2)) (Kj (by simp) rfl rfl) rfl (Zg (.int .u64 (G9 .or (G9 .and y1 ((6148914691236517205 : Int))) y2)) rfl rfl (Z3 (Z5 (Zn (.int .u64 (G9 .or (G9 .and y1 ((6148914691236517205 : Int))) y2)) rfl rfl ?_)))));obtain ⟨y3, hy3, h⟩ := Z1 h;refine Zx (.int .u64 (y3)) (Je rfl rfl hy3) rfl (Zx (.int .u64 (G9 .and y3 ((3689348814741910323 : Int)))) (Kj (by simp) rfl rfl) rfl (Zn (.int .u64 (G9 .or (G9 .and y1 ((6148914691236517205 : Int))) y2)) rfl rfl (Zx (.int .u64 (G9 .and (G9 .or (G9 .and y1 ((6148914691236517205 : Int))) y2) ((3689348814741910323 : Int)))) (Kj (by simp) rfl rfl) rfl ?_)));obtain ⟨y4, n8, h⟩ := Z1 h;refine Zx (.int .u64 (y4)) (Xd rfl rfl n8) rfl (Zx (.int .u64 (G9 .or (G9 .and y3 ((3689348814741910323 : Int))) y4)) (Kj (by simp) rfl rfl) rfl (Zg (.int .u64 (G9 .or (G9 .and y3 ((3689348814741910323 : Int))) y4)) rfl rfl (Z3 (Z5 (Zn (.int .u64 (G9 .or (G9 .and y3 ((3689348814741910323 : Int))) y4)) rfl rfl ?_)))));obtain ⟨y5, hy5, h⟩ := Z1 h;refine Zx (.int .u64 (y5)) (Je rfl rfl hy5) rfl (Zx (.int .u64 (G9 .and y5 ((1085102592571150095 : Int)))) (Kj (by simp) rfl rfl) rfl (Zn (.int .u64 (G9 .or (G9 .and y3 ((3689348814741910323 : Int))) y4)) rfl rfl (Zx (.int .u64 (G9 .and (G9 .or (G9 .and y3 ((3689348814741910323 : Int))) y4) ((1085102592571150095 : Int)))) (Kj (by simp) rfl rfl) rfl ?_)));obtain ⟨y6, n9, h⟩ := Z1 h;refine Zx (.int .u64 (y6)) (Xd rfl rfl n9) rfl (Zx (.int .u64 (G9 .or (G9 .and y5 ((1085102592571150095 : Int))) y6)) (Kj (by simp) rfl rfl) rfl (Zg (.int .u64 (G9 .or (G9 .and y5 ((1085102592571150095 : Int))) y6)) rfl rfl (Z3 (Z5 (Zn (.int .u64 (G9 .or (G9 .and y5 ((1085102592571150095 : Int))) y6)) rfl rfl ?_)))));obtain ⟨y8, aB, h⟩ := Z1 h;refine Z4 rfl (Zp (g := g0) (vs := [.int .u64 (G9 .or (G9 .and y5 ((1085102592571150095 : Int))) y6)]) en241 (.cons rfl .nil) (wk241  aB) fun g7 w7_ v7 hs hr => ?_);have hfr := hfr.ext hs;subst hr;refine Zg (.int .u64 ((y8).n)) rfl rfl (Z3 (Z9 ?_));obtain rfl := sinj h;exact G0 rfl rfl (rq (.int .u64 ((y8).n))) ⟨_, hfr, rfl⟩
def f24 (x0 : Gg) (x1 : Gg) : Option (Bool) :=
 jn (σ := Unit) (fun _ =>
  jn (σ := Unit) (fun _ =>
   jn (σ := Unit) (fun _ =>
    some (true)
    ) fun tK =>
   lp (σ := Int) (fun uK n9 =>
    jn (σ := Unit) (fun _ =>
     jn (σ := Unit) (fun _ =>
      uK ((w64 (n9 + (1 : Int))))
      ) fun vK =>
     Option.bind (α := Bool) (
      (idx ((x0).Chains) n9).bind fun mE =>
      (idx ((x1).Chains) n9).bind fun oE =>
      bif (!(((mE).Name).b == ((oE).Name).b)) then
       some (true)
      else
       (idx ((x0).Chains) n9).bind fun xK =>
       (idx ((x1).Chains) n9).bind fun yK =>
       (f72 ((xK).Chain) ((yK).Chain)).bind fun xF =>
       some ((!xF))
      ) fun rE =>
     bif rE then
      some (false)
     else
      vK ()
     ) fun zK =>
    bif (decide (n9 < (((x0).Chains).length : Int))) then
     zK ()
    else
     tK ()
    ) big ((0 : Int))
   ) fun bO =>
  lp (σ := Int) (fun cO n8 =>
   jn (σ := Unit) (fun _ =>
    jn (σ := Unit) (fun _ =>
     cO ((w64 (n8 + (1 : Int))))
     ) fun aL =>
    Option.bind (α := Bool) (
     (idx ((x0).Ties) n8).bind fun lD =>
     (idx ((x1).Ties) n8).bind fun nD =>
     bif (!(((lD).Name).b == ((nD).Name).b)) then
      some (true)
     else
      (idx ((x0).Ties) n8).bind fun oD =>
      (idx ((x1).Ties) n8).bind fun aE =>
      bif (((oD).Harness).Hooks != ((aE).Harness).Hooks) then
       some (true)
      else
       (idx ((x0).Ties) n8).bind fun bL =>
       (idx ((x1).Ties) n8).bind fun dL =>
       (f58 (((bL).Harness).Warps) (((dL).Harness).Warps)).bind fun yF =>
       some ((!yF))
     ) fun zE =>
    bif zE then
     some (false)
    else
     aL ()
    ) fun dO =>
   bif (decide (n8 < (((x0).Ties).length : Int))) then
    dO ()
   else
    bO ()
   ) big ((0 : Int))
  ) fun k23 =>
 Option.bind (α := Bool) (
  bif ((((x0).Ties).length : Int) != (((x1).Ties).length : Int)) then
   some (true)
  else
   some (((((x0).Chains).length : Int) != (((x1).Chains).length : Int)))
  ) fun vF =>
 bif vF then
  some (false)
 else
  k23 ()
theorem en24 : Enters prog 24 := enters_of func24 (by kernel_rfl) rfl
theorem wk24 {gI : Gh} {wI : World} {x0 : Gg} {x1 : Gg} {up0 : Value} (rp0 : RV gI.m wI x0 up0) {up1 : Value} (rp1 : RV gI.m wI x1 up1) {r : Bool} (h : f24 x0 x1 = some r) : Fn prog 24 #[up0, up1] gI wI (fun _ _ v => v = .bool (r)) := by
 unfold f24 at h;refine fnE func24 rfl rfl fun g0 hm hfr => ?_;have rp0 := RVc hm rp0;have rp1 := RVc hm rp1;show E _ 114 none _ _ _ _ _;refine Z5 (Z4 rfl (T1 (g := g0) rfl rp0 fun g1 w1 p1 hs q1 => ?_));have hfr := hfr.ext hs;have rp1 := rp1.ext hs;refine Z4 rfl (T1 (g := g1) rfl rp1 fun g2 w2 p2 hs q2 => ?_);have hfr := hfr.ext hs;have q1 := q1.ext hs;refine Zg (.bool false) rfl rfl (Z3 (Zq h (fun (s : Unit) e w => ∃ (g : Gh) , Fr gI wI g w ∧ e 2 = p1 ∧ PT g.m w (x0 : Gg) p1 ∧ e 3 = p2 ∧ PT g.m w (x1 : Gg) p2) (fun X23 k23 uR h => ?_) ?_))
 ·obtain ⟨vF, hx, h⟩ := Z1 h
  refine G6 (fun e w => ∃ (g : Gh) , Fr gI wI g w ∧ e 2 = p1 ∧ PT g.m w (x0 : Gg) p1 ∧ e 3 = p2 ∧ PT g.m w (x1 : Gg) p2 ∧ e 22 = .bool (vF)) (fun Q' hQ => ?_) (fun lU qU hR => ?_)
  ·replace h := hx
   clear hx;refine Za (Zx (Gc p1 0) (Zc Qm rfl (PT.ptr q1)) rfl ?_);have zR := Zm (Tl).1 q1;refine Z4 rfl (Z7 (g := g2) isAgg36 sizeOf36 rfl zR fun rU aS => (Zx (Iz (((x0).Ties).length : Int)) (G3 underlying36 rfl aS) rfl (Zx (Gc p2 0) (Zc Qm rfl (PT.ptr q2)) rfl ?_)));have cS := Zm (Tl).1 q2;refine Z4 rfl (Z7 (g := g2) isAgg36 sizeOf36 rfl cS fun sU dS => (Zx (Iz (((x1).Ties).length : Int)) (G3 underlying36 rfl dS) rfl (Gd (.bool (((((x0).Ties).length : Int) != (((x1).Ties).length : Int)))) rfl rfl rfl rfl (Zn (.bool (((((x0).Ties).length : Int) != (((x1).Ties).length : Int)))) rfl rfl ?_))));rcases Zt h with ⟨vE, h⟩ | ⟨vE, h⟩
   ·refine Zz rfl rfl vE rfl rfl ?_
    iterate 6 refine Zz rfl rfl vE rfl rfl ?_
    refine Zx (.bool true) (Zl (b := ((((x0).Ties).length : Int) != (((x1).Ties).length : Int))) rfl (Tc vE rfl)) rfl (Zb ?_);obtain rfl := sinj h;exact hQ _ _ ⟨g2, hfr, rfl, q1, rfl, q2, rfl⟩
   ·refine Zy (Gc p1 1) (Zc Q9 rfl (PT.ptr q1)) rfl rfl vE rfl ?_
    have eS := Zm (Tt).1 q1;refine Ze (.yes2 rfl rfl vE) rfl (Z7 (g := g2) isAgg37 sizeOf37 rfl eS fun tU gS => (Zy (Iz (((x0).Chains).length : Int)) (G3 underlying37 rfl gS) rfl rfl vE rfl (Zy (Gc p2 1) (Zc Q9 rfl (PT.ptr q2)) rfl rfl vE rfl ?_)));have iS := Zm (Tt).1 q2;refine Ze (.yes2 rfl rfl vE) rfl (Z7 (g := g2) isAgg37 sizeOf37 rfl iS fun uU jS => (Zy (Iz (((x1).Chains).length : Int)) (G3 underlying37 rfl jS) rfl rfl vE rfl (Zy (.bool (((((x0).Chains).length : Int) != (((x1).Chains).length : Int)))) (Gp rfl rfl rfl) rfl rfl vE rfl (Zx (.bool (((((x0).Chains).length : Int) != (((x1).Chains).length : Int)))) (Zl (b := ((((x0).Ties).length : Int) != (((x1).Ties).length : Int))) rfl (Gz vE rfl)) rfl (Zb ?_)))));obtain rfl := sinj h;exact hQ _ _ ⟨g2, hfr, rfl, q1, rfl, q2, rfl⟩
  ·clear hx
   obtain ⟨lS, hfr, xO, yO, zO, aP, oJ⟩ := hR;rcases Zt h with ⟨pK, h⟩ | ⟨pK, h⟩
   ·refine Ta (Eq.trans (show ev _ _ = .bool (vF) from oJ) (congrArg Value.bool pK)) (Z5 (Zg (.bool false) rfl rfl (Z3 (Z9 (Gf ?_)))))
    obtain rfl := sinj h;exact G0 rfl rfl (rq (.bool false)) ⟨_, hfr, rfl⟩
   ·refine G1 (Eq.trans (show ev _ _ = .bool (vF) from oJ) (congrArg Value.bool pK)) ?_
    exact Zu (Zd (uR () _ _ ⟨lS, hfr, xO, yO, zO, aP⟩ h))
 ·rintro _ mU vU ⟨mS, hfr, cP, dP, eP, gP⟩ h
  refine Zq h (fun (s : Unit) e w => ∃ (g : Gh) , Fr gI wI g w ∧ e 2 = p1 ∧ PT g.m w (x0 : Gg) p1 ∧ e 3 = p2 ∧ PT g.m w (x1 : Gg) p2) (fun X862 bO iP h => ?_) ?_
  ·refine Z5 (Zg (Iz (0)) rfl rfl (Z3 (Zr (Kv h (fun (s : Int) e w => ∃ (g : Gh) , Fr gI wI g w ∧ e 2 = p1 ∧ PT g.m w (x0 : Gg) p1 ∧ e 3 = p2 ∧ PT g.m w (x1 : Gg) p2 ∧ e 5 = Iz (s)) ⟨mS, hfr, cP, dP, eP, gP, rfl⟩ (fun X863 cO jP => ?_)))))
   rintro n8 vS nU ⟨qK, hfr, gH, cG, pJ, qJ, rJ⟩ h;refine Zq h (fun (s : Unit) e w => ∃ (g : Gh) , Fr gI wI g w ∧ e 2 = p1 ∧ PT g.m w (x0 : Gg) p1 ∧ e 3 = p2 ∧ PT g.m w (x1 : Gg) p2 ∧ e 5 = Iz (n8)) (fun X868 dO kP h => ?_) ?_
   ·refine Z5 (Zo rJ rfl (Zx (Gc p1 0) (Zc Qm gH (PT.ptr cG)) rfl ?_))
    have xR := Zm (Tl).1 cG;refine Z4 rfl (Z7 (g := qK) isAgg36 sizeOf36 rfl xR fun oU yR => (Zx (Iz (((x0).Ties).length : Int)) (G3 underlying36 rfl yR) rfl (Zx (.bool ((decide (n8 < (((x0).Ties).length : Int))))) (Gp rfl rfl rfl) rfl (Z3 ?_))));rcases Zt h with ⟨bI, h⟩ | ⟨bI, h⟩
    ·refine Gx bI rfl ?_
     exact Zu (Zd (kP () _ _ ⟨qK, hfr, gH, cG, pJ, qJ, rJ⟩ h))
    ·refine Gy bI rfl (Tu (G5 (G5 (Tf ?_))))
     exact Zd (iP () _ _ ⟨qK, hfr, gH, cG, pJ, qJ⟩ h)
   ·rintro _ xS pU ⟨sK, hfr, iE, mB, lE, nB, yB⟩ h
    refine Zq h (fun (s : Unit) e w => ∃ (g : Gh) , Fr gI wI g w ∧ e 2 = p1 ∧ PT g.m w (x0 : Gg) p1 ∧ e 3 = p2 ∧ PT g.m w (x1 : Gg) p2 ∧ e 5 = Iz (n8)) (fun X1275 aL eO h => ?_) ?_
    ·refine Zr ?_
     obtain ⟨zE, hx, h⟩ := Z1 h;refine G6 (fun e w => ∃ (g : Gh) , Fr gI wI g w ∧ e 2 = p1 ∧ PT g.m w (x0 : Gg) p1 ∧ e 3 = p2 ∧ PT g.m w (x1 : Gg) p2 ∧ e 5 = Iz (n8) ∧ e 77 = .bool (zE)) (fun Q' hQ => ?_) (fun nS yS hR => ?_)
     ·replace h := hx
      clear hx;have lP := Zm (Tl).1 mB;refine Zs (x := .tmp 30) isAgg36 sizeOf36 lP fun xE kG jH => ?_;obtain ⟨lD, eG, h⟩ := Z1 h;have lG := Gn kG eG;have sP := Zm (K0).1 lG;refine Zs (x := .tmp 34) isAgg9 sizeOf9 sP fun zS tP kH => ?_;obtain rfl := Ts.1 tP;have uP := Zm (Tl).1 nB;refine Zs (x := .tmp 36) isAgg36 sizeOf36 uP fun yE mG lH => ?_;obtain ⟨nD, gG, h⟩ := Z1 h;have yG := Gn mG gG;have vP := Zm (K0).1 yG;refine Zs (x := .tmp 40) isAgg9 sizeOf9 vP fun eT xP mH => ?_;obtain rfl := Ts.1 xP;rcases Zt h with ⟨aB, h⟩ | ⟨aB, h⟩
      ·refine T6 (g := sK) (n := 48) [] [0, 1, 2, 3, 4, 5, 6, 7, 8, 9, 10, 11, 12, 13, 14, 15, 16, 17, 18, 19, 20, 21, 22, 23, 24, 25, 26, 27, 28, 29, 30, 31, 32, 33, 34, 35, 36, 37, 38, 39, 40, 41, 42, 43, 44, 45, 46, 47] rfl mixed (by kernel_rfl) trivial (Z0 (Gc p1 0) rfl rfl (Zc Qm iE (PT.ptr mB)) (Ti (c := xE) rfl rfl .plain (fun _ _ h => h.ch) jH rfl (Z0 (Iz (n8)) rfl rfl (Zk yB) (Z0 (Gq xE n8 3) rfl rfl (Zh (α := Gs) underlying36 sizeOf108 rfl kG rfl eG) (Z0 (Gc (Gq xE n8 3) 0) rfl rfl (Zc Hu rfl (PT.ptr lG)) (Ti (c := Str.v ((lD).Name)) rfl rfl .plain (fun _ _ h => h.ch) kH rfl (Z0 (Gc p2 0) rfl rfl (Zc Qm lE (PT.ptr nB)) (Ti (c := yE) rfl rfl .plain (fun _ _ h => h.ch) lH rfl (Z0 (Iz (n8)) rfl rfl (Zk yB) (Z0 (Gq yE n8 3) rfl rfl (Zh (α := Gs) underlying36 sizeOf108 rfl mG rfl gG) (Z0 (Gc (Gq yE n8 3) 0) rfl rfl (Zc Hu rfl (PT.ptr yG)) (Ti (c := Str.v ((nD).Name)) rfl rfl .plain (fun _ _ h => h.ch) mH rfl (Z0 (.bool ((!(((lD).Name).b == ((nD).Name).b)))) rfl rfl (W2 rfl rfl rfl) (Z0 (.bool ((!(((lD).Name).b == ((nD).Name).b)))) rfl rfl (Zk rfl) ?_))))))))))))))
       iterate 15 refine L_s rfl rfl rfl aB rfl ?_
       refine Z0 (.bool true) rfl rfl (Zl (b := (!(((lD).Name).b == ((nD).Name).b))) rfl (Tc aB rfl)) (Aq (fun _ => rfl) 18 rfl (Jd fun yP lT hs => ?_));have hfr := hfr.ext hs;have mB := mB.ext hs;have nB := nB.ext hs;clear hs;refine Zb ?_;obtain rfl := sinj h;exact hQ _ _ ⟨yP, hfr, iE, mB, lE, nB, yB, rfl⟩
      ·have zP := Zm (Tl).1 mB
       refine Zs (x := .tmp 44) isAgg36 sizeOf36 zP fun cF dI sJ => ?_;obtain ⟨oD, nH, h⟩ := Z1 h;have iI := Gn dI nH;have jI := Zm (Ws).1 iI;have bQ := Zm (Qx).1 jI;refine Zs (x := .tmp 49) isAgg3 sizeOf3 bQ fun mT cQ vJ => ?_;obtain rfl := Zj.1 cQ;have dQ := Zm (Tl).1 nB;refine Zs (x := .tmp 51) isAgg36 sizeOf36 dQ fun eF kI xJ => ?_;obtain ⟨aE, oH, h⟩ := Z1 h;have lI := Gn kI oH;have mI := Zm (Ws).1 lI;have eQ := Zm (Qx).1 mI;refine Zs (x := .tmp 56) isAgg3 sizeOf3 eQ fun nT gQ zJ => ?_;obtain rfl := Zj.1 gQ;rcases Zt h with ⟨lB, h⟩ | ⟨lB, h⟩
       ·refine T6 (g := sK) (n := 48) [] [0, 1, 2, 3, 4, 5, 6, 7, 8, 9, 10, 11, 12, 13, 14, 15, 16, 17, 18, 19, 20, 21, 22, 23, 24, 25, 26, 27, 28, 29, 30, 31, 32, 33, 34, 35, 36, 37, 38, 39, 40, 41, 42, 43, 44, 45, 46, 47] rfl mixed (by kernel_rfl) trivial (Z0 (Gc p1 0) rfl rfl (Zc Qm iE (PT.ptr mB)) (Ti (c := xE) rfl rfl .plain (fun _ _ h => h.ch) jH rfl (Z0 (Iz (n8)) rfl rfl (Zk yB) (Z0 (Gq xE n8 3) rfl rfl (Zh (α := Gs) underlying36 sizeOf108 rfl kG rfl eG) (Z0 (Gc (Gq xE n8 3) 0) rfl rfl (Zc Hu rfl (PT.ptr lG)) (Ti (c := Str.v ((lD).Name)) rfl rfl .plain (fun _ _ h => h.ch) kH rfl (Z0 (Gc p2 0) rfl rfl (Zc Qm lE (PT.ptr nB)) (Ti (c := yE) rfl rfl .plain (fun _ _ h => h.ch) lH rfl (Z0 (Iz (n8)) rfl rfl (Zk yB) (Z0 (Gq yE n8 3) rfl rfl (Zh (α := Gs) underlying36 sizeOf108 rfl mG rfl gG) (Z0 (Gc (Gq yE n8 3) 0) rfl rfl (Zc Hu rfl (PT.ptr yG)) (Ti (c := Str.v ((nD).Name)) rfl rfl .plain (fun _ _ h => h.ch) mH rfl (Z0 (.bool ((!(((lD).Name).b == ((nD).Name).b)))) rfl rfl (W2 rfl rfl rfl) (Z0 (.bool ((!(((lD).Name).b == ((nD).Name).b)))) rfl rfl (Zk rfl) (L_y (Gc p1 0) rfl rfl rfl rfl aB (Zc Qm iE (PT.ptr mB)) (Ti (c := cF) rfl rfl (.yes2 rfl rfl aB) (fun _ _ h => h.ch) sJ rfl ?_))))))))))))))))
        refine L_y (Iz (n8)) rfl rfl rfl rfl aB (Zk yB) (L_y (Gq cF n8 3) rfl rfl rfl rfl aB (Zh (α := Gs) underlying36 sizeOf108 rfl dI rfl nH) (L_y (Gc (Gq cF n8 3) 1) rfl rfl rfl rfl aB (Zc K9 rfl (PT.ptr iI)) (L_y (Gc (Gc (Gq cF n8 3) 1) 0) rfl rfl rfl rfl aB (Zc Hq rfl (PT.ptr jI)) (Ti (c := Iz (((oD).Harness).Hooks)) rfl rfl (.yes2 rfl rfl aB) (fun _ _ h => h.ch) vJ rfl (L_y (Gc p2 0) rfl rfl rfl rfl aB (Zc Qm lE (PT.ptr nB)) (Ti (c := eF) rfl rfl (.yes2 rfl rfl aB) (fun _ _ h => h.ch) xJ rfl (L_y (Iz (n8)) rfl rfl rfl rfl aB (Zk yB) (L_y (Gq eF n8 3) rfl rfl rfl rfl aB (Zh (α := Gs) underlying36 sizeOf108 rfl kI rfl oH) (L_y (Gc (Gq eF n8 3) 1) rfl rfl rfl rfl aB (Zc K9 rfl (PT.ptr lI)) (L_y (Gc (Gc (Gq eF n8 3) 1) 0) rfl rfl rfl rfl aB (Zc Hq rfl (PT.ptr mI)) (Ti (c := Iz (((aE).Harness).Hooks)) rfl rfl (.yes2 rfl rfl aB) (fun _ _ h => h.ch) zJ rfl (L_y (.bool ((((oD).Harness).Hooks != ((aE).Harness).Hooks))) rfl rfl rfl rfl aB (Gp rfl rfl rfl) (Z0 (.bool ((((oD).Harness).Hooks != ((aE).Harness).Hooks))) rfl rfl (Zl (b := (!(((lD).Name).b == ((nD).Name).b))) rfl (Gz aB rfl)) (Z0 (.bool ((((oD).Harness).Hooks != ((aE).Harness).Hooks))) rfl rfl (Zk rfl) ?_))))))))))))));iterate 16 refine L_s rfl rfl rfl lB rfl ?_
        refine Z0 (.bool true) rfl rfl (Zl (b := (((oD).Harness).Hooks != ((aE).Harness).Hooks)) rfl (Tc lB rfl)) (Jd fun iQ oT hs => ?_);have hfr := hfr.ext hs;have mB := mB.ext hs;have nB := nB.ext hs;clear hs;refine Zb ?_;obtain rfl := sinj h;exact hQ _ _ ⟨iQ, hfr, iE, mB, lE, nB, yB, rfl⟩
       ·have jQ := Zm (Tl).1 mB
        refine Zs (x := .tmp 61) isAgg36 sizeOf36 jQ fun zG eL gO => ?_;obtain ⟨bL, aK, h⟩ := Z1 h;have gL := Gn eL aK;have iL := Zm (Ws).1 gL;have kQ := Zm (Ql).1 iL;refine Zs (x := .tmp 66) isAgg22 sizeOf22 kQ fun jL lQ jO => ?_;have mQ := Zm (Tl).1 nB;refine Zs (x := .tmp 68) isAgg36 sizeOf36 mQ fun cH lL kO => ?_;obtain ⟨dL, bK, h⟩ := Z1 h;have mL := Gn lL bK;have nL := Zm (Ws).1 mL;have nQ := Zm (Ql).1 nL;refine Zs (x := .tmp 73) isAgg22 sizeOf22 nQ fun oL oQ lO => ?_;obtain ⟨yF, mO, h⟩ := Z1 h;refine T6 (g := sK) (n := 48) [(45, (fun v g w => v = .bool (yF)))] [0, 1, 2, 3, 4, 5, 6, 7, 8, 9, 10, 11, 12, 13, 14, 15, 16, 17, 18, 19, 20, 21, 22, 23, 24, 25, 26, 27, 28, 29, 30, 31, 32, 33, 34, 35, 36, 37, 38, 39, 40, 41, 42, 43, 44, 45, 46, 47] rfl mixed (by kernel_rfl) (⟨fun _ => Ha _, trivial⟩) (Z0 (Gc p1 0) rfl rfl (Zc Qm iE (PT.ptr mB)) (Ti (c := xE) rfl rfl .plain (fun _ _ h => h.ch) jH rfl (Z0 (Iz (n8)) rfl rfl (Zk yB) (Z0 (Gq xE n8 3) rfl rfl (Zh (α := Gs) underlying36 sizeOf108 rfl kG rfl eG) (Z0 (Gc (Gq xE n8 3) 0) rfl rfl (Zc Hu rfl (PT.ptr lG)) (Ti (c := Str.v ((lD).Name)) rfl rfl .plain (fun _ _ h => h.ch) kH rfl (Z0 (Gc p2 0) rfl rfl (Zc Qm lE (PT.ptr nB)) (Ti (c := yE) rfl rfl .plain (fun _ _ h => h.ch) lH rfl (Z0 (Iz (n8)) rfl rfl (Zk yB) (Z0 (Gq yE n8 3) rfl rfl (Zh (α := Gs) underlying36 sizeOf108 rfl mG rfl gG) (Z0 (Gc (Gq yE n8 3) 0) rfl rfl (Zc Hu rfl (PT.ptr yG)) (Ti (c := Str.v ((nD).Name)) rfl rfl .plain (fun _ _ h => h.ch) mH rfl (Z0 (.bool ((!(((lD).Name).b == ((nD).Name).b)))) rfl rfl (W2 rfl rfl rfl) (Z0 (.bool ((!(((lD).Name).b == ((nD).Name).b)))) rfl rfl (Zk rfl) (L_y (Gc p1 0) rfl rfl rfl rfl aB (Zc Qm iE (PT.ptr mB)) (Ti (c := cF) rfl rfl (.yes2 rfl rfl aB) (fun _ _ h => h.ch) sJ rfl ?_))))))))))))))));refine L_y (Iz (n8)) rfl rfl rfl rfl aB (Zk yB) (L_y (Gq cF n8 3) rfl rfl rfl rfl aB (Zh (α := Gs) underlying36 sizeOf108 rfl dI rfl nH) (L_y (Gc (Gq cF n8 3) 1) rfl rfl rfl rfl aB (Zc K9 rfl (PT.ptr iI)) (L_y (Gc (Gc (Gq cF n8 3) 1) 0) rfl rfl rfl rfl aB (Zc Hq rfl (PT.ptr jI)) (Ti (c := Iz (((oD).Harness).Hooks)) rfl rfl (.yes2 rfl rfl aB) (fun _ _ h => h.ch) vJ rfl (L_y (Gc p2 0) rfl rfl rfl rfl aB (Zc Qm lE (PT.ptr nB)) (Ti (c := eF) rfl rfl (.yes2 rfl rfl aB) (fun _ _ h => h.ch) xJ rfl (L_y (Iz (n8)) rfl rfl rfl rfl aB (Zk yB) (L_y (Gq eF n8 3) rfl rfl rfl rfl aB (Zh (α := Gs) underlying36 sizeOf108 rfl kI rfl oH) (L_y (Gc (Gq eF n8 3) 1) rfl rfl rfl rfl aB (Zc K9 rfl (PT.ptr lI)) (L_y (Gc (Gc (Gq eF n8 3) 1) 0) rfl rfl rfl rfl aB (Zc Hq rfl (PT.ptr mI)) (Ti (c := Iz (((aE).Harness).Hooks)) rfl rfl (.yes2 rfl rfl aB) (fun _ _ h => h.ch) zJ rfl (L_y (.bool ((((oD).Harness).Hooks != ((aE).Harness).Hooks))) rfl rfl rfl rfl aB (Gp rfl rfl rfl) (Z0 (.bool ((((oD).Harness).Hooks != ((aE).Harness).Hooks))) rfl rfl (Zl (b := (!(((lD).Name).b == ((nD).Name).b))) rfl (Gz aB rfl)) (Z0 (.bool ((((oD).Harness).Hooks != ((aE).Harness).Hooks))) rfl rfl (Zk rfl) (L_y (Gc p1 0) rfl rfl rfl rfl lB (Zc Qm iE (PT.ptr mB)) (Ti (c := zG) rfl rfl (.yes2 rfl rfl lB) (fun _ _ h => h.ch) gO rfl ?_))))))))))))))));refine L_y (Iz (n8)) rfl rfl rfl rfl lB (Zk yB) (L_y (Gq zG n8 3) rfl rfl rfl rfl lB (Zh (α := Gs) underlying36 sizeOf108 rfl eL rfl aK) (L_y (Gc (Gq zG n8 3) 1) rfl rfl rfl rfl lB (Zc K9 rfl (PT.ptr gL)) (L_y (Gc (Gc (Gq zG n8 3) 1) 1) rfl rfl rfl rfl lB (Zc Hb rfl (PT.ptr iL)) (Ti (c := jL) rfl rfl (.yes2 rfl rfl lB) (fun _ _ h => h.ch) jO rfl (L_y (Gc p2 0) rfl rfl rfl rfl lB (Zc Qm lE (PT.ptr nB)) (Ti (c := cH) rfl rfl (.yes2 rfl rfl lB) (fun _ _ h => h.ch) kO rfl (L_y (Iz (n8)) rfl rfl rfl rfl lB (Zk yB) (L_y (Gq cH n8 3) rfl rfl rfl rfl lB (Zh (α := Gs) underlying36 sizeOf108 rfl lL rfl bK) (L_y (Gc (Gq cH n8 3) 1) rfl rfl rfl rfl lB (Zc K9 rfl (PT.ptr mL)) (L_y (Gc (Gc (Gq cH n8 3) 1) 1) rfl rfl rfl rfl lB (Zc Hb rfl (PT.ptr nL)) (Ti (c := oL) rfl rfl (.yes2 rfl rfl lB) (fun _ _ h => h.ch) lO rfl (Hn (φ := fun v g w => v = .bool (yF)) rfl rfl (.yes2 rfl rfl lB) (fun g w hd => Zp (g := g) (vs := [jL, oL]) en58 (.cons rfl (.cons rfl .nil)) (wk58 (lQ.ext hd.1) (oQ.ext hd.1) mO) fun g' w' v hs hr => ⟨g', hs, hr⟩) (fun pT hv => ?_)))))))))))))
        obtain ⟨_, _, _, rfl⟩ := hv;refine L_y (.bool (!yF)) rfl rfl rfl rfl lB (Qj rfl) (Z0 (.bool (!yF)) rfl rfl (Zl (b := (((oD).Harness).Hooks != ((aE).Harness).Hooks)) rfl (Gz lB rfl)) (Jd fun pQ sT hs => ?_));have hfr := hfr.ext hs;have mB := mB.ext hs;have nB := nB.ext hs;clear hs;refine Zb ?_;obtain rfl := sinj h;exact hQ _ _ ⟨pQ, hfr, iE, mB, lE, nB, yB, rfl⟩
     ·clear hx
      obtain ⟨qQ, hfr, iM, jM, kM, pM, qM, pH⟩ := hR;rcases Zt h with ⟨qH, h⟩ | ⟨qH, h⟩
      ·refine Ta (Eq.trans (show ev _ _ = .bool (zE) from pH) (congrArg Value.bool qH)) (Z5 (Zg (.bool false) rfl rfl (Z3 (Z9 (G2 (Gf (Gf (G2 (Gf ?_)))))))))
       obtain rfl := sinj h;exact G0 rfl rfl (rq (.bool false)) ⟨_, hfr, rfl⟩
      ·refine G1 (Eq.trans (show ev _ _ = .bool (zE) from pH) (congrArg Value.bool qH)) ?_
       exact Zu (Th (Zd (eO () _ _ ⟨qQ, hfr, iM, jM, kM, pM, qM⟩ h)))
    ·rintro _ oS tT ⟨rQ, hfr, rM, eN, gN, iN, jN⟩ h
     refine Za (Zo jN rfl (Gd (Iz ((w64 (n8 + (1 : Int))))) rfl rfl rfl rfl (Zg (Iz ((w64 (n8 + (1 : Int))))) rfl rfl ?_)));exact Z3 (jP ((w64 (n8 + (1 : Int)))) _ _ ⟨rQ, hfr, rM, eN, gN, iN, rfl⟩ h)
  ·rintro _ pS uT ⟨sQ, hfr, kN, lN, mN, nN⟩ h
   refine Zq h (fun (s : Unit) e w => ∃ (g : Gh) , Fr gI wI g w) (fun X2068 tK nO h => ?_) ?_
   ·refine Z5 (Zg (Iz (0)) rfl rfl (Z3 (Zr (Kv h (fun (s : Int) e w => ∃ (g : Gh) , Fr gI wI g w ∧ e 2 = p1 ∧ PT g.m w (x0 : Gg) p1 ∧ e 3 = p2 ∧ PT g.m w (x1 : Gg) p2 ∧ e 6 = Iz (s)) ⟨sQ, hfr, kN, lN, mN, nN, rfl⟩ (fun X2069 uK oO => ?_)))))
    rintro n9 qS xT ⟨nI, hfr, zH, iG, oN, pN, aI⟩ h;refine Zq h (fun (s : Unit) e w => ∃ (g : Gh) , Fr gI wI g w ∧ e 2 = p1 ∧ PT g.m w (x0 : Gg) p1 ∧ e 3 = p2 ∧ PT g.m w (x1 : Gg) p2 ∧ e 6 = Iz (n9)) (fun X2074 zK pO h => ?_) ?_
    ·refine Z5 (Zo aI rfl (Zx (Gc p1 1) (Zc Q9 zH (PT.ptr iG)) rfl ?_))
     have tQ := Zm (Tt).1 iG;refine Z4 rfl (Z7 (g := nI) isAgg37 sizeOf37 rfl tQ fun yT uQ => (Zx (Iz (((x0).Chains).length : Int)) (G3 underlying37 rfl uQ) rfl (Zx (.bool ((decide (n9 < (((x0).Chains).length : Int))))) (Gp rfl rfl rfl) rfl (Z3 ?_))));rcases Zt h with ⟨sH, h⟩ | ⟨sH, h⟩
     ·refine Gx sH rfl ?_
      exact Zu (Zd (pO () _ _ ⟨nI, hfr, zH, iG, oN, pN, aI⟩ h))
     ·refine Gy sH rfl (Tu (G5 (G5 (Tf ?_))))
      exact Zd (nO () _ _ ⟨nI, hfr⟩ h)
    ·rintro _ rS zT ⟨xL, hfr, rF, zB, sF, cC, bE⟩ h
     refine Zq h (fun (s : Unit) e w => ∃ (g : Gh) , Fr gI wI g w ∧ e 2 = p1 ∧ PT g.m w (x0 : Gg) p1 ∧ e 3 = p2 ∧ PT g.m w (x1 : Gg) p2 ∧ e 6 = Iz (n9)) (fun X2267 vK qO h => ?_) ?_
     ·refine Zr ?_
      obtain ⟨rE, hx, h⟩ := Z1 h;refine G6 (fun e w => ∃ (g : Gh) , Fr gI wI g w ∧ e 2 = p1 ∧ PT g.m w (x0 : Gg) p1 ∧ e 3 = p2 ∧ PT g.m w (x1 : Gg) p2 ∧ e 6 = Iz (n9) ∧ e 113 = .bool (rE)) (fun Q' hQ => ?_) (fun sS aU hR => ?_)
      ·replace h := hx
       clear hx;have vQ := Zm (Tt).1 zB;refine Zs (x := .tmp 85) isAgg37 sizeOf37 vQ fun aG pI cK => ?_;obtain ⟨mE, tH, h⟩ := Z1 h;have qI := Gn pI tH;have xQ := Zm (K5).1 qI;refine Zs (x := .tmp 89) isAgg9 sizeOf9 xQ fun bU yQ dK => ?_;obtain rfl := Ts.1 yQ;have zQ := Zm (Tt).1 cC;refine Zs (x := .tmp 91) isAgg37 sizeOf37 zQ fun bG sI lK => ?_;obtain ⟨oE, uH, h⟩ := Z1 h;have jJ := Gn sI uH;have aR := Zm (K5).1 jJ;refine Zs (x := .tmp 95) isAgg9 sizeOf9 aR fun cU dR mK => ?_;obtain rfl := Ts.1 dR;rcases Zt h with ⟨oB, h⟩ | ⟨oB, h⟩
       ·refine T6 (g := xL) (n := 29) [] [0, 1, 2, 3, 4, 5, 6, 7, 8, 9, 10, 11, 12, 13, 14, 15, 16, 17, 18, 19, 20, 21, 22, 23, 24, 25, 26, 27, 28] rfl mixed (by kernel_rfl) trivial (Z0 (Gc p1 1) rfl rfl (Zc Q9 rF (PT.ptr zB)) (Ti (c := aG) rfl rfl .plain (fun _ _ h => h.ch) cK rfl (Z0 (Iz (n9)) rfl rfl (Zk bE) (Z0 (Gq aG n9 3) rfl rfl (Zh (α := Gi) underlying37 sizeOf94 rfl pI rfl tH) (Z0 (Gc (Gq aG n9 3) 0) rfl rfl (Zc Yl rfl (PT.ptr qI)) (Ti (c := Str.v ((mE).Name)) rfl rfl .plain (fun _ _ h => h.ch) dK rfl (Z0 (Gc p2 1) rfl rfl (Zc Q9 sF (PT.ptr cC)) (Ti (c := bG) rfl rfl .plain (fun _ _ h => h.ch) lK rfl (Z0 (Iz (n9)) rfl rfl (Zk bE) (Z0 (Gq bG n9 3) rfl rfl (Zh (α := Gi) underlying37 sizeOf94 rfl sI rfl uH) (Z0 (Gc (Gq bG n9 3) 0) rfl rfl (Zc Yl rfl (PT.ptr jJ)) (Ti (c := Str.v ((oE).Name)) rfl rfl .plain (fun _ _ h => h.ch) mK rfl (Z0 (.bool ((!(((mE).Name).b == ((oE).Name).b)))) rfl rfl (W2 rfl rfl rfl) (Z0 (.bool ((!(((mE).Name).b == ((oE).Name).b)))) rfl rfl (Zk rfl) ?_))))))))))))))
        iterate 14 refine L_s rfl rfl rfl oB rfl ?_
        refine Z0 (.bool true) rfl rfl (Zl (b := (!(((mE).Name).b == ((oE).Name).b))) rfl (Tc oB rfl)) (Jd fun eR dU hs => ?_);have hfr := hfr.ext hs;have zB := zB.ext hs;have cC := cC.ext hs;clear hs;refine Zb ?_;obtain rfl := sinj h;exact hQ _ _ ⟨eR, hfr, rF, zB, sF, cC, bE, rfl⟩
       ·have gR := Zm (Tt).1 zB
        refine Zs (x := .tmp 99) isAgg37 sizeOf37 gR fun kJ yL rO => ?_;obtain ⟨xK, nK, h⟩ := Z1 h;have zL := Gn yL nK;have iR := Zm (Ka).1 zL;refine Zs (x := .tmp 103) isAgg92 sizeOf92 iR fun aM jR sO => ?_;have lR := Zm (Tt).1 cC;refine Zs (x := .tmp 105) isAgg37 sizeOf37 lR fun lJ cM tO => ?_;obtain ⟨yK, oK, h⟩ := Z1 h;have dM := Gn cM oK;have mR := Zm (Ka).1 dM;refine Zs (x := .tmp 109) isAgg92 sizeOf92 mR fun eM nR uO => ?_;obtain ⟨xF, vO, h⟩ := Z1 h;refine T6 (g := xL) (n := 29) [(26, (fun v g w => v = .bool (xF)))] [0, 1, 2, 3, 4, 5, 6, 7, 8, 9, 10, 11, 12, 13, 14, 15, 16, 17, 18, 19, 20, 21, 22, 23, 24, 25, 26, 27, 28] rfl mixed (by kernel_rfl) (⟨fun _ => Ha _, trivial⟩) (Z0 (Gc p1 1) rfl rfl (Zc Q9 rF (PT.ptr zB)) (Ti (c := aG) rfl rfl .plain (fun _ _ h => h.ch) cK rfl (Z0 (Iz (n9)) rfl rfl (Zk bE) (Z0 (Gq aG n9 3) rfl rfl (Zh (α := Gi) underlying37 sizeOf94 rfl pI rfl tH) (Z0 (Gc (Gq aG n9 3) 0) rfl rfl (Zc Yl rfl (PT.ptr qI)) (Ti (c := Str.v ((mE).Name)) rfl rfl .plain (fun _ _ h => h.ch) dK rfl (Z0 (Gc p2 1) rfl rfl (Zc Q9 sF (PT.ptr cC)) (Ti (c := bG) rfl rfl .plain (fun _ _ h => h.ch) lK rfl (Z0 (Iz (n9)) rfl rfl (Zk bE) (Z0 (Gq bG n9 3) rfl rfl (Zh (α := Gi) underlying37 sizeOf94 rfl sI rfl uH) (Z0 (Gc (Gq bG n9 3) 0) rfl rfl (Zc Yl rfl (PT.ptr jJ)) (Ti (c := Str.v ((oE).Name)) rfl rfl .plain (fun _ _ h => h.ch) mK rfl (Z0 (.bool ((!(((mE).Name).b == ((oE).Name).b)))) rfl rfl (W2 rfl rfl rfl) (Z0 (.bool ((!(((mE).Name).b == ((oE).Name).b)))) rfl rfl (Zk rfl) (L_y (Gc p1 1) rfl rfl rfl rfl oB (Zc Q9 rF (PT.ptr zB)) (Ti (c := kJ) rfl rfl (.yes2 rfl rfl oB) (fun _ _ h => h.ch) rO rfl ?_))))))))))))))));refine L_y (Iz (n9)) rfl rfl rfl rfl oB (Zk bE) (L_y (Gq kJ n9 3) rfl rfl rfl rfl oB (Zh (α := Gi) underlying37 sizeOf94 rfl yL rfl nK) (L_y (Gc (Gq kJ n9 3) 1) rfl rfl rfl rfl oB (Zc He rfl (PT.ptr zL)) (Ti (c := aM) rfl rfl (.yes2 rfl rfl oB) (fun _ _ h => h.ch) sO rfl (L_y (Gc p2 1) rfl rfl rfl rfl oB (Zc Q9 sF (PT.ptr cC)) (Ti (c := lJ) rfl rfl (.yes2 rfl rfl oB) (fun _ _ h => h.ch) tO rfl (L_y (Iz (n9)) rfl rfl rfl rfl oB (Zk bE) (L_y (Gq lJ n9 3) rfl rfl rfl rfl oB (Zh (α := Gi) underlying37 sizeOf94 rfl cM rfl oK) (L_y (Gc (Gq lJ n9 3) 1) rfl rfl rfl rfl oB (Zc He rfl (PT.ptr dM)) (Ti (c := eM) rfl rfl (.yes2 rfl rfl oB) (fun _ _ h => h.ch) uO rfl (Hn (φ := fun v g w => v = .bool (xF)) rfl rfl (.yes2 rfl rfl oB) (fun g w hd => Zp (g := g) (vs := [aM, eM]) en72 (.cons rfl (.cons rfl .nil)) (wk72 (jR.ext hd.1) (nR.ext hd.1) vO) fun g' w' v hs hr => ⟨g', hs, hr⟩) (fun eU hv => ?_)))))))))));obtain ⟨_, _, _, rfl⟩ := hv;refine L_y (.bool (!xF)) rfl rfl rfl rfl oB (Qj rfl) (Z0 (.bool (!xF)) rfl rfl (Zl (b := (!(((mE).Name).b == ((oE).Name).b))) rfl (Gz oB rfl)) (Jd fun pR gU hs => ?_));have hfr := hfr.ext hs;have zB := zB.ext hs;have cC := cC.ext hs;clear hs;refine Zb ?_;obtain rfl := sinj h;exact hQ _ _ ⟨pR, hfr, rF, zB, sF, cC, bE, rfl⟩
      ·clear hx
       obtain ⟨qR, hfr, qN, rN, sN, tN, uN, jG⟩ := hR;rcases Zt h with ⟨yH, h⟩ | ⟨yH, h⟩
       ·refine Ta (Eq.trans (show ev _ _ = .bool (rE) from jG) (congrArg Value.bool yH)) (Z5 (Zg (.bool false) rfl rfl (Z3 (Z9 (G2 (Gf (Gf (G2 (Gf ?_)))))))))
        obtain rfl := sinj h;exact G0 rfl rfl (rq (.bool false)) ⟨_, hfr, rfl⟩
       ·refine G1 (Eq.trans (show ev _ _ = .bool (rE) from jG) (congrArg Value.bool yH)) ?_
        exact Zu (Th (Zd (qO () _ _ ⟨qR, hfr, qN, rN, sN, tN, uN⟩ h)))
     ·rintro _ tS iU ⟨tR, hfr, vN, xN, yN, zN, aO⟩ h
      refine Za (Zo aO rfl (Gd (Iz ((w64 (n9 + (1 : Int))))) rfl rfl rfl rfl (Zg (Iz ((w64 (n9 + (1 : Int))))) rfl rfl ?_)));exact Z3 (oO ((w64 (n9 + (1 : Int)))) _ _ ⟨tR, hfr, vN, xN, yN, zN, rfl⟩ h)
   ·rintro _ uS jU ⟨kU, hfr⟩ h
    refine Z5 (Zg (.bool true) rfl rfl (Z3 (Z9 ?_)));obtain rfl := sinj h;exact G0 rfl rfl (rq (.bool true)) ⟨_, hfr, rfl⟩
def f33 (x0 : List Z2) : Option ((List UInt8) × Int × Int) :=
 jn (σ := Unit) (fun _ =>
  jn (σ := (List UInt8)) (fun zE =>
   some (zE, (0 : Int), (0 : Int))
   ) fun cH =>
  lp (σ := (List UInt8) × Int) (fun gH (lB, n8) =>
   jn (σ := Unit) (fun _ =>
    jn (σ := (List UInt8)) (fun aE =>
     gH (aE, (w64 (n8 + (1 : Int))))
     ) fun jH =>
    jn (σ := Unit) (fun _ =>
     jn (σ := Unit) (fun _ =>
      (idx x0 n8).bind fun kH =>
      (f46 kH).bind fun lH =>
      (apnd 1 lB lH).bind fun iG =>
      jH (iG)
      ) fun mH =>
     Option.bind (α := Bool) (
      bif (decide (n8 > (0 : Int))) then
       (idx x0 (w64 (n8 - (1 : Int)))).bind fun nH =>
       (idx x0 n8).bind fun oH =>
       (f93 nH oH).bind fun oD =>
       some ((!oD))
      else
       some (false)
      ) fun oB =>
     bif oB then
      some ([], n8, (4 : Int))
     else
      mH ()
     ) fun pH =>
    (idx x0 n8).bind fun qH =>
    (f39 qH).bind fun jG =>
    bif (!jG) then
     some ([], n8, (2 : Int))
    else
     pH ()
    ) fun sH =>
   bif (decide (n8 < ((x0).length : Int))) then
    sH ()
   else
    cH (lB)
   ) big (([] : List UInt8), (0 : Int))
  ) fun k2 =>
 bif (decide (((x0).length : Int) > (100 : Int))) then
  some ([], (0 : Int), (5 : Int))
 else
  k2 ()
theorem en33 : Enters prog 33 := enters_of func33 (by kernel_rfl) rfl
theorem wk33 {gI : Gh} {wI : World} {x0 : List Z2} {up0 : Value} (rp0 : RV gI.m wI x0 up0) {r : (List UInt8) × Int × Int} (h : f33 x0 = some r) : Fn prog 33 #[up0] gI wI (fun m w v => ∃ y0 y1 y2, v = .tuple #[y0, y1, y2] ∧ RV m w (r.1) y0 ∧ y1 = Iz (r.2.1) ∧ y2 = Iz (r.2.2)) := by
 unfold f33 at h;refine fnE func33 rfl rfl fun g0 hm hfr => ?_;have rp0 := RVc hm rp0;show E _ 48 none _ _ _ _ _;refine Z5 (Zg (.slice none 0 0) rfl rfl (Zg (Iz (0)) rfl rfl (Zg (Iz (0)) rfl rfl (Z3 (Zq h (fun (s : Unit) e w => ∃ (g : Gh) , Fr gI wI g w ∧ e 0 = up0 ∧ RV g.m w (x0 : List Z2) up0) (fun X2 k2 hk2 h => ?_) ?_)))))
 ·refine Z5 (Zn up0 rfl rfl (Zx (Iz ((x0).length : Int)) (G3 underlying49 rfl rp0) rfl (Gd (.bool ((decide (((x0).length : Int) > (100 : Int))))) rfl rfl rfl rfl (Z3 ?_))))
  rcases Zt h with ⟨hc3, h⟩ | ⟨hc3, h⟩
  ·refine Gx hc3 rfl (Z5 (Zg (.slice none 0 0) rfl rfl (Zg (Iz (0)) rfl rfl (Zg (Iz (5)) rfl rfl (Z3 (Z9 (Gf ?_)))))))
   obtain rfl := sinj h;exact Hc rfl rfl (rq (.slice none 0 0)) (rq (Iz (0))) (rq (Iz (5))) ⟨_, hfr, _, _, _, rfl, Tp, rfl, rfl⟩
  ·refine Gy hc3 rfl ?_
   exact Zu (Zd (hk2 () _ _ ⟨g0, hfr, rfl, rp0⟩ h))
 ·rintro _ rN w4 ⟨g4, hfr, pK, kG⟩ h
  refine Z5 (Z4 rfl (Ga (g := g4) 3010 (xs := ([] : List UInt8)) (vs := []) underlying50 sizeOf5 zeroValue5 rfl rfl .nil RVs.nil rfl rfl fun g5 w5 v5 hs o5 r5 hxt hfl => ?_));have hfr := hfr.stp hs;have kG := kG.stp hs;refine Zg v5 rfl rfl (Z3 (Zq h (fun (s : (List UInt8)) e w => ∃ (g : Gh) (v5 : Value), Fr gI wI g w ∧ e 5 = v5 ∧ RV g.m w (s : List UInt8) v5 ∧ OS 3010 g w 5 (s : List UInt8) v5) (fun X445 cH sJ h => ?_) ?_))
  ·refine Z5 (Zg (Iz (0)) rfl rfl (Z3 (Zr (Kv h (fun (s : (List UInt8) × Int) e w => ∃ (g : Gh) (v5 : Value), Fr gI wI g w ∧ e 0 = up0 ∧ RV g.m w (x0 : List Z2) up0 ∧ e 5 = v5 ∧ RV g.m w (s.1 : List UInt8) v5 ∧ OS 3010 g w 5 (s.1 : List UInt8) v5 ∧ e 6 = Iz (s.2)) ⟨g5, (v5), hfr, pK, kG, rfl, r5, o5, rfl⟩ (fun X446 gH vJ => ?_)))))
   rintro ⟨lB, n8⟩ yL pM ⟨tH, n9, hfr, cF, eF, rF, sF, vF, xF⟩ h;refine Zq h (fun (s : Unit) e w => ∃ (g : Gh) , Fr gI wI g w ∧ e 0 = up0 ∧ RV g.m w (x0 : List Z2) up0 ∧ e 5 = n9 ∧ RV g.m w (lB : List UInt8) n9 ∧ OS 3010 g w 5 (lB : List UInt8) n9 ∧ e 6 = Iz (n8)) (fun X449 sH xJ h => ?_) ?_
   ·refine Z5 (Zo xF rfl (Zo cF rfl (Zx (Iz ((x0).length : Int)) (G3 underlying49 rfl eF) rfl (Gd (.bool ((decide (n8 < ((x0).length : Int))))) rfl rfl rfl rfl (Z3 ?_)))))
    rcases Zt h with ⟨vE, h⟩ | ⟨vE, h⟩
    ·refine Gx vE rfl ?_
     exact Zu (Zd (xJ () _ _ ⟨tH, hfr, cF, eF, rF, sF, vF, xF⟩ h))
    ·refine Gy vE rfl (Tu (G5 (G5 (Tf ?_))))
     exact Zd (sJ (lB) _ _ ⟨tH, (n9), hfr, rF, sF, vF⟩ h)
   ·rintro _ zL qM ⟨uH, hfr, yF, lD, yH, bE, iE, lE⟩ h
    refine Zq h (fun (s : (List UInt8)) e w => ∃ (g : Gh) (v5 : Value), Fr gI wI g w ∧ e 0 = up0 ∧ RV g.m w (x0 : List Z2) up0 ∧ e 5 = v5 ∧ RV g.m w (s : List UInt8) v5 ∧ OS 3010 g w 5 (s : List UInt8) v5 ∧ e 6 = Iz (n8)) (fun X667 jH zJ h => ?_) ?_
    ·refine Zr (Zq h (fun (s : Unit) e w => ∃ (g : Gh) , Fr gI wI g w ∧ e 0 = up0 ∧ RV g.m w (x0 : List Z2) up0 ∧ e 5 = n9 ∧ RV g.m w (lB : List UInt8) n9 ∧ OS 3010 g w 5 (lB : List UInt8) n9 ∧ e 6 = Iz (n8)) (fun X674 pH aK h => ?_) ?_)
     ·refine Z5 (Zo yF rfl (Zo lE rfl ?_))
      obtain ⟨qH, lG, h⟩ := Z1 h;refine Zx (Gq up0 n8 5) (Zh (α := Z2) underlying49 sizeOf63 rfl lD rfl lG) rfl ?_;have qK := Gn lD lG;refine Z4 rfl (Z7 (g := uH) isAgg63 sizeOf63 rfl qK fun sK tK => ?_);obtain ⟨jG, bK, h⟩ := Z1 h;refine Z4 rfl (Zp (g := uH) (vs := [sK]) en39 (.cons rfl .nil) (wk39 tK bK) fun uK aM rM hs hr => ?_);have hfr := hfr.ext hs;have lD := lD.ext hs;have bE := bE.ext hs;have iE := iE.ext hs;subst hr;refine Zx (.bool (!jG)) (Qj rfl) rfl (Z3 ?_);rcases Zt h with ⟨xE, h⟩ | ⟨xE, h⟩
      ·refine Gx xE rfl (Z5 (Zo lE rfl (Zg (.slice none 0 0) rfl rfl (Zg (Iz (n8)) rfl rfl (Zg (Iz (2)) rfl rfl (Z3 (Z9 (Gf (G2 (Gf (Gf (G2 (Gf ?_)))))))))))))
       obtain rfl := sinj h;exact Hc rfl rfl (rq (.slice none 0 0)) (rq (Iz (n8))) (rq (Iz (2))) ⟨_, hfr, _, _, _, rfl, Tp, rfl, rfl⟩
      ·refine Gy xE rfl ?_
       exact Zu (Zd (aK () _ _ ⟨uK, hfr, yF, lD, yH, bE, iE, lE⟩ h))
     ·rintro _ cM eN ⟨zH, hfr, nD, mB, aG, yB, zB, cC⟩ h
      refine Zq h (fun (s : Unit) e w => ∃ (g : Gh) , Fr gI wI g w ∧ e 0 = up0 ∧ RV g.m w (x0 : List Z2) up0 ∧ e 5 = n9 ∧ RV g.m w (lB : List UInt8) n9 ∧ OS 3010 g w 5 (lB : List UInt8) n9 ∧ e 6 = Iz (n8)) (fun X778 mH cK h => ?_) ?_
      ·obtain ⟨oB, hx, h⟩ := Z1 h
       refine G6 (fun e w => ∃ (g : Gh) , Fr gI wI g w ∧ e 0 = up0 ∧ RV g.m w (x0 : List Z2) up0 ∧ e 5 = n9 ∧ RV g.m w (lB : List UInt8) n9 ∧ OS 3010 g w 5 (lB : List UInt8) n9 ∧ e 6 = Iz (n8) ∧ e 38 = .bool (oB)) (fun Q' hQ => ?_) (fun dM gN hR => ?_)
       ·replace h := hx
        clear hx;rcases Zt h with ⟨aB, h⟩ | ⟨aB, h⟩
        ·obtain ⟨nH, mG, h⟩ := Z1 h
         have vK := Gn mB mG;refine Zs (x := .tmp 30) isAgg63 sizeOf63 vK fun aI xK dK => ?_;obtain ⟨oH, yG, h⟩ := Z1 h;have yK := Gn mB yG;refine Zs (x := .tmp 34) isAgg63 sizeOf63 yK fun bI zK lK => ?_;obtain ⟨oD, mK, h⟩ := Z1 h;refine T6 (g := zH) (n := 15) [(12, (fun v g w => v = .bool (oD)))] [0, 1, 2, 3, 4, 5, 6, 7, 8, 9, 10, 11, 12, 13, 14] rfl mixed (by kernel_rfl) (⟨fun _ => Ha _, trivial⟩) (Z0 (Iz (n8)) rfl rfl (Zk cC) (Z0 (.bool ((decide (n8 > (0 : Int))))) rfl rfl (Gp rfl rfl rfl) (Z0 (.bool ((decide (n8 > (0 : Int))))) rfl rfl (Zk rfl) (L_y up0 rfl rfl rfl rfl aB (Zk nD) (L_y (Iz (n8)) rfl rfl rfl rfl aB (Zk cC) (L_y (Iz ((w64 (n8 - (1 : Int))))) rfl rfl rfl rfl aB (Gp rfl rfl rfl) (L_y (Gq up0 (w64 (n8 - (1 : Int))) 5) rfl rfl rfl rfl aB (Zh (α := Z2) underlying49 sizeOf63 rfl mB rfl mG) (Ti (c := aI) rfl rfl (.yes2 rfl rfl aB) (fun _ _ h => h.ch) dK rfl (L_y up0 rfl rfl rfl rfl aB (Zk nD) (L_y (Iz (n8)) rfl rfl rfl rfl aB (Zk cC) (L_y (Gq up0 n8 5) rfl rfl rfl rfl aB (Zh (α := Z2) underlying49 sizeOf63 rfl mB rfl yG) (Ti (c := bI) rfl rfl (.yes2 rfl rfl aB) (fun _ _ h => h.ch) lK rfl (Hn (φ := fun v g w => v = .bool (oD)) rfl rfl (.yes2 rfl rfl aB) (fun g w hd => Zp (g := g) (vs := [aI, bI]) en93 (.cons rfl (.cons rfl .nil)) (wk93 (xK.ext hd.1) (zK.ext hd.1) mK) fun g' w' v hs hr => ⟨g', hs, hr⟩) (fun iN hv => ?_))))))))))))));obtain ⟨_, _, _, rfl⟩ := hv;refine L_y (.bool (!oD)) rfl rfl rfl rfl aB (Qj rfl) (Z0 (.bool (!oD)) rfl rfl (Zl (b := (decide (n8 > (0 : Int)))) rfl (Tc aB rfl)) (Jd fun aL jN hs => ?_));have hfr := hfr.ext hs;have mB := mB.ext hs;have yB := yB.ext hs;have zB := zB.ext hs;clear hs;refine Zb ?_;obtain rfl := sinj h;exact hQ _ _ ⟨aL, hfr, nD, mB, aG, yB, zB, cC, rfl⟩
        ·refine T6 (g := zH) (n := 15) [] [0, 1, 2, 3, 4, 5, 6, 7, 8, 9, 10, 11, 12, 13, 14] rfl mixed (by kernel_rfl) trivial (Z0 (Iz (n8)) rfl rfl (Zk cC) (Z0 (.bool ((decide (n8 > (0 : Int))))) rfl rfl (Gp rfl rfl rfl) (Z0 (.bool ((decide (n8 > (0 : Int))))) rfl rfl (Zk rfl) ?_)))
         iterate 11 refine L_s rfl rfl rfl aB rfl ?_
         refine Z0 (.bool false) rfl rfl (Zl (b := (decide (n8 > (0 : Int)))) rfl (Gz aB rfl)) (Jd fun bL kN hs => ?_);have hfr := hfr.ext hs;have mB := mB.ext hs;have yB := yB.ext hs;have zB := zB.ext hs;clear hs;refine Zb ?_;obtain rfl := sinj h;exact hQ _ _ ⟨bL, hfr, nD, mB, aG, yB, zB, cC, rfl⟩
       ·clear hx
        obtain ⟨dL, hfr, dI, iI, jI, kI, lI, bG, rE⟩ := hR;rcases Zt h with ⟨yE, h⟩ | ⟨yE, h⟩
        ·refine Ta (Eq.trans (show ev _ _ = .bool (oB) from rE) (congrArg Value.bool yE)) (Z5 (Zo bG rfl (Zg (.slice none 0 0) rfl rfl (Zg (Iz (n8)) rfl rfl (Zg (Iz (4)) rfl rfl (Z3 (Z9 (Gf (G2 (Gf (Gf (G2 (Gf ?_)))))))))))))
         obtain rfl := sinj h;exact Hc rfl rfl (rq (.slice none 0 0)) (rq (Iz (n8))) (rq (Iz (4))) ⟨_, hfr, _, _, _, rfl, Tp, rfl, rfl⟩
        ·refine G1 (Eq.trans (show ev _ _ = .bool (oB) from rE) (congrArg Value.bool yE)) ?_
         exact Zu (Zd (cK () _ _ ⟨dL, hfr, dI, iI, jI, kI, lI, bG⟩ h))
      ·rintro _ eM lN ⟨mI, hfr, cG, nB, nI, mE, oE, eG⟩ h
       refine Za (Zo nI rfl (Zo cG rfl (Zo eG rfl ?_)));obtain ⟨kH, zG, h⟩ := Z1 h;refine Zx (Gq up0 n8 5) (Zh (α := Z2) underlying49 sizeOf63 rfl nB rfl zG) rfl ?_;have eL := Gn nB zG;refine Z4 rfl (Z7 (g := mI) isAgg63 sizeOf63 rfl eL fun gL iL => ?_);obtain ⟨lH, nK, h⟩ := Z1 h;refine Z4 rfl (Zp (g := mI) (vs := [gL]) en46 (.cons rfl .nil) (wk46 iL nK) fun jL iM mN hs hr => ?_);have hfr := hfr.ext hs;have nB := nB.ext hs;have mE := mE.ext hs;have oE := oE.ext hs;have lL := hr;obtain ⟨iG, oK, h⟩ := Z1 h;refine Z4 rfl (Qd (g := jL) (i := 3010) underlying50 Yq rfl rfl oE mE rfl lL oK fun mL nN pI hs o881 nL _ => ?_);have hfr := hfr.stp hs;have nB := nB.stp hs;refine Zg pI rfl rfl ?_;exact Zb (Th (Zd (zJ (iG) _ _ ⟨mL, (pI), hfr, cG, nB, rfl, nL, o881, eG⟩ h)))
    ·rintro aE jM oN ⟨oL, qI, hfr, sI, jJ, kJ, lJ, oJ, pJ⟩ h
     refine Za (Zo pJ rfl (Gd (Iz ((w64 (n8 + (1 : Int))))) rfl rfl rfl rfl (Zg (Iz ((w64 (n8 + (1 : Int))))) rfl rfl ?_)));exact Z3 (vJ (aE, (w64 (n8 + (1 : Int)))) _ _ ⟨oL, (qI), hfr, sI, jJ, kJ, lJ, oJ, rfl⟩ h)
  ·rintro zE kM pN ⟨qN, gG, hfr, qJ, rJ, xL⟩ h
   refine Z5 (Zo qJ rfl (Zg gG rfl rfl (Zg (Iz (0)) rfl rfl (Zg (Iz (0)) rfl rfl (Z3 (Z9 ?_))))));obtain rfl := sinj h;exact Hc rfl rfl (rq gG) (rq (Iz (0))) (rq (Iz (0))) ⟨_, hfr, _, _, _, rfl, rJ, rfl, rfl⟩
def f34 (x0 : List UInt8) : Option ((List Z2) × Int × Int) :=
 jn (σ := Unit) (fun _ =>
  jn (σ := Unit) (fun _ =>
   jn (σ := (List Z2)) (fun iG =>
    some (iG, (0 : Int), (0 : Int))
    ) fun sH =>
   lp (σ := (List Z2) × Int) (fun tH (aB, n8) =>
    jn (σ := Unit) (fun _ =>
     jn (σ := (List Z2)) (fun rE =>
      tH (rE, (w64 (n8 + (1 : Int))))
      ) fun uH =>
     (cut x0 (w64 ((8 : Int) * n8)) (w64 ((w64 ((8 : Int) * n8)) + (8 : Int)))).bind fun yH =>
     (f38 yH).bind fun mB =>
     jn (σ := Unit) (fun _ =>
      jn (σ := Unit) (fun _ =>
       jn (σ := Unit) (fun _ =>
        (apnd 40 aB (([mB.1] : List Z2))).bind fun nH =>
        uH (nH)
        ) fun zH =>
       Option.bind (α := Bool) (
        bif (decide (n8 > (0 : Int))) then
         (idx aB (w64 (n8 - (1 : Int)))).bind fun aI =>
         (f93 aI (mB.1)).bind fun oE =>
         some ((!oE))
        else
         some (false)
        ) fun lD =>
       bif lD then
        some ([], n8, (4 : Int))
       else
        zH ()
       ) fun bI =>
      (f39 (mB.1)).bind fun oH =>
      bif (!oH) then
       some ([], n8, (2 : Int))
      else
       bI ()
      ) fun dI =>
     bif (!mB.2) then
      some ([], n8, (130 : Int))
     else
      dI ()
     ) fun iI =>
    (U2 ((x0).length : Int) (8 : Int)).bind fun yF =>
    bif (decide (n8 < yF)) then
     iI ()
    else
     sH (aB)
    ) big (([] : List Z2), (0 : Int))
   ) fun k7 =>
  (H3 ((x0).length : Int) (8 : Int)).bind fun y8 =>
  bif (y8 != (0 : Int)) then
   some ([], (0 : Int), (4 : Int))
  else
   k7 ()
  ) fun k2 =>
 bif (decide (((x0).length : Int) > (800 : Int))) then
  some ([], (0 : Int), (5 : Int))
 else
  k2 ()
theorem en34 : Enters prog 34 := enters_of func34 (by kernel_rfl) rfl
theorem wk34 {gI : Gh} {wI : World} {x0 : List UInt8} {up0 : Value} (rp0 : RV gI.m wI x0 up0) {r : (List Z2) × Int × Int} (h : f34 x0 = some r) : Fn prog 34 #[up0] gI wI (fun m w v => ∃ y0 y1 y2, v = .tuple #[y0, y1, y2] ∧ RV m w (r.1) y0 ∧ y1 = Iz (r.2.1) ∧ y2 = Iz (r.2.2)) := by
 unfold f34 at h;refine fnE func34 rfl rfl fun g0 hm hfr => ?_;have rp0 := RVc hm rp0;show E _ 60 none _ _ _ _ _;refine Z5 (Zg (.slice none 0 0) rfl rfl (Zg (Iz (0)) rfl rfl (Zg (Iz (0)) rfl rfl (Z3 (Zq h (fun (s : Unit) e w => ∃ (g : Gh) , Fr gI wI g w ∧ e 0 = up0 ∧ RV g.m w (x0 : List UInt8) up0) (fun X2 k2 hk2 h => ?_) ?_)))))
 ·refine Z5 (Zn up0 rfl rfl (Zx (Iz ((x0).length : Int)) (G3 underlying50 rfl rp0) rfl (Gd (.bool ((decide (((x0).length : Int) > (800 : Int))))) rfl rfl rfl rfl (Z3 ?_))))
  rcases Zt h with ⟨hc3, h⟩ | ⟨hc3, h⟩
  ·refine Gx hc3 rfl (Z5 (Zg (.slice none 0 0) rfl rfl (Zg (Iz (0)) rfl rfl (Zg (Iz (5)) rfl rfl (Z3 (Z9 (Gf ?_)))))))
   obtain rfl := sinj h;exact Hc rfl rfl (rq (.slice none 0 0)) (rq (Iz (0))) (rq (Iz (5))) ⟨_, hfr, _, _, _, rfl, Tp, rfl, rfl⟩
  ·refine Gy hc3 rfl ?_
   exact Zu (Zd (hk2 () _ _ ⟨g0, hfr, rfl, rp0⟩ h))
 ·rintro _ eP w4 ⟨g4, hfr, jI, kI⟩ h
  refine Zq h (fun (s : Unit) e w => ∃ (g : Gh) , Fr gI wI g w ∧ e 0 = up0 ∧ RV g.m w (x0 : List UInt8) up0) (fun X7 k7 hk7 h => ?_) ?_
  ·refine Z5 (Zo jI rfl (Zx (Iz ((x0).length : Int)) (G3 underlying50 rfl kI) rfl ?_))
   obtain ⟨y8, qN, h⟩ := Z1 h;refine Zx (Iz (y8)) (Gp rfl rfl (congrArg (Option.map (Value.int .i64)) qN)) rfl (Gd (.bool ((y8 != (0 : Int)))) rfl rfl rfl rfl (Z3 ?_));rcases Zt h with ⟨hc9, h⟩ | ⟨hc9, h⟩
   ·refine Gx hc9 rfl (Z5 (Zg (.slice none 0 0) rfl rfl (Zg (Iz (0)) rfl rfl (Zg (Iz (4)) rfl rfl (Z3 (Z9 (Gf ?_)))))))
    obtain rfl := sinj h;exact Hc rfl rfl (rq (.slice none 0 0)) (rq (Iz (0))) (rq (Iz (4))) ⟨_, hfr, _, _, _, rfl, Tp, rfl, rfl⟩
   ·refine Gy hc9 rfl ?_
    exact Zu (Zd (hk7 () _ _ ⟨g4, hfr, jI, kI⟩ h))
  ·rintro _ gO w10 ⟨g10, hfr, xK, aG⟩ h
   refine Z5 (Z4 rfl (Ga (g := g10) 3016 (xs := ([] : List Z2)) (vs := []) underlying49 sizeOf63 zeroValue63 rfl rfl .nil RVs.nil rfl rfl fun g11 w11 yL hs o11 rN hxt hfl => ?_));have hfr := hfr.stp hs;have aG := aG.stp hs;refine Zg yL rfl rfl (Z3 (Zq h (fun (s : (List Z2)) e w => ∃ (g : Gh) (v5 : Value), Fr gI wI g w ∧ e 5 = v5 ∧ RV g.m w (s : List Z2) v5 ∧ OS 3016 g w 63 (s : List Z2) v5) (fun X411 sH yK h => ?_) ?_))
   ·refine Z5 (Zg (Iz (0)) rfl rfl (Z3 (Zr (Kv h (fun (s : (List Z2) × Int) e w => ∃ (g : Gh) (v5 : Value), Fr gI wI g w ∧ e 0 = up0 ∧ RV g.m w (x0 : List UInt8) up0 ∧ e 5 = v5 ∧ RV g.m w (s.1 : List Z2) v5 ∧ OS 3016 g w 63 (s.1 : List Z2) v5 ∧ e 6 = Iz (s.2)) ⟨g11, (yL), hfr, xK, aG, rfl, rN, o11, rfl⟩ (fun X412 tH zK => ?_)))))
    rintro ⟨aB, n8⟩ uN jO ⟨lI, n9, hfr, jG, kG, lG, mG, yG, zG⟩ h;refine Zq h (fun (s : Unit) e w => ∃ (g : Gh) , Fr gI wI g w ∧ e 0 = up0 ∧ RV g.m w (x0 : List UInt8) up0 ∧ e 5 = n9 ∧ RV g.m w (aB : List Z2) n9 ∧ OS 3016 g w 63 (aB : List Z2) n9 ∧ e 6 = Iz (n8)) (fun X416 iI aL h => ?_) ?_
    ·refine Z5 (Zo zG rfl (Zo jG rfl (Zx (Iz ((x0).length : Int)) (G3 underlying50 rfl kG) rfl ?_)))
     obtain ⟨yF, bL, h⟩ := Z1 h;refine Zx (Iz (yF)) (Gp rfl rfl (congrArg (Option.map (Value.int .i64)) bL)) rfl (Gd (.bool ((decide (n8 < yF)))) rfl rfl rfl rfl (Z3 ?_));rcases Zt h with ⟨bG, h⟩ | ⟨bG, h⟩
     ·refine Gx bG rfl ?_
      exact Zu (Zd (aL () _ _ ⟨lI, hfr, jG, kG, lG, mG, yG, zG⟩ h))
     ·refine Gy bG rfl (Tu (G5 (G5 (Tf ?_))))
      exact Zd (yK (aB) _ _ ⟨lI, (n9), hfr, lG, mG, yG⟩ h)
    ·rintro _ vN kO ⟨zL, hfr, cH, nB, mI, yB, zB, lE⟩ h
     refine Zq h (fun (s : (List Z2)) e w => ∃ (g : Gh) (v5 : Value), Fr gI wI g w ∧ e 0 = up0 ∧ RV g.m w (x0 : List UInt8) up0 ∧ e 5 = v5 ∧ RV g.m w (s : List Z2) v5 ∧ OS 3016 g w 63 (s : List Z2) v5 ∧ e 6 = Iz (n8)) (fun X614 uH dL h => ?_) ?_
     ·refine Zr (Z5 (Zo cH rfl (Zo lE rfl (Gd (Iz ((w64 ((8 : Int) * n8)))) rfl rfl rfl rfl (Zo lE rfl (Gd (Iz ((w64 ((8 : Int) * n8)))) rfl rfl rfl rfl (Zx (Iz ((w64 ((w64 ((8 : Int) * n8)) + (8 : Int))))) (Gp rfl rfl rfl) rfl ?_)))))))
      obtain ⟨yH, pH, h⟩ := Z1 h;have aM := U7 nB pH;refine Zx ((Kf up0 (Int.toNat (w64 ((8 : Int) * n8))) (Int.toNat (w64 ((w64 ((8 : Int) * n8)) + (8 : Int)))) 1)) (X9 underlying50 sizeOf5 rfl nB rfl rfl pH) rfl ?_;obtain ⟨mB, eL, h⟩ := Z1 h;refine Z4 rfl (Zp (g := zL) (vs := [(Kf up0 (Int.toNat (w64 ((8 : Int) * n8))) (Int.toNat (w64 ((w64 ((8 : Int) * n8)) + (8 : Int)))) 1)]) en38 (.cons rfl .nil) (wk38 aM eL) fun cM xN lO hs hr => ?_);have hfr := hfr.ext hs;have nB := nB.ext hs;have yB := yB.ext hs;have zB := zB.ext hs;obtain ⟨vE, sN, rfl, xE, rfl⟩ := hr;refine Zn (.tuple #[vE, .bool (mB.2)]) rfl rfl (Zx vE (Zi rfl rfl) rfl (Zx (.bool (mB.2)) (Zi rfl rfl) rfl (Z4 rfl (Td (g := cM) 2007 (⟨0, 0, 0, 0, 0⟩ : Z2) zeroValue63 (fun m w => ⟨_, (Gk Zw (Gk Zw (Gk Zw (Gk Zw Zw)))), rfl⟩) fun dM mO aE hs b619 cb => ?_))));have hfr := hfr.stp hs;have nB := nB.stp hs;have yB := yB.stp hs;have zB := zB.stp hs rfl;have xE := xE.stp hs;clear cb;refine Z4 rfl (Gv (g := dM) (v := vE) sizeOf63 rfl b619 rfl xE fun eM nO hs b620 cb => ?_);clear cb;have hfr := hfr.stp hs;have nB := nB.stp hs;have yB := yB.stp hs;have zB := zB.stp hs rfl;refine Zg (.bool (mB.2)) rfl rfl (Z3 (Zq h (fun (s : Unit) e w => ∃ (g : Gh) , Fr gI wI g w ∧ e 0 = up0 ∧ RV g.m w (x0 : List UInt8) up0 ∧ e 5 = n9 ∧ RV g.m w (aB : List Z2) n9 ∧ OS 3016 g w 63 (aB : List Z2) n9 ∧ e 6 = Iz (n8) ∧ e 7 = aE ∧ OB 2007 g w 63 (mB.1 : Z2) aE) (fun X622 dI gL h => ?_) ?_))
      ·refine Z5 (Zn (.bool (mB.2)) rfl rfl (Zx (.bool (!mB.2)) (Qj rfl) rfl (Z3 ?_)))
       rcases Zt h with ⟨cG, h⟩ | ⟨cG, h⟩
       ·refine Gx cG rfl (Z5 (Zo lE rfl (Zg (.slice none 0 0) rfl rfl (Zg (Iz (n8)) rfl rfl (Zg (Iz (130)) rfl rfl (Z3 (Z9 (Gf (G2 (Gf (Gf (G2 (Gf ?_)))))))))))))
        obtain rfl := sinj h;exact Hc rfl rfl (rq (.slice none 0 0)) (rq (Iz (n8))) (rq (Iz (130))) ⟨_, hfr, _, _, _, rfl, Tp, rfl, rfl⟩
       ·refine Gy cG rfl ?_
        exact Zu (Zd (gL () _ _ ⟨eM, hfr, cH, nB, mI, yB, zB, lE, rfl, b620⟩ h))
      ·rintro _ yN oO ⟨nI, hfr, pI, yE, qI, zE, cF, gH, jH, mE⟩ h
       refine Zq h (fun (s : Unit) e w => ∃ (g : Gh) , Fr gI wI g w ∧ e 0 = up0 ∧ RV g.m w (x0 : List UInt8) up0 ∧ e 5 = n9 ∧ RV g.m w (aB : List Z2) n9 ∧ OS 3016 g w 63 (aB : List Z2) n9 ∧ e 6 = Iz (n8) ∧ e 7 = aE ∧ OB 2007 g w 63 (mB.1 : Z2) aE) (fun X629 bI iL h => ?_) ?_
       ·refine Z5 (Z4 rfl (T8 (g := nI) isAgg63 sizeOf63 jH mE fun iM jM => ?_))
        obtain ⟨oH, jL, h⟩ := Z1 h;refine Z4 rfl (Zp (g := nI) (vs := [iM]) en39 (.cons rfl .nil) (wk39 jM jL) fun kM zN pO hs hr => ?_);have hfr := hfr.ext hs;have yE := yE.ext hs;have zE := zE.ext hs;have cF := cF.ext hs;have mE := mE.ext hs;subst hr;refine Zx (.bool (!oH)) (Qj rfl) rfl (Z3 ?_);rcases Zt h with ⟨eG, h⟩ | ⟨eG, h⟩
        ·refine Gx eG rfl (Z5 (Zo gH rfl (Zg (.slice none 0 0) rfl rfl (Zg (Iz (n8)) rfl rfl (Zg (Iz (2)) rfl rfl (Z3 (Z9 (Gf (G2 (Gf (Gf (G2 (Gf ?_)))))))))))))
         obtain rfl := sinj h;exact Hc rfl rfl (rq (.slice none 0 0)) (rq (Iz (n8))) (rq (Iz (2))) ⟨_, hfr, _, _, _, rfl, Tp, rfl, rfl⟩
        ·refine Gy eG rfl ?_
         exact Zu (Zd (iL () _ _ ⟨kM, hfr, pI, yE, qI, zE, cF, gH, jH, mE⟩ h))
       ·rintro _ aO qO ⟨sI, hfr, kH, nD, eF, oB, oD, bE, rF, cC⟩ h
        refine Zq h (fun (s : Unit) e w => ∃ (g : Gh) , Fr gI wI g w ∧ e 0 = up0 ∧ RV g.m w (x0 : List UInt8) up0 ∧ e 5 = n9 ∧ RV g.m w (aB : List Z2) n9 ∧ OS 3016 g w 63 (aB : List Z2) n9 ∧ e 6 = Iz (n8) ∧ e 7 = aE ∧ OB 2007 g w 63 (mB.1 : Z2) aE) (fun X719 zH lL h => ?_) ?_
        ·obtain ⟨lD, hx, h⟩ := Z1 h
         refine G6 (fun e w => ∃ (g : Gh) , Fr gI wI g w ∧ e 0 = up0 ∧ RV g.m w (x0 : List UInt8) up0 ∧ e 5 = n9 ∧ RV g.m w (aB : List Z2) n9 ∧ OS 3016 g w 63 (aB : List Z2) n9 ∧ e 6 = Iz (n8) ∧ e 7 = aE ∧ OB 2007 g w 63 (mB.1 : Z2) aE ∧ e 53 = .bool (lD)) (fun Q' hQ => ?_) (fun bO rO hR => ?_)
         ·replace h := hx
          clear hx;rcases Zt h with ⟨lB, h⟩ | ⟨lB, h⟩
          ·obtain ⟨aI, qH, h⟩ := Z1 h
           have pM := Gn oB qH;refine Zs (x := .tmp 48) isAgg63 sizeOf63 pM fun jJ qM mL => (H4 (x := .tmp 7) isAgg63 sizeOf63 cC fun kJ rM nL => ?_);obtain ⟨oE, oL, h⟩ := Z1 h;refine T6 (g := sI) (n := 12) [(9, (fun v g w => v = .bool (oE)))] [0, 1, 2, 3, 4, 5, 6, 7, 8, 9, 10, 11] rfl mixed (by kernel_rfl) (⟨fun _ => Ha _, trivial⟩) (Z0 (Iz (n8)) rfl rfl (Zk bE) (Z0 (.bool ((decide (n8 > (0 : Int))))) rfl rfl (Gp rfl rfl rfl) (Z0 (.bool ((decide (n8 > (0 : Int))))) rfl rfl (Zk rfl) (L_y n9 rfl rfl rfl rfl lB (Zk eF) (L_y (Iz (n8)) rfl rfl rfl rfl lB (Zk bE) (L_y (Iz ((w64 (n8 - (1 : Int))))) rfl rfl rfl rfl lB (Gp rfl rfl rfl) (L_y (Gq n9 (w64 (n8 - (1 : Int))) 5) rfl rfl rfl rfl lB (Zh (α := Z2) underlying49 sizeOf63 rfl oB rfl qH) (Ti (c := jJ) rfl rfl (.yes2 rfl rfl lB) (fun _ _ h => h.ch) mL rfl (Ti (c := kJ) rfl rfl (.yes2 rfl rfl lB) (fun _ _ h => ⟨h.ch, fun b hb _ => h.below.block b hb⟩) nL rF (Hn (φ := fun v g w => v = .bool (oE)) rfl rfl (.yes2 rfl rfl lB) (fun g w hd => Zp (g := g) (vs := [jJ, kJ]) en93 (.cons rfl (.cons rfl .nil)) (wk93 (qM.ext hd.1) (rM.ext hd.1) oL) fun g' w' v hs hr => ⟨g', hs, hr⟩) (fun sO hv => ?_)))))))))));obtain ⟨_, _, _, rfl⟩ := hv;refine L_y (.bool (!oE)) rfl rfl rfl rfl lB (Qj rfl) (Z0 (.bool (!oE)) rfl rfl (Zl (b := (decide (n8 > (0 : Int)))) rfl (Tc lB rfl)) (Jd fun eN tO hs => ?_));have hfr := hfr.ext hs;have nD := nD.ext hs;have oB := oB.ext hs;have oD := oD.ext hs;have cC := cC.ext hs;clear hs;refine Zb ?_;obtain rfl := sinj h;exact hQ _ _ ⟨eN, hfr, kH, nD, eF, oB, oD, bE, rF, cC, rfl⟩
          ·refine T6 (g := sI) (n := 12) [] [0, 1, 2, 3, 4, 5, 6, 7, 8, 9, 10, 11] rfl mixed (by kernel_rfl) trivial (Z0 (Iz (n8)) rfl rfl (Zk bE) (Z0 (.bool ((decide (n8 > (0 : Int))))) rfl rfl (Gp rfl rfl rfl) (Z0 (.bool ((decide (n8 > (0 : Int))))) rfl rfl (Zk rfl) ?_)))
           iterate 8 refine L_s rfl rfl rfl lB rfl ?_
           refine Z0 (.bool false) rfl rfl (Zl (b := (decide (n8 > (0 : Int)))) rfl (Gz lB rfl)) (Jd fun gN uO hs => ?_);have hfr := hfr.ext hs;have nD := nD.ext hs;have oB := oB.ext hs;have oD := oD.ext hs;have cC := cC.ext hs;clear hs;refine Zb ?_;obtain rfl := sinj h;exact hQ _ _ ⟨gN, hfr, kH, nD, eF, oB, oD, bE, rF, cC, rfl⟩
         ·clear hx
          obtain ⟨iN, hfr, lJ, oJ, pJ, qJ, rJ, lH, sJ, vJ, xF⟩ := hR;rcases Zt h with ⟨gG, h⟩ | ⟨gG, h⟩
          ·refine Ta (Eq.trans (show ev _ _ = .bool (lD) from xF) (congrArg Value.bool gG)) (Z5 (Zo lH rfl (Zg (.slice none 0 0) rfl rfl (Zg (Iz (n8)) rfl rfl (Zg (Iz (4)) rfl rfl (Z3 (Z9 (Gf (G2 (Gf (Gf (G2 (Gf ?_)))))))))))))
           obtain rfl := sinj h;exact Hc rfl rfl (rq (.slice none 0 0)) (rq (Iz (n8))) (rq (Iz (4))) ⟨_, hfr, _, _, _, rfl, Tp, rfl, rfl⟩
          ·refine G1 (Eq.trans (show ev _ _ = .bool (lD) from xF) (congrArg Value.bool gG)) ?_
           exact Zu (Zd (lL () _ _ ⟨iN, hfr, lJ, oJ, pJ, qJ, rJ, lH, sJ, vJ⟩ h))
        ·rintro _ cO vO ⟨xJ, hfr, zJ, iE, aK, sF, vF, bK, cK, dK⟩ h
         refine Za (Zo aK rfl (Z4 rfl (T8 (g := xJ) isAgg63 sizeOf63 cK dK fun jN kN => (Z4 rfl (Ga (g := xJ) 3057 (xs := ([mB.1] : List Z2)) (vs := [jN]) underlying49 sizeOf63 zeroValue63 rfl rfl (.cons rfl .nil) (RVs.cons kN RVs.nil) rfl rfl fun lN xO yO hs o806 mN hxt hfl => ?_)))));have hfr := hfr.stp hs;have iE := iE.stp hs;have sF := sF.stp hs;have vF := vF.stp hs rfl;obtain ⟨nH, xL, h⟩ := Z1 h;refine Z4 rfl (Qd (g := lN) (i := 3016) underlying49 V1 rfl rfl vF sF rfl mN xL fun nN zO lK hs o807 oN _ => ?_);have hfr := hfr.stp hs;have iE := iE.stp hs;refine Zg lK rfl rfl ?_;exact Zb (Th (Zd (dL (nH) _ _ ⟨nN, (lK), hfr, zJ, iE, rfl, oN, o807, bK⟩ h)))
     ·rintro rE dO aP ⟨pN, mK, hfr, nK, oK, pK, qK, sK, tK⟩ h
      refine Za (Zo tK rfl (Gd (Iz ((w64 (n8 + (1 : Int))))) rfl rfl rfl rfl (Zg (Iz ((w64 (n8 + (1 : Int))))) rfl rfl ?_)));exact Z3 (zK (rE, (w64 (n8 + (1 : Int)))) _ _ ⟨pN, (mK), hfr, nK, oK, pK, qK, sK, rfl⟩ h)
   ·rintro iG eO cP ⟨dP, mH, hfr, uK, vK, tN⟩ h
    refine Z5 (Zo uK rfl (Zg mH rfl rfl (Zg (Iz (0)) rfl rfl (Zg (Iz (0)) rfl rfl (Z3 (Z9 ?_))))));obtain rfl := sinj h;exact Hc rfl rfl (rq mH) (rq (Iz (0))) (rq (Iz (0))) ⟨_, hfr, _, _, _, rfl, vK, rfl, rfl⟩
def f89 (x0 : Z2) (x1 : Z2) : Option (Int) :=
 (f130 ((x0).Day) ((x1).Day)).bind fun y8 =>
 (f130 ((x0).Loom) ((x1).Loom)).bind fun n8 =>
 (f129 (([y8, n8] : List Int))).bind fun aB =>
 some (aB)
theorem en89 : Enters prog 89 := enters_of func89 (by kernel_rfl) rfl
theorem wk89 {gI : Gh} {wI : World} {x0 : Z2} {x1 : Z2} {up0 : Value} (rp0 : RV gI.m wI x0 up0) {up1 : Value} (rp1 : RV gI.m wI x1 up1) {r : Int} (h : f89 x0 x1 = some r) : Fn prog 89 #[up0, up1] gI wI (fun _ _ v => v = Iz (r)) := by
 unfold f89 at h;refine fnE func89 rfl rfl fun g0 hm hfr => ?_;have rp0 := RVc hm rp0;have rp1 := RVc hm rp1;show E _ 17 none _ _ _ _ _;refine Z5 (Z4 rfl (T1 (g := g0) rfl rp0 fun g1 w1 p1 hs q1 => ?_));have hfr := hfr.ext hs;have rp1 := rp1.ext hs;refine Z4 rfl (T1 (g := g1) rfl rp1 fun g2 w2 p2 hs q2 => ?_);have hfr := hfr.ext hs;have q1 := q1.ext hs;refine Zg (Iz (0)) rfl rfl (Z3 (Zf ?_));have q3 := Zm (G8).1 q1;refine Zs (x := .tmp 5) isAgg3 sizeOf3 q3 fun v4 r4 oB => ?_;obtain rfl := Zj.1 r4;have q5 := Zm (G8).1 q2;refine Zs (x := .tmp 7) isAgg3 sizeOf3 q5 fun v6 r6 hl6 => ?_;obtain rfl := Zj.1 r6;obtain ⟨y8, yB, h⟩ := Z1 h;have q9 := Zm (Tg).1 q1;refine Zs (x := .tmp 10) isAgg3 sizeOf3 q9 fun v10 r10 lB => ?_;obtain rfl := Zj.1 r10;have zB := Zm (Tg).1 q2;refine Zs (x := .tmp 12) isAgg3 sizeOf3 zB fun lD cC hl12 => ?_;obtain rfl := Zj.1 cC;obtain ⟨n8, mB, h⟩ := Z1 h;obtain ⟨aB, nB, h⟩ := Z1 h;refine T6 (g := g2) (n := 13) [(4, (fun v g w => v = Iz (y8))), (9, (fun v g w => v = Iz (n8))), (10, (fun v g w => RV g.m w ([y8, n8] : List Int) v ∧ OS 3015 g w 3 ([y8, n8] : List Int) v ∧ Hl v)), (11, (fun v g w => v = Iz (aB)))] [0, 1, 2, 3, 4, 5, 6, 7, 8, 9, 10, 11, 12] rfl mixed (by kernel_rfl) (⟨fun _ => Ha _, fun _ => Ha _, fun _ => Xc Dx (Xc Mh (Ha _)), fun _ => Ha _, trivial⟩) (Z0 (Gc p1 0) rfl rfl (Zc W1 rfl (PT.ptr q1)) (Ti (c := Iz ((x0).Day)) rfl rfl .plain (fun _ _ h => h.ch) oB rfl (Z0 (Gc p2 0) rfl rfl (Zc W1 rfl (PT.ptr q2)) (Ti (c := Iz ((x1).Day)) rfl rfl .plain (fun _ _ h => h.ch) hl6 rfl (Hn (φ := fun v g w => v = Iz (y8)) rfl rfl .plain (fun g w hd => Zp (g := g) (vs := [Iz ((x0).Day), Iz ((x1).Day)]) en130 (.cons rfl (.cons rfl .nil)) (wk130  yB) fun g' w' v hs hr => ⟨g', hs, hr⟩) (fun v7 hv => ?_))))));obtain ⟨_, _, _, rfl⟩ := hv;refine Z0 (Gc p1 1) rfl rfl (Zc Kh rfl (PT.ptr q1)) (Ti (c := Iz ((x0).Loom)) rfl rfl .plain (fun _ _ h => h.ch) lB rfl (Z0 (Gc p2 1) rfl rfl (Zc Kh rfl (PT.ptr q2)) (Ti (c := Iz ((x1).Loom)) rfl rfl .plain (fun _ _ h => h.ch) hl12 rfl (Hn (φ := fun v g w => v = Iz (n8)) rfl rfl .plain (fun g w hd => Zp (g := g) (vs := [Iz ((x0).Loom), Iz ((x1).Loom)]) en130 (.cons rfl (.cons rfl .nil)) (wk130  mB) fun g' w' v hs hr => ⟨g', hs, hr⟩) (fun nD hv => ?_)))));obtain ⟨_, _, _, rfl⟩ := hv;refine Hn (φ := fun v g w => RV g.m w ([y8, n8] : List Int) v ∧ OS 3015 g w 3 ([y8, n8] : List Int) v ∧ Hl v) rfl rfl .plain (fun g w hd => Ga (g := g) 3015 (xs := ([y8, n8] : List Int)) (vs := [Iz (y8), Iz (n8)]) underlying22 sizeOf3 zeroValue3 rfl rfl (.cons rfl (.cons rfl .nil)) (RVs.cons (Zj.2 rfl) (RVs.cons (Zj.2 rfl) RVs.nil)) rfl rfl fun g' w' v hs o r hxt hfl => ⟨g', hxt, r, o, hfl⟩) (fun n9 hv => ?_);clear hv;refine Hn (φ := fun v g w => v = Iz (aB)) rfl rfl .plain (fun g w hd => Zp (g := g) (vs := [n9]) en129 (.cons rfl .nil) (wk129 (Cq (A := fun g w => RV g.m w ([y8, n8] : List Int) n9 ∧ OS 3015 g w 3 ([y8, n8] : List Int) n9 ∧ Hl n9) 10 rfl rfl (Ju hd)).1 nB) fun g' w' v hs hr => ⟨g', hs, hr⟩) (fun oD hv => ?_);obtain ⟨_, _, _, rfl⟩ := hv;refine Z0 (Iz (aB)) rfl rfl (Tv rfl) (Y7 fun aE bE hall => ?_);have hs := hall.1;have hfr := hfr.ext hs;have iE := (Kd (A := fun g w => RV g.m w ([y8, n8] : List Int) n9 ∧ OS 3015 g w 3 ([y8, n8] : List Int) n9 ∧ Hl n9) 10 rfl hall).1;have o34 := (Kd (A := fun g w => RV g.m w ([y8, n8] : List Int) n9 ∧ OS 3015 g w 3 ([y8, n8] : List Int) n9 ∧ Hl n9) 10 rfl hall).2.1;clear hs hall;refine Z3 (Z9 ?_);obtain rfl := sinj h;exact G0 rfl rfl (rq (Iz (aB))) ⟨_, hfr, rfl⟩
def f100 (x0 : Int) (x1 : Int) (x2 : List Int) : Option (Bool) :=
 (f138 x2 ((fun a0 => f139 a0 x0 x1))).bind fun y4 =>
 some ((!y4))
theorem en100 : Enters prog 100 := enters_of func100 (by kernel_rfl) rfl
theorem wk100 {gI : Gh} {wI : World} {x0 : Int} {x1 : Int} {x2 : List Int} {up2 : Value} (rp2 : RV gI.m wI x2 up2) {r : Bool} (h : f100 x0 x1 x2 = some r) : Fn prog 100 #[Iz (x0), Iz (x1), up2] gI wI (fun _ _ v => v = .bool (r)) := by
 unfold f100 at h;refine fnE func100 rfl rfl fun g0 hm hfr => ?_;have rp2 := RVc hm rp2;show E _ 11 none _ _ _ _ _;refine Z5 (Z4 rfl (T1 (g := g0) rfl (Zj.2 rfl) fun g1 w1 p1 hs q1 => ?_));have hfr := hfr.ext hs;have rp2 := rp2.ext hs;refine Z4 rfl (T1 (g := g1) rfl (Zj.2 rfl) fun g2 w2 p2 hs q2 => ?_);have hfr := hfr.ext hs;have rp2 := rp2.ext hs;have q1 := q1.ext hs;refine Zg (.bool false) rfl rfl (Z3 (Z5 (Zn up2 rfl rfl (Zx ((.func (.func 139) #[] #[p1, p2])) (Wt (Ui (show ev _ _ = p1 from rfl) (show ev _ _ = p2 from rfl))) rfl ?_))));obtain ⟨y4, n8, h⟩ := Z1 h;refine Z4 rfl (Zp (g := g2) (vs := [up2, (.func (.func 139) #[] #[p1, p2])]) en138 (.cons rfl (.cons rfl .nil)) (wk138 rp2 ⟨139, #[], #[p1, p2], rfl, en139, fun g' w' hch a0 b0 r hu0 hr => by obtain rfl := Zj.1 hu0; exact Fn.mono (wk139  (q1.ch hch) (q2.ch hch) hr) fun _ _ _ h => Wl.2 h⟩ n8) fun g3 w3_ v3 hs hr => ?_);have hfr := hfr.ext hs;subst hr;refine Zx (.bool (!y4)) (Qj rfl) rfl (Zg (.bool (!y4)) rfl rfl (Z3 (Z9 ?_)));obtain rfl := sinj h;exact G0 rfl rfl (rq (.bool (!y4))) ⟨_, hfr, rfl⟩
def f105 (x0 : TieHarness) : Option (Int) :=
 jn (σ := Unit) (fun _ =>
  some ((0 : Int))
  ) fun yB =>
 (f142 ((1 : Int)) ((24 : Int)) (([(x0).Hooks] : List Int))).bind fun nB =>
 bif (!nB) then
  some ((2 : Int))
 else
  bif (decide ((((x0).Warps).length : Int) > (96 : Int))) then
   some ((5 : Int))
  else
   bif ((((x0).Warps).length : Int) == (0 : Int)) then
    some ((7 : Int))
   else
    (f142 ((0 : Int)) ((w64 ((x0).Hooks - (1 : Int)))) ((x0).Warps)).bind fun oB =>
    bif (!oB) then
     some ((2 : Int))
    else
     yB ()
theorem en105 : Enters prog 105 := enters_of func105 (by kernel_rfl) rfl
theorem wk105 {gI : Gh} {wI : World} {x0 : TieHarness} {up0 : Value} (rp0 : RV gI.m wI x0 up0) {r : Int} (h : f105 x0 = some r) : Fn prog 105 #[up0] gI wI (fun _ _ v => v = Iz (r)) := by
 unfold f105 at h;refine fnE func105 rfl rfl fun g0 hm hfr => ?_;have rp0 := RVc hm rp0;show E _ 27 none _ _ _ _ _;refine Z5 (Z4 rfl (T1 (g := g0) rfl rp0 fun g1 w1 p1 hs q1 => ?_));have hfr := hfr.ext hs;refine Zg (Iz (0)) rfl rfl (Z3 (Zq h (fun (s : Unit) e w => ∃ (g : Gh) , Fr gI wI g w) (fun X21 yB zB h => ?_) ?_))
 ·refine Zr (Z5 (Zx (Gc p1 0) (Zc Hq rfl (PT.ptr q1)) rfl ?_))
  have nD := Zm (Qx).1 q1;refine Z4 rfl (Z7 (g := g1) isAgg3 sizeOf3 rfl nD fun xF oD => ?_);obtain rfl := Zj.1 oD;refine Z4 rfl (Ga (g := g1) 3006 (xs := ([(x0).Hooks] : List Int)) (vs := [Iz ((x0).Hooks)]) underlying22 sizeOf3 zeroValue3 rfl rfl (.cons rfl .nil) (RVs.cons (Zj.2 rfl) RVs.nil) rfl rfl fun aE yF bE hs o24 iE hxt hfl => ?_);have hfr := hfr.stp hs;have q1 := q1.stp hs;obtain ⟨nB, cC, h⟩ := Z1 h;refine Z4 rfl (Zp (g := aE) (vs := [Iz (1), Iz (24), bE]) en142 (.cons rfl (.cons rfl (.cons rfl .nil))) (wk142 iE cC) fun n8 rF aG hs hr => ?_);have hfr := hfr.ext hs;have q1 := q1.ext hs;subst hr;refine Zx (.bool (!nB)) (Qj rfl) rfl (Zg (.bool (!nB)) rfl rfl (Z3 ?_));rcases Zt h with ⟨n9, h⟩ | ⟨n9, h⟩
  ·refine Gx n9 rfl (Z5 (Zg (Iz (2)) rfl rfl (Z3 (Z9 (G2 (Gf ?_))))))
   obtain rfl := sinj h;exact G0 rfl rfl (rq (Iz (2))) ⟨_, hfr, rfl⟩
  ·refine Gy n9 rfl (Z5 (Zx (Gc p1 1) (Zc Hb rfl (PT.ptr q1)) rfl ?_))
   have lE := Zm (Ql).1 q1;refine Z4 rfl (Z7 (g := n8) isAgg22 sizeOf22 rfl lE fun bG mE => (Zx (Iz (((x0).Warps).length : Int)) (G3 underlying22 rfl mE) rfl (Zx (.bool ((decide ((((x0).Warps).length : Int) > (96 : Int))))) (Gp rfl rfl rfl) rfl (Zx (.bool ((decide ((((x0).Warps).length : Int) > (96 : Int))))) (Tv rfl) rfl (Z3 ?_)))));rcases Zt h with ⟨aB, h⟩ | ⟨aB, h⟩
   ·refine Gx aB rfl (Z5 (Zg (Iz (5)) rfl rfl (Z3 (Z9 (G2 (Gf ?_))))))
    obtain rfl := sinj h;exact G0 rfl rfl (rq (Iz (5))) ⟨_, hfr, rfl⟩
   ·refine Gy aB rfl (Z5 (Zx (Gc p1 1) (Zc Hb rfl (PT.ptr q1)) rfl ?_))
    have oE := Zm (Ql).1 q1;refine Z4 rfl (Z7 (g := n8) isAgg22 sizeOf22 rfl oE fun cG rE => (Zx (Iz (((x0).Warps).length : Int)) (G3 underlying22 rfl rE) rfl (Gd (.bool (((((x0).Warps).length : Int) == (0 : Int)))) rfl rfl rfl rfl (Zg (.bool (((((x0).Warps).length : Int) == (0 : Int)))) rfl rfl (Z3 ?_)))));rcases Zt h with ⟨lB, h⟩ | ⟨lB, h⟩
    ·refine Gx lB rfl (Z5 (Zg (Iz (7)) rfl rfl (Z3 (Z9 (G2 (Gf ?_))))))
     obtain rfl := sinj h;exact G0 rfl rfl (rq (Iz (7))) ⟨_, hfr, rfl⟩
    ·refine Gy lB rfl (Z5 (Zx (Gc p1 0) (Zc Hq rfl (PT.ptr q1)) rfl ?_))
     have vE := Zm (Qx).1 q1;refine Z4 rfl (Z7 (g := n8) isAgg3 sizeOf3 rfl vE fun eG xE => ?_);obtain rfl := Zj.1 xE;refine Gd (Iz ((w64 ((x0).Hooks - (1 : Int))))) rfl rfl rfl rfl (Zx (Gc p1 1) (Zc Hb rfl (PT.ptr q1)) rfl ?_);have yE := Zm (Ql).1 q1;refine Z4 rfl (Z7 (g := n8) isAgg22 sizeOf22 rfl yE fun zE cF => ?_);obtain ⟨oB, lD, h⟩ := Z1 h;refine Z4 rfl (Zp (g := n8) (vs := [Iz (0), Iz ((w64 ((x0).Hooks - (1 : Int)))), zE]) en142 (.cons rfl (.cons rfl (.cons rfl .nil))) (wk142 cF lD) fun eF sF gG hs hr => ?_);have hfr := hfr.ext hs;subst hr;refine Zx (.bool (!oB)) (Qj rfl) rfl (Zg (.bool (!oB)) rfl rfl (Z3 ?_));rcases Zt h with ⟨mB, h⟩ | ⟨mB, h⟩
     ·refine Gx mB rfl (Z5 (Zg (Iz (2)) rfl rfl (Z3 (Z9 (G2 (Gf ?_))))))
      obtain rfl := sinj h;exact G0 rfl rfl (rq (Iz (2))) ⟨_, hfr, rfl⟩
     ·refine Gy mB rfl ?_
      exact Zu (Th (Zd (zB () _ _ ⟨eF, hfr⟩ h)))
 ·rintro _ vF iG ⟨jG, hfr⟩ h
  refine Z5 (Zg (Iz (0)) rfl rfl (Z3 (Z9 ?_)));obtain rfl := sinj h;exact G0 rfl rfl (rq (Iz (0))) ⟨_, hfr, rfl⟩
def f132 (z0 : List UInt8) (σ : Type) (cons : U9 σ (Vector UInt8 8)) (s0 : σ) : Option σ :=
 (f133 z0 ((8 : Int))).bind fun y4 =>
 (y4 (Nat × σ) (Rm fun lD nD =>
  (St 8 nD).bind fun oD =>
  (cons lD oD).bind fun (yB, zB) =>
  bif (!yB) then
   some (false, ((1 : Nat), (zB)))
  else
   some (true, ((0 : Nat), (zB)))
  ) (0, (s0))).bind fun (mB, nB) =>
 bif Nat.beq mB 0 then
  some nB
 else
  some nB
theorem en132 : Enters prog 132 := enters_of func132 (by kernel_rfl) rfl
theorem wk132 {σ : Type} {cons : U9 σ (Vector UInt8 8)} {s0 r : σ} {gI : Gh} {wI : World} {z0 : List UInt8} {pf0 : Value} (qf0 : PT gI.m wI z0 pf0) (h : f132 z0 σ cons s0 = some r) : Rx prog (RA1 (α := (Vector UInt8 8))) 132 #[] #[pf0] gI wI cons s0 r := by
 unfold f132 at h;refine Ft func132 rfl (Nat.le_of_ble_eq_true rfl) fun l B J g0 hm hAb hRo hfr => ?_;have hmk : MkF g0 wI [] := MkF.start;have qf0 : PT g0.m wI z0 pf0 := hm ▸ qf0;show E _ 13 none _ _ (W8 #[.func (.yield l) #[] #[], pf0]) _ _;refine Z5 (Z4 rfl (T1 (g := g0) (a := (⟨(.func (.yield l) #[] #[]), rfl⟩ : Fv)) rfl (Xo.2 rfl) fun g1 w1 p1 hs q1 => ?_));have hfr := hfr.ext_ hAb hs;have hmk := hmk.ext hs;have qf0 := qf0.ext hs;refine Z3 (Z5 (Z4 rfl (Z7 (g := g1) isAgg50 sizeOf50 rfl qf0 fun v2 r2 => ?_)));obtain ⟨y4, yE, h⟩ := Z1 h;refine Z4 rfl (Zp (g := g1) (vs := [v2, Iz (8)]) en133 (.cons rfl (.cons rfl .nil)) (wk133 r2 yE) fun g3 w3_ v3 hs hr => ?_);have hfr := hfr.ext_ hAb hs;have hmk := hmk.ext hs;have q1 := q1.ext hs;have r3 := hr;refine Z3 (Zr ?_);have hB0 := hfr.hB;have hmk0 := hmk;obtain ⟨⟨mB, nB⟩, hφ, h⟩ := Z1 h;refine Xk (σ := (Nat × σ)) (s0 := (0, (s0))) 10 rfl (fun s => s.1) [.ret] (fun (s : Nat × σ) (g : Gh) (w : World) => FrY gI wI B J (s.2) g w ∧ MkF g w [] ∧ PT g.m w (⟨(.func (.yield l) #[] #[]), rfl⟩ : Fv) p1 ∧ ItV prog (RA1 (α := (List UInt8))) y4 v3 g.m w) rfl r3 hφ (fun _ _ _ h => (Vp h).1) rfl Rv rfl (fun _ _ _ _ _ hx hR => by obtain ⟨hfr, hmk, z2, z3⟩ := hR; exact ⟨hfr.ist_ hAb hx hB0, hmk.ist hx, z2.ist hx, z3.ist hx⟩) (fun _ _ _ _ _ hx hR => by obtain ⟨hfr, hmk, z2, z3⟩ := hR; exact ⟨hfr.stp_ hAb hx rfl, hmk.stp hx, z2.stp hx, z3.stp hx⟩) ⟨hfr, hmk, q1, r3⟩ (fun _ h => by cases h) ?_ ?_
 ·intro cG xF s x b s2 lE zE vs hsz h hR hrec_0 aE hrd
  obtain ⟨hs0, h⟩ := Vp h;obtain ⟨st, lD⟩ := s;obtain ⟨hfr, hmk, n8, n9⟩ := hR;obtain ⟨nD, hxe⟩ : ∃ y, y = x := ⟨x, rfl⟩;subst hxe;obtain ⟨oB, rfl, lB⟩ := Lo hrd;have aB := RFr.refl lE zE;refine Za (Zg oB rfl rfl (Z3 ?_));obtain ⟨cF, hbr, hs, hrN⟩ := Xq hrec_0 aE;refine ⟨cF, hbr, ?_⟩;have hfr := hfr.stp_ hAb hs rfl;have hmk := hmk.stp hs;have aB := aB.stp hs;have n8 := n8.stp hs;have n9 := n9.stp hs;have lB := lB.stp hs;have hrec_0 := hrN;clear hbr hs hrN;refine Zr (Zf (Zs (α := Fv) (x := .tmp 2) isAgg202 sizeOf202 n8 fun mE oE rE => ?_));have e26 : mE = (.func (.yield l) #[] #[]) := Xo.1 oE;clear oE;subst mE;obtain ⟨oD, bE, h⟩ := Z1 h;have eF := Cs lB bE;refine Zs (x := .tmp 9) isAgg155 sizeOf155 eF fun rF iE vE => (T6 (g := lE) (n := 4) [] [0, 1, 2, 3] rfl mixed (by kernel_rfl) trivial (Ti (c := (.func (.yield l) #[] #[])) rfl rfl .plain (fun _ _ h => h.ch) rE rfl (Z0 oB rfl rfl (Zk rfl) (Z0 ((Ag oB)) rfl rfl (F8 underlying155 rfl lB bE) (Ti (c := rF) rfl rfl .plain (fun _ _ h => h.ch) vE rfl (Jd fun sF eG hs => ?_))))));have hfr := hfr.ext_ hAb hs;have hmk := hmk.ext hs;have aB := aB.ext hs;have hrec_0 := hrec_0.ext hs;have n8 := n8.ext hs;have n9 := n9.ext hs;have iE := iE.ext hs;clear hs;obtain ⟨vF, xE, h⟩ := Z1 h;obtain ⟨yB, zB⟩ := vF;refine Z4 rfl (Lr (g := sF) (x := oD) rfl (.cons rfl .nil) hRo hfr xE ⟨_, rfl, iE⟩ fun gG iG hs hfrY => ?_);have hmk := hmk.stp hs;have aB := aB.stp hs;have hrec_0 := hrec_0.stp hs rfl;have n8 := n8.stp hs;have n9 := n9.stp hs;have hfr := hfrY;clear hfrY;refine Zx (.bool (!yB)) (Qj rfl) rfl (Z3 ?_);rcases Zt h with ⟨cC, h⟩ | ⟨cC, h⟩
  ·refine Gx cC rfl (Z9 (G2 ?_))
   obtain ⟨rfl, rfl⟩ := Jb h;exact ⟨_, aB, ⟨hfr, hmk, n8, n9⟩, hrec_0, rfl, 0, rfl, rfl⟩
  ·refine Gy cC rfl (Zu (Th ?_))
   obtain ⟨rfl, rfl⟩ := Jb h;exact ⟨_, aB, ⟨hfr, hmk, n8, n9⟩, hrec_0, rfl, rfl⟩
 ·intro jG kG ds44 hsz hR hds
  obtain ⟨hfr, hmk, yF, aG⟩ := hR;obtain ⟨D, hdse, hD, hDb⟩ := hds.1 rfl;subst hdse;replace hmk := MkF.push hmk0 hmk hD hDb;clear hD hDb hds;revert hmk;generalize ({ target := .collected D, args := #[] } :: [] : List Deferred) = bG;intro hmk;refine ⟨fun hs => ?_, fun k c hs hc => ?_⟩
  ·have hs : mB = 0 := hs
   subst hs;replace h := Ao h rfl;refine Th (Pe (.inl rfl) hmk fun lG mG hs => ?_);have hfr := hfr.stp_ hAb hs rfl;obtain rfl := sinj h;exact Ho rfl rfl (FrY.done hfr)
  ·have hs : mB = k + 1 := hs
   match k, hs, hc with
   | 0, hs, hc =>
    subst hs;obtain rfl := sinj hc;replace h := Pt h rfl;refine Z9 (G2 (Pe (.inr rfl) hmk fun yG zG hs => ?_));have hfr := hfr.stp_ hAb hs rfl;obtain rfl := sinj h;exact end0 rfl rfl (FrY.done hfr)
   | n + 1, _, hc => exact absurd hc (by simp)
def f136 (x0 : List Int) (x1 : Int) : Option ((List Int)) :=
 Option.bind (α := Unit) (
  bif (decide (x1 < (0 : Int))) then
   none
  else
   some ()
  ) fun (_ : Unit) =>
 (f166 ((⟨(T2 ((x0).length : Int))⟩ : U64)) ((⟨(T2 x1)⟩ : U64))).bind fun y5 =>
 Option.bind (α := Unit) (
  Option.bind (α := Bool) (
   bif (decide ((y5.1).n > (0 : Int))) then
    some (true)
   else
    some ((decide ((y5.2).n > (9223372036854775807 : Int))))
   ) fun lB =>
  bif lB then
   none
  else
   some ()
  ) fun (_ : Unit) =>
 (mks 8 (0 : Int) ((w64 ((y5.2).n)))).bind fun bE =>
 Option.bind (α := (List Int)) (
  lp (σ := (List Int) × Int) (fun xF (n9, n8) =>
   jn (σ := Unit) (fun _ =>
    (cut n9 n8 ((n9).length : Int)).bind fun oB =>
    (cut n9 0 n8).bind fun y40 =>
    xF ((cpy n9 n8 oB y40), (w64 (n8 + ((min (y40).length (oB).length : Nat) : Int))))
    ) fun k33 =>
   bif (decide (n8 < ((n9).length : Int))) then
    k33 ()
   else
    some (n9)
   ) big ((cpy bE 0 bE x0), ((min (x0).length (bE).length : Nat) : Int))
  ) fun zB =>
 some (zB)
theorem en136 : Enters prog 136 := enters_of func136 (by kernel_rfl) rfl
theorem wk136 {gI : Gh} {wI : World} {x0 : List Int} {x1 : Int} {up0 : Value} (rp0 : RV gI.m wI x0 up0) {r : (List Int)} (h : f136 x0 x1 = some r) : Fn prog 136 #[up0, Iz (x1)] gI wI (fun m w v => RV m w (r) v) := by
 unfold f136 at h;refine fnE func136 rfl rfl fun g0 hm hfr => ?_;have rp0 := RVc hm rp0;show E _ 48 none _ _ _ _ _;refine Z5 (Zg (.slice none 0 0) rfl rfl (Z3 ?_));obtain ⟨_, hx, h⟩ := Z1 h;refine G6 (fun e w => ∃ (g : Gh) , Fr gI wI g w ∧ e 0 = up0 ∧ RV g.m w (x0 : List Int) up0 ∧ e 1 = Iz (x1)) (fun Q' hQ => ?_) (fun nH w3 hR => ?_)
 ·replace h := hx
  clear hx;refine Z5 (Zn (Iz (x1)) rfl rfl (Gd (.bool ((decide (x1 < (0 : Int))))) rfl rfl rfl rfl (Z3 ?_)));rcases Zt h with ⟨hc2, h⟩ | ⟨hc2, h⟩
  ·refine Gx hc2 rfl (Za ?_)
   cases h
  ·refine Gy hc2 rfl (Zu ?_)
   obtain rfl := sinj h;exact hQ _ _ ⟨g0, hfr, rfl, rp0, rfl⟩
 ·clear hx
  obtain ⟨g3, hfr, lE, yB, bG⟩ := hR;refine Z5 (Zo lE rfl (Zx (Iz ((x0).length : Int)) (G3 underlying22 rfl yB) rfl (Zx (.int .u64 (T2 ((x0).length : Int))) (Vm underlying3 underlying97 rfl) rfl (Zo bG rfl (Zx (.int .u64 (T2 x1)) (Vm underlying3 underlying97 rfl) rfl ?_)))));obtain ⟨y5, hy5, h⟩ := Z1 h;refine Z4 rfl (Zp (g := g3) (vs := [.int .u64 (T2 ((x0).length : Int)), .int .u64 (T2 x1)]) en166 (.cons rfl (.cons rfl .nil)) (wk166  hy5) fun g4 w4_ v4 hs hr => ?_);have hfr := hfr.ext hs;have yB := yB.ext hs;obtain ⟨zG, cH, rfl, rfl, rfl⟩ := hr;refine Zn (.tuple #[.int .u64 ((y5.1).n), .int .u64 ((y5.2).n)]) rfl rfl (Zx (.int .u64 ((y5.1).n)) (Zi rfl rfl) rfl (Zx (.int .u64 ((y5.2).n)) (Zi rfl rfl) rfl (Zg (.int .u64 ((y5.1).n)) rfl rfl (Zg (.int .u64 ((y5.2).n)) rfl rfl (Z3 ?_)))));obtain ⟨_, hx, h⟩ := Z1 h;refine G6 (fun e w => ∃ (g : Gh) , Fr gI wI g w ∧ e 0 = up0 ∧ RV g.m w (x0 : List Int) up0 ∧ e 6 = .int .u64 ((y5.2).n)) (fun Q' hQ => ?_) (fun gH oH hR => ?_)
  ·replace h := hx
   clear hx;obtain ⟨lB, hx, h⟩ := Z1 h;refine G6 (fun e w => ∃ (g : Gh) , Fr gI wI g w ∧ e 0 = up0 ∧ RV g.m w (x0 : List Int) up0 ∧ e 6 = .int .u64 ((y5.2).n) ∧ e 26 = .bool (lB)) (fun Q' hQ => ?_) (fun jH pH hR => ?_)
   ·replace h := hx
    clear hx;refine Za (Zn (.int .u64 ((y5.1).n)) rfl rfl (Zx (.bool (decide ((y5.1).n > (0 : Int)))) (Cc rfl rfl rfl) rfl (Zn (.bool (decide ((y5.1).n > (0 : Int)))) rfl rfl ?_)));rcases Zt h with ⟨mB, h⟩ | ⟨mB, h⟩
    ·refine Zz rfl rfl mB rfl rfl (Zz rfl rfl mB rfl rfl (Zx (.bool true) (Zl (b := (decide ((y5.1).n > (0 : Int)))) rfl (Tc mB rfl)) rfl (Zb ?_)))
     obtain rfl := sinj h;exact hQ _ _ ⟨g4, hfr, lE, yB, rfl, rfl⟩
    ·refine Zy (.int .u64 ((y5.2).n)) (Zk rfl) rfl rfl mB rfl (Zy (.bool (decide ((y5.2).n > (9223372036854775807 : Int)))) (Cc rfl rfl rfl) rfl rfl mB rfl (Zx (.bool (decide ((y5.2).n > (9223372036854775807 : Int)))) (Zl (b := (decide ((y5.1).n > (0 : Int)))) rfl (Gz mB rfl)) rfl (Zb ?_)))
     obtain rfl := sinj h;exact hQ _ _ ⟨g4, hfr, lE, yB, rfl, rfl⟩
   ·clear hx
    obtain ⟨iG, hfr, yE, zE, cF, iE⟩ := hR;rcases Zt h with ⟨mE, h⟩ | ⟨mE, h⟩
    ·refine Ta (Eq.trans (show ev _ _ = .bool (lB) from iE) (congrArg Value.bool mE)) (Za ?_)
     cases h
    ·refine G1 (Eq.trans (show ev _ _ = .bool (lB) from iE) (congrArg Value.bool mE)) (Zu ?_)
     obtain rfl := sinj h;exact hQ _ _ ⟨iG, hfr, yE, zE, cF⟩
  ·clear hx
   obtain ⟨jG, hfr, eF, cC, rF⟩ := hR;refine Z5 (Zo rF rfl (Zx (Iz ((w64 ((y5.2).n)))) (Ci underlying97 underlying3 rfl) rfl ?_));obtain ⟨bE, cG, h⟩ := Z1 h;refine Z4 rfl (S0 (g := jG) 9030 (0 : Int) rfl underlying22 Rg rfl (fun _ _ => rfl) rfl rfl cG fun kG qH aB hs b16 => ?_);have hfr := hfr.stp hs;have cC := cC.stp hs;refine Zg aB rfl rfl (Z3 (Z5 (Zn aB rfl rfl (Zo eF rfl (Z4 rfl (N0 (g := kG) (α := Int) underlying22 Rg rfl b16 rfl cC fun lG sH hs b17 => ?_))))));have hfr := hfr.stp hs;refine Zg (Iz ((min (x0).length (bE).length : Nat) : Int)) rfl rfl (Z3 ?_);obtain ⟨zB, hx, h⟩ := Z1 h;refine G6 (fun e w => ∃ (g : Gh) , Fr gI wI g w ∧ e 7 = aB ∧ OM 9030 g w 3 (zB : List Int) aB) (fun Q' hQ => ?_) (fun kH tH hR => ?_)
   ·replace h := hx
    clear hx;refine Zr (Kv h (fun (s : (List Int) × Int) e w => ∃ (g : Gh) , Fr gI wI g w ∧ e 7 = aB ∧ OM 9030 g w 3 (s.1 : List Int) aB ∧ e 8 = Iz (s.2)) ⟨lG, hfr, rfl, b17, rfl⟩ (fun X30 xF eG => ?_));rintro ⟨n9, n8⟩ lH uH ⟨yF, hfr, lD, nD, rE⟩ h;refine Zq h (fun (s : Unit) e w => ∃ (g : Gh) , Fr gI wI g w ∧ e 7 = aB ∧ OM 9030 g w 3 (n9 : List Int) aB ∧ e 8 = Iz (n8)) (fun X33 k33 gG h => ?_) ?_
    ·refine Z5 (Zo rE rfl (Zo lD rfl (Zx (Iz ((n9).length : Int)) (P1 underlying22 rfl nD) rfl (Gd (.bool ((decide (n8 < ((n9).length : Int))))) rfl rfl rfl rfl (Z3 ?_)))))
     rcases Zt h with ⟨oE, h⟩ | ⟨oE, h⟩
     ·refine Gx oE rfl ?_
      exact Zu (Zd (gG () _ _ ⟨yF, hfr, lD, nD, rE⟩ h))
     ·refine Gy oE rfl (Tu (G5 (G5 (Tf ?_))))
      obtain rfl := sinj h;exact hQ _ _ ⟨yF, hfr, lD, nD⟩
    ·rintro _ mH mG ⟨aG, hfr, oD, nB, aE⟩ h
     refine Zr ?_;obtain ⟨oB, vE, h⟩ := Z1 h;obtain ⟨y40, xE, h⟩ := Z1 h;refine Qk (g := aG) (w := mG) (n := 8) [0, 1, 2, 3, 4, 5, 6] [] [0, 1, 2, 3, 4, 5, 6, 7] rfl mixed (by kernel_rfl) fun w_c38 hs hlt => ?_;have hfr := hfr.ext hs;have nB := nB.ext hs;clear hs;refine Z6 (c := Iz (n8)) rfl rfl .plain (Zk aE) (Z6 (c := aB) rfl rfl .plain (Zk oD) (Z6 (c := Iz (n8)) rfl rfl .plain (Zk aE) (Z6 (c := (Kf aB (Int.toNat n8) (Int.toNat ((n9).length : Int)) 1)) rfl rfl .plain (Mp (α := Int) underlying22 sizeOf3 rfl (OM.hdr nB) rfl rfl vE) (Z6 (c := aB) rfl rfl .plain (Zk oD) (Z6 (c := Iz (n8)) rfl rfl .plain (Zk aE) (Z6 (c := (Kf aB 0 (Int.toNat n8) 1)) rfl rfl .plain (Mp (α := Int) underlying22 sizeOf3 rfl (OM.hdr nB) rfl rfl xE) (W7 rfl rfl .plain (P8 (g := aG) (α := Int) underlying22 Rg rfl nB rfl vE xE fun yG yH hs b41 => ?_))))))));have hfr := hfr.stp hs;have hlt := hlt.stp hs;refine ⟨hlt.toW, ?_⟩;refine Q7 ?_;clear hlt;refine Zx (Iz ((w64 (n8 + ((min (y40).length (oB).length : Nat) : Int))))) (Gp rfl rfl rfl) rfl (Zx (Iz ((w64 (n8 + ((min (y40).length (oB).length : Nat) : Int))))) (Tv rfl) rfl ?_);exact Zb (Th (Zd (eG ((cpy n9 n8 oB y40), (w64 (n8 + ((min (y40).length (oB).length : Nat) : Int)))) _ _ ⟨yG, hfr, oD, b41, rfl⟩ h)))
   ·clear hx
    obtain ⟨zH, hfr, sF, vF⟩ := hR;refine Z5 (Zo sF rfl ?_);obtain ⟨gp43, hs, rp43⟩ := OM.pub vF;have hfr := hfr.stp hs;refine Zg aB rfl rfl (Z3 (Z9 ?_));obtain rfl := sinj h;exact G0 rfl rfl (rq aB) ⟨_, hfr, rp43⟩
def f147 (x0 : List Str) : Option (Bool) :=
 jn (σ := Unit) (fun _ =>
  some (true)
  ) fun k53 =>
 lp (σ := Int) (fun k54 n8 =>
  jn (σ := Unit) (fun _ =>
   jn (σ := Unit) (fun _ =>
    k54 ((w64 (n8 - (1 : Int))))
    ) fun lE =>
   (idx x0 n8).bind fun y84 =>
   (idx x0 (w64 (n8 - (1 : Int)))).bind fun oB =>
   (f178 y84 oB).bind fun yB =>
   bif yB then
    some (false)
   else
    lE ()
   ) fun k57 =>
  bif (decide (n8 > (0 : Int))) then
   k57 ()
  else
   k53 ()
  ) big ((w64 (((x0).length : Int) - (1 : Int))))
theorem en147 : Enters prog 147 := enters_of func147 (by kernel_rfl) rfl
theorem wk147 {gI : Gh} {wI : World} {x0 : List Str} {up0 : Value} (rp0 : RV gI.m wI x0 up0) {r : Bool} (h : f147 x0 = some r) : Fn prog 147 #[up0] gI wI (fun _ _ v => v = .bool (r)) := by
 unfold f147 at h;refine fnE func147 rfl rfl fun g0 hm hfr => ?_;have rp0 := RVc hm rp0;show E _ 21 none _ _ _ _ _;refine Z5 (Zg (.bool false) rfl rfl (Z3 (Zq h (fun (s : Unit) e w => ∃ (g : Gh) , Fr gI wI g w) (fun X53 k53 oE h => ?_) ?_)))
 ·refine Z5 (Zn up0 rfl rfl (Zx (Iz ((x0).length : Int)) (G3 underlying104 rfl rp0) rfl (Gd (Iz ((w64 (((x0).length : Int) - (1 : Int))))) rfl rfl rfl rfl (Zg (Iz ((w64 (((x0).length : Int) - (1 : Int))))) rfl rfl (Z3 (Zr (Kv h (fun (s : Int) e w => ∃ (g : Gh) , Fr gI wI g w ∧ e 0 = up0 ∧ RV g.m w (x0 : List Str) up0 ∧ e 3 = Iz (s)) ⟨g0, hfr, rfl, rp0, rfl⟩ (fun X54 k54 rE => ?_))))))))
  rintro n8 eG lG ⟨mE, hfr, bE, iE, zB⟩ h;refine Zq h (fun (s : Unit) e w => ∃ (g : Gh) , Fr gI wI g w ∧ e 0 = up0 ∧ RV g.m w (x0 : List Str) up0 ∧ e 3 = Iz (n8)) (fun X57 k57 vE h => ?_) ?_
  ·refine Z5 (Zo zB rfl (Gd (.bool ((decide (n8 > (0 : Int))))) rfl rfl rfl rfl (Z3 ?_)))
   rcases Zt h with ⟨nB, h⟩ | ⟨nB, h⟩
   ·refine Gx nB rfl ?_
    exact Zu (Zd (vE () _ _ ⟨mE, hfr, bE, iE, zB⟩ h))
   ·refine Gy nB rfl (Tu (G5 (G5 (Tf ?_))))
    exact Zd (oE () _ _ ⟨mE, hfr⟩ h)
  ·rintro _ gG mG ⟨rF, hfr, aB, n9, lB⟩ h
   refine Zq h (fun (s : Unit) e w => ∃ (g : Gh) , Fr gI wI g w ∧ e 0 = up0 ∧ RV g.m w (x0 : List Str) up0 ∧ e 3 = Iz (n8)) (fun X83 lE xE h => ?_) ?_
   ·refine Zr (Zf ?_)
    obtain ⟨y84, cC, h⟩ := Z1 h;have sF := Gn n9 cC;refine Zs (x := .tmp 13) isAgg9 sizeOf9 sF fun yG vF yE => ?_;obtain rfl := Ts.1 vF;obtain ⟨oB, lD, h⟩ := Z1 h;have xF := Gn n9 lD;refine Zs (x := .tmp 18) isAgg9 sizeOf9 xF fun zG yF zE => ?_;obtain rfl := Ts.1 yF;obtain ⟨yB, cF, h⟩ := Z1 h;refine T6 (g := rF) (n := 10) [(9, (fun v g w => v = .bool (yB)))] [0, 1, 2, 3, 4, 5, 6, 7, 8, 9] rfl mixed (by kernel_rfl) (⟨fun _ => Ha _, trivial⟩) (Z0 up0 rfl rfl (Zk aB) (Z0 (Iz (n8)) rfl rfl (Zk lB) (Z0 (Gq up0 n8 1) rfl rfl (Zh (α := Str) underlying104 sizeOf9 rfl n9 rfl cC) (Ti (c := Str.v (y84)) rfl rfl .plain (fun _ _ h => h.ch) yE rfl (Z0 up0 rfl rfl (Zk aB) (Z0 (Iz (n8)) rfl rfl (Zk lB) (Z0 (Iz ((w64 (n8 - (1 : Int))))) rfl rfl (Gp rfl rfl rfl) (Z0 (Gq up0 (w64 (n8 - (1 : Int))) 1) rfl rfl (Zh (α := Str) underlying104 sizeOf9 rfl n9 rfl lD) (Ti (c := Str.v (oB)) rfl rfl .plain (fun _ _ h => h.ch) zE rfl (Hn (φ := fun v g w => v = .bool (yB)) rfl rfl .plain (fun g w hd => Zp (g := g) (vs := [Str.v (y84), Str.v (oB)]) en178 (.cons rfl (.cons rfl .nil)) (wk178  cF) fun g' w' v hs hr => ⟨g', hs, hr⟩) (fun cH hv => ?_)))))))))));obtain ⟨_, _, _, rfl⟩ := hv;refine Jd fun aG gH hs => ?_;have hfr := hfr.ext hs;have n9 := n9.ext hs;clear hs;refine Z3 ?_;rcases Zt h with ⟨mB, h⟩ | ⟨mB, h⟩
    ·refine Gx mB rfl (Z5 (Zg (.bool false) rfl rfl (Z3 (Z9 (G2 (Gf (Gf (G2 (Gf ?_)))))))))
     obtain rfl := sinj h;exact G0 rfl rfl (rq (.bool false)) ⟨_, hfr, rfl⟩
    ·refine Gy mB rfl ?_
     exact Zu (Th (Zd (xE () _ _ ⟨aG, hfr, aB, n9, lB⟩ h)))
   ·rintro _ bG iG ⟨eF, hfr, nD, oD, aE⟩ h
    refine Za (Zo aE rfl (Gd (Iz ((w64 (n8 - (1 : Int))))) rfl rfl rfl rfl (Zg (Iz ((w64 (n8 - (1 : Int))))) rfl rfl ?_)));exact Z3 (rE ((w64 (n8 - (1 : Int)))) _ _ ⟨eF, hfr, nD, oD, rfl⟩ h)
 ·rintro _ cG jG ⟨kG, hfr⟩ h
  refine Z5 (Zg (.bool true) rfl rfl (Z3 (Z9 ?_)));obtain rfl := sinj h;exact G0 rfl rfl (rq (.bool true)) ⟨_, hfr, rfl⟩
def f167 (x0 : Tb) : Option (Int) :=
 jn (σ := Unit) (fun _ =>
  some ((0 : Int))
  ) fun oB =>
 (f200 ((1 : Int)) ((24 : Int)) (([(x0).Hooks] : List Int))).bind fun y56 =>
 bif (!y56) then
  some ((2 : Int))
 else
  bif (decide ((((x0).Rows).length : Int) > (60 : Int))) then
   some ((5 : Int))
  else
   bif ((((x0).Rows).length : Int) == (0 : Int)) then
    some ((7 : Int))
   else
    (Ve (1 : Int) (x0).Hooks).bind fun n9 =>
    (f200 ((0 : Int)) ((w64 (n9 - (1 : Int)))) ((x0).Rows)).bind fun y71 =>
    bif (!y71) then
     some ((2 : Int))
    else
     oB ()
theorem en167 : Enters prog 167 := enters_of func167 (by kernel_rfl) rfl
theorem wk167 {gI : Gh} {wI : World} {x0 : Tb} {up0 : Value} (rp0 : RV gI.m wI x0 up0) {r : Int} (h : f167 x0 = some r) : Fn prog 167 #[up0] gI wI (fun _ _ v => v = Iz (r)) := by
 unfold f167 at h;refine fnE func167 rfl rfl fun g0 hm hfr => ?_;have rp0 := RVc hm rp0;show E _ 28 none _ _ _ _ _;refine Z5 (Z4 rfl (T1 (g := g0) rfl rp0 fun g1 w1 p1 hs q1 => ?_));have hfr := hfr.ext hs;refine Zg (Iz (0)) rfl rfl (Z3 (Zq h (fun (s : Unit) e w => ∃ (g : Gh) , Fr gI wI g w) (fun X51 oB zB h => ?_) ?_))
 ·refine Zr (Z5 (Zx (Gc p1 0) (Zc H1 rfl (PT.ptr q1)) rfl ?_))
  have bE := Zm (Wm).1 q1;refine Z4 rfl (Z7 (g := g1) isAgg3 sizeOf3 rfl bE fun bG iE => ?_);obtain rfl := Zj.1 iE;refine Z4 rfl (Ga (g := g1) 3006 (xs := ([(x0).Hooks] : List Int)) (vs := [Iz ((x0).Hooks)]) underlying22 sizeOf3 zeroValue3 rfl rfl (.cons rfl .nil) (RVs.cons (Zj.2 rfl) RVs.nil) rfl rfl fun lE cG mE hs o54 oE hxt hfl => ?_);have hfr := hfr.stp hs;have q1 := q1.stp hs;obtain ⟨y56, cC, h⟩ := Z1 h;refine Z4 rfl (Zp (g := lE) (vs := [Iz (1), Iz (24), mE]) en200 (.cons rfl (.cons rfl (.cons rfl .nil))) (wk200 oE cC) fun nB xF eG hs hr => ?_);have hfr := hfr.ext hs;have q1 := q1.ext hs;subst hr;refine Zx (.bool (!y56)) (Qj rfl) rfl (Zg (.bool (!y56)) rfl rfl (Z3 ?_));rcases Zt h with ⟨aB, h⟩ | ⟨aB, h⟩
  ·refine Gx aB rfl (Z5 (Zg (Iz (2)) rfl rfl (Z3 (Z9 (G2 (Gf ?_))))))
   obtain rfl := sinj h;exact G0 rfl rfl (rq (Iz (2))) ⟨_, hfr, rfl⟩
  ·refine Gy aB rfl (Z5 (Zx (Gc p1 1) (Zc Hf rfl (PT.ptr q1)) rfl ?_))
   have rE := Zm (Qt).1 q1;refine Z4 rfl (Z7 (g := nB) isAgg22 sizeOf22 rfl rE fun gG vE => (Zx (Iz (((x0).Rows).length : Int)) (G3 underlying22 rfl vE) rfl (Zx (.bool ((decide ((((x0).Rows).length : Int) > (60 : Int))))) (Gp rfl rfl rfl) rfl (Zx (.bool ((decide ((((x0).Rows).length : Int) > (60 : Int))))) (Tv rfl) rfl (Z3 ?_)))));rcases Zt h with ⟨lB, h⟩ | ⟨lB, h⟩
   ·refine Gx lB rfl (Z5 (Zg (Iz (5)) rfl rfl (Z3 (Z9 (G2 (Gf ?_))))))
    obtain rfl := sinj h;exact G0 rfl rfl (rq (Iz (5))) ⟨_, hfr, rfl⟩
   ·refine Gy lB rfl (Z5 (Zx (Gc p1 1) (Zc Hf rfl (PT.ptr q1)) rfl ?_))
    have xE := Zm (Qt).1 q1;refine Z4 rfl (Z7 (g := nB) isAgg22 sizeOf22 rfl xE fun v62 yE => (Zx (Iz (((x0).Rows).length : Int)) (G3 underlying22 rfl yE) rfl (Gd (.bool (((((x0).Rows).length : Int) == (0 : Int)))) rfl rfl rfl rfl (Zg (.bool (((((x0).Rows).length : Int) == (0 : Int)))) rfl rfl (Z3 ?_)))));rcases Zt h with ⟨mB, h⟩ | ⟨mB, h⟩
    ·refine Gx mB rfl (Z5 (Zg (Iz (7)) rfl rfl (Z3 (Z9 (G2 (Gf ?_))))))
     obtain rfl := sinj h;exact G0 rfl rfl (rq (Iz (7))) ⟨_, hfr, rfl⟩
    ·refine Gy mB rfl (Zf ?_)
     have zE := Zm (Wm).1 q1;refine Zs (x := .tmp 20) isAgg3 sizeOf3 zE fun iG cF lD => ?_;obtain rfl := Zj.1 cF;obtain ⟨n9, nD, h⟩ := Z1 h;have eF := Zm (Qt).1 q1;refine Zs (x := .tmp 24) isAgg22 sizeOf22 eF fun yB rF oD => ?_;obtain ⟨y71, aE, h⟩ := Z1 h;refine T6 (g := nB) (n := 9) [(6, (fun v g w => v = .bool (y71)))] [0, 1, 2, 3, 4, 5, 6, 7, 8] rfl mixed (by kernel_rfl) (⟨fun _ => Ha _, trivial⟩) (Z0 (Gc p1 0) rfl rfl (Zc H1 rfl (PT.ptr q1)) (Ti (c := Iz ((x0).Hooks)) rfl rfl .plain (fun _ _ h => h.ch) lD rfl (Z0 (Iz (n9)) rfl rfl (Gp rfl rfl (congrArg (Option.map (Value.int .i64)) nD)) (Z0 (Iz ((w64 (n9 - (1 : Int))))) rfl rfl (Gp rfl rfl rfl) (Z0 (Gc p1 1) rfl rfl (Zc Hf rfl (PT.ptr q1)) (Ti (c := yB) rfl rfl .plain (fun _ _ h => h.ch) oD rfl (Hn (φ := fun v g w => v = .bool (y71)) rfl rfl .plain (fun g w hd => Zp (g := g) (vs := [Iz (0), Iz ((w64 (n9 - (1 : Int)))), yB]) en200 (.cons rfl (.cons rfl (.cons rfl .nil))) (wk200 (rF.ext hd.1) aE) fun g' w' v hs hr => ⟨g', hs, hr⟩) (fun jG hv => ?_))))))));obtain ⟨_, _, _, rfl⟩ := hv;refine Z0 (.bool (!y71)) rfl rfl (Qj rfl) (Z0 (.bool (!y71)) rfl rfl (Tv rfl) (Jd fun sF kG hs => ?_));have hfr := hfr.ext hs;clear hs;refine Z3 ?_;rcases Zt h with ⟨n8, h⟩ | ⟨n8, h⟩
     ·refine Gx n8 rfl (Z5 (Zg (Iz (2)) rfl rfl (Z3 (Z9 (G2 (Gf ?_))))))
      obtain rfl := sinj h;exact G0 rfl rfl (rq (Iz (2))) ⟨_, hfr, rfl⟩
     ·refine Gy n8 rfl ?_
      exact Zu (Th (Zd (zB () _ _ ⟨sF, hfr⟩ h)))
 ·rintro _ vF yF ⟨aG, hfr⟩ h
  refine Z5 (Zg (Iz (0)) rfl rfl (Z3 (Z9 ?_)));obtain rfl := sinj h;exact G0 rfl rfl (rq (Iz (0))) ⟨_, hfr, rfl⟩
def f176 (x0 : Str) (x1 : I32 → Option Bool) : Option (Bool) :=
 (f210 x0 x1).bind fun y2 =>
 some ((decide (y2 ≥ (0 : Int))))
theorem en176 : Enters prog 176 := enters_of func176 (by kernel_rfl) rfl
theorem wk176 {gI : Gh} {wI : World} {x0 : Str} {x1 : I32 → Option Bool} {up1 : Value} (rp1 : H9 prog x1 up1 gI wI) {r : Bool} (h : f176 x0 x1 = some r) : Fn prog 176 #[Str.v (x0), up1] gI wI (fun _ _ v => v = .bool (r)) := by
 unfold f176 at h;refine fnE func176 rfl rfl fun g0 hm hfr => ?_;obtain ⟨ff1, fa1, fc1, rfl, fen1, fcl1⟩ := rp1;show E _ 9 none _ _ _ _ _;refine Z5 (Zg (.bool false) rfl rfl (Z3 (Z5 (Zn (Str.v (x0)) rfl rfl (Zn ((.func (.func ff1) fa1 fc1)) rfl rfl ?_)))));obtain ⟨y2, hy2, h⟩ := Z1 h;refine Z4 rfl (Zp (g := g0) (vs := [Str.v (x0), (.func (.func ff1) fa1 fc1)]) en210 (.cons rfl (.cons rfl .nil)) (wk210 (H9.ch ⟨_, _, _, rfl, fen1, fcl1⟩ hfr.ch) hy2) fun g1 w1_ v1 hs hr => ?_);have hfr := hfr.ext hs;subst hr;refine Gd (.bool ((decide (y2 ≥ (0 : Int))))) rfl rfl rfl rfl (Zg (.bool ((decide (y2 ≥ (0 : Int))))) rfl rfl (Z3 (Z9 ?_)));obtain rfl := sinj h;exact G0 rfl rfl (rq (.bool ((decide (y2 ≥ (0 : Int)))))) ⟨_, hfr, rfl⟩
def f197 (x0 : Int) (x1 : Int) : Option (Int) :=
 (f227 ((⟨(T2 x1)⟩ : U64))).bind fun y2 =>
 (Kz ((y2).n) (T2 (((64 : Int)) - ((T2 x0))))).bind fun y3 =>
 some ((w64 y3))
theorem en197 : Enters prog 197 := enters_of func197 (by kernel_rfl) rfl
theorem wk197 {gI : Gh} {wI : World} {x0 : Int} {x1 : Int}  {r : Int} (h : f197 x0 x1 = some r) : Fn prog 197 #[Iz (x0), Iz (x1)] gI wI (fun _ _ v => v = Iz (r)) := by
 unfold f197 at h;refine fnE func197 rfl rfl fun g0 hm hfr => ?_;show E _ 13 none _ _ _ _ _;refine Z5 (Zg (Iz (0)) rfl rfl (Z3 (Z5 (Zn (Iz (x1)) rfl rfl (Zx (.int .u64 (T2 x1)) (Vm underlying3 underlying259 rfl) rfl ?_)))));obtain ⟨y2, hy2, h⟩ := Z1 h;refine Z4 rfl (Zp (g := g0) (vs := [.int .u64 (T2 x1)]) en227 (.cons rfl .nil) (wk227  hy2) fun g1 w1_ v1 hs hr => ?_);have hfr := hfr.ext hs;subst hr;refine Zn (Iz (x0)) rfl rfl (Zx (.int .u64 (T2 x0)) (Vm underlying218 underlying97 rfl) rfl (Zx (.int .u64 (T2 (((64 : Int)) - ((T2 x0))))) (P_usub rfl rfl) rfl ?_));obtain ⟨y3, hy3, h⟩ := Z1 h;refine Zx (.int .u64 (y3)) (Je rfl rfl hy3) rfl (Zx (Iz ((w64 y3))) (Ci underlying259 underlying3 rfl) rfl (Zg (Iz ((w64 y3))) rfl rfl (Z3 (Z9 ?_))));obtain rfl := sinj h;exact G0 rfl rfl (rq (Iz ((w64 y3)))) ⟨_, hfr, rfl⟩
def f207 (x0 : Gb) (z0 : Int) : Option (Bool) :=
 Option.bind (α := Bool) (
  (f163 ((-1 : Int)) ((59 : Int)) (([(x0).Number] : List Int))).bind fun aB =>
  bif (!aB) then
   some (true)
  else
   (f208 z0 (([(x0).Row] : List Int))).bind fun lB =>
   some ((!lB))
  ) fun n9 =>
 some (n9)
theorem en207 : Enters prog 207 := enters_of func207 (by kernel_rfl) rfl
theorem wk207 {gI : Gh} {wI : World} {x0 : Gb} {z0 : Int} {up0 : Value} (rp0 : RV gI.m wI x0 up0) {pf0 : Value} (qf0 : PT gI.m wI z0 pf0) {r : Bool} (h : f207 x0 z0 = some r) : Fn prog 207 #[up0, pf0] gI wI (fun _ _ v => v = .bool (r)) := by
 unfold f207 at h;refine fnE func207 rfl rfl fun g0 hm hfr => ?_;have qf0 : PT g0.m wI z0 pf0 := hm ▸ qf0;have rp0 := RVc hm rp0;show E _ 17 none _ _ _ _ _;refine Z5 (Z4 rfl (T1 (g := g0) rfl rp0 fun g1 w1 p1 hs q1 => ?_));have hfr := hfr.ext hs;have qf0 := qf0.ext hs;refine Zg (.bool false) rfl rfl (Z3 ?_);obtain ⟨n9, hx, h⟩ := Z1 h;refine G6 (fun e w => ∃ (g : Gh) , Fr gI wI g w ∧ e 3 = .bool (n9)) (fun Q' hQ => ?_) (fun vE zE hR => ?_)
 ·replace h := hx
  clear hx;refine Za (Zx (Gc p1 0) (Zc Dd rfl (PT.ptr q1)) rfl ?_);have zB := Zm (K4).1 q1;refine Z4 rfl (Z7 (g := g1) isAgg3 sizeOf3 rfl zB fun cF cC => ?_);obtain rfl := Zj.1 cC;refine Z4 rfl (Ga (g := g1) 3006 (xs := ([(x0).Number] : List Int)) (vs := [Iz ((x0).Number)]) underlying22 sizeOf3 zeroValue3 rfl rfl (.cons rfl .nil) (RVs.cons (Zj.2 rfl) RVs.nil) rfl rfl fun lD eF nD hs o16 oD hxt hfl => ?_);have hfr := hfr.stp hs;have qf0 := qf0.stp hs;have q1 := q1.stp hs;obtain ⟨aB, oB, h⟩ := Z1 h;refine Z4 rfl (Zp (g := lD) (vs := [Iz (-1), Iz (59), nD]) en163 (.cons rfl (.cons rfl (.cons rfl .nil))) (wk163 oD oB) fun mB xE rF hs hr => ?_);have hfr := hfr.ext hs;have qf0 := qf0.ext hs;have q1 := q1.ext hs;subst hr;refine Zx (.bool (!aB)) (Qj rfl) rfl (Zn (.bool (!aB)) rfl rfl ?_);rcases Zt h with ⟨n8, h⟩ | ⟨n8, h⟩
  ·refine Zz rfl rfl n8 rfl rfl ?_
   iterate 5 refine Zz rfl rfl n8 rfl rfl ?_
   refine Zx (.bool true) (Zl (b := (!aB)) rfl (Tc n8 rfl)) rfl (Zg (.bool true) rfl rfl (Zb ?_));obtain rfl := sinj h;exact hQ _ _ ⟨mB, hfr, rfl⟩
  ·refine Ze (.yes2 rfl rfl n8) rfl (Z7 (g := mB) isAgg218 sizeOf218 rfl qf0 fun sF aE => ?_)
   obtain rfl := Zj.1 aE;refine Zy (Gc p1 1) (Zc Vs rfl (PT.ptr q1)) rfl rfl n8 rfl ?_;have bE := Zm (W4).1 q1;refine Ze (.yes2 rfl rfl n8) rfl (Z7 (g := mB) isAgg3 sizeOf3 rfl bE fun vF iE => ?_);obtain rfl := Zj.1 iE;refine Ze (.yes2 rfl rfl n8) rfl (Ga (g := mB) 3013 (xs := ([(x0).Row] : List Int)) (vs := [Iz ((x0).Row)]) underlying22 sizeOf3 zeroValue3 rfl rfl (.cons rfl .nil) (RVs.cons (Zj.2 rfl) RVs.nil) rfl rfl fun lE xF mE hs o23 oE hxt hfl => ?_);have hfr := hfr.stp hs;obtain ⟨lB, yB, h⟩ := Z1 h;refine Ze (.yes2 rfl rfl n8) rfl (Zp (g := lE) (vs := [Iz (z0), mE]) en208 (.cons rfl (.cons rfl .nil)) (wk208 oE yB) fun rE yE yF hs hr => ?_);have hfr := hfr.ext hs;subst hr;refine Zy (.bool (!lB)) (Qj rfl) rfl rfl n8 rfl (Zx (.bool (!lB)) (Zl (b := (!aB)) rfl (Gz n8 rfl)) rfl (Zg (.bool (!lB)) rfl rfl (Zb ?_)));obtain rfl := sinj h;exact hQ _ _ ⟨rE, hfr, rfl⟩
 ·clear hx
  obtain ⟨aG, hfr, nB⟩ := hR;refine Z9 ?_;obtain rfl := sinj h;exact G0 rfl rfl (show _ = .bool (n9) from nB) ⟨_, hfr, rfl⟩
end Go.Proofs.YtmebkoemfjlbcaaGreatDoor
