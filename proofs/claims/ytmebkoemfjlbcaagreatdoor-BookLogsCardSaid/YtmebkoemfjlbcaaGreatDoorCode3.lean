import Derived.Test.YtmebkoemfjlbcaaGreatDoorCode2
set_option maxRecDepth 8000
set_option maxHeartbeats 4000000
namespace Go.Proofs.YtmebkoemfjlbcaaGreatDoor
open Go.RowKit Tryz
def f54 (x0 : Tb) : Option (Int) :=
 jn (σ := Unit) (fun _ =>
  some ((0 : Int))
  ) fun oB =>
 (f100 ((1 : Int)) ((24 : Int)) (([(x0).Hooks] : List Int))).bind fun y56 =>
 bif (!y56) then
  some ((2 : Int))
 else
  bif (decide ((((x0).Rows).length : Int) > (60 : Int))) then
   some ((5 : Int))
  else
   bif ((((x0).Rows).length : Int) == (0 : Int)) then
    some ((7 : Int))
   else
    (Ve (1 : Int) (x0).Hooks).bind fun n9 =>
    (f100 ((0 : Int)) ((w64 (n9 - (1 : Int)))) ((x0).Rows)).bind fun y71 =>
    bif (!y71) then
     some ((2 : Int))
    else
     oB ()
theorem en54 : Enters prog 54 := enters_of func54 (by kernel_rfl) rfl
theorem wk54 {gI : Gh} {wI : World} {x0 : Tb} {up0 : Value} (rp0 : RV gI.m wI x0 up0) {r : Int} (h : f54 x0 = some r) : Fn prog 54 #[up0] gI wI (fun _ _ v => v = Iz (r)) := by
 unfold f54 at h;refine fnE func54 rfl rfl fun g0 hm hfr => ?_;have rp0 := RVc hm rp0;show E _ 28 none _ _ _ _ _;refine Z5 (Z4 rfl (T1 (g := g0) rfl rp0 fun g1 w1 p1 hs q1 => ?_));have hfr := hfr.ext hs;refine Zg (Iz (0)) rfl rfl (Z3 (Zq h (fun (s : Unit) e w => ∃ (g : Gh) , Fr gI wI g w) (fun X51 oB zB h => ?_) ?_))
 ·refine Zr (Z5 (Zx (Gc p1 0) (Zc H1 rfl (PT.ptr q1)) rfl ?_))
  have bE := Zm (Wm).1 q1;refine Z4 rfl (Z7 (g := g1) isAgg3 sizeOf3 rfl bE fun bG iE => ?_);obtain rfl := Zj.1 iE;refine Z4 rfl (Ga (g := g1) 3006 (xs := ([(x0).Hooks] : List Int)) (vs := [Iz ((x0).Hooks)]) underlying22 sizeOf3 zeroValue3 rfl rfl (.cons rfl .nil) (RVs.cons (Zj.2 rfl) RVs.nil) rfl rfl fun lE cG mE hs o54 oE hxt hfl => ?_);have hfr := hfr.stp hs;have q1 := q1.stp hs;obtain ⟨y56, cC, h⟩ := Z1 h;refine Z4 rfl (Zp (g := lE) (vs := [Iz (1), Iz (24), mE]) en100 (.cons rfl (.cons rfl (.cons rfl .nil))) (wk100 oE cC) fun nB xF eG hs hr => ?_);have hfr := hfr.ext hs;have q1 := q1.ext hs;subst hr;refine Zx (.bool (!y56)) (Qj rfl) rfl (Zg (.bool (!y56)) rfl rfl (Z3 ?_));rcases Zt h with ⟨aB, h⟩ | ⟨aB, h⟩
  ·refine Gx aB rfl (Z5 (Zg (Iz (2)) rfl rfl (Z3 (Z9 (G2 (Gf ?_))))))
   obtain rfl := sinj h;exact G0 rfl rfl (rq (Iz (2))) ⟨_, hfr, rfl⟩
  ·refine Gy aB rfl (Z5 (Zx (Gc p1 1) (Zc Hf rfl (PT.ptr q1)) rfl ?_))
   have rE := Zm (Qt).1 q1;refine Z4 rfl (Z7 (g := nB) isAgg22 sizeOf22 rfl rE fun gG vE => (Zx (Iz (((x0).Rows).length : Int)) (G3 underlying22 rfl vE) rfl (Zx (.bool ((decide ((((x0).Rows).length : Int) > (60 : Int))))) (Gp rfl rfl rfl) rfl (Zx (.bool ((decide ((((x0).Rows).length : Int) > (60 : Int))))) (Tv rfl) rfl (Z3 ?_)))));rcases Zt h with ⟨lB, h⟩ | ⟨lB, h⟩
   ·refine Gx lB rfl (Z5 (Zg (Iz (5)) rfl rfl (Z3 (Z9 (G2 (Gf ?_))))))
    obtain rfl := sinj h;exact G0 rfl rfl (rq (Iz (5))) ⟨_, hfr, rfl⟩
   ·refine Gy lB rfl (Z5 (Zx (Gc p1 1) (Zc Hf rfl (PT.ptr q1)) rfl ?_))
    have xE := Zm (Qt).1 q1;refine Z4 rfl (Z7 (g := nB) isAgg22 sizeOf22 rfl xE fun v62 yE => (Zx (Iz (((x0).Rows).length : Int)) (G3 underlying22 rfl yE) rfl (Gd (.bool (((((x0).Rows).length : Int) == (0 : Int)))) rfl rfl rfl rfl (Zg (.bool (((((x0).Rows).length : Int) == (0 : Int)))) rfl rfl (Z3 ?_)))));rcases Zt h with ⟨mB, h⟩ | ⟨mB, h⟩
    ·refine Gx mB rfl (Z5 (Zg (Iz (7)) rfl rfl (Z3 (Z9 (G2 (Gf ?_))))))
     obtain rfl := sinj h;exact G0 rfl rfl (rq (Iz (7))) ⟨_, hfr, rfl⟩
    ·refine Gy mB rfl (Zf ?_)
     have zE := Zm (Wm).1 q1;refine Zs (x := .tmp 20) isAgg3 sizeOf3 zE fun iG cF lD => ?_;obtain rfl := Zj.1 cF;obtain ⟨n9, nD, h⟩ := Z1 h;have eF := Zm (Qt).1 q1;refine Zs (x := .tmp 24) isAgg22 sizeOf22 eF fun yB rF oD => ?_;obtain ⟨y71, aE, h⟩ := Z1 h;refine T6 (g := nB) (n := 9) [(6, (fun v g w => v = .bool (y71)))] [0, 1, 2, 3, 4, 5, 6, 7, 8] rfl mixed (by kernel_rfl) (⟨fun _ => Ha _, trivial⟩) (Z0 (Gc p1 0) rfl rfl (Zc H1 rfl (PT.ptr q1)) (Ti (c := Iz ((x0).Hooks)) rfl rfl .plain (fun _ _ h => h.ch) lD rfl (Z0 (Iz (n9)) rfl rfl (Gp rfl rfl (congrArg (Option.map (Value.int .i64)) nD)) (Z0 (Iz ((w64 (n9 - (1 : Int))))) rfl rfl (Gp rfl rfl rfl) (Z0 (Gc p1 1) rfl rfl (Zc Hf rfl (PT.ptr q1)) (Ti (c := yB) rfl rfl .plain (fun _ _ h => h.ch) oD rfl (Hn (φ := fun v g w => v = .bool (y71)) rfl rfl .plain (fun g w hd => Zp (g := g) (vs := [Iz (0), Iz ((w64 (n9 - (1 : Int)))), yB]) en100 (.cons rfl (.cons rfl (.cons rfl .nil))) (wk100 (rF.ext hd.1) aE) fun g' w' v hs hr => ⟨g', hs, hr⟩) (fun jG hv => ?_))))))));obtain ⟨_, _, _, rfl⟩ := hv;refine Z0 (.bool (!y71)) rfl rfl (Qj rfl) (Z0 (.bool (!y71)) rfl rfl (Tv rfl) (Jd fun sF kG hs => ?_));have hfr := hfr.ext hs;clear hs;refine Z3 ?_;rcases Zt h with ⟨n8, h⟩ | ⟨n8, h⟩
     ·refine Gx n8 rfl (Z5 (Zg (Iz (2)) rfl rfl (Z3 (Z9 (G2 (Gf ?_))))))
      obtain rfl := sinj h;exact G0 rfl rfl (rq (Iz (2))) ⟨_, hfr, rfl⟩
     ·refine Gy n8 rfl ?_
      exact Zu (Th (Zd (zB () _ _ ⟨sF, hfr⟩ h)))
 ·rintro _ vF yF ⟨aG, hfr⟩ h
  refine Z5 (Zg (Iz (0)) rfl rfl (Z3 (Z9 ?_)));obtain rfl := sinj h;exact G0 rfl rfl (rq (Iz (0))) ⟨_, hfr, rfl⟩
def f63 (x0 : Str) : Option (Int × Bool) :=
 jn (σ := Int) (fun aB =>
  (f100 ((1 : Int)) ((24 : Int)) (([((x0).b.length : Int)] : List Int))).bind fun lD =>
  some (aB, lD)
  ) fun k8 =>
 lp (σ := Int × Nat) (fun oD (n9, n8) =>
  bif (decide (n8 < (x0).b.length)) then
   bif ((dec x0 n8).1 == (120 : Int)) then
    (Ve (1 : Int) (Jy ((n8 : Nat) : Int) (24 : Int))).bind fun mB =>
    oD ((W5 .or n9 mB), (n8 + (dec x0 n8).2))
   else
    bif ((dec x0 n8).1 == (46 : Int)) then
     oD (n9, (n8 + (dec x0 n8).2))
    else
     some ((0 : Int), false)
  else
   k8 (n9)
  ) big ((0 : Int), 0)
theorem en63 : Enters prog 63 := enters_of func63 (by kernel_rfl) rfl
theorem wk63 {gI : Gh} {wI : World} {x0 : Str}  {r : Int × Bool} (h : f63 x0 = some r) : Fn prog 63 #[Str.v (x0)] gI wI (fun m w v => ∃ y0 y1, v = .tuple #[y0, y1] ∧ y0 = Iz (r.1) ∧ y1 = .bool (r.2)) := by
 unfold f63 at h;refine fnE func63 rfl rfl fun g0 hm hfr => ?_;show E _ 27 none _ _ _ _ _;refine Z5 (Zg (Iz (0)) rfl rfl (Zg (.bool false) rfl rfl (Z3 (Zq h (fun (s : Int) e w => ∃ (g : Gh) , Fr gI wI g w ∧ e 0 = Str.v (x0) ∧ e 2 = Iz (s)) (fun X8 k8 rE h => ?_) ?_))))
 ·refine Z5 (Zn (Str.v (x0)) rfl rfl (Z4 rfl (R7 (g := g0) (s := x0) 7007 underlying9 rfl fun g9 w9 p9 hs b9 => ?_)))
  have hfr := hfr.stp hs;refine Z3 (Zr (Kv h (fun (s : Int × Nat) e w => ∃ (g : Gh) , Fr gI wI g w ∧ e 0 = Str.v (x0) ∧ e 2 = Iz (s.1) ∧ e 7 = p9 ∧ SI 7007 g w (x0) (s.2) p9) ⟨g9, hfr, rfl, rfl, rfl, b9⟩ (fun X10 oD aE => ?_)));rintro ⟨n9, n8⟩ cF w11 ⟨g11, hfr, nB, oB, lB, nD⟩ h;refine Z5 ?_;rcases Zt h with ⟨yB, h⟩ | ⟨yB, h⟩
  ·refine Z4 rfl (Sk (g := g11) lB nD yB fun lE sF hs b12 => ?_)
   have hfr := hfr.stp hs;refine Zx (.bool true) (Zi rfl rfl) rfl (Z3 (Zf (Ta (by rw [show ev _ _ = _ from rfl]; exact congrArg Value.bool rfl) (Zu (Zd (Zr (Z5 (Zx (Iz ((n8 : Nat) : Int)) (Zi rfl rfl) rfl (Zx (.int .i32 (dec x0 n8).1) (Zi rfl rfl) rfl (Zg (Iz ((n8 : Nat) : Int)) rfl rfl (Zg (.int .i32 (dec x0 n8).1) rfl rfl (Z3 (Z5 (Zn (.int .i32 (dec x0 n8).1) rfl rfl (Z3 (Zr (Z5 (Zx (.bool ((dec x0 n8).1 == (120 : Int))) (Vh rfl rfl rfl) rfl (Zg (.bool ((dec x0 n8).1 == (120 : Int))) rfl rfl (Z3 ?_))))))))))))))))))));rcases Zt h with ⟨zB, h⟩ | ⟨zB, h⟩
   ·refine Gx zB rfl (Za (Zo oB rfl (Zn (Iz ((n8 : Nat) : Int)) rfl rfl (Zx (Iz (Jy ((n8 : Nat) : Int) (24 : Int))) (Om rfl rfl) rfl ?_))))
    obtain ⟨mB, mE, h⟩ := Z1 h;refine Zx (Iz (mB)) (Gp rfl rfl (congrArg (Option.map (Value.int .i64)) mE)) rfl (Gd (Iz ((W5 .or n9 mB))) rfl rfl rfl rfl (Zg (Iz ((W5 .or n9 mB))) rfl rfl ?_));exact Zb (Th (Th (Zd (aE ((W5 .or n9 mB), (n8 + (dec x0 n8).2)) _ _ ⟨lE, hfr, nB, rfl, lB, b12⟩ h))))
   ·refine Gy zB rfl (Z5 (Zx (.bool ((dec x0 n8).1 == (46 : Int))) (Vh rfl rfl rfl) rfl (Zg (.bool ((dec x0 n8).1 == (46 : Int))) rfl rfl (Z3 ?_))))
    rcases Zt h with ⟨cC, h⟩ | ⟨cC, h⟩
    ·refine Gx cC rfl ?_
     exact Zu (Th (Th (Zd (aE (n9, (n8 + (dec x0 n8).2)) _ _ ⟨lE, hfr, nB, oB, lB, b12⟩ h))))
    ·refine Gy cC rfl (Z5 (Zg (Iz (0)) rfl rfl (Zg (.bool false) rfl rfl (Z3 (Z9 (G2 (G2 (Gf (G2 (Gf ?_))))))))))
     obtain rfl := sinj h;exact J4 rfl rfl (rq (Iz (0))) (rq (.bool false)) ⟨_, hfr, _, _, rfl, rfl, rfl⟩
  ·refine Z4 rfl (B5 (g := g11) lB nD yB (Zx (.bool false) (Zi rfl rfl) rfl (Z3 (Zf (G1 (by rw [show ev _ _ = _ from rfl]; exact congrArg Value.bool rfl) (Tu (G5 (G5 (Tf ?_)))))))))
   exact Zd (rE (n9) _ _ ⟨g11, hfr, nB, oB⟩ h)
 ·rintro aB eF vF ⟨vE, hfr, bE, iE⟩ h
  refine Z5 (Zo iE rfl (Zo bE rfl (Zx (Iz ((x0).b.length : Int)) (H8 underlying9 rfl) rfl (Z4 rfl (Ga (g := vE) 3025 (xs := ([((x0).b.length : Int)] : List Int)) (vs := [Iz ((x0).b.length : Int)]) underlying22 sizeOf3 zeroValue3 rfl rfl (.cons rfl .nil) (RVs.cons (Zj.2 rfl) RVs.nil) rfl rfl fun xE xF yE hs o17 zE hxt hfl => ?_)))));have hfr := hfr.stp hs;obtain ⟨lD, oE, h⟩ := Z1 h;refine Z4 rfl (Zp (g := xE) (vs := [Iz (1), Iz (24), yE]) en100 (.cons rfl (.cons rfl (.cons rfl .nil))) (wk100 zE oE) fun yF rF aG hs hr => ?_);have hfr := hfr.ext hs;subst hr;refine Zg (Iz (aB)) rfl rfl (Zg (.bool (lD)) rfl rfl (Z3 (Z9 ?_)));obtain rfl := sinj h;exact J4 rfl rfl (rq (Iz (aB))) (rq (.bool (lD))) ⟨_, hfr, _, _, rfl, rfl, rfl⟩
def f88 (x0 : Z2) : Option (Bool) :=
 Option.bind (α := Bool) (
  (f100 ((0 : Int)) ((65535 : Int)) (([(x0).Day] : List Int))).bind fun oB =>
  bif oB then
   (f100 ((0 : Int)) ((15 : Int)) (([(x0).Loom] : List Int))).bind fun mB =>
   bif mB then
    (f100 ((0 : Int)) ((7 : Int)) (([(x0).Chain, (x0).Tie] : List Int))).bind fun nB =>
    bif nB then
     (f100 ((1 : Int)) ((60 : Int)) (([(x0).Picks] : List Int))).bind fun yB =>
     some (yB)
    else
     some (false)
   else
    some (false)
  else
   some (false)
  ) fun lB =>
 some (lB)
theorem en88 : Enters prog 88 := enters_of func88 (by kernel_rfl) rfl
theorem wk88 {gI : Gh} {wI : World} {x0 : Z2} {up0 : Value} (rp0 : RV gI.m wI x0 up0) {r : Bool} (h : f88 x0 = some r) : Fn prog 88 #[up0] gI wI (fun _ _ v => v = .bool (r)) := by
 unfold f88 at h;refine fnE func88 rfl rfl fun g0 hm hfr => ?_;have rp0 := RVc hm rp0;show E _ 27 none _ _ _ _ _;refine Z5 (Z4 rfl (T1 (g := g0) rfl rp0 fun g1 w1 p1 hs q1 => ?_));have hfr := hfr.ext hs;refine Zg (.bool false) rfl rfl (Z3 ?_);obtain ⟨lB, hx, h⟩ := Z1 h;refine G6 (fun e w => ∃ (g : Gh) , Fr gI wI g w ∧ e 2 = .bool (lB)) (fun Q' hQ => ?_) (fun lG gH hR => ?_)
 ·replace h := hx
  clear hx;refine Za (Zx (Gc p1 0) (Zc W1 rfl (PT.ptr q1)) rfl ?_);have lE := Zm (G8).1 q1;refine Z4 rfl (Z7 (g := g1) isAgg3 sizeOf3 rfl lE fun jH mE => ?_);obtain rfl := Zj.1 mE;refine Z4 rfl (Ga (g := g1) 3005 (xs := ([(x0).Day] : List Int)) (vs := [Iz ((x0).Day)]) underlying22 sizeOf3 zeroValue3 rfl rfl (.cons rfl .nil) (RVs.cons (Zj.2 rfl) RVs.nil) rfl rfl fun oE w29 rE hs o29 vE hxt hfl => ?_);have hfr := hfr.stp hs;have q1 := q1.stp hs;obtain ⟨oB, oD, h⟩ := Z1 h;refine Z4 rfl (Zp (g := oE) (vs := [Iz (0), Iz (65535), rE]) en100 (.cons rfl (.cons rfl (.cons rfl .nil))) (wk100 vE oD) fun cC mG kH hs hr => ?_);have hfr := hfr.ext hs;have q1 := q1.ext hs;subst hr;refine Zn (.bool (oB)) rfl rfl ?_;rcases Zt h with ⟨n9, h⟩ | ⟨n9, h⟩
  ·refine Zy (Gc p1 1) (Zc Kh rfl (PT.ptr q1)) rfl rfl n9 rfl ?_
   have xE := Zm (Tg).1 q1;refine Ze (.yes2 rfl rfl n9) rfl (Z7 (g := cC) isAgg3 sizeOf3 rfl xE fun lH yE => ?_);obtain rfl := Zj.1 yE;refine Ze (.yes2 rfl rfl n9) rfl (Ga (g := cC) 3010 (xs := ([(x0).Loom] : List Int)) (vs := [Iz ((x0).Loom)]) underlying22 sizeOf3 zeroValue3 rfl rfl (.cons rfl .nil) (RVs.cons (Zj.2 rfl) RVs.nil) rfl rfl fun zE mH cF hs o35 eF hxt hfl => ?_);have hfr := hfr.stp hs;have q1 := q1.stp hs;obtain ⟨mB, aE, h⟩ := Z1 h;refine Ze (.yes2 rfl rfl n9) rfl (Zp (g := zE) (vs := [Iz (0), Iz (15), cF]) en100 (.cons rfl (.cons rfl (.cons rfl .nil))) (wk100 eF aE) fun zB yG nH hs hr => ?_);have hfr := hfr.ext hs;have q1 := q1.ext hs;subst hr;refine Zx (.bool (mB)) (Zl (b := oB) rfl (Tc n9 rfl)) rfl (Zn (.bool (mB)) rfl rfl ?_);rcases Zt h with ⟨n8, h⟩ | ⟨n8, h⟩
   ·refine Zy (Gc p1 2) (Zc Jx rfl (PT.ptr q1)) rfl rfl n8 rfl ?_
    have rF := Zm (Qs).1 q1;refine Ze (.yes2 rfl rfl n8) rfl (Z7 (g := zB) isAgg3 sizeOf3 rfl rF fun oH sF => ?_);obtain rfl := Zj.1 sF;refine Zy (Gc p1 3) (Zc Ur rfl (PT.ptr q1)) rfl rfl n8 rfl ?_;have vF := Zm (Wq).1 q1;refine Ze (.yes2 rfl rfl n8) rfl (Z7 (g := zB) isAgg3 sizeOf3 rfl vF fun pH xF => ?_);obtain rfl := Zj.1 xF;refine Ze (.yes2 rfl rfl n8) rfl (Ga (g := zB) 3018 (xs := ([(x0).Chain, (x0).Tie] : List Int)) (vs := [Iz ((x0).Chain), Iz ((x0).Tie)]) underlying22 sizeOf3 zeroValue3 rfl rfl (.cons rfl (.cons rfl .nil)) (RVs.cons (Zj.2 rfl) (RVs.cons (Zj.2 rfl) RVs.nil)) rfl rfl fun yF qH aG hs o43 bG hxt hfl => ?_);have hfr := hfr.stp hs;have q1 := q1.stp hs;obtain ⟨nB, bE, h⟩ := Z1 h;refine Ze (.yes2 rfl rfl n8) rfl (Zp (g := yF) (vs := [Iz (0), Iz (7), aG]) en100 (.cons rfl (.cons rfl (.cons rfl .nil))) (wk100 bG bE) fun lD zG sH hs hr => ?_);have hfr := hfr.ext hs;have q1 := q1.ext hs;subst hr;refine Zx (.bool (nB)) (Zl (b := mB) rfl (Tc n8 rfl)) rfl (Zn (.bool (nB)) rfl rfl ?_);rcases Zt h with ⟨aB, h⟩ | ⟨aB, h⟩
    ·refine Zy (Gc p1 4) (Zc Uq rfl (PT.ptr q1)) rfl rfl aB rfl ?_
     have cG := Zm (Wn).1 q1;refine Ze (.yes2 rfl rfl aB) rfl (Z7 (g := lD) isAgg3 sizeOf3 rfl cG fun tH eG => ?_);obtain rfl := Zj.1 eG;refine Ze (.yes2 rfl rfl aB) rfl (Ga (g := lD) 3024 (xs := ([(x0).Picks] : List Int)) (vs := [Iz ((x0).Picks)]) underlying22 sizeOf3 zeroValue3 rfl rfl (.cons rfl .nil) (RVs.cons (Zj.2 rfl) RVs.nil) rfl rfl fun gG uH iG hs o49 jG hxt hfl => ?_);have hfr := hfr.stp hs;obtain ⟨yB, iE, h⟩ := Z1 h;refine Ze (.yes2 rfl rfl aB) rfl (Zp (g := gG) (vs := [Iz (1), Iz (60), iG]) en100 (.cons rfl (.cons rfl (.cons rfl .nil))) (wk100 jG iE) fun kG cH yH hs hr => ?_);have hfr := hfr.ext hs;subst hr;refine Zx (.bool (yB)) (Zl (b := nB) rfl (Tc aB rfl)) rfl (Zg (.bool (yB)) rfl rfl (Zb ?_));obtain rfl := sinj h;exact hQ _ _ ⟨kG, hfr, rfl⟩
    ·refine Zz rfl rfl aB rfl rfl ?_
     iterate 3 refine Zz rfl rfl aB rfl rfl ?_
     refine Zx (.bool false) (Zl (b := nB) rfl (Gz aB rfl)) rfl (Zg (.bool false) rfl rfl (Zb ?_));obtain rfl := sinj h;exact hQ _ _ ⟨lD, hfr, rfl⟩
   ·refine Zz rfl rfl n8 rfl rfl ?_
    iterate 5 refine Zz rfl rfl n8 rfl rfl ?_
    refine Zx (.bool false) (Zl (b := mB) rfl (Gz n8 rfl)) rfl (Kk 6 rfl (Zg (.bool false) rfl rfl (Zb ?_)));obtain rfl := sinj h;exact hQ _ _ ⟨zB, hfr, rfl⟩
  ·refine Zz rfl rfl n9 rfl rfl ?_
   iterate 3 refine Zz rfl rfl n9 rfl rfl ?_
   refine Zx (.bool false) (Zl (b := oB) rfl (Gz n9 rfl)) rfl (Kk 14 rfl (Zg (.bool false) rfl rfl (Zb ?_)));obtain rfl := sinj h;exact hQ _ _ ⟨cC, hfr, rfl⟩
 ·clear hx
  obtain ⟨zH, hfr, nD⟩ := hR;refine Z9 ?_;obtain rfl := sinj h;exact G0 rfl rfl (show _ = .bool (lB) from nD) ⟨_, hfr, rfl⟩
def f91 (x0 : List UInt8) : Option (It (Vector UInt8 8)) :=
 some ((fun σ cons s => f132 x0 σ cons s))
theorem en91 : Enters prog 91 := enters_of func91 (by kernel_rfl) rfl
theorem wk91 {gI : Gh} {wI : World} {x0 : List UInt8} {up0 : Value} (rp0 : RV gI.m wI x0 up0) {r : It (Vector UInt8 8)} (h : f91 x0 = some r) : Fn prog 91 #[up0] gI wI (fun m w v => ItV prog (RA1 (α := (Vector UInt8 8))) (r) v m w) := by
 unfold f91 at h;refine fnE func91 rfl rfl fun g0 hm hfr => ?_;have rp0 := RVc hm rp0;show E _ 4 none _ _ _ _ _;refine Z5 (Z4 rfl (T1 (g := g0) rfl rp0 fun g1 w1 p1 hs q1 => ?_));have hfr := hfr.ext hs;refine Zg (.nilFunc) rfl rfl (Z3 (Z5 (Zx ((.func (.func 132) #[] #[p1])) (Wt (R6 (show ev _ _ = p1 from rfl))) rfl (Zg ((.func (.func 132) #[] #[p1])) rfl rfl (Z3 (Z9 ?_))))));obtain rfl := sinj h;exact G0 rfl rfl (rq (.func (.func 132) #[] #[p1])) ⟨_, hfr, (show ItV prog (RA1 (α := (Vector UInt8 8))) (fun σ cons s => f132 x0 σ cons s) ((.func (.func 132) #[] #[p1])) g1.m w1 from ⟨132, #[], #[p1], rfl, en132, fun g' w' hch σ cons s s' h => wk132  (q1.ch hch) h⟩)⟩
def f92 (x0 : Vector UInt8 8) : Option (Z2 × Int) :=
 (idx (x0).toList (0 : Int)).bind fun y3 =>
 (Ve ((y3).toNat : Int) ((8 : Int))).bind fun y6 =>
 (idx (x0).toList (1 : Int)).bind fun y7 =>
 (idx (x0).toList (2 : Int)).bind fun mB =>
 (idx (x0).toList (3 : Int)).bind fun nB =>
 (idx (x0).toList (4 : Int)).bind fun oB =>
 (idx (x0).toList (5 : Int)).bind fun yB =>
 (f131 x0).bind fun n8 =>
 jn (σ := Z2) (fun iE =>
  some (iE, (0 : Int))
  ) fun k53 =>
 Option.bind (α := Bool) (
  (idx (x0).toList (6 : Int)).bind fun cC =>
  bif (n8.1 != cC) then
   some (true)
  else
   (idx (x0).toList (7 : Int)).bind fun nD =>
   some ((n8.2 != nD))
  ) fun zB =>
 bif zB then
  some ((⟨(W5 .or y6 ((y7).toNat : Int)), ((mB).toNat : Int), ((nB).toNat : Int), ((oB).toNat : Int), ((yB).toNat : Int)⟩ : Z2), (130 : Int))
 else
  (f88 ((⟨(W5 .or y6 ((y7).toNat : Int)), ((mB).toNat : Int), ((nB).toNat : Int), ((oB).toNat : Int), ((yB).toNat : Int)⟩ : Z2))).bind fun lE =>
  bif (!lE) then
   some ((⟨(W5 .or y6 ((y7).toNat : Int)), ((mB).toNat : Int), ((nB).toNat : Int), ((oB).toNat : Int), ((yB).toNat : Int)⟩ : Z2), (2 : Int))
  else
   k53 ((⟨(W5 .or y6 ((y7).toNat : Int)), ((mB).toNat : Int), ((nB).toNat : Int), ((oB).toNat : Int), ((yB).toNat : Int)⟩ : Z2))
theorem en92 : Enters prog 92 := enters_of func92 (by kernel_rfl) rfl
theorem wk92 {gI : Gh} {wI : World} {x0 : Vector UInt8 8} {up0 : Value} (rp0 : RV gI.m wI x0 up0) {r : Z2 × Int} (h : f92 x0 = some r) : Fn prog 92 #[up0] gI wI (fun m w v => ∃ y0 y1, v = .tuple #[y0, y1] ∧ RV m w (r.1) y0 ∧ y1 = Iz (r.2)) := by
 unfold f92 at h;refine fnE func92 rfl rfl fun g0 hm hfr => ?_;have rp0 := RVc hm rp0;show E _ 50 none _ _ _ _ _;refine Z5 (Z4 rfl (T1 (g := g0) rfl rp0 fun g1 w1 p1 hs q1 => ?_));have hfr := hfr.ext hs;refine Z4 rfl (Td (g := g1) 2002 (⟨0, 0, 0, 0, 0⟩ : Z2) zeroValue63 (fun m w => ⟨_, (Gk Zw (Gk Zw (Gk Zw (Gk Zw Zw)))), rfl⟩) fun g2 w2 p2 hs b2 cb => ?_);have hfr := hfr.stp hs;have q1 := q1.stp hs;clear cb;refine Zg (Iz (0)) rfl rfl (Z3 (Z5 ?_));obtain ⟨y3, hy3, h⟩ := Z1 h;refine Zx (Gc p1 (((0 : Int) : Int).toNat * 1)) (Qw (α := UInt8) underlying155 sizeOf5 rfl (PT.ptr q1) rfl hy3) rfl ?_;have q4 := J2 q1 hy3;refine Z4 rfl (Z7 (g := g2) isAgg5 sizeOf5 rfl q4 fun v5 r5 => ?_);obtain rfl := Tz.1 r5;refine Zx (Iz (((y3).toNat : Int))) (Wa underlying5 underlying3 rfl) rfl ?_;obtain ⟨y6, lG, h⟩ := Z1 h;refine Zx (Iz (y6)) (P_shlu rfl rfl lG) rfl ?_;obtain ⟨y7, sF, h⟩ := Z1 h;refine Zx (Gc p1 (((1 : Int) : Int).toNat * 1)) (Qw (α := UInt8) underlying155 sizeOf5 rfl (PT.ptr q1) rfl sF) rfl ?_;have q8 := J2 q1 sF;refine Z4 rfl (Z7 (g := g2) isAgg5 sizeOf5 rfl q8 fun v9 r9 => ?_);obtain rfl := Tz.1 r9;refine Zx (Iz (((y7).toNat : Int))) (Wa underlying5 underlying3 rfl) rfl (Gd (Iz ((W5 .or y6 ((y7).toNat : Int)))) rfl rfl rfl rfl ?_);obtain ⟨mB, vE, h⟩ := Z1 h;refine Zx (Gc p1 (((2 : Int) : Int).toNat * 1)) (Qw (α := UInt8) underlying155 sizeOf5 rfl (PT.ptr q1) rfl vE) rfl ?_;have mG := J2 q1 vE;refine Z4 rfl (Z7 (g := g2) isAgg5 sizeOf5 rfl mG fun pI yG => ?_);obtain rfl := Tz.1 yG;refine Zx (Iz (((mB).toNat : Int))) (Wa underlying5 underlying3 rfl) rfl ?_;obtain ⟨nB, xE, h⟩ := Z1 h;refine Zx (Gc p1 (((3 : Int) : Int).toNat * 1)) (Qw (α := UInt8) underlying155 sizeOf5 rfl (PT.ptr q1) rfl xE) rfl ?_;have zG := J2 q1 xE;refine Z4 rfl (Z7 (g := g2) isAgg5 sizeOf5 rfl zG fun qI cH => ?_);obtain rfl := Tz.1 cH;refine Zx (Iz (((nB).toNat : Int))) (Wa underlying5 underlying3 rfl) rfl ?_;obtain ⟨oB, yE, h⟩ := Z1 h;refine Zx (Gc p1 (((4 : Int) : Int).toNat * 1)) (Qw (α := UInt8) underlying155 sizeOf5 rfl (PT.ptr q1) rfl yE) rfl ?_;have gH := J2 q1 yE;refine Z4 rfl (Z7 (g := g2) isAgg5 sizeOf5 rfl gH fun sI jH => ?_);obtain rfl := Tz.1 jH;refine Zx (Iz (((oB).toNat : Int))) (Wa underlying5 underlying3 rfl) rfl ?_;obtain ⟨yB, zE, h⟩ := Z1 h;refine Zx (Gc p1 (((5 : Int) : Int).toNat * 1)) (Qw (α := UInt8) underlying155 sizeOf5 rfl (PT.ptr q1) rfl zE) rfl ?_;have kH := J2 q1 zE;refine Z4 rfl (Z7 (g := g2) isAgg5 sizeOf5 rfl kH fun jJ lH => ?_);obtain rfl := Tz.1 lH;refine Zx (Iz (((yB).toNat : Int))) (Wa underlying5 underlying3 rfl) rfl ?_;have vF : RV g2.m w2 (⟨(W5 .or y6 ((y7).toNat : Int)), ((mB).toNat : Int), ((nB).toNat : Int), ((oB).toNat : Int), ((yB).toNat : Int)⟩ : Z2) (.agg (Qf [[Iz 0], [Iz 0], [Iz 0], [Iz 0], [Iz 0]] [(0, Iz ((W5 .or y6 ((y7).toNat : Int)))), (1, Iz (((mB).toNat : Int))), (2, Iz (((nB).toNat : Int))), (3, Iz (((oB).toNat : Int))), (4, Iz (((yB).toNat : Int)))]).flatten.toArray) := Qq rfl (Tq (rfl) (Tq (rfl) (Tq (rfl) (Tq (rfl) (Qv (rfl))))));generalize bG : (Value.agg (Qf [[Iz 0], [Iz 0], [Iz 0], [Iz 0], [Iz 0]] [(0, Iz ((W5 .or y6 ((y7).toNat : Int)))), (1, Iz (((mB).toNat : Int))), (2, Iz (((nB).toNat : Int))), (3, Iz (((oB).toNat : Int))), (4, Iz (((yB).toNat : Int)))]).flatten.toArray) = xF at vF;refine Zx xF (bG ▸ T7 (vs := [(0, Iz ((W5 .or y6 ((y7).toNat : Int)))), (1, Iz (((mB).toNat : Int))), (2, Iz (((nB).toNat : Int))), (3, Iz (((oB).toNat : Int))), (4, Iz (((yB).toNat : Int)))]) [[Iz 0], [Iz 0], [Iz 0], [Iz 0], [Iz 0]] Bf rfl rfl (.cons rfl (.cons rfl (.cons rfl (.cons rfl (.cons rfl .nil))))) ⟨⟨_, rfl, rfl⟩, ⟨⟨_, rfl, rfl⟩, ⟨⟨_, rfl, rfl⟩, ⟨⟨_, rfl, rfl⟩, ⟨⟨_, rfl, rfl⟩, trivial⟩⟩⟩⟩⟩) rfl (Z4 rfl (Gv (g := g2) (v := xF) sizeOf63 rfl b2 rfl vF fun yF kJ hs b23 cb => ?_));clear cb;have hfr := hfr.stp hs;have q1 := q1.stp hs
 refine Z3 (Z5 (Z4 rfl (Z7 (g := yF) isAgg155 sizeOf155 rfl q1 fun mH nH => ?_)));obtain ⟨n8, cG, h⟩ := Z1 h;refine Z4 rfl (Zp (g := yF) (vs := [mH]) en131 (.cons rfl .nil) (wk131 nH cG) fun mE kI lJ hs hr => ?_);have hfr := hfr.ext hs;have q1 := q1.ext hs;have b23 := b23.ext hs;obtain ⟨iI, jI, rfl, rfl, rfl⟩ := hr;refine Zn (.tuple #[.int .u8 (UInt8.toNat (n8.1)), .int .u8 (UInt8.toNat (n8.2))]) rfl rfl (Zx (.int .u8 (UInt8.toNat (n8.1))) (Zi rfl rfl) rfl (Zx (.int .u8 (UInt8.toNat (n8.2))) (Zi rfl rfl) rfl (Zg (.int .u8 (UInt8.toNat (n8.1))) rfl rfl (Zg (.int .u8 (UInt8.toNat (n8.2))) rfl rfl (Z3 (Zq h (fun (s : Z2) e w => ∃ (g : Gh) , Fr gI wI g w ∧ e 2 = p2 ∧ OB 2002 g w 63 (s : Z2) p2) (fun X53 k53 eG h => ?_) ?_))))))
 ·refine Zr ?_
  obtain ⟨zB, hx, h⟩ := Z1 h;refine G6 (fun e w => ∃ (g : Gh) , Fr gI wI g w ∧ e 2 = p2 ∧ OB 2002 g w 63 ((⟨(W5 .or y6 ((y7).toNat : Int)), ((mB).toNat : Int), ((nB).toNat : Int), ((oB).toNat : Int), ((yB).toNat : Int)⟩ : Z2) : Z2) p2 ∧ e 32 = .bool (zB)) (fun Q' hQ => ?_) (fun lI oJ hR => ?_)
  ·replace h := hx
   clear hx;refine Za (Zn (.int .u8 (UInt8.toNat (n8.1))) rfl rfl ?_);obtain ⟨cC, cF, h⟩ := Z1 h;refine Zx (Gc p1 (((6 : Int) : Int).toNat * 1)) (Qw (α := UInt8) underlying155 sizeOf5 rfl (PT.ptr q1) rfl cF) rfl ?_;have q62 := J2 q1 cF;refine Z4 rfl (Z7 (g := mE) isAgg5 sizeOf5 rfl q62 fun pJ oH => ?_);obtain rfl := Tz.1 oH;refine Zx (.bool ((n8.1 != cC))) (F0 rfl rfl rfl) rfl (Zn (.bool ((n8.1 != cC))) rfl rfl ?_);rcases Zt h with ⟨lB, h⟩ | ⟨lB, h⟩
   ·refine Zz rfl rfl lB rfl rfl ?_
    iterate 3 refine Zz rfl rfl lB rfl rfl ?_
    refine Zx (.bool true) (Zl (b := (n8.1 != cC)) rfl (Tc lB rfl)) rfl (Zg (.bool true) rfl rfl (Zb ?_));obtain rfl := sinj h;exact hQ _ _ ⟨mE, hfr, rfl, b23, rfl⟩
   ·refine Zy (.int .u8 (UInt8.toNat (n8.2))) (Zk rfl) rfl rfl lB rfl ?_
    obtain ⟨nD, eF, h⟩ := Z1 h;refine Zy (Gc p1 (((7 : Int) : Int).toNat * 1)) (Qw (α := UInt8) underlying155 sizeOf5 rfl (PT.ptr q1) rfl eF) rfl rfl lB rfl ?_;have pH := J2 q1 eF;refine Ze (.yes2 rfl rfl lB) rfl (Z7 (g := mE) isAgg5 sizeOf5 rfl pH fun qJ qH => ?_);obtain rfl := Tz.1 qH;refine Zy (.bool ((n8.2 != nD))) (F0 rfl rfl rfl) rfl rfl lB rfl (Zx (.bool ((n8.2 != nD))) (Zl (b := (n8.1 != cC)) rfl (Gz lB rfl)) rfl (Zg (.bool ((n8.2 != nD))) rfl rfl (Zb ?_)));obtain rfl := sinj h;exact hQ _ _ ⟨mE, hfr, rfl, b23, rfl⟩
  ·clear hx
   obtain ⟨oE, hfr, n9, aB, oD⟩ := hR;rcases Zt h with ⟨aE, h⟩ | ⟨aE, h⟩
   ·refine Ta (Eq.trans (show ev _ _ = .bool (zB) from oD) (congrArg Value.bool aE)) (Z5 (Z4 rfl (T8 (g := oE) isAgg63 sizeOf63 n9 aB fun sH tH => (Z4 rfl (Gv (g := oE) (v := sH) sizeOf63 n9 aB rfl tH fun rJ sJ hs b72 cb => ?_)))))
    clear cb;have hfr := hfr.stp hs;refine Zg (Iz (130)) rfl rfl (Z3 (Z9 (G2 (Gf ?_))));obtain rfl := sinj h;obtain ⟨ad73, cv73, hp73, gG, cr73⟩ := Qy isAgg63 sizeOf63 b72;exact Jr rfl rfl ((show _ = p2 from n9).trans hp73) gG (show _ = Iz (130) from rfl) ⟨_, hfr, _, _, rfl, cr73, rfl⟩
   ·refine G1 (Eq.trans (show ev _ _ = .bool (zB) from oD) (congrArg Value.bool aE)) (Z5 (Z4 rfl (T8 (g := oE) isAgg63 sizeOf63 n9 aB fun uH yH => ?_)))
    obtain ⟨lE, iG, h⟩ := Z1 h;refine Z4 rfl (Zp (g := oE) (vs := [uH]) en88 (.cons rfl .nil) (wk88 yH iG) fun rF mI vJ hs hr => ?_);have hfr := hfr.ext hs;have aB := aB.ext hs;subst hr;refine Zx (.bool (!lE)) (Qj rfl) rfl (Zg (.bool (!lE)) rfl rfl (Z3 ?_));rcases Zt h with ⟨bE, h⟩ | ⟨bE, h⟩
    ·refine Gx bE rfl (Z5 (Z4 rfl (T8 (g := rF) isAgg63 sizeOf63 n9 aB fun zH aI => (Z4 rfl (Gv (g := rF) (v := zH) sizeOf63 n9 aB rfl aI fun xJ zJ hs b79 cb => ?_)))))
     clear cb;have hfr := hfr.stp hs;refine Zg (Iz (2)) rfl rfl (Z3 (Z9 (G2 (Gf ?_))));obtain rfl := sinj h;obtain ⟨ad80, cv80, hp80, jG, cr80⟩ := Qy isAgg63 sizeOf63 b79;exact Jr rfl rfl ((show _ = p2 from n9).trans hp80) jG (show _ = Iz (2) from rfl) ⟨_, hfr, _, _, rfl, cr80, rfl⟩
    ·refine Gy bE rfl ?_
     exact Zu (Th (Zd (eG ((⟨(W5 .or y6 ((y7).toNat : Int)), ((mB).toNat : Int), ((nB).toNat : Int), ((oB).toNat : Int), ((yB).toNat : Int)⟩ : Z2)) _ _ ⟨rF, hfr, n9, aB⟩ h)))
 ·rintro iE nI aK ⟨aG, hfr, lD, rE⟩ h
  refine Z5 (Z4 rfl (T8 (g := aG) isAgg63 sizeOf63 lD rE fun bI dI => (Z4 rfl (Gv (g := aG) (v := bI) sizeOf63 lD rE rfl dI fun bK cK hs b83 cb => ?_))));clear cb;have hfr := hfr.stp hs;refine Zg (Iz (0)) rfl rfl (Z3 (Z9 ?_));obtain rfl := sinj h;obtain ⟨ad84, cv84, hp84, kG, cr84⟩ := Qy isAgg63 sizeOf63 b83;exact Jr rfl rfl ((show _ = p2 from lD).trans hp84) kG (show _ = Iz (0) from rfl) ⟨_, hfr, _, _, rfl, cr84, rfl⟩
def f104 (x0 : Gs) : Option (Bool) :=
 (f105 ((x0).Harness)).bind fun y5 =>
 some ((y5 != (0 : Int)))
theorem en104 : Enters prog 104 := enters_of func104 (by kernel_rfl) rfl
theorem wk104 {gI : Gh} {wI : World} {x0 : Gs} {up0 : Value} (rp0 : RV gI.m wI x0 up0) {r : Bool} (h : f104 x0 = some r) : Fn prog 104 #[up0] gI wI (fun _ _ v => v = .bool (r)) := by
 unfold f104 at h;refine fnE func104 rfl rfl fun g0 hm hfr => ?_;have rp0 := RVc hm rp0;show E _ 7 none _ _ _ _ _;refine Z5 (Z4 rfl (T1 (g := g0) rfl rp0 fun g1 w1 p1 hs q1 => ?_));have hfr := hfr.ext hs;refine Zg (.bool false) rfl rfl (Z3 (Z5 (Zx (Gc p1 1) (Zc K9 rfl (PT.ptr q1)) rfl ?_)));have q2 := Zm (Ws).1 q1;refine Z4 rfl (Z7 (g := g1) isAgg106 sizeOf106 rfl q2 fun v3 r3 => ?_);obtain ⟨y5, hy5, h⟩ := Z1 h;refine Z4 rfl (Zp (g := g1) (vs := [v3]) en105 (.cons rfl .nil) (wk105 r3 hy5) fun g4 w4_ v4 hs hr => ?_);have hfr := hfr.ext hs;subst hr;refine Gd (.bool ((y5 != (0 : Int)))) rfl rfl rfl rfl (Zg (.bool ((y5 != (0 : Int)))) rfl rfl (Z3 (Z9 ?_)));obtain rfl := sinj h;exact G0 rfl rfl (rq (.bool ((y5 != (0 : Int))))) ⟨_, hfr, rfl⟩
def f137 (x0 : TieHarness) (x1 : Tb) : Option ((List Str) × Int) :=
 jn (σ := Unit) (fun _ =>
  jn (σ := Unit) (fun _ =>
   Option.bind (α := (List Str)) (
    lp (σ := (List Str) × Int) (fun pH (oD, n8) =>
     bif (decide (n8 < (((x1).Rows).length : Int))) then
      Option.bind (α := (List Str)) (
       (idx ((x1).Rows) n8).bind fun iE =>
       (f168 ((⟨x0⟩ : Qe)) iE).bind fun y81 =>
       (apnd 16 oD (([y81] : List Str))).bind fun y84 =>
       some (y84)
       ) fun yB =>
      pH (yB, (w64 (n8 + (1 : Int))))
     else
      some (oD)
     ) big ([], (0 : Int))
    ) fun lD =>
   some (lD, (0 : Int))
   ) fun qH =>
  (f167 x1).bind fun oB =>
  bif (oB != (0 : Int)) then
   some ([], oB)
  else
   bif ((x1).Hooks != (x0).Hooks) then
    some ([], (4 : Int))
   else
    qH ()
  ) fun k7 =>
 (f105 x0).bind fun zB =>
 bif (zB != (0 : Int)) then
  some ([], zB)
 else
  k7 ()
theorem en137 : Enters prog 137 := enters_of func137 (by kernel_rfl) rfl
theorem wk137 {gI : Gh} {wI : World} {x0 : TieHarness} {x1 : Tb} {up0 : Value} (rp0 : RV gI.m wI x0 up0) {up1 : Value} (rp1 : RV gI.m wI x1 up1) {r : (List Str) × Int} (h : f137 x0 x1 = some r) : Fn prog 137 #[up0, up1] gI wI (fun m w v => ∃ y0 y1, v = .tuple #[y0, y1] ∧ RV m w (r.1) y0 ∧ y1 = Iz (r.2)) := by
 unfold f137 at h;refine fnE func137 rfl rfl fun g0 hm hfr => ?_;have rp0 := RVc hm rp0;have rp1 := RVc hm rp1;show E _ 43 none _ _ _ _ _;refine Z5 (Z4 rfl (T1 (g := g0) rfl rp0 fun g1 w1 p1 hs q1 => ?_));have hfr := hfr.ext hs;have rp1 := rp1.ext hs;refine Z4 rfl (T1 (g := g1) rfl rp1 fun g2 w2 p2 hs q2 => ?_);have hfr := hfr.ext hs;have q1 := q1.ext hs;refine Zg (.slice none 0 0) rfl rfl (Zg (Iz (0)) rfl rfl (Z3 (Zq h (fun (s : Unit) e w => ∃ (g : Gh) , Fr gI wI g w ∧ e 2 = p1 ∧ PT g.m w (x0 : TieHarness) p1 ∧ e 3 = p2 ∧ PT g.m w (x1 : Tb) p2 ∧ e 4 = .slice none 0 0 ∧ RV g.m w ([] : List Str) (Value.slice none 0 0)) (fun X7 k7 hk7 h => ?_) ?_)))
 ·refine Z5 (Z4 rfl (Z7 (g := g2) isAgg106 sizeOf106 rfl q1 fun v8 r8 => ?_))
  obtain ⟨zB, dI, h⟩ := Z1 h;refine Z4 rfl (Zp (g := g2) (vs := [v8]) en105 (.cons rfl .nil) (wk105 r8 dI) fun g9 w9_ v9 hs hr => ?_);have hfr := hfr.ext hs;have q1 := q1.ext hs;have q2 := q2.ext hs;subst hr;refine Zg (Iz (zB)) rfl rfl (Z3 (Z5 (Zn (Iz (zB)) rfl rfl (Gd (.bool ((zB != (0 : Int)))) rfl rfl rfl rfl (Z3 ?_)))));rcases Zt h with ⟨vE, h⟩ | ⟨vE, h⟩
  ·refine Gx vE rfl (Z5 (Zn (Iz (zB)) rfl rfl (Zg (.slice none 0 0) rfl rfl (Zg (Iz (zB)) rfl rfl (Z3 (Z9 (Gf ?_)))))))
   obtain rfl := sinj h;exact J4 rfl rfl (rq (.slice none 0 0)) (rq (Iz (zB))) ⟨_, hfr, _, _, rfl, Tp, rfl⟩
  ·refine Gy vE rfl ?_
   exact Zu (Zd (hk7 () _ _ ⟨g9, hfr, rfl, q1, rfl, q2, rfl, Tp⟩ h))
 ·rintro _ cK qK ⟨sH, hfr, cF, cC, aE, lB, iG, bE⟩ h
  refine Zq h (fun (s : Unit) e w => ∃ (g : Gh) , Fr gI wI g w ∧ e 2 = p1 ∧ PT g.m w (x0 : TieHarness) p1 ∧ e 3 = p2 ∧ PT g.m w (x1 : Tb) p2 ∧ e 4 = .slice none 0 0 ∧ RV g.m w ([] : List Str) (Value.slice none 0 0)) (fun X22 qH iI h => ?_) ?_
  ·refine Z5 (Z4 rfl (Z7 (g := sH) isAgg24 sizeOf24 aE lB fun pI qI => ?_))
   obtain ⟨oB, jI, h⟩ := Z1 h;refine Z4 rfl (Zp (g := sH) (vs := [pI]) en167 (.cons rfl .nil) (wk167 qI jI) fun xF dK sK hs hr => ?_);have hfr := hfr.ext hs;have cC := cC.ext hs;have lB := lB.ext hs;have bE := bE.ext hs;subst hr;refine Zg (Iz (oB)) rfl rfl (Z3 (Zr (Z5 (Zn (Iz (oB)) rfl rfl (Gd (.bool ((oB != (0 : Int)))) rfl rfl rfl rfl (Zg (.bool ((oB != (0 : Int)))) rfl rfl (Z3 ?_)))))));rcases Zt h with ⟨xE, h⟩ | ⟨xE, h⟩
   ·refine Gx xE rfl (Z5 (Zn (Iz (oB)) rfl rfl (Zg (.slice none 0 0) rfl rfl (Zg (Iz (oB)) rfl rfl (Z3 (Z9 (G2 (Gf ?_))))))))
    obtain rfl := sinj h;exact J4 rfl rfl (rq (.slice none 0 0)) (rq (Iz (oB))) ⟨_, hfr, _, _, rfl, Tp, rfl⟩
   ·refine Gy xE rfl (Z5 (Zx (Gc p2 0) (Zc H1 aE (PT.ptr lB)) rfl ?_))
    have sI := Zm (Wm).1 lB;refine Z4 rfl (Z7 (g := xF) isAgg3 sizeOf3 rfl sI fun tK jJ => ?_);obtain rfl := Zj.1 jJ;refine Zx (Gc p1 0) (Zc Hq cF (PT.ptr cC)) rfl ?_;have kJ := Zm (Qx).1 cC;refine Z4 rfl (Z7 (g := xF) isAgg3 sizeOf3 rfl kJ fun uK lJ => ?_);obtain rfl := Zj.1 lJ;refine Gd (.bool (((x1).Hooks != (x0).Hooks))) rfl rfl rfl rfl (Zg (.bool (((x1).Hooks != (x0).Hooks))) rfl rfl (Z3 ?_));rcases Zt h with ⟨yE, h⟩ | ⟨yE, h⟩
    ·refine Gx yE rfl (Z5 (Zg (.slice none 0 0) rfl rfl (Zg (Iz (4)) rfl rfl (Z3 (Z9 (G2 (Gf ?_)))))))
     obtain rfl := sinj h;exact J4 rfl rfl (rq (.slice none 0 0)) (rq (Iz (4))) ⟨_, hfr, _, _, rfl, Tp, rfl⟩
    ·refine Gy yE rfl ?_
     exact Zu (Th (Zd (iI () _ _ ⟨xF, hfr, cF, cC, aE, lB, iG, bE⟩ h)))
  ·rintro _ lK vK ⟨tH, hfr, jG, kG, lG, eF, mG, yG⟩ h
   obtain ⟨lD, hx, h⟩ := Z1 h;refine G6 (fun e w => ∃ (g : Gh) (v4 : Value), Fr gI wI g w ∧ e 4 = v4 ∧ RV g.m w (lD : List Str) v4 ∧ OS 1004 g w 9 (lD : List Str) v4) (fun Q' hQ => ?_) (fun mK xK hR => ?_)
   ·replace h := hx
    clear hx;refine Z5 (Zx (Gc p2 1) (Zc Hf lG (PT.ptr eF)) rfl ?_);have oJ := Zm (Qt).1 eF;refine Z4 rfl (Z7 (g := tH) isAgg22 sizeOf22 rfl oJ fun lE uH => (Zx (Iz (((x1).Rows).length : Int)) (G3 underlying22 rfl uH) rfl (Zn (Iz (0)) rfl rfl (Z3 (Zr (Kv h (fun (s : (List Str) × Int) e w => ∃ (g : Gh) (v4 : Value), Fr gI wI g w ∧ e 2 = p1 ∧ PT g.m w (x0 : TieHarness) p1 ∧ e 4 = v4 ∧ RV g.m w (s.1 : List Str) v4 ∧ OS 1004 g w 9 (s.1 : List Str) v4 ∧ e 28 = lE ∧ RV g.m w ((x1).Rows : List Int) lE ∧ e 29 = Iz ((((x1).Rows).length : Int)) ∧ e 30 = Iz (s.2)) ⟨tH, (.slice none 0 0), hfr, jG, kG, mG, yG, OS.nil, rfl, uH, rfl, rfl⟩ (fun X61 pH kI => ?_)))))));rintro ⟨oD, n8⟩ nK yK ⟨mE, zG, hfr, rF, aB, sF, mB, nB, oE, n9, rE, nD⟩ h;refine Z5 (Zx (.bool ((decide (n8 < (((x1).Rows).length : Int))))) (Gp nD rE rfl) rfl (Z3 (Zf ?_)));rcases Zt h with ⟨zE, h⟩ | ⟨zE, h⟩
    ·refine Gx zE rfl (Zu (Zd ?_))
     obtain ⟨yB, hx, h⟩ := Z1 h;refine G6 (fun e w => ∃ (g : Gh) (v4 : Value), Fr gI wI g w ∧ e 2 = p1 ∧ PT g.m w (x0 : TieHarness) p1 ∧ e 4 = v4 ∧ RV g.m w (yB : List Str) v4 ∧ OS 1004 g w 9 (yB : List Str) v4 ∧ e 28 = lE ∧ RV g.m w ((x1).Rows : List Int) lE ∧ e 29 = Iz ((((x1).Rows).length : Int)) ∧ e 30 = Iz (n8)) (fun Q' hQ => ?_) (fun oK zK hR => ?_)
     ·replace h := hx
      clear hx;refine Zr (Z5 ?_);obtain ⟨iE, yF, h⟩ := Z1 h;refine Zx (Gq lE n8 1) (Zh (α := Int) underlying22 sizeOf3 oE n9 nD yF) rfl ?_;have pJ := Gn n9 yF;refine Z4 rfl (Z7 (g := mE) isAgg3 sizeOf3 rfl pJ fun aL qJ => ?_);obtain rfl := Zj.1 qJ;refine Zg (Iz (iE)) rfl rfl (Z3 (Za (Zo sF rfl (Z4 rfl (Z7 (g := mE) isAgg106 sizeOf106 rF aB fun aG yH => ?_)))));have zH : RV mE.m _ (⟨x0⟩ : Qe) (.agg (Qf [[Iz 0, .slice none 0 0]] [(0, aG)]).flatten.toArray) := Qq rfl (Qv (RV.cells yH));generalize lI : (Value.agg (Qf [[Iz 0, .slice none 0 0]] [(0, aG)]).flatten.toArray) = aI at zH;refine Zx aI (lI ▸ T7 (vs := [(0, aG)]) [[Iz 0, .slice none 0 0]] M6 rfl rfl (.cons rfl .nil) ⟨⟨_, rfl, T4 yH⟩, trivial⟩) rfl (Zn (Iz (iE)) rfl rfl ?_);obtain ⟨y81, mI, h⟩ := Z1 h;refine Z4 rfl (Zp (g := mE) (vs := [aI, Iz (iE)]) en168 (.cons rfl (.cons rfl .nil)) (wk168 zH mI) fun rJ pK bL hs hr => ?_);have hfr := hfr.ext hs;have aB := aB.ext hs;have mB := mB.ext hs;have nB := nB.ext hs;have n9 := n9.ext hs;subst hr;refine Z4 rfl (Ga (g := rJ) 3039 (xs := ([y81] : List Str)) (vs := [Str.v (y81)]) underlying104 sizeOf9 zeroValue9 rfl rfl (.cons rfl .nil) (RVs.cons (Ts.2 rfl) RVs.nil) rfl rfl fun sJ dL eL hs o82 vJ hxt hfl => ?_);have hfr := hfr.stp hs;have aB := aB.stp hs;have mB := mB.stp hs;have nB := nB.stp hs rfl;have n9 := n9.stp hs;obtain ⟨y84, nI, h⟩ := Z1 h;refine Z4 rfl (Qd (g := sJ) (i := 1004) underlying104 D8 rfl rfl nB mB rfl vJ nI fun xJ gL bI hs o83 zJ _ => ?_);have hfr := hfr.stp hs;have aB := aB.stp hs;have n9 := n9.stp hs;refine Zg bI rfl rfl (Zb (Th ?_));obtain rfl := sinj h;exact hQ _ _ ⟨xJ, (bI), hfr, rF, aB, rfl, zJ, o83, oE, n9, rE, nD⟩
     ·clear hx
      obtain ⟨aK, cH, hfr, gH, jH, kH, lH, mH, bG, cG, eG, gG⟩ := hR;refine Za (Gd (Iz ((w64 (n8 + (1 : Int))))) gG rfl rfl rfl (Zn (Iz ((w64 (n8 + (1 : Int))))) rfl rfl ?_));exact Z3 (kI (yB, (w64 (n8 + (1 : Int)))) _ _ ⟨aK, (cH), hfr, gH, jH, kH, lH, mH, bG, cG, eG, rfl⟩ h)
    ·refine Gy zE rfl (Tu (G5 (G5 (Tf ?_))))
     obtain rfl := sinj h;exact hQ _ _ ⟨mE, (zG), hfr, sF, mB, nB⟩
   ·clear hx
    obtain ⟨iL, vF, hfr, nH, oH, bK⟩ := hR;refine Z5 (Zo nH rfl (Zg vF rfl rfl (Zg (Iz (0)) rfl rfl (Z3 (Z9 ?_)))));obtain rfl := sinj h;exact J4 rfl rfl (rq vF) (rq (Iz (0))) ⟨_, hfr, _, _, rfl, oH, rfl⟩
def f145 (x0 : Str) : Option (Bool) :=
 Option.bind (α := Bool) (
  (f100 ((1 : Int)) ((8 : Int)) (([((x0).b.length : Int)] : List Int))).bind fun y9 =>
  bif y9 then
   (f176 x0 ((fun a0 => f175 a0))).bind fun aB =>
   some ((!aB))
  else
   some (false)
  ) fun n9 =>
 some (n9)
theorem en145 : Enters prog 145 := enters_of func145 (by kernel_rfl) rfl
theorem wk145 {gI : Gh} {wI : World} {x0 : Str}  {r : Bool} (h : f145 x0 = some r) : Fn prog 145 #[Str.v (x0)] gI wI (fun _ _ v => v = .bool (r)) := by
 unfold f145 at h;refine fnE func145 rfl rfl fun g0 hm hfr => ?_;show E _ 14 none _ _ _ _ _;refine Z5 (Zg (.bool false) rfl rfl (Z3 (Z5 (Zg (.func (.func 175) #[] #[]) rfl rfl (Z3 ?_)))));obtain ⟨n9, hx, h⟩ := Z1 h;refine G6 (fun e w => ∃ (g : Gh) , Fr gI wI g w ∧ e 2 = .bool (n9)) (fun Q' hQ => ?_) (fun nB yB hR => ?_)
 ·replace h := hx
  clear hx;refine Za (Zn (Str.v (x0)) rfl rfl (Zx (Iz ((x0).b.length : Int)) (H8 underlying9 rfl) rfl (Z4 rfl (Ga (g := g0) 3006 (xs := ([((x0).b.length : Int)] : List Int)) (vs := [Iz ((x0).b.length : Int)]) underlying22 sizeOf3 zeroValue3 rfl rfl (.cons rfl .nil) (RVs.cons (Zj.2 rfl) RVs.nil) rfl rfl fun g7 w7 v7 hs o7 r7 hxt hfl => ?_))));have hfr := hfr.stp hs;obtain ⟨y9, mB, h⟩ := Z1 h;refine Z4 rfl (Zp (g := g7) (vs := [Iz (1), Iz (8), v7]) en100 (.cons rfl (.cons rfl (.cons rfl .nil))) (wk100 r7 mB) fun g8 w8_ v8 hs hr => ?_);have hfr := hfr.ext hs;subst hr;refine Zn (.bool (y9)) rfl rfl ?_;rcases Zt h with ⟨n8, h⟩ | ⟨n8, h⟩
  ·refine Zy (Str.v (x0)) (Zk rfl) rfl rfl n8 rfl (Zy (.func (.func 175) #[] #[]) (Zk rfl) rfl rfl n8 rfl ?_)
   obtain ⟨aB, hy12, h⟩ := Z1 h;refine Ze (.yes2 rfl rfl n8) rfl (Zp (g := g8) (vs := [Str.v (x0), .func (.func 175) #[] #[]]) en176 (.cons rfl (.cons rfl .nil)) (wk176 ⟨175, #[], #[], rfl, en175, fun g' w' hch a0 b0 r hu0 hr => by obtain rfl := Az.1 hu0; exact Fn.mono (wk175   hr) fun _ _ _ h => Wl.2 h⟩ hy12) fun g11 oB zB hs hr => ?_);have hfr := hfr.ext hs;subst hr;refine Zy (.bool (!aB)) (Qj rfl) rfl rfl n8 rfl (Zx (.bool (!aB)) (Zl (b := y9) rfl (Tc n8 rfl)) rfl (Zg (.bool (!aB)) rfl rfl (Zb ?_)));obtain rfl := sinj h;exact hQ _ _ ⟨g11, hfr, rfl⟩
  ·refine Zz rfl rfl n8 rfl rfl ?_
   iterate 3 refine Zz rfl rfl n8 rfl rfl ?_
   refine Zx (.bool false) (Zl (b := y9) rfl (Gz n8 rfl)) rfl (Zg (.bool false) rfl rfl (Zb ?_));obtain rfl := sinj h;exact hQ _ _ ⟨g8, hfr, rfl⟩
 ·clear hx
  obtain ⟨cC, hfr, lB⟩ := hR;refine Z9 ?_;obtain rfl := sinj h;exact G0 rfl rfl (show _ = .bool (n9) from lB) ⟨_, hfr, rfl⟩
def f164 (x0 : Gj) (x1 : Int) : Option (Int) :=
 jn (σ := Unit) (fun _ =>
  (idx (((x0).ChainBelt).Cards) x1).bind fun aB =>
  some ((aB).Row)
  ) fun k19 =>
 (idx (((x0).ChainBelt).Cards) x1).bind fun y23 =>
 bif (y23).Turned then
  (f197 ((x0).frame) ((y23).Row)).bind fun lB =>
  some (lB)
 else
  k19 ()
theorem en164 : Enters prog 164 := enters_of func164 (by kernel_rfl) rfl
theorem wk164 {gI : Gh} {wI : World} {x0 : Gj} {x1 : Int} {up0 : Value} (rp0 : RV gI.m wI x0 up0) {r : Int} (h : f164 x0 x1 = some r) : Fn prog 164 #[up0, Iz (x1)] gI wI (fun _ _ v => v = Iz (r)) := by
 unfold f164 at h;refine fnE func164 rfl rfl fun g0 hm hfr => ?_;have rp0 := RVc hm rp0;show E _ 26 none _ _ _ _ _;refine Z5 (Z4 rfl (T1 (g := g0) rfl rp0 fun g1 w1 p1 hs q1 => ?_));have hfr := hfr.ext hs;refine Zg (Iz (0)) rfl rfl (Z3 (Zq h (fun (s : Unit) e w => ∃ (g : Gh) , Fr gI wI g w ∧ e 1 = Iz (x1) ∧ e 2 = p1 ∧ PT g.m w (x0 : Gj) p1) (fun X19 k19 oE h => ?_) ?_))
 ·refine Z5 (Zx (Gc p1 0) (Zc D4 rfl (PT.ptr q1)) rfl ?_)
  have lD := Zm (Kr).1 q1;refine Zx (Gc (Gc p1 0) 1) (Zc Hg rfl (PT.ptr lD)) rfl ?_;have vE := Zm (Qi).1 lD;refine Z4 rfl (Z7 (g := g1) isAgg90 sizeOf90 rfl vE fun xE nD => (Zn (Iz (x1)) rfl rfl ?_));obtain ⟨y23, nB, h⟩ := Z1 h;refine Zx (Gq xE x1 3) (Zh (α := Gb) underlying90 sizeOf96 rfl nD rfl nB) rfl ?_;have yE := Gn nD nB;refine Z4 rfl (Z7 (g := g1) isAgg96 sizeOf96 rfl yE fun zE oB => (Z4 rfl (Td (g := g1) 2005 (⟨0, 0, false⟩ : Gb) zeroValue96 (fun m w => ⟨_, (Gk Zw (Gk Zw Ba)), rfl⟩) fun cF eG oD hs b26 cb => ?_)));have hfr := hfr.stp hs;have q1 := q1.stp hs;have oB := oB.stp hs;clear cb;refine Z4 rfl (Gv (g := cF) (v := zE) sizeOf96 rfl b26 rfl oB fun n8 gG hs b27 cb => ?_);clear cb;have hfr := hfr.stp hs;have q1 := q1.stp hs;refine Z3 (Z5 (Zx (Gc oD 2) (Zc Lv rfl (OB.ptr b27)) rfl (Z4 rfl (Hz (g := n8) Yi.1 isAgg4 sizeOf4 rfl b27 fun iG eF => ?_))));obtain rfl := Wl.1 eF;refine Z3 ?_;rcases Zt h with ⟨n9, h⟩ | ⟨n9, h⟩
  ·refine Gx n9 rfl (Z5 (Zx (Gc p1 2) (Zc Dv rfl (PT.ptr q1)) rfl ?_))
   have rF := Zm (Ks).1 q1;refine Z4 rfl (Z7 (g := n8) isAgg218 sizeOf218 rfl rF fun jG sF => ?_);obtain rfl := Zj.1 sF;refine Zx (Gc oD 1) (Zc Vs rfl (OB.ptr b27)) rfl (Z4 rfl (Hz (g := n8) W4.1 isAgg3 sizeOf3 rfl b27 fun kG vF => ?_));obtain rfl := Zj.1 vF;obtain ⟨lB, rE, h⟩ := Z1 h;refine Z4 rfl (Zp (g := n8) (vs := [Iz ((x0).frame), Iz ((y23).Row)]) en197 (.cons rfl (.cons rfl .nil)) (wk197  rE) fun lG bG mG hs hr => ?_);have hfr := hfr.ext hs;subst hr;refine Zg (Iz (lB)) rfl rfl (Z3 (Z9 (Gf ?_)));obtain rfl := sinj h;exact G0 rfl rfl (rq (Iz (lB))) ⟨_, hfr, rfl⟩
  ·refine Gy n9 rfl ?_
   exact Zu (Zd (oE () _ _ ⟨n8, hfr, rfl, rfl, q1⟩ h))
 ·rintro _ cG yG ⟨aE, hfr, zB, cC, mB⟩ h
  refine Z5 (Zx (Gc p1 0) (Zc D4 cC (PT.ptr mB)) rfl ?_);have bE := Zm (Kr).1 mB;refine Zx (Gc (Gc p1 0) 1) (Zc Hg rfl (PT.ptr bE)) rfl ?_;have xF := Zm (Qi).1 bE;refine Z4 rfl (Z7 (g := aE) isAgg90 sizeOf90 rfl xF fun iE lE => (Zo zB rfl ?_));obtain ⟨aB, yB, h⟩ := Z1 h;refine Zx (Gq iE x1 3) (Zh (α := Gb) underlying90 sizeOf96 rfl lE rfl yB) rfl ?_;have mE := Gn lE yB;refine Zx (Gc (Gq iE x1 3) 1) (Zc Vs rfl (PT.ptr mE)) rfl ?_;have yF := Zm (W4).1 mE;refine Z4 rfl (Z7 (g := aE) isAgg3 sizeOf3 rfl yF fun zG aG => ?_);obtain rfl := Zj.1 aG;refine Zg (Iz ((aB).Row)) rfl rfl (Z3 (Z9 ?_));obtain rfl := sinj h;exact G0 rfl rfl (rq (Iz ((aB).Row))) ⟨_, hfr, rfl⟩
def f174 (x0 : Int) (x1 : List Gb) : Option (Bool) :=
 Option.bind (α := Bool) (
  bif (decide (((x1).length : Int) > (0 : Int))) then
   (f209 x1 ((fun a0 => f207 a0 x0))).bind fun y7 =>
   some ((!y7))
  else
   some (false)
  ) fun n8 =>
 some (n8)
theorem en174 : Enters prog 174 := enters_of func174 (by kernel_rfl) rfl
theorem wk174 {gI : Gh} {wI : World} {x0 : Int} {x1 : List Gb} {up1 : Value} (rp1 : RV gI.m wI x1 up1) {r : Bool} (h : f174 x0 x1 = some r) : Fn prog 174 #[Iz (x0), up1] gI wI (fun _ _ v => v = .bool (r)) := by
 unfold f174 at h;refine fnE func174 rfl rfl fun g0 hm hfr => ?_;have rp1 := RVc hm rp1;show E _ 16 none _ _ _ _ _;refine Z5 (Z4 rfl (T1 (g := g0) rfl (Zj.2 rfl) fun g1 w1 p1 hs q1 => ?_));have hfr := hfr.ext hs;have rp1 := rp1.ext hs;refine Zg (.bool false) rfl rfl (Z3 (Z5 (Zx ((.func (.func 207) #[] #[p1])) (Wt (R6 (show ev _ _ = p1 from rfl))) rfl (Zg ((.func (.func 207) #[] #[p1])) rfl rfl (Z3 ?_)))));obtain ⟨n8, hx, h⟩ := Z1 h;refine G6 (fun e w => ∃ (g : Gh) , Fr gI wI g w ∧ e 4 = .bool (n8)) (fun Q' hQ => ?_) (fun lB w8 hR => ?_)
 ·replace h := hx
  clear hx;refine Za (Zn up1 rfl rfl (Zx (Iz ((x1).length : Int)) (G3 underlying90 rfl rp1) rfl (Gd (.bool ((decide (((x1).length : Int) > (0 : Int))))) rfl rfl rfl rfl (Zn (.bool ((decide (((x1).length : Int) > (0 : Int))))) rfl rfl ?_))));rcases Zt h with ⟨hc5, h⟩ | ⟨hc5, h⟩
  ·refine Zy up1 (Zk rfl) rfl rfl hc5 rfl (Zy ((.func (.func 207) #[] #[p1])) (Zk rfl) rfl rfl hc5 rfl ?_)
   obtain ⟨y7, aB, h⟩ := Z1 h;refine Ze (.yes2 rfl rfl hc5) rfl (Zp (g := g1) (vs := [up1, (.func (.func 207) #[] #[p1])]) en209 (.cons rfl (.cons rfl .nil)) (wk209 rp1 ⟨207, #[], #[p1], rfl, en207, fun g' w' hch a0 b0 r hu0 hr => by exact Fn.mono (wk207 hu0 (q1.ch hch) hr) fun _ _ _ h => Wl.2 h⟩ aB) fun g6 w6_ v6 hs hr => ?_);have hfr := hfr.ext hs;subst hr;refine Zy (.bool (!y7)) (Qj rfl) rfl rfl hc5 rfl (Zx (.bool (!y7)) (Zl (b := (decide (((x1).length : Int) > (0 : Int)))) rfl (Tc hc5 rfl)) rfl (Zg (.bool (!y7)) rfl rfl (Zb ?_)));obtain rfl := sinj h;exact hQ _ _ ⟨g6, hfr, rfl⟩
  ·refine Zz rfl rfl hc5 rfl rfl ?_
   iterate 3 refine Zz rfl rfl hc5 rfl rfl ?_
   refine Zx (.bool false) (Zl (b := (decide (((x1).length : Int) > (0 : Int)))) rfl (Gz hc5 rfl)) rfl (Zg (.bool false) rfl rfl (Zb ?_));obtain rfl := sinj h;exact hQ _ _ ⟨g1, hfr, rfl⟩
 ·clear hx
  obtain ⟨g8, hfr, n9⟩ := hR;refine Z9 ?_;obtain rfl := sinj h;exact G0 rfl rfl (show _ = .bool (n8) from n9) ⟨_, hfr, rfl⟩
def f15 (x0 : Tb) : Option (Str × Int) :=
 jn (σ := Unit) (fun _ =>
  Option.bind (α := Str) (
   lp (σ := Str × Int) (fun yF (oB, n8) =>
    bif (decide (n8 < (((x0).Rows).length : Int))) then
     Option.bind (α := Str) (
      (idx ((x0).Rows) n8).bind fun zB =>
      (f55 zB ((x0).Hooks)).bind fun y56 =>
      (Nl y56 (⟨[10]⟩ : Str)).bind fun rE =>
      (Nl oB rE).bind fun bE =>
      some (bE)
      ) fun mB =>
     yF (mB, (w64 (n8 + (1 : Int))))
    else
     some (oB)
    ) big ((⟨[]⟩ : Str), (0 : Int))
   ) fun aB =>
  some (aB, (0 : Int))
  ) fun k6 =>
 (f54 x0).bind fun y9 =>
 bif (y9 != (0 : Int)) then
  some ((⟨[]⟩ : Str), y9)
 else
  k6 ()
theorem en15 : Enters prog 15 := enters_of func15 (by kernel_rfl) rfl
theorem wk15 {gI : Gh} {wI : World} {x0 : Tb} {up0 : Value} (rp0 : RV gI.m wI x0 up0) {r : Str × Int} (h : f15 x0 = some r) : Fn prog 15 #[up0] gI wI (fun m w v => ∃ y0 y1, v = .tuple #[y0, y1] ∧ y0 = Str.v (r.1) ∧ y1 = Iz (r.2)) := by
 unfold f15 at h;refine fnE func15 rfl rfl fun g0 hm hfr => ?_;have rp0 := RVc hm rp0;show E _ 28 none _ _ _ _ _;refine Z5 (Z4 rfl (T1 (g := g0) rfl rp0 fun g1 w1 p1 hs q1 => ?_));have hfr := hfr.ext hs;refine Zg (Str.v (⟨[]⟩ : Str)) rfl rfl (Zg (Iz (0)) rfl rfl (Z3 (Zq h (fun (s : Unit) e w => ∃ (g : Gh) , Fr gI wI g w ∧ e 1 = p1 ∧ PT g.m w (x0 : Tb) p1 ∧ e 2 = Str.v ((⟨[]⟩ : Str))) (fun X6 k6 hk6 h => ?_) ?_)))
 ·refine Z5 (Z4 rfl (Z7 (g := g1) isAgg24 sizeOf24 rfl q1 fun v7 r7 => ?_))
  obtain ⟨y9, iG, h⟩ := Z1 h;refine Z4 rfl (Zp (g := g1) (vs := [v7]) en54 (.cons rfl .nil) (wk54 r7 iG) fun g8 w8_ v8 hs hr => ?_);have hfr := hfr.ext hs;have q1 := q1.ext hs;subst hr;refine Zg (Iz (y9)) rfl rfl (Z3 (Z5 (Zn (Iz (y9)) rfl rfl (Gd (.bool ((y9 != (0 : Int)))) rfl rfl rfl rfl (Z3 ?_)))));rcases Zt h with ⟨oD, h⟩ | ⟨oD, h⟩
  ·refine Gx oD rfl (Z5 (Zn (Iz (y9)) rfl rfl (Zg (Str.v (⟨[]⟩ : Str)) rfl rfl (Zg (Iz (y9)) rfl rfl (Z3 (Z9 (Gf ?_)))))))
   obtain rfl := sinj h;exact J4 rfl rfl (rq (Str.v (⟨[]⟩ : Str))) (rq (Iz (y9))) ⟨_, hfr, _, _, rfl, rfl, rfl⟩
  ·refine Gy oD rfl ?_
   exact Zu (Zd (hk6 () _ _ ⟨g8, hfr, rfl, q1, rfl⟩ h))
 ·rintro _ gH w11 ⟨g11, hfr, iE, yB, eF⟩ h
  obtain ⟨aB, hx, h⟩ := Z1 h;refine G6 (fun e w => ∃ (g : Gh) , Fr gI wI g w ∧ e 2 = Str.v (aB)) (fun Q' hQ => ?_) (fun jH nH hR => ?_)
  ·replace h := hx
   clear hx;refine Z5 (Zx (Gc p1 1) (Zc Hf iE (PT.ptr yB)) rfl ?_);have jG := Zm (Qt).1 yB;refine Z4 rfl (Z7 (g := g11) isAgg22 sizeOf22 rfl jG fun cC aG => (Zx (Iz (((x0).Rows).length : Int)) (G3 underlying22 rfl aG) rfl (Zn (Iz (0)) rfl rfl (Z3 (Zr (Kv h (fun (s : Str × Int) e w => ∃ (g : Gh) , Fr gI wI g w ∧ e 1 = p1 ∧ PT g.m w (x0 : Tb) p1 ∧ e 2 = Str.v (s.1) ∧ e 13 = cC ∧ RV g.m w ((x0).Rows : List Int) cC ∧ e 14 = Iz ((((x0).Rows).length : Int)) ∧ e 15 = Iz (s.2)) ⟨g11, hfr, iE, yB, eF, rfl, aG, rfl, rfl⟩ (fun X38 yF bG => ?_)))))));rintro ⟨oB, n8⟩ kH oH ⟨lE, hfr, mE, lB, oE, lD, n9, nD, nB⟩ h;refine Z5 (Zx (.bool ((decide (n8 < (((x0).Rows).length : Int))))) (Gp nB nD rfl) rfl (Z3 (Zf ?_)));rcases Zt h with ⟨aE, h⟩ | ⟨aE, h⟩
   ·refine Gx aE rfl (Zu (Zd ?_))
    obtain ⟨mB, hx, h⟩ := Z1 h;refine G6 (fun e w => ∃ (g : Gh) , Fr gI wI g w ∧ e 1 = p1 ∧ PT g.m w (x0 : Tb) p1 ∧ e 2 = Str.v (mB) ∧ e 13 = cC ∧ RV g.m w ((x0).Rows : List Int) cC ∧ e 14 = Iz ((((x0).Rows).length : Int)) ∧ e 15 = Iz (n8)) (fun Q' hQ => ?_) (fun lH pH hR => ?_)
    ·replace h := hx
     clear hx;refine Zr (Z5 ?_);obtain ⟨zB, vE, h⟩ := Z1 h;refine Zx (Gq cC n8 1) (Zh (α := Int) underlying22 sizeOf3 lD n9 nB vE) rfl ?_;have kG := Gn n9 vE;refine Z4 rfl (Z7 (g := lE) isAgg3 sizeOf3 rfl kG fun qH lG => ?_);obtain rfl := Zj.1 lG;refine Zg (Iz (zB)) rfl rfl (Z3 (Za (Zo oE rfl (Zn (Iz (zB)) rfl rfl (Zx (Gc p1 0) (Zc H1 mE (PT.ptr lB)) rfl ?_)))));have mG := Zm (Wm).1 lB;refine Z4 rfl (Z7 (g := lE) isAgg3 sizeOf3 rfl mG fun sH yG => ?_);obtain rfl := Zj.1 yG;obtain ⟨y56, cG, h⟩ := Z1 h;refine Z4 rfl (Zp (g := lE) (vs := [Iz (zB), Iz ((x0).Hooks)]) en55 (.cons rfl (.cons rfl .nil)) (wk55  cG) fun zG mH tH hs hr => ?_);have hfr := hfr.ext hs;have lB := lB.ext hs;have n9 := n9.ext hs;subst hr;obtain ⟨rE, eG, h⟩ := Z1 h;refine Zx (Str.v (rE)) (W2 rfl rfl (C8 eG)) rfl ?_;obtain ⟨bE, gG, h⟩ := Z1 h;refine Zx (Str.v (bE)) (W2 rfl rfl (C8 gG)) rfl (Zg (Str.v (bE)) rfl rfl (Zb (Th ?_)));obtain rfl := sinj h;exact hQ _ _ ⟨zG, hfr, mE, lB, rfl, lD, n9, nD, nB⟩
    ·clear hx
     obtain ⟨cH, hfr, rF, sF, vF, xE, yE, zE, cF⟩ := hR;refine Za (Gd (Iz ((w64 (n8 + (1 : Int))))) cF rfl rfl rfl (Zn (Iz ((w64 (n8 + (1 : Int))))) rfl rfl ?_));exact Z3 (bG (mB, (w64 (n8 + (1 : Int)))) _ _ ⟨cH, hfr, rF, sF, vF, xE, yE, zE, rfl⟩ h)
   ·refine Gy aE rfl (Tu (G5 (G5 (Tf ?_))))
    obtain rfl := sinj h;exact hQ _ _ ⟨lE, hfr, oE⟩
  ·clear hx
   obtain ⟨uH, hfr, xF⟩ := hR;refine Z5 (Zo xF rfl (Zg (Str.v (aB)) rfl rfl (Zg (Iz (0)) rfl rfl (Z3 (Z9 ?_)))));obtain rfl := sinj h;exact J4 rfl rfl (rq (Str.v (aB))) (rq (Iz (0))) ⟨_, hfr, _, _, rfl, rfl, rfl⟩
def f31 (x0 : List Z2) : Option ((List UInt8) × Int × Int) :=
 jn (σ := Unit) (fun _ =>
  jn (σ := (List UInt8)) (fun eF =>
   some (eF, (0 : Int), (0 : Int))
   ) fun vJ =>
  lp (σ := (List UInt8) × Int) (fun xJ (lD, n8) =>
   bif (decide (n8 < ((x0).length : Int))) then
    jn (σ := (List UInt8)) (fun iE =>
     xJ (iE, (w64 (n8 + (1 : Int))))
     ) fun zJ =>
    (idx x0 n8).bind fun lE =>
    jn (σ := Unit) (fun _ =>
     (f90 lE).bind fun mH =>
     (cut ((mH).toList) 0 ((8 : Nat) : Int)).bind fun nH =>
     (apnd 1 lD nH).bind fun sF =>
     zJ (sF)
     ) fun oH =>
    (f88 lE).bind fun rE =>
    bif (!rE) then
     some ([], n8, (2 : Int))
    else
     Option.bind (α := Bool) (
      bif (decide (n8 > (0 : Int))) then
       (idx x0 (w64 (n8 - (1 : Int)))).bind fun pH =>
       (f89 pH lE).bind fun bE =>
       some ((decide (bE ≥ (0 : Int))))
      else
       some (false)
      ) fun nD =>
     bif nD then
      some ([], n8, (4 : Int))
     else
      oH ()
   else
    vJ (lD)
   ) big ([], (0 : Int))
  ) fun k2 =>
 bif (decide (((x0).length : Int) > (100 : Int))) then
  some ([], (0 : Int), (5 : Int))
 else
  k2 ()
theorem en31 : Enters prog 31 := enters_of func31 (by kernel_rfl) rfl
theorem wk31 {gI : Gh} {wI : World} {x0 : List Z2} {up0 : Value} (rp0 : RV gI.m wI x0 up0) {r : (List UInt8) × Int × Int} (h : f31 x0 = some r) : Fn prog 31 #[up0] gI wI (fun m w v => ∃ y0 y1 y2, v = .tuple #[y0, y1, y2] ∧ RV m w (r.1) y0 ∧ y1 = Iz (r.2.1) ∧ y2 = Iz (r.2.2)) := by
 unfold f31 at h;refine fnE func31 rfl rfl fun g0 hm hfr => ?_;have rp0 := RVc hm rp0;show E _ 44 none _ _ _ _ _;refine Z5 (Zg (.slice none 0 0) rfl rfl (Zg (Iz (0)) rfl rfl (Zg (Iz (0)) rfl rfl (Z3 (Zq h (fun (s : Unit) e w => ∃ (g : Gh) , Fr gI wI g w ∧ e 0 = up0 ∧ RV g.m w (x0 : List Z2) up0 ∧ e 2 = .slice none 0 0 ∧ RV g.m w ([] : List UInt8) (Value.slice none 0 0)) (fun X2 k2 hk2 h => ?_) ?_)))))
 ·refine Z5 (Zn up0 rfl rfl (Zx (Iz ((x0).length : Int)) (G3 underlying49 rfl rp0) rfl (Gd (.bool ((decide (((x0).length : Int) > (100 : Int))))) rfl rfl rfl rfl (Z3 ?_))))
  rcases Zt h with ⟨hc3, h⟩ | ⟨hc3, h⟩
  ·refine Gx hc3 rfl (Z5 (Zg (.slice none 0 0) rfl rfl (Zg (Iz (0)) rfl rfl (Zg (Iz (5)) rfl rfl (Z3 (Z9 (Gf ?_)))))))
   obtain rfl := sinj h;exact Hc rfl rfl (rq (.slice none 0 0)) (rq (Iz (0))) (rq (Iz (5))) ⟨_, hfr, _, _, _, rfl, Tp, rfl, rfl⟩
  ·refine Gy hc3 rfl ?_
   exact Zu (Zd (hk2 () _ _ ⟨g0, hfr, rfl, rp0, rfl, Tp⟩ h))
 ·rintro _ yN w4 ⟨g4, hfr, aK, eG, yL, zL⟩ h
  refine Zq h (fun (s : (List UInt8)) e w => ∃ (g : Gh) (v2 : Value), Fr gI wI g w ∧ e 2 = v2 ∧ RV g.m w (s : List UInt8) v2 ∧ OS 1002 g w 5 (s : List UInt8) v2) (fun X587 vJ qK h => ?_) ?_
  ·refine Z5 (Zo aK rfl (Zx (Iz ((x0).length : Int)) (G3 underlying49 rfl eG) rfl (Zn (Iz (0)) rfl rfl (Z3 (Zr (Kv h (fun (s : (List UInt8) × Int) e w => ∃ (g : Gh) (v2 : Value), Fr gI wI g w ∧ e 0 = up0 ∧ RV g.m w (x0 : List Z2) up0 ∧ e 2 = v2 ∧ RV g.m w (s.1 : List UInt8) v2 ∧ OS 1002 g w 5 (s.1 : List UInt8) v2 ∧ e 11 = up0 ∧ RV g.m w (x0 : List Z2) up0 ∧ e 12 = Iz (((x0).length : Int)) ∧ e 13 = Iz (s.2)) ⟨g4, (.slice none 0 0), hfr, aK, eG, yL, zL, OS.nil, rfl, eG, rfl, rfl⟩ (fun X588 xJ sK => ?_)))))))
   rintro ⟨lD, n8⟩ eN uN ⟨gG, oD, hfr, vE, lB, xE, mB, nB, mE, n9, oE, aE⟩ h;refine Z5 (Gd (.bool ((decide (n8 < ((x0).length : Int))))) aE oE rfl rfl (Z3 (Zf ?_)));rcases Zt h with ⟨vF, h⟩ | ⟨vF, h⟩
   ·refine Gx vF rfl (Zu (Zd (Zq h (fun (s : (List UInt8)) e w => ∃ (g : Gh) (v2 : Value), Fr gI wI g w ∧ e 0 = up0 ∧ RV g.m w (x0 : List Z2) up0 ∧ e 2 = v2 ∧ RV g.m w (s : List UInt8) v2 ∧ OS 1002 g w 5 (s : List UInt8) v2 ∧ e 11 = up0 ∧ RV g.m w (x0 : List Z2) up0 ∧ e 12 = Iz (((x0).length : Int)) ∧ e 13 = Iz (n8)) (fun X879 zJ tK h => ?_) ?_)))
    ·refine Zr (Z5 (Zo aE rfl ?_))
     obtain ⟨lE, qH, h⟩ := Z1 h;refine Zx (Gq up0 n8 5) (Zh (α := Z2) underlying49 sizeOf63 mE n9 aE qH) rfl ?_;have aM := Gn n9 qH;refine Z4 rfl (Z7 (g := gG) isAgg63 sizeOf63 rfl aM fun cM iG => (Z4 rfl (Td (g := gG) 2006 (⟨0, 0, 0, 0, 0⟩ : Z2) zeroValue63 (fun m w => ⟨_, (Gk Zw (Gk Zw (Gk Zw (Gk Zw Zw)))), rfl⟩) fun dM vN xF hs b883 cb => ?_)));have hfr := hfr.stp hs;have lB := lB.stp hs;have mB := mB.stp hs;have nB := nB.stp hs rfl;have n9 := n9.stp hs;have iG := iG.stp hs;clear cb;refine Zg (Iz (n8)) rfl rfl (Z4 rfl (Gv (g := dM) (v := cM) sizeOf63 rfl b883 rfl iG fun bK xN hs b884 cb => ?_));clear cb;have hfr := hfr.stp hs;have lB := lB.stp hs;have mB := mB.stp hs;have nB := nB.stp hs rfl;have n9 := n9.stp hs;refine Z3 (Zq h (fun (s : Unit) e w => ∃ (g : Gh) , Fr gI wI g w ∧ e 0 = up0 ∧ RV g.m w (x0 : List Z2) up0 ∧ e 2 = oD ∧ RV g.m w (lD : List UInt8) oD ∧ OS 1002 g w 5 (lD : List UInt8) oD ∧ e 6 = xF ∧ OB 2006 g w 63 (lE : Z2) xF ∧ e 11 = up0 ∧ RV g.m w (x0 : List Z2) up0 ∧ e 12 = Iz (((x0).length : Int)) ∧ e 13 = Iz (n8)) (fun X1021 oH cK h => ?_) ?_)
     ·refine Zr (Z5 (Z4 rfl (T8 (g := bK) isAgg63 sizeOf63 rfl b884 fun uK vK => ?_)))
      obtain ⟨rE, dK, h⟩ := Z1 h;refine Z4 rfl (Zp (g := bK) (vs := [uK]) en88 (.cons rfl .nil) (wk88 vK dK) fun sH iM gN hs hr => ?_);have hfr := hfr.ext hs;have lB := lB.ext hs;have mB := mB.ext hs;have nB := nB.ext hs;have n9 := n9.ext hs;have b884 := b884.ext hs;subst hr;refine Zx (.bool (!rE)) (Qj rfl) rfl (Zg (.bool (!rE)) rfl rfl (Z3 ?_));rcases Zt h with ⟨yE, h⟩ | ⟨yE, h⟩
      ·refine Gx yE rfl (Z5 (Zn (Iz (n8)) rfl rfl (Zg (.slice none 0 0) rfl rfl (Zg (Iz (n8)) rfl rfl (Zg (Iz (2)) rfl rfl (Z3 (Z9 (G2 (Gf (G2 (Gf (Gf (G2 (Gf ?_))))))))))))))
       obtain rfl := sinj h;exact Hc rfl rfl (rq (.slice none 0 0)) (rq (Iz (n8))) (rq (Iz (2))) ⟨_, hfr, _, _, _, rfl, Tp, rfl, rfl⟩
      ·refine Gy yE rfl ?_
       obtain ⟨nD, hx, h⟩ := Z1 h;refine G6 (fun e w => ∃ (g : Gh) , Fr gI wI g w ∧ e 0 = up0 ∧ RV g.m w (x0 : List Z2) up0 ∧ e 2 = oD ∧ RV g.m w (lD : List UInt8) oD ∧ OS 1002 g w 5 (lD : List UInt8) oD ∧ e 5 = Iz (n8) ∧ e 6 = xF ∧ OB 2006 g w 63 (lE : Z2) xF ∧ e 11 = up0 ∧ RV g.m w (x0 : List Z2) up0 ∧ e 12 = Iz (((x0).length : Int)) ∧ e 13 = Iz (n8) ∧ e 23 = .bool (nD)) (fun Q' hQ => ?_) (fun jM iN hR => ?_)
       ·replace h := hx
        clear hx;rcases Zt h with ⟨yB, h⟩ | ⟨yB, h⟩
        ·obtain ⟨pH, bG, h⟩ := Z1 h
         have xK := Gn lB bG;refine Zs (x := .tmp 30) isAgg63 sizeOf63 xK fun tH yK lK => (H4 (x := .tmp 6) isAgg63 sizeOf63 b884 fun uH zK mK => ?_);obtain ⟨bE, nK, h⟩ := Z1 h;refine T6 (g := sH) (n := 13) [(9, (fun v g w => v = Iz (bE)))] [0, 1, 2, 3, 4, 5, 6, 7, 8, 9, 10, 11, 12] rfl mixed (by kernel_rfl) (⟨fun _ => Ha _, trivial⟩) (Z0 (Iz (n8)) rfl rfl (Zk rfl) (Z0 (.bool ((decide (n8 > (0 : Int))))) rfl rfl (Gp rfl rfl rfl) (Z0 (.bool ((decide (n8 > (0 : Int))))) rfl rfl (Zk rfl) (L_y up0 rfl rfl rfl rfl yB (Zk vE) (L_y (Iz (n8)) rfl rfl rfl rfl yB (Zk rfl) (L_y (Iz ((w64 (n8 - (1 : Int))))) rfl rfl rfl rfl yB (Gp rfl rfl rfl) (L_y (Gq up0 (w64 (n8 - (1 : Int))) 5) rfl rfl rfl rfl yB (Zh (α := Z2) underlying49 sizeOf63 rfl lB rfl bG) (Ti (c := tH) rfl rfl (.yes2 rfl rfl yB) (fun _ _ h => h.ch) lK rfl (Ti (c := uH) rfl rfl (.yes2 rfl rfl yB) (fun _ _ h => ⟨h.ch, fun b hb _ => h.below.block b hb⟩) mK rfl (Hn (φ := fun v g w => v = Iz (bE)) rfl rfl (.yes2 rfl rfl yB) (fun g w hd => Zp (g := g) (vs := [tH, uH]) en89 (.cons rfl (.cons rfl .nil)) (wk89 (yK.ext hd.1) (zK.ext hd.1) nK) fun g' w' v hs hr => ⟨g', hs, hr⟩) (fun jN hv => ?_)))))))))));obtain ⟨_, _, _, rfl⟩ := hv;refine L_y (.bool ((decide (bE ≥ (0 : Int))))) rfl rfl rfl rfl yB (Gp rfl rfl rfl) (Z0 (.bool ((decide (bE ≥ (0 : Int))))) rfl rfl (Zl (b := (decide (n8 > (0 : Int)))) rfl (Tc yB rfl)) (Z0 (.bool ((decide (bE ≥ (0 : Int))))) rfl rfl (Tv rfl) (Jd fun aL kN hs => ?_)));have hfr := hfr.ext hs;have lB := lB.ext hs;have mB := mB.ext hs;have nB := nB.ext hs;have n9 := n9.ext hs;have b884 := b884.ext hs;clear hs;refine Zb ?_;obtain rfl := sinj h;exact hQ _ _ ⟨aL, hfr, vE, lB, xE, mB, nB, rfl, rfl, b884, mE, n9, oE, aE, rfl⟩
        ·refine T6 (g := sH) (n := 13) [] [0, 1, 2, 3, 4, 5, 6, 7, 8, 9, 10, 11, 12] rfl mixed (by kernel_rfl) trivial (Z0 (Iz (n8)) rfl rfl (Zk rfl) (Z0 (.bool ((decide (n8 > (0 : Int))))) rfl rfl (Gp rfl rfl rfl) (Z0 (.bool ((decide (n8 > (0 : Int))))) rfl rfl (Zk rfl) ?_)))
         iterate 8 refine L_s rfl rfl rfl yB rfl ?_
         refine Z0 (.bool false) rfl rfl (Zl (b := (decide (n8 > (0 : Int)))) rfl (Gz yB rfl)) (Z0 (.bool false) rfl rfl (Tv rfl) (Jd fun bL lN hs => ?_));have hfr := hfr.ext hs;have lB := lB.ext hs;have mB := mB.ext hs;have nB := nB.ext hs;have n9 := n9.ext hs;have b884 := b884.ext hs;clear hs;refine Zb ?_;obtain rfl := sinj h;exact hQ _ _ ⟨bL, hfr, vE, lB, xE, mB, nB, rfl, rfl, b884, mE, n9, oE, aE, rfl⟩
       ·clear hx
        obtain ⟨dL, hfr, aI, bI, dI, iI, jI, kI, lI, mI, jG, kG, lG, mG, zE⟩ := hR;rcases Zt h with ⟨cF, h⟩ | ⟨cF, h⟩
        ·refine Ta (Eq.trans (show ev _ _ = .bool (nD) from zE) (congrArg Value.bool cF)) (Z5 (Zo kI rfl (Zg (.slice none 0 0) rfl rfl (Zg (Iz (n8)) rfl rfl (Zg (Iz (4)) rfl rfl (Z3 (Z9 (G2 (Gf (G2 (Gf (Gf (G2 (Gf ?_))))))))))))))
         obtain rfl := sinj h;exact Hc rfl rfl (rq (.slice none 0 0)) (rq (Iz (n8))) (rq (Iz (4))) ⟨_, hfr, _, _, _, rfl, Tp, rfl, rfl⟩
        ·refine G1 (Eq.trans (show ev _ _ = .bool (nD) from zE) (congrArg Value.bool cF)) ?_
         exact Zu (Th (Zd (cK () _ _ ⟨dL, hfr, aI, bI, dI, iI, jI, lI, mI, jG, kG, lG, mG⟩ h)))
     ·rintro _ kM mN ⟨yH, hfr, nI, oB, pI, zB, cC, qI, sI, yG, aB, zG, cH⟩ h
      refine Z5 (Z4 rfl (T8 (g := yH) isAgg63 sizeOf63 qI sI fun eL gL => ?_));obtain ⟨mH, oK, h⟩ := Z1 h;refine Z4 rfl (Zp (g := yH) (vs := [eL]) en90 (.cons rfl .nil) (wk90 gL oK) fun iL pM jL hs hr => ?_);have hfr := hfr.ext hs;have oB := oB.ext hs;have zB := zB.ext hs;have cC := cC.ext hs;have aB := aB.ext hs;have yF := hr;refine Z4 rfl (Td (g := iL) 2007 ((⟨List.toArray [0, 0, 0, 0, 0, 0, 0, 0], rfl⟩ : Vector UInt8 8) : Vector UInt8 8) zeroValue155 (fun m w => ⟨_, (Yu (Zv Ty (Zv Ty (Zv Ty (Zv Ty (Zv Ty (Zv Ty (Zv Ty (Zv Ty Ya)))))))) rfl), rfl⟩) fun lL nN aG hs b1162 cb => ?_);have hfr := hfr.stp hs;have oB := oB.stp hs;have zB := zB.stp hs;have cC := cC.stp hs rfl;have aB := aB.stp hs;have yF := yF.stp hs;clear cb;refine Z4 rfl (Gv (g := lL) (v := jL) sizeOf155 rfl b1162 rfl yF fun oN pN hs b1163 cb => ?_);clear cb;have hfr := hfr.stp hs;have oB := oB.stp hs;have zB := zB.stp hs;have cC := cC.stp hs rfl;have aB := aB.stp hs;obtain ⟨gp1163, hs, qp1163⟩ := OB.pub b1163;have hfr := hfr.stp hs;have oB := oB.stp hs;have zB := zB.stp hs;have cC := cC.stp hs rfl;have aB := aB.stp hs;refine Z3 (Za (Zo pI rfl ?_));obtain ⟨nH, cG, h⟩ := Z1 h;have mL := U7 (Mb (p := aG) qp1163) cG;refine Zx ((Kf (D6 aG 8) 0 (Int.toNat ((8 : Nat) : Int)) 1)) (D0 (p := aG) underlying155 sizeOf5 rfl qp1163 rfl cG) rfl ?_;obtain ⟨sF, pK, h⟩ := Z1 h;refine Z4 rfl (Qd (g := gp1163) (i := 1002) underlying50 Yq rfl rfl cC zB rfl mL pK fun nL qN zH hs o1166 oL _ => ?_);have hfr := hfr.stp hs;have oB := oB.stp hs;have aB := aB.stp hs;refine Zg zH rfl rfl ?_;exact Zb (Th (Zd (tK (sF) _ _ ⟨nL, (zH), hfr, nI, oB, rfl, oL, o1166, yG, aB, zG, cH⟩ h)))
    ·rintro iE qM rN ⟨xL, jJ, hfr, kJ, lJ, oJ, pJ, qJ, gH, jH, kH, lH⟩ h
     refine Za (Gd (Iz ((w64 (n8 + (1 : Int))))) lH rfl rfl rfl (Zn (Iz ((w64 (n8 + (1 : Int))))) rfl rfl ?_));exact Z3 (sK (iE, (w64 (n8 + (1 : Int)))) _ _ ⟨xL, (jJ), hfr, kJ, lJ, oJ, pJ, qJ, gH, jH, kH, rfl⟩ h)
   ·refine Gy vF rfl (Tu (G5 (G5 (Tf ?_))))
    exact Zd (qK (lD) _ _ ⟨gG, (oD), hfr, xE, mB, nB⟩ h)
  ·rintro eF rM sN ⟨tN, rF, hfr, rJ, sJ, eM⟩ h
   refine Z5 (Zo rJ rfl (Zg rF rfl rfl (Zg (Iz (0)) rfl rfl (Zg (Iz (0)) rfl rfl (Z3 (Z9 ?_))))));obtain rfl := sinj h;exact Hc rfl rfl (rq rF) (rq (Iz (0))) (rq (Iz (0))) ⟨_, hfr, _, _, _, rfl, sJ, rfl, rfl⟩
def f32 (x0 : List UInt8) : Option ((List Z2) × Int × Int) :=
 jn (σ := (List Z2) × Int × Int) (fun (pJ, qJ, rJ) =>
  jn (σ := (List Z2) × Int × Int) (fun (kG, nL, oL) =>
   some (kG, (0 : Int), (0 : Int))
   ) fun iM =>
  (f91 x0).bind fun lG =>
  (lG (Nat × (List Z2) × Int × Int) (Rm fun (n9, oE, rE) uH =>
   (f92 uH).bind fun oB =>
   Option.bind (α := Int) (
    Option.bind (α := Bool) (
     bif (oB.2 == (0 : Int)) then
      bif (decide (((n9).length : Int) > (0 : Int))) then
       (idx n9 (w64 (((n9).length : Int) - (1 : Int)))).bind fun tK =>
       (f89 tK (oB.1)).bind fun yE =>
       some ((decide (yE ≥ (0 : Int))))
      else
       some (false)
     else
      some (false)
     ) fun mE =>
    bif mE then
     some ((4 : Int))
    else
     some (oB.2)
    ) fun bE =>
   jn (σ := (List Z2) × Int × Int) (fun (yH, zH, aI) =>
    (apnd 40 yH (([oB.1] : List Z2))).bind fun sJ =>
    some (true, ((0 : Nat), (sJ, zH, aI)))
    ) fun uK =>
   bif (bE != (0 : Int)) then
    some (false, ((1 : Nat), ([], ((n9).length : Int), bE)))
   else
    uK (n9, oE, rE)
   ) (0, (pJ, qJ, rJ))).bind fun (zE, (cF, eF, rF)) =>
  bif Nat.beq zE 0 then
   iM (cF, eF, rF)
  else
   some (cF, eF, rF)
  ) fun dP =>
 bif (decide (((x0).length : Int) > (800 : Int))) then
  some ([], (0 : Int), (5 : Int))
 else
  (H3 ((x0).length : Int) (8 : Int)).bind fun lK =>
  bif (lK != (0 : Int)) then
   some ([], (0 : Int), (4 : Int))
  else
   dP (([] : List Z2), (0 : Int), (0 : Int))
theorem en32 : Enters prog 32 := enters_of func32 (by kernel_rfl) rfl
theorem wk32 {gI : Gh} {wI : World} {x0 : List UInt8} {up0 : Value} (rp0 : RV gI.m wI x0 up0) {r : (List Z2) × Int × Int} (h : f32 x0 = some r) : Fn prog 32 #[up0] gI wI (fun m w v => ∃ y0 y1 y2, v = .tuple #[y0, y1, y2] ∧ RV m w (r.1) y0 ∧ y1 = Iz (r.2.1) ∧ y2 = Iz (r.2.2)) := by
 unfold f32 at h;refine As func32 rfl (Nat.le_of_ble_eq_true rfl) fun g0 hm hfr => ?_;have hmk : MkF g0 wI [] := MkF.start;have rp0 := RVc hm rp0;show E _ 53 none _ _ _ _ _;refine Z5 (Z4 rfl (Td (g := g0) 2002 ([] : List Z2) zeroValue49 (fun m w => ⟨_, Q0, rfl⟩) fun g1 w1 p1 hs b1 cb => ?_));have hfr := hfr.stp hs;have hmk := hmk.stp hs;have rp0 := rp0.stp hs;have mH : OSF 2002 60200 0 g1 w1 63 49 ([] : List Z2) p1 := cb.osf (by rfl);clear cb;refine Z4 rfl (Td (g := g1) 2003 (0 : Int) zeroValue3 (fun m w => ⟨_, Zw, rfl⟩) fun g2 w2 p2 hs b2 cb => ?_);have hfr := hfr.stp hs;have hmk := hmk.stp hs;have rp0 := rp0.stp hs;have mH := mH.stp hs rfl;have b1 := b1.stp hs rfl;clear cb;refine Z4 rfl (Td (g := g2) 2004 (0 : Int) zeroValue27 (fun m w => ⟨_, Zw, rfl⟩) fun g3 w3 p3 hs b3 cb => ?_);have hfr := hfr.stp hs;have hmk := hmk.stp hs;have rp0 := rp0.stp hs;have mH := mH.stp hs rfl;have b1 := b1.stp hs rfl;have b2 := b2.stp hs rfl;clear cb;refine Z3 (R4 h (fun (s : (List Z2) × Int × Int) e ds w => ∃ (g : Gh) , Fr gI wI g w ∧ MkF g w ds ∧ e 0 = up0 ∧ RV g.m w (x0 : List UInt8) up0 ∧ e 2 = p1 ∧ OB 2002 g w 49 (s.1 : List Z2) p1 ∧ OSF 2002 60200 0 g w 63 49 (s.1) p1 ∧ e 3 = p2 ∧ OB 2003 g w 3 (s.2.1 : Int) p2 ∧ e 4 = p3 ∧ OB 2004 g w 27 (s.2.2 : Int) p3) (fun X21 dP iP h => ?_) ?_)
 ·refine Zr (Z5 (Zn up0 rfl rfl (Zx (Iz ((x0).length : Int)) (G3 underlying50 rfl rp0) rfl (Gd (.bool ((decide (((x0).length : Int) > (800 : Int))))) rfl rfl rfl rfl (Zg (.bool ((decide (((x0).length : Int) > (800 : Int))))) rfl rfl (Z3 ?_))))))
  rcases Zt h with ⟨oK, h⟩ | ⟨oK, h⟩
  ·refine Gx oK rfl (Z5 (Z4 rfl (Gv (g := g3) (v := .slice none 0 0) sizeOf49 rfl b1 rfl Tp fun eP iQ hs b23 cb => ?_)))
   have sQ : OSF 2002 60200 0 eP iQ 63 49 ([] : List Z2) p1 := cb.osfr (rfl) OS.nil;clear cb;have hfr := hfr.stp hs;have hmk := hmk.stp hs;have b2 := b2.stp hs rfl;have b3 := b3.stp hs rfl;refine Z4 rfl (Gv (g := eP) (v := Iz (0)) sizeOf3 rfl b2 rfl (Zj.2 rfl) fun jQ qS hs b24 cb => ?_);clear cb;have hfr := hfr.stp hs;have hmk := hmk.stp hs;have b23 := b23.stp hs rfl;have b3 := b3.stp hs rfl;refine Z4 rfl (Gv (g := jQ) (v := Iz (5)) sizeOf27 rfl b3 rfl (Zj.2 rfl) fun rS sS hs b25 cb => ?_);clear cb;have hfr := hfr.stp hs;have hmk := hmk.stp hs;have b23 := b23.stp hs rfl;have b24 := b24.stp hs rfl;refine Z3 (Z9 (G2 (Gf (Pe (.inr rfl) hmk fun tS uS hs => ?_))));have hfr := hfr.stp hs;have b23 := b23.stp hs rfl;have b24 := b24.stp hs rfl;have b25 := b25.stp hs rfl;obtain rfl := sinj h;obtain ⟨ad27, cv27, hp27, jP, cr27⟩ := Qy isAgg49 sizeOf49 b23;obtain ⟨ad28, cv28, hp28, kP, cr28⟩ := Qy isAgg3 sizeOf3 b24;obtain rfl := Zj.1 cr28;obtain ⟨ad29, cv29, hp29, lP, cr29⟩ := Qy isAgg27 sizeOf27 b25;obtain rfl := Zj.1 cr29;exact Vw rfl rfl ((rq p1).trans hp27) jP ((rq p2).trans hp28) kP ((rq p3).trans hp29) lP ⟨_, hfr, _, _, _, rfl, cr27, rfl, rfl⟩
  ·refine Gy oK rfl (Z5 (Zn up0 rfl rfl (Zx (Iz ((x0).length : Int)) (G3 underlying50 rfl rp0) rfl ?_)))
   obtain ⟨lK, sP, h⟩ := Z1 h;refine Zx (Iz (lK)) (Gp rfl rfl (congrArg (Option.map (Value.int .i64)) sP)) rfl (Gd (.bool ((lK != (0 : Int)))) rfl rfl rfl rfl (Zg (.bool ((lK != (0 : Int)))) rfl rfl (Z3 ?_)));rcases Zt h with ⟨pK, h⟩ | ⟨pK, h⟩
   ·refine Gx pK rfl (Z5 (Z4 rfl (Gv (g := g3) (v := .slice none 0 0) sizeOf49 rfl b1 rfl Tp fun gP kQ hs b32 cb => ?_)))
    have tQ : OSF 2002 60200 0 gP kQ 63 49 ([] : List Z2) p1 := cb.osfr (rfl) OS.nil;clear cb;have hfr := hfr.stp hs;have hmk := hmk.stp hs;have b2 := b2.stp hs rfl;have b3 := b3.stp hs rfl;refine Z4 rfl (Gv (g := gP) (v := Iz (0)) sizeOf3 rfl b2 rfl (Zj.2 rfl) fun lQ vS hs b33 cb => ?_);clear cb;have hfr := hfr.stp hs;have hmk := hmk.stp hs;have b32 := b32.stp hs rfl;have b3 := b3.stp hs rfl;refine Z4 rfl (Gv (g := lQ) (v := Iz (4)) sizeOf27 rfl b3 rfl (Zj.2 rfl) fun xS yS hs b34 cb => ?_);clear cb;have hfr := hfr.stp hs;have hmk := hmk.stp hs;have b32 := b32.stp hs rfl;have b33 := b33.stp hs rfl;refine Z3 (Z9 (G2 (Gf (Pe (.inr rfl) hmk fun zS eT hs => ?_))));have hfr := hfr.stp hs;have b32 := b32.stp hs rfl;have b33 := b33.stp hs rfl;have b34 := b34.stp hs rfl;obtain rfl := sinj h;obtain ⟨ad36, cv36, hp36, tP, cr36⟩ := Qy isAgg49 sizeOf49 b32;obtain ⟨ad37, cv37, hp37, uP, cr37⟩ := Qy isAgg3 sizeOf3 b33;obtain rfl := Zj.1 cr37;obtain ⟨ad38, cv38, hp38, vP, cr38⟩ := Qy isAgg27 sizeOf27 b34;obtain rfl := Zj.1 cr38;exact Vw rfl rfl ((rq p1).trans hp36) tP ((rq p2).trans hp37) uP ((rq p3).trans hp38) vP ⟨_, hfr, _, _, _, rfl, cr36, rfl, rfl⟩
   ·refine Gy pK rfl ?_
    exact Zu (Th (Zd (iP (([] : List Z2), (0 : Int), (0 : Int)) _ _ _ ⟨g3, hfr, hmk, rfl, rp0, rfl, b1, mH, rfl, b2, rfl, b3⟩ h)))
 ·rintro ⟨pJ, qJ, rJ⟩ oS eG lT ⟨mQ, hfr, hmk, qN, rN, aE, vJ, u2_0_39, gG, xJ, iG, zJ⟩ h
  refine R4 h (fun (s : (List Z2) × Int × Int) e ds w => ∃ (g : Gh) , Fr gI wI g w ∧ MkF g w ds ∧ e 2 = p1 ∧ OB 2002 g w 49 (s.1 : List Z2) p1 ∧ OSF 2002 60200 0 g w 63 49 (s.1) p1 ∧ e 3 = p2 ∧ OB 2003 g w 3 (s.2.1 : Int) p2 ∧ e 4 = p3 ∧ OB 2004 g w 27 (s.2.2 : Int) p3) (fun X969 iM sN h => ?_) ?_
  ·refine Z5 (Zo qN rfl ?_)
   obtain ⟨lG, tN, h⟩ := Z1 h;refine Z4 rfl (Zp (g := mQ) (vs := [up0]) en91 (.cons rfl .nil) (wk91 rN tN) fun pS uQ bG hs hr => ?_);have hfr := hfr.ext hs;have hmk := hmk.ext hs;have u2_0_39 := u2_0_39.ext hs;have vJ := vJ.ext hs;have xJ := xJ.ext hs;have zJ := zJ.ext hs;have jM := hr;refine Z3 (Zr ?_);have hB0 := hfr.size;have hmk0 := hmk;obtain ⟨⟨zE, ⟨cF, eF, rF⟩⟩, hφ, h⟩ := Z1 h;refine Xk (σ := (Nat × (List Z2) × Int × Int)) (s0 := (0, (pJ, qJ, rJ))) 10 rfl (fun s => s.1) [.ret] (fun (s : Nat × (List Z2) × Int × Int) (g : Gh) (w : World) => Fr gI wI g w ∧ MkF g w eG ∧ OB 2002 g w 49 (s.2.1 : List Z2) p1 ∧ OSF 2002 60200 0 g w 63 49 (s.2.1) p1 ∧ OB 2003 g w 3 (s.2.2.1 : Int) p2 ∧ OB 2004 g w 27 (s.2.2.2 : Int) p3 ∧ ItV prog (RA1 (α := (Vector UInt8 8))) lG bG g.m w) rfl jM hφ (fun _ _ _ h => (Vp h).1) rfl Rv rfl (fun _ _ _ _ _ hx hR => by obtain ⟨hfr, hmk, z2, z3, z4, z5, z6⟩ := hR; exact ⟨hfr.ist hx hB0, hmk.ist hx, z2.ist hx, z3.ist hx, z4.ist hx, z5.ist hx, z6.ist hx⟩) (fun _ _ _ _ _ hx hR => by obtain ⟨hfr, hmk, z2, z3, z4, z5, z6⟩ := hR; exact ⟨hfr.stp hx, hmk.stp hx, z2.stp hx rfl, z3.stp hx rfl, z4.stp hx rfl, z5.stp hx rfl, z6.stp hx⟩) ⟨hfr, hmk, vJ, u2_0_39, xJ, zJ, jM⟩ (fun _ h => by cases h) ?_ ?_
   ·intro nH mG s x b s2 jG lH vs hsz h hR hrec_0 qK hrd
    obtain ⟨hs0, h⟩ := Vp h;obtain ⟨st, ⟨n9, oE, rE⟩⟩ := s;obtain ⟨hfr, hmk, lB, u2_0_1432, mB, nB, aB⟩ := hR;obtain ⟨uH, hxe⟩ : ∃ y, y = x := ⟨x, rfl⟩;subst hxe;obtain ⟨xL, rfl, cG⟩ := Lo hrd;have n8 := RFr.refl jG lH;refine Za (Z4 rfl (Td (g := jG) 2005 ((⟨List.toArray [0, 0, 0, 0, 0, 0, 0, 0], rfl⟩ : Vector UInt8 8) : Vector UInt8 8) zeroValue155 (fun m w => ⟨_, (Yu (Zv Ty (Zv Ty (Zv Ty (Zv Ty (Zv Ty (Zv Ty (Zv Ty (Zv Ty Ya)))))))) rfl), rfl⟩) fun uN vQ xQ hs b1433 cb => ?_));have hfr := hfr.stp hs;have hmk := hmk.stp hs;have n8 := n8.stp hs;have hrec_0 := hrec_0.stp hs rfl;have u2_0_1432 := u2_0_1432.stp hs rfl;have lB := lB.stp hs rfl;have mB := mB.stp hs rfl;have nB := nB.stp hs rfl;have aB := aB.stp hs;have cG := cG.stp hs;clear cb;refine Z4 rfl (Gv (g := uN) (v := xL) sizeOf155 rfl b1433 rfl cG fun vK yQ hs b1434 cb => ?_);clear cb;have hfr := hfr.stp hs;have hmk := hmk.stp hs;have n8 := n8.stp hs;have hrec_0 := hrec_0.stp hs rfl;have u2_0_1432 := u2_0_1432.stp hs rfl;have lB := lB.stp hs rfl;have mB := mB.stp hs rfl;have nB := nB.stp hs rfl;have aB := aB.stp hs;refine Z3 ?_;obtain ⟨vN, hbr, hs, hrN⟩ := Xq hrec_0 qK;refine ⟨vN, hbr, ?_⟩;have hfr := hfr.stp hs;have hmk := hmk.stp hs;have n8 := n8.stp hs;have u2_0_1432 := u2_0_1432.stp hs rfl;have lB := lB.stp hs rfl;have mB := mB.stp hs rfl;have nB := nB.stp hs rfl;have aB := aB.stp hs;have b1434 := b1434.stp hs rfl;have hrec_0 := hrN;clear hbr hs hrN;refine Zr (Z5 (Z4 rfl (T8 (g := vK) isAgg155 sizeOf155 rfl b1434 fun xN yN => ?_)));obtain ⟨oB, kM, h⟩ := Z1 h;refine Z4 rfl (Zp (g := vK) (vs := [xN]) en92 (.cons rfl .nil) (wk92 yN kM) fun zN nQ zQ hs hr => ?_);have hfr := hfr.ext hs;have hmk := hmk.ext hs;have n8 := n8.ext hs;have hrec_0 := hrec_0.ext hs;have u2_0_1432 := u2_0_1432.ext hs;have lB := lB.ext hs;have mB := mB.ext hs;have nB := nB.ext hs;have aB := aB.ext hs;obtain ⟨yG, zP, rfl, zG, rfl⟩ := hr;refine Zn (.tuple #[yG, Iz (oB.2)]) rfl rfl (Zx yG (Zi rfl rfl) rfl (Zx (Iz (oB.2)) (Zi rfl rfl) rfl (Z4 rfl (Td (g := zN) 2006 (⟨0, 0, 0, 0, 0⟩ : Z2) zeroValue63 (fun m w => ⟨_, (Gk Zw (Gk Zw (Gk Zw (Gk Zw Zw)))), rfl⟩) fun aO aR sF hs b1439 cb => ?_))));have hfr := hfr.stp hs;have hmk := hmk.stp hs;have n8 := n8.stp hs;have hrec_0 := hrec_0.stp hs rfl;have u2_0_1432 := u2_0_1432.stp hs rfl;have lB := lB.stp hs rfl;have mB := mB.stp hs rfl;have nB := nB.stp hs rfl;have aB := aB.stp hs;have zG := zG.stp hs;clear cb;refine Z4 rfl (Gv (g := aO) (v := yG) sizeOf63 rfl b1439 rfl zG fun aK dR hs b1440 cb => ?_);clear cb;have hfr := hfr.stp hs;have hmk := hmk.stp hs;have n8 := n8.stp hs;have hrec_0 := hrec_0.stp hs rfl;have u2_0_1432 := u2_0_1432.stp hs rfl;have lB := lB.stp hs rfl;have mB := mB.stp hs rfl;have nB := nB.stp hs rfl;have aB := aB.stp hs;refine Zg (Iz (oB.2)) rfl rfl (Z3 ?_);obtain ⟨bE, hx, h⟩ := Z1 h;refine G6 (fun e w => ∃ (g : Gh) , Fr gI wI g w ∧ MkF g w eG ∧ RFr jG lH g w ∧ HB 10 g w nH (.loop { mG with state := .busy }) ∧ e 2 = p1 ∧ OB 2002 g w 49 (n9 : List Z2) p1 ∧ OSF 2002 60200 0 g w 63 49 (n9) p1 ∧ e 3 = p2 ∧ OB 2003 g w 3 (oE : Int) p2 ∧ e 4 = p3 ∧ OB 2004 g w 27 (rE : Int) p3 ∧ e 6 = sF ∧ OB 2006 g w 63 (oB.1 : Z2) sF ∧ e 7 = Iz (bE) ∧ e 18 = bG ∧ ItV prog (RA1 (α := (Vector UInt8 8))) lG bG g.m w) (fun Q' hQ => ?_) (fun oQ eR hR => ?_)
    ·replace h := hx
     clear hx;obtain ⟨mE, hx, h⟩ := Z1 h;refine G6 (fun e w => ∃ (g : Gh) , Fr gI wI g w ∧ MkF g w eG ∧ RFr jG lH g w ∧ HB 10 g w nH (.loop { mG with state := .busy }) ∧ e 2 = p1 ∧ OB 2002 g w 49 (n9 : List Z2) p1 ∧ OSF 2002 60200 0 g w 63 49 (n9) p1 ∧ e 3 = p2 ∧ OB 2003 g w 3 (oE : Int) p2 ∧ e 4 = p3 ∧ OB 2004 g w 27 (rE : Int) p3 ∧ e 6 = sF ∧ OB 2006 g w 63 (oB.1 : Z2) sF ∧ e 7 = Iz (oB.2) ∧ e 18 = bG ∧ ItV prog (RA1 (α := (Vector UInt8 8))) lG bG g.m w ∧ e 42 = .bool (mE)) (fun Q' hQ => ?_) (fun pQ gR hR => ?_)
     ·replace h := hx
      clear hx;rcases Zt h with ⟨zB, h⟩ | ⟨zB, h⟩
      ·refine D1 (x := .tmp 2) isAgg49 sizeOf49 lB u2_0_1432 fun xK yK o1765 mK => ?_
       rcases Zt h with ⟨yB, h⟩ | ⟨yB, h⟩
       ·refine D1 (x := .tmp 2) isAgg49 sizeOf49 lB u2_0_1432 fun zK aL o1767 pM => (D1 (x := .tmp 2) isAgg49 sizeOf49 lB u2_0_1432 fun bO cO o1768 qM => ?_)
        obtain ⟨tK, nK, h⟩ := Z1 h;have dO := Gn aL nK;refine Zs (x := .tmp 37) isAgg63 sizeOf63 dO fun bL eO rM => (H4 (x := .tmp 6) isAgg63 sizeOf63 b1440 fun dL gO eN => ?_);obtain ⟨yE, gN, h⟩ := Z1 h;refine T6 (g := aK) (n := 18) [(15, (fun v g w => v = Iz (yE)))] [0, 1, 2, 3, 4, 5, 6, 7, 8, 9, 10, 11, 12, 13, 14, 15, 16, 17] rfl mixed (by kernel_rfl) (⟨fun _ => Ha _, trivial⟩) (Z0 (Iz (oB.2)) rfl rfl (Zk rfl) (Z0 (.bool ((oB.2 == (0 : Int)))) rfl rfl (Gp rfl rfl rfl) (Z0 (.bool ((oB.2 == (0 : Int)))) rfl rfl (Zk rfl) (Ti (c := xK) rfl rfl (.yes2 rfl rfl zB) (fun _ _ h => ⟨h.ch, fun b hb _ => h.below.block b hb⟩) mK aE (L_y (Iz ((n9).length : Int)) rfl rfl rfl rfl zB (G3 underlying49 rfl yK) (L_y (.bool ((decide (((n9).length : Int) > (0 : Int))))) rfl rfl rfl rfl zB (Gp rfl rfl rfl) (Z0 (.bool ((decide (((n9).length : Int) > (0 : Int))))) rfl rfl (Zl (b := (oB.2 == (0 : Int))) rfl (Tc zB rfl)) (Z0 (.bool ((decide (((n9).length : Int) > (0 : Int))))) rfl rfl (Zk rfl) (Ti (c := zK) rfl rfl (.yes2 rfl rfl yB) (fun _ _ h => ⟨h.ch, fun b hb _ => h.below.block b hb⟩) pM aE (Ti (c := bO) rfl rfl (.yes2 rfl rfl yB) (fun _ _ h => ⟨h.ch, fun b hb _ => h.below.block b hb⟩) qM aE (L_y (Iz ((n9).length : Int)) rfl rfl rfl rfl yB (G3 underlying49 rfl cO) (L_y (Iz ((w64 (((n9).length : Int) - (1 : Int))))) rfl rfl rfl rfl yB (Gp rfl rfl rfl) (L_y (Gq zK (w64 (((n9).length : Int) - (1 : Int))) 5) rfl rfl rfl rfl yB (Zh (α := Z2) underlying49 sizeOf63 rfl aL rfl nK) (Ti (c := bL) rfl rfl (.yes2 rfl rfl yB) (fun _ _ h => h.ch) rM rfl (Ti (c := dL) rfl rfl (.yes2 rfl rfl yB) (fun _ _ h => ⟨h.ch, fun b hb _ => h.below.block b hb⟩) eN rfl (Hn (φ := fun v g w => v = Iz (yE)) rfl rfl (.yes2 rfl rfl yB) (fun g w hd => Zp (g := g) (vs := [bL, dL]) en89 (.cons rfl (.cons rfl .nil)) (wk89 (eO.ext hd.1) (gO.ext hd.1) gN) fun g' w' v hs hr => ⟨g', hs, hr⟩) (fun iR hv => ?_)))))))))))))))));obtain ⟨_, _, _, rfl⟩ := hv;refine L_y (.bool ((decide (yE ≥ (0 : Int))))) rfl rfl rfl rfl yB (Gp rfl rfl rfl) (Z0 (.bool ((decide (yE ≥ (0 : Int))))) rfl rfl (Zl (b := (decide (((n9).length : Int) > (0 : Int)))) rfl (Tc yB rfl)) (Jd fun jO jR hs => ?_));have hfr := hfr.ext hs;have hmk := hmk.ext hs;have n8 := n8.ext hs;have hrec_0 := hrec_0.ext hs;have u2_0_1432 := u2_0_1432.ext hs;have lB := lB.ext hs;have mB := mB.ext hs;have nB := nB.ext hs;have aB := aB.ext hs;have b1440 := b1440.ext hs;clear hs;refine Zb ?_;obtain rfl := sinj h;exact hQ _ _ ⟨jO, hfr, hmk, n8, hrec_0, aE, lB, u2_0_1432, gG, mB, iG, nB, rfl, b1440, rfl, rfl, aB, rfl⟩
       ·refine T6 (g := aK) (n := 18) [] [0, 1, 2, 3, 4, 5, 6, 7, 8, 9, 10, 11, 12, 13, 14, 15, 16, 17] rfl mixed (by kernel_rfl) trivial (Z0 (Iz (oB.2)) rfl rfl (Zk rfl) (Z0 (.bool ((oB.2 == (0 : Int)))) rfl rfl (Gp rfl rfl rfl) (Z0 (.bool ((oB.2 == (0 : Int)))) rfl rfl (Zk rfl) (Ti (c := xK) rfl rfl (.yes2 rfl rfl zB) (fun _ _ h => ⟨h.ch, fun b hb _ => h.below.block b hb⟩) mK aE (L_y (Iz ((n9).length : Int)) rfl rfl rfl rfl zB (G3 underlying49 rfl yK) (L_y (.bool ((decide (((n9).length : Int) > (0 : Int))))) rfl rfl rfl rfl zB (Gp rfl rfl rfl) (Z0 (.bool ((decide (((n9).length : Int) > (0 : Int))))) rfl rfl (Zl (b := (oB.2 == (0 : Int))) rfl (Tc zB rfl)) (Z0 (.bool ((decide (((n9).length : Int) > (0 : Int))))) rfl rfl (Zk rfl) ?_))))))))
        iterate 9 refine L_s rfl rfl rfl yB rfl ?_
        refine Z0 (.bool false) rfl rfl (Zl (b := (decide (((n9).length : Int) > (0 : Int)))) rfl (Gz yB rfl)) (Jd fun kO lR hs => ?_);have hfr := hfr.ext hs;have hmk := hmk.ext hs;have n8 := n8.ext hs;have hrec_0 := hrec_0.ext hs;have u2_0_1432 := u2_0_1432.ext hs;have lB := lB.ext hs;have mB := mB.ext hs;have nB := nB.ext hs;have aB := aB.ext hs;have b1440 := b1440.ext hs;clear hs;refine Zb ?_;obtain rfl := sinj h;exact hQ _ _ ⟨kO, hfr, hmk, n8, hrec_0, aE, lB, u2_0_1432, gG, mB, iG, nB, rfl, b1440, rfl, rfl, aB, rfl⟩
      ·refine T6 (g := aK) (n := 18) [] [0, 1, 2, 3, 4, 5, 6, 7, 8, 9, 10, 11, 12, 13, 14, 15, 16, 17] rfl mixed (by kernel_rfl) trivial (Z0 (Iz (oB.2)) rfl rfl (Zk rfl) (Z0 (.bool ((oB.2 == (0 : Int)))) rfl rfl (Gp rfl rfl rfl) (Z0 (.bool ((oB.2 == (0 : Int)))) rfl rfl (Zk rfl) ?_)))
       iterate 3 refine L_s rfl rfl rfl zB rfl ?_
       refine Z0 (.bool false) rfl rfl (Zl (b := (oB.2 == (0 : Int))) rfl (Gz zB rfl)) (Aq (fun _ => rfl) 11 rfl (Jd fun lO mR hs => ?_));have hfr := hfr.ext hs;have hmk := hmk.ext hs;have n8 := n8.ext hs;have hrec_0 := hrec_0.ext hs;have u2_0_1432 := u2_0_1432.ext hs;have lB := lB.ext hs;have mB := mB.ext hs;have nB := nB.ext hs;have aB := aB.ext hs;have b1440 := b1440.ext hs;clear hs;refine Zb ?_;obtain rfl := sinj h;exact hQ _ _ ⟨lO, hfr, hmk, n8, hrec_0, aE, lB, u2_0_1432, gG, mB, iG, nB, rfl, b1440, rfl, rfl, aB, rfl⟩
     ·clear hx
      obtain ⟨eL, hfr, hmk, n8, hrec_0, bI, dI, u2_0_1871, iI, jI, kI, lI, mI, nI, yL, oH, pH, qH⟩ := hR;rcases Zt h with ⟨sH, h⟩ | ⟨sH, h⟩
      ·refine Ta (Eq.trans (show ev _ _ = .bool (mE) from qH) (congrArg Value.bool sH)) (Za (Zg (Iz (4)) rfl rfl (Zb ?_)))
       obtain rfl := sinj h;exact hQ _ _ ⟨eL, hfr, hmk, n8, hrec_0, bI, dI, u2_0_1871, iI, jI, kI, lI, mI, nI, rfl, oH, pH⟩
      ·refine G1 (Eq.trans (show ev _ _ = .bool (mE) from qH) (congrArg Value.bool sH)) (Zu ?_)
       obtain rfl := sinj h;exact hQ _ _ ⟨eL, hfr, hmk, n8, hrec_0, bI, dI, u2_0_1871, iI, jI, kI, lI, mI, nI, yL, oH, pH⟩
    ·clear hx
     obtain ⟨bK, hfr, hmk, n8, hrec_0, cH, gH, u2_0_1873, pI, vF, qI, iE, zL, aM, sI, sK, cC⟩ := hR;refine Zq h (fun (s : (List Z2) × Int × Int) e w => ∃ (g : Gh) , Fr gI wI g w ∧ MkF g w eG ∧ RFr jG lH g w ∧ HB 10 g w nH (.loop { mG with state := .busy }) ∧ e 2 = p1 ∧ OB 2002 g w 49 (s.1 : List Z2) p1 ∧ OSF 2002 60200 0 g w 63 49 (s.1) p1 ∧ e 3 = p2 ∧ OB 2003 g w 3 (s.2.1 : Int) p2 ∧ e 4 = p3 ∧ OB 2004 g w 27 (s.2.2 : Int) p3 ∧ e 6 = sF ∧ OB 2006 g w 63 (oB.1 : Z2) sF ∧ e 18 = bG ∧ ItV prog (RA1 (α := (Vector UInt8 8))) lG bG g.m w) (fun X1879 uK iN h => ?_) ?_
     ·refine Z5 (Zo sI rfl (Gd (.bool ((bE != (0 : Int)))) rfl rfl rfl rfl (Z3 ?_)))
      rcases Zt h with ⟨tH, h⟩ | ⟨tH, h⟩
      ·refine Gx tH rfl (Z5 (Z4 rfl (D9 (g := bK) isAgg49 sizeOf49 cH gH u2_0_1873 fun nR mO o1881 => (Zx (Iz ((n9).length : Int)) (G3 underlying49 rfl mO) rfl (Zo sI rfl (Z4 rfl (Gv (g := bK) (v := .slice none 0 0) sizeOf49 cH gH rfl Tp fun gL nO hs b1882 cb => ?_)))))))
       have vE : OSF 2002 60200 0 gL nO 63 49 ([] : List Z2) p1 := cb.osfr (rfl) OS.nil;clear cb;have hfr := hfr.stp hs;have hmk := hmk.stp hs;have n8 := n8.stp hs;have hrec_0 := hrec_0.stp hs rfl;have vF := vF.stp hs rfl;have iE := iE.stp hs rfl;have cC := cC.stp hs;refine Z4 rfl (Gv (g := gL) (v := Iz ((n9).length : Int)) sizeOf3 pI vF rfl (Zj.2 rfl) fun oO pR hs b1883 cb => ?_);clear cb;have hfr := hfr.stp hs;have hmk := hmk.stp hs;have n8 := n8.stp hs;have hrec_0 := hrec_0.stp hs rfl;have vE := vE.stp hs rfl;have b1882 := b1882.stp hs rfl;have iE := iE.stp hs rfl;have cC := cC.stp hs;refine Z4 rfl (Gv (g := oO) (v := Iz (bE)) sizeOf27 qI iE rfl (Zj.2 rfl) fun qR tR hs b1884 cb => ?_);clear cb;have hfr := hfr.stp hs;have hmk := hmk.stp hs;have n8 := n8.stp hs;have hrec_0 := hrec_0.stp hs rfl;have vE := vE.stp hs rfl;have b1882 := b1882.stp hs rfl;have b1883 := b1883.stp hs rfl;have cC := cC.stp hs;refine Z3 (Z9 (Gf (G2 ?_)));obtain ⟨rfl, rfl⟩ := Jb h;exact ⟨_, n8, ⟨hfr, hmk, b1882, vE, b1883, b1884, cC⟩, hrec_0, rfl, 0, rfl, rfl⟩
      ·refine Gy tH rfl ?_
       exact Zu (Zd (iN (n9, oE, rE) _ _ ⟨bK, hfr, hmk, n8, hrec_0, cH, gH, u2_0_1873, pI, vF, qI, iE, zL, aM, sK, cC⟩ h))
     ·rintro ⟨yH, zH, aI⟩ qQ uR ⟨cK, hfr, hmk, n8, hrec_0, jJ, lE, u2_0_1885, bQ, nD, cQ, oD, cM, dM, xP, lD⟩ h
      refine Za (Z4 rfl (D9 (g := cK) isAgg49 sizeOf49 jJ lE u2_0_1885 fun xR dK o1886 => (Z4 rfl (T8 (g := cK) isAgg63 sizeOf63 cM dM fun pO qO => (Z4 rfl (Ga (g := cK) 3050 (xs := ([oB.1] : List Z2)) (vs := [pO]) underlying49 sizeOf63 zeroValue63 rfl rfl (.cons rfl .nil) (RVs.cons qO RVs.nil) rfl rfl fun rO yR zR hs o1888 sO hxt hfl => ?_))))));have hfr := hfr.stp hs;have hmk := hmk.stp hs;have n8 := n8.stp hs;have hrec_0 := hrec_0.stp hs rfl;have lE := lE.stp hs rfl;have nD := nD.stp hs rfl;have oD := oD.stp hs rfl;have lD := lD.stp hs;have dK := dK.stp hs;have o1886 := o1886.stp hs rfl;obtain ⟨sJ, jN, h⟩ := Z1 h;refine Z4 rfl (Qd (g := rO) (i := 60200) underlying49 V1 rfl rfl o1886 dK rfl sO jN fun tO aS uO hs o1889 iL _ => ?_);have hfr := hfr.stp hs;have hmk := hmk.stp hs;have n8 := n8.stp hs;have hrec_0 := hrec_0.stp hs rfl;have lE := lE.stp hs rfl;have nD := nD.stp hs rfl;have oD := oD.stp hs rfl;have lD := lD.stp hs;refine Z4 rfl (Gv (g := tO) (v := uO) sizeOf49 jJ lE rfl iL fun vO xO hs b1891 cb => ?_);have eM : OSF 2002 60200 0 vO xO 63 49 (sJ : List Z2) p1 := cb.osfr (Ul iL) (o1889.stp hs rfl);clear cb;have hfr := hfr.stp hs;have hmk := hmk.stp hs;have n8 := n8.stp hs;have hrec_0 := hrec_0.stp hs rfl;have nD := nD.stp hs rfl;have oD := oD.stp hs rfl;have lD := lD.stp hs;refine Zb (Th ?_);obtain ⟨rfl, rfl⟩ := Jb h;exact ⟨_, n8, ⟨hfr, hmk, b1891, eM, nD, oD, lD⟩, hrec_0, rfl, rfl⟩
   ·intro yO cS ds1893 hsz hR hds
    obtain ⟨hfr, hmk, xF, u2_0_1893, yF, aG, yP⟩ := hR;obtain ⟨D, hdse, hD, hDb⟩ := hds.1 rfl;subst hdse;replace hmk := MkF.push hmk0 hmk hD hDb;clear hD hDb hds;revert hmk;generalize ({ target := .collected D, args := #[] } :: eG : List Deferred) = dQ;intro hmk;refine ⟨fun hs => ?_, fun k c hs hc => ?_⟩
    ·have hs : zE = 0 := hs
     subst hs;replace h := Ao h rfl;exact Th (Zd (sN (cF, eF, rF) _ _ _ ⟨yO, hfr, hmk, aE, xF, u2_0_1893, gG, yF, iG, aG⟩ h))
    ·have hs : zE = k + 1 := hs
     match k, hs, hc with
     | 0, hs, hc =>
      subst hs;obtain rfl := sinj hc;replace h := Pt h rfl;refine Z9 (G2 (Gf (Pe (.inr rfl) hmk fun dS eS hs => ?_)));have hfr := hfr.stp hs;have xF := xF.stp hs rfl;have yF := yF.stp hs rfl;have aG := aG.stp hs rfl;obtain rfl := sinj h;obtain ⟨ad1895, cv1895, hp1895, kN, cr1895⟩ := Qy isAgg49 sizeOf49 xF;obtain ⟨ad1896, cv1896, hp1896, lN, cr1896⟩ := Qy isAgg3 sizeOf3 yF;obtain rfl := Zj.1 cr1896;obtain ⟨ad1897, cv1897, hp1897, mN, cr1897⟩ := Qy isAgg27 sizeOf27 aG;obtain rfl := Zj.1 cr1897;exact Vw rfl rfl ((show _ = p1 from aE).trans hp1895) kN ((show _ = p2 from gG).trans hp1896) lN ((show _ = p3 from iG).trans hp1897) mN ⟨_, hfr, _, _, _, rfl, cr1895, rfl, rfl⟩
     | n + 1, _, hc => exact absurd hc (by simp)
  ·rintro ⟨kG, nL, oL⟩ rQ eQ gS ⟨jL, hfr, hmk, jH, kJ, u2_0_1898, lJ, kH, oJ, xE⟩ h
   refine Z5 (Z4 rfl (D9 (g := jL) isAgg49 sizeOf49 jH kJ u2_0_1898 fun zO lL o1899 => (Z4 rfl (Gv (g := jL) (v := zO) sizeOf49 jH kJ rfl lL fun mL aP hs b1900 cb => ?_))));have gQ : OSF 2002 60200 0 mL aP 63 49 (kG : List Z2) p1 := cb.osfr (Ul lL) (o1899.stp hs rfl);clear cb;have hfr := hfr.stp hs;have hmk := hmk.stp hs;have kH := kH.stp hs rfl;have xE := xE.stp hs rfl;refine Z4 rfl (Gv (g := mL) (v := Iz (0)) sizeOf3 lJ kH rfl (Zj.2 rfl) fun cP iS hs b1901 cb => ?_);clear cb;have hfr := hfr.stp hs;have hmk := hmk.stp hs;have b1900 := b1900.stp hs rfl;have xE := xE.stp hs rfl;refine Z4 rfl (Gv (g := cP) (v := Iz (0)) sizeOf27 oJ xE rfl (Zj.2 rfl) fun jS lS hs b1902 cb => ?_);clear cb;have hfr := hfr.stp hs;have hmk := hmk.stp hs;have b1900 := b1900.stp hs rfl;have b1901 := b1901.stp hs rfl;refine Z3 (Z9 (Pe (.inr rfl) hmk fun mS nS hs => ?_));have hfr := hfr.stp hs;have b1900 := b1900.stp hs rfl;have b1901 := b1901.stp hs rfl;have b1902 := b1902.stp hs rfl;obtain rfl := sinj h;obtain ⟨ad1904, cv1904, hp1904, nN, cr1904⟩ := Qy isAgg49 sizeOf49 b1900;obtain ⟨ad1905, cv1905, hp1905, oN, cr1905⟩ := Qy isAgg3 sizeOf3 b1901;obtain rfl := Zj.1 cr1905;obtain ⟨ad1906, cv1906, hp1906, pN, cr1906⟩ := Qy isAgg27 sizeOf27 b1902;obtain rfl := Zj.1 cr1906;exact Vw rfl rfl ((show _ = p1 from jH).trans hp1904) nN ((show _ = p2 from lJ).trans hp1905) oN ((show _ = p3 from oJ).trans hp1906) pN ⟨_, hfr, _, _, _, rfl, cr1904, rfl, rfl⟩
def f37 (x0 : List UInt8) : Option ((List Z2) × Int) :=
 jn (σ := Unit) (fun _ =>
  (St 8 x0).bind fun y5 =>
  jn (σ := Unit) (fun _ =>
   Option.bind (α := (List Z2)) (
    lp (σ := (List Z2) × Int) (fun mG (iE, n9) =>
     bif (decide (n9 < (8 : Int))) then
      Option.bind (α := (List Z2)) (
       lp (σ := (List Z2) × Int) (fun yG (lD, mB) =>
        bif (decide (mB < (256 : Int))) then
         Option.bind (α := (List Z2)) (
          (idx (y5).toList n9).bind fun oJ =>
          (f92 ((At y5 n9 ((u8w mB))))).bind fun oB =>
          bif (oB.2 == (0 : Int)) then
           (apnd 40 lD (([oB.1] : List Z2))).bind fun zG =>
           some (zG)
          else
           some (lD)
          ) fun yB =>
         yG (yB, (w64 (mB + (1 : Int))))
        else
         some (lD)
        ) big (iE, (0 : Int))
       ) fun zB =>
      mG (zB, (w64 (n9 + (1 : Int))))
     else
      some (iE)
     ) big ([], (0 : Int))
    ) fun nD =>
   some (nD, (0 : Int))
   ) fun lJ =>
  (f92 y5).bind fun lE =>
  bif (lE.2 == (0 : Int)) then
   some ([], (6 : Int))
  else
   lJ ()
  ) fun k2 =>
 bif (((x0).length : Int) != (8 : Int)) then
  some ([], (4 : Int))
 else
  k2 ()
theorem en37 : Enters prog 37 := enters_of func37 (by kernel_rfl) rfl
theorem wk37 {gI : Gh} {wI : World} {x0 : List UInt8} {up0 : Value} (rp0 : RV gI.m wI x0 up0) {r : (List Z2) × Int} (h : f37 x0 = some r) : Fn prog 37 #[up0] gI wI (fun m w v => ∃ y0 y1, v = .tuple #[y0, y1] ∧ RV m w (r.1) y0 ∧ y1 = Iz (r.2)) := by
 unfold f37 at h;refine fnE func37 rfl rfl fun g0 hm hfr => ?_;have rp0 := RVc hm rp0;show E _ 50 none _ _ _ _ _;refine Z5 (Zg (.slice none 0 0) rfl rfl (Zg (Iz (0)) rfl rfl (Z3 (Zq h (fun (s : Unit) e w => ∃ (g : Gh) , Fr gI wI g w ∧ e 0 = up0 ∧ RV g.m w (x0 : List UInt8) up0 ∧ e 2 = .slice none 0 0 ∧ RV g.m w ([] : List Z2) (Value.slice none 0 0)) (fun X2 k2 hk2 h => ?_) ?_))))
 ·refine Z5 (Zn up0 rfl rfl (Zx (Iz ((x0).length : Int)) (G3 underlying50 rfl rp0) rfl (Gd (.bool ((((x0).length : Int) != (8 : Int)))) rfl rfl rfl rfl (Z3 ?_))))
  rcases Zt h with ⟨hc3, h⟩ | ⟨hc3, h⟩
  ·refine Gx hc3 rfl (Z5 (Zg (.slice none 0 0) rfl rfl (Zg (Iz (4)) rfl rfl (Z3 (Z9 (Gf ?_))))))
   obtain rfl := sinj h;exact J4 rfl rfl (rq (.slice none 0 0)) (rq (Iz (4))) ⟨_, hfr, _, _, rfl, Tp, rfl⟩
  ·refine Gy hc3 rfl ?_
   exact Zu (Zd (hk2 () _ _ ⟨g0, hfr, rfl, rp0, rfl, Tp⟩ h))
 ·rintro _ lN w4 ⟨g4, hfr, pJ, cH, qJ, nB⟩ h
  refine Z5 (Zo pJ rfl ?_);obtain ⟨y5, hy5, h⟩ := Z1 h;have q6 := Cs cH hy5;refine Zx ((Ag up0)) (F8 underlying155 rfl cH hy5) rfl (Z4 rfl (Z7 (g := g4) isAgg155 sizeOf155 rfl q6 fun v7 r7 => (Z4 rfl (Td (g := g4) 2004 ((⟨List.toArray [0, 0, 0, 0, 0, 0, 0, 0], rfl⟩ : Vector UInt8 8) : Vector UInt8 8) zeroValue155 (fun m w => ⟨_, (Yu (Zv Ty (Zv Ty (Zv Ty (Zv Ty (Zv Ty (Zv Ty (Zv Ty (Zv Ty Ya)))))))) rfl), rfl⟩) fun g8 w8 p8 hs b8 cb => ?_))));have hfr := hfr.stp hs;have nB := nB.stp hs;have r7 := r7.stp hs;clear cb;refine Z4 rfl (Gv (g := g8) (v := v7) sizeOf155 rfl b8 rfl r7 fun g9 w9 hs b9 cb => ?_);clear cb;have hfr := hfr.stp hs;have nB := nB.stp hs;refine Z3 (Zq h (fun (s : Unit) e w => ∃ (g : Gh) , Fr gI wI g w ∧ e 2 = .slice none 0 0 ∧ RV g.m w ([] : List Z2) (Value.slice none 0 0) ∧ e 4 = p8 ∧ OB 2004 g w 155 (y5 : Vector UInt8 8) p8) (fun X16 lJ rJ h => ?_) ?_)
  ·refine Z5 (Z4 rfl (T8 (g := g9) isAgg155 sizeOf155 rfl b9 fun vK xK => ?_))
   obtain ⟨lE, sJ, h⟩ := Z1 h;refine Z4 rfl (Zp (g := g9) (vs := [vK]) en92 (.cons rfl .nil) (wk92 xK sJ) fun yK xL mN hs hr => ?_);have hfr := hfr.ext hs;have nB := nB.ext hs;have b9 := b9.ext hs;obtain ⟨xE, gL, rfl, yE, rfl⟩ := hr;refine Zn (.tuple #[xE, Iz (lE.2)]) rfl rfl (Zx xE (Zi rfl rfl) rfl (Zx (Iz (lE.2)) (Zi rfl rfl) rfl (Z4 rfl (Td (g := yK) 2005 (⟨0, 0, 0, 0, 0⟩ : Z2) zeroValue63 (fun m w => ⟨_, (Gk Zw (Gk Zw (Gk Zw (Gk Zw Zw)))), rfl⟩) fun zK nN oN hs b20 cb => ?_))));have hfr := hfr.stp hs;have nB := nB.stp hs;have b9 := b9.stp hs rfl;have yE := yE.stp hs;clear cb;refine Z4 rfl (Gv (g := zK) (v := xE) sizeOf63 rfl b20 rfl yE fun aL pN hs b21 cb => ?_);clear cb;have hfr := hfr.stp hs;have nB := nB.stp hs;have b9 := b9.stp hs rfl;refine Zg (Iz (lE.2)) rfl rfl (Z3 (Z5 (Zn (Iz (lE.2)) rfl rfl (Gd (.bool ((lE.2 == (0 : Int)))) rfl rfl rfl rfl (Z3 ?_)))));rcases Zt h with ⟨bG, h⟩ | ⟨bG, h⟩
   ·refine Gx bG rfl (Z5 (Zg (.slice none 0 0) rfl rfl (Zg (Iz (6)) rfl rfl (Z3 (Z9 (Gf ?_))))))
    obtain rfl := sinj h;exact J4 rfl rfl (rq (.slice none 0 0)) (rq (Iz (6))) ⟨_, hfr, _, _, rfl, Tp, rfl⟩
   ·refine Gy bG rfl ?_
    exact Zu (Zd (rJ () _ _ ⟨aL, hfr, qJ, nB, rfl, b9⟩ h))
  ·rintro _ yL qN ⟨bL, hfr, lI, mI, nI, pI⟩ h
   obtain ⟨nD, hx, h⟩ := Z1 h;refine G6 (fun e w => ∃ (g : Gh) (v2 : Value), Fr gI wI g w ∧ e 2 = v2 ∧ RV g.m w (nD : List Z2) v2 ∧ OS 1002 g w 63 (nD : List Z2) v2) (fun Q' hQ => ?_) (fun iL zL hR => ?_)
   ·replace h := hx
    clear hx;refine Z5 (Zn (Iz (0)) rfl rfl (Z3 (Zr (Kv h (fun (s : (List Z2) × Int) e w => ∃ (g : Gh) (v2 : Value), Fr gI wI g w ∧ e 2 = v2 ∧ RV g.m w (s.1 : List Z2) v2 ∧ OS 1002 g w 63 (s.1 : List Z2) v2 ∧ e 4 = p8 ∧ OB 2004 g w 155 (y5 : Vector UInt8 8) p8 ∧ e 25 = Iz (s.2)) ⟨bL, (.slice none 0 0), hfr, lI, mI, OS.nil, nI, pI, rfl⟩ (fun X101 mG qI => ?_)))));rintro ⟨iE, n9⟩ jL aM ⟨gH, rF, hfr, sF, vF, xF, jH, kH, aE⟩ h;refine Z5 (Gd (.bool ((decide (n9 < (8 : Int))))) aE rfl rfl rfl (Z3 (Zf ?_)));rcases Zt h with ⟨zE, h⟩ | ⟨zE, h⟩
    ·refine Gx zE rfl (Zu (Zd ?_))
     obtain ⟨zB, hx, h⟩ := Z1 h;refine G6 (fun e w => ∃ (g : Gh) (v2 : Value), Fr gI wI g w ∧ e 2 = v2 ∧ RV g.m w (zB : List Z2) v2 ∧ OS 1002 g w 63 (zB : List Z2) v2 ∧ e 4 = p8 ∧ OB 2004 g w 155 (y5 : Vector UInt8 8) p8 ∧ e 25 = Iz (n9)) (fun Q' hQ => ?_) (fun lL cM hR => ?_)
     ·replace h := hx
      clear hx;refine Zr (Z5 (Zo aE rfl (Zg (Iz (n9)) rfl rfl (Z3 (Z5 (Zn (Iz (0)) rfl rfl (Z3 (Zr (Kv h (fun (s : (List Z2) × Int) e w => ∃ (g : Gh) (v2 : Value), Fr gI wI g w ∧ e 2 = v2 ∧ RV g.m w (s.1 : List Z2) v2 ∧ OS 1002 g w 63 (s.1 : List Z2) v2 ∧ e 4 = p8 ∧ OB 2004 g w 155 (y5 : Vector UInt8 8) p8 ∧ e 7 = Iz (n9) ∧ e 25 = Iz (n9) ∧ e 28 = Iz (s.2)) ⟨gH, (rF), hfr, sF, vF, xF, jH, kH, rfl, aE, rfl⟩ (fun X140 yG sI => ?_))))))))));rintro ⟨lD, mB⟩ mL dM ⟨cG, yF, hfr, mE, aB, lB, oD, n8, oE, bE, cC⟩ h;refine Z5 (Gd (.bool ((decide (mB < (256 : Int))))) cC rfl rfl rfl (Z3 (Zf ?_)));rcases Zt h with ⟨cF, h⟩ | ⟨cF, h⟩
      ·refine Gx cF rfl (Zu (Zd ?_))
       obtain ⟨yB, hx, h⟩ := Z1 h;refine G6 (fun e w => ∃ (g : Gh) (v2 : Value), Fr gI wI g w ∧ e 2 = v2 ∧ RV g.m w (yB : List Z2) v2 ∧ OS 1002 g w 63 (yB : List Z2) v2 ∧ e 4 = p8 ∧ OB 2004 g w 155 (y5 : Vector UInt8 8) p8 ∧ e 7 = Iz (n9) ∧ e 25 = Iz (n9) ∧ e 28 = Iz (mB)) (fun Q' hQ => ?_) (fun nL eM hR => ?_)
       ·replace h := hx
        clear hx;refine Zr (Z5 (Zo cC rfl (Zg (Iz (mB)) rfl rfl (Z3 (Z5 (Z4 rfl (T8 (g := cG) isAgg155 sizeOf155 oD n8 fun vJ eG => (Z4 rfl (Td (g := cG) 2009 ((⟨List.toArray [0, 0, 0, 0, 0, 0, 0, 0], rfl⟩ : Vector UInt8 8) : Vector UInt8 8) zeroValue155 (fun m w => ⟨_, (Yu (Zv Ty (Zv Ty (Zv Ty (Zv Ty (Zv Ty (Zv Ty (Zv Ty (Zv Ty Ya)))))))) rfl), rfl⟩) fun xJ iM zJ hs b160 cb => ?_)))))))));have hfr := hfr.stp hs;have aB := aB.stp hs;have lB := lB.stp hs rfl;have n8 := n8.stp hs rfl;have eG := eG.stp hs;clear cb;refine Z4 rfl (Gv (g := xJ) (v := vJ) sizeOf155 rfl b160 rfl eG fun aK jM hs b161 cb => ?_);clear cb;have hfr := hfr.stp hs;have aB := aB.stp hs;have lB := lB.stp hs rfl;have n8 := n8.stp hs rfl;refine Z3 (Z5 (Zo oE rfl (Zn (Iz (mB)) rfl rfl (Zx (.int .u8 (UInt8.toNat ((u8w mB)))) (W3 underlying3 underlying5 rfl) rfl ?_))));obtain ⟨oJ, iG, h⟩ := Z1 h;obtain ⟨hi163, he163⟩ := Nz iG;refine Zx (Gc zJ ((n9 : Int).toNat * 1)) (Qw (α := UInt8) underlying155 sizeOf5 rfl (OB.ptr b161) rfl iG) rfl (Z4 rfl (Yf (g := aK) (Gr.dyn hi163) sizeOf5 rfl b161 rfl (Tz.2 rfl) fun lH kM hs b164 rst hos => ?_));clear rst hos;have hfr := hfr.stp hs;have aB := aB.stp hs;have lB := lB.stp hs rfl;have n8 := n8.stp hs rfl;refine Z3 (Z5 (Z4 rfl (T8 (g := lH) isAgg155 sizeOf155 rfl b164 fun bK cK => ?_)));obtain ⟨oB, jJ, h⟩ := Z1 h;refine Z4 rfl (Zp (g := lH) (vs := [bK]) en92 (.cons rfl .nil) (wk92 cK jJ) fun dK oL pM hs hr => ?_);have hfr := hfr.ext hs;have aB := aB.ext hs;have lB := lB.ext hs;have n8 := n8.ext hs;obtain ⟨rE, dL, rfl, vE, rfl⟩ := hr;refine Zn (.tuple #[rE, Iz (oB.2)]) rfl rfl (Zx rE (Zi rfl rfl) rfl (Zx (Iz (oB.2)) (Zi rfl rfl) rfl (Z4 rfl (Td (g := dK) 2010 (⟨0, 0, 0, 0, 0⟩ : Z2) zeroValue63 (fun m w => ⟨_, (Gk Zw (Gk Zw (Gk Zw (Gk Zw Zw)))), rfl⟩) fun lK qM rM hs b168 cb => ?_))));have hfr := hfr.stp hs;have aB := aB.stp hs;have lB := lB.stp hs rfl;have n8 := n8.stp hs rfl;have vE := vE.stp hs;clear cb;refine Z4 rfl (Gv (g := lK) (v := rE) sizeOf63 rfl b168 rfl vE fun gG eN hs b169 cb => ?_);clear cb;have hfr := hfr.stp hs;have aB := aB.stp hs;have lB := lB.stp hs rfl;have n8 := n8.stp hs rfl;refine Zg (Iz (oB.2)) rfl rfl (Z3 (Z5 (Zn (Iz (oB.2)) rfl rfl (Gd (.bool ((oB.2 == (0 : Int)))) rfl rfl rfl rfl (Z3 ?_)))));rcases Zt h with ⟨eF, h⟩ | ⟨eF, h⟩
        ·refine Gx eF rfl (Za (Zo mE rfl (Z4 rfl (T8 (g := gG) isAgg63 sizeOf63 rfl b169 fun mK nK => (Z4 rfl (Ga (g := gG) 3045 (xs := ([oB.1] : List Z2)) (vs := [mK]) underlying49 sizeOf63 zeroValue63 rfl rfl (.cons rfl .nil) (RVs.cons nK RVs.nil) rfl rfl fun oK gN iN hs o172 pK hxt hfl => ?_))))))
         have hfr := hfr.stp hs;have aB := aB.stp hs;have lB := lB.stp hs rfl;have n8 := n8.stp hs rfl;obtain ⟨zG, kJ, h⟩ := Z1 h;refine Z4 rfl (Qd (g := oK) (i := 1002) underlying49 V1 rfl rfl lB aB rfl pK kJ fun qK jN mH hs o173 sK _ => ?_);have hfr := hfr.stp hs;have n8 := n8.stp hs rfl;refine Zg mH rfl rfl (Zb (Th ?_));obtain rfl := sinj h;exact hQ _ _ ⟨qK, (mH), hfr, rfl, sK, o173, oD, n8, oE, bE, cC⟩
        ·refine Gy eF rfl (Zu (Th ?_))
         obtain rfl := sinj h;exact hQ _ _ ⟨gG, (yF), hfr, mE, aB, lB, oD, n8, oE, bE, cC⟩
       ·clear hx
        obtain ⟨tK, nH, hfr, oH, pH, qH, sH, tH, uH, jG, kG⟩ := hR;refine Za (Gd (Iz ((w64 (mB + (1 : Int))))) kG rfl rfl rfl (Zn (Iz ((w64 (mB + (1 : Int))))) rfl rfl ?_));exact Z3 (sI (yB, (w64 (mB + (1 : Int)))) _ _ ⟨tK, (nH), hfr, oH, pH, qH, sH, tH, uH, jG, rfl⟩ h)
      ·refine Gy cF rfl (Tu (G5 (G5 (Tf (Th ?_)))))
       obtain rfl := sinj h;exact hQ _ _ ⟨cG, (yF), hfr, mE, aB, lB, oD, n8, bE⟩
     ·clear hx
      obtain ⟨uK, yH, hfr, zH, aI, bI, dI, iI, lG⟩ := hR;refine Za (Gd (Iz ((w64 (n9 + (1 : Int))))) lG rfl rfl rfl (Zn (Iz ((w64 (n9 + (1 : Int))))) rfl rfl ?_));exact Z3 (qI (zB, (w64 (n9 + (1 : Int)))) _ _ ⟨uK, (yH), hfr, zH, aI, bI, dI, iI, rfl⟩ h)
    ·refine Gy zE rfl (Tu (G5 (G5 (Tf ?_))))
     obtain rfl := sinj h;exact hQ _ _ ⟨gH, (rF), hfr, sF, vF, xF⟩
   ·clear hx
    obtain ⟨kN, aG, hfr, jI, kI, eL⟩ := hR;refine Z5 (Zo jI rfl (Zg aG rfl rfl (Zg (Iz (0)) rfl rfl (Z3 (Z9 ?_)))));obtain rfl := sinj h;exact J4 rfl rfl (rq aG) (rq (Iz (0))) ⟨_, hfr, _, _, rfl, kI, rfl⟩
theorem O3 {gI : Gh} {wI : World} {x0 : Int}  {r : Bool} (h : f159 x0 = some r) : FnD prog 159 #[Iz (x0)] gI wI (fun _ _ v => v = .bool (r)) := by
 unfold f159 at h;refine Ut func159 rfl (Nat.le_of_ble_eq_true rfl) fun g0 hm hfr => ?_;show E _ 6 none _ _ _ _ _;refine Z5 (Zg (.bool false) rfl rfl (Z3 (Z5 (Zn (Iz (x0)) rfl rfl (Zn (Iz (x0)) rfl rfl (Gd (.bool ((x0 != x0))) rfl rfl rfl rfl (Zg (.bool ((x0 != x0))) rfl rfl (Z3 (Z9 ?_)))))))));obtain rfl := sinj h;exact G0 rfl rfl (rq (.bool ((x0 != x0)))) ⟨_, hfr, rfl⟩
theorem Ou {gI : Gh} {wI : World} {x0 : Int} {x1 : Int}  {r : Int} (h : f130 x0 x1 = some r) : FnD prog 130 #[Iz (x0), Iz (x1)] gI wI (fun _ _ v => v = Iz (r)) := by
 unfold f130 at h;refine Ut func130 rfl (Nat.le_of_ble_eq_true rfl) fun g0 hm hfr => ?_;show E _ 20 none _ _ _ _ _;refine Z5 (Zg (Iz (0)) rfl rfl (Z3 (Z5 (Zn (Iz (x0)) rfl rfl ?_))));obtain ⟨y2, hy2, h⟩ := Z1 h;refine Z4 rfl (Vi (g := g0) (vs := [Iz (x0)]) en159 (.cons rfl .nil) (O3  hy2) fun g1 w1_ v1 hs hr => ?_);have hfr := hfr.ext hs;subst hr;refine Zg (.bool (y2)) rfl rfl (Z3 (Z5 (Zn (Iz (x1)) rfl rfl ?_)));obtain ⟨y4, vE, h⟩ := Z1 h;refine Z4 rfl (Vi (g := g1) (vs := [Iz (x1)]) en159 (.cons rfl .nil) (O3  vE) fun g3 w3_ v3 hs hr => ?_);have hfr := hfr.ext hs;subst hr;refine Zg (.bool (y4)) rfl rfl (Z3 (Zq h (fun (s : Unit) e w => ∃ (g : Gh) , FrD gI wI g w ∧ e 0 = Iz (x0) ∧ e 1 = Iz (x1) ∧ e 6 = .bool (y4)) (fun X10 aE iE h => ?_) ?_))
 ·refine Z5 (Zn (.bool (y2)) rfl rfl (Z3 ?_))
  rcases Zt h with ⟨n8, h⟩ | ⟨n8, h⟩
  ·refine Gx n8 rfl (Zq h (fun (s : Unit) e w => ∃ (g : Gh) , FrD gI wI g w) (fun X13 bE lE h => ?_) ?_)
   ·refine Z5 (Zn (.bool (y4)) rfl rfl (Z3 ?_))
    rcases Zt h with ⟨n9, h⟩ | ⟨n9, h⟩
    ·refine Gx n9 rfl (Z5 (Zg (Iz (0)) rfl rfl (Z3 (Z9 (Gf (Gf ?_))))))
     obtain rfl := sinj h;exact G0 rfl rfl (rq (Iz (0))) ⟨_, hfr, rfl⟩
    ·refine Gy n9 rfl ?_
     exact Zu (Zd (lE () _ _ ⟨g3, hfr⟩ h))
   ·rintro _ cF w15 ⟨xF, hfr⟩ h
    refine Z5 (Zg (Iz (-1)) rfl rfl (Z3 (Z9 (Gf ?_))));obtain rfl := sinj h;exact G0 rfl rfl (rq (Iz (-1))) ⟨_, hfr, rfl⟩
  ·refine Gy n8 rfl ?_
   exact Zu (Zd (iE () _ _ ⟨g3, hfr, rfl, rfl, rfl⟩ h))
 ·rintro _ eF yF ⟨xE, hfr, yB, zB, cC⟩ h
  refine Zq h (fun (s : Unit) e w => ∃ (g : Gh) , FrD gI wI g w ∧ e 0 = Iz (x0) ∧ e 1 = Iz (x1)) (fun X18 k18 mE h => ?_) ?_
  ·refine Z5 (Zo cC rfl (Z3 ?_))
   rcases Zt h with ⟨aB, h⟩ | ⟨aB, h⟩
   ·refine Gx aB rfl (Z5 (Zg (Iz (1)) rfl rfl (Z3 (Z9 (Gf ?_)))))
    obtain rfl := sinj h;exact G0 rfl rfl (rq (Iz (1))) ⟨_, hfr, rfl⟩
   ·refine Gy aB rfl ?_
    exact Zu (Zd (mE () _ _ ⟨xE, hfr, yB, zB⟩ h))
  ·rintro _ rF aG ⟨yE, hfr, nB, oB⟩ h
   refine Zq h (fun (s : Unit) e w => ∃ (g : Gh) , FrD gI wI g w ∧ e 0 = Iz (x0) ∧ e 1 = Iz (x1)) (fun X22 oD oE h => ?_) ?_
   ·refine Z5 (Zo nB rfl (Zo oB rfl (Gd (.bool ((decide (x0 < x1)))) rfl rfl rfl rfl (Z3 ?_))))
    rcases Zt h with ⟨lB, h⟩ | ⟨lB, h⟩
    ·refine Gx lB rfl (Z5 (Zg (Iz (-1)) rfl rfl (Z3 (Z9 (Gf ?_)))))
     obtain rfl := sinj h;exact G0 rfl rfl (rq (Iz (-1))) ⟨_, hfr, rfl⟩
    ·refine Gy lB rfl ?_
     exact Zu (Zd (oE () _ _ ⟨yE, hfr, nB, oB⟩ h))
   ·rintro _ sF bG ⟨zE, hfr, lD, nD⟩ h
    refine Zq h (fun (s : Unit) e w => ∃ (g : Gh) , FrD gI wI g w) (fun X26 k26 rE h => ?_) ?_
    ·refine Z5 (Zo lD rfl (Zo nD rfl (Gd (.bool ((decide (x0 > x1)))) rfl rfl rfl rfl (Z3 ?_))))
     rcases Zt h with ⟨mB, h⟩ | ⟨mB, h⟩
     ·refine Gx mB rfl (Z5 (Zg (Iz (1)) rfl rfl (Z3 (Z9 (Gf ?_)))))
      obtain rfl := sinj h;exact G0 rfl rfl (rq (Iz (1))) ⟨_, hfr, rfl⟩
     ·refine Gy mB rfl ?_
      exact Zu (Zd (rE () _ _ ⟨zE, hfr⟩ h))
    ·rintro _ vF cG ⟨eG, hfr⟩ h
     refine Z5 (Zg (Iz (0)) rfl rfl (Z3 (Z9 ?_)));obtain rfl := sinj h;exact G0 rfl rfl (rq (Iz (0))) ⟨_, hfr, rfl⟩
theorem dk129 {gI : Gh} {wI : World} {x0 : List Int} {up0 : Value} (rp0 : RV gI.m wI x0 up0) {r : Int} (h : f129 x0 = some r) : FnD prog 129 #[up0] gI wI (fun _ _ v => v = Iz (r)) := by
 unfold f129 at h;refine Ut func129 rfl (Nat.le_of_ble_eq_true rfl) fun g0 hm hfr => ?_;have rp0 := RVc hm rp0;show E _ 18 none _ _ _ _ _;refine Z5 (Zg (Iz (0)) rfl rfl (Z3 (Z5 (Zg (Iz (0)) rfl rfl (Z3 (Zq h (fun (s : Unit) e w => ∃ (g : Gh) , FrD gI wI g w ∧ e 3 = Iz ((0 : Int))) (fun X14 k14 mE h => ?_) ?_))))))
 ·refine Z5 (Zn up0 rfl rfl (Zx (Iz ((x0).length : Int)) (G3 underlying22 rfl rp0) rfl (Zn (Iz (0)) rfl rfl (Z3 (Zr (Kv h (fun (s : Int) e w => ∃ (g : Gh) , FrD gI wI g w ∧ e 3 = Iz ((0 : Int)) ∧ e 6 = up0 ∧ RV g.m w (x0 : List Int) up0 ∧ e 7 = Iz (((x0).length : Int)) ∧ e 8 = Iz (s)) ⟨g0, hfr, rfl, rfl, rp0, rfl, rfl⟩ (fun X15 k15 oE => ?_)))))))
  rintro n8 zE rF ⟨zB, hfr, n9, oB, aB, yB, lB⟩ h;refine Z5 (Gd (.bool ((decide (n8 < ((x0).length : Int))))) lB yB rfl rfl (Z3 (Zf ?_)));rcases Zt h with ⟨mB, h⟩ | ⟨mB, h⟩
  ·refine Gx mB rfl (Zu (Zd (Zq h (fun (s : Unit) e w => ∃ (g : Gh) , FrD gI wI g w ∧ e 3 = Iz ((0 : Int)) ∧ e 6 = up0 ∧ RV g.m w (x0 : List Int) up0 ∧ e 7 = Iz (((x0).length : Int)) ∧ e 8 = Iz (n8)) (fun X22 lE rE h => ?_) ?_)))
   ·refine Zr (Z5 ?_)
    obtain ⟨y23, cC, h⟩ := Z1 h;refine Zx (Gq up0 n8 1) (Zh (α := Int) underlying22 sizeOf3 oB aB lB cC) rfl ?_;have vE := Gn aB cC;refine Z4 rfl (Z7 (g := zB) isAgg3 sizeOf3 rfl vE fun sF xE => ?_);obtain rfl := Zj.1 xE;refine Zg (Iz (y23)) rfl rfl (Z3 (Z5 (Zn (Iz (y23)) rfl rfl (Zo n9 rfl (Gd (.bool ((y23 != (0 : Int)))) rfl rfl rfl rfl (Z3 ?_))))));rcases Zt h with ⟨nB, h⟩ | ⟨nB, h⟩
    ·refine Gx nB rfl (Z5 (Zn (Iz (y23)) rfl rfl (Zg (Iz (y23)) rfl rfl (Z3 (Z9 (G2 (Gf (Gf (G2 (Gf ?_))))))))))
     obtain rfl := sinj h;exact G0 rfl rfl (rq (Iz (y23))) ⟨_, hfr, rfl⟩
    ·refine Gy nB rfl ?_
     exact Zu (Th (Zd (rE () _ _ ⟨zB, hfr, n9, oB, aB, yB, lB⟩ h)))
   ·rintro _ cF vF ⟨yE, hfr, lD, nD, oD, aE, bE⟩ h
    refine Za (Gd (Iz ((w64 (n8 + (1 : Int))))) bE rfl rfl rfl (Zn (Iz ((w64 (n8 + (1 : Int))))) rfl rfl ?_));exact Z3 (oE ((w64 (n8 + (1 : Int)))) _ _ ⟨yE, hfr, lD, nD, oD, aE, rfl⟩ h)
  ·refine Gy mB rfl (Tu (G5 (G5 (Tf ?_))))
   exact Zd (mE () _ _ ⟨zB, hfr, n9⟩ h)
 ·rintro _ eF xF ⟨yF, hfr, iE⟩ h
  refine Z5 (Zo iE rfl (Zg (Iz ((0 : Int))) rfl rfl (Z3 (Z9 ?_))));obtain rfl := sinj h;exact G0 rfl rfl (rq (Iz ((0 : Int)))) ⟨_, hfr, rfl⟩
theorem dk89 {gI : Gh} {wI : World} {x0 : Z2} {x1 : Z2} {up0 : Value} (rp0 : RV gI.m wI x0 up0) {up1 : Value} (rp1 : RV gI.m wI x1 up1) {r : Int} (h : f89 x0 x1 = some r) : FnD prog 89 #[up0, up1] gI wI (fun _ _ v => v = Iz (r)) := by
 unfold f89 at h;refine Ut func89 rfl (Nat.le_of_ble_eq_true rfl) fun g0 hm hfr => ?_;have rp0 := RVc hm rp0;have rp1 := RVc hm rp1;show E _ 17 none _ _ _ _ _;refine Z5 (Z4 rfl (A9 (g := g0) rfl rp0 fun g1 w1 p1 hs q1 => ?_));have hfr := hfr.ext hs;have rp1 := rp1.ext hs.1;refine Z4 rfl (A9 (g := g1) rfl rp1 fun g2 w2 p2 hs q2 => ?_);have hfr := hfr.ext hs;have q1 := q1.ext hs.1;refine Zg (Iz (0)) rfl rfl (Z3 (Zf ?_));have q3 := Zm (G8).1 q1;refine Zs (x := .tmp 5) isAgg3 sizeOf3 q3 fun v4 r4 oB => ?_;obtain rfl := Zj.1 r4;have q5 := Zm (G8).1 q2;refine Zs (x := .tmp 7) isAgg3 sizeOf3 q5 fun v6 r6 hl6 => ?_;obtain rfl := Zj.1 r6;obtain ⟨y8, yB, h⟩ := Z1 h;have q9 := Zm (Tg).1 q1;refine Zs (x := .tmp 10) isAgg3 sizeOf3 q9 fun v10 r10 lB => ?_;obtain rfl := Zj.1 r10;have zB := Zm (Tg).1 q2;refine Zs (x := .tmp 12) isAgg3 sizeOf3 zB fun lD cC hl12 => ?_;obtain rfl := Zj.1 cC;obtain ⟨n8, mB, h⟩ := Z1 h;obtain ⟨aB, nB, h⟩ := Z1 h;refine Pu (g := g2) (n := 13) [(4, (fun v g w => v = Iz (y8))), (9, (fun v g w => v = Iz (n8))), (10, (fun v g w => RV g.m w ([y8, n8] : List Int) v)), (11, (fun v g w => v = Iz (aB)))] [0, 1, 2, 3, 4, 5, 6, 7, 8, 9, 10, 11, 12] rfl mixed (by kernel_rfl) (⟨fun _ => Ha _, fun _ => Ha _, fun _ => Dx, fun _ => Ha _, trivial⟩) (Z0 (Gc p1 0) rfl rfl (Zc W1 rfl (PT.ptr q1)) (Ti (c := Iz ((x0).Day)) rfl rfl .plain (fun _ _ h => h.1.ch) oB rfl (Z0 (Gc p2 0) rfl rfl (Zc W1 rfl (PT.ptr q2)) (Ti (c := Iz ((x1).Day)) rfl rfl .plain (fun _ _ h => h.1.ch) hl6 rfl (Hn (φ := fun v g w => v = Iz (y8)) rfl rfl .plain (fun g w hd => Vi (g := g) (vs := [Iz ((x0).Day), Iz ((x1).Day)]) en130 (.cons rfl (.cons rfl .nil)) (Ou  yB) fun g' w' v hs hr => ⟨g', hs, hr⟩) (fun v7 hv => ?_))))));obtain ⟨_, _, _, rfl⟩ := hv;refine Z0 (Gc p1 1) rfl rfl (Zc Kh rfl (PT.ptr q1)) (Ti (c := Iz ((x0).Loom)) rfl rfl .plain (fun _ _ h => h.1.ch) lB rfl (Z0 (Gc p2 1) rfl rfl (Zc Kh rfl (PT.ptr q2)) (Ti (c := Iz ((x1).Loom)) rfl rfl .plain (fun _ _ h => h.1.ch) hl12 rfl (Hn (φ := fun v g w => v = Iz (n8)) rfl rfl .plain (fun g w hd => Vi (g := g) (vs := [Iz ((x0).Loom), Iz ((x1).Loom)]) en130 (.cons rfl (.cons rfl .nil)) (Ou  mB) fun g' w' v hs hr => ⟨g', hs, hr⟩) (fun nD hv => ?_)))));obtain ⟨_, _, _, rfl⟩ := hv;refine Hn (φ := fun v g w => RV g.m w ([y8, n8] : List Int) v) rfl rfl .plain (fun g w hd => Br (g := g) 3015 (xs := ([y8, n8] : List Int)) (vs := [Iz (y8), Iz (n8)]) underlying22 sizeOf3 zeroValue3 rfl rfl (.cons rfl (.cons rfl .nil)) (RVs.cons (Zj.2 rfl) (RVs.cons (Zj.2 rfl) RVs.nil)) rfl rfl fun g' w' v hxt r => ⟨g', hxt, r⟩) (fun n9 hv => ?_);clear hv;refine Hn (φ := fun v g w => v = Iz (aB)) rfl rfl .plain (fun g w hd => Vi (g := g) (vs := [n9]) en129 (.cons rfl .nil) (dk129 (Cq (A := fun g w => RV g.m w ([y8, n8] : List Int) n9) 10 rfl rfl (Ju hd)) nB) fun g' w' v hs hr => ⟨g', hs, hr⟩) (fun oD hv => ?_);obtain ⟨_, _, _, rfl⟩ := hv;refine Z0 (Iz (aB)) rfl rfl (Tv rfl) (Y7 fun aE bE hall => ?_);have hs := hall.1;have hfr := hfr.ext hs;clear hs hall;refine Z3 (Z9 ?_);obtain rfl := sinj h;exact G0 rfl rfl (rq (Iz (aB))) ⟨_, hfr, rfl⟩
def R8 (x : Z2) : List Value := [Iz x.Day, Iz x.Loom, Iz x.Chain, Iz x.Tie, Iz x.Picks]
theorem Xz : Enc Z2 R8 where
 rep m w x cs := by
  constructor
  ·rintro ⟨_, _, rfl, h1, _, _, rfl, h2, _, _, rfl, h3, _, _, rfl, h4, h5⟩
   cases h1; cases h2; cases h3; cases h4; cases h5; rfl
  ·rintro rfl; exact ⟨[_], _, rfl, rfl, [_], _, rfl, rfl, [_], _, rfl, rfl, [_], _, rfl, rfl, rfl⟩
 len _ := rfl
 one x v hv := by
  simp only [R8, List.mem_cons, List.not_mem_nil, or_false] at hv
  rcases hv with rfl | rfl | rfl | rfl | rfl <;> rfl
 pos := by decide
theorem A8 : O2 prog 134 (α := Z2) R8 where
 row cf hO g blk off cap d w eg hc hH hb hs := Tryz.sort_row R8 (fun _ => rfl) Xz.one cf hO g blk off cap d w eg hc hH hb hs
 none := Tryz.sort_none
noncomputable def f134 (x0 : List Z2) (x1 : Z2 → Z2 → Option Int) : Option (List Z2) := Bu x0 x1
theorem en134 : Enters prog 134 := enters_of func134 (by kernel_rfl) rfl
theorem wk134s {i : Nat} {g : Gh} {w : World} {xs r : List Z2} {v : Value} (hv : OM i g w 63 xs v) (h : f134 xs (fun a0 a1 => f89 a0 a1) = some r) :
  FnM prog 134 #[v, .func (.func 89) #[] #[]] i g w (fun g w u => u = .tuple #[] ∧ OM i g w 63 r v) :=
 Ab Xz A8 en89 (fun g w x y z hz => dk89 (gI := g) (wI := w) (up0 := .agg (R8 x).toArray) (up1 := .agg (R8 y).toArray) ⟨R8 x, (Xz.rep _ _ _ _).2 rfl, rfl⟩ ⟨R8 y, (Xz.rep _ _ _ _).2 rfl, rfl⟩ hz) hv h
noncomputable def f95 (x0 : List (List UInt8)) : Option ((List Z2) × Int × Int) :=
 jn (σ := Unit) (fun _ =>
  jn (σ := (List (List Z2))) (fun lB =>
   jn (σ := (List Z2)) (fun yE =>
    jn (σ := Unit) (fun _ =>
     (f134 yE ((fun a0 a1 => f89 a0 a1))).bind fun cO =>
     some (cO, (0 : Int), (0 : Int))
     ) fun dO =>
    bif (decide (((yE).length : Int) > (100 : Int))) then
     some (([] : List Z2), (0 : Int), (5 : Int))
    else
     dO ()
    ) fun eO =>
   lp (σ := (List Z2) × (List (Gu × Z2)) × Int) (fun gO (jG, dI, aB) =>
    bif (decide (aB < ((lB).length : Int))) then
     jn (σ := (List Z2) × (List (Gu × Z2))) (fun (yH, yG) =>
      gO (yH, yG, (w64 (aB + (1 : Int))))
      ) fun jO =>
     (idx lB aB).bind fun lE =>
     lp (σ := (List Z2) × (List (Gu × Z2)) × Int) (fun kO (mE, n9, oB) =>
      bif (decide (oB < ((lE).length : Int))) then
       jn (σ := (List Z2) × (List (Gu × Z2))) (fun (zH, zG) =>
        kO (zH, zG, (w64 (oB + (1 : Int))))
        ) fun tK =>
       (idx lE oB).bind fun n8 =>
       jn (σ := Unit) (fun _ =>
        bif (!((Jq n9 ((⟨(n8).Day, (n8).Loom⟩ : Gu))).isSome)) then
         (apnd 40 mE (([n8] : List Z2))).bind fun uK =>
         tK (uK, (Bp n9 ((⟨(n8).Day, (n8).Loom⟩ : Gu)) n8))
        else
         tK (mE, n9)
        ) fun lO =>
       Option.bind (α := Bool) (
        bif ((Jq n9 ((⟨(n8).Day, (n8).Loom⟩ : Gu))).isSome) then
         some ((!(decide (((Jq n9 ((⟨(n8).Day, (n8).Loom⟩ : Gu))).getD (⟨0, 0, 0, 0, 0⟩ : Z2)) = n8))))
        else
         some (false)
        ) fun zE =>
       bif zE then
        some (([] : List Z2), aB, (6 : Int))
       else
        lO ()
      else
       jO (mE, n9)
      ) big (jG, dI, (0 : Int))
    else
     eO (jG)
    ) big (([] : List Z2), ([] : List (Gu × Z2)), (0 : Int))
   ) fun aR =>
  lp (σ := (List (List Z2)) × Int) (fun dR (aG, mB) =>
   bif (decide (mB < ((x0).length : Int))) then
    jn (σ := (List (List Z2))) (fun pJ =>
     dR (pJ, (w64 (mB + (1 : Int))))
     ) fun eR =>
    (idx x0 mB).bind fun gR =>
    (f32 gR).bind fun oE =>
    jn (σ := Unit) (fun _ =>
     (apnd 24 aG (([oE.1] : List (List Z2)))).bind fun mO =>
     eR (mO)
     ) fun k80 =>
    bif (oE.2.2 != (0 : Int)) then
     some (([] : List Z2), mB, oE.2.2)
    else
     k80 ()
   else
    aR (aG)
   ) big ([], (0 : Int))
  ) fun k5 =>
 bif (decide (((x0).length : Int) > (10 : Int))) then
  some (([] : List Z2), (0 : Int), (5 : Int))
 else
  k5 ()
theorem en95 : Enters prog 95 := enters_of func95 (by kernel_rfl) rfl
theorem wk95 {gI : Gh} {wI : World} {x0 : List (List UInt8)} {up0 : Value} (rp0 : RV gI.m wI x0 up0) {r : (List Z2) × Int × Int} (h : f95 x0 = some r) : Fn prog 95 #[up0] gI wI (fun m w v => ∃ y0 y1 y2, v = .tuple #[y0, y1, y2] ∧ RV m w (r.1) y0 ∧ y1 = Iz (r.2.1) ∧ y2 = Iz (r.2.2)) := by
 unfold f95 at h;refine fnE func95 rfl rfl fun g0 hm hfr => ?_;have rp0 := RVc hm rp0;show E _ 95 none _ _ _ _ _;refine Z5 (Zg (.slice none 0 0) rfl rfl ?_);have b1 : OA 4002 g0 wI 63 ([] : List Z2) (.slice none 0 0) := OA.nil;refine Zg (Iz (0)) rfl rfl (Zg (Iz (0)) rfl rfl (Z3 (Zq h (fun (s : Unit) e w => ∃ (g : Gh) , Fr gI wI g w ∧ e 0 = up0 ∧ RV g.m w (x0 : List (List UInt8)) up0 ∧ e 2 = .slice none 0 0 ∧ OA 4002 g w 63 (([] : List Z2) : List Z2) (Value.slice none 0 0)) (fun X5 k5 hk5 h => ?_) ?_)))
 ·refine Z5 (Zn up0 rfl rfl (Zx (Iz ((x0).length : Int)) (G3 underlying69 rfl rp0) rfl (Gd (.bool ((decide (((x0).length : Int) > (10 : Int))))) rfl rfl rfl rfl (Z3 ?_))))
  rcases Zt h with ⟨hc6, h⟩ | ⟨hc6, h⟩
  ·refine Gx hc6 rfl (Z5 (Zg (.slice none 0 0) rfl rfl ?_))
   have b7 : OA 4002 g0 wI 63 ([] : List Z2) (.slice none 0 0) := OA.nil;refine Zg (Iz (0)) rfl rfl (Zg (Iz (5)) rfl rfl (Z3 (Z9 (Gf ?_))));obtain ⟨gp8, hs, rp8⟩ := OM.pub (b7.toM);have hfr := hfr.stp hs;obtain rfl := sinj h;exact Hc rfl rfl (rq (.slice none 0 0)) (rq (Iz (0))) (rq (Iz (5))) ⟨_, hfr, _, _, _, rfl, rp8, rfl, rfl⟩
  ·refine Gy hc6 rfl ?_
   exact Zu (Zd (hk5 () _ _ ⟨g0, hfr, rfl, rp0, rfl, b1⟩ h))
 ·rintro _ rV w9 ⟨g9, hfr, lR, nO, mR, nR⟩ h
  refine Z5 (Zg (.slice none 0 0) rfl rfl (Z3 (Zq h (fun (s : (List (List Z2))) e w => ∃ (g : Gh) (v5 : Value), Fr gI wI g w ∧ e 2 = .slice none 0 0 ∧ OA 4002 g w 63 (([] : List Z2) : List Z2) (Value.slice none 0 0) ∧ e 5 = v5 ∧ RV g.m w (s : List (List Z2)) v5 ∧ OS 1005 g w 49 (s : List (List Z2)) v5) (fun X49 aR pR h => ?_) ?_)))
  ·refine Z5 (Zo lR rfl (Zx (Iz ((x0).length : Int)) (G3 underlying69 rfl nO) rfl (Zn (Iz (0)) rfl rfl (Z3 (Zr (Kv h (fun (s : (List (List Z2)) × Int) e w => ∃ (g : Gh) (v5 : Value), Fr gI wI g w ∧ e 2 = .slice none 0 0 ∧ OA 4002 g w 63 (([] : List Z2) : List Z2) (Value.slice none 0 0) ∧ e 5 = v5 ∧ RV g.m w (s.1 : List (List Z2)) v5 ∧ OS 1005 g w 49 (s.1 : List (List Z2)) v5 ∧ e 21 = up0 ∧ RV g.m w (x0 : List (List UInt8)) up0 ∧ e 22 = Iz (((x0).length : Int)) ∧ e 23 = Iz (s.2)) ⟨g9, (.slice none 0 0), hfr, mR, nR, rfl, Tp, OS.nil, rfl, nO, rfl, rfl⟩ (fun X50 dR qR => ?_)))))))
   rintro ⟨aG, mB⟩ oU sV ⟨oO, pH, hfr, eL, qH, gL, sH, tH, cK, vF, dK, kG⟩ h;refine Z5 (Gd (.bool ((decide (mB < ((x0).length : Int))))) kG dK rfl rfl (Z3 (Zf ?_)));rcases Zt h with ⟨vK, h⟩ | ⟨vK, h⟩
   ·refine Gx vK rfl (Zu (Zd (Zq h (fun (s : (List (List Z2))) e w => ∃ (g : Gh) (v5 : Value), Fr gI wI g w ∧ e 2 = .slice none 0 0 ∧ OA 4002 g w 63 (([] : List Z2) : List Z2) (Value.slice none 0 0) ∧ e 5 = v5 ∧ RV g.m w (s : List (List Z2)) v5 ∧ OS 1005 g w 49 (s : List (List Z2)) v5 ∧ e 21 = up0 ∧ RV g.m w (x0 : List (List UInt8)) up0 ∧ e 22 = Iz (((x0).length : Int)) ∧ e 23 = Iz (mB)) (fun X71 eR tR h => ?_) ?_)))
    ·refine Zr (Z5 (Zo kG rfl ?_))
     obtain ⟨gR, pO, h⟩ := Z1 h;refine Zx (Gq up0 mB 1) (Zh (α := List UInt8) underlying69 sizeOf50 cK vF kG pO) rfl ?_;have pT := Gn vF pO;refine Z4 rfl (Z7 (g := oO) isAgg50 sizeOf50 rfl pT fun qO sT => (Zg (Iz (mB)) rfl rfl (Zg qO rfl rfl (Z3 (Z5 (Zn qO rfl rfl ?_))))));obtain ⟨oE, uR, h⟩ := Z1 h;refine Z4 rfl (Zp (g := oO) (vs := [qO]) en32 (.cons rfl .nil) (wk32 sT uR) fun iR xR tV hs hr => ?_);have hfr := hfr.ext hs;have qH := qH.ext hs;have sH := sH.ext hs;have tH := tH.ext hs;have vF := vF.ext hs;obtain ⟨bG, bU, cU, rfl, zP, rfl, rfl⟩ := hr;refine Zn (.tuple #[bG, Iz (oE.2.1), Iz (oE.2.2)]) rfl rfl (Zx bG (Zi rfl rfl) rfl (Zx (Iz (oE.2.1)) (Zi rfl rfl) rfl (Zx (Iz (oE.2.2)) (Zi rfl rfl) rfl (Zg bG rfl rfl (Zg (Iz (oE.2.1)) rfl rfl (Zg (Iz (oE.2.2)) rfl rfl (Z3 (Zq h (fun (s : Unit) e w => ∃ (g : Gh) , Fr gI wI g w ∧ e 2 = .slice none 0 0 ∧ OA 4002 g w 63 (([] : List Z2) : List Z2) (Value.slice none 0 0) ∧ e 5 = pH ∧ RV g.m w (aG : List (List Z2)) pH ∧ OS 1005 g w 49 (aG : List (List Z2)) pH ∧ e 8 = bG ∧ RV g.m w (oE.1 : List Z2) bG ∧ e 21 = up0 ∧ RV g.m w (x0 : List (List UInt8)) up0 ∧ e 22 = Iz (((x0).length : Int)) ∧ e 23 = Iz (mB)) (fun X80 k80 yR h => ?_) ?_))))))))
     ·refine Z5 (Zn (Iz (oE.2.2)) rfl rfl (Gd (.bool ((oE.2.2 != (0 : Int)))) rfl rfl rfl rfl (Z3 ?_)))
      rcases Zt h with ⟨xK, h⟩ | ⟨xK, h⟩
      ·refine Gx xK rfl (Z5 (Zn (Iz (mB)) rfl rfl (Zn (Iz (oE.2.2)) rfl rfl (Zg (.slice none 0 0) rfl rfl ?_))))
       have b82 : OA 4002 iR xR 63 ([] : List Z2) (.slice none 0 0) := OA.nil;refine Zg (Iz (mB)) rfl rfl (Zg (Iz (oE.2.2)) rfl rfl (Z3 (Z9 (Gf (G2 (Gf (Gf (G2 (Gf ?_)))))))));obtain ⟨gp83, hs, rp83⟩ := OM.pub (b82.toM);have hfr := hfr.stp hs;obtain rfl := sinj h;exact Hc rfl rfl (rq (.slice none 0 0)) (rq (Iz (mB))) (rq (Iz (oE.2.2))) ⟨_, hfr, _, _, _, rfl, rp83, rfl, rfl⟩
      ·refine Gy xK rfl ?_
       exact Zu (Zd (yR () _ _ ⟨iR, hfr, eL, qH, gL, sH, tH, rfl, zP, cK, vF, dK, kG⟩ h))
     ·rintro _ pU uV ⟨tT, hfr, bQ, sF, cQ, lG, mG, dQ, eQ, rO, vE, sO, tO⟩ h
      refine Za (Zo cQ rfl (Zo dQ rfl (Z4 rfl (Bi (g := tT) 4040 (xs := ([oE.1] : List (List Z2))) (vs := [bG]) underlying206 sizeOf49 zeroValue49 rfl rfl (.cons rfl .nil) (RVs.cons eQ RVs.nil) rfl rfl fun vV xV yV hs b85 _ => ?_))));have hfr := hfr.stp hs;have sF := sF.stp hs rfl;have lG := lG.stp hs;have mG := mG.stp hs rfl;have vE := vE.stp hs;obtain ⟨gp86, hs, rp86⟩ := OM.pub (b85.toM);have hfr := hfr.stp hs;have sF := sF.stp hs rfl;have lG := lG.stp hs;have mG := mG.stp hs rfl;have vE := vE.stp hs;obtain ⟨mO, zR, h⟩ := Z1 h;refine Z4 rfl (Qd (g := gp86) (i := 1005) underlying206 Oe rfl rfl mG lG rfl rp86 zR fun uT zV jR hs o87 xT _ => ?_);have hfr := hfr.stp hs;have sF := sF.stp hs rfl;have vE := vE.stp hs;refine Zg jR rfl rfl ?_;exact Zb (Th (Zd (tR (mO) _ _ ⟨uT, (jR), hfr, bQ, sF, rfl, xT, o87, rO, vE, sO, tO⟩ h)))
    ·rintro pJ qU aW ⟨yT, gQ, hfr, iQ, jQ, kQ, lQ, mQ, uO, vO, xO, yO⟩ h
     refine Za (Gd (Iz ((w64 (mB + (1 : Int))))) yO rfl rfl rfl (Zn (Iz ((w64 (mB + (1 : Int))))) rfl rfl ?_));exact Z3 (qR (pJ, (w64 (mB + (1 : Int)))) _ _ ⟨yT, (gQ), hfr, iQ, jQ, kQ, lQ, mQ, uO, vO, xO, rfl⟩ h)
   ·refine Gy vK rfl (Tu (G5 (G5 (Tf ?_))))
    exact Zd (pR (aG) _ _ ⟨oO, (pH), hfr, eL, qH, gL, sH, tH⟩ h)
  ·rintro lB rU bW ⟨zT, nB, hfr, nQ, qJ, oQ, uH, rJ⟩ h
   refine Z5 (Z4 rfl (L6 (g := zT) (Y2 Jm) Z2 8043 fun aU cW cF hs m91 => ?_));have hfr := hfr.stp hs;have qJ := qJ.stp hs rfl;have uH := uH.stp hs;have rJ := rJ.stp hs rfl;refine Zg cF rfl rfl (Z3 (Zq h (fun (s : (List Z2)) e w => ∃ (g : Gh) (v2 : Value), Fr gI wI g w ∧ e 2 = v2 ∧ OA 4002 g w 63 (s : List Z2) v2) (fun X301 eO pQ h => ?_) ?_))
   ·refine Z5 (Zo oQ rfl (Zx (Iz ((lB).length : Int)) (G3 underlying206 rfl uH) rfl (Zn (Iz (0)) rfl rfl (Z3 (Zr (Kv h (fun (s : (List Z2) × (List (Gu × Z2)) × Int) e w => ∃ (g : Gh) (v2 : Value), Fr gI wI g w ∧ e 2 = v2 ∧ OA 4002 g w 63 (s.1 : List Z2) v2 ∧ e 11 = cF ∧ MP (Y2 Jm) 8043 g w (s.2.1 : List (Gu × Z2)) cF ∧ e 44 = nB ∧ RV g.m w (lB : List (List Z2)) nB ∧ OS 1005 g w 49 (lB : List (List Z2)) nB ∧ e 45 = Iz (((lB).length : Int)) ∧ e 46 = Iz (s.2.2)) ⟨aU, (.slice none 0 0), hfr, nQ, qJ, rfl, m91, rfl, uH, rJ, rfl, rfl⟩ (fun X302 gO qQ => ?_)))))))
    rintro ⟨jG, dI, aB⟩ dU sU ⟨yK, lK, hfr, mK, nK, mL, nL, iI, cH, oL, jI, cG⟩ h;refine Z5 (Gd (.bool ((decide (aB < ((lB).length : Int))))) cG jI rfl rfl (Z3 (Zf ?_)));rcases Zt h with ⟨sJ, h⟩ | ⟨sJ, h⟩
    ·refine Gx sJ rfl (Zu (Zd (Zq h (fun (s : (List Z2) × (List (Gu × Z2))) e w => ∃ (g : Gh) (v2 : Value), Fr gI wI g w ∧ e 2 = v2 ∧ OA 4002 g w 63 (s.1 : List Z2) v2 ∧ e 11 = cF ∧ MP (Y2 Jm) 8043 g w (s.2 : List (Gu × Z2)) cF ∧ e 44 = nB ∧ RV g.m w (lB : List (List Z2)) nB ∧ OS 1005 g w 49 (lB : List (List Z2)) nB ∧ e 45 = Iz (((lB).length : Int)) ∧ e 46 = Iz (aB)) (fun X407 jO rQ h => ?_) ?_)))
     ·refine Zr (Z5 (Zo cG rfl ?_))
      obtain ⟨lE, iL, h⟩ := Z1 h;refine Zx (Gq nB aB 1) (Zh (α := List Z2) underlying206 sizeOf49 iI cH cG iL) rfl ?_;have aS := Gn cH iL;refine Z4 rfl (Z7 (g := yK) isAgg49 sizeOf49 rfl aS fun xE zO => (Zg (Iz (aB)) rfl rfl (Zg xE rfl rfl (Z3 (Z5 (Zn xE rfl rfl (Zx (Iz ((lE).length : Int)) (G3 underlying49 rfl zO) rfl (Zn (Iz (0)) rfl rfl (Z3 (Zr (Kv h (fun (s : (List Z2) × (List (Gu × Z2)) × Int) e w => ∃ (g : Gh) (v2 : Value), Fr gI wI g w ∧ e 2 = v2 ∧ OA 4002 g w 63 (s.1 : List Z2) v2 ∧ e 11 = cF ∧ MP (Y2 Jm) 8043 g w (s.2.1 : List (Gu × Z2)) cF ∧ e 12 = Iz (aB) ∧ e 44 = nB ∧ RV g.m w (lB : List (List Z2)) nB ∧ OS 1005 g w 49 (lB : List (List Z2)) nB ∧ e 45 = Iz (((lB).length : Int)) ∧ e 46 = Iz (aB) ∧ e 51 = xE ∧ RV g.m w (lE : List Z2) xE ∧ e 52 = Iz (((lE).length : Int)) ∧ e 53 = Iz (s.2.2)) ⟨yK, (lK), hfr, mK, nK, mL, nL, rfl, iI, cH, oL, jI, cG, rfl, zO, rfl, rfl⟩ (fun X411 kO sQ => ?_))))))))))));rintro ⟨mE, n9, oB⟩ eU tU ⟨zK, eF, hfr, aI, nD, eG, yB, kI, gH, cC, lD, jH, kH, lH, zB, mH, gG⟩ h;refine Z5 (Gd (.bool ((decide (oB < ((lE).length : Int))))) gG mH rfl rfl (Z3 (Zf ?_)));rcases Zt h with ⟨vJ, h⟩ | ⟨vJ, h⟩
      ·refine Gx vJ rfl (Zu (Zd (Zq h (fun (s : (List Z2) × (List (Gu × Z2))) e w => ∃ (g : Gh) (v2 : Value), Fr gI wI g w ∧ e 2 = v2 ∧ OA 4002 g w 63 (s.1 : List Z2) v2 ∧ e 11 = cF ∧ MP (Y2 Jm) 8043 g w (s.2 : List (Gu × Z2)) cF ∧ e 12 = Iz (aB) ∧ e 44 = nB ∧ RV g.m w (lB : List (List Z2)) nB ∧ OS 1005 g w 49 (lB : List (List Z2)) nB ∧ e 45 = Iz (((lB).length : Int)) ∧ e 46 = Iz (aB) ∧ e 51 = xE ∧ RV g.m w (lE : List Z2) xE ∧ e 52 = Iz (((lE).length : Int)) ∧ e 53 = Iz (oB)) (fun X461 tK jL h => ?_) ?_)))
       ·refine Zr (Z5 ?_)
        obtain ⟨n8, lL, h⟩ := Z1 h;refine Zx (Gq xE oB 5) (Zh (α := Z2) underlying49 sizeOf63 lH zB gG lL) rfl ?_;have cS := Gn zB lL;refine Z4 rfl (Z7 (g := zK) isAgg63 sizeOf63 rfl cS fun dS aL => (Z4 rfl (Td (g := zK) 2015 (⟨0, 0, 0, 0, 0⟩ : Z2) zeroValue63 (fun m w => ⟨_, (Gk Zw (Gk Zw (Gk Zw (Gk Zw Zw)))), rfl⟩) fun eS uU xF hs b465 cb => ?_)));have hfr := hfr.stp hs;have nD := nD.stp hs rfl;have yB := yB.stp hs rfl;have cC := cC.stp hs;have lD := lD.stp hs rfl;have zB := zB.stp hs;have aL := aL.stp hs;clear cb;refine Z4 rfl (Gv (g := eS) (v := dS) sizeOf63 rfl b465 rfl aL fun bI gS hs b466 cb => ?_);clear cb;have hfr := hfr.stp hs;have nD := nD.stp hs rfl;have yB := yB.stp hs rfl;have cC := cC.stp hs;have lD := lD.stp hs rfl;have zB := zB.stp hs;refine Z3 (Z5 (Zo eG rfl (Zx (Gc xF 0) (Zc W1 rfl (OB.ptr b466)) rfl (Z4 rfl (Hz (g := bI) G8.1 isAgg3 sizeOf3 rfl b466 fun vU iS => ?_)))));obtain rfl := Zj.1 iS;refine Zx (Gc xF 1) (Zc Kh rfl (OB.ptr b466)) rfl (Z4 rfl (Hz (g := bI) Tg.1 isAgg3 sizeOf3 rfl b466 fun xU jS => ?_));obtain rfl := Zj.1 jS;have aP : RV bI.m gS (⟨(n8).Day, (n8).Loom⟩ : Gu) (.agg (Qf [[Iz 0], [Iz 0]] [(0, Iz ((n8).Day)), (1, Iz ((n8).Loom))]).flatten.toArray) := Qq rfl (Tq (rfl) (Qv (rfl)));generalize tQ : (Value.agg (Qf [[Iz 0], [Iz 0]] [(0, Iz ((n8).Day)), (1, Iz ((n8).Loom))]).flatten.toArray) = lS at aP;refine Zx lS (tQ ▸ T7 (vs := [(0, Iz ((n8).Day)), (1, Iz ((n8).Loom))]) [[Iz 0], [Iz 0]] Lc rfl rfl (.cons rfl (.cons rfl .nil)) ⟨⟨_, rfl, rfl⟩, ⟨⟨_, rfl, rfl⟩, trivial⟩⟩) rfl (Z4 rfl (Fl (g := bI) (z0 := (⟨0, 0, 0, 0, 0⟩ : Z2)) underlying207 F3 zeroValue63 (fun m w => ⟨_, (Gk Zw (Gk Zw (Gk Zw (Gk Zw Zw)))), rfl⟩) rfl yB (rfl.trans (Ll Jm aP)) fun bL dL => (Zn (.tuple #[bL, .bool ((Jq n9 ((⟨(n8).Day, (n8).Loom⟩ : Gu))).isSome)]) rfl rfl (Zx bL (Zi rfl rfl) rfl (Zx (.bool ((Jq n9 ((⟨(n8).Day, (n8).Loom⟩ : Gu))).isSome)) (Zi rfl rfl) rfl (Z4 rfl (Td (g := bI) 2016 (⟨0, 0, 0, 0, 0⟩ : Z2) zeroValue63 (fun m w => ⟨_, (Gk Zw (Gk Zw (Gk Zw (Gk Zw Zw)))), rfl⟩) fun mS yU zU hs b473 cb => ?_)))))));have hfr := hfr.stp hs;have nD := nD.stp hs rfl;have yB := yB.stp hs rfl;have cC := cC.stp hs;have lD := lD.stp hs rfl;have zB := zB.stp hs;have b466 := b466.stp hs rfl;have dL := dL.stp hs;clear cb;refine Z4 rfl (Gv (g := mS) (v := bL) sizeOf63 rfl b473 rfl dL fun xJ aV hs b474 cb => ?_);clear cb;have hfr := hfr.stp hs;have nD := nD.stp hs rfl;have yB := yB.stp hs rfl;have cC := cC.stp hs;have lD := lD.stp hs rfl;have zB := zB.stp hs;have b466 := b466.stp hs rfl;refine Zg (.bool ((Jq n9 ((⟨(n8).Day, (n8).Loom⟩ : Gu))).isSome)) rfl rfl (Z3 (Zq h (fun (s : Unit) e w => ∃ (g : Gh) , Fr gI wI g w ∧ e 2 = eF ∧ OA 4002 g w 63 (mE : List Z2) eF ∧ e 11 = cF ∧ MP (Y2 Jm) 8043 g w (n9 : List (Gu × Z2)) cF ∧ e 12 = Iz (aB) ∧ e 15 = xF ∧ OB 2015 g w 63 (n8 : Z2) xF ∧ e 17 = .bool (((Jq n9 ((⟨(n8).Day, (n8).Loom⟩ : Gu))).isSome)) ∧ e 44 = nB ∧ RV g.m w (lB : List (List Z2)) nB ∧ OS 1005 g w 49 (lB : List (List Z2)) nB ∧ e 45 = Iz (((lB).length : Int)) ∧ e 46 = Iz (aB) ∧ e 51 = xE ∧ RV g.m w (lE : List Z2) xE ∧ e 52 = Iz (((lE).length : Int)) ∧ e 53 = Iz (oB)) (fun X485 lO uQ h => ?_) ?_))
        ·obtain ⟨zE, hx, h⟩ := Z1 h
         refine G6 (fun e w => ∃ (g : Gh) , Fr gI wI g w ∧ e 2 = eF ∧ OA 4002 g w 63 (mE : List Z2) eF ∧ e 11 = cF ∧ MP (Y2 Jm) 8043 g w (n9 : List (Gu × Z2)) cF ∧ e 12 = Iz (aB) ∧ e 15 = xF ∧ OB 2015 g w 63 (n8 : Z2) xF ∧ e 17 = .bool (((Jq n9 ((⟨(n8).Day, (n8).Loom⟩ : Gu))).isSome)) ∧ e 44 = nB ∧ RV g.m w (lB : List (List Z2)) nB ∧ OS 1005 g w 49 (lB : List (List Z2)) nB ∧ e 45 = Iz (((lB).length : Int)) ∧ e 46 = Iz (aB) ∧ e 51 = xE ∧ RV g.m w (lE : List Z2) xE ∧ e 52 = Iz (((lE).length : Int)) ∧ e 53 = Iz (oB) ∧ e 72 = .bool (zE)) (fun Q' hQ => ?_) (fun gU nS hR => ?_)
         ·replace h := hx
          clear hx;refine Za (Zn (.bool ((Jq n9 ((⟨(n8).Day, (n8).Loom⟩ : Gu))).isSome)) rfl rfl (Zn (.bool ((Jq n9 ((⟨(n8).Day, (n8).Loom⟩ : Gu))).isSome)) rfl rfl ?_));rcases Zt h with ⟨rE, h⟩ | ⟨rE, h⟩
          ·refine Ze (.yes2 rfl rfl rE) rfl (T8 (g := xJ) isAgg63 sizeOf63 rfl b474 fun bV oS => (Ze (.yes2 rfl rfl rE) rfl (T8 (g := xJ) isAgg63 sizeOf63 rfl b466 fun cV pS => (Zy (.bool ((!(decide (((Jq n9 ((⟨(n8).Day, (n8).Loom⟩ : Gu))).getD (⟨0, 0, 0, 0, 0⟩ : Z2)) = n8))))) (M4 Mu rfl O8 rfl rfl oS pS) rfl rfl rE rfl (Zx (.bool ((!(decide (((Jq n9 ((⟨(n8).Day, (n8).Loom⟩ : Gu))).getD (⟨0, 0, 0, 0, 0⟩ : Z2)) = n8))))) (Zl (b := ((Jq n9 ((⟨(n8).Day, (n8).Loom⟩ : Gu))).isSome)) rfl (Tc rE rfl)) rfl (Zb ?_))))))
           obtain rfl := sinj h;exact hQ _ _ ⟨xJ, hfr, aI, nD, eG, yB, kI, rfl, b466, rfl, gH, cC, lD, jH, kH, lH, zB, mH, gG, rfl⟩
          ·refine Zz rfl rfl rE rfl rfl (Zz rfl rfl rE rfl rfl (Zz rfl rfl rE rfl rfl (Zx (.bool false) (Zl (b := ((Jq n9 ((⟨(n8).Day, (n8).Loom⟩ : Gu))).isSome)) rfl (Gz rE rfl)) rfl (Zb ?_))))
           obtain rfl := sinj h;exact hQ _ _ ⟨xJ, hfr, aI, nD, eG, yB, kI, rfl, b466, rfl, gH, cC, lD, jH, kH, lH, zB, mH, gG, rfl⟩
         ·clear hx
          obtain ⟨cP, hfr, dP, eP, xL, yL, lI, zL, aM, cM, dM, eM, iM, jM, kM, pM, qM, rM, eN, mI⟩ := hR;rcases Zt h with ⟨zJ, h⟩ | ⟨zJ, h⟩
          ·refine Ta (Eq.trans (show ev _ _ = .bool (zE) from mI) (congrArg Value.bool zJ)) (Z5 (Zo lI rfl (Zg (.slice none 0 0) rfl rfl ?_)))
           have b494 : OA 4002 cP nS 63 ([] : List Z2) (.slice none 0 0) := OA.nil;refine Zg (Iz (aB)) rfl rfl (Zg (Iz (6)) rfl rfl (Z3 (Z9 (Gf (G2 (Gf (Gf (G2 (G2 (Gf (Gf (G2 (Gf ?_)))))))))))));obtain ⟨gp495, hs, rp495⟩ := OM.pub (b494.toM);have hfr := hfr.stp hs;obtain rfl := sinj h;exact Hc rfl rfl (rq (.slice none 0 0)) (rq (Iz (aB))) (rq (Iz (6))) ⟨_, hfr, _, _, _, rfl, rp495, rfl, rfl⟩
          ·refine G1 (Eq.trans (show ev _ _ = .bool (zE) from mI) (congrArg Value.bool zJ)) ?_
           exact Zu (Zd (uQ () _ _ ⟨cP, hfr, dP, eP, xL, yL, lI, zL, aM, cM, dM, eM, iM, jM, kM, pM, qM, rM, eN⟩ h))
        ·rintro _ iU qS ⟨nH, hfr, oK, rF, oH, nI, pI, iG, oD, gN, qI, aE, bE, sI, jJ, kJ, iE, lJ, oJ⟩ h
         refine Z5 (Zx (.bool (((Jq n9 ((⟨(n8).Day, (n8).Loom⟩ : Gu))).isSome))) (Zk gN) rfl (Zx (.bool (!((Jq n9 ((⟨(n8).Day, (n8).Loom⟩ : Gu))).isSome))) (Qj rfl) rfl (Z3 ?_)));rcases Zt h with ⟨aK, h⟩ | ⟨aK, h⟩
         ·refine Gx aK rfl (Z5 (Zo oH rfl (Zx (Gc xF 0) (Zc W1 iG (OB.ptr oD)) rfl (Z4 rfl (Hz (g := nH) G8.1 isAgg3 sizeOf3 rfl oD fun dV rS => ?_)))))
          obtain rfl := Zj.1 rS;refine Zx (Gc xF 1) (Zc Kh iG (OB.ptr oD)) rfl (Z4 rfl (Hz (g := nH) Tg.1 isAgg3 sizeOf3 rfl oD fun eV sS => ?_));obtain rfl := Zj.1 sS;have gP : RV nH.m qS (⟨(n8).Day, (n8).Loom⟩ : Gu) (.agg (Qf [[Iz 0], [Iz 0]] [(0, Iz ((n8).Day)), (1, Iz ((n8).Loom))]).flatten.toArray) := Qq rfl (Tq (rfl) (Qv (rfl)));generalize vQ : (Value.agg (Qf [[Iz 0], [Iz 0]] [(0, Iz ((n8).Day)), (1, Iz ((n8).Loom))]).flatten.toArray) = tS at gP;refine Zx tS (vQ ▸ T7 (vs := [(0, Iz ((n8).Day)), (1, Iz ((n8).Loom))]) [[Iz 0], [Iz 0]] Lc rfl rfl (.cons rfl (.cons rfl .nil)) ⟨⟨_, rfl, rfl⟩, ⟨⟨_, rfl, rfl⟩, trivial⟩⟩) rfl (Z4 rfl (T8 (g := nH) isAgg63 sizeOf63 iG oD fun gV uS => (Z4 rfl (Ck (g := nH) underlying207 F3 rfl nI (rfl.trans (Ll Jm gP)) rfl uS fun iP iV hs m504 => ?_))));have hfr := hfr.stp hs;have rF := rF.stp hs rfl;have oD := oD.stp hs rfl;have aE := aE.stp hs;have bE := bE.stp hs rfl;have iE := iE.stp hs;refine Z3 (Za (Zo oK rfl (Z4 rfl (T8 (g := iP) isAgg63 sizeOf63 iG oD fun vS xS => (Z4 rfl (Ga (g := iP) 3085 (xs := ([n8] : List Z2)) (vs := [vS]) underlying49 sizeOf63 zeroValue63 rfl rfl (.cons rfl .nil) (RVs.cons xS RVs.nil) rfl rfl fun yS jV kV hs o506 zS hxt hfl => ?_))))));have hfr := hfr.stp hs;have rF := rF.stp hs rfl;have m504 := m504.stp hs rfl;have aE := aE.stp hs;have bE := bE.stp hs rfl;have iE := iE.stp hs;obtain ⟨uK, xQ, h⟩ := Z1 h;refine Z4 rfl (B2 (g := yS) Xv (i := 4002) underlying49 V1 rfl rfl rF rfl zS xQ fun eT lV jP hs b507 => ?_);have hfr := hfr.stp hs;have m504 := m504.stp hs rfl;have aE := aE.stp hs;have bE := bE.stp hs rfl;have iE := iE.stp hs;refine Zg jP rfl rfl ?_;exact Zb (Th (Zd (jL (uK, (Bp n9 ((⟨(n8).Day, (n8).Loom⟩ : Gu)) n8)) _ _ ⟨eT, (jP), hfr, rfl, b507, oH, m504, pI, qI, aE, bE, sI, jJ, kJ, iE, lJ, oJ⟩ h)))
         ·refine Gy aK rfl ?_
          exact Zu (Th (Zd (jL (mE, n9) _ _ ⟨nH, (eF), hfr, oK, rF, oH, nI, pI, qI, aE, bE, sI, jJ, kJ, iE, lJ, oJ⟩ h)))
       ·rintro ⟨zH, zG⟩ jU mV ⟨lT, kP, hfr, lP, sP, iN, jN, kN, lN, mN, nN, oN, pN, qN, rN, sN, tN⟩ h
        refine Za (Gd (Iz ((w64 (oB + (1 : Int))))) tN rfl rfl rfl (Zn (Iz ((w64 (oB + (1 : Int))))) rfl rfl ?_));exact Z3 (sQ (zH, zG, (w64 (oB + (1 : Int)))) _ _ ⟨lT, (kP), hfr, lP, sP, iN, jN, kN, lN, mN, nN, oN, pN, qN, rN, sN, rfl⟩ h)
      ·refine Gy vJ rfl (Tu (G5 (G5 (Tf ?_))))
       exact Th (Zd (rQ (mE, n9) _ _ ⟨zK, (eF), hfr, aI, nD, eG, yB, gH, cC, lD, jH, kH⟩ h))
     ·rintro ⟨yH, yG⟩ kU nV ⟨mT, tP, hfr, uP, vP, uN, vN, xN, yN, zN, aO, bO⟩ h
      refine Za (Gd (Iz ((w64 (aB + (1 : Int))))) bO rfl rfl rfl (Zn (Iz ((w64 (aB + (1 : Int))))) rfl rfl ?_));exact Z3 (qQ (yH, yG, (w64 (aB + (1 : Int)))) _ _ ⟨mT, (tP), hfr, uP, vP, uN, vN, xN, yN, zN, aO, rfl⟩ h)
    ·refine Gy sJ rfl (Tu (G5 (G5 (Tf ?_))))
     exact Zd (pQ (jG) _ _ ⟨yK, (lK), hfr, mK, nK⟩ h)
   ·rintro yE lU nT ⟨xP, yF, hfr, pK, qK⟩ h
    refine Zq h (fun (s : Unit) e w => ∃ (g : Gh) , Fr gI wI g w ∧ e 2 = yF ∧ OA 4002 g w 63 (yE : List Z2) yF) (fun X515 dO yQ h => ?_) ?_
    ·refine Z5 (Zo pK rfl (Zx (Iz ((yE).length : Int)) (P1 underlying49 rfl (qK.toM)) rfl (Gd (.bool ((decide (((yE).length : Int) > (100 : Int))))) rfl rfl rfl rfl (Z3 ?_))))
     rcases Zt h with ⟨bK, h⟩ | ⟨bK, h⟩
     ·refine Gx bK rfl (Z5 (Zg (.slice none 0 0) rfl rfl ?_))
      have b517 : OA 4002 xP nT 63 ([] : List Z2) (.slice none 0 0) := OA.nil;refine Zg (Iz (0)) rfl rfl (Zg (Iz (5)) rfl rfl (Z3 (Z9 (Gf ?_))));obtain ⟨gp518, hs, rp518⟩ := OM.pub (b517.toM);have hfr := hfr.stp hs;obtain rfl := sinj h;exact Hc rfl rfl (rq (.slice none 0 0)) (rq (Iz (0))) (rq (Iz (5))) ⟨_, hfr, _, _, _, rfl, rp518, rfl, rfl⟩
     ·refine Gy bK rfl ?_
      exact Zu (Zd (yQ () _ _ ⟨xP, hfr, pK, qK⟩ h))
    ·rintro _ mU oV ⟨oT, hfr, sK, yP⟩ h
     refine Z5 (Zo sK rfl ?_);obtain ⟨cO, zQ, h⟩ := Z1 h;refine Z4 rfl (Lm (g := oT) (i := 4002) (vs := [yF, .func (.func 89) #[] #[]]) en134 (.cons rfl (.cons rfl .nil)) (wk134s (yP.toM) zQ) fun pV nU qV hs hr => ?_);obtain ⟨hrv, b520⟩ := hr;have hfr := hfr.stp hs;subst hrv;refine Z3 (Z5 (Zo sK rfl (Zg yF rfl rfl (Zg (Iz (0)) rfl rfl (Zg (Iz (0)) rfl rfl (Z3 (Z9 ?_)))))));obtain ⟨gp522, hs, rp522⟩ := OM.pub b520;have hfr := hfr.stp hs;obtain rfl := sinj h;exact Hc rfl rfl (rq yF) (rq (Iz (0))) (rq (Iz (0))) ⟨_, hfr, _, _, _, rfl, rp522, rfl, rfl⟩
def f143 (x0 : ChainBelt) : Option (Gj × Int) :=
 jn (σ := Gj) (fun cC =>
  some ((⟨x0, (x0).Hooks⟩ : Gj), (0 : Int))
  ) fun k33 =>
 (f173 ((x0).Hooks)).bind fun nB =>
 bif (!nB) then
  some ((⟨x0, (x0).Hooks⟩ : Gj), (3 : Int))
 else
  bif (decide ((((x0).Cards).length : Int) > (60 : Int))) then
   some ((⟨x0, (x0).Hooks⟩ : Gj), (5 : Int))
  else
   (f174 ((x0).Hooks) ((x0).Cards)).bind fun oB =>
   bif (!oB) then
    some ((⟨x0, (x0).Hooks⟩ : Gj), (2 : Int))
   else
    k33 ((⟨⟨0, []⟩, 0⟩ : Gj))
theorem en143 : Enters prog 143 := enters_of func143 (by kernel_rfl) rfl
theorem wk143 {gI : Gh} {wI : World} {x0 : ChainBelt} {up0 : Value} (rp0 : RV gI.m wI x0 up0) {r : Gj × Int} (h : f143 x0 = some r) : Fn prog 143 #[up0] gI wI (fun m w v => ∃ y0 y1, v = .tuple #[y0, y1] ∧ RV m w (r.1) y0 ∧ y1 = Iz (r.2)) := by
 unfold f143 at h;refine fnE func143 rfl rfl fun g0 hm hfr => ?_;have rp0 := RVc hm rp0;show E _ 30 none _ _ _ _ _;refine Z5 (Z4 rfl (T1 (g := g0) rfl rp0 fun g1 w1 p1 hs q1 => ?_));have hfr := hfr.ext hs;refine Z4 rfl (Td (g := g1) 2002 (⟨⟨0, []⟩, 0⟩ : Gj) zeroValue220 (fun m w => ⟨_, (Gk (Gk Zw Q0) Zw), rfl⟩) fun g2 w2 p2 hs b2 cb => ?_);have hfr := hfr.stp hs;have q1 := q1.stp hs;have n8 : OSF 2002 60201 1 g2 w2 96 220 ([] : List Gb) p2 := cb.osf (by rfl);clear cb;refine Zg (Iz (0)) rfl rfl (Z3 (Z5 (Z4 rfl (Z7 (g := g2) isAgg92 sizeOf92 rfl q1 fun v3 r3 => (Zx (Gc p1 0) (Zc Jv rfl (PT.ptr q1)) rfl ?_)))));have q4 := Zm (Q5).1 q1;refine Z4 rfl (Z7 (g := g2) isAgg3 sizeOf3 rfl q4 fun v5 r5 => ?_);obtain rfl := Zj.1 r5;have r6 : RV g2.m _ (⟨x0, (x0).Hooks⟩ : Gj) (.agg (Qf [[Iz 0, .slice none 0 0], [Iz 0]] [(0, v3), (1, Iz ((x0).Hooks))]).flatten.toArray) := Qq rfl (Tq (RV.cells r3) (Qv (rfl)));generalize xE : (Value.agg (Qf [[Iz 0, .slice none 0 0], [Iz 0]] [(0, v3), (1, Iz ((x0).Hooks))]).flatten.toArray) = v6 at r6;refine Zx v6 (xE ▸ T7 (vs := [(0, v3), (1, Iz ((x0).Hooks))]) [[Iz 0, .slice none 0 0], [Iz 0]] Og rfl rfl (.cons rfl (.cons rfl .nil)) ⟨⟨_, rfl, T4 r3⟩, ⟨⟨_, rfl, rfl⟩, trivial⟩⟩) rfl (Z4 rfl (Td (g := g2) 2004 (⟨⟨0, []⟩, 0⟩ : Gj) zeroValue220 (fun m w => ⟨_, (Gk (Gk Zw Q0) Zw), rfl⟩) fun g7 w7 p7 hs b7 cb => ?_));have hfr := hfr.stp hs;have q1 := q1.stp hs;have n8 := n8.stp hs rfl;have b2 := b2.stp hs rfl;have r6 := r6.stp hs;have jG : OSF 2004 60401 1 g7 w7 96 220 ([] : List Gb) p7 := cb.osf (by rfl);clear cb;refine Z4 rfl (Gv (g := g7) (v := v6) sizeOf220 rfl b7 rfl r6 fun g8 w8 hs b8 cb => ?_);clear cb;have hfr := hfr.stp hs;have q1 := q1.stp hs;have n8 := n8.stp hs rfl;have b2 := b2.stp hs rfl;refine Z3 (Zq h (fun (s : Gj) e w => ∃ (g : Gh) , Fr gI wI g w ∧ e 2 = p2 ∧ OB 2002 g w 220 (s : Gj) p2 ∧ OSF 2002 60201 1 g w 96 220 (((s).ChainBelt).Cards) p2 ∧ e 4 = p7 ∧ OB 2004 g w 220 ((⟨x0, (x0).Hooks⟩ : Gj) : Gj) p7) (fun X33 k33 bE h => ?_) ?_)
 ·refine Zr (Z5 (Zx (Gc p7 2) (Zc Dv rfl (OB.ptr b8)) rfl (Z4 rfl (Hz (g := g8) Ks.1 isAgg218 sizeOf218 rfl b8 fun yG yE => ?_))))
  obtain rfl := Zj.1 yE;obtain ⟨nB, iE, h⟩ := Z1 h;refine Z4 rfl (Zp (g := g8) (vs := [Iz ((x0).Hooks)]) en173 (.cons rfl .nil) (wk173  iE) fun n9 kG zG hs hr => ?_);have hfr := hfr.ext hs;have q1 := q1.ext hs;have n8 := n8.ext hs;have b2 := b2.ext hs;have b8 := b8.ext hs;subst hr;refine Zx (.bool (!nB)) (Qj rfl) rfl (Zg (.bool (!nB)) rfl rfl (Z3 ?_));rcases Zt h with ⟨aB, h⟩ | ⟨aB, h⟩
  ·refine Gx aB rfl (Z5 (Z4 rfl (T8 (g := n9) isAgg220 sizeOf220 rfl b8 fun zE cF => (Z4 rfl (Gv (g := n9) (v := zE) sizeOf220 rfl b2 rfl cF fun cH gH hs b40 cb => ?_)))))
   clear cb;have hfr := hfr.stp hs;refine Zg (Iz (3)) rfl rfl (Z3 (Z9 (G2 (Gf ?_))));obtain rfl := sinj h;obtain ⟨ad41, cv41, hp41, lE, cr41⟩ := Qy isAgg220 sizeOf220 b40;exact Jr rfl rfl ((rq p2).trans hp41) lE (rq (Iz (3))) ⟨_, hfr, _, _, rfl, cr41, rfl⟩
  ·refine Gy aB rfl (Z5 (Zx (Gc p1 1) (Zc Hg rfl (PT.ptr q1)) rfl ?_))
   have eF := Zm (Qi).1 q1;refine Z4 rfl (Z7 (g := n9) isAgg90 sizeOf90 rfl eF fun jH rF => (Zx (Iz (((x0).Cards).length : Int)) (G3 underlying90 rfl rF) rfl (Zx (.bool ((decide ((((x0).Cards).length : Int) > (60 : Int))))) (Gp rfl rfl rfl) rfl (Zx (.bool ((decide ((((x0).Cards).length : Int) > (60 : Int))))) (Tv rfl) rfl (Z3 ?_)))));rcases Zt h with ⟨lB, h⟩ | ⟨lB, h⟩
   ·refine Gx lB rfl (Z5 (Z4 rfl (T8 (g := n9) isAgg220 sizeOf220 rfl b8 fun sF vF => (Z4 rfl (Gv (g := n9) (v := sF) sizeOf220 rfl b2 rfl vF fun kH lH hs b46 cb => ?_)))))
    clear cb;have hfr := hfr.stp hs;refine Zg (Iz (5)) rfl rfl (Z3 (Z9 (G2 (Gf ?_))));obtain rfl := sinj h;obtain ⟨ad47, cv47, hp47, mE, cr47⟩ := Qy isAgg220 sizeOf220 b46;exact Jr rfl rfl ((rq p2).trans hp47) mE (rq (Iz (5))) ⟨_, hfr, _, _, rfl, cr47, rfl⟩
   ·refine Gy lB rfl (Z5 (Zx (Gc p7 2) (Zc Dv rfl (OB.ptr b8)) rfl (Z4 rfl (Hz (g := n9) Ks.1 isAgg218 sizeOf218 rfl b8 fun mH xF => ?_))))
    obtain rfl := Zj.1 xF;refine Zx (Gc p1 1) (Zc Hg rfl (PT.ptr q1)) rfl ?_;have yF := Zm (Qi).1 q1;refine Z4 rfl (Z7 (g := n9) isAgg90 sizeOf90 rfl yF fun aG bG => ?_);obtain ⟨oB, oE, h⟩ := Z1 h;refine Z4 rfl (Zp (g := n9) (vs := [Iz ((x0).Hooks), aG]) en174 (.cons rfl (.cons rfl .nil)) (wk174 bG oE) fun zB lG nH hs hr => ?_);have hfr := hfr.ext hs;have n8 := n8.ext hs;have b2 := b2.ext hs;have b8 := b8.ext hs;subst hr;refine Zx (.bool (!oB)) (Qj rfl) rfl (Zg (.bool (!oB)) rfl rfl (Z3 ?_));rcases Zt h with ⟨mB, h⟩ | ⟨mB, h⟩
    ·refine Gx mB rfl (Z5 (Z4 rfl (T8 (g := zB) isAgg220 sizeOf220 rfl b8 fun cG eG => (Z4 rfl (Gv (g := zB) (v := cG) sizeOf220 rfl b2 rfl eG fun oH pH hs b56 cb => ?_)))))
     clear cb;have hfr := hfr.stp hs;refine Zg (Iz (2)) rfl rfl (Z3 (Z9 (G2 (Gf ?_))));obtain rfl := sinj h;obtain ⟨ad57, cv57, hp57, rE, cr57⟩ := Qy isAgg220 sizeOf220 b56;exact Jr rfl rfl ((rq p2).trans hp57) rE (rq (Iz (2))) ⟨_, hfr, _, _, rfl, cr57, rfl⟩
    ·refine Gy mB rfl ?_
     exact Zu (Th (Zd (bE ((⟨⟨0, []⟩, 0⟩ : Gj)) _ _ ⟨zB, hfr, rfl, b2, n8, rfl, b8⟩ h)))
 ·rintro cC mG qH ⟨aE, hfr, yB, lD, u2_1_58, nD, oD⟩ h
  refine Z5 (Z4 rfl (T8 (g := aE) isAgg220 sizeOf220 nD oD fun gG iG => (Z4 rfl (Gv (g := aE) (v := gG) sizeOf220 yB lD rfl iG fun sH tH hs b60 cb => ?_))));clear cb;have hfr := hfr.stp hs;refine Zg (Iz (0)) rfl rfl (Z3 (Z9 ?_));obtain rfl := sinj h;obtain ⟨ad61, cv61, hp61, vE, cr61⟩ := Qy isAgg220 sizeOf220 b60;exact Jr rfl rfl ((show _ = p2 from yB).trans hp61) vE (show _ = Iz (0) from rfl) ⟨_, hfr, _, _, rfl, cr61, rfl⟩
def f144 (x0 : Str) : Option (Bool) :=
 (f145 x0).bind fun y2 =>
 some ((!y2))
theorem en144 : Enters prog 144 := enters_of func144 (by kernel_rfl) rfl
theorem wk144 {gI : Gh} {wI : World} {x0 : Str}  {r : Bool} (h : f144 x0 = some r) : Fn prog 144 #[Str.v (x0)] gI wI (fun _ _ v => v = .bool (r)) := by
 unfold f144 at h;refine fnE func144 rfl rfl fun g0 hm hfr => ?_;show E _ 6 none _ _ _ _ _;refine Z5 (Zg (.bool false) rfl rfl (Z3 (Z5 (Zn (Str.v (x0)) rfl rfl ?_))));obtain ⟨y2, hy2, h⟩ := Z1 h;refine Z4 rfl (Zp (g := g0) (vs := [Str.v (x0)]) en145 (.cons rfl .nil) (wk145  hy2) fun g1 w1_ v1 hs hr => ?_);have hfr := hfr.ext hs;subst hr;refine Zx (.bool (!y2)) (Qj rfl) rfl (Zg (.bool (!y2)) rfl rfl (Z3 (Z9 ?_)));obtain rfl := sinj h;exact G0 rfl rfl (rq (.bool (!y2))) ⟨_, hfr, rfl⟩
noncomputable def f42 (x0 : List (List UInt8)) : Option ((List UInt8) × Int × Int) :=
 (f95 x0).bind fun y2 =>
 jn (σ := Unit) (fun _ =>
  (f31 (y2.1)).bind fun y8 =>
  some (y8.1, y8.2.1, y8.2.2)
  ) fun k4 =>
 bif (y2.2.2 != (0 : Int)) then
  some ([], y2.2.1, y2.2.2)
 else
  k4 ()
theorem en42 : Enters prog 42 := enters_of func42 (by kernel_rfl) rfl
theorem wk42 {gI : Gh} {wI : World} {x0 : List (List UInt8)} {up0 : Value} (rp0 : RV gI.m wI x0 up0) {r : (List UInt8) × Int × Int} (h : f42 x0 = some r) : Fn prog 42 #[up0] gI wI (fun m w v => ∃ y0 y1 y2, v = .tuple #[y0, y1, y2] ∧ RV m w (r.1) y0 ∧ y1 = Iz (r.2.1) ∧ y2 = Iz (r.2.2)) := by
 unfold f42 at h;refine fnE func42 rfl rfl fun g0 hm hfr => ?_;have rp0 := RVc hm rp0;show E _ 21 none _ _ _ _ _;refine Z5 (Zg (.slice none 0 0) rfl rfl (Zg (Iz (0)) rfl rfl (Zg (Iz (0)) rfl rfl (Z3 (Z5 (Zn up0 rfl rfl ?_))))));obtain ⟨y2, hy2, h⟩ := Z1 h;refine Z4 rfl (Zp (g := g0) (vs := [up0]) en95 (.cons rfl .nil) (wk95 rp0 hy2) fun g1 w1_ v1 hs hr => ?_);have hfr := hfr.ext hs;obtain ⟨n8, yB, zB, rfl, aB, rfl, rfl⟩ := hr;refine Zn (.tuple #[n8, Iz (y2.2.1), Iz (y2.2.2)]) rfl rfl (Zx n8 (Zi rfl rfl) rfl (Zx (Iz (y2.2.1)) (Zi rfl rfl) rfl (Zx (Iz (y2.2.2)) (Zi rfl rfl) rfl (Zg n8 rfl rfl (Zg (Iz (y2.2.1)) rfl rfl (Zg (Iz (y2.2.2)) rfl rfl (Z3 (Zq h (fun (s : Unit) e w => ∃ (g : Gh) , Fr gI wI g w ∧ e 5 = n8 ∧ RV g.m w (y2.1 : List Z2) n8) (fun X4 k4 hk4 h => ?_) ?_))))))))
 ·refine Z5 (Zn (Iz (y2.2.2)) rfl rfl (Gd (.bool ((y2.2.2 != (0 : Int)))) rfl rfl rfl rfl (Z3 ?_)))
  rcases Zt h with ⟨hc5, h⟩ | ⟨hc5, h⟩
  ·refine Gx hc5 rfl (Z5 (Zn (Iz (y2.2.1)) rfl rfl (Zn (Iz (y2.2.2)) rfl rfl (Zg (.slice none 0 0) rfl rfl (Zg (Iz (y2.2.1)) rfl rfl (Zg (Iz (y2.2.2)) rfl rfl (Z3 (Z9 (Gf ?_)))))))))
   obtain rfl := sinj h;exact Hc rfl rfl (rq (.slice none 0 0)) (rq (Iz (y2.2.1))) (rq (Iz (y2.2.2))) ⟨_, hfr, _, _, _, rfl, Tp, rfl, rfl⟩
  ·refine Gy hc5 rfl ?_
   exact Zu (Zd (hk4 () _ _ ⟨g1, hfr, rfl, aB⟩ h))
 ·rintro _ nD w6 ⟨g6, hfr, lB, mB⟩ h
  refine Z5 (Zo lB rfl ?_);obtain ⟨y8, oB, h⟩ := Z1 h;refine Z4 rfl (Zp (g := g6) (vs := [n8]) en31 (.cons rfl .nil) (wk31 mB oB) fun g7 w7_ v7 hs hr => ?_);have hfr := hfr.ext hs;obtain ⟨n9, cC, lD, rfl, nB, rfl, rfl⟩ := hr;refine Zx n9 (Zi rfl rfl) rfl (Zx (Iz (y8.2.1)) (Zi rfl rfl) rfl (Zx (Iz (y8.2.2)) (Zi rfl rfl) rfl (Zg n9 rfl rfl (Zg (Iz (y8.2.1)) rfl rfl (Zg (Iz (y8.2.2)) rfl rfl (Z3 (Z9 ?_)))))));obtain rfl := sinj h;exact Hc rfl rfl (rq n9) (rq (Iz (y8.2.1))) (rq (Iz (y8.2.2))) ⟨_, hfr, _, _, _, rfl, nB, rfl, rfl⟩
def f107 (x0 : ChainBelt) : Option (Int) :=
 (f143 x0).bind fun y4 =>
 some (y4.2)
theorem en107 : Enters prog 107 := enters_of func107 (by kernel_rfl) rfl
theorem wk107 {gI : Gh} {wI : World} {x0 : ChainBelt} {up0 : Value} (rp0 : RV gI.m wI x0 up0) {r : Int} (h : f107 x0 = some r) : Fn prog 107 #[up0] gI wI (fun _ _ v => v = Iz (r)) := by
 unfold f107 at h;refine fnE func107 rfl rfl fun g0 hm hfr => ?_;have rp0 := RVc hm rp0;show E _ 11 none _ _ _ _ _;refine Z5 (Z4 rfl (T1 (g := g0) rfl rp0 fun g1 w1 p1 hs q1 => ?_));have hfr := hfr.ext hs;refine Zg (Iz (0)) rfl rfl (Z3 (Z5 (Z4 rfl (Z7 (g := g1) isAgg92 sizeOf92 rfl q1 fun v2 r2 => ?_))));obtain ⟨y4, aB, h⟩ := Z1 h;refine Z4 rfl (Zp (g := g1) (vs := [v2]) en143 (.cons rfl .nil) (wk143 r2 aB) fun g3 w3_ v3 hs hr => ?_);have hfr := hfr.ext hs;obtain ⟨n8, lB, rfl, n9, rfl⟩ := hr;refine Zn (.tuple #[n8, Iz (y4.2)]) rfl rfl (Zx n8 (Zi rfl rfl) rfl (Zx (Iz (y4.2)) (Zi rfl rfl) rfl (Z4 rfl (Td (g := g3) 2003 (⟨⟨0, []⟩, 0⟩ : Gj) zeroValue220 (fun m w => ⟨_, (Gk (Gk Zw Q0) Zw), rfl⟩) fun g5 w5 p5 hs b5 cb => ?_))));have hfr := hfr.stp hs;have n9 := n9.stp hs;have mB : OSF 2003 60301 1 g5 w5 96 220 ([] : List Gb) p5 := cb.osf (by rfl);clear cb;refine Z4 rfl (Gv (g := g5) (v := n8) sizeOf220 rfl b5 rfl n9 fun g6 w6 hs b6 cb => ?_);clear cb;have hfr := hfr.stp hs;refine Zg (Iz (y4.2)) rfl rfl (Z3 (Z5 (Zn (Iz (y4.2)) rfl rfl (Zg (Iz (y4.2)) rfl rfl (Z3 (Z9 ?_))))));obtain rfl := sinj h;exact G0 rfl rfl (rq (Iz (y4.2))) ⟨_, hfr, rfl⟩
def f112 (x0 : List Str) : Option (Bool) :=
 Option.bind (α := Bool) (
  (f146 x0 ((fun a0 => f144 a0))).bind fun lB =>
  bif (!lB) then
   (f147 x0).bind fun mB =>
   bif mB then
    (f149 x0).bind fun yB =>
    (f148 yB).bind fun nB =>
    some ((((nB).length : Int) == ((x0).length : Int)))
   else
    some (false)
  else
   some (false)
  ) fun aB =>
 some (aB)
theorem en112 : Enters prog 112 := enters_of func112 (by kernel_rfl) rfl
theorem wk112 {gI : Gh} {wI : World} {x0 : List Str} {up0 : Value} (rp0 : RV gI.m wI x0 up0) {r : Bool} (h : f112 x0 = some r) : Fn prog 112 #[up0] gI wI (fun _ _ v => v = .bool (r)) := by
 unfold f112 at h;refine fnE func112 rfl rfl fun g0 hm hfr => ?_;have rp0 := RVc hm rp0;show E _ 21 none _ _ _ _ _;refine Z5 (Zg (.bool false) rfl rfl (Z3 (Z5 (Zg (.func (.func 144) #[] #[]) rfl rfl (Z3 ?_)))));obtain ⟨aB, hx, h⟩ := Z1 h;refine G6 (fun e w => ∃ (g : Gh) , Fr gI wI g w ∧ e 2 = .bool (aB)) (fun Q' hQ => ?_) (fun lE xE hR => ?_)
 ·replace h := hx
  clear hx;refine Za (Zn up0 rfl rfl (Zn (.func (.func 144) #[] #[]) rfl rfl ?_));obtain ⟨lB, hy12, h⟩ := Z1 h;refine Z4 rfl (Zp (g := g0) (vs := [up0, .func (.func 144) #[] #[]]) en146 (.cons rfl (.cons rfl .nil)) (wk146 rp0 ⟨144, #[], #[], rfl, en144, fun g' w' hch a0 b0 r hu0 hr => by obtain rfl := Ts.1 hu0; exact Fn.mono (wk144   hr) fun _ _ _ h => Wl.2 h⟩ hy12) fun g11 mE yE hs hr => ?_);have hfr := hfr.ext hs;have rp0 := rp0.ext hs;subst hr;refine Zx (.bool (!lB)) (Qj rfl) rfl (Zn (.bool (!lB)) rfl rfl ?_);rcases Zt h with ⟨n9, h⟩ | ⟨n9, h⟩
  ·refine Zy up0 (Zk rfl) rfl rfl n9 rfl ?_
   obtain ⟨mB, cC, h⟩ := Z1 h;refine Ze (.yes2 rfl rfl n9) rfl (Zp (g := g11) (vs := [up0]) en147 (.cons rfl .nil) (wk147 rp0 cC) fun zB oE zE hs hr => ?_);have hfr := hfr.ext hs;have rp0 := rp0.ext hs;subst hr;refine Zx (.bool (mB)) (Zl (b := (!lB)) rfl (Tc n9 rfl)) rfl (Zn (.bool (mB)) rfl rfl ?_);rcases Zt h with ⟨n8, h⟩ | ⟨n8, h⟩
   ·refine Zy up0 (Zk rfl) rfl rfl n8 rfl ?_
    obtain ⟨yB, lD, h⟩ := Z1 h;refine Ze (.yes2 rfl rfl n8) rfl (Zp (g := zB) (vs := [up0]) en149 (.cons rfl .nil) (wk149 rp0 lD) fun nD rE oD hs hr => ?_);have hfr := hfr.ext hs;have rp0 := rp0.ext hs;have aE := hr;obtain ⟨nB, hy20, h⟩ := Z1 h;refine Ze (.yes2 rfl rfl n8) rfl (Zp (g := nD) (vs := [oD]) en148 (.cons rfl .nil) (wk148 aE hy20) fun bE vE cF hs hr => ?_);have hfr := hfr.ext hs;have rp0 := rp0.ext hs;have iE := hr;refine Zy (Iz ((nB).length : Int)) (G3 underlying104 rfl iE) rfl rfl n8 rfl (Zy up0 (Zk rfl) rfl rfl n8 rfl (Zy (Iz ((x0).length : Int)) (G3 underlying104 rfl rp0) rfl rfl n8 rfl (Zy (.bool ((((nB).length : Int) == ((x0).length : Int)))) (Gp rfl rfl rfl) rfl rfl n8 rfl (Zx (.bool ((((nB).length : Int) == ((x0).length : Int)))) (Zl (b := mB) rfl (Tc n8 rfl)) rfl (Zg (.bool ((((nB).length : Int) == ((x0).length : Int)))) rfl rfl (Zb ?_))))));obtain rfl := sinj h;exact hQ _ _ ⟨bE, hfr, rfl⟩
   ·refine Zz rfl rfl n8 rfl rfl ?_
    iterate 6 refine Zz rfl rfl n8 rfl rfl ?_
    refine Zx (.bool false) (Zl (b := mB) rfl (Gz n8 rfl)) rfl (Zg (.bool false) rfl rfl (Zb ?_));obtain rfl := sinj h;exact hQ _ _ ⟨zB, hfr, rfl⟩
  ·refine Zz rfl rfl n9 rfl rfl (Zz rfl rfl n9 rfl rfl (Zx (.bool false) (Zl (b := (!lB)) rfl (Gz n9 rfl)) rfl (Kk 9 rfl (Zg (.bool false) rfl rfl (Zb ?_)))))
   obtain rfl := sinj h;exact hQ _ _ ⟨g11, hfr, rfl⟩
 ·clear hx
  obtain ⟨eF, hfr, oB⟩ := hR;refine Z9 ?_;obtain rfl := sinj h;exact G0 rfl rfl (show _ = .bool (aB) from oB) ⟨_, hfr, rfl⟩
def f135 (x0 : ChainBelt) (x1 : Int) (x2 : List Int) : Option ((List Int) × Int × Int) :=
 (f143 x0).bind fun y4 =>
 jn (σ := Unit) (fun _ =>
  Option.bind (α := (List Int) × Int) (
   lp (σ := (List Int) × Int × Int) (fun tH (nD, lB, n9) =>
    bif (decide (n9 < ((x2).length : Int))) then
     Option.bind (α := (List Int) × Int) (
      (idx x2 n9).bind fun bE =>
      (f164 (y4.1) lB).bind fun y80 =>
      (apnd 8 nD (([y80] : List Int))).bind fun uH =>
      (f165 (y4.1) lB bE).bind fun yF =>
      some (uH, yF)
      ) fun (oB, zB) =>
     tH (oB, zB, (w64 (n9 + (1 : Int))))
    else
     some (nD, lB)
    ) big ([], x1, (0 : Int))
   ) fun (cC, yB) =>
  some (cC, yB, (0 : Int))
  ) fun k18 =>
 bif (y4.2 != (0 : Int)) then
  some ([], (0 : Int), y4.2)
 else
  (f163 ((0 : Int)) ((w64 ((((x0).Cards).length : Int) - (1 : Int)))) (([x1] : List Int))).bind fun cF =>
  bif (!cF) then
   some ([], (0 : Int), (7 : Int))
  else
   bif (decide (((x2).length : Int) > (60 : Int))) then
    some ([], (0 : Int), (5 : Int))
   else
    (f163 ((0 : Int)) ((2 : Int)) x2).bind fun eF =>
    bif (!eF) then
     some ([], (0 : Int), (2 : Int))
    else
     k18 ()
theorem en135 : Enters prog 135 := enters_of func135 (by kernel_rfl) rfl
theorem wk135 {gI : Gh} {wI : World} {x0 : ChainBelt} {x1 : Int} {x2 : List Int} {up0 : Value} (rp0 : RV gI.m wI x0 up0) {up2 : Value} (rp2 : RV gI.m wI x2 up2) {r : (List Int) × Int × Int} (h : f135 x0 x1 x2 = some r) : Fn prog 135 #[up0, Iz (x1), up2] gI wI (fun m w v => ∃ y0 y1 y2, v = .tuple #[y0, y1, y2] ∧ RV m w (r.1) y0 ∧ y1 = Iz (r.2.1) ∧ y2 = Iz (r.2.2)) := by
 unfold f135 at h;refine fnE func135 rfl rfl fun g0 hm hfr => ?_;have rp0 := RVc hm rp0;have rp2 := RVc hm rp2;show E _ 58 none _ _ _ _ _;refine Z5 (Z4 rfl (T1 (g := g0) rfl rp0 fun g1 w1 p1 hs q1 => ?_));have hfr := hfr.ext hs;have rp2 := rp2.ext hs;refine Zg (.slice none 0 0) rfl rfl (Zg (Iz (0)) rfl rfl (Zg (Iz (0)) rfl rfl (Z3 (Z5 (Z4 rfl (Z7 (g := g1) isAgg92 sizeOf92 rfl q1 fun v2 r2 => ?_))))));obtain ⟨y4, mI, h⟩ := Z1 h;refine Z4 rfl (Zp (g := g1) (vs := [v2]) en143 (.cons rfl .nil) (wk143 r2 mI) fun g3 w3_ v3 hs hr => ?_);have hfr := hfr.ext hs;have rp2 := rp2.ext hs;have q1 := q1.ext hs;obtain ⟨mE, mK, rfl, oE, rfl⟩ := hr;refine Zn (.tuple #[mE, Iz (y4.2)]) rfl rfl (Zx mE (Zi rfl rfl) rfl (Zx (Iz (y4.2)) (Zi rfl rfl) rfl (Z4 rfl (Td (g := g3) 2009 (⟨⟨0, []⟩, 0⟩ : Gj) zeroValue220 (fun m w => ⟨_, (Gk (Gk Zw Q0) Zw), rfl⟩) fun g5 w5 p5 hs b5 cb => ?_))));have hfr := hfr.stp hs;have rp2 := rp2.stp hs;have q1 := q1.stp hs;have oE := oE.stp hs;have nK : OSF 2009 60901 1 g5 w5 96 220 ([] : List Gb) p5 := cb.osf (by rfl);clear cb;refine Z4 rfl (Gv (g := g5) (v := mE) sizeOf220 rfl b5 rfl oE fun g6 w6 hs b6 cb => ?_);clear cb;have hfr := hfr.stp hs;have rp2 := rp2.stp hs;have q1 := q1.stp hs;refine Zg (Iz (y4.2)) rfl rfl (Z3 (Zq h (fun (s : Unit) e w => ∃ (g : Gh) , Fr gI wI g w ∧ e 1 = Iz (x1) ∧ e 2 = up2 ∧ RV g.m w (x2 : List Int) up2 ∧ e 6 = .slice none 0 0 ∧ RV g.m w ([] : List Int) (Value.slice none 0 0) ∧ e 9 = p5 ∧ OB 2009 g w 220 (y4.1 : Gj) p5) (fun X18 k18 aI h => ?_) ?_))
 ·refine Zr (Z5 (Zn (Iz (y4.2)) rfl rfl (Gd (.bool ((y4.2 != (0 : Int)))) rfl rfl rfl rfl (Zg (.bool ((y4.2 != (0 : Int)))) rfl rfl (Z3 ?_)))))
  rcases Zt h with ⟨rE, h⟩ | ⟨rE, h⟩
  ·refine Gx rE rfl (Z5 (Zn (Iz (y4.2)) rfl rfl (Zg (.slice none 0 0) rfl rfl (Zg (Iz (0)) rfl rfl (Zg (Iz (y4.2)) rfl rfl (Z3 (Z9 (G2 (Gf ?_)))))))))
   obtain rfl := sinj h;exact Hc rfl rfl (rq (.slice none 0 0)) (rq (Iz (0))) (rq (Iz (y4.2))) ⟨_, hfr, _, _, _, rfl, Tp, rfl, rfl⟩
  ·refine Gy rE rfl (Z5 (Zx (Gc p1 1) (Zc Hg rfl (PT.ptr q1)) rfl ?_))
   have nI := Zm (Qi).1 q1;refine Z4 rfl (Z7 (g := g6) isAgg90 sizeOf90 rfl nI fun yK pI => (Zx (Iz (((x0).Cards).length : Int)) (G3 underlying90 rfl pI) rfl (Zx (Iz ((w64 ((((x0).Cards).length : Int) - (1 : Int))))) (Gp rfl rfl rfl) rfl (Zn (Iz (x1)) rfl rfl (Z4 rfl (Ga (g := g6) 3027 (xs := ([x1] : List Int)) (vs := [Iz (x1)]) underlying22 sizeOf3 zeroValue3 rfl rfl (.cons rfl .nil) (RVs.cons (Zj.2 rfl) RVs.nil) rfl rfl fun qI zK sI hs o22 jJ hxt hfl => ?_))))));have hfr := hfr.stp hs;have rp2 := rp2.stp hs;have b6 := b6.stp hs rfl;obtain ⟨cF, bI, h⟩ := Z1 h;refine Z4 rfl (Zp (g := qI) (vs := [Iz (0), Iz ((w64 ((((x0).Cards).length : Int) - (1 : Int)))), sI]) en163 (.cons rfl (.cons rfl (.cons rfl .nil))) (wk163 jJ bI) fun kJ oK aL hs hr => ?_);have hfr := hfr.ext hs;have rp2 := rp2.ext hs;have b6 := b6.ext hs;subst hr;refine Zx (.bool (!cF)) (Qj rfl) rfl (Zg (.bool (!cF)) rfl rfl (Z3 ?_));rcases Zt h with ⟨vE, h⟩ | ⟨vE, h⟩
   ·refine Gx vE rfl (Z5 (Zg (.slice none 0 0) rfl rfl (Zg (Iz (0)) rfl rfl (Zg (Iz (7)) rfl rfl (Z3 (Z9 (G2 (Gf ?_))))))))
    obtain rfl := sinj h;exact Hc rfl rfl (rq (.slice none 0 0)) (rq (Iz (0))) (rq (Iz (7))) ⟨_, hfr, _, _, _, rfl, Tp, rfl, rfl⟩
   ·refine Gy vE rfl (Z5 (Zn up2 rfl rfl (Zx (Iz ((x2).length : Int)) (G3 underlying22 rfl rp2) rfl (Gd (.bool ((decide (((x2).length : Int) > (60 : Int))))) rfl rfl rfl rfl (Zg (.bool ((decide (((x2).length : Int) > (60 : Int))))) rfl rfl (Z3 ?_))))))
    rcases Zt h with ⟨xE, h⟩ | ⟨xE, h⟩
    ·refine Gx xE rfl (Z5 (Zg (.slice none 0 0) rfl rfl (Zg (Iz (0)) rfl rfl (Zg (Iz (5)) rfl rfl (Z3 (Z9 (G2 (Gf ?_))))))))
     obtain rfl := sinj h;exact Hc rfl rfl (rq (.slice none 0 0)) (rq (Iz (0))) (rq (Iz (5))) ⟨_, hfr, _, _, _, rfl, Tp, rfl, rfl⟩
    ·refine Gy xE rfl (Z5 (Zn up2 rfl rfl ?_))
     obtain ⟨eF, dI, h⟩ := Z1 h;refine Z4 rfl (Zp (g := kJ) (vs := [Iz (0), Iz (2), up2]) en163 (.cons rfl (.cons rfl (.cons rfl .nil))) (wk163 rp2 dI) fun lJ pK bL hs hr => ?_);have hfr := hfr.ext hs;have rp2 := rp2.ext hs;have b6 := b6.ext hs;subst hr;refine Zx (.bool (!eF)) (Qj rfl) rfl (Zg (.bool (!eF)) rfl rfl (Z3 ?_));rcases Zt h with ⟨yE, h⟩ | ⟨yE, h⟩
     ·refine Gx yE rfl (Z5 (Zg (.slice none 0 0) rfl rfl (Zg (Iz (0)) rfl rfl (Zg (Iz (2)) rfl rfl (Z3 (Z9 (G2 (Gf ?_))))))))
      obtain rfl := sinj h;exact Hc rfl rfl (rq (.slice none 0 0)) (rq (Iz (0))) (rq (Iz (2))) ⟨_, hfr, _, _, _, rfl, Tp, rfl, rfl⟩
     ·refine Gy yE rfl ?_
      exact Zu (Th (Zd (aI () _ _ ⟨lJ, hfr, rfl, rfl, rp2, rfl, Tp, rfl, b6⟩ h)))
 ·rintro _ qK dL ⟨oJ, hfr, jG, kG, rF, lG, mG, yG, zG⟩ h
  refine Z5 (Zo jG rfl (Zg (Iz (x1)) rfl rfl (Z3 ?_)));obtain ⟨⟨cC, yB⟩, hx, h⟩ := Z1 h;refine G6 (fun e w => ∃ (g : Gh) (v6 : Value), Fr gI wI g w ∧ e 6 = v6 ∧ RV g.m w (cC : List Int) v6 ∧ OS 1006 g w 3 (cC : List Int) v6 ∧ e 7 = Iz (yB)) (fun Q' hQ => ?_) (fun sK eL hR => ?_)
  ·replace h := hx
   clear hx;refine Z5 (Zo kG rfl (Zx (Iz ((x2).length : Int)) (G3 underlying22 rfl rF) rfl (Zn (Iz (0)) rfl rfl (Z3 (Zr (Kv h (fun (s : (List Int) × Int × Int) e w => ∃ (g : Gh) (v6 : Value), Fr gI wI g w ∧ e 6 = v6 ∧ RV g.m w (s.1 : List Int) v6 ∧ OS 1006 g w 3 (s.1 : List Int) v6 ∧ e 7 = Iz (s.2.1) ∧ e 9 = p5 ∧ OB 2009 g w 220 (y4.1 : Gj) p5 ∧ e 39 = up2 ∧ RV g.m w (x2 : List Int) up2 ∧ e 40 = Iz (((x2).length : Int)) ∧ e 41 = Iz (s.2.2)) ⟨oJ, (.slice none 0 0), hfr, lG, mG, OS.nil, rfl, yG, zG, rfl, rF, rfl, rfl⟩ (fun X59 tH iI => ?_)))))));rintro ⟨nD, lB, n9⟩ tK gL ⟨sF, cH, hfr, vF, mB, nB, oD, aE, aB, iE, n8, lE, lD⟩ h;refine Z5 (Gd (.bool ((decide (n9 < ((x2).length : Int))))) lD lE rfl rfl (Z3 (Zf ?_)));rcases Zt h with ⟨zE, h⟩ | ⟨zE, h⟩
   ·refine Gx zE rfl (Zu (Zd ?_))
    obtain ⟨⟨oB, zB⟩, hx, h⟩ := Z1 h;refine G6 (fun e w => ∃ (g : Gh) (v6 : Value), Fr gI wI g w ∧ e 6 = v6 ∧ RV g.m w (oB : List Int) v6 ∧ OS 1006 g w 3 (oB : List Int) v6 ∧ e 7 = Iz (zB) ∧ e 9 = p5 ∧ OB 2009 g w 220 (y4.1 : Gj) p5 ∧ e 39 = up2 ∧ RV g.m w (x2 : List Int) up2 ∧ e 40 = Iz (((x2).length : Int)) ∧ e 41 = Iz (n9)) (fun Q' hQ => ?_) (fun uK iL hR => ?_)
    ·replace h := hx
     clear hx;refine Zr (Z5 ?_);obtain ⟨bE, aG, h⟩ := Z1 h;refine Zx (Gq up2 n9 1) (Zh (α := Int) underlying22 sizeOf3 iE n8 lD aG) rfl ?_;have pJ := Gn n8 aG;refine Z4 rfl (Z7 (g := sF) isAgg3 sizeOf3 rfl pJ fun jL qJ => ?_);obtain rfl := Zj.1 qJ;refine Zg (Iz (bE)) rfl rfl (Z3 (Z5 (Zo vF rfl (Z4 rfl (T8 (g := sF) isAgg220 sizeOf220 aE aB fun rJ sJ => (Zo oD rfl ?_))))));obtain ⟨y80, jI, h⟩ := Z1 h;refine Z4 rfl (Zp (g := sF) (vs := [rJ, Iz (lB)]) en164 (.cons rfl (.cons rfl .nil)) (wk164 sJ jI) fun vJ vK lL hs hr => ?_);have hfr := hfr.ext hs;have mB := mB.ext hs;have nB := nB.ext hs;have aB := aB.ext hs;have n8 := n8.ext hs;subst hr;refine Z4 rfl (Ga (g := vJ) 3049 (xs := ([y80] : List Int)) (vs := [Iz (y80)]) underlying22 sizeOf3 zeroValue3 rfl rfl (.cons rfl .nil) (RVs.cons (Zj.2 rfl) RVs.nil) rfl rfl fun xJ mL nL hs o81 zJ hxt hfl => ?_);have hfr := hfr.stp hs;have mB := mB.stp hs;have nB := nB.stp hs rfl;have aB := aB.stp hs rfl;have n8 := n8.stp hs;obtain ⟨uH, kI, h⟩ := Z1 h;refine Z4 rfl (Qd (g := xJ) (i := 1006) underlying22 Rg rfl rfl nB mB rfl zJ kI fun yH oL zH hs o82 bG _ => ?_);have hfr := hfr.stp hs;have aB := aB.stp hs rfl;have n8 := n8.stp hs;refine Zg zH rfl rfl (Z3 (Za (Z4 rfl (T8 (g := yH) isAgg220 sizeOf220 aE aB fun aK bK => (Zo oD rfl (Zn (Iz (bE)) rfl rfl ?_))))));obtain ⟨yF, lI, h⟩ := Z1 h;refine Z4 rfl (Zp (g := yH) (vs := [aK, Iz (lB), Iz (bE)]) en165 (.cons rfl (.cons rfl (.cons rfl .nil))) (wk165 bK lI) fun cK xK xL hs hr => ?_);have hfr := hfr.ext hs;have bG := bG.ext hs;have o82 := o82.ext hs;have aB := aB.ext hs;have n8 := n8.ext hs;subst hr;refine Zg (Iz (yF)) rfl rfl (Zb (Th ?_));obtain ⟨rfl, rfl⟩ := Jb h;exact hQ _ _ ⟨cK, (zH), hfr, rfl, bG, o82, rfl, aE, aB, iE, n8, lE, lD⟩
    ·clear hx
     obtain ⟨dK, gH, hfr, jH, kH, lH, mH, nH, oH, cG, eG, gG, iG⟩ := hR;refine Za (Gd (Iz ((w64 (n9 + (1 : Int))))) iG rfl rfl rfl (Zn (Iz ((w64 (n9 + (1 : Int))))) rfl rfl ?_));exact Z3 (iI (oB, zB, (w64 (n9 + (1 : Int)))) _ _ ⟨dK, (gH), hfr, jH, kH, lH, mH, nH, oH, cG, eG, gG, rfl⟩ h)
   ·refine Gy zE rfl (Tu (G5 (G5 (Tf ?_))))
    obtain ⟨rfl, rfl⟩ := Jb h;exact hQ _ _ ⟨sF, (cH), hfr, vF, mB, nB, oD⟩
  ·clear hx
   obtain ⟨yL, xF, hfr, pH, qH, lK, sH⟩ := hR;refine Z5 (Zo pH rfl (Zo sH rfl (Zg xF rfl rfl (Zg (Iz (yB)) rfl rfl (Zg (Iz (0)) rfl rfl (Z3 (Z9 ?_)))))));obtain rfl := sinj h;exact Hc rfl rfl (rq xF) (rq (Iz (yB))) (rq (Iz (0))) ⟨_, hfr, _, _, _, rfl, qH, rfl, rfl⟩
theorem idx_lt {α : Type} {xs : List α} {i : Int} {a : α} (h : idx xs i = some a) : i.toNat < xs.length := (List.getElem?_eq_some_iff.1 (Wr h).2).1
theorem Ru {α : Type} {xs : List α} {i : Int} {a : α} (h : idx xs i = some a) : xs.set i.toNat a = xs := by
 have h1 := (List.getElem?_eq_some_iff.1 (Wr h).2);obtain ⟨hl, rfl⟩ := h1;exact List.set_getElem_self hl
theorem Ap {α : Type} {xs : List α} {i : Int} {a b : α} (h : idx xs i = some a) : idx (xs.set i.toNat b) i = some b := by
 have h0 := (Wr h).1;have hl := idx_lt h;unfold idx at h ⊢;simp [h0, hl]
theorem Sn {P : Program} {e : Env} {x : Operand} {p : Value} (hx : ev e x = p) (hp : ∃ b o, p = .pointer (some ⟨b, o, none⟩)) : Pur P (.nilCheck x) e p := by
 obtain ⟨b, o, rfl⟩ := hp; exact Z8 hx
theorem Mm : T5 prog 167 = some ([Iz 0, Iz 0], [(0, 1), (1, 1)]) := by kernel_rfl
theorem Nt : T5 prog 24 = some ([Iz 0, .slice none 0 0], [(0, 1), (1, 1)]) := by kernel_rfl
def f96 (cy : T0) (m : Gg) (c : Z2) : Option ((List Str) × Int × T0) :=
 (idx m.Chains c.Chain).bind fun ch => (idx m.Ties c.Tie).bind fun ti =>
 bif ch.Chain.Hooks != ti.Harness.Hooks then some ([], 4, cy) else
 Option.bind (some (bif cy.chain != w64 (c.Chain + (1 : Int)) then ⟨w64 (c.Chain + (1 : Int)), 0⟩ else cy)) fun c1 =>
 (f136 [1] c.Picks).bind fun pk => (f135 ch.Chain c1.card pk).bind fun wv =>
 bif wv.2.2 != (0 : Int) then some ([], wv.2.2, c1) else
 (f137 ti.Harness ⟨ch.Chain.Hooks, wv.1⟩).bind fun t => some (t.1, t.2, { c1 with card := wv.2.1 })
theorem en96 : Enters prog 96 := enters_of func96 (by kernel_rfl) rfl
theorem wk96 {iI : Nat} {gI : Gh} {wI : World} {xs : List T0} {pv : Value} {i : Int} {cy : T0} {m : Gg} {c : Z2} {um uc : Value} (mp0 : OM iI gI wI 167 xs pv) (hi : idx xs i = some cy) (rm : RV gI.m wI m um) (rc : RV gI.m wI c uc) {r : (List Str) × Int × T0} (hf : f96 cy m c = some r) :
  FnM prog 96 #[Gq pv i 2, um, uc] iI gI wI (fun g w v => ∃ y0 y1, v = .tuple #[y0, y1] ∧ RV g.m w r.1 y0 ∧ y1 = Iz r.2.1 ∧ OM iI g w 167 (xs.set i.toNat r.2.2) pv) := by
 unfold f96 at hf
 obtain ⟨ch, hch, hf⟩ := Z1 hf
 obtain ⟨ti, hti, hf⟩ := Z1 hf
 refine Ma func96 rfl (Nat.le_of_ble_eq_true rfl) fun g0 hm hfr => ?_
 have mpI := mp0
 replace mp0 := mp0.enter
 rw [← hm] at mp0
 replace hm : g0.m = gI.m := by rw [hm]
 replace rm : RV g0.m wI m um := hm ▸ rm
 replace rc : RV g0.m wI c uc := hm ▸ rc
 show E _ 75 none _ _ _ _ _
 refine Z5 (Z4 rfl (T1 (g := g0) rfl rm fun g1 w1 pm hx1 qm => (Z4 rfl (T1 (g := g1) rfl (rc.ext hx1) fun g2 w2 pc hx2 qc => ?_))))
 have hfr := (hfr.ext hx1).ext hx2
 have mp := (mp0.ext hx1).ext hx2
 have qm := qm.ext hx2
 refine Zg (.slice none 0 0) rfl rfl (Zg (Iz 0) rfl rfl (Z3 (Zf ?_)))
 clear mp0 hx1 hx2
 -- region 1: the chain and the tie
 have qch := Zm Tt.1 qm
 refine Zs (x := .tmp 13) isAgg37 sizeOf37 qch fun vch rch hch1 => ?_
 have qti := Zm Tl.1 qm
 refine Zs (x := .tmp 20) isAgg36 sizeOf36 qti fun vti rti hti1 => (Zs (x := .tmp 15) isAgg3 sizeOf3 (Zm Qs.1 qc) fun v0 r0 hc3 => ?_)
 obtain rfl := Zj.1 r0
 refine Zs (x := .tmp 22) isAgg3 sizeOf3 (Zm Wq.1 qc) fun v0 r0 hc4 => ?_
 obtain rfl := Zj.1 r0
 have qe := Gn rch hch
 refine Zs (x := .tmp 18) isAgg92 sizeOf92 (Zm Ka.1 qe) fun vb rb hb1 => ?_
 have qt := Gn rti hti
 refine Zs (x := .tmp 25) isAgg106 sizeOf106 (Zm Ws.1 qt) fun vh rh hh1 => (R9 (g := g2) (n := 16) [7, 8, 9, 10, 11, 12, 13] [(14, fun v g w => OB 8 g w 92 (⟨0, []⟩ : ChainBelt) v), (15, fun v g w => OB 9 g w 106 (⟨0, []⟩ : TieHarness) v)] [0, 1, 2, 3, 4, 5, 6, 7, 8, 9, 10, 11, 12, 13, 14, 15] rfl J3 (by kernel_rfl) ⟨fun _ => (fun _ _ _ _ hx h => OB.ext h hx), fun _ => (fun _ _ _ _ hx h => OB.ext h hx), trivial⟩ rfl (Z0 (Gc pm 1) rfl rfl (Zc Q9 rfl (PT.ptr qm)) (Ti (c := vch) rfl rfl .plain (fun _ _ h => h.ch) hch1 rfl (Z0 (Gc pc 2) rfl rfl (Zc Jx rfl (PT.ptr qc)) (Ti (c := Iz c.Chain) rfl rfl .plain (fun _ _ h => h.ch) hc3 rfl (Z0 (Gq vch c.Chain 3) rfl rfl (Zh (α := Gi) underlying37 sizeOf94 rfl rch rfl hch) (Z0 (Gc (Gq vch c.Chain 3) 1) rfl rfl (Zc He rfl (PT.ptr qe)) (Ti (c := vb) rfl rfl .plain (fun _ _ h => h.ch) hb1 rfl (Xh (c := Gc pm 0) rfl rfl .plain (Zc Qm rfl (PT.ptr qm)) (Al (c := vti) rfl rfl .plain (fun _ _ h => h.ch) rfl hti1 rfl (Xh (c := Gc pc 3) rfl rfl .plain (Zc Ur rfl (PT.ptr qc)) (Al (c := Iz c.Tie) rfl rfl .plain (fun _ _ h => h.ch) rfl hc4 rfl (Xh (c := Gq vti c.Tie 3) rfl rfl .plain (Zh (α := Gs) underlying36 sizeOf108 rfl rti rfl hti) (Xh (c := Gc (Gq vti c.Tie 3) 1) rfl rfl .plain (Zc K9 rfl (PT.ptr qt)) (Al (c := vh) rfl rfl .plain (fun _ _ h => h.ch) rfl hh1 rfl (Hn (φ := fun v g w => OB 8 g w 92 (⟨0, []⟩ : ChainBelt) v) rfl rfl .plain (fun g w hd => Wg (g := g) 8 (⟨0, []⟩ : ChainBelt) zeroValue92 (fun m w => ⟨_, Gk Zw Q0, rfl⟩) fun g' w' p hs hr => ⟨g', hs, hr⟩) (fun p8 hv => ?_)))))))))))))))))
 clear hv
 refine Hn (φ := fun v g w => OB 9 g w 106 (⟨0, []⟩ : TieHarness) v) rfl rfl .plain (fun g w hd => Wg (g := g) 9 (⟨0, []⟩ : TieHarness) zeroValue106 (fun m w => ⟨_, Gk Zw Q0, rfl⟩) fun g' w' p hs hr => ⟨g', hs, hr⟩) (fun p9 hv => ?_)
 clear hv
 refine Y7 fun g3 w3 hall => ?_
 have hs := hall.1
 have b8 := Kd (A := fun g w => OB 8 g w 92 (⟨0, []⟩ : ChainBelt) p8) 14 rfl hall
 have b9 := Kd (A := fun g w => OB 9 g w 106 (⟨0, []⟩ : TieHarness) p9) 15 rfl hall
 have hlt : Lt g2.m w2 g3 w3 := hs.ch
 clear hall
 refine O9 hlt.w .plain rfl (Tx (g := g3) (v := vb) sizeOf92 rfl b8 rfl (rb.ext hs) fun g4 w4 hs4 b8 => ?_)
 have hlt := hlt.stp hs4
 refine O9 hlt.w .plain rfl (Tx (g := g4) (v := vh) sizeOf106 rfl (b9.stp hs4 rfl) rfl ((rh.ext hs).stp hs4) fun g5 w5 hs5 b9 => ?_)
 have hlt := hlt.stp hs5
 refine Mk hlt.w (Zd ?_)
 obtain ⟨g6, hs6, q8⟩ := (b8.stp hs5 rfl).pub
 obtain ⟨g7, hs7, q9⟩ := (b9.stp hs6 rfl).pub
 have q8 := q8.stp hs7
 have hfr := ((((hfr.ext hs).stp hs4).stp hs5).stp hs6).stp hs7
 have mp := ((((mp.ext hs).stp hs4 rfl).stp hs5 rfl).stp hs6 rfl).stp hs7 rfl
 have qc := ((((qc.ext hs).stp hs4).stp hs5).stp hs6).stp hs7
 clear hlt hs hs4 hs5 hs6 hs7 b8 b9 rb rh hch1 hti1 hc3 hc4 hb1 hh1 qch qti qe qt rch rti
 -- region 2: the hooks
 refine Zf (Z5 (Zx (Gc p8 0) (Zc Jv rfl (PT.ptr q8)) rfl (Z4 rfl (Z7 (g := g7) isAgg3 sizeOf3 rfl (Zm Q5.1 q8) fun v r => ?_))))
 obtain rfl := Zj.1 r
 refine Zx (Gc p9 0) (Zc Hq rfl (PT.ptr q9)) rfl (Z4 rfl (Z7 (g := g7) isAgg3 sizeOf3 rfl (Zm Qx.1 q9) fun v r => ?_))
 obtain rfl := Zj.1 r
 refine Gd (.bool (ch.Chain.Hooks != ti.Harness.Hooks)) rfl rfl rfl rfl (Z3 ?_)
 rcases Zt hf with ⟨hc, hf⟩ | ⟨hc, hf⟩
 ·refine Gx hc rfl (Z5 (Zg (.slice none 0 0) rfl rfl (Zg (Iz 4) rfl rfl (Z3 (Z9 ?_)))))
  obtain rfl := sinj hf
  exact J4 rfl rfl rfl rfl ⟨_, hfr, _, _, rfl, Tp, rfl, by rw [Ru hi]; exact mpI.back mp⟩
 refine Gy hc rfl (Zu (Zd ?_))
 obtain ⟨c1, hc1, hf⟩ := Z1 hf
 obtain ⟨pk, hpk, hf⟩ := Z1 hf
 obtain ⟨wv, hwv, hf⟩ := Z1 hf
 -- region 4: another chain on the loom
 refine Kl (fun e ds w' => ds = [] ∧ e 0 = Gq pv i 2 ∧ e 5 = pc ∧ e 8 = p8 ∧ e 9 = p9 ∧ ∃ g', FrM iI gI wI g' w' ∧ Ch g7.m w5 g'.m w' ∧ OM 1 g' w' 167 (xs.set i.toNat c1) pv) (fun Q' hQ => ?_) (fun e ds w' hR => ?_)
 ·have hpp := mp.ptrE (k := 2) hi
  refine Zf (Cm (x := .tmp 34) Uv.1 isAgg3 sizeOf3 mp hi fun v r hl1 => ?_)
  obtain rfl := Zj.1 r
  refine Zs (x := .tmp 36) isAgg3 sizeOf3 (Zm Qs.1 qc) fun v r hl2 => ?_
  obtain rfl := Zj.1 r
  refine T6 (g := g7) (n := 8) [] [0, 1, 2, 3, 4, 5, 6, 7] rfl J3 (by kernel_rfl) trivial (Z0 (Gq pv i 2) rfl rfl (Zk rfl) (Z0 (Gq pv i 2) rfl rfl (Sn rfl hpp) (Z0 (Gc (Gq pv i 2) 0) rfl rfl (Zc Mi rfl hpp) (Ti (c := Iz cy.chain) rfl rfl .plain (fun _ _ h => ⟨h.ch, fun b hb _ => h.below.block b hb⟩) hl1 rfl (Z0 (Gc pc 2) rfl rfl (Zc Jx rfl (PT.ptr qc)) (Ti (c := Iz c.Chain) rfl rfl .plain (fun _ _ h => h.ch) hl2 rfl (Z0 (Iz (w64 (c.Chain + (1 : Int)))) rfl rfl (Gp rfl rfl rfl) (Z0 (.bool (cy.chain != w64 (c.Chain + (1 : Int)))) rfl rfl (Gp rfl rfl rfl) (Y7 fun g8 w8 hall => ?_)))))))))
  have hs := hall.1
  refine Z3 ?_
  rcases Bool.eq_false_or_eq_true (cy.chain != w64 (c.Chain + (1 : Int))) with hq | hq
  ·rw [hq] at hc1
   obtain rfl := sinj hc1
   refine Gx hq rfl (Za (Zn (Gq pv i 2) rfl rfl (Zx (Gc pc 2) (Zc Jx rfl (PT.ptr qc)) rfl (Z4 rfl (Z7 (g := g8) isAgg3 sizeOf3 rfl (Zm Qs.1 (qc.ext hs)) fun v r => ?_)))))
   obtain rfl := Zj.1 r
   refine Gd (Iz (w64 (c.Chain + (1 : Int)))) rfl rfl rfl rfl (Zx (.agg #[Iz (w64 (c.Chain + (1 : Int))), Iz 0]) (show Pur _ _ _ (.agg #[Iz (w64 (c.Chain + (1 : Int))), Iz 0]) from T7 (vs := [(0, Iz (w64 (c.Chain + (1 : Int))))]) [[Iz 0], [Iz 0]] Mm rfl rfl (.cons rfl .nil) ⟨⟨_, rfl, rfl⟩, trivial⟩) rfl (Zx (Gq pv i 2) (Sn rfl hpp) rfl (Z4 rfl (Au (g := g8) (α := T0) (a' := ⟨w64 (c.Chain + (1 : Int)), 0⟩) (u := .agg #[Iz (w64 (c.Chain + (1 : Int))), Iz 0]) sizeOf167 rfl (mp.ext hs) hi rfl ⟨_, Gk Zw Zw, rfl⟩ fun g9 w9 hs9 mp9 => ?_))))
   exact Zb (hQ _ _ _ ⟨rfl, rfl, rfl, rfl, rfl, g9, (hfr.ext hs).stp hs9, hs.ch.trans hs9.ch, mp9⟩)
  ·rw [hq] at hc1
   obtain rfl := sinj hc1
   exact Gy hq rfl (Zu (hQ _ _ _ ⟨rfl, rfl, rfl, rfl, rfl, g8, hfr.ext hs, hs.ch, by show OM 1 g8 w8 167 (xs.set i.toNat cy) pv; rw [Ru hi]; exact mp.ext hs⟩))
 obtain ⟨rfl, e0, e5, e8, e9, g, hfrN, hch7, mpN⟩ := hR
 replace hfr := hfrN
 replace mp := mpN
 have q8 := q8.ch hch7
 have q9 := q9.ch hch7
 have qc := qc.ch hch7
 have hi1 := Ap (b := c1) hi
 have hpp := mp.ptrE (k := 2) hi1
 clear hfrN mpN hch7 hc1
 -- region 6: the picks of the chain
 refine Zf (Zs (x := .tmp 8) isAgg92 sizeOf92 q8 fun vb rb hb1 => (Cm (x := .tmp 50) Jf.1 isAgg3 sizeOf3 mp hi1 fun v r hl1 => ?_))
 obtain rfl := Zj.1 r
 refine Zs (x := .tmp 53) isAgg3 sizeOf3 (Zm Wn.1 qc) fun v r hl2 => ?_
 obtain rfl := Zj.1 r
 refine R9 (g := g) (n := 14) [12, 13] [(5, fun v g w => RV g.m w ([1] : List Int) v), (8, fun v g w => RV g.m w pk v), (9, fun v g w => ∃ y0 y1 y2, v = .tuple #[y0, y1, y2] ∧ RV g.m w wv.1 y0 ∧ y1 = Iz wv.2.1 ∧ y2 = Iz wv.2.2)] [0, 1, 2, 3, 4, 5, 6, 7, 8, 9, 10, 11, 12, 13] rfl J3 (by kernel_rfl) ⟨fun _ => Dx, fun _ => Dx, fun _ => (fun _ _ _ _ hx h => let ⟨y0, y1, y2, h1, h2, h3⟩ := h; ⟨y0, y1, y2, h1, RV.ext h2 hx, h3⟩), trivial⟩ rfl (Ti (c := vb) rfl rfl .plain (fun _ _ h => h.ch) hb1 e8 (Z0 (Gq pv i 2) rfl rfl (Zk e0) (Z0 (Gq pv i 2) rfl rfl (Sn rfl hpp) (Z0 (Gc (Gq pv i 2) 1) rfl rfl (Zc Cy rfl hpp) (Ti (c := Iz c1.card) rfl rfl .plain (fun _ _ h => ⟨h.ch, fun b hb _ => h.below.block b hb⟩) hl1 rfl (Hn (φ := fun v g w => RV g.m w ([1] : List Int) v) rfl rfl .plain (fun g w hd => Ga (g := g) 5 (xs := ([1] : List Int)) (vs := [Iz 1]) underlying22 sizeOf3 zeroValue3 rfl rfl (.cons rfl .nil) (RVs.cons (Zj.2 rfl) RVs.nil) rfl rfl fun g' w' v _ _ r hx _ => ⟨g', hx, r⟩) (fun v5 hv => ?_)))))))
 clear hv
 refine Z0 (Gc pc 4) rfl rfl (Zc Uq e5 (PT.ptr qc)) (Ti (c := Iz c.Picks) rfl rfl .plain (fun _ _ h => h.ch) hl2 rfl (Hn (φ := fun v g w => RV g.m w pk v) rfl rfl .plain (fun g w hd => Zp (g := g) (vs := [v5, Iz c.Picks]) en136 (.cons rfl (.cons rfl .nil)) (wk136 (Cq (A := fun g w => RV g.m w ([1] : List Int) v5) 5 rfl rfl (Ju hd)) hpk) fun g' w' v hs hr => ⟨g', hs, hr⟩) (fun v8 hv => ?_)))
 clear hv
 refine Hn (φ := fun v g w => ∃ y0 y1 y2, v = .tuple #[y0, y1, y2] ∧ RV g.m w wv.1 y0 ∧ y1 = Iz wv.2.1 ∧ y2 = Iz wv.2.2) rfl rfl .plain (fun g w hd => Zp (g := g) (vs := [vb, Iz c1.card, v8]) en135 (.cons rfl (.cons rfl (.cons rfl .nil))) (wk135 (rb.ext hd.1) (Cq (A := fun g w => RV g.m w pk v8) 8 rfl rfl (Ju hd)) hwv) fun g' w' v hs hr => ⟨g', hs, hr⟩) (fun v9 hv => ?_)
 obtain ⟨_, _, _, y0, y1, y2, rfl, _, rfl, rfl⟩ := hv
 refine Z0 (.tuple #[y0, Iz wv.2.1, Iz wv.2.2]) rfl rfl (Zk rfl) (Z0 y0 rfl rfl (Zi rfl rfl) (Xh (c := Iz wv.2.1) rfl rfl .plain (Zi rfl rfl) (Xh (c := Iz wv.2.2) rfl rfl .plain (Zi rfl rfl) (Y7 fun g10 w10 hall => ?_))))
 have hs := hall.1
 have ry : RV g10.m w10 wv.1 y0 := by
  obtain ⟨a0, a1, a2, ha, hb, _⟩ := Kd (A := fun g w => ∃ a0 a1 a2, (Value.tuple #[y0, Iz wv.2.1, Iz wv.2.2]) = .tuple #[a0, a1, a2] ∧ RV g.m w wv.1 a0 ∧ a1 = Iz wv.2.1 ∧ a2 = Iz wv.2.2) 9 rfl hall
  injection ha with ha
  have h1 : [y0, Iz wv.2.1, Iz wv.2.2] = [a0, a1, a2] := congrArg Array.toList ha
  injection h1 with h0 _
  exact h0 ▸ hb
 have hlt : Lt g.m w' g10 w10 := hs.ch
 clear hall
 refine F1 hlt.w (v := y0) (Tv rfl) .plain rfl (F1 hlt.w (v := Iz wv.2.1) (Tv rfl) .plain rfl (F1 hlt.w (v := Iz wv.2.2) (Tv rfl) .plain rfl (Mk hlt.w (Zd ?_))))
 replace hfr := hfr.ext hs
 replace mp := mp.ext hs
 replace q8 := q8.ext hs
 replace q9 := q9.ext hs
 clear hlt hs rb hb1 hl1 hl2 qc
 refine Zf (Z5 (Zn (Iz wv.2.2) rfl rfl (Gd (.bool (wv.2.2 != (0 : Int))) rfl rfl rfl rfl (Z3 ?_))))
 rcases Zt hf with ⟨hc2, hf⟩ | ⟨hc2, hf⟩
 ·refine Gx hc2 rfl (Z5 (Zn (Iz wv.2.2) rfl rfl (Zg (.slice none 0 0) rfl rfl (Zg (Iz wv.2.2) rfl rfl (Z3 (Z9 ?_))))))
  obtain rfl := sinj hf
  exact J4 rfl rfl rfl rfl ⟨_, hfr, _, _, rfl, Tp, rfl, mpI.back mp⟩
 refine Gy hc2 rfl (Zu (Zd ?_))
 obtain ⟨tv, htv, hf⟩ := Z1 hf
 obtain rfl := sinj hf
 refine Z5 (Zo e0 rfl (Zn (Iz wv.2.1) rfl rfl (Zx (Gq pv i 2) (Sn rfl hpp) rfl (Zx (Gc (Gq pv i 2) 1) (Zc Cy rfl hpp) rfl (Z4 rfl (Pg (g := g10) (y0 := wv.2.1) Jf sizeOf3 rfl mp hi1 rfl (Zj.2 rfl) fun g11 w11 hs11 mp11 => ?_))))))
 rw [List.set_set] at mp11
 refine Z3 (Z5 ?_)
 replace hfr := hfr.stp hs11
 replace q8 := q8.stp hs11
 replace q9 := q9.stp hs11
 replace ry := ry.stp hs11
 refine Z4 rfl (Z7 (g := g11) isAgg106 sizeOf106 e9 q9 fun vh rh => (Zx (Gc p8 0) (Zc Jv e8 (PT.ptr q8)) rfl (Z4 rfl (Z7 (g := g11) isAgg3 sizeOf3 rfl (Zm Q5.1 q8) fun v r => ?_))))
 obtain rfl := Zj.1 r
 refine Zn y0 rfl rfl ?_
 have rd : RV g11.m w11 (⟨ch.Chain.Hooks, wv.1⟩ : Tb) (.agg (Qf [[Iz 0], [.slice none 0 0]] [(0, Iz ch.Chain.Hooks), (1, y0)]).flatten.toArray) := Qq rfl (Tq (rfl) (Qv (RV.cells ry)))
 generalize hgd : (Value.agg (Qf [[Iz 0], [.slice none 0 0]] [(0, Iz ch.Chain.Hooks), (1, y0)]).flatten.toArray) = vd at rd
 refine Zx vd (hgd ▸ T7 (vs := [(0, Iz ch.Chain.Hooks), (1, y0)]) [[Iz 0], [.slice none 0 0]] Nt rfl rfl (.cons rfl (.cons rfl .nil)) ⟨⟨_, rfl, rfl⟩, ⟨⟨_, rfl, T4 ry⟩, trivial⟩⟩) rfl (Z4 rfl (Zp (g := g11) (vs := [vh, vd]) en137 (.cons rfl (.cons rfl .nil)) (wk137 rh rd htv) fun g12 w12 v12 hx12 hv => ?_))
 obtain ⟨z0, z1, rfl, rz, rfl⟩ := hv
 refine Zx z0 (Zi rfl rfl) rfl (Zx (Iz tv.2) (Zi rfl rfl) rfl (Zg z0 rfl rfl (Zg (Iz tv.2) rfl rfl (Z3 (Z9 ?_)))))
 exact J4 rfl rfl rfl rfl ⟨_, hfr.ext hx12, _, _, rfl, rz, rfl, mpI.back (mp11.ext hx12)⟩

def f106 (x0 : Gi) : Option (Bool) :=
 (f107 ((x0).Chain)).bind fun y5 =>
 some ((y5 != (0 : Int)))
theorem en106 : Enters prog 106 := enters_of func106 (by kernel_rfl) rfl
theorem wk106 {gI : Gh} {wI : World} {x0 : Gi} {up0 : Value} (rp0 : RV gI.m wI x0 up0) {r : Bool} (h : f106 x0 = some r) : Fn prog 106 #[up0] gI wI (fun _ _ v => v = .bool (r)) := by
 unfold f106 at h;refine fnE func106 rfl rfl fun g0 hm hfr => ?_;have rp0 := RVc hm rp0;show E _ 7 none _ _ _ _ _;refine Z5 (Z4 rfl (T1 (g := g0) rfl rp0 fun g1 w1 p1 hs q1 => ?_));have hfr := hfr.ext hs;refine Zg (.bool false) rfl rfl (Z3 (Z5 (Zx (Gc p1 1) (Zc He rfl (PT.ptr q1)) rfl ?_)));have q2 := Zm (Ka).1 q1;refine Z4 rfl (Z7 (g := g1) isAgg92 sizeOf92 rfl q2 fun v3 r3 => ?_);obtain ⟨y5, hy5, h⟩ := Z1 h;refine Z4 rfl (Zp (g := g1) (vs := [v3]) en107 (.cons rfl .nil) (wk107 r3 hy5) fun g4 w4_ v4 hs hr => ?_);have hfr := hfr.ext hs;subst hr;refine Gd (.bool ((y5 != (0 : Int)))) rfl rfl rfl rfl (Zg (.bool ((y5 != (0 : Int)))) rfl rfl (Z3 (Z9 ?_)));obtain rfl := sinj h;exact G0 rfl rfl (rq (.bool ((y5 != (0 : Int))))) ⟨_, hfr, rfl⟩
def f67 (x0 : Gg) : Option (Int) :=
 jn (σ := Unit) (fun _ =>
  (f108 ((x0).Ties) ((fun a0 => f109 a0))).bind fun cF =>
  (f110 ((x0).Chains) ((fun a0 => f111 a0))).bind fun eF =>
  jn (σ := Unit) (fun _ =>
   some ((0 : Int))
   ) fun rF =>
  Option.bind (α := Bool) (
   (f112 cF).bind fun cC =>
   bif (!cC) then
    some (true)
   else
    (f112 eF).bind fun zB =>
    bif (!zB) then
     some (true)
    else
     (f113 ((x0).Ties) ((fun a0 => f104 a0))).bind fun lD =>
     bif lD then
      some (true)
     else
      (f114 ((x0).Chains) ((fun a0 => f106 a0))).bind fun iE =>
      some (iE)
   ) fun n9 =>
  bif n9 then
   some ((2 : Int))
  else
   rF ()
  ) fun k14 =>
 Option.bind (α := Bool) (
  bif (decide ((((x0).Ties).length : Int) > (8 : Int))) then
   some (true)
  else
   some ((decide ((((x0).Chains).length : Int) > (8 : Int))))
  ) fun oB =>
 bif oB then
  some ((5 : Int))
 else
  k14 ()
theorem en67 : Enters prog 67 := enters_of func67 (by kernel_rfl) rfl
theorem wk67 {gI : Gh} {wI : World} {x0 : Gg} {up0 : Value} (rp0 : RV gI.m wI x0 up0) {r : Int} (h : f67 x0 = some r) : Fn prog 67 #[up0] gI wI (fun _ _ v => v = Iz (r)) := by
 unfold f67 at h;refine fnE func67 rfl rfl fun g0 hm hfr => ?_;have rp0 := RVc hm rp0;show E _ 43 none _ _ _ _ _;refine Z5 (Z4 rfl (T1 (g := g0) rfl rp0 fun g1 w1 p1 hs q1 => ?_));have hfr := hfr.ext hs;refine Zg (Iz (0)) rfl rfl (Z3 (Zq h (fun (s : Unit) e w => ∃ (g : Gh) , Fr gI wI g w ∧ e 1 = p1 ∧ PT g.m w (x0 : Gg) p1) (fun X14 k14 yF h => ?_) ?_))
 ·obtain ⟨oB, hx, h⟩ := Z1 h
  refine G6 (fun e w => ∃ (g : Gh) , Fr gI wI g w ∧ e 1 = p1 ∧ PT g.m w (x0 : Gg) p1 ∧ e 16 = .bool (oB)) (fun Q' hQ => ?_) (fun dI kJ hR => ?_)
  ·replace h := hx
   clear hx;refine Za (Zx (Gc p1 0) (Zc Qm rfl (PT.ptr q1)) rfl ?_);have lG := Zm (Tl).1 q1;refine Z4 rfl (Z7 (g := g1) isAgg36 sizeOf36 rfl lG fun lJ mG => (Zx (Iz (((x0).Ties).length : Int)) (G3 underlying36 rfl mG) rfl (Zx (.bool ((decide ((((x0).Ties).length : Int) > (8 : Int))))) (Gp rfl rfl rfl) rfl (Zx (.bool ((decide ((((x0).Ties).length : Int) > (8 : Int))))) (Zk rfl) rfl ?_))));rcases Zt h with ⟨aB, h⟩ | ⟨aB, h⟩
   ·refine Zz rfl rfl aB rfl rfl ?_
    iterate 3 refine Zz rfl rfl aB rfl rfl ?_
    refine Zx (.bool true) (Zl (b := (decide ((((x0).Ties).length : Int) > (8 : Int)))) rfl (Tc aB rfl)) rfl (Zb ?_);obtain rfl := sinj h;exact hQ _ _ ⟨g1, hfr, rfl, q1, rfl⟩
   ·refine Zy (Gc p1 1) (Zc Q9 rfl (PT.ptr q1)) rfl rfl aB rfl ?_
    have yG := Zm (Tt).1 q1;refine Ze (.yes2 rfl rfl aB) rfl (Z7 (g := g1) isAgg37 sizeOf37 rfl yG fun oJ zG => (Zy (Iz (((x0).Chains).length : Int)) (G3 underlying37 rfl zG) rfl rfl aB rfl (Zy (.bool ((decide ((((x0).Chains).length : Int) > (8 : Int))))) (Gp rfl rfl rfl) rfl rfl aB rfl (Zx (.bool ((decide ((((x0).Chains).length : Int) > (8 : Int))))) (Zl (b := (decide ((((x0).Ties).length : Int) > (8 : Int)))) rfl (Gz aB rfl)) rfl (Zb ?_)))));obtain rfl := sinj h;exact hQ _ _ ⟨g1, hfr, rfl, q1, rfl⟩
  ·clear hx
   obtain ⟨cH, hfr, yE, zE, aE⟩ := hR;rcases Zt h with ⟨bE, h⟩ | ⟨bE, h⟩
   ·refine Ta (Eq.trans (show ev _ _ = .bool (oB) from aE) (congrArg Value.bool bE)) (Z5 (Zg (Iz (5)) rfl rfl (Z3 (Z9 (Gf ?_)))))
    obtain rfl := sinj h;exact G0 rfl rfl (rq (Iz (5))) ⟨_, hfr, rfl⟩
   ·refine G1 (Eq.trans (show ev _ _ = .bool (oB) from aE) (congrArg Value.bool bE)) ?_
    exact Zu (Zd (yF () _ _ ⟨cH, hfr, yE, zE⟩ h))
 ·rintro _ iI pJ ⟨sF, hfr, yB, n8⟩ h
  refine Z5 (Zg (.func (.func 104) #[] #[]) rfl rfl (Z3 (Z5 (Zg (.func (.func 106) #[] #[]) rfl rfl (Z3 (Z5 (Zx (Gc p1 0) (Zc Qm yB (PT.ptr n8)) rfl ?_)))))));have gH := Zm (Tl).1 n8;refine Z4 rfl (Z7 (g := sF) isAgg36 sizeOf36 rfl gH fun jH kH => ?_);obtain ⟨cF, aG, h⟩ := Z1 h;refine Z4 rfl (Zp (g := sF) (vs := [jH, .func (.func 109) #[] #[]]) en108 (.cons rfl (.cons rfl .nil)) (wk108 kH ⟨109, #[], #[], rfl, en109, fun g' w' hch a0 b0 r hu0 hr => by exact Fn.mono (wk109 hu0  hr) fun _ _ _ h => Ts.2 h⟩ aG) fun vF jI lE hs hr => ?_);have hfr := hfr.ext hs;have n8 := n8.ext hs;have mE := hr;refine Zg lE rfl rfl (Z3 (Z5 (Zx (Gc p1 1) (Zc Q9 yB (PT.ptr n8)) rfl ?_)));have lH := Zm (Tt).1 n8;refine Z4 rfl (Z7 (g := vF) isAgg37 sizeOf37 rfl lH fun mH nH => ?_);obtain ⟨eF, bG, h⟩ := Z1 h;refine Z4 rfl (Zp (g := vF) (vs := [mH, .func (.func 111) #[] #[]]) en110 (.cons rfl (.cons rfl .nil)) (wk110 nH ⟨111, #[], #[], rfl, en111, fun g' w' hch a0 b0 r hu0 hr => by exact Fn.mono (wk111 hu0  hr) fun _ _ _ h => Ts.2 h⟩ bG) fun oH kI oE hs hr => ?_);have hfr := hfr.ext hs;have n8 := n8.ext hs;have mE := mE.ext hs;have rE := hr;refine Zg oE rfl rfl (Z3 (Zq h (fun (s : Unit) e w => ∃ (g : Gh) , Fr gI wI g w) (fun X69 rF cG h => ?_) ?_))
  ·obtain ⟨n9, hx, h⟩ := Z1 h
   refine G6 (fun e w => ∃ (g : Gh) , Fr gI wI g w ∧ e 42 = .bool (n9)) (fun Q' hQ => ?_) (fun aI lI hR => ?_)
   ·replace h := hx
    clear hx;refine Za (Zn lE rfl rfl ?_);obtain ⟨cC, eG, h⟩ := Z1 h;refine Z4 rfl (Zp (g := oH) (vs := [lE]) en112 (.cons rfl .nil) (wk112 mE eG) fun xF mI qJ hs hr => ?_);have hfr := hfr.ext hs;have n8 := n8.ext hs;have rE := rE.ext hs;subst hr;refine Zx (.bool (!cC)) (Qj rfl) rfl (Zn (.bool (!cC)) rfl rfl ?_);rcases Zt h with ⟨lB, h⟩ | ⟨lB, h⟩
    ·refine Zz rfl rfl lB rfl rfl (Zz rfl rfl lB rfl rfl (Zz rfl rfl lB rfl rfl (Zx (.bool true) (Zl (b := (!cC)) rfl (Tc lB rfl)) rfl (Kk 12 rfl (Zb ?_)))))
     obtain rfl := sinj h;exact hQ _ _ ⟨xF, hfr, rfl⟩
    ·refine Zy oE (Zk rfl) rfl rfl lB rfl ?_
     obtain ⟨zB, gG, h⟩ := Z1 h;refine Ze (.yes2 rfl rfl lB) rfl (Zp (g := xF) (vs := [oE]) en112 (.cons rfl .nil) (wk112 rE gG) fun vE nI rJ hs hr => ?_);have hfr := hfr.ext hs;have n8 := n8.ext hs;subst hr;refine Zy (.bool (!zB)) (Qj rfl) rfl rfl lB rfl (Zx (.bool (!zB)) (Zl (b := (!cC)) rfl (Gz lB rfl)) rfl (Zn (.bool (!zB)) rfl rfl ?_));rcases Zt h with ⟨mB, h⟩ | ⟨mB, h⟩
     ·refine Zz rfl rfl mB rfl rfl ?_
      iterate 3 refine Zz rfl rfl mB rfl rfl ?_
      refine Zx (.bool true) (Zl (b := (!zB)) rfl (Tc mB rfl)) rfl (Kk 6 rfl (Zb ?_));obtain rfl := sinj h;exact hQ _ _ ⟨vE, hfr, rfl⟩
     ·refine Zy (Gc p1 0) (Zc Qm yB (PT.ptr n8)) rfl rfl mB rfl ?_
      have pH := Zm (Tl).1 n8;refine Ze (.yes2 rfl rfl mB) rfl (Z7 (g := vE) isAgg36 sizeOf36 rfl pH fun qH sH => (Zy (.func (.func 104) #[] #[]) (Zk rfl) rfl rfl mB rfl ?_));obtain ⟨lD, iG, h⟩ := Z1 h;refine Ze (.yes2 rfl rfl mB) rfl (Zp (g := vE) (vs := [qH, .func (.func 104) #[] #[]]) en113 (.cons rfl (.cons rfl .nil)) (wk113 sH ⟨104, #[], #[], rfl, en104, fun g' w' hch a0 b0 r hu0 hr => by exact Fn.mono (wk104 hu0  hr) fun _ _ _ h => Wl.2 h⟩ iG) fun xE pI sJ hs hr => ?_);have hfr := hfr.ext hs;have n8 := n8.ext hs;subst hr;refine Zx (.bool (lD)) (Zl (b := (!zB)) rfl (Gz mB rfl)) rfl (Zn (.bool (lD)) rfl rfl ?_);rcases Zt h with ⟨nB, h⟩ | ⟨nB, h⟩
      ·refine Zz rfl rfl nB rfl rfl ?_
       iterate 3 refine Zz rfl rfl nB rfl rfl ?_
       refine Zx (.bool true) (Zl (b := lD) rfl (Tc nB rfl)) rfl (Zb ?_);obtain rfl := sinj h;exact hQ _ _ ⟨xE, hfr, rfl⟩
      ·refine Zy (Gc p1 1) (Zc Q9 yB (PT.ptr n8)) rfl rfl nB rfl ?_
       have tH := Zm (Tt).1 n8;refine Ze (.yes2 rfl rfl nB) rfl (Z7 (g := xE) isAgg37 sizeOf37 rfl tH fun uH yH => (Zy (.func (.func 106) #[] #[]) (Zk rfl) rfl rfl nB rfl ?_));obtain ⟨iE, jG, h⟩ := Z1 h;refine Ze (.yes2 rfl rfl nB) rfl (Zp (g := xE) (vs := [uH, .func (.func 106) #[] #[]]) en114 (.cons rfl (.cons rfl .nil)) (wk114 yH ⟨106, #[], #[], rfl, en106, fun g' w' hch a0 b0 r hu0 hr => by exact Fn.mono (wk106 hu0  hr) fun _ _ _ h => Wl.2 h⟩ jG) fun zH qI vJ hs hr => ?_);have hfr := hfr.ext hs;subst hr;refine Zx (.bool (iE)) (Zl (b := lD) rfl (Gz nB rfl)) rfl (Zb ?_);obtain rfl := sinj h;exact hQ _ _ ⟨zH, hfr, rfl⟩
   ·clear hx
    obtain ⟨kG, hfr, nD⟩ := hR;rcases Zt h with ⟨oD, h⟩ | ⟨oD, h⟩
    ·refine Ta (Eq.trans (show ev _ _ = .bool (n9) from nD) (congrArg Value.bool oD)) (Z5 (Zg (Iz (2)) rfl rfl (Z3 (Z9 (Gf ?_)))))
     obtain rfl := sinj h;exact G0 rfl rfl (rq (Iz (2))) ⟨_, hfr, rfl⟩
    ·refine G1 (Eq.trans (show ev _ _ = .bool (n9) from nD) (congrArg Value.bool oD)) ?_
     exact Zu (Zd (cG () _ _ ⟨kG, hfr⟩ h))
  ·rintro _ bI sI ⟨jJ, hfr⟩ h
   refine Z5 (Zg (Iz (0)) rfl rfl (Z3 (Z9 ?_)));obtain rfl := sinj h;exact G0 rfl rfl (rq (Iz (0))) ⟨_, hfr, rfl⟩
end Go.Proofs.YtmebkoemfjlbcaaGreatDoor
