import Derived.Test.YtlmibfohllgmeaaCode2
set_option maxRecDepth 8000
set_option maxHeartbeats 4000000
namespace Go.Proofs.Ytlmibfohllgmeaa
open Go.RowKit
def f19 (x0 : ChainBelt) : Option (Gb × Int) :=
 jn (σ := Gb) (fun aB =>
  some ((⟨x0, (x0).Hooks⟩ : Gb), (0 : Int))
  ) fun k33 =>
 (f17 ((x0).Hooks)).bind fun n8 =>
 bif (!n8) then
  some ((⟨x0, (x0).Hooks⟩ : Gb), (3 : Int))
 else
  bif (decide ((((x0).Cards).length : Int) > (60 : Int))) then
   some ((⟨x0, (x0).Hooks⟩ : Gb), (5 : Int))
  else
   (f38 ((x0).Hooks) ((x0).Cards)).bind fun v8 =>
   bif (!v8) then
    some ((⟨x0, (x0).Hooks⟩ : Gb), (2 : Int))
   else
    k33 ((⟨⟨0, []⟩, 0⟩ : Gb))
theorem en19 : Enters Try.prog 19 := enters_of Try.func19 (by kernel_rfl) rfl
theorem wk19 {gI : Gh} {wI : World} {x0 : ChainBelt} {up0 : Value} (rp0 : RV gI.m wI x0 up0) {r : Gb × Int} (h : f19 x0 = some r) : Fn Try.prog 19 #[up0] gI wI (fun m w v => ∃ y0 y1, v = .tuple #[y0, y1] ∧ RV m w (r.1) y0 ∧ y1 = .int .i64 (r.2)) := by
 unfold f19 at h;refine Gw Try.func19 rfl (Nat.le_of_ble_eq_true rfl) fun g0 hm hfr => ?_;have rp0 : RV g0.m wI x0 up0 := hm ▸ rp0;show E _ 30 none _ _ _ _ _;refine Zf (Za (Ze .plain rfl (Qs (g := g0) rfl rp0 fun g1 w1 p1 hs q1 => ?_)));have hfr := hfr.ext hs;refine Ze .plain rfl (Ti (g := g1) 2002 (⟨⟨0, []⟩, 0⟩ : Gb) Try.zeroValue66 (fun m w => ⟨_, (Gv (Gv Zv Tr) Zv), rfl⟩) fun g2 w2 p2 hs b2 cb => ?_);have hfr := hfr.stp hs;have q1 := q1.stp hs;have o0 : OSF 2002 60201 1 g2 w2 60 66 ([] : List Gc) p2 := cb.osf (by rfl);clear cb;refine Zg (.int .i64 (0)) rfl rfl ?_;refine Zb (Zd (Zf (Za (Ze .plain rfl (Gf (g := g2) Try.isAgg27 Try.sizeOf27 rfl q1 fun v3 r3 => ?_)))));refine Zw (Gk p1 0) (Zc Mu rfl (PT.ptr q1)) rfl ?_;have q4 := Zm (Uu).1 q1;refine Ze .plain rfl (Gf (g := g2) Try.isAgg3 Try.sizeOf3 rfl q4 fun v5 r5 => ?_);obtain rfl := Zj.1 r5;have r6 : RV g2.m _ (⟨x0, (x0).Hooks⟩ : Gb) (.agg (Qd [[.int .i64 0, .slice none 0 0], [.int .i64 0]] [(0, v3), (1, .int .i64 ((x0).Hooks))]).flatten.toArray) := Qj rfl (Te (RV.cells r3) (Qh (rfl)));generalize cD : (Value.agg (Qd [[.int .i64 0, .slice none 0 0], [.int .i64 0]] [(0, v3), (1, .int .i64 ((x0).Hooks))]).flatten.toArray) = v6 at r6;refine Zw v6 (cD ▸ Qu (vs := [(0, v3), (1, .int .i64 ((x0).Hooks))]) [[.int .i64 0, .slice none 0 0], [.int .i64 0]] lay_66 rfl rfl (.cons rfl (.cons rfl .nil)) ⟨⟨_, rfl, Qt r3⟩, ⟨⟨_, rfl, rfl⟩, trivial⟩⟩) rfl ?_;refine Ze .plain rfl (Ti (g := g2) 2004 (⟨⟨0, []⟩, 0⟩ : Gb) Try.zeroValue66 (fun m w => ⟨_, (Gv (Gv Zv Tr) Zv), rfl⟩) fun g7 w7 p7 hs b7 cb => ?_);have hfr := hfr.stp hs;have q1 := q1.stp hs;have o0 := o0.stp hs rfl;have b2 := b2.stp hs rfl;have r6 := r6.stp hs;have yE : OSF 2004 60401 1 g7 w7 60 66 ([] : List Gc) p7 := cb.osf (by rfl);clear cb;refine Ze .plain rfl (Gm (g := g7) (v := v6) Try.sizeOf66 rfl b7 rfl r6 fun g8 w8 hs b8 cb => ?_);clear cb;have hfr := hfr.stp hs;have q1 := q1.stp hs;have o0 := o0.stp hs rfl;have b2 := b2.stp hs rfl;refine Zb (Zd (Zq h (fun (s : Gb) e w => ∃ (g : Gh) , Fr gI wI g w ∧ e 2 = p2 ∧ OB 2002 g w 66 (s : Gb) p2 ∧ OSF 2002 60201 1 g w 60 66 (((s).ChainBelt).Cards) p2 ∧ e 4 = p7 ∧ OB 2004 g w 66 ((⟨x0, (x0).Hooks⟩ : Gb) : Gb) p7) (fun X33 k33 vB h => ?_) ?_))
 ·refine Zr ?_
  refine Zf (Za (Zw (Gk p7 2) (Zc Rg rfl (OB.ptr b8)) rfl ?_));refine Ze .plain rfl (Wz (g := g8) Kn.1 Try.isAgg57 Try.sizeOf57 rfl b8 fun eF lD => ?_);obtain rfl := Zj.1 lD;obtain ⟨n8, yB, h⟩ := Ga h;refine Ze .plain rfl (Zp (g := g8) (vs := [.int .i64 ((x0).Hooks)]) en17 (.cons rfl .nil) (wk17  yB) fun l5 zE rF hs hr => ?_);have hfr := hfr.ext hs;have q1 := q1.ext hs;have o0 := o0.ext hs;have b2 := b2.ext hs;have b8 := b8.ext hs;subst hr;refine Zw (.bool (!n8)) (Wh rfl) rfl ?_;refine Zg (.bool (!n8)) rfl rfl ?_;refine Zb (Zd ?_);rcases Zt h with ⟨t5, h⟩ | ⟨t5, h⟩
  ·refine Tn t5 rfl ?_
   refine Zf (Za (Ze .plain rfl (Tk (g := l5) Try.isAgg66 Try.sizeOf66 rfl b8 fun nD oD => ?_)));refine Ze .plain rfl (Gm (g := l5) (v := nD) Try.sizeOf66 rfl b2 rfl oD fun sF tF hs b40 cb => ?_);clear cb;have hfr := hfr.stp hs;refine Zg (.int .i64 (3)) rfl rfl ?_;refine Zb (Zd (Gq (Wd ?_)));refine Tz ?_;obtain rfl := sinj h;obtain ⟨ad41, cv41, hp41, zB, cr41⟩ := Ql Try.isAgg66 Try.sizeOf66 b40;exact Qy rfl rfl ((show _ = p2 from rfl).trans hp41) zB (show _ = .int .i64 (3) from rfl) ⟨_, hfr, _, _, rfl, cr41, rfl⟩
  ·refine To t5 rfl ?_
   refine Zf (Za (Zw (Gk p1 1) (Zc Wm rfl (PT.ptr q1)) rfl ?_));have yD := Zm (Tc).1 q1;refine Ze .plain rfl (Gf (g := l5) Try.isAgg25 Try.sizeOf25 rfl yD fun uF zD => ?_);refine Zw (.int .i64 (((x0).Cards).length : Int)) (Tu Try.underlying25 rfl zD) rfl ?_;refine Zw (.bool ((decide ((((x0).Cards).length : Int) > (60 : Int))))) (Gj rfl rfl rfl) rfl ?_;refine Zw (.bool ((decide ((((x0).Cards).length : Int) > (60 : Int))))) (Tb rfl) rfl ?_;refine Zb (Zd ?_);rcases Zt h with ⟨i6, h⟩ | ⟨i6, h⟩
   ·refine Tn i6 rfl ?_
    refine Zf (Za (Ze .plain rfl (Tk (g := l5) Try.isAgg66 Try.sizeOf66 rfl b8 fun aE bE => ?_)));refine Ze .plain rfl (Gm (g := l5) (v := aE) Try.sizeOf66 rfl b2 rfl bE fun vF xF hs b46 cb => ?_);clear cb;have hfr := hfr.stp hs;refine Zg (.int .i64 (5)) rfl rfl ?_;refine Zb (Zd (Gq (Wd ?_)));refine Tz ?_;obtain rfl := sinj h;obtain ⟨ad47, cv47, hp47, cC, cr47⟩ := Ql Try.isAgg66 Try.sizeOf66 b46;exact Qy rfl rfl ((show _ = p2 from rfl).trans hp47) cC (show _ = .int .i64 (5) from rfl) ⟨_, hfr, _, _, rfl, cr47, rfl⟩
   ·refine To i6 rfl ?_
    refine Zf (Za (Zw (Gk p7 2) (Zc Rg rfl (OB.ptr b8)) rfl ?_));refine Ze .plain rfl (Wz (g := l5) Kn.1 Try.isAgg57 Try.sizeOf57 rfl b8 fun yF iE => ?_);obtain rfl := Zj.1 iE;refine Zw (Gk p1 1) (Zc Wm rfl (PT.ptr q1)) rfl ?_;have lE := Zm (Tc).1 q1;refine Ze .plain rfl (Gf (g := l5) Try.isAgg25 Try.sizeOf25 rfl lE fun mE oE => ?_);obtain ⟨v8, uC, h⟩ := Ga h;refine Ze .plain rfl (Zp (g := l5) (vs := [.int .i64 ((x0).Hooks), mE]) en38 (.cons rfl (.cons rfl .nil)) (wk38 oE uC) fun n9 cF aG hs hr => ?_);have hfr := hfr.ext hs;have o0 := o0.ext hs;have b2 := b2.ext hs;have b8 := b8.ext hs;subst hr;refine Zw (.bool (!v8)) (Wh rfl) rfl ?_;refine Zg (.bool (!v8)) rfl rfl ?_;refine Zb (Zd ?_);rcases Zt h with ⟨l8, h⟩ | ⟨l8, h⟩
    ·refine Tn l8 rfl ?_
     refine Zf (Za (Ze .plain rfl (Tk (g := n9) Try.isAgg66 Try.sizeOf66 rfl b8 fun rE uE => ?_)));refine Ze .plain rfl (Gm (g := n9) (v := rE) Try.sizeOf66 rfl b2 rfl uE fun bG cG hs b56 cb => ?_);clear cb;have hfr := hfr.stp hs;refine Zg (.int .i64 (2)) rfl rfl ?_;refine Zb (Zd (Gq (Wd ?_)));refine Tz ?_;obtain rfl := sinj h;obtain ⟨ad57, cv57, hp57, vC, cr57⟩ := Ql Try.isAgg66 Try.sizeOf66 b56;exact Qy rfl rfl ((show _ = p2 from rfl).trans hp57) vC (show _ = .int .i64 (2) from rfl) ⟨_, hfr, _, _, rfl, cr57, rfl⟩
    ·refine To l8 rfl ?_
     exact Zu (Ts (Zd (vB ((⟨⟨0, []⟩, 0⟩ : Gb)) _ _ ⟨n9, hfr, rfl, b2, o0, rfl, b8⟩ h)))
 ·rintro aB dF eG ⟨oB, hfr, l9, lB, u2_1_58, mB, nB⟩ h
  refine Zf (Za (Ze .plain rfl (Tk (g := oB) Try.isAgg66 Try.sizeOf66 mB nB fun vE xE => ?_)));refine Ze .plain rfl (Gm (g := oB) (v := vE) Try.sizeOf66 l9 lB rfl xE fun gG iG hs b60 cb => ?_);clear cb;have hfr := hfr.stp hs;refine Zg (.int .i64 (0)) rfl rfl ?_;refine Zb (Zd (Gq ?_));obtain rfl := sinj h;obtain ⟨ad61, cv61, hp61, bD, cr61⟩ := Ql Try.isAgg66 Try.sizeOf66 b60;exact Qy rfl rfl ((show _ = p2 from l9).trans hp61) bD (show _ = .int .i64 (0) from rfl) ⟨_, hfr, _, _, rfl, cr61, rfl⟩
def f23 (x0 : ChainBelt) (x1 : List Int) : Option (Gd × Int) :=
 (f19 x0).bind fun y5 =>
 jn (σ := Gd) (fun l9 =>
  some (l9, (0 : Int))
  ) fun mB =>
 bif (y5.2 != (0 : Int)) then
  some ((⟨y5.1, x1⟩ : Gd), y5.2)
 else
  bif (decide (((x1).length : Int) > (60 : Int))) then
   some ((⟨y5.1, x1⟩ : Gd), (5 : Int))
  else
   (f39 x1 ((fun a0 => f42 a0 (y5.1)))).bind fun aB =>
   bif aB then
    some ((⟨y5.1, x1⟩ : Gd), (2 : Int))
   else
    mB ((⟨y5.1, x1⟩ : Gd))
theorem en23 : Enters Try.prog 23 := enters_of Try.func23 (by kernel_rfl) rfl
theorem wk23 {gI : Gh} {wI : World} {x0 : ChainBelt} {x1 : List Int} {up0 : Value} (rp0 : RV gI.m wI x0 up0) {up1 : Value} (rp1 : RV gI.m wI x1 up1) {r : Gd × Int} (h : f23 x0 x1 = some r) : Fn Try.prog 23 #[up0, up1] gI wI (fun m w v => ∃ y0 y1, v = .tuple #[y0, y1] ∧ RV m w (r.1) y0 ∧ y1 = .int .i64 (r.2)) := by
 unfold f23 at h;refine Gw Try.func23 rfl (Nat.le_of_ble_eq_true rfl) fun g0 hm hfr => ?_;have rp0 : RV g0.m wI x0 up0 := hm ▸ rp0;have rp1 : RV g0.m wI x1 up1 := hm ▸ rp1;show E _ 33 none _ _ _ _ _;refine Zf (Za (Ze .plain rfl (Qs (g := g0) rfl rp0 fun g1 w1 p1 hs q1 => ?_)));have hfr := hfr.ext hs;have rp1 := rp1.ext hs;refine Ze .plain rfl (Ti (g := g1) 2004 (⟨⟨⟨0, []⟩, 0⟩, []⟩ : Gd) Try.zeroValue73 (fun m w => ⟨_, (Gv (Gv (Gv Zv Tr) Zv) Tr), rfl⟩) fun g2 w2 p2 hs b2 cb => ?_);have hfr := hfr.stp hs;have rp1 := rp1.stp hs;have q1 := q1.stp hs;have bE : OSF 2004 60401 1 g2 w2 60 73 ([] : List Gc) p2 := cb.osf (by rfl);have iE : OSF 2004 60403 3 g2 w2 3 73 ([] : List Int) p2 := cb.osf (by rfl);clear cb;refine Zg (.int .i64 (0)) rfl rfl ?_;refine Zb (Zd (Zf (Za (Ze .plain rfl (Gf (g := g2) Try.isAgg27 Try.sizeOf27 rfl q1 fun v3 r3 => ?_)))));obtain ⟨y5, hy5, h⟩ := Ga h;refine Ze .plain rfl (Zp (g := g2) (vs := [v3]) en19 (.cons rfl .nil) (wk19 r3 hy5) fun g4 w4_ v4 hs hr => ?_);have hfr := hfr.ext hs;have rp1 := rp1.ext hs;have b2 := b2.ext hs;obtain ⟨t5, lE, rfl, i6, rfl⟩ := hr;refine Zn (.tuple #[t5, .int .i64 (y5.2)]) rfl rfl ?_;refine Zw t5 (Zi rfl rfl) rfl ?_;refine Zw (.int .i64 (y5.2)) (Zi rfl rfl) rfl ?_;refine Ze .plain rfl (Ti (g := g4) 2006 (⟨⟨0, []⟩, 0⟩ : Gb) Try.zeroValue66 (fun m w => ⟨_, (Gv (Gv Zv Tr) Zv), rfl⟩) fun g6 w6 p6 hs b6 cb => ?_);have hfr := hfr.stp hs;have rp1 := rp1.stp hs;have b2 := b2.stp hs rfl;have i6 := i6.stp hs;have mE : OSF 2006 60601 1 g6 w6 60 66 ([] : List Gc) p6 := cb.osf (by rfl);clear cb;refine Ze .plain rfl (Gm (g := g6) (v := t5) Try.sizeOf66 rfl b6 rfl i6 fun g7 w7 hs b7 cb => ?_);clear cb;have hfr := hfr.stp hs;have rp1 := rp1.stp hs;have b2 := b2.stp hs rfl;obtain ⟨gp7, hs, qp7⟩ := OB.pub b7;have hfr := hfr.stp hs;have rp1 := rp1.stp hs;have b2 := b2.stp hs rfl;refine Zg (.int .i64 (y5.2)) rfl rfl ?_;refine Zb (Zd (Zf (Za (Ze .plain rfl (Gf (g := gp7) Try.isAgg66 Try.sizeOf66 rfl qp7 fun v8 r8 => ?_)))));refine Zn up1 rfl rfl ?_;have r9 : RV gp7.m _ (⟨y5.1, x1⟩ : Gd) (.agg (Qd [[.int .i64 0, .slice none 0 0, .int .i64 0], [.slice none 0 0]] [(0, v8), (1, up1)]).flatten.toArray) := Qj rfl (Te (RV.cells r8) (Qh (RV.cells rp1)));generalize vC : (Value.agg (Qd [[.int .i64 0, .slice none 0 0, .int .i64 0], [.slice none 0 0]] [(0, v8), (1, up1)]).flatten.toArray) = v9 at r9;refine Zw v9 (vC ▸ Qu (vs := [(0, v8), (1, up1)]) [[.int .i64 0, .slice none 0 0, .int .i64 0], [.slice none 0 0]] lay_73 rfl rfl (.cons rfl (.cons rfl .nil)) ⟨⟨_, rfl, Qt r8⟩, ⟨⟨_, rfl, Qt rp1⟩, trivial⟩⟩) rfl ?_;refine Ze .plain rfl (Gm (g := gp7) (v := v9) Try.sizeOf73 rfl b2 rfl r9 fun l5 uE hs b10 cb => ?_);clear cb;have hfr := hfr.stp hs;have rp1 := rp1.stp hs;have qp7 := qp7.stp hs;refine Zb (Zd (Zf (Za (Zw ((.func (.func 42) #[] #[p6])) (Hy (Bj (show ev _ _ = p6 from rfl))) rfl ?_))));refine Zg ((.func (.func 42) #[] #[p6])) rfl rfl ?_;refine Zb (Zd (Zq h (fun (s : Gd) e w => ∃ (g : Gh) , Fr gI wI g w ∧ e 4 = p2 ∧ OB 2004 g w 73 (s : Gd) p2) (fun X25 mB oB h => ?_) ?_))
 ·refine Zr ?_
  refine Zf (Za (Zn (.int .i64 (y5.2)) rfl rfl ?_));refine Gg (.bool ((y5.2 != (0 : Int)))) rfl rfl rfl rfl ?_;refine Zg (.bool ((y5.2 != (0 : Int)))) rfl rfl ?_;refine Zb (Zd ?_);rcases Zt h with ⟨g8, h⟩ | ⟨g8, h⟩
  ·refine Tn g8 rfl ?_
   refine Zf (Za (Ze .plain rfl (Tk (g := l5) Try.isAgg73 Try.sizeOf73 rfl b10 fun bD cD => ?_)));refine Zn (.int .i64 (y5.2)) rfl rfl ?_;refine Ze .plain rfl (Gm (g := l5) (v := bD) Try.sizeOf73 rfl b10 rfl cD fun vE xE hs b28 cb => ?_);clear cb;have hfr := hfr.stp hs;refine Zg (.int .i64 (y5.2)) rfl rfl ?_;refine Zb (Zd (Gq (Wd ?_)));refine Tz ?_;obtain rfl := sinj h;obtain ⟨ad29, cv29, hp29, vB, cr29⟩ := Ql Try.isAgg73 Try.sizeOf73 b28;exact Qy rfl rfl ((show _ = p2 from rfl).trans hp29) vB (show _ = .int .i64 (y5.2) from rfl) ⟨_, hfr, _, _, rfl, cr29, rfl⟩
  ·refine To g8 rfl ?_
   refine Zf (Za (Zn up1 rfl rfl ?_));refine Zw (.int .i64 ((x1).length : Int)) (Tu Try.underlying31 rfl rp1) rfl ?_;refine Gg (.bool ((decide (((x1).length : Int) > (60 : Int))))) rfl rfl rfl rfl ?_;refine Zg (.bool ((decide (((x1).length : Int) > (60 : Int))))) rfl rfl ?_;refine Zb (Zd ?_);rcases Zt h with ⟨l8, h⟩ | ⟨l8, h⟩
   ·refine Tn l8 rfl ?_
    refine Zf (Za (Ze .plain rfl (Tk (g := l5) Try.isAgg73 Try.sizeOf73 rfl b10 fun lD nD => ?_)));refine Ze .plain rfl (Gm (g := l5) (v := lD) Try.sizeOf73 rfl b10 rfl nD fun yE zE hs b32 cb => ?_);clear cb;have hfr := hfr.stp hs;refine Zg (.int .i64 (5)) rfl rfl ?_;refine Zb (Zd (Gq (Wd ?_)));refine Tz ?_;obtain rfl := sinj h;obtain ⟨ad33, cv33, hp33, yB, cr33⟩ := Ql Try.isAgg73 Try.sizeOf73 b32;exact Qy rfl rfl ((show _ = p2 from rfl).trans hp33) yB (show _ = .int .i64 (5) from rfl) ⟨_, hfr, _, _, rfl, cr33, rfl⟩
   ·refine To l8 rfl ?_
    refine Zf (Za (Zn up1 rfl rfl ?_));refine Zn ((.func (.func 42) #[] #[p6])) rfl rfl ?_;obtain ⟨aB, zB, h⟩ := Ga h;refine Ze .plain rfl (Zp (g := l5) (vs := [up1, (.func (.func 42) #[] #[p6])]) en39 (.cons rfl (.cons rfl .nil)) (wk39 rp1 ⟨42, #[], #[p6], rfl, en42, fun g' w' hch a0 b0 r hu0 hr => by obtain rfl := Zj.1 hu0; exact Fn.mono (wk42  (qp7.ch hch) hr) fun _ _ _ h => Kl.2 h⟩ zB) fun lB oE cF hs hr => ?_);have hfr := hfr.ext hs;have b10 := b10.ext hs;subst hr;refine Zg (.bool (aB)) rfl rfl ?_;refine Zb (Zd ?_);rcases Zt h with ⟨n8, h⟩ | ⟨n8, h⟩
    ·refine Tn n8 rfl ?_
     refine Zf (Za (Ze .plain rfl (Tk (g := lB) Try.isAgg73 Try.sizeOf73 rfl b10 fun oD yD => ?_)));refine Ze .plain rfl (Gm (g := lB) (v := oD) Try.sizeOf73 rfl b10 rfl yD fun dF eF hs b38 cb => ?_);clear cb;have hfr := hfr.stp hs;refine Zg (.int .i64 (2)) rfl rfl ?_;refine Zb (Zd (Gq (Wd ?_)));refine Tz ?_;obtain rfl := sinj h;obtain ⟨ad39, cv39, hp39, cC, cr39⟩ := Ql Try.isAgg73 Try.sizeOf73 b38;exact Qy rfl rfl ((show _ = p2 from rfl).trans hp39) cC (show _ = .int .i64 (2) from rfl) ⟨_, hfr, _, _, rfl, cr39, rfl⟩
    ·refine To n8 rfl ?_
     exact Zu (Ts (Zd (oB ((⟨y5.1, x1⟩ : Gd)) _ _ ⟨lB, hfr, rfl, b10⟩ h)))
 ·rintro l9 rE rF ⟨nB, hfr, o0, n9⟩ h
  refine Zf (Za (Ze .plain rfl (Tk (g := nB) Try.isAgg73 Try.sizeOf73 o0 n9 fun zD aE => ?_)));refine Ze .plain rfl (Gm (g := nB) (v := zD) Try.sizeOf73 o0 n9 rfl aE fun sF tF hs b42 cb => ?_);clear cb;have hfr := hfr.stp hs;refine Zg (.int .i64 (0)) rfl rfl ?_;refine Zb (Zd (Gq ?_));obtain rfl := sinj h;obtain ⟨ad43, cv43, hp43, uC, cr43⟩ := Ql Try.isAgg73 Try.sizeOf73 b42;exact Qy rfl rfl ((show _ = p2 from o0).trans hp43) uC (show _ = .int .i64 (0) from rfl) ⟨_, hfr, _, _, rfl, cr43, rfl⟩
def f36 (x0 : Int) (x1 : List Int) : Option ((List Int) × Int) :=
 Option.bind (α := Int) (
  lp (σ := Int × Int) (fun yN (aE, i6) =>
   bif (decide (i6 < ((x1).length : Int))) then
    Option.bind (α := Int) (
     (idx x1 i6).bind fun yE =>
     some ((w64 (aE + (Ha (Yn yE (0 : Int)) (1000 : Int)))))
     ) fun zE =>
    yN (zE, (w64 (i6 + (1 : Int))))
   else
    some (aE)
   ) big ((0 : Int), (0 : Int))
  ) fun l8 =>
 jn (σ := (List Int)) (fun pI =>
  (mks 8 (0 : Int) (((x1).length : Int))).bind fun sH =>
  Option.bind (α := (List Int) × Int × (List Int)) (
   lp (σ := (List Int) × Int × (List Int) × Int) (fun qK (uF, uC, oD, o0) =>
    bif (decide (o0 < ((x1).length : Int))) then
     Option.bind (α := (List Int) × Int × (List Int)) (
      (idx x1 o0).bind fun vF =>
      (Xz (w64 (x0 * vF)) l8).bind fun y158 =>
      (apnd 8 uF (([y158] : List Int))).bind fun y161 =>
      (idx oD o0).bind fun eO =>
      (idx y161 o0).bind fun zG =>
      some (y161, (w64 (uC - zG)), (List.set oD (Int.toNat o0) o0))
      ) fun (bE, iE, yD) =>
     qK (bE, iE, yD, (w64 (o0 + (1 : Int))))
    else
     some (uF, uC, oD)
    ) big (pI, x0, sH, (0 : Int))
   ) fun (xF, n8, rE) =>
  (f54 rE ((fun a0 a1 => f55 a0 a1 x0 x1 l8))).bind fun sK =>
  Option.bind (α := (List Int)) (
   (cut sK 0 n8).bind fun cC =>
   lp (σ := (List Int) × Int) (fun tK (vC, l5) =>
    bif (decide (l5 < ((cC).length : Int))) then
     Option.bind (α := (List Int)) (
      (idx cC l5).bind fun bD =>
      (idx vC bD).bind fun aH =>
      (idx vC bD).bind fun gO =>
      some ((List.set vC (Int.toNat bD) ((w64 (aH + (1 : Int))))))
      ) fun lE =>
     tK (lE, (w64 (l5 + (1 : Int))))
    else
     some (vC)
    ) big (xF, (0 : Int))
   ) fun yF =>
  some (yF, (0 : Int))
  ) fun zN =>
 (f32 ((0 : Int)) ((1000000000 : Int)) (([x0] : List Int))).bind fun qI =>
 bif (!qI) then
  some (([] : List Int), (3 : Int))
 else
  bif (decide (((x1).length : Int) > (10 : Int))) then
   some (([] : List Int), (5 : Int))
  else
   Option.bind (α := Bool) (
    (f32 ((0 : Int)) ((1000 : Int)) x1).bind fun tH =>
    bif (!tH) then
     some ((!tH))
    else
     some ((l8 == (0 : Int)))
    ) fun cD =>
   bif cD then
    some (([] : List Int), (2 : Int))
   else
    zN (([] : List Int))
theorem en36 : Enters Try.prog 36 := enters_of Try.func36 (by kernel_rfl) rfl
theorem wk36 {gI : Gh} {wI : World} {x0 : Int} {x1 : List Int} {up1 : Value} (rp1 : RV gI.m wI x1 up1) {r : (List Int) × Int} (h : f36 x0 x1 = some r) : Fn Try.prog 36 #[.int .i64 (x0), up1] gI wI (fun m w v => ∃ y0 y1, v = .tuple #[y0, y1] ∧ RV m w (r.1) y0 ∧ y1 = .int .i64 (r.2)) := by
 unfold f36 at h;refine Gw Try.func36 rfl (Nat.le_of_ble_eq_true rfl) fun g0 hm hfr => ?_;have rp1 : RV g0.m wI x1 up1 := hm ▸ rp1;show E _ 91 none _ _ _ _ _;refine Zf (Za (Ze .plain rfl (Qs (g := g0) rfl (Zj.2 rfl) fun g1 w1 p1 hs q1 => ?_)));have hfr := hfr.ext hs;have rp1 := rp1.ext hs;refine Ze .plain rfl (Qs (g := g1) rfl rp1 fun g2 w2 p2 hs q2 => ?_);have hfr := hfr.ext hs;have q1 := q1.ext hs;refine Zg (.slice none 0 0) rfl rfl ?_;have b3 : OA 4004 g2 w2 3 ([] : List Int) (.slice none 0 0) := OA.nil;refine Zg (.int .i64 (0)) rfl rfl ?_;refine Zb (Zd (Zf (Za (Ze .plain rfl (Ti (g := g2) 2006 (0 : Int) Try.zeroValue3 (fun m w => ⟨_, Zv, rfl⟩) fun g4 w4 p4 hs b4 cb => ?_)))));have hfr := hfr.stp hs;have q1 := q1.stp hs;have q2 := q2.stp hs;have b3 := b3.stp hs rfl;clear cb;refine Ze .plain rfl (Gm (g := g4) (v := .int .i64 (0)) Try.sizeOf3 rfl b4 rfl (Zj.2 rfl) fun g5 w5 hs b5 cb => ?_);clear cb;have hfr := hfr.stp hs;have q1 := q1.stp hs;have q2 := q2.stp hs;have b3 := b3.stp hs rfl;refine Zb (Zd ?_);obtain ⟨l8, hx, h⟩ := Ga h;refine Gp (fun e w => ∃ (g : Gh) , Fr gI wI g w ∧ e 2 = p1 ∧ PT g.m w (x0 : Int) p1 ∧ e 3 = p2 ∧ PT g.m w (x1 : List Int) p2 ∧ e 4 = .slice none 0 0 ∧ OA 4004 g w 3 (([] : List Int) : List Int) (Value.slice none 0 0) ∧ e 6 = p4 ∧ OB 2006 g w 3 (l8 : Int) p4) (fun Q' hQ => ?_) (fun mQ tR hR => ?_)
 ·replace h := hx
  clear hx;refine Zf (Za (Ze .plain rfl (Gf (g := g5) Try.isAgg31 Try.sizeOf31 rfl q2 fun uH aO => ?_)));refine Zw (.int .i64 ((x1).length : Int)) (Tu Try.underlying31 rfl aO) rfl ?_;refine Zn (.int .i64 (0)) rfl rfl ?_;refine Zb (Zd (Zr ?_));refine Wv h (fun (s : Int × Int) e w => ∃ (g : Gh) , Fr gI wI g w ∧ e 2 = p1 ∧ PT g.m w (x0 : Int) p1 ∧ e 3 = p2 ∧ PT g.m w (x1 : List Int) p2 ∧ e 4 = .slice none 0 0 ∧ OA 4004 g w 3 (([] : List Int) : List Int) (Value.slice none 0 0) ∧ e 6 = p4 ∧ OB 2006 g w 3 (s.1 : Int) p4 ∧ e 15 = uH ∧ RV g.m w (x1 : List Int) uH ∧ e 16 = .int .i64 (((x1).length : Int)) ∧ e 17 = .int .i64 (s.2)) ⟨g5, hfr, rfl, q1, rfl, q2, rfl, b3, rfl, b5, rfl, aO, rfl, rfl⟩ (fun X22 yN jO => ?_);rintro ⟨aE, i6⟩ nQ uR ⟨sI, hfr, jJ, cF, kJ, dF, lJ, eF, rF, cH, xH, lD, yH, aG⟩ h;refine Zf (Za (Gg (.bool ((decide (i6 < ((x1).length : Int))))) aG yH rfl rfl ?_));refine Zb (Zd (Zf ?_));rcases Zt h with ⟨jI, h⟩ | ⟨jI, h⟩
  ·refine Tn jI rfl ?_
   refine Zu (Zd ?_);obtain ⟨zE, hx, h⟩ := Ga h;refine Gp (fun e w => ∃ (g : Gh) , Fr gI wI g w ∧ e 2 = p1 ∧ PT g.m w (x0 : Int) p1 ∧ e 3 = p2 ∧ PT g.m w (x1 : List Int) p2 ∧ e 4 = .slice none 0 0 ∧ OA 4004 g w 3 (([] : List Int) : List Int) (Value.slice none 0 0) ∧ e 6 = p4 ∧ OB 2006 g w 3 (zE : Int) p4 ∧ e 15 = uH ∧ RV g.m w (x1 : List Int) uH ∧ e 16 = .int .i64 (((x1).length : Int)) ∧ e 17 = .int .i64 (i6)) (fun Q' hQ => ?_) (fun oQ vR hR => ?_)
   ·replace h := hx
    clear hx;refine Zr ?_;refine Zf (Za ?_);obtain ⟨yE, uK, h⟩ := Ga h;refine Zw (Ty uH i6 1) (Zh (α := Int) Try.underlying31 Try.sizeOf3 xH lD aG uK) rfl ?_;have gP := Tp lD uK;refine Ze .plain rfl (Gf (g := sI) Try.isAgg3 Try.sizeOf3 rfl gP fun xR iP => ?_);obtain rfl := Zj.1 iP;refine Zg (.int .i64 (yE)) rfl rfl ?_;refine Zb (Zd (Za (Ze .plain rfl (Tk (g := sI) Try.isAgg3 Try.sizeOf3 rF cH fun yR jP => ?_))));obtain rfl := Zj.1 jP;refine Zn (.int .i64 (yE)) rfl rfl ?_;refine Zw (.int .i64 (Yn yE (0 : Int))) (Mi rfl rfl) rfl ?_;refine Zw (.int .i64 (Ha (Yn yE (0 : Int)) (1000 : Int))) (Mx rfl rfl) rfl ?_;refine Zw (.int .i64 ((w64 (aE + (Ha (Yn yE (0 : Int)) (1000 : Int)))))) (Gj rfl rfl rfl) rfl ?_;refine Ze .plain rfl (Gm (g := sI) (v := .int .i64 ((w64 (aE + (Ha (Yn yE (0 : Int)) (1000 : Int)))))) Try.sizeOf3 rF cH rfl (Zj.2 rfl) fun kP zR hs b34 cb => ?_);clear cb;have hfr := hfr.stp hs;have cF := cF.stp hs;have dF := dF.stp hs;have eF := eF.stp hs rfl;have lD := lD.stp hs;refine Zb (Ts ?_);obtain rfl := sinj h;exact hQ _ _ ⟨kP, hfr, jJ, cF, kJ, dF, lJ, eF, rF, b34, xH, lD, yH, aG⟩
   ·clear hx
    obtain ⟨lP, hfr, tM, uM, vM, xM, bN, cN, dN, eN, vK, xK, yK, zK⟩ := hR;refine Za (Gg (.int .i64 ((w64 (i6 + (1 : Int))))) zK rfl rfl rfl ?_);refine Zn (.int .i64 ((w64 (i6 + (1 : Int))))) rfl rfl ?_;exact Zb (Zd (jO (zE, (w64 (i6 + (1 : Int)))) _ _ ⟨lP, hfr, tM, uM, vM, xM, bN, cN, dN, eN, vK, xK, yK, rfl⟩ h))
  ·refine To jI rfl ?_
   refine Qc ?_;refine Tf ?_;refine Tf ?_;refine Tl ?_;obtain rfl := sinj h;exact hQ _ _ ⟨sI, hfr, jJ, cF, kJ, dF, lJ, eF, rF, cH⟩
 ·clear hx
  obtain ⟨bO, hfr, gH, nB, sF, aB, mJ, yB, jH, oB⟩ := hR;refine Zq h (fun (s : (List Int)) e w => ∃ (g : Gh) (v4 : Value), Fr gI wI g w ∧ e 2 = p1 ∧ PT g.m w (x0 : Int) p1 ∧ e 3 = p2 ∧ PT g.m w (x1 : List Int) p2 ∧ e 4 = v4 ∧ OA 4004 g w 3 (s : List Int) v4 ∧ e 6 = p4 ∧ OB 2006 g w 3 (l8 : Int) p4) (fun X62 zN kO h => ?_) ?_
  ·refine Zr ?_
   refine Zf (Za (Ze .plain rfl (Gf (g := bO) Try.isAgg3 Try.sizeOf3 gH nB fun aS mP => ?_)));obtain rfl := Zj.1 mP;refine Ze .plain rfl (Gl (g := bO) 3029 (xs := ([x0] : List Int)) (vs := [.int .i64 (x0)]) Try.underlying31 Try.sizeOf3 Try.zeroValue3 rfl rfl (.cons rfl .nil) (RVs.cons (Zj.2 rfl) RVs.nil) rfl rfl fun nP bS oP hs o65 pP hxt hfl => ?_);have hfr := hfr.stp hs;have nB := nB.stp hs;have aB := aB.stp hs;have yB := yB.stp hs rfl;have oB := oB.stp hs rfl;obtain ⟨qI, lO, h⟩ := Ga h;refine Ze .plain rfl (Zp (g := nP) (vs := [.int .i64 (0), .int .i64 (1000000000), oP]) en32 (.cons rfl (.cons rfl (.cons rfl .nil))) (wk32 pP lO) fun zH aL cS hs hr => ?_);have hfr := hfr.ext hs;have nB := nB.ext hs;have aB := aB.ext hs;have yB := yB.ext hs;have oB := oB.ext hs;subst hr;refine Zw (.bool (!qI)) (Wh rfl) rfl ?_;refine Zg (.bool (!qI)) rfl rfl ?_;refine Zb (Zd ?_);rcases Zt h with ⟨kI, h⟩ | ⟨kI, h⟩
   ·refine Tn kI rfl ?_
    refine Zf (Za (Zg (.slice none 0 0) rfl rfl ?_));have b69 : OA 4004 zH aL 3 ([] : List Int) (.slice none 0 0) := OA.nil;refine Zg (.int .i64 (3)) rfl rfl ?_;refine Zb (Zd (Gq (Wd ?_)));refine Tz ?_;obtain ⟨gp70, hs, rp70⟩ := OM.pub (b69.toM);have hfr := hfr.stp hs;obtain rfl := sinj h;exact Bc rfl rfl (show _ = .slice none 0 0 from rfl) (show _ = .int .i64 (3) from rfl) ⟨_, hfr, _, _, rfl, rp70, rfl⟩
   ·refine To kI rfl ?_
    refine Zf (Za (Ze .plain rfl (Gf (g := zH) Try.isAgg31 Try.sizeOf31 sF aB fun dS sP => ?_)));refine Zw (.int .i64 ((x1).length : Int)) (Tu Try.underlying31 rfl sP) rfl ?_;refine Gg (.bool ((decide (((x1).length : Int) > (10 : Int))))) rfl rfl rfl rfl ?_;refine Zg (.bool ((decide (((x1).length : Int) > (10 : Int))))) rfl rfl ?_;refine Zb (Zd ?_);rcases Zt h with ⟨lI, h⟩ | ⟨lI, h⟩
    ·refine Tn lI rfl ?_
     refine Zf (Za (Zg (.slice none 0 0) rfl rfl ?_));have b73 : OA 4004 zH aL 3 ([] : List Int) (.slice none 0 0) := OA.nil;refine Zg (.int .i64 (5)) rfl rfl ?_;refine Zb (Zd (Gq (Wd ?_)));refine Tz ?_;obtain ⟨gp74, hs, rp74⟩ := OM.pub (b73.toM);have hfr := hfr.stp hs;obtain rfl := sinj h;exact Bc rfl rfl (show _ = .slice none 0 0 from rfl) (show _ = .int .i64 (5) from rfl) ⟨_, hfr, _, _, rfl, rp74, rfl⟩
    ·refine To lI rfl ?_
     obtain ⟨cD, hx, h⟩ := Ga h;refine Gp (fun e w => ∃ (g : Gh) , Fr gI wI g w ∧ e 2 = p1 ∧ PT g.m w (x0 : Int) p1 ∧ e 3 = p2 ∧ PT g.m w (x1 : List Int) p2 ∧ e 4 = .slice none 0 0 ∧ OA 4004 g w 3 (([] : List Int) : List Int) (Value.slice none 0 0) ∧ e 6 = p4 ∧ OB 2006 g w 3 (l8 : Int) p4 ∧ e 36 = .bool (cD)) (fun Q' hQ => ?_) (fun pQ tP hR => ?_)
     ·replace h := hx
      clear hx;refine Zf (Za (Ze .plain rfl (Gf (g := zH) Try.isAgg31 Try.sizeOf31 sF aB fun uP vP => ?_)));obtain ⟨tH, mO, h⟩ := Ga h;refine Ze .plain rfl (Zp (g := zH) (vs := [.int .i64 (0), .int .i64 (1000), uP]) en32 (.cons rfl (.cons rfl (.cons rfl .nil))) (wk32 vP mO) fun bL qQ eS hs hr => ?_);have hfr := hfr.ext hs;have nB := nB.ext hs;have aB := aB.ext hs;have yB := yB.ext hs;have oB := oB.ext hs;subst hr;refine Zw (.bool (!tH)) (Wh rfl) rfl ?_;refine Zg (.bool (!tH)) rfl rfl ?_;refine Zb (Zd ?_);rcases Zt h with ⟨mI, h⟩ | ⟨mI, h⟩
      ·refine Tn mI rfl ?_
       refine Zu ?_;obtain rfl := sinj h;exact hQ _ _ ⟨bL, hfr, gH, nB, sF, aB, mJ, yB, jH, oB, rfl⟩
      ·refine To mI rfl ?_
       refine Za (Ze .plain rfl (Tk (g := bL) Try.isAgg3 Try.sizeOf3 jH oB fun gS xP => ?_));obtain rfl := Zj.1 xP;refine Gg (.bool ((l8 == (0 : Int)))) rfl rfl rfl rfl ?_;refine Zg (.bool ((l8 == (0 : Int)))) rfl rfl ?_;refine Zb ?_;obtain rfl := sinj h;exact hQ _ _ ⟨bL, hfr, gH, nB, sF, aB, mJ, yB, jH, oB, rfl⟩
     ·clear hx
      obtain ⟨cO, hfr, gN, iN, jN, kN, lN, mN, nN, oN, aI⟩ := hR;rcases Zt h with ⟨nI, h⟩ | ⟨nI, h⟩
      ·refine Tv (Eq.trans (show ev _ _ = .bool (cD) from aI) (congrArg Value.bool nI)) ?_
       refine Zf (Za (Zg (.slice none 0 0) rfl rfl ?_));have b87 : OA 4004 cO tP 3 ([] : List Int) (.slice none 0 0) := OA.nil;refine Zg (.int .i64 (2)) rfl rfl ?_;refine Zb (Zd (Gq (Wd ?_)));refine Tz ?_;obtain ⟨gp88, hs, rp88⟩ := OM.pub (b87.toM);have hfr := hfr.stp hs;obtain rfl := sinj h;exact Bc rfl rfl (show _ = .slice none 0 0 from rfl) (show _ = .int .i64 (2) from rfl) ⟨_, hfr, _, _, rfl, rp88, rfl⟩
      ·refine Tj (Eq.trans (show ev _ _ = .bool (cD) from aI) (congrArg Value.bool nI)) ?_
       exact Zu (Ts (Zd (kO (([] : List Int)) _ _ ⟨cO, (.slice none 0 0), hfr, gN, iN, jN, kN, lN, mN, nN, oN⟩ h)))
  ·rintro pI rQ iS ⟨yP, pN, hfr, nJ, tF, kH, mE, qN, lH, rN, mH⟩ h
   refine Zf (Zs (x := .tmp 2) Try.isAgg3 Try.sizeOf3 tF fun jS zP nO => ?_);obtain rfl := Zj.1 zP;refine Zs (x := .tmp 3) Try.isAgg31 Try.sizeOf31 mE fun bQ cQ oO => ?_;obtain ⟨sH, pO, h⟩ := Ga h;refine Tx (g := yP) (n := 6) [(3, (fun v g w => OM 9045 g w 3 sH v))] [0, 1, 2, 3, 4, 5] rfl Qq (by kernel_rfl) (⟨fun _ => up_om, trivial⟩) ?_;refine Tt (c := .int .i64 (x0)) rfl rfl .plain (fun _ _ h => h.ch) nO nJ ?_;refine Tt (c := bQ) rfl rfl .plain (fun _ _ h => h.ch) oO kH ?_;refine Zz (.int .i64 ((x1).length : Int)) rfl rfl (Tu Try.underlying31 rfl cQ) ?_;refine Ka (φ := fun v g w => OM 9045 g w 3 sH v) rfl rfl .plain (fun g w hd => Lh (g := g) 9045 (0 : Int) rfl Try.underlying31 Hi rfl (fun _ _ => rfl) rfl rfl pO fun g' w' v hs b => ⟨g', hs, b⟩) (fun mB hv => ?_);clear hv;refine Zz (.int .i64 (x0)) rfl rfl (Tb rfl) ?_;refine Zz mB rfl rfl (Tb rfl) ?_;refine Um fun dO lS hall => ?_;have hs := hall.1;have hfr := hfr.ext hs;have tF := tF.ext hs;have mE := mE.ext hs;have lH := lH.ext hs;have mH := mH.ext hs;have b104 := (Qm (A := fun g w => OM 9045 g w 3 sH mB) 3 rfl hall);clear hs hall;refine Zb (Zd ?_);obtain ⟨⟨xF, n8, rE⟩, hx, h⟩ := Ga h;refine Gp (fun e w => ∃ (g : Gh) (v4 : Value), Fr gI wI g w ∧ e 2 = p1 ∧ PT g.m w (x0 : Int) p1 ∧ e 3 = p2 ∧ PT g.m w (x1 : List Int) p2 ∧ e 4 = v4 ∧ OA 4004 g w 3 (xF : List Int) v4 ∧ e 6 = p4 ∧ OB 2006 g w 3 (l8 : Int) p4 ∧ e 9 = .int .i64 (n8) ∧ e 10 = mB ∧ OM 9045 g w 3 (rE : List Int) mB) (fun Q' hQ => ?_) (fun dQ sQ hR => ?_)
   ·replace h := hx
    clear hx;refine Zf (Za (Ze .plain rfl (Gf (g := dO) Try.isAgg31 Try.sizeOf31 kH mE fun bG dL => ?_)));refine Zw (.int .i64 ((x1).length : Int)) (Tu Try.underlying31 rfl dL) rfl ?_;refine Zn (.int .i64 (0)) rfl rfl ?_;refine Zb (Zd (Zr ?_));refine Wv h (fun (s : (List Int) × Int × (List Int) × Int) e w => ∃ (g : Gh) (v4 : Value), Fr gI wI g w ∧ e 2 = p1 ∧ PT g.m w (x0 : Int) p1 ∧ e 3 = p2 ∧ PT g.m w (x1 : List Int) p2 ∧ e 4 = v4 ∧ OA 4004 g w 3 (s.1 : List Int) v4 ∧ e 6 = p4 ∧ OB 2006 g w 3 (l8 : Int) p4 ∧ e 9 = .int .i64 (s.2.1) ∧ e 10 = mB ∧ OM 9045 g w 3 (s.2.2.1 : List Int) mB ∧ e 46 = bG ∧ RV g.m w (x1 : List Int) bG ∧ e 47 = .int .i64 (((x1).length : Int)) ∧ e 48 = .int .i64 (s.2.2.2)) ⟨dO, (pN), hfr, nJ, tF, kH, mE, qN, lH, rN, mH, rfl, rfl, b104, rfl, dL, rfl, rfl⟩ (fun X137 qK sN => ?_);rintro ⟨uF, uC, oD, o0⟩ eQ tQ ⟨cG, eL, hfr, eG, v8, bI, lB, dI, oE, gG, l9, iI, uE, n9, lG, t5, mG, zD⟩ h;refine Zf (Za (Gg (.bool ((decide (o0 < ((x1).length : Int))))) zD mG rfl rfl ?_));refine Zb (Zd (Zf ?_));rcases Zt h with ⟨nH, h⟩ | ⟨nH, h⟩
    ·refine Tn nH rfl ?_
     refine Zu (Zd ?_);obtain ⟨⟨bE, iE, yD⟩, hx, h⟩ := Ga h;refine Gp (fun e w => ∃ (g : Gh) (v4 : Value), Fr gI wI g w ∧ e 2 = p1 ∧ PT g.m w (x0 : Int) p1 ∧ e 3 = p2 ∧ PT g.m w (x1 : List Int) p2 ∧ e 4 = v4 ∧ OA 4004 g w 3 (bE : List Int) v4 ∧ e 6 = p4 ∧ OB 2006 g w 3 (l8 : Int) p4 ∧ e 9 = .int .i64 (iE) ∧ e 10 = mB ∧ OM 9045 g w 3 (yD : List Int) mB ∧ e 46 = bG ∧ RV g.m w (x1 : List Int) bG ∧ e 47 = .int .i64 (((x1).length : Int)) ∧ e 48 = .int .i64 (o0)) (fun Q' hQ => ?_) (fun gQ uQ hR => ?_)
     ·replace h := hx
      clear hx;refine Zr ?_;refine Zf (Za (Zo zD rfl ?_));obtain ⟨vF, oJ, h⟩ := Ga h;refine Zw (Ty bG o0 1) (Zh (α := Int) Try.underlying31 Try.sizeOf3 lG t5 zD oJ) rfl ?_;have qO := Tp t5 oJ;refine Ze .plain rfl (Gf (g := cG) Try.isAgg3 Try.sizeOf3 rfl qO fun vQ rO => ?_);obtain rfl := Zj.1 rO;refine Zg (.int .i64 (o0)) rfl rfl ?_;refine Zg (.int .i64 (vF)) rfl rfl ?_;refine Zb (Zd (Zf (Za (Zo uE rfl ?_))));refine Zn (.int .i64 (o0)) rfl rfl ?_;refine Zo dI rfl ?_;refine Ze .plain rfl (Gf (g := cG) Try.isAgg3 Try.sizeOf3 eG v8 fun xQ sO => ?_);obtain rfl := Zj.1 sO;refine Zn (.int .i64 (vF)) rfl rfl ?_;refine Gg (.int .i64 ((w64 (x0 * vF)))) rfl rfl rfl rfl ?_;refine Ze .plain rfl (Tk (g := cG) Try.isAgg3 Try.sizeOf3 gG l9 fun yQ tO => ?_);obtain rfl := Zj.1 tO;obtain ⟨y158, tN, h⟩ := Ga h;refine Zw (.int .i64 (y158)) (Gj rfl rfl (congrArg (Option.map (Value.int .i64)) tN)) rfl ?_;refine Ze .plain rfl (Gl (g := cG) 3061 (xs := ([y158] : List Int)) (vs := [.int .i64 (y158)]) Try.underlying31 Try.sizeOf3 Try.zeroValue3 rfl rfl (.cons rfl .nil) (RVs.cons (Zj.2 rfl) RVs.nil) rfl rfl fun uO zQ aR hs o159 vO hxt hfl => ?_);have hfr := hfr.stp hs;have v8 := v8.stp hs;have lB := lB.stp hs;have oE := oE.stp hs rfl;have l9 := l9.stp hs rfl;have n9 := n9.stp hs rfl;have t5 := t5.stp hs;obtain ⟨y161, uN, h⟩ := Ga h;refine Ze .plain rfl (Nn (g := uO) Nw (i := 4004) Try.underlying31 Hi rfl rfl oE rfl vO uN fun xO bR oH hs b160 => ?_);have hfr := hfr.stp hs;have v8 := v8.stp hs;have lB := lB.stp hs;have l9 := l9.stp hs rfl;have n9 := n9.stp hs rfl;have t5 := t5.stp hs;refine Zn (.int .i64 (o0)) rfl rfl ?_;refine Zg oH rfl rfl ?_;obtain ⟨eO, pJ, h⟩ := Ga h;refine Zw (Ty mB o0 1) (Gx (α := Int) Try.underlying31 Try.sizeOf3 rfl n9 rfl pJ) rfl ?_;refine Ze .plain rfl (Kz (g := xO) (α := Int) (a' := o0) Try.sizeOf3 rfl n9 pJ rfl (Zj.2 rfl) fun gL dR hs b163 => ?_);have hfr := hfr.stp hs;have v8 := v8.stp hs;have lB := lB.stp hs;have b160 := b160.stp hs rfl;have l9 := l9.stp hs rfl;have t5 := t5.stp hs;refine Zb (Zd (Za (Zo iI rfl ?_)));refine Zn oH rfl rfl ?_;refine Zn (.int .i64 (o0)) rfl rfl ?_;obtain ⟨zG, qJ, h⟩ := Ga h;refine Zw (Ty oH o0 1) (Gx (α := Int) Try.underlying31 Try.sizeOf3 rfl (b160.toM) rfl qJ) rfl ?_;refine Ze .plain rfl (Fp (g := gL) Try.isAgg3 Try.sizeOf3 rfl (b160.toM) qJ fun eR yO => ?_);obtain rfl := Zj.1 yO;refine Gg (.int .i64 ((w64 (uC - zG)))) rfl rfl rfl rfl ?_;refine Zg (.int .i64 ((w64 (uC - zG)))) rfl rfl ?_;refine Zb (Ts ?_);obtain ⟨rfl, rfl, rfl⟩ := Ok h;exact hQ _ _ ⟨gL, (oH), hfr, eG, v8, bI, lB, rfl, b160, gG, l9, rfl, uE, b163, lG, t5, mG, zD⟩
     ·clear hx
      obtain ⟨zO, iL, hfr, jL, lL, mL, nL, oL, xL, yL, zL, aM, zJ, aK, bK, cK, dK, lK⟩ := hR;refine Za (Gg (.int .i64 ((w64 (o0 + (1 : Int))))) lK rfl rfl rfl ?_);refine Zn (.int .i64 ((w64 (o0 + (1 : Int))))) rfl rfl ?_;exact Zb (Zd (sN (bE, iE, yD, (w64 (o0 + (1 : Int)))) _ _ ⟨zO, (iL), hfr, jL, lL, mL, nL, oL, xL, yL, zL, aM, zJ, aK, bK, cK, dK, rfl⟩ h))
    ·refine To nH rfl ?_
     refine Qc ?_;refine Tf ?_;refine Tf ?_;refine Tl ?_;obtain ⟨rfl, rfl, rfl⟩ := Ok h;exact hQ _ _ ⟨cG, (eL), hfr, eG, v8, bI, lB, dI, oE, gG, l9, iI, uE, n9⟩
   ·clear hx
    obtain ⟨gR, g8, hfr, bM, iG, cM, jG, dM, vB, eM, iM, jM, sG, vE⟩ := hR;refine Zf (Za (Zo sG rfl ?_));obtain ⟨gp168, hs, rp168⟩ := OB.pub iM;have hfr := hfr.stp hs;have iG := iG.stp hs;have jG := jG.stp hs;have vB := vB.stp hs rfl;have vE := vE.stp hs rfl;refine Zw ((.func (.func 55) #[] #[p1, p2, p4])) (Hy (Iq (show ev _ _ = p1 from bM) (show ev _ _ = p2 from cM) (show ev _ _ = p4 from eM))) rfl ?_;obtain ⟨sK, vN, h⟩ := Ga h;refine Ze .plain rfl (Hu (g := gp168) (i := 9045) (vs := [mB, (.func (.func 55) #[] #[p1, p2, p4])]) en54 (.cons rfl (.cons rfl .nil)) (wk54 vE ⟨55, #[], #[p1, p2, p4], rfl, en55, fun g' w' hch a0 a1 b0 b1 r hu0 hu1 hr => by obtain rfl := Zj.1 hu0; obtain rfl := Zj.1 hu1; exact Fn.mono (wk55  (iG.ch hch) (jG.ch hch) (rp168.ch hch) hr) fun _ _ _ h => Zj.2 h⟩ vN) fun iR iQ jR hs hr => ?_);obtain ⟨hrv, b169⟩ := hr;have hfr := hfr.stp hs;have vB := vB.stp hs rfl;subst hrv;refine Zb (Zd ?_);obtain ⟨yF, hx, h⟩ := Ga h;refine Gp (fun e w => ∃ (g : Gh) , Fr gI wI g w ∧ e 4 = g8 ∧ OA 4004 g w 3 (yF : List Int) g8) (fun Q' hQ => ?_) (fun jQ lR hR => ?_)
    ·replace h := hx
     clear hx;refine Zf (Za (Zo sG rfl ?_));refine Zo jM rfl ?_;obtain ⟨gp192, hs, rp192⟩ := OM.pub b169;have hfr := hfr.stp hs;have vB := vB.stp hs rfl;obtain ⟨cC, rJ, h⟩ := Ga h;have kM := RV_cut rp192 rJ;refine Zw ((Ju mB (Int.toNat 0) (Int.toNat n8) 1)) (P_slice Try.underlying31 Try.sizeOf3 rfl rp192 rfl rfl rJ) rfl ?_;refine Zw (.int .i64 ((cC).length : Int)) (Tu Try.underlying31 rfl kM) rfl ?_;refine Zn (.int .i64 (0)) rfl rfl ?_;refine Zb (Zd (Zr ?_));refine Wv h (fun (s : (List Int) × Int) e w => ∃ (g : Gh) , Fr gI wI g w ∧ e 4 = g8 ∧ OA 4004 g w 3 (s.1 : List Int) g8 ∧ e 77 = (Ju mB (Int.toNat 0) (Int.toNat n8) 1) ∧ RV g.m w (cC : List Int) (Ju mB (Int.toNat 0) (Int.toNat n8) 1) ∧ e 78 = .int .i64 (((cC).length : Int)) ∧ e 79 = .int .i64 (s.2)) ⟨gp192, hfr, dM, vB, rfl, kM, rfl, rfl⟩ (fun X195 tK xN => ?_);rintro ⟨vC, l5⟩ kQ mR ⟨pH, hfr, kG, nD, xG, zB, yG, xE⟩ h;refine Zf (Za (Gg (.bool ((decide (l5 < ((cC).length : Int))))) xE yG rfl rfl ?_));refine Zb (Zd (Zf ?_));rcases Zt h with ⟨qH, h⟩ | ⟨qH, h⟩
     ·refine Tn qH rfl ?_
      refine Zu (Zd ?_);obtain ⟨lE, hx, h⟩ := Ga h;refine Gp (fun e w => ∃ (g : Gh) , Fr gI wI g w ∧ e 4 = g8 ∧ OA 4004 g w 3 (lE : List Int) g8 ∧ e 77 = (Ju mB (Int.toNat 0) (Int.toNat n8) 1) ∧ RV g.m w (cC : List Int) (Ju mB (Int.toNat 0) (Int.toNat n8) 1) ∧ e 78 = .int .i64 (((cC).length : Int)) ∧ e 79 = .int .i64 (l5)) (fun Q' hQ => ?_) (fun lQ nR hR => ?_)
      ·replace h := hx
       clear hx;refine Zr ?_;refine Zf (Za ?_);obtain ⟨bD, sJ, h⟩ := Ga h;refine Zw (Ty ((Ju mB (Int.toNat 0) (Int.toNat n8) 1)) l5 1) (Zh (α := Int) Try.underlying31 Try.sizeOf3 xG zB xE sJ) rfl ?_;have aP := Tp zB sJ;refine Ze .plain rfl (Gf (g := pH) Try.isAgg3 Try.sizeOf3 rfl aP fun oR bP => ?_);obtain rfl := Zj.1 bP;refine Zg (.int .i64 (bD)) rfl rfl ?_;refine Zb (Zd (Za (Zo kG rfl ?_)));refine Zn (.int .i64 (bD)) rfl rfl ?_;obtain ⟨aH, vJ, h⟩ := Ga h;refine Zw (Ty g8 bD 1) (Gx (α := Int) Try.underlying31 Try.sizeOf3 rfl (nD.toM) rfl vJ) rfl ?_;refine Ze .plain rfl (Fp (g := pH) Try.isAgg3 Try.sizeOf3 rfl (nD.toM) vJ fun pR cP => ?_);obtain rfl := Zj.1 cP;refine Gg (.int .i64 ((w64 (aH + (1 : Int))))) rfl rfl rfl rfl ?_;obtain ⟨gO, xJ, h⟩ := Ga h;refine Zw (Ty g8 bD 1) (Gx (α := Int) Try.underlying31 Try.sizeOf3 rfl (nD.toM) rfl xJ) rfl ?_;refine Ze .plain rfl (Im (g := pH) (α := Int) (a' := ((w64 (aH + (1 : Int))))) Try.sizeOf3 rfl nD xJ rfl (Zj.2 rfl) fun dP qR hs b211 => ?_);have hfr := hfr.stp hs;have zB := zB.stp hs;refine Zb (Ts ?_);obtain rfl := sinj h;exact hQ _ _ ⟨dP, hfr, kG, b211, xG, zB, yG, xE⟩
      ·clear hx
       obtain ⟨eP, hfr, pM, qM, mK, nK, oK, pK⟩ := hR;refine Za (Gg (.int .i64 ((w64 (l5 + (1 : Int))))) pK rfl rfl rfl ?_);refine Zn (.int .i64 ((w64 (l5 + (1 : Int))))) rfl rfl ?_;exact Zb (Zd (xN (lE, (w64 (l5 + (1 : Int)))) _ _ ⟨eP, hfr, pM, qM, mK, nK, oK, rfl⟩ h))
     ·refine To qH rfl ?_
      refine Qc ?_;refine Tf ?_;refine Tf ?_;refine Tl ?_;obtain rfl := sinj h;exact hQ _ _ ⟨pH, hfr, kG, nD⟩
    ·clear hx
     obtain ⟨rR, hfr, rM, sM⟩ := hR;refine Zf (Za (Zo rM rfl ?_));refine Zg g8 rfl rfl ?_;refine Zg (.int .i64 (0)) rfl rfl ?_;refine Zb (Zd (Gq ?_));obtain ⟨gp214, hs, rp214⟩ := OM.pub (sM.toM);have hfr := hfr.stp hs;obtain rfl := sinj h;exact Bc rfl rfl (show _ = g8 from rfl) (show _ = .int .i64 (0) from rfl) ⟨_, hfr, _, _, rfl, rp214, rfl⟩
def f37 (x0 : PayTable) : Option (Qb × Int) :=
 (f57 x0).bind fun y5 =>
 jn (σ := Qb) (fun uE =>
  (f58 (y5.1)).bind fun o0 =>
  (f59 (o0.1)).bind fun t5 =>
  (f59 (o0.2.1)).bind fun l5 =>
  jn (σ := Qb × Bool) (fun (kJ, kI) =>
   jn (σ := Qb) (fun uK =>
    some (uK, (0 : Int))
    ) fun jM =>
   bif (!kI) then
    some ((⟨0, 0, 0, 0⟩ : Qb), (9 : Int))
   else
    jM (kJ)
   ) fun lJ =>
  Option.bind (α := Bool) (
   bif (t5.2 == (0 : Int)) then
    bif (l5.2 == (0 : Int)) then
     bif (o0.2.2.1 == (0 : Int)) then
      some ((o0.2.2.2 == (0 : Int)))
     else
      some (false)
    else
     some (false)
   else
    some (false)
   ) fun xG =>
  bif xG then
   some (uE, (0 : Int))
  else
   Option.bind (α := Bool) (
    bif (t5.2 == (1 : Int)) then
     bif (l5.2 == (1 : Int)) then
      bif (o0.2.2.1 == (0 : Int)) then
       bif (o0.2.2.2 == (0 : Int)) then
        (idx (o0.1) t5.1).bind fun mJ =>
        (idx (o0.2.1) l5.1).bind fun nJ =>
        some ((mJ == nJ))
       else
        some (false)
      else
       some (false)
     else
      some (false)
    else
     some (false)
    ) fun xF =>
   bif xF then
    (idx (((y5.1).PayTable).Rows) t5.1).bind fun kM =>
    (idx kM l5.1).bind fun yB =>
    (idx (o0.1) t5.1).bind fun zB =>
    (f32 ((0 : Int)) ((1000000 : Int)) (([(w64 (yB - zB))] : List Int))).bind fun zJ =>
    lJ ((⟨(1 : Int), t5.1, l5.1, (w64 (yB - zB))⟩ : Qb), zJ)
   else
    Option.bind (α := Bool) (
     bif (t5.2 == (1 : Int)) then
      bif (l5.2 == (0 : Int)) then
       bif (o0.2.2.2 == (0 : Int)) then
        (idx (o0.1) t5.1).bind fun nI =>
        some ((nI == (w64 (0 - o0.2.2.1))))
       else
        some (false)
      else
       some (false)
     else
      some (false)
     ) fun iE =>
    bif iE then
     (idx (((y5.1).PayTable).Across) t5.1).bind fun vE =>
     (idx (o0.1) t5.1).bind fun xE =>
     lJ ((⟨(2 : Int), t5.1, 0, (w64 (vE + xE))⟩ : Qb), true)
    else
     Option.bind (α := Bool) (
      bif (t5.2 == (0 : Int)) then
       bif (l5.2 == (1 : Int)) then
        bif (o0.2.2.1 == (0 : Int)) then
         (idx (o0.2.1) l5.1).bind fun pI =>
         some ((pI == (w64 (0 - o0.2.2.2))))
        else
         some (false)
       else
        some (false)
      else
       some (false)
      ) fun lE =>
     bif lE then
      (idx (((y5.1).PayTable).Down) l5.1).bind fun yE =>
      (idx (o0.2.1) l5.1).bind fun zE =>
      lJ ((⟨(3 : Int), 0, l5.1, (w64 (yE + zE))⟩ : Qb), true)
     else
      Option.bind (α := Bool) (
       bif (t5.2 == (0 : Int)) then
        bif (l5.2 == (0 : Int)) then
         some ((o0.2.2.1 == o0.2.2.2))
        else
         some (false)
       else
        some (false)
       ) fun mE =>
      bif mE then
       (f60 (([(w64 (((y5.1).PayTable).Total + o0.2.2.1))] : List Int))).bind fun aK =>
       lJ ((⟨(4 : Int), 0, 0, (w64 (((y5.1).PayTable).Total + o0.2.2.1))⟩ : Qb), aK)
      else
       lJ (uE, false)
  ) fun tQ =>
 bif (y5.2 != (0 : Int)) then
  some ((⟨0, 0, 0, 0⟩ : Qb), y5.2)
 else
  tQ ((⟨0, 0, 0, 0⟩ : Qb))
theorem en37 : Enters Try.prog 37 := enters_of Try.func37 (by kernel_rfl) rfl
theorem wk37 {gI : Gh} {wI : World} {x0 : PayTable} {up0 : Value} (rp0 : RV gI.m wI x0 up0) {r : Qb × Int} (h : f37 x0 = some r) : Fn Try.prog 37 #[up0] gI wI (fun m w v => ∃ y0 y1, v = .tuple #[y0, y1] ∧ RV m w (r.1) y0 ∧ y1 = .int .i64 (r.2)) := by
 unfold f37 at h;refine Gw Try.func37 rfl (Nat.le_of_ble_eq_true rfl) fun g0 hm hfr => ?_;have rp0 : RV g0.m wI x0 up0 := hm ▸ rp0;show E _ 195 none _ _ _ _ _;refine Zf (Za (Ze .plain rfl (Qs (g := g0) rfl rp0 fun g1 w1 p1 hs q1 => ?_)));have hfr := hfr.ext hs;refine Ze .plain rfl (Ti (g := g1) 2002 (⟨0, 0, 0, 0⟩ : Qb) Try.zeroValue94 (fun m w => ⟨_, (Gv Zv (Gv Zv (Gv Zv Zv))), rfl⟩) fun g2 w2 p2 hs b2 cb => ?_);have hfr := hfr.stp hs;have q1 := q1.stp hs;clear cb;refine Zg (.int .i64 (0)) rfl rfl ?_;refine Zb (Zd (Zf (Za (Ze .plain rfl (Gf (g := g2) Try.isAgg98 Try.sizeOf98 rfl q1 fun v3 r3 => ?_)))));obtain ⟨y5, hy5, h⟩ := Ga h;refine Ze .plain rfl (Zp (g := g2) (vs := [v3]) en57 (.cons rfl .nil) (wk57 r3 hy5) fun g4 w4_ v4 hs hr => ?_);have hfr := hfr.ext hs;have b2 := b2.ext hs;obtain ⟨zL, gU, rfl, aM, rfl⟩ := hr;refine Zn (.tuple #[zL, .int .i64 (y5.2)]) rfl rfl ?_;refine Zw zL (Zi rfl rfl) rfl ?_;refine Zw (.int .i64 (y5.2)) (Zi rfl rfl) rfl ?_;refine Ze .plain rfl (Ti (g := g4) 2004 (⟨⟨[], [], [], 0⟩⟩ : Gu) Try.zeroValue119 (fun m w => ⟨_, (Gv Tr (Gv Tr (Gv Tr Zv))), rfl⟩) fun g6 w6 p6 hs b6 cb => ?_);have hfr := hfr.stp hs;have b2 := b2.stp hs rfl;have aM := aM.stp hs;have iU : OSF 2004 60400 0 g6 w6 31 119 ([] : List (List Int)) p6 := cb.osf (by rfl);have jU : OSF 2004 60401 1 g6 w6 3 119 ([] : List Int) p6 := cb.osf (by rfl);have kU : OSF 2004 60402 2 g6 w6 3 119 ([] : List Int) p6 := cb.osf (by rfl);clear cb;refine Ze .plain rfl (Gm (g := g6) (v := zL) Try.sizeOf119 rfl b6 rfl aM fun g7 w7 hs b7 cb => ?_);clear cb;have hfr := hfr.stp hs;have b2 := b2.stp hs rfl;refine Zg (.int .i64 (y5.2)) rfl rfl ?_;refine Zb (Zd (Zq h (fun (s : Qb) e w => ∃ (g : Gh) , Fr gI wI g w ∧ e 2 = p2 ∧ OB 2002 g w 94 (s : Qb) p2 ∧ e 4 = p6 ∧ OB 2004 g w 119 (y5.1 : Gu) p6) (fun X12 tQ vQ h => ?_) ?_))
 ·refine Zf (Za (Zn (.int .i64 (y5.2)) rfl rfl ?_))
  refine Gg (.bool ((y5.2 != (0 : Int)))) rfl rfl rfl rfl ?_;refine Zb (Zd ?_);rcases Zt h with ⟨bM, h⟩ | ⟨bM, h⟩
  ·refine Tn bM rfl ?_
   refine Zf (Za (Ze .plain rfl (Tk (g := g7) Try.isAgg94 Try.sizeOf94 rfl b2 fun pR qR => ?_)));refine Zn (.int .i64 (y5.2)) rfl rfl ?_;refine Ze .plain rfl (Gm (g := g7) (v := pR) Try.sizeOf94 rfl b2 rfl qR fun aV w15 hs b15 cb => ?_);clear cb;have hfr := hfr.stp hs;refine Zg (.int .i64 (y5.2)) rfl rfl ?_;refine Zb (Zd (Gq (Tz ?_)));obtain rfl := sinj h;obtain ⟨ad16, cv16, hp16, xQ, cr16⟩ := Ql Try.isAgg94 Try.sizeOf94 b15;exact Qy rfl rfl ((show _ = p2 from rfl).trans hp16) xQ (show _ = .int .i64 (y5.2) from rfl) ⟨_, hfr, _, _, rfl, cr16, rfl⟩
  ·refine To bM rfl ?_
   exact Zu (Zd (vQ ((⟨0, 0, 0, 0⟩ : Qb)) _ _ ⟨g7, hfr, rfl, b2, rfl, b7⟩ h))
 ·rintro uE lU bV ⟨uQ, hfr, bK, aE, qI, vC⟩ h
  refine Zf (Za (Ze .plain rfl (Tk (g := uQ) Try.isAgg119 Try.sizeOf119 qI vC fun rR tR => ?_)));obtain ⟨o0, hy20, h⟩ := Ga h;refine Ze .plain rfl (Zp (g := uQ) (vs := [rR]) en58 (.cons rfl .nil) (wk58 tR hy20) fun uR mU cV hs hr => ?_);have hfr := hfr.ext hs;have aE := aE.ext hs;have vC := vC.ext hs;obtain ⟨n8, v8, gS, iS, rfl, cF, dF, rfl, rfl⟩ := hr;refine Zn (.tuple #[n8, v8, .int .i64 (o0.2.2.1), .int .i64 (o0.2.2.2)]) rfl rfl ?_;refine Zw n8 (Zi rfl rfl) rfl ?_;refine Zw v8 (Zi rfl rfl) rfl ?_;refine Zw (.int .i64 (o0.2.2.1)) (Zi rfl rfl) rfl ?_;refine Zw (.int .i64 (o0.2.2.2)) (Zi rfl rfl) rfl ?_;refine Zg n8 rfl rfl ?_;refine Zg v8 rfl rfl ?_;refine Zg (.int .i64 (o0.2.2.1)) rfl rfl ?_;refine Zg (.int .i64 (o0.2.2.2)) rfl rfl ?_;refine Zb (Zd (Zf (Za (Zn n8 rfl rfl ?_))));obtain ⟨t5, yQ, h⟩ := Ga h;refine Ze .plain rfl (Zp (g := uR) (vs := [n8]) en59 (.cons rfl .nil) (wk59 cF yQ) fun vR nU dV hs hr => ?_);have hfr := hfr.ext hs;have aE := aE.ext hs;have vC := vC.ext hs;have cF := cF.ext hs;have dF := dF.ext hs;obtain ⟨jS, lS, rfl, rfl, rfl⟩ := hr;refine Zn (.tuple #[.int .i64 (t5.1), .int .i64 (t5.2)]) rfl rfl ?_;refine Zw (.int .i64 (t5.1)) (Zi rfl rfl) rfl ?_;refine Zw (.int .i64 (t5.2)) (Zi rfl rfl) rfl ?_;refine Zg (.int .i64 (t5.1)) rfl rfl ?_;refine Zg (.int .i64 (t5.2)) rfl rfl ?_;refine Zb (Zd (Zf (Za (Zn v8 rfl rfl ?_))));obtain ⟨l5, zQ, h⟩ := Ga h;refine Ze .plain rfl (Zp (g := vR) (vs := [v8]) en59 (.cons rfl .nil) (wk59 dF zQ) fun pM oU eV hs hr => ?_);have hfr := hfr.ext hs;have aE := aE.ext hs;have vC := vC.ext hs;have cF := cF.ext hs;have dF := dF.ext hs;obtain ⟨mS, nS, rfl, rfl, rfl⟩ := hr;refine Zn (.tuple #[.int .i64 (l5.1), .int .i64 (l5.2)]) rfl rfl ?_;refine Zw (.int .i64 (l5.1)) (Zi rfl rfl) rfl ?_;refine Zw (.int .i64 (l5.2)) (Zi rfl rfl) rfl ?_;refine Zg (.int .i64 (l5.1)) rfl rfl ?_;refine Zg (.int .i64 (l5.2)) rfl rfl ?_;refine Zb (Zd (Zf (Za (Zg (.bool true) rfl rfl ?_))));refine Zb (Zd (Zq h (fun (s : Qb × Bool) e w => ∃ (g : Gh) , Fr gI wI g w ∧ e 2 = p2 ∧ OB 2002 g w 94 (s.1 : Qb) p2 ∧ e 13 = .bool (s.2)) (fun X614 lJ sI h => ?_) ?_))
  ·refine Zr ?_
   obtain ⟨xG, hx, h⟩ := Ga h;refine Gp (fun e w => ∃ (g : Gh) , Fr gI wI g w ∧ e 2 = p2 ∧ OB 2002 g w 94 (uE : Qb) p2 ∧ e 4 = p6 ∧ OB 2004 g w 119 (y5.1 : Gu) p6 ∧ e 5 = n8 ∧ RV g.m w (o0.1 : List Int) n8 ∧ e 6 = v8 ∧ RV g.m w (o0.2.1 : List Int) v8 ∧ e 7 = .int .i64 (o0.2.2.1) ∧ e 8 = .int .i64 (o0.2.2.2) ∧ e 9 = .int .i64 (t5.1) ∧ e 10 = .int .i64 (t5.2) ∧ e 11 = .int .i64 (l5.1) ∧ e 12 = .int .i64 (l5.2) ∧ e 13 = .bool (true) ∧ e 40 = .bool (xG)) (fun Q' hQ => ?_) (fun oS pU hR => ?_)
   ·replace h := hx
    clear hx;refine Za (Zn (.int .i64 (t5.2)) rfl rfl ?_);refine Gg (.bool ((t5.2 == (0 : Int)))) rfl rfl rfl rfl ?_;refine Zn (.bool ((t5.2 == (0 : Int)))) rfl rfl ?_;rcases Zt h with ⟨qH, h⟩ | ⟨qH, h⟩
    ·refine Zx (.int .i64 (l5.2)) (Zk rfl) rfl rfl qH rfl ?_
     refine Zx (.bool ((l5.2 == (0 : Int)))) (Gj rfl rfl rfl) rfl rfl qH rfl ?_;refine Zw (.bool ((l5.2 == (0 : Int)))) (Zl (b := (t5.2 == (0 : Int))) rfl (Tg qH rfl)) rfl ?_;refine Zn (.bool ((l5.2 == (0 : Int)))) rfl rfl ?_;rcases Zt h with ⟨sH, h⟩ | ⟨sH, h⟩
     ·refine Zx (.int .i64 (o0.2.2.1)) (Zk rfl) rfl rfl sH rfl ?_
      refine Zx (.bool ((o0.2.2.1 == (0 : Int)))) (Gj rfl rfl rfl) rfl rfl sH rfl ?_;refine Zw (.bool ((o0.2.2.1 == (0 : Int)))) (Zl (b := (l5.2 == (0 : Int))) rfl (Tg sH rfl)) rfl ?_;refine Zn (.bool ((o0.2.2.1 == (0 : Int)))) rfl rfl ?_;rcases Zt h with ⟨tH, h⟩ | ⟨tH, h⟩
      ·refine Zx (.int .i64 (o0.2.2.2)) (Zk rfl) rfl rfl tH rfl ?_
       refine Zx (.bool ((o0.2.2.2 == (0 : Int)))) (Gj rfl rfl rfl) rfl rfl tH rfl ?_;refine Zw (.bool ((o0.2.2.2 == (0 : Int)))) (Zl (b := (o0.2.2.1 == (0 : Int))) rfl (Tg tH rfl)) rfl ?_;refine Zg (.bool ((o0.2.2.2 == (0 : Int)))) rfl rfl ?_;refine Zb ?_;obtain rfl := sinj h;exact hQ _ _ ⟨pM, hfr, bK, aE, qI, vC, rfl, cF, rfl, dF, rfl, rfl, rfl, rfl, rfl, rfl, rfl, rfl⟩
      ·refine Zy rfl rfl tH rfl rfl ?_
       refine Zy rfl rfl tH rfl rfl ?_;refine Zw (.bool false) (Zl (b := (o0.2.2.1 == (0 : Int))) rfl (Tq tH rfl)) rfl ?_;refine Zg (.bool false) rfl rfl ?_;refine Zb ?_;obtain rfl := sinj h;exact hQ _ _ ⟨pM, hfr, bK, aE, qI, vC, rfl, cF, rfl, dF, rfl, rfl, rfl, rfl, rfl, rfl, rfl, rfl⟩
     ·refine Zy rfl rfl sH rfl rfl ?_
      refine Zy rfl rfl sH rfl rfl ?_;refine Zw (.bool false) (Zl (b := (l5.2 == (0 : Int))) rfl (Tq sH rfl)) rfl ?_;refine Ko 4 rfl ?_;refine Zg (.bool false) rfl rfl ?_;refine Zb ?_;obtain rfl := sinj h;exact hQ _ _ ⟨pM, hfr, bK, aE, qI, vC, rfl, cF, rfl, dF, rfl, rfl, rfl, rfl, rfl, rfl, rfl, rfl⟩
    ·refine Zy rfl rfl qH rfl rfl ?_
     refine Zy rfl rfl qH rfl rfl ?_;refine Zw (.bool false) (Zl (b := (t5.2 == (0 : Int))) rfl (Tq qH rfl)) rfl ?_;refine Ko 8 rfl ?_;refine Zg (.bool false) rfl rfl ?_;refine Zb ?_;obtain rfl := sinj h;exact hQ _ _ ⟨pM, hfr, bK, aE, qI, vC, rfl, cF, rfl, dF, rfl, rfl, rfl, rfl, rfl, rfl, rfl, rfl⟩
   ·clear hx
    obtain ⟨lI, hfr, oE, i6, zH, l9, yG, g8, zG, l8, rE, yF, aH, mB, eF, nB, cH, vK⟩ := hR;rcases Zt h with ⟨dL, h⟩ | ⟨dL, h⟩
    ·refine Tv (Eq.trans (show ev _ _ = .bool (xG) from vK) (congrArg Value.bool dL)) ?_
     refine Zf (Za (Ze .plain rfl (Tk (g := lI) Try.isAgg94 Try.sizeOf94 oE i6 fun aR bR => ?_)));refine Ze .plain rfl (Gm (g := lI) (v := aR) Try.sizeOf94 oE i6 rfl bR fun qU rU hs b624 cb => ?_);clear cb;have hfr := hfr.stp hs;refine Zg (.int .i64 (0)) rfl rfl ?_;refine Zb (Zd (Gq (Wd ?_)));refine Tz ?_;obtain rfl := sinj h;obtain ⟨ad625, cv625, hp625, tO, cr625⟩ := Ql Try.isAgg94 Try.sizeOf94 b624;exact Qy rfl rfl ((show _ = p2 from oE).trans hp625) tO (show _ = .int .i64 (0) from rfl) ⟨_, hfr, _, _, rfl, cr625, rfl⟩
    ·refine Tj (Eq.trans (show ev _ _ = .bool (xG) from vK) (congrArg Value.bool dL)) ?_
     obtain ⟨xF, hx, h⟩ := Ga h;refine Gp (fun e w => ∃ (g : Gh) , Fr gI wI g w ∧ e 2 = p2 ∧ OB 2002 g w 94 (uE : Qb) p2 ∧ e 4 = p6 ∧ OB 2004 g w 119 (y5.1 : Gu) p6 ∧ e 5 = n8 ∧ RV g.m w (o0.1 : List Int) n8 ∧ e 6 = v8 ∧ RV g.m w (o0.2.1 : List Int) v8 ∧ e 7 = .int .i64 (o0.2.2.1) ∧ e 8 = .int .i64 (o0.2.2.2) ∧ e 9 = .int .i64 (t5.1) ∧ e 10 = .int .i64 (t5.2) ∧ e 11 = .int .i64 (l5.1) ∧ e 12 = .int .i64 (l5.2) ∧ e 13 = .bool (true) ∧ e 56 = .bool (xF)) (fun Q' hQ => ?_) (fun xR uO hR => ?_)
     ·replace h := hx
      clear hx;rcases Zt h with ⟨n9, h⟩ | ⟨n9, h⟩
      ·rcases Zt h with ⟨oB, h⟩ | ⟨oB, h⟩
       ·rcases Zt h with ⟨bE, h⟩ | ⟨bE, h⟩
        ·rcases Zt h with ⟨vB, h⟩ | ⟨vB, h⟩
         ·obtain ⟨mJ, qM, h⟩ := Ga h
          have dR := Tp g8 qM;refine Zs (x := .tmp 74) Try.isAgg3 Try.sizeOf3 dR fun sU eR vO => ?_;obtain rfl := Zj.1 eR;obtain ⟨nJ, rM, h⟩ := Ga h;have gR := Tp l8 rM;refine Zs (x := .tmp 78) Try.isAgg3 Try.sizeOf3 gR fun tU iR xO => ?_;obtain rfl := Zj.1 iR;refine Tx (g := lI) (n := 26) [] [0, 1, 2, 3, 4, 5, 6, 7, 8, 9, 10, 11, 12, 13, 14, 15, 16, 17, 18, 19, 20, 21, 22, 23, 24, 25] rfl Qq (by kernel_rfl) trivial ?_;refine Zz (.int .i64 (t5.2)) rfl rfl (Zk mB) ?_;refine Zz (.bool ((t5.2 == (1 : Int)))) rfl rfl (Gj rfl rfl rfl) ?_;refine Zz (.bool ((t5.2 == (1 : Int)))) rfl rfl (Zk rfl) ?_;refine L_y (.int .i64 (l5.2)) rfl rfl rfl rfl n9 (Zk nB) ?_;refine L_y (.bool ((l5.2 == (1 : Int)))) rfl rfl rfl rfl n9 (Gj rfl rfl rfl) ?_;refine Zz (.bool ((l5.2 == (1 : Int)))) rfl rfl (Zl (b := (t5.2 == (1 : Int))) rfl (Tg n9 rfl)) ?_;refine Zz (.bool ((l5.2 == (1 : Int)))) rfl rfl (Zk rfl) ?_;refine L_y (.int .i64 (o0.2.2.1)) rfl rfl rfl rfl oB (Zk rE) ?_;refine L_y (.bool ((o0.2.2.1 == (0 : Int)))) rfl rfl rfl rfl oB (Gj rfl rfl rfl) ?_;refine Zz (.bool ((o0.2.2.1 == (0 : Int)))) rfl rfl (Zl (b := (l5.2 == (1 : Int))) rfl (Tg oB rfl)) ?_;refine Zz (.bool ((o0.2.2.1 == (0 : Int)))) rfl rfl (Zk rfl) ?_;refine L_y (.int .i64 (o0.2.2.2)) rfl rfl rfl rfl bE (Zk yF) ?_;refine L_y (.bool ((o0.2.2.2 == (0 : Int)))) rfl rfl rfl rfl bE (Gj rfl rfl rfl) ?_;refine Zz (.bool ((o0.2.2.2 == (0 : Int)))) rfl rfl (Zl (b := (o0.2.2.1 == (0 : Int))) rfl (Tg bE rfl)) ?_;refine Zz (.bool ((o0.2.2.2 == (0 : Int)))) rfl rfl (Zk rfl) ?_;refine L_y n8 rfl rfl rfl rfl vB (Zk yG) ?_;refine L_y (.int .i64 (t5.1)) rfl rfl rfl rfl vB (Zk aH) ?_;refine L_y (Ty n8 t5.1 1) rfl rfl rfl rfl vB (Zh (α := Int) Try.underlying31 Try.sizeOf3 rfl g8 rfl qM) ?_;refine Tt (c := .int .i64 (mJ)) rfl rfl (.yes2 rfl rfl vB) (fun _ _ h => h.ch) vO rfl ?_;refine L_y v8 rfl rfl rfl rfl vB (Zk zG) ?_;refine L_y (.int .i64 (l5.1)) rfl rfl rfl rfl vB (Zk eF) ?_;refine L_y (Ty v8 l5.1 1) rfl rfl rfl rfl vB (Zh (α := Int) Try.underlying31 Try.sizeOf3 rfl l8 rfl rM) ?_;refine Tt (c := .int .i64 (nJ)) rfl rfl (.yes2 rfl rfl vB) (fun _ _ h => h.ch) xO rfl ?_;refine L_y (.bool ((mJ == nJ))) rfl rfl rfl rfl vB (Gj rfl rfl rfl) ?_;refine Zz (.bool ((mJ == nJ))) rfl rfl (Zl (b := (o0.2.2.2 == (0 : Int))) rfl (Tg vB rfl)) ?_;refine Zz (.bool ((mJ == nJ))) rfl rfl (Tb rfl) ?_;refine Kr fun jR uU hs => ?_;have hfr := hfr.ext hs;have i6 := i6.ext hs;have l9 := l9.ext hs;have g8 := g8.ext hs;have l8 := l8.ext hs;clear hs;refine Zb ?_;obtain rfl := sinj h;exact hQ _ _ ⟨jR, hfr, oE, i6, zH, l9, yG, g8, zG, l8, rE, yF, aH, mB, eF, nB, cH, rfl⟩
         ·refine Tx (g := lI) (n := 26) [] [0, 1, 2, 3, 4, 5, 6, 7, 8, 9, 10, 11, 12, 13, 14, 15, 16, 17, 18, 19, 20, 21, 22, 23, 24, 25] rfl Qq (by kernel_rfl) trivial ?_
          refine Zz (.int .i64 (t5.2)) rfl rfl (Zk mB) ?_;refine Zz (.bool ((t5.2 == (1 : Int)))) rfl rfl (Gj rfl rfl rfl) ?_;refine Zz (.bool ((t5.2 == (1 : Int)))) rfl rfl (Zk rfl) ?_;refine L_y (.int .i64 (l5.2)) rfl rfl rfl rfl n9 (Zk nB) ?_;refine L_y (.bool ((l5.2 == (1 : Int)))) rfl rfl rfl rfl n9 (Gj rfl rfl rfl) ?_;refine Zz (.bool ((l5.2 == (1 : Int)))) rfl rfl (Zl (b := (t5.2 == (1 : Int))) rfl (Tg n9 rfl)) ?_;refine Zz (.bool ((l5.2 == (1 : Int)))) rfl rfl (Zk rfl) ?_;refine L_y (.int .i64 (o0.2.2.1)) rfl rfl rfl rfl oB (Zk rE) ?_;refine L_y (.bool ((o0.2.2.1 == (0 : Int)))) rfl rfl rfl rfl oB (Gj rfl rfl rfl) ?_;refine Zz (.bool ((o0.2.2.1 == (0 : Int)))) rfl rfl (Zl (b := (l5.2 == (1 : Int))) rfl (Tg oB rfl)) ?_;refine Zz (.bool ((o0.2.2.1 == (0 : Int)))) rfl rfl (Zk rfl) ?_;refine L_y (.int .i64 (o0.2.2.2)) rfl rfl rfl rfl bE (Zk yF) ?_;refine L_y (.bool ((o0.2.2.2 == (0 : Int)))) rfl rfl rfl rfl bE (Gj rfl rfl rfl) ?_;refine Zz (.bool ((o0.2.2.2 == (0 : Int)))) rfl rfl (Zl (b := (o0.2.2.1 == (0 : Int))) rfl (Tg bE rfl)) ?_;refine Zz (.bool ((o0.2.2.2 == (0 : Int)))) rfl rfl (Zk rfl) ?_;iterate 9 refine L_s rfl rfl rfl vB rfl ?_
          refine Zz (.bool false) rfl rfl (Zl (b := (o0.2.2.2 == (0 : Int))) rfl (Tq vB rfl)) ?_;refine Zz (.bool false) rfl rfl (Tb rfl) ?_;refine Kr fun lR vU hs => ?_;have hfr := hfr.ext hs;have i6 := i6.ext hs;have l9 := l9.ext hs;have g8 := g8.ext hs;have l8 := l8.ext hs;clear hs;refine Zb ?_;obtain rfl := sinj h;exact hQ _ _ ⟨lR, hfr, oE, i6, zH, l9, yG, g8, zG, l8, rE, yF, aH, mB, eF, nB, cH, rfl⟩
        ·refine Tx (g := lI) (n := 26) [] [0, 1, 2, 3, 4, 5, 6, 7, 8, 9, 10, 11, 12, 13, 14, 15, 16, 17, 18, 19, 20, 21, 22, 23, 24, 25] rfl Qq (by kernel_rfl) trivial ?_
         refine Zz (.int .i64 (t5.2)) rfl rfl (Zk mB) ?_;refine Zz (.bool ((t5.2 == (1 : Int)))) rfl rfl (Gj rfl rfl rfl) ?_;refine Zz (.bool ((t5.2 == (1 : Int)))) rfl rfl (Zk rfl) ?_;refine L_y (.int .i64 (l5.2)) rfl rfl rfl rfl n9 (Zk nB) ?_;refine L_y (.bool ((l5.2 == (1 : Int)))) rfl rfl rfl rfl n9 (Gj rfl rfl rfl) ?_;refine Zz (.bool ((l5.2 == (1 : Int)))) rfl rfl (Zl (b := (t5.2 == (1 : Int))) rfl (Tg n9 rfl)) ?_;refine Zz (.bool ((l5.2 == (1 : Int)))) rfl rfl (Zk rfl) ?_;refine L_y (.int .i64 (o0.2.2.1)) rfl rfl rfl rfl oB (Zk rE) ?_;refine L_y (.bool ((o0.2.2.1 == (0 : Int)))) rfl rfl rfl rfl oB (Gj rfl rfl rfl) ?_;refine Zz (.bool ((o0.2.2.1 == (0 : Int)))) rfl rfl (Zl (b := (l5.2 == (1 : Int))) rfl (Tg oB rfl)) ?_;refine Zz (.bool ((o0.2.2.1 == (0 : Int)))) rfl rfl (Zk rfl) ?_;refine L_s rfl rfl rfl bE rfl ?_;refine L_s rfl rfl rfl bE rfl ?_;refine Zz (.bool false) rfl rfl (Zl (b := (o0.2.2.1 == (0 : Int))) rfl (Tq bE rfl)) ?_;refine Ua (fun _ => rfl) 11 rfl ?_;refine Zz (.bool false) rfl rfl (Tb rfl) ?_;refine Kr fun mR xU hs => ?_;have hfr := hfr.ext hs;have i6 := i6.ext hs;have l9 := l9.ext hs;have g8 := g8.ext hs;have l8 := l8.ext hs;clear hs;refine Zb ?_;obtain rfl := sinj h;exact hQ _ _ ⟨mR, hfr, oE, i6, zH, l9, yG, g8, zG, l8, rE, yF, aH, mB, eF, nB, cH, rfl⟩
       ·refine Tx (g := lI) (n := 26) [] [0, 1, 2, 3, 4, 5, 6, 7, 8, 9, 10, 11, 12, 13, 14, 15, 16, 17, 18, 19, 20, 21, 22, 23, 24, 25] rfl Qq (by kernel_rfl) trivial ?_
        refine Zz (.int .i64 (t5.2)) rfl rfl (Zk mB) ?_;refine Zz (.bool ((t5.2 == (1 : Int)))) rfl rfl (Gj rfl rfl rfl) ?_;refine Zz (.bool ((t5.2 == (1 : Int)))) rfl rfl (Zk rfl) ?_;refine L_y (.int .i64 (l5.2)) rfl rfl rfl rfl n9 (Zk nB) ?_;refine L_y (.bool ((l5.2 == (1 : Int)))) rfl rfl rfl rfl n9 (Gj rfl rfl rfl) ?_;refine Zz (.bool ((l5.2 == (1 : Int)))) rfl rfl (Zl (b := (t5.2 == (1 : Int))) rfl (Tg n9 rfl)) ?_;refine Zz (.bool ((l5.2 == (1 : Int)))) rfl rfl (Zk rfl) ?_;refine L_s rfl rfl rfl oB rfl ?_;refine L_s rfl rfl rfl oB rfl ?_;refine Zz (.bool false) rfl rfl (Zl (b := (l5.2 == (1 : Int))) rfl (Tq oB rfl)) ?_;refine Ua (fun _ => rfl) 15 rfl ?_;refine Zz (.bool false) rfl rfl (Tb rfl) ?_;refine Kr fun nR yU hs => ?_;have hfr := hfr.ext hs;have i6 := i6.ext hs;have l9 := l9.ext hs;have g8 := g8.ext hs;have l8 := l8.ext hs;clear hs;refine Zb ?_;obtain rfl := sinj h;exact hQ _ _ ⟨nR, hfr, oE, i6, zH, l9, yG, g8, zG, l8, rE, yF, aH, mB, eF, nB, cH, rfl⟩
      ·refine Tx (g := lI) (n := 26) [] [0, 1, 2, 3, 4, 5, 6, 7, 8, 9, 10, 11, 12, 13, 14, 15, 16, 17, 18, 19, 20, 21, 22, 23, 24, 25] rfl Qq (by kernel_rfl) trivial ?_
       refine Zz (.int .i64 (t5.2)) rfl rfl (Zk mB) ?_;refine Zz (.bool ((t5.2 == (1 : Int)))) rfl rfl (Gj rfl rfl rfl) ?_;refine Zz (.bool ((t5.2 == (1 : Int)))) rfl rfl (Zk rfl) ?_;refine L_s rfl rfl rfl n9 rfl ?_;refine L_s rfl rfl rfl n9 rfl ?_;refine Zz (.bool false) rfl rfl (Zl (b := (t5.2 == (1 : Int))) rfl (Tq n9 rfl)) ?_;refine Ua (fun _ => rfl) 19 rfl ?_;refine Zz (.bool false) rfl rfl (Tb rfl) ?_;refine Kr fun oR zU hs => ?_;have hfr := hfr.ext hs;have i6 := i6.ext hs;have l9 := l9.ext hs;have g8 := g8.ext hs;have l8 := l8.ext hs;clear hs;refine Zb ?_;obtain rfl := sinj h;exact hQ _ _ ⟨oR, hfr, oE, i6, zH, l9, yG, g8, zG, l8, rE, yF, aH, mB, eF, nB, cH, rfl⟩
     ·clear hx
      obtain ⟨uH, hfr, cD, lD, gH, nD, rF, cC, aI, bI, jH, kH, uC, aG, oD, bG, xH, nK⟩ := hR;rcases Zt h with ⟨oK, h⟩ | ⟨oK, h⟩
      ·refine Tv (Eq.trans (show ev _ _ = .bool (xF) from nK) (congrArg Value.bool oK)) ?_
       refine Zf (Ya (x := .tmp 85) (Gy.comp Ta Qv rfl).1 Try.isAgg76 Try.sizeOf76 nD fun sM tM vN => ?_);obtain ⟨kM, gL, h⟩ := Ga h;have yO := Tp tM gL;refine Zs (x := .tmp 88) Try.isAgg31 Try.sizeOf31 yO fun uM vM xN => ?_;obtain ⟨yB, iL, h⟩ := Ga h;have zO := Tp vM iL;refine Zs (x := .tmp 91) Try.isAgg3 Try.sizeOf3 zO fun pS aP yN => ?_;obtain rfl := Zj.1 aP;obtain ⟨zB, jL, h⟩ := Ga h;have bP := Tp cC jL;refine Zs (x := .tmp 95) Try.isAgg3 Try.sizeOf3 bP fun qS cP zN => ?_;obtain rfl := Zj.1 cP;have cK : RV uH.m uO (⟨(1 : Int), t5.1, l5.1, (w64 (yB - zB))⟩ : Qb) (.agg (Qd [[.int .i64 0], [.int .i64 0], [.int .i64 0], [.int .i64 0]] [(0, .int .i64 (1)), (1, .int .i64 (t5.1)), (2, .int .i64 (l5.1)), (3, .int .i64 ((w64 (yB - zB))))]).flatten.toArray) := Qj rfl (Te (rfl) (Te (rfl) (Te (rfl) (Qh (rfl)))));generalize aO : (Value.agg (Qd [[.int .i64 0], [.int .i64 0], [.int .i64 0], [.int .i64 0]] [(0, .int .i64 (1)), (1, .int .i64 (t5.1)), (2, .int .i64 (l5.1)), (3, .int .i64 ((w64 (yB - zB))))]).flatten.toArray) = xM at cK;refine Tx (g := uH) (n := 17) [] [0, 1, 2, 3, 4, 5, 6, 7, 8, 9, 10, 11, 12, 13, 14, 15, 16] rfl Qq (by kernel_rfl) trivial ?_;refine Zz (.int .i64 (t5.1)) rfl rfl (Zk uC) ?_;refine Zz (.int .i64 (l5.1)) rfl rfl (Zk oD) ?_;refine Zz (Gk p6 0) rfl rfl (Zc Qi gH (OB.ptr nD)) ?_;refine Zz (Gk p6 0) rfl rfl (Ky (o1 := 0) rfl Kk rfl (OB.ptr nD)) ?_;refine Tt (c := sM) rfl rfl .plain (fun _ _ h => ⟨h.ch, fun b hb _ => h.below.block b hb⟩) vN rfl ?_;refine Zz (.int .i64 (t5.1)) rfl rfl (Zk uC) ?_;refine Zz (Ty sM t5.1 1) rfl rfl (Zh (α := List Int) Try.underlying76 Try.sizeOf31 rfl tM rfl gL) ?_;refine Tt (c := uM) rfl rfl .plain (fun _ _ h => h.ch) xN rfl ?_;refine Zz (.int .i64 (l5.1)) rfl rfl (Zk oD) ?_;refine Zz (Ty uM l5.1 1) rfl rfl (Zh (α := Int) Try.underlying31 Try.sizeOf3 rfl vM rfl iL) ?_;refine Tt (c := .int .i64 (yB)) rfl rfl .plain (fun _ _ h => h.ch) yN rfl ?_;refine Zz n8 rfl rfl (Zk rF) ?_;refine Zz (.int .i64 (t5.1)) rfl rfl (Zk uC) ?_;refine Zz (Ty n8 t5.1 1) rfl rfl (Zh (α := Int) Try.underlying31 Try.sizeOf3 rfl cC rfl jL) ?_;refine Tt (c := .int .i64 (zB)) rfl rfl .plain (fun _ _ h => h.ch) zN rfl ?_;refine Zz (.int .i64 ((w64 (yB - zB)))) rfl rfl (Gj rfl rfl rfl) ?_;refine Zz xM rfl rfl (aO ▸ Qu (vs := [(0, .int .i64 (1)), (1, .int .i64 (t5.1)), (2, .int .i64 (l5.1)), (3, .int .i64 ((w64 (yB - zB))))]) [[.int .i64 0], [.int .i64 0], [.int .i64 0], [.int .i64 0]] Ca rfl rfl (.cons rfl (.cons rfl (.cons rfl (.cons rfl .nil)))) ⟨⟨_, rfl, rfl⟩, ⟨⟨_, rfl, rfl⟩, ⟨⟨_, rfl, rfl⟩, ⟨⟨_, rfl, rfl⟩, trivial⟩⟩⟩⟩) ?_;refine Kr fun dP rS hs => ?_;have hfr := hfr.ext hs;have lD := lD.ext hs;have cK := cK.ext hs;clear hs;refine Ze .plain rfl (Gm (g := dP) (v := xM) Try.sizeOf94 cD lD rfl cK fun bN sS hs b1081 cb => ?_);clear cb;have hfr := hfr.stp hs;refine Zb (Zd (Za (Zw (Gk p2 3) (Zc Lb cD (OB.ptr b1081)) rfl ?_)));refine Ze .plain rfl (Wz (g := bN) Yi.1 Try.isAgg3 Try.sizeOf3 rfl b1081 fun tS eP => ?_);obtain rfl := Zj.1 eP;refine Ze .plain rfl (Gl (g := bN) 3101 (xs := ([(w64 (yB - zB))] : List Int)) (vs := [.int .i64 ((w64 (yB - zB)))]) Try.underlying31 Try.sizeOf3 Try.zeroValue3 rfl rfl (.cons rfl .nil) (RVs.cons (Zj.2 rfl) RVs.nil) rfl rfl fun gP uS iP hs o1084 jP hxt hfl => ?_);have hfr := hfr.stp hs;have b1081 := b1081.stp hs rfl;obtain ⟨zJ, bO, h⟩ := Ga h;refine Ze .plain rfl (Zp (g := gP) (vs := [.int .i64 (0), .int .i64 (1000000), iP]) en32 (.cons rfl (.cons rfl (.cons rfl .nil))) (wk32 jP bO) fun kP yR vS hs hr => ?_);have hfr := hfr.ext hs;have b1081 := b1081.ext hs;subst hr;refine Zg (.bool (zJ)) rfl rfl ?_;exact Zb (Ts (Zd (sI ((⟨(1 : Int), t5.1, l5.1, (w64 (yB - zB))⟩ : Qb), zJ) _ _ ⟨kP, hfr, cD, b1081, rfl⟩ h)))
      ·refine Tj (Eq.trans (show ev _ _ = .bool (xF) from nK) (congrArg Value.bool oK)) ?_
       obtain ⟨iE, hx, h⟩ := Ga h;refine Gp (fun e w => ∃ (g : Gh) , Fr gI wI g w ∧ e 2 = p2 ∧ OB 2002 g w 94 (uE : Qb) p2 ∧ e 4 = p6 ∧ OB 2004 g w 119 (y5.1 : Gu) p6 ∧ e 5 = n8 ∧ RV g.m w (o0.1 : List Int) n8 ∧ e 6 = v8 ∧ RV g.m w (o0.2.1 : List Int) v8 ∧ e 7 = .int .i64 (o0.2.2.1) ∧ e 8 = .int .i64 (o0.2.2.2) ∧ e 9 = .int .i64 (t5.1) ∧ e 10 = .int .i64 (t5.2) ∧ e 11 = .int .i64 (l5.1) ∧ e 12 = .int .i64 (l5.2) ∧ e 13 = .bool (true) ∧ e 103 = .bool (iE)) (fun Q' hQ => ?_) (fun zR lP hR => ?_)
       ·replace h := hx
        clear hx;refine Za (Zo aG rfl ?_);refine Gg (.bool ((t5.2 == (1 : Int)))) rfl rfl rfl rfl ?_;refine Zn (.bool ((t5.2 == (1 : Int)))) rfl rfl ?_;rcases Zt h with ⟨cG, h⟩ | ⟨cG, h⟩
        ·refine Zx (.int .i64 (l5.2)) (Zk bG) rfl rfl cG rfl ?_
         refine Zx (.bool ((l5.2 == (0 : Int)))) (Gj rfl rfl rfl) rfl rfl cG rfl ?_;refine Zw (.bool ((l5.2 == (0 : Int)))) (Zl (b := (t5.2 == (1 : Int))) rfl (Tg cG rfl)) rfl ?_;refine Zn (.bool ((l5.2 == (0 : Int)))) rfl rfl ?_;rcases Zt h with ⟨eG, h⟩ | ⟨eG, h⟩
         ·refine Zx (.int .i64 (o0.2.2.2)) (Zk kH) rfl rfl eG rfl ?_
          refine Zx (.bool ((o0.2.2.2 == (0 : Int)))) (Gj rfl rfl rfl) rfl rfl eG rfl ?_;refine Zw (.bool ((o0.2.2.2 == (0 : Int)))) (Zl (b := (l5.2 == (0 : Int))) rfl (Tg eG rfl)) rfl ?_;refine Zn (.bool ((o0.2.2.2 == (0 : Int)))) rfl rfl ?_;rcases Zt h with ⟨aB, h⟩ | ⟨aB, h⟩
          ·refine Zx n8 (Zk rF) rfl rfl aB rfl ?_
           refine Zx (.int .i64 (t5.1)) (Zk uC) rfl rfl aB rfl ?_;obtain ⟨nI, lL, h⟩ := Ga h;refine Zx (Ty n8 t5.1 1) (Zh (α := Int) Try.underlying31 Try.sizeOf3 rfl cC rfl lL) rfl rfl aB rfl ?_;have mP := Tp cC lL;refine Ze (.yes2 rfl rfl aB) rfl (Gf (g := uH) Try.isAgg3 Try.sizeOf3 rfl mP fun xS nP => ?_);obtain rfl := Zj.1 nP;refine Zx (.int .i64 (o0.2.2.1)) (Zk jH) rfl rfl aB rfl ?_;refine Zx (.int .i64 (w64 (0 - o0.2.2.1))) (P_neg rfl) rfl rfl aB rfl ?_;refine Zx (.bool ((nI == (w64 (0 - o0.2.2.1))))) (Gj rfl rfl rfl) rfl rfl aB rfl ?_;refine Zw (.bool ((nI == (w64 (0 - o0.2.2.1))))) (Zl (b := (o0.2.2.2 == (0 : Int))) rfl (Tg aB rfl)) rfl ?_;refine Zg (.bool ((nI == (w64 (0 - o0.2.2.1))))) rfl rfl ?_;refine Zb ?_;obtain rfl := sinj h;exact hQ _ _ ⟨uH, hfr, cD, lD, gH, nD, rF, cC, aI, bI, jH, kH, uC, aG, oD, bG, xH, rfl⟩
          ·refine Zy rfl rfl aB rfl rfl ?_
           iterate 6 refine Zy rfl rfl aB rfl rfl ?_
           refine Zw (.bool false) (Zl (b := (o0.2.2.2 == (0 : Int))) rfl (Tq aB rfl)) rfl ?_;refine Zg (.bool false) rfl rfl ?_;refine Zb ?_;obtain rfl := sinj h;exact hQ _ _ ⟨uH, hfr, cD, lD, gH, nD, rF, cC, aI, bI, jH, kH, uC, aG, oD, bG, xH, rfl⟩
         ·refine Zy rfl rfl eG rfl rfl ?_
          refine Zy rfl rfl eG rfl rfl ?_;refine Zw (.bool false) (Zl (b := (l5.2 == (0 : Int))) rfl (Tq eG rfl)) rfl ?_;refine Ko 9 rfl ?_;refine Zg (.bool false) rfl rfl ?_;refine Zb ?_;obtain rfl := sinj h;exact hQ _ _ ⟨uH, hfr, cD, lD, gH, nD, rF, cC, aI, bI, jH, kH, uC, aG, oD, bG, xH, rfl⟩
        ·refine Zy rfl rfl cG rfl rfl ?_
         refine Zy rfl rfl cG rfl rfl ?_;refine Zw (.bool false) (Zl (b := (t5.2 == (1 : Int))) rfl (Tq cG rfl)) rfl ?_;refine Ko 13 rfl ?_;refine Zg (.bool false) rfl rfl ?_;refine Zb ?_;obtain rfl := sinj h;exact hQ _ _ ⟨uH, hfr, cD, lD, gH, nD, rF, cC, aI, bI, jH, kH, uC, aG, oD, bG, xH, rfl⟩
       ·clear hx
        obtain ⟨yH, hfr, sF, yD, lH, zD, qN, xK, mH, tF, nH, oH, oJ, gG, iG, jG, kG, sJ⟩ := hR;rcases Zt h with ⟨pK, h⟩ | ⟨pK, h⟩
        ·refine Tv (Eq.trans (show ev _ _ = .bool (iE) from sJ) (congrArg Value.bool pK)) ?_
         refine Ya (x := .tmp 125) (Gy.comp Ta Hr rfl).1 Try.isAgg31 Try.sizeOf31 zD fun cN dN cO => ?_;obtain ⟨vE, mL, h⟩ := Ga h;have oP := Tp dN mL;refine Zs (x := .tmp 128) Try.isAgg3 Try.sizeOf3 oP fun yS pP dO => ?_;obtain rfl := Zj.1 pP;obtain ⟨xE, nL, h⟩ := Ga h;have sP := Tp xK nL;refine Zs (x := .tmp 132) Try.isAgg3 Try.sizeOf3 sP fun zS tP eO => ?_;obtain rfl := Zj.1 tP;have dK : RV yH.m lP (⟨(2 : Int), t5.1, 0, (w64 (vE + xE))⟩ : Qb) (.agg (Qd [[.int .i64 0], [.int .i64 0], [.int .i64 0], [.int .i64 0]] [(0, .int .i64 (2)), (1, .int .i64 (t5.1)), (3, .int .i64 ((w64 (vE + xE))))]).flatten.toArray) := Qj rfl (Te (rfl) (Te (rfl) (Te (Zv) (Qh (rfl)))));generalize gO : (Value.agg (Qd [[.int .i64 0], [.int .i64 0], [.int .i64 0], [.int .i64 0]] [(0, .int .i64 (2)), (1, .int .i64 (t5.1)), (3, .int .i64 ((w64 (vE + xE))))]).flatten.toArray) = eN at dK;refine Tx (g := yH) (n := 13) [] [0, 1, 2, 3, 4, 5, 6, 7, 8, 9, 10, 11, 12] rfl Qq (by kernel_rfl) trivial ?_;refine Zz (.int .i64 (t5.1)) rfl rfl (Zk oJ) ?_;refine Zz (Gk p6 0) rfl rfl (Zc Qi lH (OB.ptr zD)) ?_;refine Zz (Gk p6 1) rfl rfl (Ky (o1 := 0) rfl Xp rfl (OB.ptr zD)) ?_;refine Tt (c := cN) rfl rfl .plain (fun _ _ h => ⟨h.ch, fun b hb _ => h.below.block b hb⟩) cO rfl ?_;refine Zz (.int .i64 (t5.1)) rfl rfl (Zk oJ) ?_;refine Zz (Ty cN t5.1 1) rfl rfl (Zh (α := Int) Try.underlying31 Try.sizeOf3 rfl dN rfl mL) ?_;refine Tt (c := .int .i64 (vE)) rfl rfl .plain (fun _ _ h => h.ch) dO rfl ?_;refine Zz n8 rfl rfl (Zk qN) ?_;refine Zz (.int .i64 (t5.1)) rfl rfl (Zk oJ) ?_;refine Zz (Ty n8 t5.1 1) rfl rfl (Zh (α := Int) Try.underlying31 Try.sizeOf3 rfl xK rfl nL) ?_;refine Tt (c := .int .i64 (xE)) rfl rfl .plain (fun _ _ h => h.ch) eO rfl ?_;refine Zz (.int .i64 ((w64 (vE + xE)))) rfl rfl (Gj rfl rfl rfl) ?_;refine Zz eN rfl rfl (gO ▸ Qu (vs := [(0, .int .i64 (2)), (1, .int .i64 (t5.1)), (3, .int .i64 ((w64 (vE + xE))))]) [[.int .i64 0], [.int .i64 0], [.int .i64 0], [.int .i64 0]] Ca rfl rfl (.cons rfl (.cons rfl (.cons rfl .nil))) ⟨⟨_, rfl, rfl⟩, ⟨⟨_, rfl, rfl⟩, ⟨⟨_, rfl, rfl⟩, trivial⟩⟩⟩) ?_;refine Kr fun uP eT hs => ?_;have hfr := hfr.ext hs;have yD := yD.ext hs;have dK := dK.ext hs;clear hs;refine Ze .plain rfl (Gm (g := uP) (v := eN) Try.sizeOf94 sF yD rfl dK fun vP lT hs b1137 cb => ?_);clear cb;have hfr := hfr.stp hs;exact Zb (Ts (Zd (sI ((⟨(2 : Int), t5.1, 0, (w64 (vE + xE))⟩ : Qb), true) _ _ ⟨vP, hfr, sF, b1137, kG⟩ h)))
        ·refine Tj (Eq.trans (show ev _ _ = .bool (iE) from sJ) (congrArg Value.bool pK)) ?_
         obtain ⟨lE, hx, h⟩ := Ga h;refine Gp (fun e w => ∃ (g : Gh) , Fr gI wI g w ∧ e 2 = p2 ∧ OB 2002 g w 94 (uE : Qb) p2 ∧ e 4 = p6 ∧ OB 2004 g w 119 (y5.1 : Gu) p6 ∧ e 6 = v8 ∧ RV g.m w (o0.2.1 : List Int) v8 ∧ e 7 = .int .i64 (o0.2.2.1) ∧ e 8 = .int .i64 (o0.2.2.2) ∧ e 10 = .int .i64 (t5.2) ∧ e 11 = .int .i64 (l5.1) ∧ e 12 = .int .i64 (l5.2) ∧ e 13 = .bool (true) ∧ e 136 = .bool (lE)) (fun Q' hQ => ?_) (fun aS xP hR => ?_)
         ·replace h := hx
          clear hx;refine Za (Zo gG rfl ?_);refine Gg (.bool ((t5.2 == (0 : Int)))) rfl rfl rfl rfl ?_;refine Zn (.bool ((t5.2 == (0 : Int)))) rfl rfl ?_;rcases Zt h with ⟨lG, h⟩ | ⟨lG, h⟩
          ·refine Zx (.int .i64 (l5.2)) (Zk jG) rfl rfl lG rfl ?_
           refine Zx (.bool ((l5.2 == (1 : Int)))) (Gj rfl rfl rfl) rfl rfl lG rfl ?_;refine Zw (.bool ((l5.2 == (1 : Int)))) (Zl (b := (t5.2 == (0 : Int))) rfl (Tg lG rfl)) rfl ?_;refine Zn (.bool ((l5.2 == (1 : Int)))) rfl rfl ?_;rcases Zt h with ⟨mG, h⟩ | ⟨mG, h⟩
           ·refine Zx (.int .i64 (o0.2.2.1)) (Zk nH) rfl rfl mG rfl ?_
            refine Zx (.bool ((o0.2.2.1 == (0 : Int)))) (Gj rfl rfl rfl) rfl rfl mG rfl ?_;refine Zw (.bool ((o0.2.2.1 == (0 : Int)))) (Zl (b := (l5.2 == (1 : Int))) rfl (Tg mG rfl)) rfl ?_;refine Zn (.bool ((o0.2.2.1 == (0 : Int)))) rfl rfl ?_;rcases Zt h with ⟨lB, h⟩ | ⟨lB, h⟩
            ·refine Zx v8 (Zk mH) rfl rfl lB rfl ?_
             refine Zx (.int .i64 (l5.1)) (Zk iG) rfl rfl lB rfl ?_;obtain ⟨pI, oL, h⟩ := Ga h;refine Zx (Ty v8 l5.1 1) (Zh (α := Int) Try.underlying31 Try.sizeOf3 rfl tF rfl oL) rfl rfl lB rfl ?_;have yP := Tp tF oL;refine Ze (.yes2 rfl rfl lB) rfl (Gf (g := yH) Try.isAgg3 Try.sizeOf3 rfl yP fun mT zP => ?_);obtain rfl := Zj.1 zP;refine Zx (.int .i64 (o0.2.2.2)) (Zk oH) rfl rfl lB rfl ?_;refine Zx (.int .i64 (w64 (0 - o0.2.2.2))) (P_neg rfl) rfl rfl lB rfl ?_;refine Zx (.bool ((pI == (w64 (0 - o0.2.2.2))))) (Gj rfl rfl rfl) rfl rfl lB rfl ?_;refine Zw (.bool ((pI == (w64 (0 - o0.2.2.2))))) (Zl (b := (o0.2.2.1 == (0 : Int))) rfl (Tg lB rfl)) rfl ?_;refine Zg (.bool ((pI == (w64 (0 - o0.2.2.2))))) rfl rfl ?_;refine Zb ?_;obtain rfl := sinj h;exact hQ _ _ ⟨yH, hfr, sF, yD, lH, zD, mH, tF, nH, oH, gG, iG, jG, kG, rfl⟩
            ·refine Zy rfl rfl lB rfl rfl ?_
             iterate 6 refine Zy rfl rfl lB rfl rfl ?_
             refine Zw (.bool false) (Zl (b := (o0.2.2.1 == (0 : Int))) rfl (Tq lB rfl)) rfl ?_;refine Zg (.bool false) rfl rfl ?_;refine Zb ?_;obtain rfl := sinj h;exact hQ _ _ ⟨yH, hfr, sF, yD, lH, zD, mH, tF, nH, oH, gG, iG, jG, kG, rfl⟩
           ·refine Zy rfl rfl mG rfl rfl ?_
            refine Zy rfl rfl mG rfl rfl ?_;refine Zw (.bool false) (Zl (b := (l5.2 == (1 : Int))) rfl (Tq mG rfl)) rfl ?_;refine Ko 9 rfl ?_;refine Zg (.bool false) rfl rfl ?_;refine Zb ?_;obtain rfl := sinj h;exact hQ _ _ ⟨yH, hfr, sF, yD, lH, zD, mH, tF, nH, oH, gG, iG, jG, kG, rfl⟩
          ·refine Zy rfl rfl lG rfl rfl ?_
           refine Zy rfl rfl lG rfl rfl ?_;refine Zw (.bool false) (Zl (b := (t5.2 == (0 : Int))) rfl (Tq lG rfl)) rfl ?_;refine Ko 13 rfl ?_;refine Zg (.bool false) rfl rfl ?_;refine Zb ?_;obtain rfl := sinj h;exact hQ _ _ ⟨yH, hfr, sF, yD, lH, zD, mH, tF, nH, oH, gG, iG, jG, kG, rfl⟩
         ·clear hx
          obtain ⟨jJ, hfr, pH, uF, dI, vF, rN, yK, iI, sN, cM, mI, dM, eM, vJ⟩ := hR;rcases Zt h with ⟨qK, h⟩ | ⟨qK, h⟩
          ·refine Tv (Eq.trans (show ev _ _ = .bool (lE) from vJ) (congrArg Value.bool qK)) ?_
           refine Ya (x := .tmp 158) (Gy.comp Ta Ks rfl).1 Try.isAgg31 Try.sizeOf31 vF fun gN iN jO => ?_;obtain ⟨yE, xL, h⟩ := Ga h;have bQ := Tp iN xL;refine Zs (x := .tmp 161) Try.isAgg3 Try.sizeOf3 bQ fun nT cQ kO => ?_;obtain rfl := Zj.1 cQ;obtain ⟨zE, yL, h⟩ := Ga h;have dQ := Tp yK yL;refine Zs (x := .tmp 165) Try.isAgg3 Try.sizeOf3 dQ fun oT eQ lO => ?_;obtain rfl := Zj.1 eQ;have lK : RV jJ.m xP (⟨(3 : Int), 0, l5.1, (w64 (yE + zE))⟩ : Qb) (.agg (Qd [[.int .i64 0], [.int .i64 0], [.int .i64 0], [.int .i64 0]] [(0, .int .i64 (3)), (2, .int .i64 (l5.1)), (3, .int .i64 ((w64 (yE + zE))))]).flatten.toArray) := Qj rfl (Te (rfl) (Te (Zv) (Te (rfl) (Qh (rfl)))));generalize mO : (Value.agg (Qd [[.int .i64 0], [.int .i64 0], [.int .i64 0], [.int .i64 0]] [(0, .int .i64 (3)), (2, .int .i64 (l5.1)), (3, .int .i64 ((w64 (yE + zE))))]).flatten.toArray) = jN at lK;refine Tx (g := jJ) (n := 13) [] [0, 1, 2, 3, 4, 5, 6, 7, 8, 9, 10, 11, 12] rfl Qq (by kernel_rfl) trivial ?_;refine Zz (.int .i64 (l5.1)) rfl rfl (Zk mI) ?_;refine Zz (Gk p6 0) rfl rfl (Zc Qi dI (OB.ptr vF)) ?_;refine Zz (Gk p6 2) rfl rfl (Ky (o1 := 0) rfl Xt rfl (OB.ptr vF)) ?_;refine Tt (c := gN) rfl rfl .plain (fun _ _ h => ⟨h.ch, fun b hb _ => h.below.block b hb⟩) jO rfl ?_;refine Zz (.int .i64 (l5.1)) rfl rfl (Zk mI) ?_;refine Zz (Ty gN l5.1 1) rfl rfl (Zh (α := Int) Try.underlying31 Try.sizeOf3 rfl iN rfl xL) ?_;refine Tt (c := .int .i64 (yE)) rfl rfl .plain (fun _ _ h => h.ch) kO rfl ?_;refine Zz v8 rfl rfl (Zk rN) ?_;refine Zz (.int .i64 (l5.1)) rfl rfl (Zk mI) ?_;refine Zz (Ty v8 l5.1 1) rfl rfl (Zh (α := Int) Try.underlying31 Try.sizeOf3 rfl yK rfl yL) ?_;refine Tt (c := .int .i64 (zE)) rfl rfl .plain (fun _ _ h => h.ch) lO rfl ?_;refine Zz (.int .i64 ((w64 (yE + zE)))) rfl rfl (Gj rfl rfl rfl) ?_;refine Zz jN rfl rfl (mO ▸ Qu (vs := [(0, .int .i64 (3)), (2, .int .i64 (l5.1)), (3, .int .i64 ((w64 (yE + zE))))]) [[.int .i64 0], [.int .i64 0], [.int .i64 0], [.int .i64 0]] Ca rfl rfl (.cons rfl (.cons rfl (.cons rfl .nil))) ⟨⟨_, rfl, rfl⟩, ⟨⟨_, rfl, rfl⟩, ⟨⟨_, rfl, rfl⟩, trivial⟩⟩⟩) ?_;refine Kr fun gQ pT hs => ?_;have hfr := hfr.ext hs;have uF := uF.ext hs;have lK := lK.ext hs;clear hs;refine Ze .plain rfl (Gm (g := gQ) (v := jN) Try.sizeOf94 pH uF rfl lK fun iQ sT hs b1186 cb => ?_);clear cb;have hfr := hfr.stp hs;exact Zb (Ts (Zd (sI ((⟨(3 : Int), 0, l5.1, (w64 (yE + zE))⟩ : Qb), true) _ _ ⟨iQ, hfr, pH, b1186, eM⟩ h)))
          ·refine Tj (Eq.trans (show ev _ _ = .bool (lE) from vJ) (congrArg Value.bool qK)) ?_
           obtain ⟨mE, hx, h⟩ := Ga h;refine Gp (fun e w => ∃ (g : Gh) , Fr gI wI g w ∧ e 2 = p2 ∧ OB 2002 g w 94 (uE : Qb) p2 ∧ e 4 = p6 ∧ OB 2004 g w 119 (y5.1 : Gu) p6 ∧ e 7 = .int .i64 (o0.2.2.1) ∧ e 169 = .bool (mE)) (fun Q' hQ => ?_) (fun bS jQ hR => ?_)
           ·replace h := hx
            clear hx;refine Za (Zo cM rfl ?_);refine Gg (.bool ((t5.2 == (0 : Int)))) rfl rfl rfl rfl ?_;refine Zn (.bool ((t5.2 == (0 : Int)))) rfl rfl ?_;rcases Zt h with ⟨sG, h⟩ | ⟨sG, h⟩
            ·refine Zx (.int .i64 (l5.2)) (Zk dM) rfl rfl sG rfl ?_
             refine Zx (.bool ((l5.2 == (0 : Int)))) (Gj rfl rfl rfl) rfl rfl sG rfl ?_;refine Zw (.bool ((l5.2 == (0 : Int)))) (Zl (b := (t5.2 == (0 : Int))) rfl (Tg sG rfl)) rfl ?_;refine Zn (.bool ((l5.2 == (0 : Int)))) rfl rfl ?_;rcases Zt h with ⟨bD, h⟩ | ⟨bD, h⟩
             ·refine Zx (.int .i64 (o0.2.2.1)) (Zk iI) rfl rfl bD rfl ?_
              refine Zx (.int .i64 (o0.2.2.2)) (Zk sN) rfl rfl bD rfl ?_;refine Zx (.bool ((o0.2.2.1 == o0.2.2.2))) (Gj rfl rfl rfl) rfl rfl bD rfl ?_;refine Zw (.bool ((o0.2.2.1 == o0.2.2.2))) (Zl (b := (l5.2 == (0 : Int))) rfl (Tg bD rfl)) rfl ?_;refine Zg (.bool ((o0.2.2.1 == o0.2.2.2))) rfl rfl ?_;refine Zb ?_;obtain rfl := sinj h;exact hQ _ _ ⟨jJ, hfr, pH, uF, dI, vF, iI, rfl⟩
             ·refine Zy rfl rfl bD rfl rfl ?_
              refine Zy rfl rfl bD rfl rfl ?_;refine Zy rfl rfl bD rfl rfl ?_;refine Zw (.bool false) (Zl (b := (l5.2 == (0 : Int))) rfl (Tq bD rfl)) rfl ?_;refine Zg (.bool false) rfl rfl ?_;refine Zb ?_;obtain rfl := sinj h;exact hQ _ _ ⟨jJ, hfr, pH, uF, dI, vF, iI, rfl⟩
            ·refine Zy rfl rfl sG rfl rfl ?_
             refine Zy rfl rfl sG rfl rfl ?_;refine Zw (.bool false) (Zl (b := (t5.2 == (0 : Int))) rfl (Tq sG rfl)) rfl ?_;refine Ko 5 rfl ?_;refine Zg (.bool false) rfl rfl ?_;refine Zb ?_;obtain rfl := sinj h;exact hQ _ _ ⟨jJ, hfr, pH, uF, dI, vF, iI, rfl⟩
           ·clear hx
            obtain ⟨mK, hfr, jI, zK, tN, pJ, uN, xJ⟩ := hR;rcases Zt h with ⟨sK, h⟩ | ⟨sK, h⟩
            ·refine Tv (Eq.trans (show ev _ _ = .bool (mE) from xJ) (congrArg Value.bool sK)) ?_
             refine Zf (Za (Zw (Gk p6 0) (Zc Qi tN (OB.ptr pJ)) rfl ?_));refine Zw (Gk p6 3) (Ky (o1 := 0) rfl Rf rfl (OB.ptr pJ)) rfl ?_;refine Ze .plain rfl (Wz (g := mK) (Gy.comp Ta Jj rfl).1 Try.isAgg3 Try.sizeOf3 rfl pJ fun tT kQ => ?_);obtain rfl := Zj.1 kQ;refine Zo uN rfl ?_;refine Gg (.int .i64 ((w64 (((y5.1).PayTable).Total + o0.2.2.1)))) rfl rfl rfl rfl ?_;have kN : RV mK.m jQ (⟨(4 : Int), 0, 0, (w64 (((y5.1).PayTable).Total + o0.2.2.1))⟩ : Qb) (.agg (Qd [[.int .i64 0], [.int .i64 0], [.int .i64 0], [.int .i64 0]] [(0, .int .i64 (4)), (3, .int .i64 ((w64 (((y5.1).PayTable).Total + o0.2.2.1))))]).flatten.toArray) := Qj rfl (Te (rfl) (Te (Zv) (Te (Zv) (Qh (rfl)))));generalize nO : (Value.agg (Qd [[.int .i64 0], [.int .i64 0], [.int .i64 0], [.int .i64 0]] [(0, .int .i64 (4)), (3, .int .i64 ((w64 (((y5.1).PayTable).Total + o0.2.2.1))))]).flatten.toArray) = lN at kN;refine Zw lN (nO ▸ Qu (vs := [(0, .int .i64 (4)), (3, .int .i64 ((w64 (((y5.1).PayTable).Total + o0.2.2.1))))]) [[.int .i64 0], [.int .i64 0], [.int .i64 0], [.int .i64 0]] Ca rfl rfl (.cons rfl (.cons rfl .nil)) ⟨⟨_, rfl, rfl⟩, ⟨⟨_, rfl, rfl⟩, trivial⟩⟩) rfl ?_;refine Ze .plain rfl (Gm (g := mK) (v := lN) Try.sizeOf94 jI zK rfl kN fun mN uT hs b1197 cb => ?_);clear cb;have hfr := hfr.stp hs;refine Zb (Zd (Za (Zw (Gk p2 3) (Zc Lb jI (OB.ptr b1197)) rfl ?_)));refine Ze .plain rfl (Wz (g := mN) Yi.1 Try.isAgg3 Try.sizeOf3 rfl b1197 fun xT lQ => ?_);obtain rfl := Zj.1 lQ;refine Ze .plain rfl (Gl (g := mN) 3189 (xs := ([(w64 (((y5.1).PayTable).Total + o0.2.2.1))] : List Int)) (vs := [.int .i64 ((w64 (((y5.1).PayTable).Total + o0.2.2.1)))]) Try.underlying31 Try.sizeOf3 Try.zeroValue3 rfl rfl (.cons rfl .nil) (RVs.cons (Zj.2 rfl) RVs.nil) rfl rfl fun mQ yT nQ hs o1200 oQ hxt hfl => ?_);have hfr := hfr.stp hs;have b1197 := b1197.stp hs rfl;obtain ⟨aK, oO, h⟩ := Ga h;refine Ze .plain rfl (Zp (g := mQ) (vs := [nQ]) en60 (.cons rfl .nil) (wk60 oQ oO) fun pQ cS zT hs hr => ?_);have hfr := hfr.ext hs;have b1197 := b1197.ext hs;subst hr;refine Zg (.bool (aK)) rfl rfl ?_;exact Zb (Ts (Zd (sI ((⟨(4 : Int), 0, 0, (w64 (((y5.1).PayTable).Total + o0.2.2.1))⟩ : Qb), aK) _ _ ⟨pQ, hfr, jI, b1197, rfl⟩ h)))
            ·refine Tj (Eq.trans (show ev _ _ = .bool (mE) from xJ) (congrArg Value.bool sK)) ?_
             refine Za (Zg (.bool false) rfl rfl ?_);exact Zb (Ts (Zd (sI (uE, false) _ _ ⟨mK, hfr, jI, zK, rfl⟩ h)))
  ·rintro ⟨kJ, kI⟩ dS qQ ⟨eL, hfr, qJ, aL, iM⟩ h
   refine Zq h (fun (s : Qb) e w => ∃ (g : Gh) , Fr gI wI g w ∧ e 2 = p2 ∧ OB 2002 g w 94 (s : Qb) p2) (fun X1208 jM pO h => ?_) ?_
   ·refine Zf (Za (Zo iM rfl ?_))
    refine Zw (.bool (!kI)) (Wh rfl) rfl ?_;refine Zb (Zd ?_);rcases Zt h with ⟨tK, h⟩ | ⟨tK, h⟩
    ·refine Tn tK rfl ?_
     refine Zf (Za ?_);have nN : RV eL.m qQ (⟨0, 0, 0, 0⟩ : Qb) (.agg (Qd [[.int .i64 0], [.int .i64 0], [.int .i64 0], [.int .i64 0]] []).flatten.toArray) := Qj rfl (Te (Zv) (Te (Zv) (Te (Zv) (Qh (Zv)))));generalize qO : (Value.agg (Qd [[.int .i64 0], [.int .i64 0], [.int .i64 0], [.int .i64 0]] []).flatten.toArray) = oN at nN;refine Zw oN (qO ▸ Qu (vs := []) [[.int .i64 0], [.int .i64 0], [.int .i64 0], [.int .i64 0]] Ca rfl rfl .nil trivial) rfl ?_;refine Ze .plain rfl (Gm (g := eL) (v := oN) Try.sizeOf94 qJ aL rfl nN fun aU bU hs b1211 cb => ?_);clear cb;have hfr := hfr.stp hs;refine Zg (.int .i64 (9)) rfl rfl ?_;refine Zb (Zd (Gq (Tz ?_)));obtain rfl := sinj h;obtain ⟨ad1212, cv1212, hp1212, rO, cr1212⟩ := Ql Try.isAgg94 Try.sizeOf94 b1211;exact Qy rfl rfl ((show _ = p2 from qJ).trans hp1212) rO (show _ = .int .i64 (9) from rfl) ⟨_, hfr, _, _, rfl, cr1212, rfl⟩
    ·refine To tK rfl ?_
     exact Zu (Zd (pO (kJ) _ _ ⟨eL, hfr, qJ, aL⟩ h))
   ·rintro uK eS cU ⟨pN, hfr, rJ, bL⟩ h
    refine Zf (Za (Ze .plain rfl (Tk (g := pN) Try.isAgg94 Try.sizeOf94 rJ bL fun rQ sQ => ?_)));refine Ze .plain rfl (Gm (g := pN) (v := rQ) Try.sizeOf94 rJ bL rfl sQ fun dU eU hs b1215 cb => ?_);clear cb;have hfr := hfr.stp hs;refine Zg (.int .i64 (0)) rfl rfl ?_;refine Zb (Zd (Gq ?_));obtain rfl := sinj h;obtain ⟨ad1216, cv1216, hp1216, sO, cr1216⟩ := Ql Try.isAgg94 Try.sizeOf94 b1215;exact Qy rfl rfl ((show _ = p2 from rJ).trans hp1216) sO (show _ = .int .i64 (0) from rfl) ⟨_, hfr, _, _, rfl, cr1216, rfl⟩
def f51 (x0 : ChainBelt) : Option (Gb × Int) :=
 (f19 x0).bind fun y5 =>
 jn (σ := Gb) (fun t5 =>
  Option.bind (α := (List (Int × Bool))) (
   lp (σ := (List (Int × Bool)) × Int) (fun xG (vB, o0) =>
    bif (decide (o0 < (((x0).Cards).length : Int))) then
     Option.bind (α := (List (Int × Bool))) (
      (idx ((x0).Cards) o0).bind fun yG =>
      some ((Vw vB ((yG).Number) true))
      ) fun mB =>
     xG (mB, (w64 (o0 + (1 : Int))))
    else
     some (vB)
    ) big (([] : List (Int × Bool)), (0 : Int))
   ) fun n8 =>
  jn (σ := Gb) (fun uF =>
   some (y5.1, (0 : Int))
   ) fun zG =>
  bif ((Jv n8 ((-1 : Int))).getD (false : Bool)) then
   some (y5.1, (9 : Int))
  else
   bif (decide (((n8).length : Int) < (((x0).Cards).length : Int))) then
    some (y5.1, (6 : Int))
   else
    zG (t5)
  ) fun aH =>
 bif (y5.2 != (0 : Int)) then
  some (y5.1, y5.2)
 else
  aH ((⟨⟨0, []⟩, 0⟩ : Gb))
theorem en51 : Enters Try.prog 51 := enters_of Try.func51 (by kernel_rfl) rfl
theorem wk51 {gI : Gh} {wI : World} {x0 : ChainBelt} {up0 : Value} (rp0 : RV gI.m wI x0 up0) {r : Gb × Int} (h : f51 x0 = some r) : Fn Try.prog 51 #[up0] gI wI (fun m w v => ∃ y0 y1, v = .tuple #[y0, y1] ∧ RV m w (r.1) y0 ∧ y1 = .int .i64 (r.2)) := by
 unfold f51 at h;refine Gw Try.func51 rfl (Nat.le_of_ble_eq_true rfl) fun g0 hm hfr => ?_;have rp0 : RV g0.m wI x0 up0 := hm ▸ rp0;show E _ 43 none _ _ _ _ _;refine Zf (Za (Ze .plain rfl (Qs (g := g0) rfl rp0 fun g1 w1 p1 hs q1 => ?_)));have hfr := hfr.ext hs;refine Ze .plain rfl (Ti (g := g1) 2002 (⟨⟨0, []⟩, 0⟩ : Gb) Try.zeroValue66 (fun m w => ⟨_, (Gv (Gv Zv Tr) Zv), rfl⟩) fun g2 w2 p2 hs b2 cb => ?_);have hfr := hfr.stp hs;have q1 := q1.stp hs;have l9 : OSF 2002 60201 1 g2 w2 60 66 ([] : List Gc) p2 := cb.osf (by rfl);clear cb;refine Zg (.int .i64 (0)) rfl rfl ?_;refine Zb (Zd (Zf (Za (Ze .plain rfl (Gf (g := g2) Try.isAgg27 Try.sizeOf27 rfl q1 fun v3 r3 => ?_)))));obtain ⟨y5, hy5, h⟩ := Ga h;refine Ze .plain rfl (Zp (g := g2) (vs := [v3]) en19 (.cons rfl .nil) (wk19 r3 hy5) fun g4 w4_ v4 hs hr => ?_);have hfr := hfr.ext hs;have q1 := q1.ext hs;have l9 := l9.ext hs;have b2 := b2.ext hs;obtain ⟨oD, mJ, rfl, yD, rfl⟩ := hr;refine Zn (.tuple #[oD, .int .i64 (y5.2)]) rfl rfl ?_;refine Zw oD (Zi rfl rfl) rfl ?_;refine Zw (.int .i64 (y5.2)) (Zi rfl rfl) rfl ?_;refine Ze .plain rfl (Ti (g := g4) 2004 (⟨⟨0, []⟩, 0⟩ : Gb) Try.zeroValue66 (fun m w => ⟨_, (Gv (Gv Zv Tr) Zv), rfl⟩) fun g6 w6 p6 hs b6 cb => ?_);have hfr := hfr.stp hs;have q1 := q1.stp hs;have l9 := l9.stp hs rfl;have b2 := b2.stp hs rfl;have yD := yD.stp hs;have nJ : OSF 2004 60401 1 g6 w6 60 66 ([] : List Gc) p6 := cb.osf (by rfl);clear cb;refine Ze .plain rfl (Gm (g := g6) (v := oD) Try.sizeOf66 rfl b6 rfl yD fun g7 w7 hs b7 cb => ?_);clear cb;have hfr := hfr.stp hs;have q1 := q1.stp hs;have l9 := l9.stp hs rfl;have b2 := b2.stp hs rfl;refine Zg (.int .i64 (y5.2)) rfl rfl ?_;refine Zb (Zd (Zq h (fun (s : Gb) e w => ∃ (g : Gh) , Fr gI wI g w ∧ e 1 = p1 ∧ PT g.m w (x0 : ChainBelt) p1 ∧ e 2 = p2 ∧ OB 2002 g w 66 (s : Gb) p2 ∧ OSF 2002 60201 1 g w 60 66 (((s).ChainBelt).Cards) p2 ∧ e 4 = p6 ∧ OB 2004 g w 66 (y5.1 : Gb) p6) (fun X12 aH lH h => ?_) ?_))
 ·refine Zf (Za (Zn (.int .i64 (y5.2)) rfl rfl ?_))
  refine Gg (.bool ((y5.2 != (0 : Int)))) rfl rfl rfl rfl ?_;refine Zb (Zd ?_);rcases Zt h with ⟨zD, h⟩ | ⟨zD, h⟩
  ·refine Tn zD rfl ?_
   refine Zf (Za (Ze .plain rfl (Tk (g := g7) Try.isAgg66 Try.sizeOf66 rfl b7 fun tH uH => ?_)));refine Zn (.int .i64 (y5.2)) rfl rfl ?_;refine Ze .plain rfl (Gm (g := g7) (v := tH) Try.sizeOf66 rfl b2 rfl uH fun vJ w15 hs b15 cb => ?_);clear cb;have hfr := hfr.stp hs;refine Zg (.int .i64 (y5.2)) rfl rfl ?_;refine Zb (Zd (Gq (Tz ?_)));obtain rfl := sinj h;obtain ⟨ad16, cv16, hp16, mH, cr16⟩ := Ql Try.isAgg66 Try.sizeOf66 b15;exact Qy rfl rfl ((show _ = p2 from rfl).trans hp16) mH (show _ = .int .i64 (y5.2) from rfl) ⟨_, hfr, _, _, rfl, cr16, rfl⟩
  ·refine To zD rfl ?_
   exact Zu (Zd (lH ((⟨⟨0, []⟩, 0⟩ : Gb)) _ _ ⟨g7, hfr, rfl, q1, rfl, b2, l9, rfl, b7⟩ h))
 ·rintro t5 oJ xJ ⟨xH, hfr, lE, n9, vF, yB, u2_1_17, xF, zB⟩ h
  refine Zf (Za (Ze .plain rfl (Xu (g := xH) (Value.int .i64) Bool 8018 fun cH zJ nB hs m18 => ?_)));have hfr := hfr.stp hs;have n9 := n9.stp hs;have u2_1_17 := u2_1_17.stp hs rfl;have yB := yB.stp hs rfl;have zB := zB.stp hs rfl;refine Zg nB rfl rfl ?_;refine Zb (Zd ?_);obtain ⟨n8, hx, h⟩ := Ga h;refine Gp (fun e w => ∃ (g : Gh) , Fr gI wI g w ∧ e 1 = p1 ∧ PT g.m w (x0 : ChainBelt) p1 ∧ e 2 = p2 ∧ OB 2002 g w 66 (t5 : Gb) p2 ∧ OSF 2002 60201 1 g w 60 66 (((t5).ChainBelt).Cards) p2 ∧ e 4 = p6 ∧ OB 2004 g w 66 (y5.1 : Gb) p6 ∧ e 6 = nB ∧ MP (Value.int .i64) 8018 g w (n8 : List (Int × Bool)) nB) (fun Q' hQ => ?_) (fun pJ aK hR => ?_)
  ·replace h := hx
   clear hx;refine Zf (Za (Zw (Gk p1 1) (Zc Wm lE (PT.ptr n9)) rfl ?_));have yH := Zm (Tc).1 n9;refine Ze .plain rfl (Gf (g := cH) Try.isAgg25 Try.sizeOf25 rfl yH fun cD gH => ?_);refine Zw (.int .i64 (((x0).Cards).length : Int)) (Tu Try.underlying25 rfl gH) rfl ?_;refine Zn (.int .i64 (0)) rfl rfl ?_;refine Zb (Zd (Zr ?_));refine Wv h (fun (s : (List (Int × Bool)) × Int) e w => ∃ (g : Gh) , Fr gI wI g w ∧ e 1 = p1 ∧ PT g.m w (x0 : ChainBelt) p1 ∧ e 2 = p2 ∧ OB 2002 g w 66 (t5 : Gb) p2 ∧ OSF 2002 60201 1 g w 60 66 (((t5).ChainBelt).Cards) p2 ∧ e 4 = p6 ∧ OB 2004 g w 66 (y5.1 : Gb) p6 ∧ e 6 = nB ∧ MP (Value.int .i64) 8018 g w (s.1 : List (Int × Bool)) nB ∧ e 20 = cD ∧ RV g.m w ((x0).Cards : List Gc) cD ∧ e 21 = .int .i64 ((((x0).Cards).length : Int)) ∧ e 22 = .int .i64 (s.2)) ⟨cH, hfr, lE, n9, vF, yB, u2_1_17, xF, zB, rfl, m18, rfl, gH, rfl, rfl⟩ (fun X43 xG nH => ?_);rintro ⟨vB, o0⟩ qJ bK ⟨zE, hfr, mE, i6, oE, g8, u2_1_44, rE, l8, cC, v8, lD, l5, nD, oB⟩ h;refine Zf (Za (Zw (.bool ((decide (o0 < (((x0).Cards).length : Int))))) (Gj oB nD rfl) rfl ?_));refine Zb (Zd (Zf ?_));rcases Zt h with ⟨aE, h⟩ | ⟨aE, h⟩
   ·refine Tn aE rfl ?_
    refine Zu (Zd ?_);obtain ⟨mB, hx, h⟩ := Ga h;refine Gp (fun e w => ∃ (g : Gh) , Fr gI wI g w ∧ e 1 = p1 ∧ PT g.m w (x0 : ChainBelt) p1 ∧ e 2 = p2 ∧ OB 2002 g w 66 (t5 : Gb) p2 ∧ OSF 2002 60201 1 g w 60 66 (((t5).ChainBelt).Cards) p2 ∧ e 4 = p6 ∧ OB 2004 g w 66 (y5.1 : Gb) p6 ∧ e 6 = nB ∧ MP (Value.int .i64) 8018 g w (mB : List (Int × Bool)) nB ∧ e 20 = cD ∧ RV g.m w ((x0).Cards : List Gc) cD ∧ e 21 = .int .i64 ((((x0).Cards).length : Int)) ∧ e 22 = .int .i64 (o0)) (fun Q' hQ => ?_) (fun rJ cK hR => ?_)
    ·replace h := hx
     clear hx;refine Zr ?_;refine Zf (Za ?_);obtain ⟨yG, cF, h⟩ := Ga h;refine Zw (Ty cD o0 3) (Zh (α := Gc) Try.underlying25 Try.sizeOf60 lD l5 oB cF) rfl ?_;have zH := Tp l5 cF;refine Ze .plain rfl (Gf (g := zE) Try.isAgg60 Try.sizeOf60 rfl zH fun aI dF => ?_);refine Ze .plain rfl (Ti (g := zE) 2008 (⟨0, 0, false⟩ : Gc) Try.zeroValue60 (fun m w => ⟨_, (Gv Zv (Gv Zv Hp)), rfl⟩) fun bI dK dI hs b57 cb => ?_);have hfr := hfr.stp hs;have i6 := i6.stp hs;have u2_1_44 := u2_1_44.stp hs rfl;have g8 := g8.stp hs rfl;have l8 := l8.stp hs rfl;have v8 := v8.stp hs rfl;have l5 := l5.stp hs;have dF := dF.stp hs;clear cb;refine Ze .plain rfl (Gm (g := bI) (v := aI) Try.sizeOf60 rfl b57 rfl dF fun jH lK hs b58 cb => ?_);clear cb;have hfr := hfr.stp hs;have i6 := i6.stp hs;have u2_1_44 := u2_1_44.stp hs rfl;have g8 := g8.stp hs rfl;have l8 := l8.stp hs rfl;have v8 := v8.stp hs rfl;have l5 := l5.stp hs;refine Zb (Zd (Za (Zo cC rfl ?_)));refine Zw (Gk dI 0) (Zc Sx rfl (OB.ptr b58)) rfl ?_;refine Ze .plain rfl (Wz (g := jH) Jc.1 Try.isAgg3 Try.sizeOf3 rfl b58 fun mK iI => ?_);obtain rfl := Zj.1 iI;refine Ze .plain rfl (Vs (g := jH) Try.underlying110 Rs rfl v8 rfl rfl (Kl.2 rfl) fun jI nK hs m61 => ?_);have hfr := hfr.stp hs;have i6 := i6.stp hs;have u2_1_44 := u2_1_44.stp hs rfl;have g8 := g8.stp hs rfl;have l8 := l8.stp hs rfl;have l5 := l5.stp hs;refine Zb (Ts ?_);obtain rfl := sinj h;exact hQ _ _ ⟨jI, hfr, mE, i6, oE, g8, u2_1_44, rE, l8, cC, m61, lD, l5, nD, oB⟩
    ·clear hx
     obtain ⟨kI, hfr, yF, aG, bG, cG, u2_1_62, eG, gG, iG, jG, eF, rF, sF, tF⟩ := hR;refine Za (Gg (.int .i64 ((w64 (o0 + (1 : Int))))) tF rfl rfl rfl ?_);refine Zn (.int .i64 ((w64 (o0 + (1 : Int))))) rfl rfl ?_;exact Zb (Zd (nH (mB, (w64 (o0 + (1 : Int)))) _ _ ⟨kI, hfr, yF, aG, bG, cG, u2_1_62, eG, gG, iG, jG, eF, rF, sF, rfl⟩ h))
   ·refine To aE rfl ?_
    refine Qc ?_;refine Tf ?_;refine Tf ?_;refine Tl ?_;obtain rfl := sinj h;exact hQ _ _ ⟨zE, hfr, mE, i6, oE, g8, u2_1_44, rE, l8, cC, v8⟩
  ·clear hx
   obtain ⟨lB, hfr, kG, uE, aB, uC, u2_1_63, vC, bD, vE, xE⟩ := hR;refine Zq h (fun (s : Gb) e w => ∃ (g : Gh) , Fr gI wI g w ∧ e 2 = p2 ∧ OB 2002 g w 66 (s : Gb) p2 ∧ OSF 2002 60201 1 g w 60 66 (((s).ChainBelt).Cards) p2 ∧ e 4 = p6 ∧ OB 2004 g w 66 (y5.1 : Gb) p6) (fun X76 zG oH h => ?_) ?_
   ·refine Zr ?_
    refine Zf (Za (Zo vE rfl ?_));refine Ze .plain rfl (Rp (g := lB) (z0 := (false : Bool)) Try.underlying110 Rs Try.zeroValue4 (fun m w => ⟨_, Hp, rfl⟩) rfl xE rfl fun oK lI => ?_);obtain rfl := Kl.1 lI;refine Zg (.bool (((Jv n8 ((-1 : Int))).getD (false : Bool)))) rfl rfl ?_;refine Zb (Zd ?_);rcases Zt h with ⟨bE, h⟩ | ⟨bE, h⟩
    ·refine Tn bE rfl ?_
     refine Zf (Za (Ze .plain rfl (Tk (g := lB) Try.isAgg66 Try.sizeOf66 vC bD fun mI nI => ?_)));refine Ze .plain rfl (Gm (g := lB) (v := mI) Try.sizeOf66 aB uC rfl nI fun pK qK hs b80 cb => ?_);clear cb;have hfr := hfr.stp hs;refine Zg (.int .i64 (9)) rfl rfl ?_;refine Zb (Zd (Gq (Wd ?_)));refine Tz ?_;obtain rfl := sinj h;obtain ⟨ad81, cv81, hp81, pH, cr81⟩ := Ql Try.isAgg66 Try.sizeOf66 b80;exact Qy rfl rfl ((show _ = p2 from aB).trans hp81) pH (show _ = .int .i64 (9) from rfl) ⟨_, hfr, _, _, rfl, cr81, rfl⟩
    ·refine To bE rfl ?_
     refine Zf (Za (Zo vE rfl ?_));refine Ze .plain rfl (Ot (g := lB) Try.underlying110 rfl xE ?_);refine Zw (Gk p1 1) (Zc Wm kG (PT.ptr uE)) rfl ?_;have pI := Zm (Tc).1 uE;refine Ze .plain rfl (Gf (g := lB) Try.isAgg25 Try.sizeOf25 rfl pI fun sK qI => ?_);refine Zw (.int .i64 (((x0).Cards).length : Int)) (Tu Try.underlying25 rfl qI) rfl ?_;refine Zw (.bool ((decide (((n8).length : Int) < (((x0).Cards).length : Int))))) (Gj rfl rfl rfl) rfl ?_;refine Zw (.bool ((decide (((n8).length : Int) < (((x0).Cards).length : Int))))) (Tb rfl) rfl ?_;refine Zb (Zd ?_);rcases Zt h with ⟨iE, h⟩ | ⟨iE, h⟩
     ·refine Tn iE rfl ?_
      refine Zf (Za (Ze .plain rfl (Tk (g := lB) Try.isAgg66 Try.sizeOf66 vC bD fun sI jJ => ?_)));refine Ze .plain rfl (Gm (g := lB) (v := sI) Try.sizeOf66 aB uC rfl jJ fun tK uK hs b86 cb => ?_);clear cb;have hfr := hfr.stp hs;refine Zg (.int .i64 (6)) rfl rfl ?_;refine Zb (Zd (Gq (Wd ?_)));refine Tz ?_;obtain rfl := sinj h;obtain ⟨ad87, cv87, hp87, qH, cr87⟩ := Ql Try.isAgg66 Try.sizeOf66 b86;exact Qy rfl rfl ((show _ = p2 from aB).trans hp87) qH (show _ = .int .i64 (6) from rfl) ⟨_, hfr, _, _, rfl, cr87, rfl⟩
     ·refine To iE rfl ?_
      exact Zu (Ts (Zd (oH (t5) _ _ ⟨lB, hfr, aB, uC, u2_1_63, vC, bD⟩ h)))
   ·rintro uF sJ vK ⟨kH, hfr, yE, lG, u2_1_88, mG, sG⟩ h
    refine Zf (Za (Ze .plain rfl (Tk (g := kH) Try.isAgg66 Try.sizeOf66 mG sG fun kJ lJ => ?_)));refine Ze .plain rfl (Gm (g := kH) (v := kJ) Try.sizeOf66 yE lG rfl lJ fun xK yK hs b90 cb => ?_);clear cb;have hfr := hfr.stp hs;refine Zg (.int .i64 (0)) rfl rfl ?_;refine Zb (Zd (Gq ?_));obtain rfl := sinj h;obtain ⟨ad91, cv91, hp91, sH, cr91⟩ := Ql Try.isAgg66 Try.sizeOf66 b90;exact Qy rfl rfl ((show _ = p2 from yE).trans hp91) sH (show _ = .int .i64 (0) from rfl) ⟨_, hfr, _, _, rfl, cr91, rfl⟩
def f53 (x0 : ChainBelt) (x1 : List Int) (x2 : Int) : Option (List ((Option (List (Gi × Int))) × Int)) :=
 (f23 x0 x1).bind fun y4 =>
 jn (σ := Unit) (fun _ =>
  (f73 (y4.1) x2).bind fun l9 =>
  Ma l9 fun n9 =>
  some [((some n9), (0 : Int))]
  ) fun aB =>
 bif (y4.2 != (0 : Int)) then
  some [(none, y4.2)]
 else
  (f20 ((0 : Int)) ((6 : Int)) (([x2] : List Int))).bind fun g8 =>
  bif (!g8) then
   some [(none, (3 : Int))]
  else
   aB ()
theorem en53 : Enters Try.prog 53 := enters_of Try.func53 (by kernel_rfl) rfl
theorem wk53 {iO : Nat} {gI : Gh} {wI : World} {x0 : ChainBelt} {x1 : List Int} {x2 : Int} {up0 : Value} (rp0 : RV gI.m wI x0 up0) {up1 : Value} (rp1 : RV gI.m wI x1 up1) {r0 : List ((Option (List (Gi × Int))) × Int)} (h : f53 x0 x1 x2 = some r0) : FnG Try.prog 53 #[up0, up1, .int .i64 (x2)] gI wI (fun g w v => ∃ q, q ∈ r0 ∧ ∃ y0 y1, v = .tuple #[y0, y1] ∧ MO (Je Wj) iO g w (q.1) y0 ∧ y1 = .int .i64 (q.2)) := by
 obtain ⟨r, h, hsub⟩ : ∃ r, f53 x0 x1 x2 = some r ∧ ∀ a ∈ r, a ∈ r0 := ⟨r0, h, fun _ h => h⟩;unfold f53 at h;refine Dt Try.func53 rfl (Nat.le_of_ble_eq_true rfl) fun g0 hm hfr => ?_;have rp0 : RV g0.m wI x0 up0 := hm ▸ rp0;have rp1 : RV g0.m wI x1 up1 := hm ▸ rp1;show E _ 28 none _ _ _ _ _;refine Zf (Za (Ze .plain rfl (Qs (g := g0) rfl rp0 fun g1 w1 p1 hs q1 => ?_)));have hfr := hfr.ext hs;have rp1 := rp1.ext hs;refine Zg (.map none) rfl rfl ?_;refine Zg (.int .i64 (0)) rfl rfl ?_;refine Zb (Zd (Zf (Za (Ze .plain rfl (Gf (g := g1) Try.isAgg27 Try.sizeOf27 rfl q1 fun v2 r2 => ?_)))));refine Zn up1 rfl rfl ?_;obtain ⟨y4, cC, h⟩ := Ga h;refine Ze .plain rfl (Zp (g := g1) (vs := [v2, up1]) en23 (.cons rfl (.cons rfl .nil)) (wk23 r2 rp1 cC) fun g3 w3_ v3 hs hr => ?_);have hfr := hfr.ext hs;obtain ⟨o0, nD, rfl, l5, rfl⟩ := hr;refine Zn (.tuple #[o0, .int .i64 (y4.2)]) rfl rfl ?_;refine Zw o0 (Zi rfl rfl) rfl ?_;refine Zw (.int .i64 (y4.2)) (Zi rfl rfl) rfl ?_;refine Ze .plain rfl (Ti (g := g3) 2008 (⟨⟨⟨0, []⟩, 0⟩, []⟩ : Gd) Try.zeroValue73 (fun m w => ⟨_, (Gv (Gv (Gv Zv Tr) Zv) Tr), rfl⟩) fun g5 w5 p5 hs b5 cb => ?_);have hfr := hfr.stp hs;have l5 := l5.stp hs;have oD : OSF 2008 60801 1 g5 w5 60 73 ([] : List Gc) p5 := cb.osf (by rfl);have yD : OSF 2008 60803 3 g5 w5 3 73 ([] : List Int) p5 := cb.osf (by rfl);clear cb;refine Ze .plain rfl (Gm (g := g5) (v := o0) Try.sizeOf73 rfl b5 rfl l5 fun g6 w6 hs b6 cb => ?_);clear cb;have hfr := hfr.stp hs;refine Zg (.int .i64 (y4.2)) rfl rfl ?_;refine Zb (Zd (Dx h hsub (fun (s : Unit) e w => ∃ (g : Gh) , Fr gI wI g w ∧ e 2 = .int .i64 (x2) ∧ e 8 = p5 ∧ OB 2008 g w 73 (y4.1 : Gd) p5) (fun X12 aB oB r h hsub => ?_) ?_))
 ·refine Zr ?_
  refine Zf (Za (Zn (.int .i64 (y4.2)) rfl rfl ?_));refine Gg (.bool ((y4.2 != (0 : Int)))) rfl rfl rfl rfl ?_;refine Zg (.bool ((y4.2 != (0 : Int)))) rfl rfl ?_;refine Zb (Zd ?_);rcases Zt h with ⟨t5, h⟩ | ⟨t5, h⟩
  ·refine Tn t5 rfl ?_
   refine Zf (Za (Zn (.int .i64 (y4.2)) rfl rfl ?_));refine Zg (.map none) rfl rfl ?_;refine Zg (.int .i64 (y4.2)) rfl rfl ?_;refine Zb (Zd (Gq (Wd ?_)));refine Tz ?_;obtain rfl := sinj h;have hQ := hsub _ (List.mem_singleton.2 rfl);obtain ⟨gh, hxh, mph⟩ := MO.handm (i := iO) hfr (MO.nil : MO (Je Wj) 1 g6 w6 (none : Option (List (Gi × Int))) (.map none));exact Bc rfl rfl (show _ = .map none from rfl) (show _ = .int .i64 (y4.2) from rfl) ⟨gh, hxh, _, hQ, _, _, rfl, mph, rfl⟩
  ·refine To t5 rfl ?_
   refine Zf (Za (Zn (.int .i64 (x2)) rfl rfl ?_));refine Ze .plain rfl (Gl (g := g6) 3022 (xs := ([x2] : List Int)) (vs := [.int .i64 (x2)]) Try.underlying31 Try.sizeOf3 Try.zeroValue3 rfl rfl (.cons rfl .nil) (RVs.cons (Zj.2 rfl) RVs.nil) rfl rfl fun uC bE vC hs o14 bD hxt hfl => ?_);have hfr := hfr.stp hs;have b6 := b6.stp hs rfl;obtain ⟨g8, vB, h⟩ := Ga h;refine Ze .plain rfl (Zp (g := uC) (vs := [.int .i64 (0), .int .i64 (6), vC]) en20 (.cons rfl (.cons rfl (.cons rfl .nil))) (wk20 bD vB) fun lB yB iE hs hr => ?_);have hfr := hfr.ext hs;have b6 := b6.ext hs;subst hr;refine Zw (.bool (!g8)) (Wh rfl) rfl ?_;refine Zg (.bool (!g8)) rfl rfl ?_;refine Zb (Zd ?_);rcases Zt h with ⟨i6, h⟩ | ⟨i6, h⟩
   ·refine Tn i6 rfl ?_
    refine Zf (Za (Zg (.map none) rfl rfl ?_));refine Zg (.int .i64 (3)) rfl rfl ?_;refine Zb (Zd (Gq (Wd ?_)));refine Tz ?_;obtain rfl := sinj h;have hQ := hsub _ (List.mem_singleton.2 rfl);obtain ⟨gh, hxh, mph⟩ := MO.handm (i := iO) hfr (MO.nil : MO (Je Wj) 1 lB yB (none : Option (List (Gi × Int))) (.map none));exact Bc rfl rfl (show _ = .map none from rfl) (show _ = .int .i64 (3) from rfl) ⟨gh, hxh, _, hQ, _, _, rfl, mph, rfl⟩
   ·refine To i6 rfl ?_
    exact Zu (Ts (Zd (oB () _ _ ⟨lB, hfr, rfl, rfl, b6⟩ _ h hsub)))
 ·rintro _ zD lE ⟨mB, hfr, l8, n8, v8⟩ r h hsub
  refine Zf (Za (Ze .plain rfl (Tk (g := mB) Try.isAgg73 Try.sizeOf73 n8 v8 fun cD lD => ?_)));refine Zo l8 rfl ?_;obtain ⟨l9, zB, h⟩ := Ga h;refine Ze .plain rfl (Ra (g := mB) (vs := [cD, .int .i64 (x2)]) en73 (.cons rfl (.cons rfl .nil)) (wk73 (iO := 8027) lD zB) fun mE aE nB hs hr => ?_);obtain ⟨n9, hqm, m20⟩ := hr;obtain ⟨r, h, hsub⟩ := Ox h hsub _ hqm;clear hqm;have hfr := hfr.ext hs;refine Zg nB rfl rfl ?_;have z22 := MP.toMO m20;refine Zg (.int .i64 (0)) rfl rfl ?_;refine Zb (Zd (Gq ?_));obtain rfl := sinj h;have hQ := hsub _ (List.mem_singleton.2 rfl);obtain ⟨gh, hxh, mph⟩ := MO.handm (i := iO) hfr z22;exact Bc rfl rfl (show _ = nB from rfl) (show _ = .int .i64 (0) from rfl) ⟨gh, hxh, _, hQ, _, _, rfl, mph, rfl⟩
def f7 (x0 : ChainBelt) (x1 : Int) (x2 : List Int) : Option ((List Int) × Int × Int) :=
 (f19 x0).bind fun y4 =>
 jn (σ := (List Int)) (fun nD =>
  Option.bind (α := (List Int) × Int) (
   lp (σ := (List Int) × Int × Int) (fun kG (lB, i6, l5) =>
    bif (decide (l5 < ((x2).length : Int))) then
     Option.bind (α := (List Int) × Int) (
      (idx x2 l5).bind fun oB =>
      (f21 (y4.1) i6).bind fun y80 =>
      (apnd 8 lB (([y80] : List Int))).bind fun lG =>
      (f22 (y4.1) i6 oB).bind fun lE =>
      some (lG, lE)
      ) fun (n8, l9) =>
     kG (n8, l9, (w64 (l5 + (1 : Int))))
    else
     some (lB, i6)
    ) big (nD, x1, (0 : Int))
   ) fun (n9, v8) =>
  some (n9, v8, (0 : Int))
  ) fun k18 =>
 bif (y4.2 != (0 : Int)) then
  some ([], (0 : Int), y4.2)
 else
  (f20 ((0 : Int)) ((w64 ((((x0).Cards).length : Int) - (1 : Int)))) (([x1] : List Int))).bind fun oD =>
  bif (!oD) then
   some ([], (0 : Int), (7 : Int))
  else
   bif (decide (((x2).length : Int) > (60 : Int))) then
    some ([], (0 : Int), (5 : Int))
   else
    (f20 ((0 : Int)) ((2 : Int)) x2).bind fun yD =>
    bif (!yD) then
     some ([], (0 : Int), (2 : Int))
    else
     k18 ([])
theorem en7 : Enters Try.prog 7 := enters_of Try.func7 (by kernel_rfl) rfl
theorem wk7 {gI : Gh} {wI : World} {x0 : ChainBelt} {x1 : Int} {x2 : List Int} {up0 : Value} (rp0 : RV gI.m wI x0 up0) {up2 : Value} (rp2 : RV gI.m wI x2 up2) {r : (List Int) × Int × Int} (h : f7 x0 x1 x2 = some r) : Fn Try.prog 7 #[up0, .int .i64 (x1), up2] gI wI (fun m w v => ∃ y0 y1 y2, v = .tuple #[y0, y1, y2] ∧ RV m w (r.1) y0 ∧ y1 = .int .i64 (r.2.1) ∧ y2 = .int .i64 (r.2.2)) := by
 unfold f7 at h;refine Gw Try.func7 rfl (Nat.le_of_ble_eq_true rfl) fun g0 hm hfr => ?_;have rp0 : RV g0.m wI x0 up0 := hm ▸ rp0;have rp2 : RV g0.m wI x2 up2 := hm ▸ rp2;show E _ 58 none _ _ _ _ _;refine Zf (Za (Ze .plain rfl (Qs (g := g0) rfl rp0 fun g1 w1 p1 hs q1 => ?_)));have hfr := hfr.ext hs;have rp2 := rp2.ext hs;refine Zg (.slice none 0 0) rfl rfl ?_;refine Zg (.int .i64 (0)) rfl rfl ?_;refine Zg (.int .i64 (0)) rfl rfl ?_;refine Zb (Zd (Zf (Za (Ze .plain rfl (Gf (g := g1) Try.isAgg27 Try.sizeOf27 rfl q1 fun v2 r2 => ?_)))));obtain ⟨y4, kH, h⟩ := Ga h;refine Ze .plain rfl (Zp (g := g1) (vs := [v2]) en19 (.cons rfl .nil) (wk19 r2 kH) fun g3 w3_ v3 hs hr => ?_);have hfr := hfr.ext hs;have rp2 := rp2.ext hs;have q1 := q1.ext hs;obtain ⟨zB, nI, rfl, cC, rfl⟩ := hr;refine Zn (.tuple #[zB, .int .i64 (y4.2)]) rfl rfl ?_;refine Zw zB (Zi rfl rfl) rfl ?_;refine Zw (.int .i64 (y4.2)) (Zi rfl rfl) rfl ?_;refine Ze .plain rfl (Ti (g := g3) 2009 (⟨⟨0, []⟩, 0⟩ : Gb) Try.zeroValue66 (fun m w => ⟨_, (Gv (Gv Zv Tr) Zv), rfl⟩) fun g5 w5 p5 hs b5 cb => ?_);have hfr := hfr.stp hs;have rp2 := rp2.stp hs;have q1 := q1.stp hs;have cC := cC.stp hs;have pI : OSF 2009 60901 1 g5 w5 60 66 ([] : List Gc) p5 := cb.osf (by rfl);clear cb;refine Ze .plain rfl (Gm (g := g5) (v := zB) Try.sizeOf66 rfl b5 rfl cC fun g6 w6 hs b6 cb => ?_);clear cb;have hfr := hfr.stp hs;have rp2 := rp2.stp hs;have q1 := q1.stp hs;refine Zg (.int .i64 (y4.2)) rfl rfl ?_;refine Zb (Zd (Zq h (fun (s : (List Int)) e w => ∃ (g : Gh) (v6 : Value), Fr gI wI g w ∧ e 1 = .int .i64 (x1) ∧ e 2 = up2 ∧ RV g.m w (x2 : List Int) up2 ∧ e 6 = v6 ∧ RV g.m w (s : List Int) v6 ∧ OS 1006 g w 3 (s : List Int) v6 ∧ e 9 = p5 ∧ OB 2009 g w 66 (y4.1 : Gb) p5) (fun X18 k18 xG h => ?_) ?_))
 ·refine Zr ?_
  refine Zf (Za (Zn (.int .i64 (y4.2)) rfl rfl ?_));refine Gg (.bool ((y4.2 != (0 : Int)))) rfl rfl rfl rfl ?_;refine Zg (.bool ((y4.2 != (0 : Int)))) rfl rfl ?_;refine Zb (Zd ?_);rcases Zt h with ⟨uC, h⟩ | ⟨uC, h⟩
  ·refine Tn uC rfl ?_
   refine Zf (Za (Zn (.int .i64 (y4.2)) rfl rfl ?_));refine Zg (.slice none 0 0) rfl rfl ?_;refine Zg (.int .i64 (0)) rfl rfl ?_;refine Zg (.int .i64 (y4.2)) rfl rfl ?_;refine Zb (Zd (Gq (Wd ?_)));refine Tz ?_;obtain rfl := sinj h;exact Ie rfl rfl (show _ = .slice none 0 0 from rfl) (show _ = .int .i64 (0) from rfl) (show _ = .int .i64 (y4.2) from rfl) ⟨_, hfr, _, _, _, rfl, He, rfl, rfl⟩
  ·refine To uC rfl ?_
   refine Zf (Za (Zw (Gk p1 1) (Zc Wm rfl (PT.ptr q1)) rfl ?_));have lH := Zm (Tc).1 q1;refine Ze .plain rfl (Gf (g := g6) Try.isAgg25 Try.sizeOf25 rfl lH fun pJ mH => ?_);refine Zw (.int .i64 (((x0).Cards).length : Int)) (Tu Try.underlying25 rfl mH) rfl ?_;refine Zw (.int .i64 ((w64 ((((x0).Cards).length : Int) - (1 : Int))))) (Gj rfl rfl rfl) rfl ?_;refine Zn (.int .i64 (x1)) rfl rfl ?_;refine Ze .plain rfl (Gl (g := g6) 3027 (xs := ([x1] : List Int)) (vs := [.int .i64 (x1)]) Try.underlying31 Try.sizeOf3 Try.zeroValue3 rfl rfl (.cons rfl .nil) (RVs.cons (Zj.2 rfl) RVs.nil) rfl rfl fun nH qJ oH hs o22 pH hxt hfl => ?_);have hfr := hfr.stp hs;have rp2 := rp2.stp hs;have b6 := b6.stp hs rfl;obtain ⟨oD, yG, h⟩ := Ga h;refine Ze .plain rfl (Zp (g := nH) (vs := [.int .i64 (0), .int .i64 ((w64 ((((x0).Cards).length : Int) - (1 : Int)))), oH]) en20 (.cons rfl (.cons rfl (.cons rfl .nil))) (wk20 pH yG) fun qH qI rJ hs hr => ?_);have hfr := hfr.ext hs;have rp2 := rp2.ext hs;have b6 := b6.ext hs;subst hr;refine Zw (.bool (!oD)) (Wh rfl) rfl ?_;refine Zg (.bool (!oD)) rfl rfl ?_;refine Zb (Zd ?_);rcases Zt h with ⟨vC, h⟩ | ⟨vC, h⟩
   ·refine Tn vC rfl ?_
    refine Zf (Za (Zg (.slice none 0 0) rfl rfl ?_));refine Zg (.int .i64 (0)) rfl rfl ?_;refine Zg (.int .i64 (7)) rfl rfl ?_;refine Zb (Zd (Gq (Wd ?_)));refine Tz ?_;obtain rfl := sinj h;exact Ie rfl rfl (show _ = .slice none 0 0 from rfl) (show _ = .int .i64 (0) from rfl) (show _ = .int .i64 (7) from rfl) ⟨_, hfr, _, _, _, rfl, He, rfl, rfl⟩
   ·refine To vC rfl ?_
    refine Zf (Za (Zn up2 rfl rfl ?_));refine Zw (.int .i64 ((x2).length : Int)) (Tu Try.underlying31 rfl rp2) rfl ?_;refine Gg (.bool ((decide (((x2).length : Int) > (60 : Int))))) rfl rfl rfl rfl ?_;refine Zg (.bool ((decide (((x2).length : Int) > (60 : Int))))) rfl rfl ?_;refine Zb (Zd ?_);rcases Zt h with ⟨bD, h⟩ | ⟨bD, h⟩
    ·refine Tn bD rfl ?_
     refine Zf (Za (Zg (.slice none 0 0) rfl rfl ?_));refine Zg (.int .i64 (0)) rfl rfl ?_;refine Zg (.int .i64 (5)) rfl rfl ?_;refine Zb (Zd (Gq (Wd ?_)));refine Tz ?_;obtain rfl := sinj h;exact Ie rfl rfl (show _ = .slice none 0 0 from rfl) (show _ = .int .i64 (0) from rfl) (show _ = .int .i64 (5) from rfl) ⟨_, hfr, _, _, _, rfl, He, rfl, rfl⟩
    ·refine To bD rfl ?_
     refine Zf (Za (Zn up2 rfl rfl ?_));obtain ⟨yD, zG, h⟩ := Ga h;refine Ze .plain rfl (Zp (g := qH) (vs := [.int .i64 (0), .int .i64 (2), up2]) en20 (.cons rfl (.cons rfl (.cons rfl .nil))) (wk20 rp2 zG) fun sH sI sJ hs hr => ?_);have hfr := hfr.ext hs;have rp2 := rp2.ext hs;have b6 := b6.ext hs;subst hr;refine Zw (.bool (!yD)) (Wh rfl) rfl ?_;refine Zg (.bool (!yD)) rfl rfl ?_;refine Zb (Zd ?_);rcases Zt h with ⟨cD, h⟩ | ⟨cD, h⟩
     ·refine Tn cD rfl ?_
      refine Zf (Za (Zg (.slice none 0 0) rfl rfl ?_));refine Zg (.int .i64 (0)) rfl rfl ?_;refine Zg (.int .i64 (2)) rfl rfl ?_;refine Zb (Zd (Gq (Wd ?_)));refine Tz ?_;obtain rfl := sinj h;exact Ie rfl rfl (show _ = .slice none 0 0 from rfl) (show _ = .int .i64 (0) from rfl) (show _ = .int .i64 (2) from rfl) ⟨_, hfr, _, _, _, rfl, He, rfl, rfl⟩
     ·refine To cD rfl ?_
      exact Zu (Ts (Zd (xG ([]) _ _ ⟨sH, (.slice none 0 0), hfr, rfl, rfl, rp2, rfl, He, OS.nil, rfl, b6⟩ h)))
 ·rintro nD jJ vJ ⟨tH, yE, hfr, zE, cF, zD, dF, eF, rF, sF, tF⟩ h
  refine Zf (Za (Zo zE rfl ?_));refine Zg (.int .i64 (x1)) rfl rfl ?_;refine Zb (Zd ?_);obtain ⟨⟨n9, v8⟩, hx, h⟩ := Ga h;refine Gp (fun e w => ∃ (g : Gh) (v6 : Value), Fr gI wI g w ∧ e 6 = v6 ∧ RV g.m w (n9 : List Int) v6 ∧ OS 1006 g w 3 (n9 : List Int) v6 ∧ e 7 = .int .i64 (v8)) (fun Q' hQ => ?_) (fun kJ xJ hR => ?_)
  ·replace h := hx
   clear hx;refine Zf (Za (Zo cF rfl ?_));refine Zw (.int .i64 ((x2).length : Int)) (Tu Try.underlying31 rfl zD) rfl ?_;refine Zn (.int .i64 (0)) rfl rfl ?_;refine Zb (Zd (Zr ?_));refine Wv h (fun (s : (List Int) × Int × Int) e w => ∃ (g : Gh) (v6 : Value), Fr gI wI g w ∧ e 6 = v6 ∧ RV g.m w (s.1 : List Int) v6 ∧ OS 1006 g w 3 (s.1 : List Int) v6 ∧ e 7 = .int .i64 (s.2.1) ∧ e 9 = p5 ∧ OB 2009 g w 66 (y4.1 : Gb) p5 ∧ e 39 = up2 ∧ RV g.m w (x2 : List Int) up2 ∧ e 40 = .int .i64 (((x2).length : Int)) ∧ e 41 = .int .i64 (s.2.2)) ⟨tH, (yE), hfr, dF, eF, rF, rfl, sF, tF, rfl, zD, rfl, rfl⟩ (fun X59 kG aH => ?_);rintro ⟨lB, i6, l5⟩ lJ zJ ⟨aE, uF, hfr, bE, g8, l8, mB, nB, t5, vB, o0, yB, aB⟩ h;refine Zf (Za (Gg (.bool ((decide (l5 < ((x2).length : Int))))) aB yB rfl rfl ?_));refine Zb (Zd (Zf ?_));rcases Zt h with ⟨lD, h⟩ | ⟨lD, h⟩
   ·refine Tn lD rfl ?_
    refine Zu (Zd ?_);obtain ⟨⟨n8, l9⟩, hx, h⟩ := Ga h;refine Gp (fun e w => ∃ (g : Gh) (v6 : Value), Fr gI wI g w ∧ e 6 = v6 ∧ RV g.m w (n8 : List Int) v6 ∧ OS 1006 g w 3 (n8 : List Int) v6 ∧ e 7 = .int .i64 (l9) ∧ e 9 = p5 ∧ OB 2009 g w 66 (y4.1 : Gb) p5 ∧ e 39 = up2 ∧ RV g.m w (x2 : List Int) up2 ∧ e 40 = .int .i64 (((x2).length : Int)) ∧ e 41 = .int .i64 (l5)) (fun Q' hQ => ?_) (fun mJ aK hR => ?_)
    ·replace h := hx
     clear hx;refine Zr ?_;refine Zf (Za ?_);obtain ⟨oB, mE, h⟩ := Ga h;refine Zw (Ty up2 l5 1) (Zh (α := Int) Try.underlying31 Try.sizeOf3 vB o0 aB mE) rfl ?_;have uH := Tp o0 mE;refine Ze .plain rfl (Gf (g := aE) Try.isAgg3 Try.sizeOf3 rfl uH fun bK xH => ?_);obtain rfl := Zj.1 xH;refine Zg (.int .i64 (oB)) rfl rfl ?_;refine Zb (Zd (Zf (Za (Zo bE rfl ?_))));refine Ze .plain rfl (Tk (g := aE) Try.isAgg66 Try.sizeOf66 nB t5 fun yH zH => ?_);refine Zo mB rfl ?_;obtain ⟨y80, cH, h⟩ := Ga h;refine Ze .plain rfl (Zp (g := aE) (vs := [yH, .int .i64 (i6)]) en21 (.cons rfl (.cons rfl .nil)) (wk21 zH cH) fun aI nJ cK hs hr => ?_);have hfr := hfr.ext hs;have g8 := g8.ext hs;have l8 := l8.ext hs;have t5 := t5.ext hs;have o0 := o0.ext hs;subst hr;refine Ze .plain rfl (Gl (g := aI) 3049 (xs := ([y80] : List Int)) (vs := [.int .i64 (y80)]) Try.underlying31 Try.sizeOf3 Try.zeroValue3 rfl rfl (.cons rfl .nil) (RVs.cons (Zj.2 rfl) RVs.nil) rfl rfl fun bI dK lK hs o81 dI hxt hfl => ?_);have hfr := hfr.stp hs;have g8 := g8.stp hs;have l8 := l8.stp hs rfl;have t5 := t5.stp hs rfl;have o0 := o0.stp hs;obtain ⟨lG, gH, h⟩ := Ga h;refine Ze .plain rfl (Kg (g := bI) (i := 1006) Try.underlying31 Hi rfl rfl l8 g8 rfl dI gH fun mG mK sG hs o82 oE _ => ?_);have hfr := hfr.stp hs;have t5 := t5.stp hs rfl;have o0 := o0.stp hs;refine Zg sG rfl rfl ?_;refine Zb (Zd (Za (Ze .plain rfl (Tk (g := mG) Try.isAgg66 Try.sizeOf66 nB t5 fun iI jI => ?_))));refine Zo mB rfl ?_;refine Zn (.int .i64 (oB)) rfl rfl ?_;obtain ⟨lE, jH, h⟩ := Ga h;refine Ze .plain rfl (Zp (g := mG) (vs := [iI, .int .i64 (i6), .int .i64 (oB)]) en22 (.cons rfl (.cons rfl (.cons rfl .nil))) (wk22 jI jH) fun kI oJ nK hs hr => ?_);have hfr := hfr.ext hs;have oE := oE.ext hs;have o82 := o82.ext hs;have t5 := t5.ext hs;have o0 := o0.ext hs;subst hr;refine Zg (.int .i64 (lE)) rfl rfl ?_;refine Zb (Ts ?_);obtain ⟨rfl, rfl⟩ := Hn h;exact hQ _ _ ⟨kI, (sG), hfr, rfl, oE, o82, rfl, nB, t5, vB, o0, yB, aB⟩
    ·clear hx
     obtain ⟨lI, vF, hfr, xF, yF, aG, bG, cG, eG, rE, uE, vE, xE⟩ := hR;refine Za (Gg (.int .i64 ((w64 (l5 + (1 : Int))))) xE rfl rfl rfl ?_);refine Zn (.int .i64 ((w64 (l5 + (1 : Int))))) rfl rfl ?_;exact Zb (Zd (aH (n8, l9, (w64 (l5 + (1 : Int)))) _ _ ⟨lI, (vF), hfr, xF, yF, aG, bG, cG, eG, rE, uE, vE, rfl⟩ h))
   ·refine To lD rfl ?_
    refine Qc ?_;refine Tf ?_;refine Tf ?_;refine Tl ?_;obtain ⟨rfl, rfl⟩ := Hn h;exact hQ _ _ ⟨aE, (uF), hfr, bE, g8, l8, mB⟩
  ·clear hx
   obtain ⟨oK, iE, hfr, gG, iG, mI, jG⟩ := hR;refine Zf (Za (Zo gG rfl ?_));refine Zo jG rfl ?_;refine Zg iE rfl rfl ?_;refine Zg (.int .i64 (v8)) rfl rfl ?_;refine Zg (.int .i64 (0)) rfl rfl ?_;refine Zb (Zd (Gq ?_));obtain rfl := sinj h;exact Ie rfl rfl (show _ = iE from rfl) (show _ = .int .i64 (v8) from rfl) (show _ = .int .i64 (0) from rfl) ⟨_, hfr, _, _, _, rfl, iG, rfl, rfl⟩
def f10 (x0 : ChainBelt) (x1 : List Int) : Option (Int × (List Int) × Int × Int) :=
 (f23 x0 x1).bind fun y4 =>
 jn (σ := (List Int)) (fun tF =>
  (f24 (y4.1)).bind fun zB =>
  jn (σ := (List Int) × Int) (fun (sH, v8) =>
   (idx zB (0 : Int)).bind fun jN =>
   (f26 jN v8).bind fun mB =>
   Option.bind (α := (List Int)) (
    lp (σ := (List Int) × Int × Int) (fun pK (n8, t5, l5) =>
     bif (decide (l5 < ((x1).length : Int))) then
      Option.bind (α := (List Int) × Int) (
       Option.bind (α := Int) (
        lp (σ := Int) (fun qK i6 =>
         jn (σ := Unit) (fun _ =>
          qK ((w64 (i6 + (1 : Int))))
          ) fun sK =>
         (f27 i6).bind fun iE =>
         (idx zB (w64 (l5 + (1 : Int)))).bind fun tK =>
         (f22 ((y4.1).belt) t5 i6).bind fun rE =>
         (idx tK rE).bind fun uE =>
         (idx zB l5).bind fun uK =>
         (idx uK t5).bind fun uF =>
         bif ((w64 (iE + uE)) != uF) then
          sK ()
         else
          some (i6)
         ) big ((0 : Int))
        ) fun o0 =>
       (apnd 8 n8 (([o0] : List Int))).bind fun g8 =>
       (f22 ((y4.1).belt) t5 o0).bind fun cD =>
       some (g8, cD)
       ) fun (nB, yB) =>
      pK (nB, yB, (w64 (l5 + (1 : Int))))
     else
      some (n8)
     ) big (sH, mB, (0 : Int))
    ) fun cC =>
   some (mB, cC, v8, (0 : Int))
   ) fun kN =>
  (idx zB (0 : Int)).bind fun lN =>
  (f25 lN).bind fun vE =>
  bif (decide (vE ≥ (1048576 : Int))) then
   some ((0 : Int), [], (0 : Int), (7 : Int))
  else
   kN (tF, vE)
  ) fun k8 =>
 bif (y4.2 != (0 : Int)) then
  some ((0 : Int), [], (0 : Int), y4.2)
 else
  k8 ([])
theorem en10 : Enters Try.prog 10 := enters_of Try.func10 (by kernel_rfl) rfl
theorem wk10 {gI : Gh} {wI : World} {x0 : ChainBelt} {x1 : List Int} {up0 : Value} (rp0 : RV gI.m wI x0 up0) {up1 : Value} (rp1 : RV gI.m wI x1 up1) {r : Int × (List Int) × Int × Int} (h : f10 x0 x1 = some r) : Fn Try.prog 10 #[up0, up1] gI wI (fun m w v => ∃ y0 y1 y2 y3, v = .tuple #[y0, y1, y2, y3] ∧ y0 = .int .i64 (r.1) ∧ RV m w (r.2.1) y1 ∧ y2 = .int .i64 (r.2.2.1) ∧ y3 = .int .i64 (r.2.2.2)) := by
 unfold f10 at h;refine Gw Try.func10 rfl (Nat.le_of_ble_eq_true rfl) fun g0 hm hfr => ?_;have rp0 : RV g0.m wI x0 up0 := hm ▸ rp0;have rp1 : RV g0.m wI x1 up1 := hm ▸ rp1;show E _ 79 none _ _ _ _ _;refine Zf (Za (Ze .plain rfl (Qs (g := g0) rfl rp0 fun g1 w1 p1 hs q1 => ?_)));have hfr := hfr.ext hs;have rp1 := rp1.ext hs;refine Zg (.int .i64 (0)) rfl rfl ?_;refine Zg (.slice none 0 0) rfl rfl ?_;refine Zg (.int .i64 (0)) rfl rfl ?_;refine Zg (.int .i64 (0)) rfl rfl ?_;refine Zb (Zd (Zf (Za (Ze .plain rfl (Gf (g := g1) Try.isAgg27 Try.sizeOf27 rfl q1 fun v2 r2 => ?_)))));refine Zn up1 rfl rfl ?_;obtain ⟨y4, dO, h⟩ := Ga h;refine Ze .plain rfl (Zp (g := g1) (vs := [v2, up1]) en23 (.cons rfl (.cons rfl .nil)) (wk23 r2 rp1 dO) fun g3 w3_ v3 hs hr => ?_);have hfr := hfr.ext hs;have rp1 := rp1.ext hs;obtain ⟨xG, jP, rfl, yG, rfl⟩ := hr;refine Zn (.tuple #[xG, .int .i64 (y4.2)]) rfl rfl ?_;refine Zw xG (Zi rfl rfl) rfl ?_;refine Zw (.int .i64 (y4.2)) (Zi rfl rfl) rfl ?_;refine Ze .plain rfl (Ti (g := g3) 2008 (⟨⟨⟨0, []⟩, 0⟩, []⟩ : Gd) Try.zeroValue73 (fun m w => ⟨_, (Gv (Gv (Gv Zv Tr) Zv) Tr), rfl⟩) fun g5 w5 p5 hs b5 cb => ?_);have hfr := hfr.stp hs;have rp1 := rp1.stp hs;have yG := yG.stp hs;have kP : OSF 2008 60801 1 g5 w5 60 73 ([] : List Gc) p5 := cb.osf (by rfl);have lP : OSF 2008 60803 3 g5 w5 3 73 ([] : List Int) p5 := cb.osf (by rfl);clear cb;refine Ze .plain rfl (Gm (g := g5) (v := xG) Try.sizeOf73 rfl b5 rfl yG fun g6 w6 hs b6 cb => ?_);clear cb;have hfr := hfr.stp hs;have rp1 := rp1.stp hs;refine Zg (.int .i64 (y4.2)) rfl rfl ?_;refine Zb (Zd (Zq h (fun (s : (List Int)) e w => ∃ (g : Gh) (v5 : Value), Fr gI wI g w ∧ e 1 = up1 ∧ RV g.m w (x1 : List Int) up1 ∧ e 5 = v5 ∧ RV g.m w (s : List Int) v5 ∧ OS 1005 g w 3 (s : List Int) v5 ∧ e 8 = p5 ∧ OB 2008 g w 73 (y4.1 : Gd) p5) (fun X8 k8 eO h => ?_) ?_))
 ·refine Zf (Za (Zn (.int .i64 (y4.2)) rfl rfl ?_))
  refine Gg (.bool ((y4.2 != (0 : Int)))) rfl rfl rfl rfl ?_;refine Zb (Zd ?_);rcases Zt h with ⟨hc9, h⟩ | ⟨hc9, h⟩
  ·refine Tn hc9 rfl ?_
   refine Zf (Za (Zn (.int .i64 (y4.2)) rfl rfl ?_));refine Zg (.int .i64 (0)) rfl rfl ?_;refine Zg (.slice none 0 0) rfl rfl ?_;refine Zg (.int .i64 (0)) rfl rfl ?_;refine Zg (.int .i64 (y4.2)) rfl rfl ?_;refine Zb (Zd (Gq (Tz ?_)));obtain rfl := sinj h;exact Nq rfl rfl (show _ = .int .i64 (0) from rfl) (show _ = .slice none 0 0 from rfl) (show _ = .int .i64 (0) from rfl) (show _ = .int .i64 (y4.2) from rfl) ⟨_, hfr, _, _, _, _, rfl, rfl, He, rfl, rfl⟩
  ·refine To hc9 rfl ?_
   exact Zu (Zd (eO ([]) _ _ ⟨g6, (.slice none 0 0), hfr, rfl, rp1, rfl, He, OS.nil, rfl, b6⟩ h))
 ·rintro tF mP cQ ⟨mN, yL, hfr, zL, lD, aM, nD, oD, tH, uC⟩ h
  refine Zf (Za (Ze .plain rfl (Tk (g := mN) Try.isAgg73 Try.sizeOf73 tH uC fun gO jO => ?_)));obtain ⟨zB, pN, h⟩ := Ga h;refine Ze .plain rfl (Zp (g := mN) (vs := [gO]) en24 (.cons rfl .nil) (wk24 jO pN) fun nN nP l9 hs hr => ?_);have hfr := hfr.ext hs;have lD := lD.ext hs;have nD := nD.ext hs;have oD := oD.ext hs;have uC := uC.ext hs;have cG := hr;refine Zg l9 rfl rfl ?_;refine Zb (Zd (Zq h (fun (s : (List Int) × Int) e w => ∃ (g : Gh) (v5 : Value), Fr gI wI g w ∧ e 1 = up1 ∧ RV g.m w (x1 : List Int) up1 ∧ e 5 = v5 ∧ RV g.m w (s.1 : List Int) v5 ∧ OS 1005 g w 3 (s.1 : List Int) v5 ∧ e 6 = .int .i64 (s.2) ∧ e 8 = p5 ∧ OB 2008 g w 73 (y4.1 : Gd) p5 ∧ e 9 = l9 ∧ RV g.m w (zB : List (List Int)) l9) (fun X20 kN qN h => ?_) ?_))
  ·refine Zf (Za (Zn l9 rfl rfl ?_))
   obtain ⟨lN, vK, h⟩ := Ga h;refine Zw (Ty l9 (0 : Int) 1) (Zh (α := List Int) Try.underlying76 Try.sizeOf31 rfl cG rfl vK) rfl ?_;have kO := Tp cG vK;refine Ze .plain rfl (Gf (g := nN) Try.isAgg31 Try.sizeOf31 rfl kO fun lO mO => ?_);obtain ⟨vE, rN, h⟩ := Ga h;refine Ze .plain rfl (Zp (g := nN) (vs := [lO]) en25 (.cons rfl .nil) (wk25 mO rN) fun nO oP dQ hs hr => ?_);have hfr := hfr.ext hs;have lD := lD.ext hs;have nD := nD.ext hs;have oD := oD.ext hs;have uC := uC.ext hs;have cG := cG.ext hs;subst hr;refine Zg (.int .i64 (vE)) rfl rfl ?_;refine Zb (Zd (Zf (Za (Zn (.int .i64 (vE)) rfl rfl ?_))));refine Gg (.bool ((decide (vE ≥ (1048576 : Int))))) rfl rfl rfl rfl ?_;refine Zb (Zd ?_);rcases Zt h with ⟨zG, h⟩ | ⟨zG, h⟩
   ·refine Tn zG rfl ?_
    refine Zf (Za (Zg (.int .i64 (0)) rfl rfl ?_));refine Zg (.slice none 0 0) rfl rfl ?_;refine Zg (.int .i64 (0)) rfl rfl ?_;refine Zg (.int .i64 (7)) rfl rfl ?_;refine Zb (Zd (Gq (Tz ?_)));obtain rfl := sinj h;exact Nq rfl rfl (show _ = .int .i64 (0) from rfl) (show _ = .slice none 0 0 from rfl) (show _ = .int .i64 (0) from rfl) (show _ = .int .i64 (7) from rfl) ⟨_, hfr, _, _, _, _, rfl, rfl, He, rfl, rfl⟩
   ·refine To zG rfl ?_
    exact Zu (Zd (qN (tF, vE) _ _ ⟨nO, (yL), hfr, zL, lD, aM, nD, oD, rfl, tH, uC, rfl, cG⟩ h))
  ·rintro ⟨sH, v8⟩ pP eQ ⟨oN, bM, hfr, cM, vF, dM, xF, yF, uH, eM, aG, xH, yD⟩ h
   refine Zf (Za (Zo xH rfl ?_));obtain ⟨jN, xK, h⟩ := Ga h;refine Zw (Ty l9 (0 : Int) 1) (Zh (α := List Int) Try.underlying76 Try.sizeOf31 rfl yD rfl xK) rfl ?_;have oO := Tp yD xK;refine Ze .plain rfl (Gf (g := oN) Try.isAgg31 Try.sizeOf31 rfl oO fun pO qO => ?_);refine Zo uH rfl ?_;obtain ⟨mB, sN, h⟩ := Ga h;refine Ze .plain rfl (Zp (g := oN) (vs := [pO, .int .i64 (v8)]) en26 (.cons rfl (.cons rfl .nil)) (wk26 qO sN) fun rO sP gQ hs hr => ?_);have hfr := hfr.ext hs;have vF := vF.ext hs;have xF := xF.ext hs;have yF := yF.ext hs;have aG := aG.ext hs;have yD := yD.ext hs;subst hr;refine Zg (.int .i64 (mB)) rfl rfl ?_;refine Zb (Zd (Zf (Za (Zn (.int .i64 (mB)) rfl rfl ?_))));refine Zg (.int .i64 (mB)) rfl rfl ?_;refine Zb (Zd ?_);obtain ⟨cC, hx, h⟩ := Ga h;refine Gp (fun e w => ∃ (g : Gh) (v5 : Value), Fr gI wI g w ∧ e 4 = .int .i64 (mB) ∧ e 5 = v5 ∧ RV g.m w (cC : List Int) v5 ∧ OS 1005 g w 3 (cC : List Int) v5 ∧ e 6 = .int .i64 (v8)) (fun Q' hQ => ?_) (fun sO xO hR => ?_)
   ·replace h := hx
    clear hx;refine Zf (Za (Zo cM rfl ?_));refine Zw (.int .i64 ((x1).length : Int)) (Tu Try.underlying31 rfl vF) rfl ?_;refine Zn (.int .i64 (0)) rfl rfl ?_;refine Zb (Zd (Zr ?_));refine Wv h (fun (s : (List Int) × Int × Int) e w => ∃ (g : Gh) (v5 : Value), Fr gI wI g w ∧ e 4 = .int .i64 (mB) ∧ e 5 = v5 ∧ RV g.m w (s.1 : List Int) v5 ∧ OS 1005 g w 3 (s.1 : List Int) v5 ∧ e 6 = .int .i64 (v8) ∧ e 8 = p5 ∧ OB 2008 g w 73 (y4.1 : Gd) p5 ∧ e 9 = l9 ∧ RV g.m w (zB : List (List Int)) l9 ∧ e 10 = .int .i64 (s.2.1) ∧ e 37 = .int .i64 (((x1).length : Int)) ∧ e 38 = .int .i64 (s.2.2)) ⟨rO, (bM), hfr, rfl, dM, xF, yF, uH, eM, aG, xH, yD, rfl, rfl, rfl⟩ (fun X538 pK iM => ?_);rintro ⟨n8, t5, l5⟩ yO tP ⟨yK, l8, hfr, eG, gG, iG, jG, kG, zK, aL, bL, dL, iI, cF, lE⟩ h;refine Zf (Za (Gg (.bool ((decide (l5 < ((x1).length : Int))))) lE cF rfl rfl ?_));refine Zb (Zd (Zf ?_));rcases Zt h with ⟨bG, h⟩ | ⟨bG, h⟩
    ·refine Tn bG rfl ?_
     refine Zu (Zd ?_);obtain ⟨⟨nB, yB⟩, hx, h⟩ := Ga h;refine Gp (fun e w => ∃ (g : Gh) (v5 : Value), Fr gI wI g w ∧ e 4 = .int .i64 (mB) ∧ e 5 = v5 ∧ RV g.m w (nB : List Int) v5 ∧ OS 1005 g w 3 (nB : List Int) v5 ∧ e 6 = .int .i64 (v8) ∧ e 8 = p5 ∧ OB 2008 g w 73 (y4.1 : Gd) p5 ∧ e 9 = l9 ∧ RV g.m w (zB : List (List Int)) l9 ∧ e 10 = .int .i64 (yB) ∧ e 37 = .int .i64 (((x1).length : Int)) ∧ e 38 = .int .i64 (l5)) (fun Q' hQ => ?_) (fun tO zO hR => ?_)
     ·replace h := hx
      clear hx;refine Zr ?_;refine Zf (Za (Zo lE rfl ?_));refine Zg (.int .i64 (l5)) rfl rfl ?_;refine Zb (Zd (Zf (Za (Zg (.int .i64 (0)) rfl rfl ?_))));refine Zb (Zd ?_);obtain ⟨o0, hx, h⟩ := Ga h;refine Gp (fun e w => ∃ (g : Gh) , Fr gI wI g w ∧ e 4 = .int .i64 (mB) ∧ e 5 = l8 ∧ RV g.m w (n8 : List Int) l8 ∧ OS 1005 g w 3 (n8 : List Int) l8 ∧ e 6 = .int .i64 (v8) ∧ e 8 = p5 ∧ OB 2008 g w 73 (y4.1 : Gd) p5 ∧ e 9 = l9 ∧ RV g.m w (zB : List (List Int)) l9 ∧ e 10 = .int .i64 (t5) ∧ e 12 = .int .i64 (o0) ∧ e 37 = .int .i64 (((x1).length : Int)) ∧ e 38 = .int .i64 (l5)) (fun Q' hQ => ?_) (fun uO jM hR => ?_)
      ·replace h := hx
       clear hx;refine Zr ?_;refine Wv h (fun (s : Int) e w => ∃ (g : Gh) , Fr gI wI g w ∧ e 4 = .int .i64 (mB) ∧ e 5 = l8 ∧ RV g.m w (n8 : List Int) l8 ∧ OS 1005 g w 3 (n8 : List Int) l8 ∧ e 6 = .int .i64 (v8) ∧ e 8 = p5 ∧ OB 2008 g w 73 (y4.1 : Gd) p5 ∧ e 9 = l9 ∧ RV g.m w (zB : List (List Int)) l9 ∧ e 10 = .int .i64 (t5) ∧ e 11 = .int .i64 (l5) ∧ e 12 = .int .i64 (s) ∧ e 37 = .int .i64 (((x1).length : Int)) ∧ e 38 = .int .i64 (l5)) ⟨yK, hfr, eG, gG, iG, jG, kG, zK, aL, bL, dL, iI, rfl, rfl, cF, lE⟩ (fun X901 qK kM => ?_);rintro i6 aP uP ⟨tN, hfr, lG, mG, zD, aE, sG, xE, oB, bE, aB, vC, mE, bD, dF, eF⟩ h;refine Zq h (fun (s : Unit) e w => ∃ (g : Gh) , Fr gI wI g w ∧ e 4 = .int .i64 (mB) ∧ e 5 = l8 ∧ RV g.m w (n8 : List Int) l8 ∧ OS 1005 g w 3 (n8 : List Int) l8 ∧ e 6 = .int .i64 (v8) ∧ e 8 = p5 ∧ OB 2008 g w 73 (y4.1 : Gd) p5 ∧ e 9 = l9 ∧ RV g.m w (zB : List (List Int)) l9 ∧ e 10 = .int .i64 (t5) ∧ e 11 = .int .i64 (l5) ∧ e 12 = .int .i64 (i6) ∧ e 37 = .int .i64 (((x1).length : Int)) ∧ e 38 = .int .i64 (l5)) (fun X956 sK pM h => ?_) ?_
       ·refine Zf ?_
        obtain ⟨iE, qM, h⟩ := Ga h;obtain ⟨tK, yH, h⟩ := Ga h;have uN := Tp aB yH;refine Zs (x := .tmp 46) Try.isAgg31 Try.sizeOf31 uN fun eL gL rM => ?_;refine Ya (x := .tmp 48) Wa.1 Try.isAgg66 Try.sizeOf66 oB fun iL vN sM => ?_;obtain ⟨rE, tM, h⟩ := Ga h;obtain ⟨uE, zH, h⟩ := Ga h;have xN := Tp gL zH;refine Zs (x := .tmp 53) Try.isAgg3 Try.sizeOf3 xN fun vP yN uM => ?_;obtain rfl := Zj.1 yN;obtain ⟨uK, aI, h⟩ := Ga h;have zN := Tp aB aI;refine Zs (x := .tmp 58) Try.isAgg31 Try.sizeOf31 zN fun jL lL vM => ?_;obtain ⟨uF, bI, h⟩ := Ga h;have aO := Tp lL bI;refine Zs (x := .tmp 61) Try.isAgg3 Try.sizeOf3 aO fun xP bO xM => ?_;obtain rfl := Zj.1 bO;refine Tx (g := tN) (n := 23) [(1, (fun v g w => v = .int .i64 (iE))), (11, (fun v g w => v = .int .i64 (rE)))] [0, 1, 2, 3, 4, 5, 6, 7, 8, 9, 10, 11, 12, 13, 14, 15, 16, 17, 18, 19, 20, 21, 22] rfl Qq (by kernel_rfl) (⟨fun _ => Wf _, fun _ => Wf _, trivial⟩) ?_;refine Zz (.int .i64 (i6)) rfl rfl (Zk bD) ?_;refine Ka (φ := fun v g w => v = .int .i64 (iE)) rfl rfl .plain (fun g w hd => Zp (g := g) (vs := [.int .i64 (i6)]) en27 (.cons rfl .nil) (wk27  qM) fun g' w' v hs hr => ⟨g', hs, hr⟩) (fun yP hv => ?_);obtain ⟨_, _, _, rfl⟩ := hv;refine Zz l9 rfl rfl (Zk bE) ?_;refine Zz (.int .i64 (l5)) rfl rfl (Zk mE) ?_;refine Zz (.int .i64 ((w64 (l5 + (1 : Int))))) rfl rfl (Gj rfl rfl rfl) ?_;refine Zz (Ty l9 (w64 (l5 + (1 : Int))) 1) rfl rfl (Zh (α := List Int) Try.underlying76 Try.sizeOf31 rfl aB rfl yH) ?_;refine Tt (c := eL) rfl rfl .plain (fun _ _ h => h.ch) rM rfl ?_;refine Zz (Gk p5 0) rfl rfl (Zc Ug xE (OB.ptr oB)) ?_;refine Tt (c := iL) rfl rfl .plain (fun _ _ h => ⟨h.ch, fun b hb _ => h.below.block b hb⟩) sM rfl ?_;refine Zz (.int .i64 (t5)) rfl rfl (Zk vC) ?_;refine Zz (.int .i64 (i6)) rfl rfl (Zk bD) ?_;refine Ka (φ := fun v g w => v = .int .i64 (rE)) rfl rfl .plain (fun g w hd => Zp (g := g) (vs := [iL, .int .i64 (t5), .int .i64 (i6)]) en22 (.cons rfl (.cons rfl (.cons rfl .nil))) (wk22 (vN.ext hd.1) tM) fun g' w' v hs hr => ⟨g', hs, hr⟩) (fun zP hv => ?_);obtain ⟨_, _, _, rfl⟩ := hv;refine Zz (Ty eL rE 1) rfl rfl (Zh (α := Int) Try.underlying31 Try.sizeOf3 rfl gL rfl zH) ?_;refine Tt (c := .int .i64 (uE)) rfl rfl .plain (fun _ _ h => h.ch) uM rfl ?_;refine Zz (.int .i64 ((w64 (iE + uE)))) rfl rfl (Gj rfl rfl rfl) ?_;refine Zz l9 rfl rfl (Zk bE) ?_;refine Zz (.int .i64 (l5)) rfl rfl (Zk mE) ?_;refine Zz (Ty l9 l5 1) rfl rfl (Zh (α := List Int) Try.underlying76 Try.sizeOf31 rfl aB rfl aI) ?_;refine Tt (c := jL) rfl rfl .plain (fun _ _ h => h.ch) vM rfl ?_;refine Zz (.int .i64 (t5)) rfl rfl (Zk vC) ?_;refine Zz (Ty jL t5 1) rfl rfl (Zh (α := Int) Try.underlying31 Try.sizeOf3 rfl lL rfl bI) ?_;refine Tt (c := .int .i64 (uF)) rfl rfl .plain (fun _ _ h => h.ch) xM rfl ?_;refine Zz (.bool (((w64 (iE + uE)) != uF))) rfl rfl (Gj rfl rfl rfl) ?_;refine Kr fun mL bQ hs => ?_;have hfr := hfr.ext hs;have zD := zD.ext hs;have aE := aE.ext hs;have oB := oB.ext hs;have aB := aB.ext hs;clear hs;refine Zb (Zd ?_);rcases Zt h with ⟨yE, h⟩ | ⟨yE, h⟩
        ·refine Tn yE rfl ?_
         exact Zu (Zd (pM () _ _ ⟨mL, hfr, lG, mG, zD, aE, sG, xE, oB, bE, aB, vC, mE, bD, dF, eF⟩ h))
        ·refine To yE rfl ?_
         refine Qc ?_;refine Tf ?_;refine Tf ?_;refine Tl ?_;obtain rfl := sinj h;exact hQ _ _ ⟨mL, hfr, lG, mG, zD, aE, sG, xE, oB, bE, aB, vC, bD, dF, eF⟩
       ·rintro _ vO bP ⟨bN, hfr, jI, kI, lI, mI, nI, pI, qI, sI, jJ, aH, cH, gH, jH, kH⟩ h
        refine Zr ?_;refine Za (Zo gH rfl ?_);refine Gg (.int .i64 ((w64 (i6 + (1 : Int))))) rfl rfl rfl rfl ?_;refine Zg (.int .i64 ((w64 (i6 + (1 : Int))))) rfl rfl ?_;exact Zb (Ts (Zd (kM ((w64 (i6 + (1 : Int)))) _ _ ⟨bN, hfr, jI, kI, lI, mI, nI, pI, qI, sI, jJ, aH, cH, rfl, jH, kH⟩ h)))
      ·clear hx
       obtain ⟨cN, hfr, kJ, lJ, mJ, nJ, oJ, rF, vB, pJ, oE, lH, zE, mH, nH⟩ := hR;obtain ⟨g8, nL, h⟩ := Ga h;refine Ya (x := .tmp 70) Wa.1 Try.isAgg66 Try.sizeOf66 vB fun dI dN oL => ?_;obtain ⟨cD, xL, h⟩ := Ga h;refine Ee (g := cN) (w := jM) (i := 1005) (et := 3) (xs := (n8 : List Int)) (r := g8) (u := l8) mJ nJ (n := 11) [(2, (fun v g w => RV g.m w ([o0] : List Int) v ∧ OS 3068 g w 3 ([o0] : List Int) v ∧ Hj v)), (3, (fun v g w => RV g.m w g8 v ∧ OS 1005 g w 3 g8 v)), (8, (fun v g w => v = .int .i64 (cD)))] [0, 1, 2, 3, 4, 5, 6, 7, 8, 9, 10] rfl Qq (by kernel_rfl) (⟨fun _ => Kj upS_rv (Kj upS_os (Ea _)), fun _ => up_as, fun _ => Ea _, trivial⟩) ?_;refine Zz l8 rfl rfl (Zk lJ) ?_;refine Zz (.int .i64 (o0)) rfl rfl (Zk zE) ?_;refine Ka (φ := fun v g w => RV g.m w ([o0] : List Int) v ∧ OS 3068 g w 3 ([o0] : List Int) v ∧ Hj v) rfl rfl .plain (fun g w hd => Gl (g := g) 3068 (xs := ([o0] : List Int)) (vs := [.int .i64 (o0)]) Try.underlying31 Try.sizeOf3 Try.zeroValue3 rfl rfl (.cons rfl .nil) (RVs.cons (Zj.2 rfl) RVs.nil) rfl rfl fun g' w' v hs o r hxt hfl => ⟨g', Cg hxt, r, o, hfl⟩) (fun lB hv => ?_);clear hv;refine Ka (φ := fun v g w => RV g.m w g8 v ∧ OS 1005 g w 3 g8 v) rfl rfl .plain (fun g w hd => Nx (g := g) det_int rfl Try.underlying31 Hi rfl rfl hd.1.2 rfl (Xw (A := fun g w => RV g.m w ([o0] : List Int) lB ∧ OS 3068 g w 3 ([o0] : List Int) lB ∧ Hj lB) 2 rfl rfl (Hd hd)).1 nL) (fun n9 hv => ?_);clear hv;refine Zz (Gk p5 0) rfl rfl (Zc Ug rF (OB.ptr vB)) ?_;refine Tt (c := dI) rfl rfl .plain (fun _ _ h => ⟨h.1.ch, fun b hb ho => h.1.block b hb (by rw [ho]; decide)⟩) oL rfl ?_;refine Zz (.int .i64 (t5)) rfl rfl (Zk lH) ?_;refine Zz (.int .i64 (o0)) rfl rfl (Zk zE) ?_;refine Ka (φ := fun v g w => v = .int .i64 (cD)) rfl rfl .plain (fun g w hd => Zp (g := g) (vs := [dI, .int .i64 (t5), .int .i64 (o0)]) en22 (.cons rfl (.cons rfl (.cons rfl .nil))) (wk22 (dN.stp hd.1.1) xL) fun g' w' v hs hr => ⟨g', Cg hs, hr⟩) (fun cP hv => ?_);obtain ⟨_, _, _, rfl⟩ := hv;refine Zz n9 rfl rfl (Tb rfl) ?_;refine Zz (.int .i64 (cD)) rfl rfl (Tb rfl) ?_;refine Um fun eN dP hall => ?_;have hs := hall.1.1;have hfr := hfr.stp hs;have vB := vB.stp hs rfl;have oE := oE.stp hs;have gN := (Qm (A := fun g w => RV g.m w g8 n9 ∧ OS 1005 g w 3 g8 n9) 3 rfl hall).1;have o1024 := (Qm (A := fun g w => RV g.m w g8 n9 ∧ OS 1005 g w 3 g8 n9) 3 rfl hall).2;have eP := (Qm (A := fun g w => RV g.m w ([o0] : List Int) lB ∧ OS 3068 g w 3 ([o0] : List Int) lB ∧ Hj lB) 2 rfl hall).1;have o1034 := (Qm (A := fun g w => RV g.m w ([o0] : List Int) lB ∧ OS 3068 g w 3 ([o0] : List Int) lB ∧ Hj lB) 2 rfl hall).2.1;have gP := (Qm (A := fun g w => RV g.m w g8 n9 ∧ OS 1005 g w 3 g8 n9) 3 rfl hall).1;have o1035 := (Qm (A := fun g w => RV g.m w g8 n9 ∧ OS 1005 g w 3 g8 n9) 3 rfl hall).2;clear hs hall;refine Zb (Ts ?_);obtain ⟨rfl, rfl⟩ := Hn h;exact hQ _ _ ⟨eN, (n9), hfr, kJ, rfl, gN, o1024, oJ, rF, vB, pJ, oE, rfl, mH, nH⟩
     ·clear hx
      obtain ⟨iN, qJ, hfr, rJ, sJ, vJ, xJ, zJ, aK, bK, cK, dK, oH, pH, qH⟩ := hR;refine Za (Gg (.int .i64 ((w64 (l5 + (1 : Int))))) qH rfl rfl rfl ?_);refine Zn (.int .i64 ((w64 (l5 + (1 : Int))))) rfl rfl ?_;exact Zb (Zd (iM (nB, yB, (w64 (l5 + (1 : Int)))) _ _ ⟨iN, (qJ), hfr, rJ, sJ, vJ, xJ, zJ, aK, bK, cK, dK, oH, pH, rfl⟩ h))
    ·refine To bG rfl ?_
     refine Qc ?_;refine Tf ?_;refine Tf ?_;refine Tl ?_;obtain rfl := sinj h;exact hQ _ _ ⟨yK, (l8), hfr, eG, gG, iG, jG, kG⟩
   ·clear hx
    obtain ⟨iP, sF, hfr, lK, mK, nK, cO, oK⟩ := hR;refine Zf (Za (Zo lK rfl ?_));refine Zo mK rfl ?_;refine Zo oK rfl ?_;refine Zg (.int .i64 (mB)) rfl rfl ?_;refine Zg sF rfl rfl ?_;refine Zg (.int .i64 (v8)) rfl rfl ?_;refine Zg (.int .i64 (0)) rfl rfl ?_;refine Zb (Zd (Gq ?_));obtain rfl := sinj h;exact Nq rfl rfl (show _ = .int .i64 (mB) from rfl) (show _ = sF from rfl) (show _ = .int .i64 (v8) from rfl) (show _ = .int .i64 (0) from rfl) ⟨_, hfr, _, _, _, _, rfl, rfl, nK, rfl, rfl⟩
def f16  : Option (Bool) :=
 (f12 ((⟨([(⟨0, (20 : Int)⟩ : Gr), (⟨(60 : Int), (30 : Int)⟩ : Gr)] : List Gr), ([(100 : Int), (250 : Int)] : List Int), (12 : Int), (100 : Int)⟩ : PayList))).bind fun oD =>
 (f11 oD ((⟨0, (60 : Int), (50000 : Int), ([(0 : Int), (1 : Int)] : List Int), (20 : Int)⟩ : Th))).bind fun l5 =>
 (f36 ((10 : Int)) (([(2 : Int), (2 : Int), (3 : Int)] : List Int))).bind fun l8 =>
 (f37 ((⟨([([(5 : Int), (8 : Int)] : List Int), ([(1 : Int), (2 : Int)] : List Int)] : List (List Int)), ([(12 : Int), (3 : Int)] : List Int), ([(6 : Int), (9 : Int)] : List Int), (15 : Int)⟩ : PayTable))).bind fun t5 =>
 Option.bind (α := Bool) (
  bif (l5.2.2.2 == (0 : Int)) then
   bif (l8.2 == (0 : Int)) then
    bif (t5.2 == (0 : Int)) then
     bif (l5.2.2.1 == (1823 : Int)) then
      (f35 (l8.1) (([(3 : Int), (3 : Int), (4 : Int)] : List Int))).bind fun y44 =>
      bif y44 then
       some (((t5.1).Number == (7 : Int)))
      else
       some (false)
     else
      some (false)
    else
     some (false)
   else
    some (false)
  else
   some (false)
  ) fun lB =>
 some (lB)
theorem en16 : Enters Try.prog 16 := enters_of Try.func16 (by kernel_rfl) rfl
theorem wk16 {gI : Gh} {wI : World}   {r : Bool} (h : f16  = some r) : Fn Try.prog 16 #[] gI wI (fun _ _ v => v = .bool (r)) := by
 unfold f16 at h;refine Gw Try.func16 rfl (Nat.le_of_ble_eq_true rfl) fun g0 hm hfr => ?_;show E _ 64 none _ _ _ _ _;refine Zf (Za (Zg (.bool false) rfl rfl ?_));refine Zb (Zd (Zf (Za ?_)));have r1 : RV g0.m wI (⟨0, (20 : Int)⟩ : Gr) (.agg (Qd [[.int .i64 0], [.int .i64 0]] [(1, .int .i64 (20))]).flatten.toArray) := Qj rfl (Te (Zv) (Qh (rfl)));generalize hv1 : (Value.agg (Qd [[.int .i64 0], [.int .i64 0]] [(1, .int .i64 (20))]).flatten.toArray) = v1 at r1;refine Zw v1 (hv1 ▸ Qu (vs := [(1, .int .i64 (20))]) [[.int .i64 0], [.int .i64 0]] Ln rfl rfl (.cons rfl .nil) ⟨⟨_, rfl, rfl⟩, trivial⟩) rfl ?_;have r2 : RV g0.m wI (⟨(60 : Int), (30 : Int)⟩ : Gr) (.agg (Qd [[.int .i64 0], [.int .i64 0]] [(0, .int .i64 (60)), (1, .int .i64 (30))]).flatten.toArray) := Qj rfl (Te (rfl) (Qh (rfl)));generalize hv2 : (Value.agg (Qd [[.int .i64 0], [.int .i64 0]] [(0, .int .i64 (60)), (1, .int .i64 (30))]).flatten.toArray) = v2 at r2;refine Zw v2 (hv2 ▸ Qu (vs := [(0, .int .i64 (60)), (1, .int .i64 (30))]) [[.int .i64 0], [.int .i64 0]] Ln rfl rfl (.cons rfl (.cons rfl .nil)) ⟨⟨_, rfl, rfl⟩, ⟨⟨_, rfl, rfl⟩, trivial⟩⟩) rfl ?_;refine Ze .plain rfl (Gl (g := g0) 3012 (xs := ([(⟨0, (20 : Int)⟩ : Gr), (⟨(60 : Int), (30 : Int)⟩ : Gr)] : List Gr)) (vs := [v1, v2]) Try.underlying35 Try.sizeOf64 Try.zeroValue64 rfl rfl (.cons rfl (.cons rfl .nil)) (RVs.cons r1 (RVs.cons r2 RVs.nil)) rfl rfl fun g3 w3 v3 hs o3 r3 hxt hfl => ?_);have hfr := hfr.stp hs;refine Ze .plain rfl (Gl (g := g3) 3013 (xs := ([(100 : Int), (250 : Int)] : List Int)) (vs := [.int .i64 (100), .int .i64 (250)]) Try.underlying31 Try.sizeOf3 Try.zeroValue3 rfl rfl (.cons rfl (.cons rfl .nil)) (RVs.cons (Zj.2 rfl) (RVs.cons (Zj.2 rfl) RVs.nil)) rfl rfl fun g4 w4 v4 hs o4 r4 hxt hfl => ?_);have hfr := hfr.stp hs;have r3 := r3.stp hs;have o3 := o3.stp hs rfl;have r5 : RV g4.m _ (⟨([(⟨0, (20 : Int)⟩ : Gr), (⟨(60 : Int), (30 : Int)⟩ : Gr)] : List Gr), ([(100 : Int), (250 : Int)] : List Int), (12 : Int), (100 : Int)⟩ : PayList) (.agg (Qd [[.slice none 0 0], [.slice none 0 0], [.int .i64 0], [.int .i64 0]] [(0, v3), (1, v4), (2, .int .i64 (12)), (3, .int .i64 (100))]).flatten.toArray) := Qj rfl (Te (RV.cells r3) (Te (RV.cells r4) (Te (rfl) (Qh (rfl)))));generalize yD : (Value.agg (Qd [[.slice none 0 0], [.slice none 0 0], [.int .i64 0], [.int .i64 0]] [(0, v3), (1, v4), (2, .int .i64 (12)), (3, .int .i64 (100))]).flatten.toArray) = v5 at r5;refine Zw v5 (yD ▸ Qu (vs := [(0, v3), (1, v4), (2, .int .i64 (12)), (3, .int .i64 (100))]) [[.slice none 0 0], [.slice none 0 0], [.int .i64 0], [.int .i64 0]] Oy rfl rfl (.cons rfl (.cons rfl (.cons rfl (.cons rfl .nil)))) ⟨⟨_, rfl, Qt r3⟩, ⟨⟨_, rfl, Qt r4⟩, ⟨⟨_, rfl, rfl⟩, ⟨⟨_, rfl, rfl⟩, trivial⟩⟩⟩⟩) rfl ?_;refine Ze .plain rfl (Ti (g := g4) 2001 (⟨[], [], 0, 0⟩ : PayList) Try.zeroValue37 (fun m w => ⟨_, (Gv Tr (Gv Tr (Gv Zv Zv))), rfl⟩) fun g6 w6 p6 hs b6 cb => ?_);have hfr := hfr.stp hs;have r3 := r3.stp hs;have o3 := o3.stp hs rfl;have r5 := r5.stp hs;have lH : OSF 2001 60100 0 g6 w6 64 37 ([] : List Gr) p6 := cb.osf (by rfl);have mH : OSF 2001 60101 1 g6 w6 3 37 ([] : List Int) p6 := cb.osf (by rfl);clear cb;refine Ze .plain rfl (Gm (g := g6) (v := v5) Try.sizeOf37 rfl b6 rfl r5 fun g7 w7 hs b7 cb => ?_);obtain ⟨xG, yG, zB, _, _⟩ := Km r3;have nH : OSF 2001 3012 0 g7 w7 64 37 (([(⟨0, (20 : Int)⟩ : Gr), (⟨(60 : Int), (30 : Int)⟩ : Gr)] : List Gr) : List Gr) p6 := cb.osfv (by rw [← yD, zB]; rfl) (o3.stp hs rfl);clear cb;have hfr := hfr.stp hs;refine Zb (Zd (Zf (Za (Ze .plain rfl (Tk (g := g7) Try.isAgg37 Try.sizeOf37 rfl b7 fun v8 r8 => ?_)))));obtain ⟨oD, uE, h⟩ := Ga h;refine Ze .plain rfl (Zp (g := g7) (vs := [v8]) en12 (.cons rfl .nil) (wk12 r8 uE) fun g9 w9_ v9 hs hr => ?_);have hfr := hfr.ext hs;have r9 := hr;refine Ze .plain rfl (Gl (g := g9) 3018 (xs := ([(0 : Int), (1 : Int)] : List Int)) (vs := [.int .i64 (0), .int .i64 (1)]) Try.underlying31 Try.sizeOf3 Try.zeroValue3 rfl rfl (.cons rfl (.cons rfl .nil)) (RVs.cons (Zj.2 rfl) (RVs.cons (Zj.2 rfl) RVs.nil)) rfl rfl fun zD uH cC hs o11 aE hxt hfl => ?_)
 have hfr := hfr.stp hs;have r9 := r9.stp hs;have bE : RV zD.m _ (⟨0, (60 : Int), (50000 : Int), ([(0 : Int), (1 : Int)] : List Int), (20 : Int)⟩ : Th) (.agg (Qd [[.int .i64 0], [.int .i64 0], [.int .i64 0], [.slice none 0 0], [.int .i64 0]] [(1, .int .i64 (60)), (2, .int .i64 (50000)), (3, cC), (4, .int .i64 (20))]).flatten.toArray) := Qj rfl (Te (Zv) (Te (rfl) (Te (rfl) (Te (RV.cells aE) (Qh (rfl))))));generalize vE : (Value.agg (Qd [[.int .i64 0], [.int .i64 0], [.int .i64 0], [.slice none 0 0], [.int .i64 0]] [(1, .int .i64 (60)), (2, .int .i64 (50000)), (3, cC), (4, .int .i64 (20))]).flatten.toArray) = iE at bE;refine Zw iE (vE ▸ Qu (vs := [(1, .int .i64 (60)), (2, .int .i64 (50000)), (3, cC), (4, .int .i64 (20))]) [[.int .i64 0], [.int .i64 0], [.int .i64 0], [.slice none 0 0], [.int .i64 0]] Es rfl rfl (.cons rfl (.cons rfl (.cons rfl (.cons rfl .nil)))) ⟨⟨_, rfl, rfl⟩, ⟨⟨_, rfl, rfl⟩, ⟨⟨_, rfl, Qt aE⟩, ⟨⟨_, rfl, rfl⟩, trivial⟩⟩⟩⟩) rfl ?_;obtain ⟨l5, xE, h⟩ := Ga h;refine Ze .plain rfl (Zp (g := zD) (vs := [v9, iE]) en11 (.cons rfl (.cons rfl .nil)) (wk11 r9 bE xE) fun eF oH xH hs hr => ?_);have hfr := hfr.ext hs;obtain ⟨zG, aH, cH, gH, rfl, rfl, rfl, rfl, rfl⟩ := hr;refine Zn (.tuple #[.int .i64 (l5.1), .int .i64 (l5.2.1), .int .i64 (l5.2.2.1), .int .i64 (l5.2.2.2)]) rfl rfl ?_;refine Zw (.int .i64 (l5.1)) (Zi rfl rfl) rfl ?_;refine Zw (.int .i64 (l5.2.1)) (Zi rfl rfl) rfl ?_;refine Zw (.int .i64 (l5.2.2.1)) (Zi rfl rfl) rfl ?_;refine Zw (.int .i64 (l5.2.2.2)) (Zi rfl rfl) rfl ?_;refine Zg (.int .i64 (l5.1)) rfl rfl ?_;refine Zg (.int .i64 (l5.2.1)) rfl rfl ?_;refine Zg (.int .i64 (l5.2.2.1)) rfl rfl ?_;refine Zg (.int .i64 (l5.2.2.2)) rfl rfl ?_;refine Zb (Zd (Zf (Za (Ze .plain rfl (Gl (g := eF) 3026 (xs := ([(2 : Int), (2 : Int), (3 : Int)] : List Int)) (vs := [.int .i64 (2), .int .i64 (2), .int .i64 (3)]) Try.underlying31 Try.sizeOf3 Try.zeroValue3 rfl rfl (.cons rfl (.cons rfl (.cons rfl .nil))) (RVs.cons (Zj.2 rfl) (RVs.cons (Zj.2 rfl) (RVs.cons (Zj.2 rfl) RVs.nil))) rfl rfl fun rF w15 sF hs o15 tF hxt hfl => ?_)))));have hfr := hfr.stp hs;obtain ⟨l8, yE, h⟩ := Ga h;refine Ze .plain rfl (Zp (g := rF) (vs := [.int .i64 (10), sF]) en36 (.cons rfl (.cons rfl .nil)) (wk36 tF yE) fun uF pH yH hs hr => ?_);have hfr := hfr.ext hs;obtain ⟨aB, jH, rfl, o0, rfl⟩ := hr;refine Zn (.tuple #[aB, .int .i64 (l8.2)]) rfl rfl ?_;refine Zw aB (Zi rfl rfl) rfl ?_;refine Zw (.int .i64 (l8.2)) (Zi rfl rfl) rfl ?_;refine Zg aB rfl rfl ?_;refine Zg (.int .i64 (l8.2)) rfl rfl ?_;refine Zb (Zd (Zf (Za (Ze .plain rfl (Gl (g := uF) 3031 (xs := ([(5 : Int), (8 : Int)] : List Int)) (vs := [.int .i64 (5), .int .i64 (8)]) Try.underlying31 Try.sizeOf3 Try.zeroValue3 rfl rfl (.cons rfl (.cons rfl .nil)) (RVs.cons (Zj.2 rfl) (RVs.cons (Zj.2 rfl) RVs.nil)) rfl rfl fun vF zH xF hs o18 uC hxt hfl => ?_)))));have hfr := hfr.stp hs;have o0 := o0.stp hs;refine Ze .plain rfl (Gl (g := vF) 3032 (xs := ([(1 : Int), (2 : Int)] : List Int)) (vs := [.int .i64 (1), .int .i64 (2)]) Try.underlying31 Try.sizeOf3 Try.zeroValue3 rfl rfl (.cons rfl (.cons rfl .nil)) (RVs.cons (Zj.2 rfl) (RVs.cons (Zj.2 rfl) RVs.nil)) rfl rfl fun yF aI aG hs o19 bG hxt hfl => ?_);have hfr := hfr.stp hs;have o0 := o0.stp hs;have uC := uC.stp hs;refine Ze .plain rfl (Gl (g := yF) 3033 (xs := ([([(5 : Int), (8 : Int)] : List Int), ([(1 : Int), (2 : Int)] : List Int)] : List (List Int))) (vs := [xF, aG]) Try.underlying76 Try.sizeOf31 Try.zeroValue31 rfl rfl (.cons rfl (.cons rfl .nil)) (RVs.cons uC (RVs.cons bG RVs.nil)) rfl rfl fun cG bI vC hs o20 mB hxt hfl => ?_);have hfr := hfr.stp hs;have o0 := o0.stp hs;refine Ze .plain rfl (Gl (g := cG) 3034 (xs := ([(12 : Int), (3 : Int)] : List Int)) (vs := [.int .i64 (12), .int .i64 (3)]) Try.underlying31 Try.sizeOf3 Try.zeroValue3 rfl rfl (.cons rfl (.cons rfl .nil)) (RVs.cons (Zj.2 rfl) (RVs.cons (Zj.2 rfl) RVs.nil)) rfl rfl fun eG dI bD hs o21 yB hxt hfl => ?_);have hfr := hfr.stp hs;have o0 := o0.stp hs;have mB := mB.stp hs;refine Ze .plain rfl (Gl (g := eG) 3035 (xs := ([(6 : Int), (9 : Int)] : List Int)) (vs := [.int .i64 (6), .int .i64 (9)]) Try.underlying31 Try.sizeOf3 Try.zeroValue3 rfl rfl (.cons rfl (.cons rfl .nil)) (RVs.cons (Zj.2 rfl) (RVs.cons (Zj.2 rfl) RVs.nil)) rfl rfl fun lE iI cD hs o22 mE hxt hfl => ?_)
 have hfr := hfr.stp hs;have o0 := o0.stp hs;have mB := mB.stp hs;have yB := yB.stp hs;have oE : RV lE.m _ (⟨([([(5 : Int), (8 : Int)] : List Int), ([(1 : Int), (2 : Int)] : List Int)] : List (List Int)), ([(12 : Int), (3 : Int)] : List Int), ([(6 : Int), (9 : Int)] : List Int), (15 : Int)⟩ : PayTable) (.agg (Qd [[.slice none 0 0], [.slice none 0 0], [.slice none 0 0], [.int .i64 0]] [(0, vC), (1, bD), (2, cD), (3, .int .i64 (15))]).flatten.toArray) := Qj rfl (Te (RV.cells mB) (Te (RV.cells yB) (Te (RV.cells mE) (Qh (rfl)))));generalize zE : (Value.agg (Qd [[.slice none 0 0], [.slice none 0 0], [.slice none 0 0], [.int .i64 0]] [(0, vC), (1, bD), (2, cD), (3, .int .i64 (15))]).flatten.toArray) = rE at oE;refine Zw rE (zE ▸ Qu (vs := [(0, vC), (1, bD), (2, cD), (3, .int .i64 (15))]) [[.slice none 0 0], [.slice none 0 0], [.slice none 0 0], [.int .i64 0]] lay_98 rfl rfl (.cons rfl (.cons rfl (.cons rfl (.cons rfl .nil)))) ⟨⟨_, rfl, Qt mB⟩, ⟨⟨_, rfl, Qt yB⟩, ⟨⟨_, rfl, Qt mE⟩, ⟨⟨_, rfl, rfl⟩, trivial⟩⟩⟩⟩) rfl ?_;obtain ⟨t5, cF, h⟩ := Ga h;refine Ze .plain rfl (Zp (g := lE) (vs := [rE]) en37 (.cons rfl .nil) (wk37 oE cF) fun gG qH jI hs hr => ?_);have hfr := hfr.ext hs;have o0 := o0.ext hs;obtain ⟨nB, kH, rfl, oB, rfl⟩ := hr;refine Zn (.tuple #[nB, .int .i64 (t5.2)]) rfl rfl ?_;refine Zw nB (Zi rfl rfl) rfl ?_;refine Zw (.int .i64 (t5.2)) (Zi rfl rfl) rfl ?_;refine Ze .plain rfl (Ti (g := gG) 2008 (⟨0, 0, 0, 0⟩ : Qb) Try.zeroValue94 (fun m w => ⟨_, (Gv Zv (Gv Zv (Gv Zv Zv))), rfl⟩) fun iG kI jG hs b26 cb => ?_);have hfr := hfr.stp hs;have o0 := o0.stp hs;have oB := oB.stp hs;clear cb;refine Ze .plain rfl (Gm (g := iG) (v := nB) Try.sizeOf94 rfl b26 rfl oB fun vB lI hs b27 cb => ?_);clear cb;have hfr := hfr.stp hs;have o0 := o0.stp hs;refine Zg (.int .i64 (t5.2)) rfl rfl ?_;refine Zb (Zd ?_);obtain ⟨lB, hx, h⟩ := Ga h;refine Gp (fun e w => ∃ (g : Gh) , Fr gI wI g w ∧ e 0 = .bool (lB)) (fun Q' hQ => ?_) (fun sH mI hR => ?_)
 ·replace h := hx
  clear hx;refine Za (Zn (.int .i64 (l5.2.2.2)) rfl rfl ?_);refine Gg (.bool ((l5.2.2.2 == (0 : Int)))) rfl rfl rfl rfl ?_;refine Zn (.bool ((l5.2.2.2 == (0 : Int)))) rfl rfl ?_;rcases Zt h with ⟨n8, h⟩ | ⟨n8, h⟩
  ·refine Zx (.int .i64 (l8.2)) (Zk rfl) rfl rfl n8 rfl ?_
   refine Zx (.bool ((l8.2 == (0 : Int)))) (Gj rfl rfl rfl) rfl rfl n8 rfl ?_;refine Zw (.bool ((l8.2 == (0 : Int)))) (Zl (b := (l5.2.2.2 == (0 : Int))) rfl (Tg n8 rfl)) rfl ?_;refine Zn (.bool ((l8.2 == (0 : Int)))) rfl rfl ?_;rcases Zt h with ⟨l9, h⟩ | ⟨l9, h⟩
   ·refine Zx (.int .i64 (t5.2)) (Zk rfl) rfl rfl l9 rfl ?_
    refine Zx (.bool ((t5.2 == (0 : Int)))) (Gj rfl rfl rfl) rfl rfl l9 rfl ?_;refine Zw (.bool ((t5.2 == (0 : Int)))) (Zl (b := (l8.2 == (0 : Int))) rfl (Tg l9 rfl)) rfl ?_;refine Zn (.bool ((t5.2 == (0 : Int)))) rfl rfl ?_;rcases Zt h with ⟨n9, h⟩ | ⟨n9, h⟩
    ·refine Zx (.int .i64 (l5.2.2.1)) (Zk rfl) rfl rfl n9 rfl ?_
     refine Zx (.bool ((l5.2.2.1 == (1823 : Int)))) (Gj rfl rfl rfl) rfl rfl n9 rfl ?_;refine Zw (.bool ((l5.2.2.1 == (1823 : Int)))) (Zl (b := (t5.2 == (0 : Int))) rfl (Tg n9 rfl)) rfl ?_;refine Zn (.bool ((l5.2.2.1 == (1823 : Int)))) rfl rfl ?_;rcases Zt h with ⟨i6, h⟩ | ⟨i6, h⟩
     ·refine Zx aB (Zk rfl) rfl rfl i6 rfl ?_
      refine Ze (.yes2 rfl rfl i6) rfl (Gl (g := vB) 3056 (xs := ([(3 : Int), (3 : Int), (4 : Int)] : List Int)) (vs := [.int .i64 (3), .int .i64 (3), .int .i64 (4)]) Try.underlying31 Try.sizeOf3 Try.zeroValue3 rfl rfl (.cons rfl (.cons rfl (.cons rfl .nil))) (RVs.cons (Zj.2 rfl) (RVs.cons (Zj.2 rfl) (RVs.cons (Zj.2 rfl) RVs.nil))) rfl rfl fun kG nI lG hs o42 mG hxt hfl => ?_);have hfr := hfr.stp hs;have o0 := o0.stp hs;have b27 := b27.stp hs rfl;obtain ⟨y44, dF, h⟩ := Ga h;refine Ze (.yes2 rfl rfl i6) rfl (Zp (g := kG) (vs := [aB, lG]) en35 (.cons rfl (.cons rfl .nil)) (wk35 o0 mG dF) fun lD tH pI hs hr => ?_);have hfr := hfr.ext hs;have b27 := b27.ext hs;subst hr;refine Zw (.bool (y44)) (Zl (b := (l5.2.2.1 == (1823 : Int))) rfl (Tg i6 rfl)) rfl ?_;refine Zn (.bool (y44)) rfl rfl ?_;rcases Zt h with ⟨g8, h⟩ | ⟨g8, h⟩
      ·refine Zx (Gk jG 3) (Zc Lb rfl (OB.ptr b27)) rfl rfl g8 rfl ?_
       refine Ze (.yes2 rfl rfl g8) rfl (Wz (g := lD) Yi.1 Try.isAgg3 Try.sizeOf3 rfl b27 fun qI sG => ?_);obtain rfl := Zj.1 sG;refine Zx (.bool (((t5.1).Number == (7 : Int)))) (Gj rfl rfl rfl) rfl rfl g8 rfl ?_;refine Zw (.bool (((t5.1).Number == (7 : Int)))) (Zl (b := y44) rfl (Tg g8 rfl)) rfl ?_;refine Zg (.bool (((t5.1).Number == (7 : Int)))) rfl rfl ?_;refine Zb ?_;obtain rfl := sinj h;exact hQ _ _ ⟨lD, hfr, rfl⟩
      ·refine Zy rfl rfl g8 rfl rfl ?_
       refine Zy rfl rfl g8 rfl rfl ?_;refine Zy rfl rfl g8 rfl rfl ?_;refine Zw (.bool false) (Zl (b := y44) rfl (Tq g8 rfl)) rfl ?_;refine Zg (.bool false) rfl rfl ?_;refine Zb ?_;obtain rfl := sinj h;exact hQ _ _ ⟨lD, hfr, rfl⟩
     ·refine Zy rfl rfl i6 rfl rfl ?_
      refine Zy rfl rfl i6 rfl rfl ?_;refine Zy rfl rfl i6 rfl rfl ?_;refine Zw (.bool false) (Zl (b := (l5.2.2.1 == (1823 : Int))) rfl (Tq i6 rfl)) rfl ?_;refine Ko 5 rfl ?_;refine Zg (.bool false) rfl rfl ?_;refine Zb ?_;obtain rfl := sinj h;exact hQ _ _ ⟨vB, hfr, rfl⟩
    ·refine Zy rfl rfl n9 rfl rfl ?_
     refine Zy rfl rfl n9 rfl rfl ?_;refine Zw (.bool false) (Zl (b := (t5.2 == (0 : Int))) rfl (Tq n9 rfl)) rfl ?_;refine Ko 10 rfl ?_;refine Zg (.bool false) rfl rfl ?_;refine Zb ?_;obtain rfl := sinj h;exact hQ _ _ ⟨vB, hfr, rfl⟩
   ·refine Zy rfl rfl l9 rfl rfl ?_
    refine Zy rfl rfl l9 rfl rfl ?_;refine Zw (.bool false) (Zl (b := (l8.2 == (0 : Int))) rfl (Tq l9 rfl)) rfl ?_;refine Ko 14 rfl ?_;refine Zg (.bool false) rfl rfl ?_;refine Zb ?_;obtain rfl := sinj h;exact hQ _ _ ⟨vB, hfr, rfl⟩
  ·refine Zy rfl rfl n8 rfl rfl ?_
   refine Zy rfl rfl n8 rfl rfl ?_;refine Zw (.bool false) (Zl (b := (l5.2.2.2 == (0 : Int))) rfl (Tq n8 rfl)) rfl ?_;refine Ko 18 rfl ?_;refine Zg (.bool false) rfl rfl ?_;refine Zb ?_;obtain rfl := sinj h;exact hQ _ _ ⟨vB, hfr, rfl⟩
 ·clear hx
  obtain ⟨sI, hfr, nD⟩ := hR;refine Gq ?_;obtain rfl := sinj h;exact Qr rfl rfl (show _ = .bool (lB) from nD) ⟨_, hfr, rfl⟩
def f33 (x0 : ChainBelt) : Option ((List Int) × Int) :=
 (f51 x0).bind fun y4 =>
 jn (σ := (List Int)) (fun zE =>
  (f52 (y4.1) (([] : List (Int × Bool)))).bind fun lB =>
  Option.bind (α := (List Int)) (
   lp (σ := (List Int) × (List (Int × Bool)) × Int) (fun pH (l8, n9, o0) =>
    bif (decide (o0 < (((x0).Cards).length : Int))) then
     jn (σ := (List Int) × (List (Int × Bool))) (fun (bD, cD) =>
      pH (bD, cD, (w64 (o0 + (1 : Int))))
      ) fun vF =>
     jn (σ := (List (Int × Bool))) (fun nD =>
      (apnd 8 l8 (([o0] : List Int))).bind fun l9 =>
      bif ((w64 (((l9).length : Int) + lB)) == (((x0).Cards).length : Int)) then
       some (l9)
      else
       vF (l9, nD)
      ) fun qH =>
     (f52 (y4.1) ((Vw n9 o0 true))).bind fun xF =>
     bif (decide (xF < lB)) then
      vF (l8, (mdel ((Vw n9 o0 true)) o0))
     else
      qH ((Vw n9 o0 true))
    else
     some (l8)
    ) big (zE, ([] : List (Int × Bool)), (0 : Int))
   ) fun nB =>
  some (nB, (0 : Int))
  ) fun k8 =>
 bif (y4.2 != (0 : Int)) then
  some ([], y4.2)
 else
  k8 ([])
theorem en33 : Enters Try.prog 33 := enters_of Try.func33 (by kernel_rfl) rfl
theorem wk33 {gI : Gh} {wI : World} {x0 : ChainBelt} {up0 : Value} (rp0 : RV gI.m wI x0 up0) {r : (List Int) × Int} (h : f33 x0 = some r) : Fn Try.prog 33 #[up0] gI wI (fun m w v => ∃ y0 y1, v = .tuple #[y0, y1] ∧ RV m w (r.1) y0 ∧ y1 = .int .i64 (r.2)) := by
 unfold f33 at h;refine Gw Try.func33 rfl (Nat.le_of_ble_eq_true rfl) fun g0 hm hfr => ?_;have rp0 : RV g0.m wI x0 up0 := hm ▸ rp0;show E _ 49 none _ _ _ _ _;refine Zf (Za (Ze .plain rfl (Qs (g := g0) rfl rp0 fun g1 w1 p1 hs q1 => ?_)));have hfr := hfr.ext hs;refine Zg (.slice none 0 0) rfl rfl ?_;refine Zg (.int .i64 (0)) rfl rfl ?_;refine Zb (Zd (Zf (Za (Ze .plain rfl (Gf (g := g1) Try.isAgg27 Try.sizeOf27 rfl q1 fun v2 r2 => ?_)))));obtain ⟨y4, lI, h⟩ := Ga h;refine Ze .plain rfl (Zp (g := g1) (vs := [v2]) en51 (.cons rfl .nil) (wk51 r2 lI) fun g3 w3_ v3 hs hr => ?_);have hfr := hfr.ext hs;have q1 := q1.ext hs;obtain ⟨oE, vJ, rfl, rE, rfl⟩ := hr;refine Zn (.tuple #[oE, .int .i64 (y4.2)]) rfl rfl ?_;refine Zw oE (Zi rfl rfl) rfl ?_;refine Zw (.int .i64 (y4.2)) (Zi rfl rfl) rfl ?_;refine Ze .plain rfl (Ti (g := g3) 2004 (⟨⟨0, []⟩, 0⟩ : Gb) Try.zeroValue66 (fun m w => ⟨_, (Gv (Gv Zv Tr) Zv), rfl⟩) fun g5 w5 p5 hs b5 cb => ?_);have hfr := hfr.stp hs;have q1 := q1.stp hs;have rE := rE.stp hs;have xJ : OSF 2004 60401 1 g5 w5 60 66 ([] : List Gc) p5 := cb.osf (by rfl);clear cb;refine Ze .plain rfl (Gm (g := g5) (v := oE) Try.sizeOf66 rfl b5 rfl rE fun g6 w6 hs b6 cb => ?_);clear cb;have hfr := hfr.stp hs;have q1 := q1.stp hs;refine Zg (.int .i64 (y4.2)) rfl rfl ?_;refine Zb (Zd (Zq h (fun (s : (List Int)) e w => ∃ (g : Gh) (v2 : Value), Fr gI wI g w ∧ e 1 = p1 ∧ PT g.m w (x0 : ChainBelt) p1 ∧ e 2 = v2 ∧ RV g.m w (s : List Int) v2 ∧ OS 1002 g w 3 (s : List Int) v2 ∧ e 4 = p5 ∧ OB 2004 g w 66 (y4.1 : Gb) p5) (fun X8 k8 mI h => ?_) ?_))
 ·refine Zf (Za (Zn (.int .i64 (y4.2)) rfl rfl ?_))
  refine Gg (.bool ((y4.2 != (0 : Int)))) rfl rfl rfl rfl ?_;refine Zb (Zd ?_);rcases Zt h with ⟨hc9, h⟩ | ⟨hc9, h⟩
  ·refine Tn hc9 rfl ?_
   refine Zf (Za (Zn (.int .i64 (y4.2)) rfl rfl ?_));refine Zg (.slice none 0 0) rfl rfl ?_;refine Zg (.int .i64 (y4.2)) rfl rfl ?_;refine Zb (Zd (Gq (Tz ?_)));obtain rfl := sinj h;exact Bc rfl rfl (show _ = .slice none 0 0 from rfl) (show _ = .int .i64 (y4.2) from rfl) ⟨_, hfr, _, _, rfl, He, rfl⟩
  ·refine To hc9 rfl ?_
   exact Zu (Zd (mI ([]) _ _ ⟨g6, (.slice none 0 0), hfr, rfl, q1, rfl, He, OS.nil, rfl, b6⟩ h))
 ·rintro zE zJ qK ⟨nI, cH, hfr, cF, n8, gH, oB, vB, dF, aB⟩ h
  refine Zf (Za (Ze .plain rfl (Xu (g := nI) (Value.int .i64) Bool 8016 fun sH sK mB hs m11 => ?_)));have hfr := hfr.stp hs;have n8 := n8.stp hs;have oB := oB.stp hs;have vB := vB.stp hs rfl;have aB := aB.stp hs rfl;refine Zg mB rfl rfl ?_;refine Zb (Zd (Zf (Za (Ze .plain rfl (Tk (g := sH) Try.isAgg66 Try.sizeOf66 dF aB fun pI qI => ?_)))));refine Zn mB rfl rfl ?_;obtain ⟨lB, zH, h⟩ := Ga h;refine Ze .plain rfl (Zp (g := sH) (vs := [pI, mB]) en52 (.cons rfl (.cons rfl .nil)) (wk52 qI m11.r zH) fun tH aK tK hs hr => ?_);have hfr := hfr.ext hs;have n8 := n8.ext hs;have oB := oB.ext hs;have vB := vB.ext hs;have aB := aB.ext hs;have m11 := m11.ext hs;subst hr;refine Zg (.int .i64 (lB)) rfl rfl ?_;refine Zb (Zd ?_);obtain ⟨nB, hx, h⟩ := Ga h;refine Gp (fun e w => ∃ (g : Gh) (v2 : Value), Fr gI wI g w ∧ e 2 = v2 ∧ RV g.m w (nB : List Int) v2 ∧ OS 1002 g w 3 (nB : List Int) v2) (fun Q' hQ => ?_) (fun rJ bK hR => ?_)
  ·replace h := hx
   clear hx;refine Zf (Za (Zw (Gk p1 1) (Zc Wm cF (PT.ptr n8)) rfl ?_));have sI := Zm (Tc).1 n8;refine Ze .plain rfl (Gf (g := tH) Try.isAgg25 Try.sizeOf25 rfl sI fun uK jJ => ?_);refine Zw (.int .i64 (((x0).Cards).length : Int)) (Tu Try.underlying25 rfl jJ) rfl ?_;refine Zn (.int .i64 (0)) rfl rfl ?_;refine Zb (Zd (Zr ?_));refine Wv h (fun (s : (List Int) × (List (Int × Bool)) × Int) e w => ∃ (g : Gh) (v2 : Value), Fr gI wI g w ∧ e 1 = p1 ∧ PT g.m w (x0 : ChainBelt) p1 ∧ e 2 = v2 ∧ RV g.m w (s.1 : List Int) v2 ∧ OS 1002 g w 3 (s.1 : List Int) v2 ∧ e 4 = p5 ∧ OB 2004 g w 66 (y4.1 : Gb) p5 ∧ e 5 = mB ∧ MP (Value.int .i64) 8016 g w (s.2.1 : List (Int × Bool)) mB ∧ e 6 = .int .i64 (lB) ∧ e 22 = .int .i64 ((((x0).Cards).length : Int)) ∧ e 23 = .int .i64 (s.2.2)) ⟨tH, (cH), hfr, cF, n8, gH, oB, vB, dF, aB, rfl, m11, rfl, rfl, rfl⟩ (fun X62 pH aI => ?_);rintro ⟨l8, n9, o0⟩ cK vK ⟨uH, yB, hfr, eF, g8, oD, l5, t5, yD, i6, zB, jH, zD, lD, cC⟩ h;refine Zf (Za (Zw (.bool ((decide (o0 < (((x0).Cards).length : Int))))) (Gj cC lD rfl) rfl ?_));refine Zb (Zd (Zf ?_));rcases Zt h with ⟨uE, h⟩ | ⟨uE, h⟩
   ·refine Tn uE rfl ?_
    refine Zu (Zd (Zq h (fun (s : (List Int) × (List (Int × Bool))) e w => ∃ (g : Gh) (v2 : Value), Fr gI wI g w ∧ e 1 = p1 ∧ PT g.m w (x0 : ChainBelt) p1 ∧ e 2 = v2 ∧ RV g.m w (s.1 : List Int) v2 ∧ OS 1002 g w 3 (s.1 : List Int) v2 ∧ e 4 = p5 ∧ OB 2004 g w 66 (y4.1 : Gb) p5 ∧ e 5 = mB ∧ MP (Value.int .i64) 8016 g w (s.2 : List (Int × Bool)) mB ∧ e 6 = .int .i64 (lB) ∧ e 22 = .int .i64 ((((x0).Cards).length : Int)) ∧ e 23 = .int .i64 (o0)) (fun X85 vF yF h => ?_) ?_))
    ·refine Zr ?_
     refine Zf (Za (Zo cC rfl ?_));refine Zg (.int .i64 (o0)) rfl rfl ?_;refine Zb (Zd (Zf (Za (Zo zB rfl ?_))));refine Zn (.int .i64 (o0)) rfl rfl ?_;refine Ze .plain rfl (Vs (g := uH) Try.underlying110 Rs rfl jH rfl rfl (Kl.2 rfl) fun xH xK hs m86 => ?_);have hfr := hfr.stp hs;have g8 := g8.stp hs;have l5 := l5.stp hs;have t5 := t5.stp hs rfl;have i6 := i6.stp hs rfl;refine Zb (Zd (Zq h (fun (s : (List (Int × Bool))) e w => ∃ (g : Gh) , Fr gI wI g w ∧ e 1 = p1 ∧ PT g.m w (x0 : ChainBelt) p1 ∧ e 2 = yB ∧ RV g.m w (l8 : List Int) yB ∧ OS 1002 g w 3 (l8 : List Int) yB ∧ e 4 = p5 ∧ OB 2004 g w 66 (y4.1 : Gb) p5 ∧ e 5 = mB ∧ MP (Value.int .i64) 8016 g w (s : List (Int × Bool)) mB ∧ e 6 = .int .i64 (lB) ∧ e 7 = .int .i64 (o0) ∧ e 22 = .int .i64 ((((x0).Cards).length : Int)) ∧ e 23 = .int .i64 (o0)) (fun X92 qH bI h => ?_) ?_))
     ·refine Zf (Za (Ze .plain rfl (Tk (g := xH) Try.isAgg66 Try.sizeOf66 yD i6 fun kJ lJ => ?_)))
      refine Zo zB rfl ?_;obtain ⟨xF, dI, h⟩ := Ga h;refine Ze .plain rfl (Zp (g := xH) (vs := [kJ, mB]) en52 (.cons rfl (.cons rfl .nil)) (wk52 lJ m86.r dI) fun yH dK yK hs hr => ?_);have hfr := hfr.ext hs;have g8 := g8.ext hs;have l5 := l5.ext hs;have t5 := t5.ext hs;have i6 := i6.ext hs;have m86 := m86.ext hs;subst hr;refine Zo zD rfl ?_;refine Gg (.bool ((decide (xF < lB)))) rfl rfl rfl rfl ?_;refine Zb (Zd ?_);rcases Zt h with ⟨vE, h⟩ | ⟨vE, h⟩
      ·refine Tn vE rfl ?_
       refine Zf (Za (Zo zB rfl ?_));refine Zn (.int .i64 (o0)) rfl rfl ?_;refine Ze .plain rfl (Ed (g := yH) Try.underlying110 Rs rfl m86 rfl fun mJ zK hs m97 => ?_);have hfr := hfr.stp hs;have g8 := g8.stp hs;have l5 := l5.stp hs;have t5 := t5.stp hs rfl;have i6 := i6.stp hs rfl;refine Zb (Zd (Qc ?_));refine Tf ?_;refine Tl ?_;exact Zd (yF (l8, (mdel ((Vw n9 o0 true)) o0)) _ _ ⟨mJ, (yB), hfr, eF, g8, oD, l5, t5, yD, i6, zB, m97, zD, lD, cC⟩ h)
      ·refine To vE rfl ?_
       exact Zu (Zd (bI ((Vw n9 o0 true)) _ _ ⟨yH, hfr, eF, g8, oD, l5, t5, yD, i6, zB, m86, zD, rfl, lD, cC⟩ h))
     ·rintro nD lK aL ⟨nJ, hfr, rF, v8, kH, aE, bE, lH, uC, mH, vC, sF, nH, aG, bG⟩ h
      refine Zf (Za (Zo kH rfl ?_));refine Zo nH rfl ?_;refine Ze .plain rfl (Gl (g := nJ) 3037 (xs := ([o0] : List Int)) (vs := [.int .i64 (o0)]) Try.underlying31 Try.sizeOf3 Try.zeroValue3 rfl rfl (.cons rfl .nil) (RVs.cons (Zj.2 rfl) RVs.nil) rfl rfl fun oJ bL dL hs o99 pJ hxt hfl => ?_);have hfr := hfr.stp hs;have v8 := v8.stp hs;have aE := aE.stp hs;have bE := bE.stp hs rfl;have uC := uC.stp hs rfl;have vC := vC.stp hs rfl;obtain ⟨l9, oH, h⟩ := Ga h;refine Ze .plain rfl (Kg (g := oJ) (i := 1002) Try.underlying31 Hi rfl rfl bE aE rfl pJ oH fun xE mK iE hs o100 yE _ => ?_);have hfr := hfr.stp hs;have v8 := v8.stp hs;have uC := uC.stp hs rfl;have vC := vC.stp hs rfl;refine Zg iE rfl rfl ?_;refine Zb (Zd (Zf (Za (Zn iE rfl rfl ?_))));refine Zw (.int .i64 ((l9).length : Int)) (Tu Try.underlying31 rfl yE) rfl ?_;refine Zo sF rfl ?_;refine Gg (.int .i64 ((w64 (((l9).length : Int) + lB)))) rfl rfl rfl rfl ?_;refine Zw (Gk p1 1) (Zc Wm rF (PT.ptr v8)) rfl ?_;have iI := Zm (Tc).1 v8;refine Ze .plain rfl (Gf (g := xE) Try.isAgg25 Try.sizeOf25 rfl iI fun nK jI => ?_);refine Zw (.int .i64 (((x0).Cards).length : Int)) (Tu Try.underlying25 rfl jI) rfl ?_;refine Zw (.bool (((w64 (((l9).length : Int) + lB)) == (((x0).Cards).length : Int)))) (Gj rfl rfl rfl) rfl ?_;refine Zb (Zd ?_);rcases Zt h with ⟨lE, h⟩ | ⟨lE, h⟩
      ·refine Tn lE rfl ?_
       refine Qc ?_;refine Et rfl ?_;refine Tf ?_;refine Tf ?_;refine Tl ?_;obtain rfl := sinj h;exact hQ _ _ ⟨xE, (iE), hfr, rfl, yE, o100⟩
      ·refine To lE rfl ?_
       exact Zu (Ts (Zd (yF (l9, nD) _ _ ⟨xE, (iE), hfr, rF, v8, rfl, yE, o100, lH, uC, mH, vC, sF, aG, bG⟩ h)))
    ·rintro ⟨bD, cD⟩ sJ oK ⟨kI, cG, hfr, eG, gG, iG, jG, kG, lG, mG, sG, xG, yG, tF, uF⟩ h
     refine Za (Gg (.int .i64 ((w64 (o0 + (1 : Int))))) uF rfl rfl rfl ?_);refine Zn (.int .i64 ((w64 (o0 + (1 : Int))))) rfl rfl ?_;exact Zb (Zd (aI (bD, cD, (w64 (o0 + (1 : Int)))) _ _ ⟨kI, (cG), hfr, eG, gG, iG, jG, kG, lG, mG, sG, xG, yG, tF, rfl⟩ h))
   ·refine To uE rfl ?_
    refine Qc ?_;refine Tf ?_;refine Tf ?_;refine Tl ?_;obtain rfl := sinj h;exact hQ _ _ ⟨uH, (yB), hfr, oD, l5, t5⟩
  ·clear hx
   obtain ⟨pK, mE, hfr, zG, aH, qJ⟩ := hR;refine Zf (Za (Zo zG rfl ?_));refine Zg mE rfl rfl ?_;refine Zg (.int .i64 (0)) rfl rfl ?_;refine Zb (Zd (Gq ?_));obtain rfl := sinj h;exact Bc rfl rfl (show _ = mE from rfl) (show _ = .int .i64 (0) from rfl) ⟨_, hfr, _, _, rfl, aH, rfl⟩
noncomputable def f34 (x0 : ChainBelt) (x1 : List Int) (x2 : Int) : Option (Int × Int) :=
 (f53 x0 x1 x2).bind fun y4 =>
 Mm y4 fun q3 =>
 Option.bind (α := Int) (
  (q3.1).bind fun vB =>
  lp (σ := Int × (List (Gi × Int))) (fun k14 (o0, g8) =>
   bif g8.isEmpty then
    some (o0)
   else Lm g8 fun l5 rm16 =>
    k14 ((w64 (o0 + l5.2)), rm16)
   ) big ((0 : Int), vB)
  ) fun t5 =>
 some (t5, q3.2)
theorem en34 : Enters Try.prog 34 := enters_of Try.func34 (by kernel_rfl) rfl
theorem wk34 {gI : Gh} {wI : World} {x0 : ChainBelt} {x1 : List Int} {x2 : Int} {up0 : Value} (rp0 : RV gI.m wI x0 up0) {up1 : Value} (rp1 : RV gI.m wI x1 up1) {r : Int × Int} (h : f34 x0 x1 x2 = some r) : Fn Try.prog 34 #[up0, up1, .int .i64 (x2)] gI wI (fun m w v => ∃ y0 y1, v = .tuple #[y0, y1] ∧ y0 = .int .i64 (r.1) ∧ y1 = .int .i64 (r.2)) := by
 unfold f34 at h;refine Gw Try.func34 rfl (Nat.le_of_ble_eq_true rfl) fun g0 hm hfr => ?_;have rp0 : RV g0.m wI x0 up0 := hm ▸ rp0;have rp1 : RV g0.m wI x1 up1 := hm ▸ rp1;show E _ 29 none _ _ _ _ _;refine Zf (Za (Ze .plain rfl (Qs (g := g0) rfl rp0 fun g1 w1 p1 hs q1 => ?_)));have hfr := hfr.ext hs;have rp1 := rp1.ext hs;refine Zg (.int .i64 (0)) rfl rfl ?_;refine Zg (.int .i64 (0)) rfl rfl ?_;refine Zb (Zd (Zf (Za (Ze .plain rfl (Gf (g := g1) Try.isAgg27 Try.sizeOf27 rfl q1 fun v2 r2 => ?_)))));refine Zn up1 rfl rfl ?_;refine Zn (.int .i64 (x2)) rfl rfl ?_;obtain ⟨y4, uC, h⟩ := Ga h;refine Ze .plain rfl (Ra (g := g1) (vs := [v2, up1, .int .i64 (x2)]) en53 (.cons rfl (.cons rfl (.cons rfl .nil))) (wk53 (iO := 8015) r2 rp1 uC) fun g3 w3_ v3 hs hr => ?_);obtain ⟨q3, hqm, l8, lD, rfl, mB, rfl⟩ := hr;replace h := callL_h h _ hqm;clear hqm;have hfr := hfr.ext hs;refine Zn (.tuple #[l8, .int .i64 (q3.2)]) rfl rfl ?_;refine Zw l8 (Zi rfl rfl) rfl ?_;refine Zw (.int .i64 (q3.2)) (Zi rfl rfl) rfl ?_;refine Zg l8 rfl rfl ?_;refine Zg (.int .i64 (q3.2)) rfl rfl ?_;refine Zb (Zd ?_);obtain ⟨t5, hx, h⟩ := Ga h;refine Gp (fun e w => ∃ (g : Gh) , Fr gI wI g w ∧ e 6 = .int .i64 (t5) ∧ e 7 = .int .i64 (q3.2)) (fun Q' hQ => ?_) (fun nD yD hR => ?_)
 ·replace h := hx
  clear hx;refine Zf (Za (Zn l8 rfl rfl ?_));obtain ⟨vB, zB, h⟩ := Ga h;have mg12 := MO.get mB zB;refine Ze .plain rfl (Lx (g := g3) 7519 Try.underlying112 rfl mg12 fun vC zD yB hs b12 => ?_);have hfr := hfr.stp hs;refine Zb (Zd (Zr ?_));refine Wv h (fun (s : Int × (List (Gi × Int))) e w => ∃ (g : Gh) , Fr gI wI g w ∧ e 6 = .int .i64 (s.1) ∧ e 7 = .int .i64 (q3.2) ∧ e 19 = yB ∧ MI (Je Wj) 7519 8015 g w (s.2 : List (Gi × Int)) none yB) ⟨vC, hfr, rfl, rfl, rfl, b12.dropc⟩ (fun X14 k14 cC => ?_);rintro ⟨o0, g8⟩ oD w15 ⟨aB, hfr, l9, n9, i6, n8⟩ h;refine Zf (Za ?_);rcases Zt h with ⟨v8, h⟩ | ⟨v8, h⟩
  ·refine Ze .plain rfl (Fi (g := aB) i6 n8 v8 ?_)
   refine Zw (.bool false) (Zi rfl rfl) rfl ?_;refine Zb (Zd (Zf (Tj (by rw [show ev _ _ = _ from rfl]; exact congrArg Value.bool rfl) ?_)));refine Qc ?_;refine Tf ?_;refine Tf ?_;refine Tl ?_;obtain rfl := sinj h;exact hQ _ _ ⟨aB, hfr, l9, n9⟩
  ·refine Ze .plain rfl (Cz (g := aB) i6 n8 rfl v8 fun l5 rm16 u16 lB bD hmem hs b16 ru16 => ?_)
   replace h := Ny h _ hmem;clear hmem;obtain rfl := Zj.1 ru16;have hfr := hfr.stp hs;refine Zw (.bool true) (Zi rfl rfl) rfl ?_;refine Zb (Zd (Zf (Tv (by rw [show ev _ _ = _ from rfl]; exact congrArg Value.bool rfl) ?_)));refine Zu (Zd (Zr ?_));refine Zf (Za (Ze .plain rfl (Na (g := lB) i6 b16 fun aE cD => ?_)));have kr17 := Dr Wj lB.m bD l5.1;obtain rfl := Zj.1 cD;refine Zw (.int .i64 (l5.2)) (Zi rfl rfl) rfl ?_;refine Zg (.int .i64 (l5.2)) rfl rfl ?_;refine Zb (Zd (Za (Zo l9 rfl ?_)));refine Zn (.int .i64 (l5.2)) rfl rfl ?_;refine Gg (.int .i64 ((w64 (o0 + l5.2)))) rfl rfl rfl rfl ?_;refine Zg (.int .i64 ((w64 (o0 + l5.2)))) rfl rfl ?_;exact Zb (Ts (Zd (cC ((w64 (o0 + l5.2)), rm16) _ _ ⟨lB, hfr, rfl, n9, i6, b16.dropc⟩ h)))
 ·clear hx
  obtain ⟨bE, hfr, nB, oB⟩ := hR;refine Zf (Za (Zo nB rfl ?_));refine Zo oB rfl ?_;refine Zg (.int .i64 (t5)) rfl rfl ?_;refine Zg (.int .i64 (q3.2)) rfl rfl ?_;refine Zb (Zd (Gq ?_));obtain rfl := sinj h;exact Bc rfl rfl (show _ = .int .i64 (t5) from rfl) (show _ = .int .i64 (q3.2) from rfl) ⟨_, hfr, _, _, rfl, rfl, rfl⟩
noncomputable def f15  : Option (Bool) :=
 (f8 ((⟨(4 : Int), ([(⟨0, (1 : Int), false⟩ : Gc), (⟨(3 : Int), (8 : Int), false⟩ : Gc), (⟨(1 : Int), (2 : Int), false⟩ : Gc), (⟨(2 : Int), (4 : Int), false⟩ : Gc), (⟨(4 : Int), (15 : Int), false⟩ : Gc)] : List Gc)⟩ : ChainBelt))).bind fun cD =>
 (f7 cD ((0 : Int)) (([(1 : Int), (1 : Int), (0 : Int), (2 : Int)] : List Int))).bind fun t5 =>
 (f8 ((⟨(4 : Int), ([(⟨0, (1 : Int), false⟩ : Gc), (⟨(3 : Int), (8 : Int), false⟩ : Gc), (⟨(1 : Int), (2 : Int), false⟩ : Gc), (⟨(2 : Int), (4 : Int), false⟩ : Gc), (⟨(4 : Int), (15 : Int), false⟩ : Gc)] : List Gc)⟩ : ChainBelt))).bind fun lD =>
 (f33 lD).bind fun v8 =>
 (f8 ((⟨(4 : Int), ([(⟨0, (1 : Int), false⟩ : Gc), (⟨(3 : Int), (8 : Int), false⟩ : Gc), (⟨(1 : Int), (2 : Int), false⟩ : Gc), (⟨(2 : Int), (4 : Int), false⟩ : Gc), (⟨(4 : Int), (15 : Int), false⟩ : Gc)] : List Gc)⟩ : ChainBelt))).bind fun y23 =>
 (f34 y23 (([(8 : Int), (2 : Int), (2 : Int), (-1 : Int), (1 : Int)] : List Int)) ((2 : Int))).bind fun i6 =>
 Option.bind (α := Bool) (
  bif (t5.2.2 == (0 : Int)) then
   bif (v8.2 == (0 : Int)) then
    bif (i6.2 == (0 : Int)) then
     (f35 (t5.1) (([(1 : Int), (8 : Int), (2 : Int), (2 : Int)] : List Int))).bind fun y44 =>
     bif y44 then
      bif (t5.2.1 == (4 : Int)) then
       (f35 (v8.1) (([(1 : Int)] : List Int))).bind fun vB =>
       bif vB then
        some ((i6.1 == (2 : Int)))
       else
        some (false)
      else
       some (false)
     else
      some (false)
    else
     some (false)
   else
    some (false)
  else
   some (false)
  ) fun oB =>
 some (oB)
theorem en15 : Enters Try.prog 15 := enters_of Try.func15 (by kernel_rfl) rfl
theorem wk15 {gI : Gh} {wI : World}   {r : Bool} (h : f15  = some r) : Fn Try.prog 15 #[] gI wI (fun _ _ v => v = .bool (r)) := by
 unfold f15 at h;refine Gw Try.func15 rfl (Nat.le_of_ble_eq_true rfl) fun g0 hm hfr => ?_;show E _ 65 none _ _ _ _ _;refine Zf (Za (Zg (.bool false) rfl rfl ?_));refine Zb (Zd (Zf (Za ?_)));have r1 : RV g0.m wI (⟨0, (1 : Int), false⟩ : Gc) (.agg (Qd [[.int .i64 0], [.int .i64 0], [.bool false]] [(1, .int .i64 (1))]).flatten.toArray) := Qj rfl (Te (Zv) (Te (rfl) (Qh (Hp))));generalize hv1 : (Value.agg (Qd [[.int .i64 0], [.int .i64 0], [.bool false]] [(1, .int .i64 (1))]).flatten.toArray) = v1 at r1;refine Zw v1 (hv1 ▸ Qu (vs := [(1, .int .i64 (1))]) [[.int .i64 0], [.int .i64 0], [.bool false]] Bw rfl rfl (.cons rfl .nil) ⟨⟨_, rfl, rfl⟩, trivial⟩) rfl ?_;have r2 : RV g0.m wI (⟨(3 : Int), (8 : Int), false⟩ : Gc) (.agg (Qd [[.int .i64 0], [.int .i64 0], [.bool false]] [(0, .int .i64 (3)), (1, .int .i64 (8))]).flatten.toArray) := Qj rfl (Te (rfl) (Te (rfl) (Qh (Hp))));generalize hv2 : (Value.agg (Qd [[.int .i64 0], [.int .i64 0], [.bool false]] [(0, .int .i64 (3)), (1, .int .i64 (8))]).flatten.toArray) = v2 at r2;refine Zw v2 (hv2 ▸ Qu (vs := [(0, .int .i64 (3)), (1, .int .i64 (8))]) [[.int .i64 0], [.int .i64 0], [.bool false]] Bw rfl rfl (.cons rfl (.cons rfl .nil)) ⟨⟨_, rfl, rfl⟩, ⟨⟨_, rfl, rfl⟩, trivial⟩⟩) rfl ?_;have r3 : RV g0.m wI (⟨(1 : Int), (2 : Int), false⟩ : Gc) (.agg (Qd [[.int .i64 0], [.int .i64 0], [.bool false]] [(0, .int .i64 (1)), (1, .int .i64 (2))]).flatten.toArray) := Qj rfl (Te (rfl) (Te (rfl) (Qh (Hp))));generalize hv3 : (Value.agg (Qd [[.int .i64 0], [.int .i64 0], [.bool false]] [(0, .int .i64 (1)), (1, .int .i64 (2))]).flatten.toArray) = v3 at r3;refine Zw v3 (hv3 ▸ Qu (vs := [(0, .int .i64 (1)), (1, .int .i64 (2))]) [[.int .i64 0], [.int .i64 0], [.bool false]] Bw rfl rfl (.cons rfl (.cons rfl .nil)) ⟨⟨_, rfl, rfl⟩, ⟨⟨_, rfl, rfl⟩, trivial⟩⟩) rfl ?_;have r4 : RV g0.m wI (⟨(2 : Int), (4 : Int), false⟩ : Gc) (.agg (Qd [[.int .i64 0], [.int .i64 0], [.bool false]] [(0, .int .i64 (2)), (1, .int .i64 (4))]).flatten.toArray) := Qj rfl (Te (rfl) (Te (rfl) (Qh (Hp))));generalize uE : (Value.agg (Qd [[.int .i64 0], [.int .i64 0], [.bool false]] [(0, .int .i64 (2)), (1, .int .i64 (4))]).flatten.toArray) = v4 at r4;refine Zw v4 (uE ▸ Qu (vs := [(0, .int .i64 (2)), (1, .int .i64 (4))]) [[.int .i64 0], [.int .i64 0], [.bool false]] Bw rfl rfl (.cons rfl (.cons rfl .nil)) ⟨⟨_, rfl, rfl⟩, ⟨⟨_, rfl, rfl⟩, trivial⟩⟩) rfl ?_;have r5 : RV g0.m wI (⟨(4 : Int), (15 : Int), false⟩ : Gc) (.agg (Qd [[.int .i64 0], [.int .i64 0], [.bool false]] [(0, .int .i64 (4)), (1, .int .i64 (15))]).flatten.toArray) := Qj rfl (Te (rfl) (Te (rfl) (Qh (Hp))));generalize vE : (Value.agg (Qd [[.int .i64 0], [.int .i64 0], [.bool false]] [(0, .int .i64 (4)), (1, .int .i64 (15))]).flatten.toArray) = v5 at r5;refine Zw v5 (vE ▸ Qu (vs := [(0, .int .i64 (4)), (1, .int .i64 (15))]) [[.int .i64 0], [.int .i64 0], [.bool false]] Bw rfl rfl (.cons rfl (.cons rfl .nil)) ⟨⟨_, rfl, rfl⟩, ⟨⟨_, rfl, rfl⟩, trivial⟩⟩) rfl ?_;refine Ze .plain rfl (Gl (g := g0) 3014 (xs := ([(⟨0, (1 : Int), false⟩ : Gc), (⟨(3 : Int), (8 : Int), false⟩ : Gc), (⟨(1 : Int), (2 : Int), false⟩ : Gc), (⟨(2 : Int), (4 : Int), false⟩ : Gc), (⟨(4 : Int), (15 : Int), false⟩ : Gc)] : List Gc)) (vs := [v1, v2, v3, v4, v5]) Try.underlying25 Try.sizeOf60 Try.zeroValue60 rfl rfl (.cons rfl (.cons rfl (.cons rfl (.cons rfl (.cons rfl .nil))))) (RVs.cons r1 (RVs.cons r2 (RVs.cons r3 (RVs.cons r4 (RVs.cons r5 RVs.nil))))) rfl rfl fun g6 w6 v6 hs o6 r6 hxt hfl => ?_);have hfr := hfr.stp hs;have r7 : RV g6.m _ (⟨(4 : Int), ([(⟨0, (1 : Int), false⟩ : Gc), (⟨(3 : Int), (8 : Int), false⟩ : Gc), (⟨(1 : Int), (2 : Int), false⟩ : Gc), (⟨(2 : Int), (4 : Int), false⟩ : Gc), (⟨(4 : Int), (15 : Int), false⟩ : Gc)] : List Gc)⟩ : ChainBelt) (.agg (Qd [[.int .i64 0], [.slice none 0 0]] [(0, .int .i64 (4)), (1, v6)]).flatten.toArray) := Qj rfl (Te (rfl) (Qh (RV.cells r6)));generalize nD : (Value.agg (Qd [[.int .i64 0], [.slice none 0 0]] [(0, .int .i64 (4)), (1, v6)]).flatten.toArray) = v7 at r7;refine Zw v7 (nD ▸ Qu (vs := [(0, .int .i64 (4)), (1, v6)]) [[.int .i64 0], [.slice none 0 0]] lay_27 rfl rfl (.cons rfl (.cons rfl .nil)) ⟨⟨_, rfl, rfl⟩, ⟨⟨_, rfl, Qt r6⟩, trivial⟩⟩) rfl ?_
 refine Ze .plain rfl (Ti (g := g6) 2001 (⟨0, []⟩ : ChainBelt) Try.zeroValue27 (fun m w => ⟨_, (Gv Zv Tr), rfl⟩) fun g8 w8 p8 hs b8 cb => ?_);have hfr := hfr.stp hs;have r6 := r6.stp hs;have o6 := o6.stp hs rfl;have r7 := r7.stp hs;have lH : OSF 2001 60101 1 g8 w8 60 27 ([] : List Gc) p8 := cb.osf (by rfl);clear cb;refine Ze .plain rfl (Gm (g := g8) (v := v7) Try.sizeOf27 rfl b8 rfl r7 fun g9 w9 hs b9 cb => ?_);obtain ⟨yG, zG, zB, _, _⟩ := Km r6;have mH : OSF 2001 3014 1 g9 w9 60 27 (([(⟨0, (1 : Int), false⟩ : Gc), (⟨(3 : Int), (8 : Int), false⟩ : Gc), (⟨(1 : Int), (2 : Int), false⟩ : Gc), (⟨(2 : Int), (4 : Int), false⟩ : Gc), (⟨(4 : Int), (15 : Int), false⟩ : Gc)] : List Gc) : List Gc) p8 := cb.osfv (by rw [← nD, zB]; rfl) (o6.stp hs rfl);clear cb;have hfr := hfr.stp hs;refine Zb (Zd (Zf (Za (Ze .plain rfl (Tk (g := g9) Try.isAgg27 Try.sizeOf27 rfl b9 fun xE yE => ?_)))));obtain ⟨cD, aE, h⟩ := Ga h;refine Ze .plain rfl (Zp (g := g9) (vs := [xE]) en8 (.cons rfl .nil) (wk8 yE aE) fun zE nH cF hs hr => ?_);have hfr := hfr.ext hs;have b9 := b9.ext hs;have cC := hr;refine Ze .plain rfl (Gl (g := zE) 3019 (xs := ([(1 : Int), (1 : Int), (0 : Int), (2 : Int)] : List Int)) (vs := [.int .i64 (1), .int .i64 (1), .int .i64 (0), .int .i64 (2)]) Try.underlying31 Try.sizeOf3 Try.zeroValue3 rfl rfl (.cons rfl (.cons rfl (.cons rfl (.cons rfl .nil)))) (RVs.cons (Zj.2 rfl) (RVs.cons (Zj.2 rfl) (RVs.cons (Zj.2 rfl) (RVs.cons (Zj.2 rfl) RVs.nil)))) rfl rfl fun dF zH eF hs o13 rF hxt hfl => ?_);have hfr := hfr.stp hs;have b9 := b9.stp hs rfl;have cC := cC.stp hs;obtain ⟨t5, bE, h⟩ := Ga h;refine Ze .plain rfl (Zp (g := dF) (vs := [cF, .int .i64 (0), eF]) en7 (.cons rfl (.cons rfl (.cons rfl .nil))) (wk7 cC rF bE) fun oD oH aI hs hr => ?_);have hfr := hfr.ext hs;have b9 := b9.ext hs;obtain ⟨mB, aH, cH, rfl, o0, rfl, rfl⟩ := hr;refine Zn (.tuple #[mB, .int .i64 (t5.2.1), .int .i64 (t5.2.2)]) rfl rfl ?_;refine Zw mB (Zi rfl rfl) rfl ?_;refine Zw (.int .i64 (t5.2.1)) (Zi rfl rfl) rfl ?_;refine Zw (.int .i64 (t5.2.2)) (Zi rfl rfl) rfl ?_;refine Zg mB rfl rfl ?_;refine Zg (.int .i64 (t5.2.1)) rfl rfl ?_;refine Zg (.int .i64 (t5.2.2)) rfl rfl ?_;refine Zb (Zd (Zf (Za (Ze .plain rfl (Tk (g := oD) Try.isAgg27 Try.sizeOf27 rfl b9 fun sF tF => ?_)))));obtain ⟨lD, iE, h⟩ := Ga h;refine Ze .plain rfl (Zp (g := oD) (vs := [sF]) en8 (.cons rfl .nil) (wk8 tF iE) fun uF pH vF hs hr => ?_);have hfr := hfr.ext hs;have b9 := b9.ext hs;have o0 := o0.ext hs;have xF := hr;obtain ⟨v8, hy20, h⟩ := Ga h;refine Ze .plain rfl (Zp (g := uF) (vs := [vF]) en33 (.cons rfl .nil) (wk33 xF hy20) fun yD qH bI hs hr => ?_);have hfr := hfr.ext hs;have b9 := b9.ext hs;have o0 := o0.ext hs;obtain ⟨nB, gH, rfl, l5, rfl⟩ := hr;refine Zn (.tuple #[nB, .int .i64 (v8.2)]) rfl rfl ?_;refine Zw nB (Zi rfl rfl) rfl ?_;refine Zw (.int .i64 (v8.2)) (Zi rfl rfl) rfl ?_;refine Zg nB rfl rfl ?_;refine Zg (.int .i64 (v8.2)) rfl rfl ?_;refine Zb (Zd (Zf (Za (Ze .plain rfl (Tk (g := yD) Try.isAgg27 Try.sizeOf27 rfl b9 fun yF aG => ?_)))));obtain ⟨y23, lE, h⟩ := Ga h;refine Ze .plain rfl (Zp (g := yD) (vs := [yF]) en8 (.cons rfl .nil) (wk8 aG lE) fun bG sH cG hs hr => ?_);have hfr := hfr.ext hs;have o0 := o0.ext hs;have l5 := l5.ext hs;have uC := hr;refine Ze .plain rfl (Gl (g := bG) 3033 (xs := ([(8 : Int), (2 : Int), (2 : Int), (-1 : Int), (1 : Int)] : List Int)) (vs := [.int .i64 (8), .int .i64 (2), .int .i64 (2), .int .i64 (-1), .int .i64 (1)]) Try.underlying31 Try.sizeOf3 Try.zeroValue3 rfl rfl (.cons rfl (.cons rfl (.cons rfl (.cons rfl (.cons rfl .nil))))) (RVs.cons (Zj.2 rfl) (RVs.cons (Zj.2 rfl) (RVs.cons (Zj.2 rfl) (RVs.cons (Zj.2 rfl) (RVs.cons (Zj.2 rfl) RVs.nil))))) rfl rfl fun eG dI gG hs o24 iG hxt hfl => ?_);have hfr := hfr.stp hs;have o0 := o0.stp hs;have l5 := l5.stp hs;have uC := uC.stp hs;obtain ⟨i6, mE, h⟩ := Ga h;refine Ze .plain rfl (Zp (g := eG) (vs := [cG, gG, .int .i64 (2)]) en34 (.cons rfl (.cons rfl (.cons rfl .nil))) (wk34 uC iG mE) fun yB tH iI hs hr => ?_);have hfr := hfr.ext hs
 have o0 := o0.ext hs;have l5 := l5.ext hs;obtain ⟨jH, kH, rfl, rfl, rfl⟩ := hr;refine Zn (.tuple #[.int .i64 (i6.1), .int .i64 (i6.2)]) rfl rfl ?_;refine Zw (.int .i64 (i6.1)) (Zi rfl rfl) rfl ?_;refine Zw (.int .i64 (i6.2)) (Zi rfl rfl) rfl ?_;refine Zg (.int .i64 (i6.1)) rfl rfl ?_;refine Zg (.int .i64 (i6.2)) rfl rfl ?_;refine Zb (Zd ?_);obtain ⟨oB, hx, h⟩ := Ga h;refine Gp (fun e w => ∃ (g : Gh) , Fr gI wI g w ∧ e 0 = .bool (oB)) (fun Q' hQ => ?_) (fun uH jI hR => ?_)
 ·replace h := hx
  clear hx;refine Za (Zn (.int .i64 (t5.2.2)) rfl rfl ?_);refine Gg (.bool ((t5.2.2 == (0 : Int)))) rfl rfl rfl rfl ?_;refine Zn (.bool ((t5.2.2 == (0 : Int)))) rfl rfl ?_;rcases Zt h with ⟨l9, h⟩ | ⟨l9, h⟩
  ·refine Zx (.int .i64 (v8.2)) (Zk rfl) rfl rfl l9 rfl ?_
   refine Zx (.bool ((v8.2 == (0 : Int)))) (Gj rfl rfl rfl) rfl rfl l9 rfl ?_;refine Zw (.bool ((v8.2 == (0 : Int)))) (Zl (b := (t5.2.2 == (0 : Int))) rfl (Tg l9 rfl)) rfl ?_;refine Zn (.bool ((v8.2 == (0 : Int)))) rfl rfl ?_;rcases Zt h with ⟨n9, h⟩ | ⟨n9, h⟩
   ·refine Zx (.int .i64 (i6.2)) (Zk rfl) rfl rfl n9 rfl ?_
    refine Zx (.bool ((i6.2 == (0 : Int)))) (Gj rfl rfl rfl) rfl rfl n9 rfl ?_;refine Zw (.bool ((i6.2 == (0 : Int)))) (Zl (b := (v8.2 == (0 : Int))) rfl (Tg n9 rfl)) rfl ?_;refine Zn (.bool ((i6.2 == (0 : Int)))) rfl rfl ?_;rcases Zt h with ⟨l8, h⟩ | ⟨l8, h⟩
    ·refine Zx mB (Zk rfl) rfl rfl l8 rfl ?_
     refine Ze (.yes2 rfl rfl l8) rfl (Gl (g := yB) 3049 (xs := ([(1 : Int), (8 : Int), (2 : Int), (2 : Int)] : List Int)) (vs := [.int .i64 (1), .int .i64 (8), .int .i64 (2), .int .i64 (2)]) Try.underlying31 Try.sizeOf3 Try.zeroValue3 rfl rfl (.cons rfl (.cons rfl (.cons rfl (.cons rfl .nil)))) (RVs.cons (Zj.2 rfl) (RVs.cons (Zj.2 rfl) (RVs.cons (Zj.2 rfl) (RVs.cons (Zj.2 rfl) RVs.nil)))) rfl rfl fun jG kI kG hs o42 lG hxt hfl => ?_);have hfr := hfr.stp hs;have o0 := o0.stp hs;have l5 := l5.stp hs;obtain ⟨y44, oE, h⟩ := Ga h;refine Ze (.yes2 rfl rfl l8) rfl (Zp (g := jG) (vs := [mB, kG]) en35 (.cons rfl (.cons rfl .nil)) (wk35 o0 lG oE) fun vC xH lI hs hr => ?_);have hfr := hfr.ext hs;have l5 := l5.ext hs;subst hr;refine Zw (.bool (y44)) (Zl (b := (i6.2 == (0 : Int))) rfl (Tg l8 rfl)) rfl ?_;refine Zn (.bool (y44)) rfl rfl ?_;rcases Zt h with ⟨aB, h⟩ | ⟨aB, h⟩
     ·refine Zx (.int .i64 (t5.2.1)) (Zk rfl) rfl rfl aB rfl ?_
      refine Zx (.bool ((t5.2.1 == (4 : Int)))) (Gj rfl rfl rfl) rfl rfl aB rfl ?_;refine Zw (.bool ((t5.2.1 == (4 : Int)))) (Zl (b := y44) rfl (Tg aB rfl)) rfl ?_;refine Zn (.bool ((t5.2.1 == (4 : Int)))) rfl rfl ?_;rcases Zt h with ⟨n8, h⟩ | ⟨n8, h⟩
      ·refine Zx nB (Zk rfl) rfl rfl n8 rfl ?_
       refine Ze (.yes2 rfl rfl n8) rfl (Gl (g := vC) 3058 (xs := ([(1 : Int)] : List Int)) (vs := [.int .i64 (1)]) Try.underlying31 Try.sizeOf3 Try.zeroValue3 rfl rfl (.cons rfl .nil) (RVs.cons (Zj.2 rfl) RVs.nil) rfl rfl fun mG mI sG hs o47 xG hxt hfl => ?_);have hfr := hfr.stp hs;have l5 := l5.stp hs;obtain ⟨vB, rE, h⟩ := Ga h;refine Ze (.yes2 rfl rfl n8) rfl (Zp (g := mG) (vs := [nB, sG]) en35 (.cons rfl (.cons rfl .nil)) (wk35 l5 xG rE) fun zD yH nI hs hr => ?_);have hfr := hfr.ext hs;subst hr;refine Zw (.bool (vB)) (Zl (b := (t5.2.1 == (4 : Int))) rfl (Tg n8 rfl)) rfl ?_;refine Zn (.bool (vB)) rfl rfl ?_;rcases Zt h with ⟨lB, h⟩ | ⟨lB, h⟩
       ·refine Zx (.int .i64 (i6.1)) (Zk rfl) rfl rfl lB rfl ?_
        refine Zx (.bool ((i6.1 == (2 : Int)))) (Gj rfl rfl rfl) rfl rfl lB rfl ?_;refine Zw (.bool ((i6.1 == (2 : Int)))) (Zl (b := vB) rfl (Tg lB rfl)) rfl ?_;refine Zg (.bool ((i6.1 == (2 : Int)))) rfl rfl ?_;refine Zb ?_;obtain rfl := sinj h;exact hQ _ _ ⟨zD, hfr, rfl⟩
       ·refine Zy rfl rfl lB rfl rfl ?_
        refine Zy rfl rfl lB rfl rfl ?_;refine Zw (.bool false) (Zl (b := vB) rfl (Tq lB rfl)) rfl ?_;refine Zg (.bool false) rfl rfl ?_;refine Zb ?_;obtain rfl := sinj h;exact hQ _ _ ⟨zD, hfr, rfl⟩
      ·refine Zy rfl rfl n8 rfl rfl ?_
       refine Zy rfl rfl n8 rfl rfl ?_;refine Zy rfl rfl n8 rfl rfl ?_;refine Zw (.bool false) (Zl (b := (t5.2.1 == (4 : Int))) rfl (Tq n8 rfl)) rfl ?_;refine Ko 4 rfl ?_;refine Zg (.bool false) rfl rfl ?_;refine Zb ?_;obtain rfl := sinj h;exact hQ _ _ ⟨vC, hfr, rfl⟩
     ·refine Zy rfl rfl aB rfl rfl ?_
      refine Zy rfl rfl aB rfl rfl ?_;refine Zw (.bool false) (Zl (b := y44) rfl (Tq aB rfl)) rfl ?_;refine Ko 9 rfl ?_;refine Zg (.bool false) rfl rfl ?_;refine Zb ?_;obtain rfl := sinj h;exact hQ _ _ ⟨vC, hfr, rfl⟩
    ·refine Zy rfl rfl l8 rfl rfl ?_
     refine Zy rfl rfl l8 rfl rfl ?_;refine Zy rfl rfl l8 rfl rfl ?_;refine Zw (.bool false) (Zl (b := (i6.2 == (0 : Int))) rfl (Tq l8 rfl)) rfl ?_;refine Ko 13 rfl ?_;refine Zg (.bool false) rfl rfl ?_;refine Zb ?_;obtain rfl := sinj h;exact hQ _ _ ⟨yB, hfr, rfl⟩
   ·refine Zy rfl rfl n9 rfl rfl ?_
    refine Zy rfl rfl n9 rfl rfl ?_;refine Zw (.bool false) (Zl (b := (v8.2 == (0 : Int))) rfl (Tq n9 rfl)) rfl ?_;refine Ko 18 rfl ?_;refine Zg (.bool false) rfl rfl ?_;refine Zb ?_;obtain rfl := sinj h;exact hQ _ _ ⟨yB, hfr, rfl⟩
  ·refine Zy rfl rfl l9 rfl rfl ?_
   refine Zy rfl rfl l9 rfl rfl ?_;refine Zw (.bool false) (Zl (b := (t5.2.2 == (0 : Int))) rfl (Tq l9 rfl)) rfl ?_;refine Ko 22 rfl ?_;refine Zg (.bool false) rfl rfl ?_;refine Zb ?_;obtain rfl := sinj h;exact hQ _ _ ⟨yB, hfr, rfl⟩
 ·clear hx
  obtain ⟨pI, hfr, bD⟩ := hR;refine Gq ?_;obtain rfl := sinj h;exact Qr rfl rfl (show _ = .bool (oB) from bD) ⟨_, hfr, rfl⟩
noncomputable def f3 (x0 : List UInt16) (x1 : List UInt8) (x2 : Vector UInt8 4) : Option (Bool) :=
 (f5 ((1 : UInt8)) x0).bind fun y3 =>
 (f4 y3).bind fun y5 =>
 (f6 x2).bind fun oD =>
 Option.bind (α := Int × (List Int)) (
  lp (σ := Int × (List Int) × Int) (fun nR (cC, zB, g8) =>
   jn (σ := Unit) (fun _ =>
    Option.bind (α := Int × (List Int)) (
     Option.bind (α := Int × Int) (
      (idx x1 g8).bind fun qN =>
      (Ew qN (4 : UInt8)).bind fun y125 =>
      bif (y125 == (0 : UInt8)) then
       (idx x1 g8).bind fun xJ =>
       (Xz ((xJ).toNat : Int) (4 : Int)).bind fun y130 =>
       (Yl y130 (2 : Int)).bind fun yG =>
       some ((w64 (cC + (1 : Int))), (w64 (yG * (2 : Int))))
      else
       some (cC, (1 : Int))
      ) fun (cG, zD) =>
     (apnd 8 zB (([zD] : List Int))).bind fun y135 =>
     some (cG, y135)
     ) fun (dF, aE) =>
    nR (dF, aE, (w64 (g8 + (1 : Int))))
    ) fun k82 =>
   Option.bind (α := Bool) (
    bif (decide (g8 < ((x1).length : Int))) then
     some ((decide (g8 < (20 : Int))))
    else
     some (false)
    ) fun uE =>
   bif uE then
    k82 ()
   else
    some (cC, zB)
   ) big ((0 : Int), ([] : List Int), (0 : Int))
  ) fun (t5, vB) =>
 jn (σ := Unit) (fun _ =>
  (f8 (y5.1)).bind fun y158 =>
  (idx (x2).toList (0 : Int)).bind fun y159 =>
  (Yl ((y159).toNat : Int) (((y5.1).Cards).length : Int)).bind fun sH =>
  (f9 vB).bind fun eG =>
  (f7 y158 sH eG).bind fun y168 =>
  (f8 (y5.1)).bind fun rN =>
  (f9 ((y168.1 : List Int))).bind fun sN =>
  (f10 rN sN).bind fun i6 =>
  jn (σ := Unit) (fun _ =>
   (f12 oD).bind fun gG =>
   (f11 gG ((⟨0, (50 : Int), (3000 : Int), [], t5⟩ : Th))).bind fun y227 =>
   (f12 oD).bind fun iG =>
   (f14 (i6.2.2.1) t5).bind fun jG =>
   (f13 iG ((⟨0, (50 : Int), (3000 : Int), [], t5⟩ : Th)) jG).bind fun l5 =>
   (f12 oD).bind fun kG =>
   (f11 kG ((⟨0, (50 : Int), (3000 : Int), [], i6.2.2.1⟩ : Th))).bind fun o0 =>
   Option.bind (α := Bool) (
    bif (y227.2.2.2 == (0 : Int)) then
     bif (l5.2 == (0 : Int)) then
      bif (o0.2.2.2 == (0 : Int)) then
       bif (decide (o0.2.2.1 ≥ y227.2.2.1)) then
        (f14 (y227.2.2.1) (o0.2.2.1)).bind fun l9 =>
        bif (decide ((l5.1 : Kb) = l9)) then
         (f15).bind fun vC =>
         bif vC then
          (f16).bind fun lG =>
          some (lG)
         else
          some (false)
        else
         some (false)
       else
        some (false)
      else
       some (false)
     else
      some (false)
    else
     some (false)
    ) fun eF =>
   some (eF)
   ) fun tN =>
  Option.bind (α := Bool) (
   bif (y168.2.2 != (0 : Int)) then
    some (true)
   else
    bif (i6.2.2.2 != (0 : Int)) then
     some (true)
    else
     bif (decide (i6.2.2.1 < (0 : Int))) then
      some (true)
     else
      some ((decide (i6.2.2.1 > t5)))
   ) fun lD =>
  bif lD then
   some (false)
  else
   tN ()
  ) fun uN =>
 Option.bind (α := Bool) (
  bif (y5.2 != (0 : Int)) then
   some (true)
  else
   some (((((y5.1).Cards).length : Int) == (0 : Int)))
  ) fun bE =>
 bif bE then
  some (false)
 else
  uN ()
theorem wk3 {gI : Gh} {wI : World} {x0 : List UInt16} {x1 : List UInt8} {x2 : Vector UInt8 4} {up0 : Value} (rp0 : RV gI.m wI x0 up0) {up1 : Value} (rp1 : RV gI.m wI x1 up1) {up2 : Value} (rp2 : RV gI.m wI x2 up2) {r : Bool} (h : f3 x0 x1 x2 = some r) : Fn Try.prog 3 #[up0, up1, up2] gI wI (fun _ _ v => v = .bool (r)) := by
 unfold f3 at h;refine Gw Try.func3 rfl (Nat.le_of_ble_eq_true rfl) fun g0 hm hfr => ?_;have rp0 : RV g0.m wI x0 up0 := hm ▸ rp0;have rp1 : RV g0.m wI x1 up1 := hm ▸ rp1;have rp2 : RV g0.m wI x2 up2 := hm ▸ rp2;show E _ 180 none _ _ _ _ _;refine Zf (Za (Ze .plain rfl (Qs (g := g0) rfl rp2 fun g1 w1 p1 hs q1 => ?_)));have hfr := hfr.ext hs;have rp0 := rp0.ext hs;have rp1 := rp1.ext hs;refine Zg (.bool false) rfl rfl ?_;refine Zb (Zd (Zf (Za (Zn up0 rfl rfl ?_))));obtain ⟨y3, hy3, h⟩ := Ga h;refine Ze .plain rfl (Zp (g := g1) (vs := [.int .u8 (UInt8.toNat 1), up0]) en5 (.cons rfl (.cons rfl .nil)) (wk5 rp0 hy3) fun g2 w2_ v2 hs hr => ?_);have hfr := hfr.ext hs;have rp1 := rp1.ext hs;have q1 := q1.ext hs;have r2 := hr;obtain ⟨y5, hy5, h⟩ := Ga h;refine Ze .plain rfl (Zp (g := g2) (vs := [v2]) en4 (.cons rfl .nil) (wk4 r2 hy5) fun g4 w4_ v4 hs hr => ?_);have hfr := hfr.ext hs;have rp1 := rp1.ext hs;have q1 := q1.ext hs;obtain ⟨zJ, rV, rfl, aK, rfl⟩ := hr;refine Zn (.tuple #[zJ, .int .i64 (y5.2)]) rfl rfl ?_;refine Zw zJ (Zi rfl rfl) rfl ?_;refine Zw (.int .i64 (y5.2)) (Zi rfl rfl) rfl ?_;refine Ze .plain rfl (Ti (g := g4) 2007 (⟨0, []⟩ : ChainBelt) Try.zeroValue27 (fun m w => ⟨_, (Gv Zv Tr), rfl⟩) fun g6 w6 p6 hs b6 cb => ?_);have hfr := hfr.stp hs;have rp1 := rp1.stp hs;have q1 := q1.stp hs;have aK := aK.stp hs;have sV : OSF 2007 60701 1 g6 w6 60 27 ([] : List Gc) p6 := cb.osf (by rfl);clear cb;refine Ze .plain rfl (Gm (g := g6) (v := zJ) Try.sizeOf27 rfl b6 rfl aK fun g7 w7 hs b7 cb => ?_);clear cb;have hfr := hfr.stp hs;have rp1 := rp1.stp hs;have q1 := q1.stp hs;refine Zg (.int .i64 (y5.2)) rfl rfl ?_;refine Zb (Zd (Zf (Za (Ze .plain rfl (Gf (g := g7) Try.isAgg24 Try.sizeOf24 rfl q1 fun v8 r8 => ?_)))));obtain ⟨oD, rR, h⟩ := Ga h;refine Ze .plain rfl (Zp (g := g7) (vs := [v8]) en6 (.cons rfl .nil) (wk6 r8 rR) fun g9 w9_ v9 hs hr => ?_);have hfr := hfr.ext hs;have rp1 := rp1.ext hs;have q1 := q1.ext hs;have b7 := b7.ext hs;have r9 := hr;refine Ze .plain rfl (Gl (g := g9) 3040 (xs := ([] : List Int)) (vs := []) Try.underlying31 Try.sizeOf3 Try.zeroValue3 rfl rfl .nil RVs.nil rfl rfl fun lU kX yD hs o11 jI hxt hfl => ?_);have hfr := hfr.stp hs;have rp1 := rp1.stp hs;have q1 := q1.stp hs;have b7 := b7.stp hs rfl;have r9 := r9.stp hs;refine Ze .plain rfl (Ti (g := lU) 2009 (⟨[], [], 0, 0⟩ : PayList) Try.zeroValue37 (fun m w => ⟨_, (Gv Tr (Gv Tr (Gv Zv Zv))), rfl⟩) fun vN oR nB hs b12 cb => ?_);have hfr := hfr.stp hs;have rp1 := rp1.stp hs;have q1 := q1.stp hs;have b7 := b7.stp hs rfl;have r9 := r9.stp hs;have jI := jI.stp hs;have o11 := o11.stp hs rfl;have tU : OSF 2009 60900 0 vN oR 64 37 ([] : List Gr) nB := cb.osf (by rfl);have uU : OSF 2009 60901 1 vN oR 3 37 ([] : List Int) nB := cb.osf (by rfl);clear cb;refine Ze .plain rfl (Gm (g := vN) (v := v9) Try.sizeOf37 rfl b12 rfl r9 fun mU lX hs b13 cb => ?_);clear cb;have hfr := hfr.stp hs;have rp1 := rp1.stp hs;have q1 := q1.stp hs;have b7 := b7.stp hs rfl;have jI := jI.stp hs;have o11 := o11.stp hs rfl;refine Zg (.int .i64 (0)) rfl rfl ?_;refine Zg yD rfl rfl ?_;refine Zb (Zd ?_);obtain ⟨⟨t5, vB⟩, hx, h⟩ := Ga h;refine Gp (fun e w => ∃ (g : Gh) (yD : Value), Fr gI wI g w ∧ e 5 = p1 ∧ PT g.m w (x2 : Vector UInt8 4) p1 ∧ e 7 = p6 ∧ OB 2007 g w 27 (y5.1 : ChainBelt) p6 ∧ e 8 = .int .i64 (y5.2) ∧ e 9 = nB ∧ OB 2009 g w 37 (oD : PayList) nB ∧ e 10 = .int .i64 (t5) ∧ e 11 = yD ∧ RV g.m w (vB : List Int) yD ∧ OS 3040 g w 3 (vB : List Int) yD) (fun Q' hQ => ?_) (fun vU tV hR => ?_)
 ·replace h := hx
  clear hx;refine Zf (Za (Zg (.int .i64 (0)) rfl rfl ?_));refine Zb (Zd (Zr ?_));refine Wv h (fun (s : Int × (List Int) × Int) e w => ∃ (g : Gh) (yD : Value), Fr gI wI g w ∧ e 1 = up1 ∧ RV g.m w (x1 : List UInt8) up1 ∧ e 5 = p1 ∧ PT g.m w (x2 : Vector UInt8 4) p1 ∧ e 7 = p6 ∧ OB 2007 g w 27 (y5.1 : ChainBelt) p6 ∧ e 8 = .int .i64 (y5.2) ∧ e 9 = nB ∧ OB 2009 g w 37 (oD : PayList) nB ∧ e 10 = .int .i64 (s.1) ∧ e 11 = yD ∧ RV g.m w (s.2.1 : List Int) yD ∧ OS 3040 g w 3 (s.2.1 : List Int) yD ∧ e 12 = .int .i64 (s.2.2)) ⟨mU, (yD), hfr, rfl, rp1, rfl, q1, rfl, b7, rfl, rfl, b13, rfl, rfl, jI, o11, rfl⟩ (fun X76 nR tR => ?_);rintro ⟨cC, zB, g8⟩ uV mX ⟨pR, oB, hfr, tH, uH, xK, yK, zK, aL, bL, dL, eL, kI, lI, mI, nI, uF⟩ h;refine Zq h (fun (s : Unit) e w => ∃ (g : Gh) , Fr gI wI g w ∧ e 1 = up1 ∧ RV g.m w (x1 : List UInt8) up1 ∧ e 5 = p1 ∧ PT g.m w (x2 : Vector UInt8 4) p1 ∧ e 7 = p6 ∧ OB 2007 g w 27 (y5.1 : ChainBelt) p6 ∧ e 8 = .int .i64 (y5.2) ∧ e 9 = nB ∧ OB 2009 g w 37 (oD : PayList) nB ∧ e 10 = .int .i64 (cC) ∧ e 11 = oB ∧ RV g.m w (zB : List Int) oB ∧ OS 3040 g w 3 (zB : List Int) oB ∧ e 12 = .int .i64 (g8)) (fun X82 k82 uR h => ?_) ?_
  ·obtain ⟨uE, hx, h⟩ := Ga h
   refine Gp (fun e w => ∃ (g : Gh) , Fr gI wI g w ∧ e 1 = up1 ∧ RV g.m w (x1 : List UInt8) up1 ∧ e 5 = p1 ∧ PT g.m w (x2 : Vector UInt8 4) p1 ∧ e 7 = p6 ∧ OB 2007 g w 27 (y5.1 : ChainBelt) p6 ∧ e 8 = .int .i64 (y5.2) ∧ e 9 = nB ∧ OB 2009 g w 37 (oD : PayList) nB ∧ e 10 = .int .i64 (cC) ∧ e 11 = oB ∧ RV g.m w (zB : List Int) oB ∧ OS 3040 g w 3 (zB : List Int) oB ∧ e 12 = .int .i64 (g8) ∧ e 48 = .bool (uE)) (fun Q' hQ => ?_) (fun vV nX hR => ?_)
   ·replace h := hx
    clear hx;refine Za (Zo uF rfl ?_);refine Zo tH rfl ?_;refine Zw (.int .i64 ((x1).length : Int)) (Tu Try.underlying23 rfl uH) rfl ?_;refine Gg (.bool ((decide (g8 < ((x1).length : Int))))) rfl rfl rfl rfl ?_;refine Zn (.bool ((decide (g8 < ((x1).length : Int))))) rfl rfl ?_;rcases Zt h with ⟨sF, h⟩ | ⟨sF, h⟩
    ·refine Zx (.int .i64 (g8)) (Zk uF) rfl rfl sF rfl ?_
     refine Zx (.bool ((decide (g8 < (20 : Int))))) (Gj rfl rfl rfl) rfl rfl sF rfl ?_;refine Zw (.bool ((decide (g8 < (20 : Int))))) (Zl (b := (decide (g8 < ((x1).length : Int)))) rfl (Tg sF rfl)) rfl ?_;refine Zb ?_;obtain rfl := sinj h;exact hQ _ _ ⟨pR, hfr, tH, uH, xK, yK, zK, aL, bL, dL, eL, kI, lI, mI, nI, uF, rfl⟩
    ·refine Zy rfl rfl sF rfl rfl ?_
     refine Zy rfl rfl sF rfl rfl ?_;refine Zw (.bool false) (Zl (b := (decide (g8 < ((x1).length : Int)))) rfl (Tq sF rfl)) rfl ?_;refine Zb ?_;obtain rfl := sinj h;exact hQ _ _ ⟨pR, hfr, tH, uH, xK, yK, zK, aL, bL, dL, eL, kI, lI, mI, nI, uF, rfl⟩
   ·clear hx
    obtain ⟨qR, hfr, tP, uP, gL, iL, jL, lL, mL, nL, oL, pI, qI, sI, jJ, xN, kJ⟩ := hR;rcases Zt h with ⟨bK, h⟩ | ⟨bK, h⟩
    ·refine Tv (Eq.trans (show ev _ _ = .bool (uE) from kJ) (congrArg Value.bool bK)) ?_
     exact Zu (Zd (uR () _ _ ⟨qR, hfr, tP, uP, gL, iL, jL, lL, mL, nL, oL, pI, qI, sI, jJ, xN⟩ h))
    ·refine Tj (Eq.trans (show ev _ _ = .bool (uE) from kJ) (congrArg Value.bool bK)) ?_
     refine Qc ?_;refine Tf ?_;refine Tf ?_;refine Tl ?_;obtain ⟨rfl, rfl⟩ := Hn h;exact hQ _ _ ⟨qR, (oB), hfr, gL, iL, jL, lL, mL, nL, oL, pI, qI, sI, jJ⟩
  ·rintro _ xV oX ⟨xL, hfr, xG, rF, yL, zL, aM, bM, cM, dM, eM, lJ, mJ, nJ, oJ, vF⟩ h
   obtain ⟨⟨dF, aE⟩, hx, h⟩ := Ga h;refine Gp (fun e w => ∃ (g : Gh) (yD : Value), Fr gI wI g w ∧ e 1 = up1 ∧ RV g.m w (x1 : List UInt8) up1 ∧ e 5 = p1 ∧ PT g.m w (x2 : Vector UInt8 4) p1 ∧ e 7 = p6 ∧ OB 2007 g w 27 (y5.1 : ChainBelt) p6 ∧ e 8 = .int .i64 (y5.2) ∧ e 9 = nB ∧ OB 2009 g w 37 (oD : PayList) nB ∧ e 10 = .int .i64 (dF) ∧ e 11 = yD ∧ RV g.m w (aE : List Int) yD ∧ OS 3040 g w 3 (aE : List Int) yD ∧ e 12 = .int .i64 (g8)) (fun Q' hQ => ?_) (fun xU yV hR => ?_)
   ·replace h := hx
    clear hx;refine Zr ?_;refine Zf (Za (Zg (.int .i64 (1)) rfl rfl ?_));refine Zb (Zd ?_);obtain ⟨⟨cG, zD⟩, hx, h⟩ := Ga h;refine Gp (fun e w => ∃ (g : Gh) , Fr gI wI g w ∧ e 1 = up1 ∧ RV g.m w (x1 : List UInt8) up1 ∧ e 5 = p1 ∧ PT g.m w (x2 : Vector UInt8 4) p1 ∧ e 7 = p6 ∧ OB 2007 g w 27 (y5.1 : ChainBelt) p6 ∧ e 8 = .int .i64 (y5.2) ∧ e 9 = nB ∧ OB 2009 g w 37 (oD : PayList) nB ∧ e 10 = .int .i64 (cG) ∧ e 11 = oB ∧ RV g.m w (zB : List Int) oB ∧ OS 3040 g w 3 (zB : List Int) oB ∧ e 12 = .int .i64 (g8) ∧ e 13 = .int .i64 (zD)) (fun Q' hQ => ?_) (fun yU zV hR => ?_)
    ·replace h := hx
     clear hx;refine Zf (Za (Zo xG rfl ?_));refine Zo vF rfl ?_;obtain ⟨qN, iM, h⟩ := Ga h;refine Zw (Ty up1 g8 1) (Zh (α := UInt8) Try.underlying23 Try.sizeOf5 rfl rF rfl iM) rfl ?_;have vR := Tp rF iM;refine Ze .plain rfl (Gf (g := xL) Try.isAgg5 Try.sizeOf5 rfl vR fun aW xR => ?_);obtain rfl := Dp.1 xR;obtain ⟨y125, vP, h⟩ := Ga h;refine Zw (.int .u8 (UInt8.toNat (y125))) (P_u8 rfl rfl (Nu vP)) rfl ?_;refine Zw (.bool ((y125 == (0 : UInt8)))) (P_u8 rfl rfl rfl) rfl ?_;refine Zb (Zd ?_);rcases Zt h with ⟨xH, h⟩ | ⟨xH, h⟩
     ·refine Tn xH rfl ?_
      refine Za (Zo xG rfl ?_);refine Zo vF rfl ?_;obtain ⟨xJ, jM, h⟩ := Ga h;refine Zw (Ty up1 g8 1) (Zh (α := UInt8) Try.underlying23 Try.sizeOf5 rfl rF rfl jM) rfl ?_;have yR := Tp rF jM;refine Ze .plain rfl (Gf (g := xL) Try.isAgg5 Try.sizeOf5 rfl yR fun bW zR => ?_);obtain rfl := Dp.1 zR;refine Zw (.int .i64 (((xJ).toNat : Int))) (Ys Try.underlying5 Try.underlying3 rfl) rfl ?_;obtain ⟨y130, xP, h⟩ := Ga h;refine Zw (.int .i64 (y130)) (Gj rfl rfl (congrArg (Option.map (Value.int .i64)) xP)) rfl ?_;obtain ⟨yG, yP, h⟩ := Ga h;refine Zw (.int .i64 (yG)) (Gj rfl rfl (congrArg (Option.map (Value.int .i64)) yP)) rfl ?_;refine Gg (.int .i64 ((w64 (yG * (2 : Int))))) rfl rfl rfl rfl ?_;refine Zo lJ rfl ?_;refine Gg (.int .i64 ((w64 (cC + (1 : Int))))) rfl rfl rfl rfl ?_;refine Zg (.int .i64 ((w64 (yG * (2 : Int))))) rfl rfl ?_;refine Zg (.int .i64 ((w64 (cC + (1 : Int))))) rfl rfl ?_;refine Zb ?_;obtain ⟨rfl, rfl⟩ := Hn h;exact hQ _ _ ⟨xL, hfr, xG, rF, yL, zL, aM, bM, cM, dM, eM, rfl, mJ, nJ, oJ, vF, rfl⟩
     ·refine To xH rfl ?_
      refine Zu ?_;obtain ⟨rfl, rfl⟩ := Hn h;exact hQ _ _ ⟨xL, hfr, xG, rF, yL, zL, aM, bM, cM, dM, eM, lJ, mJ, nJ, oJ, vF, rfl⟩
    ·clear hx
     obtain ⟨aS, hfr, yN, vE, zN, xE, aO, yE, bO, cO, zE, rM, sM, mG, sG, tM, uM⟩ := hR;refine Za (Zo sM rfl ?_);refine Zo uM rfl ?_;refine Ze .plain rfl (Gl (g := aS) 3069 (xs := ([zD] : List Int)) (vs := [.int .i64 (zD)]) Try.underlying31 Try.sizeOf3 Try.zeroValue3 rfl rfl (.cons rfl .nil) (RVs.cons (Zj.2 rfl) RVs.nil) rfl rfl fun bS cW dW hs o133 cS hxt hfl => ?_);have hfr := hfr.stp hs;have vE := vE.stp hs;have xE := xE.stp hs;have yE := yE.stp hs rfl;have zE := zE.stp hs rfl;have mG := mG.stp hs;have sG := sG.stp hs rfl;obtain ⟨y135, zP, h⟩ := Ga h;refine Ze .plain rfl (Kg (g := bS) (i := 3040) Try.underlying31 Hi rfl rfl sG mG rfl cS zP fun dS eW dO hs o134 eS _ => ?_);have hfr := hfr.stp hs;have vE := vE.stp hs;have xE := xE.stp hs;have yE := yE.stp hs rfl;have zE := zE.stp hs rfl;refine Zg dO rfl rfl ?_;refine Zb (Ts ?_);obtain ⟨rfl, rfl⟩ := Hn h;exact hQ _ _ ⟨dS, (dO), hfr, yN, vE, zN, xE, aO, yE, bO, cO, zE, rM, rfl, eS, o134, tM⟩
   ·clear hx
    obtain ⟨gS, vM, hfr, eO, gO, jO, kO, lO, mO, nO, oO, pO, xM, bN, cN, dN, eN⟩ := hR;refine Za (Zo eN rfl ?_);refine Gg (.int .i64 ((w64 (g8 + (1 : Int))))) rfl rfl rfl rfl ?_;refine Zg (.int .i64 ((w64 (g8 + (1 : Int))))) rfl rfl ?_;exact Zb (Zd (tR (dF, aE, (w64 (g8 + (1 : Int)))) _ _ ⟨gS, (vM), hfr, eO, gO, jO, kO, lO, mO, nO, oO, pO, xM, bN, cN, dN, rfl⟩ h))
 ·clear hx
  obtain ⟨cK, yB, hfr, pJ, qJ, zG, xF, qO, rJ, sJ, kH, lH, mH, nH⟩ := hR;refine Zq h (fun (s : Unit) e w => ∃ (g : Gh) , Fr gI wI g w ∧ e 5 = p1 ∧ PT g.m w (x2 : Vector UInt8 4) p1 ∧ e 7 = p6 ∧ OB 2007 g w 27 (y5.1 : ChainBelt) p6 ∧ e 9 = nB ∧ OB 2009 g w 37 (oD : PayList) nB ∧ e 10 = .int .i64 (t5) ∧ e 11 = yB ∧ RV g.m w (vB : List Int) yB ∧ OS 3040 g w 3 (vB : List Int) yB) (fun X146 uN bQ h => ?_) ?_
  ·obtain ⟨bE, hx, h⟩ := Ga h
   refine Gp (fun e w => ∃ (g : Gh) , Fr gI wI g w ∧ e 5 = p1 ∧ PT g.m w (x2 : Vector UInt8 4) p1 ∧ e 7 = p6 ∧ OB 2007 g w 27 (y5.1 : ChainBelt) p6 ∧ e 9 = nB ∧ OB 2009 g w 37 (oD : PayList) nB ∧ e 10 = .int .i64 (t5) ∧ e 11 = yB ∧ RV g.m w (vB : List Int) yB ∧ OS 3040 g w 3 (vB : List Int) yB ∧ e 78 = .bool (bE)) (fun Q' hQ => ?_) (fun zU gW hR => ?_)
   ·replace h := hx
    clear hx;refine Za (Zo qO rfl ?_);refine Gg (.bool ((y5.2 != (0 : Int)))) rfl rfl rfl rfl ?_;refine Zn (.bool ((y5.2 != (0 : Int)))) rfl rfl ?_;rcases Zt h with ⟨bD, h⟩ | ⟨bD, h⟩
    ·refine Zy rfl rfl bD rfl rfl ?_
     iterate 3 refine Zy rfl rfl bD rfl rfl ?_
     refine Zw (.bool true) (Zl (b := (y5.2 != (0 : Int))) rfl (Tg bD rfl)) rfl ?_;refine Zb ?_;obtain rfl := sinj h;exact hQ _ _ ⟨cK, hfr, pJ, qJ, zG, xF, rJ, sJ, kH, lH, mH, nH, rfl⟩
    ·refine Zx (Gk p6 1) (Zc Wm zG (OB.ptr xF)) rfl rfl bD rfl ?_
     refine Ze (.yes2 rfl rfl bD) rfl (Wz (g := cK) Tc.1 Try.isAgg25 Try.sizeOf25 rfl xF fun iW iS => ?_);refine Zx (.int .i64 (((y5.1).Cards).length : Int)) (Tu Try.underlying25 rfl iS) rfl rfl bD rfl ?_;refine Zx (.bool (((((y5.1).Cards).length : Int) == (0 : Int)))) (Gj rfl rfl rfl) rfl rfl bD rfl ?_;refine Zw (.bool (((((y5.1).Cards).length : Int) == (0 : Int)))) (Zl (b := (y5.2 != (0 : Int))) rfl (Tq bD rfl)) rfl ?_;refine Zb ?_;obtain rfl := sinj h;exact hQ _ _ ⟨cK, hfr, pJ, qJ, zG, xF, rJ, sJ, kH, lH, mH, nH, rfl⟩
   ·clear hx
    obtain ⟨jS, hfr, rO, sO, tO, uO, vO, xO, gN, iN, jN, kN, oH⟩ := hR;rcases Zt h with ⟨yH, h⟩ | ⟨yH, h⟩
    ·refine Tv (Eq.trans (show ev _ _ = .bool (bE) from oH) (congrArg Value.bool yH)) ?_
     refine Zf (Za (Zg (.bool false) rfl rfl ?_));refine Zb (Zd (Gq (Tz ?_)));obtain rfl := sinj h;exact Qr rfl rfl (show _ = .bool false from rfl) ⟨_, hfr, rfl⟩
    ·refine Tj (Eq.trans (show ev _ _ = .bool (bE) from oH) (congrArg Value.bool yH)) ?_
     exact Zu (Zd (bQ () _ _ ⟨jS, hfr, rO, sO, tO, uO, vO, xO, gN, iN, jN, kN⟩ h))
  ·rintro _ aV jW ⟨lS, hfr, yO, vJ, aH, iE, yF, mB, lE, lN, mN, iU⟩ h
   refine Zf (Wt (x := .tmp 7) Try.isAgg27 Try.sizeOf27 iE fun zO mS cQ => ?_);obtain ⟨y158, dQ, h⟩ := Ga h;obtain ⟨y159, kM, h⟩ := Ga h;have nS := Uz vJ kM;refine Zs (x := .tmp 82) Try.isAgg5 Try.sizeOf5 nS fun kW oS eQ => ?_;obtain rfl := Dp.1 oS;refine Ya (x := .tmp 85) Tc.1 Try.isAgg25 Try.sizeOf25 iE fun pS qS gQ => ?_;obtain ⟨sH, iQ, h⟩ := Ga h;obtain ⟨eG, jQ, h⟩ := Ga h;obtain ⟨y168, kQ, h⟩ := Ga h;refine Tx (g := lS) (n := 19) [(1, (fun v g w => RV g.m w y158 v)), (10, (fun v g w => RV g.m w eG v)), (11, (fun v g w => ∃ y0 y1 y2 : Value, v = .tuple #[y0, y1, y2] ∧ RV g.m w (y168.1 : List Int) y0 ∧ y1 = .int .i64 (y168.2.1) ∧ y2 = .int .i64 (y168.2.2)))] [0, 1, 2, 3, 4, 5, 6, 7, 8, 9, 10, 11, 12, 13, 14, 15, 16, 17, 18] rfl Qq (by kernel_rfl) (⟨fun _ => Ym, fun _ => Ym, fun _ => (Ul fun _ => (Ul fun _ => (Ul fun _ => (Kj (Wf _) (Kj Ym (Kj (Wf _) (Wf _))))))), trivial⟩) ?_;refine Tt (c := zO) rfl rfl .plain (fun _ _ h => ⟨h.ch, fun b hb _ => h.below.block b hb⟩) cQ aH ?_;refine Ka (φ := fun v g w => RV g.m w y158 v) rfl rfl .plain (fun g w hd => Zp (g := g) (vs := [zO]) en8 (.cons rfl .nil) (wk8 (mS.ext hd.1) dQ) fun g' w' v hs hr => ⟨g', hs, hr⟩) (fun dK hv => ?_);obtain ⟨_, _, _, rq157⟩ := hv;refine Zz (Gk p1 (((0 : Int) : Int).toNat * 1)) rfl rfl (Hm (α := UInt8) Try.underlying24 Try.sizeOf5 yO (PT.ptr vJ) rfl kM) ?_;refine Tt (c := .int .u8 (UInt8.toNat (y159))) rfl rfl .plain (fun _ _ h => h.ch) eQ rfl ?_;refine Zz (.int .i64 (((y159).toNat : Int))) rfl rfl (Ys Try.underlying5 Try.underlying3 rfl) ?_;refine Zz (Gk p6 1) rfl rfl (Zc Wm aH (OB.ptr iE)) ?_;refine Tt (c := pS) rfl rfl .plain (fun _ _ h => ⟨h.ch, fun b hb _ => h.below.block b hb⟩) gQ rfl ?_;refine Zz (.int .i64 (((y5.1).Cards).length : Int)) rfl rfl (Tu Try.underlying25 rfl qS) ?_;refine Zz (.int .i64 (sH)) rfl rfl (Gj rfl rfl (congrArg (Option.map (Value.int .i64)) iQ)) ?_;refine Zz yB rfl rfl (Zk lN) ?_;refine Ka (φ := fun v g w => RV g.m w eG v) rfl rfl .plain (fun g w hd => Zp (g := g) (vs := [yB]) en9 (.cons rfl .nil) (wk9 (mN.ext hd.1) jQ) fun g' w' v hs hr => ⟨g', hs, hr⟩) (fun lK hv => ?_);obtain ⟨_, _, _, rq165⟩ := hv;refine Ka (φ := fun v g w => ∃ y0 y1 y2 : Value, v = .tuple #[y0, y1, y2] ∧ RV g.m w (y168.1 : List Int) y0 ∧ y1 = .int .i64 (y168.2.1) ∧ y2 = .int .i64 (y168.2.2)) rfl rfl .plain (fun g w hd => Zp (g := g) (vs := [dK, .int .i64 (sH), lK]) en7 (.cons rfl (.cons rfl (.cons rfl .nil))) (wk7 (Xw (A := fun g w => RV g.m w y158 dK) 1 rfl rfl (Hd hd)) (Xw (A := fun g w => RV g.m w eG lK) 10 rfl rfl (Hd hd)) kQ) fun g' w' v hs hr => ⟨g', hs, hr⟩) (fun lW hv => ?_);obtain ⟨_, _, _, nD, _, _, rfl, jU, rfl, rfl⟩ := hv;refine Zz (.tuple #[nD, .int .i64 (y168.2.1), .int .i64 (y168.2.2)]) rfl rfl (Zk rfl) ?_;refine Zz nD rfl rfl (Zi rfl rfl) ?_;refine Zz (.int .i64 (y168.2.1)) rfl rfl (Zi rfl rfl) ?_;refine Zz (.int .i64 (y168.2.2)) rfl rfl (Zi rfl rfl) ?_;refine Zz nD rfl rfl (Tb rfl) ?_;refine Zz (.int .i64 (y168.2.1)) rfl rfl (Tb rfl) ?_;refine Zz (.int .i64 (y168.2.2)) rfl rfl (Tb rfl) ?_;refine Um fun aP mW hall => ?_;have hs := hall.1;have hfr := hfr.ext hs;have iE := iE.ext hs;have mB := mB.ext hs;have nW := (Qm (A := fun g w => RV g.m w y158 dK) 1 rfl hall);have oW := (Qm (A := fun g w => RV g.m w eG lK) 10 rfl hall);have pW := (Iw (Qm (A := fun g w => ∃ y0 y1 y2 : Value, Value.tuple #[nD, .int .i64 (y168.2.1), .int .i64 (y168.2.2)] = .tuple #[y0, y1, y2] ∧ RV g.m w (y168.1 : List Int) y0 ∧ y1 = .int .i64 (y168.2.1) ∧ y2 = .int .i64 (y168.2.2)) 11 rfl hall));have mK := (Iw (Qm (A := fun g w => ∃ y0 y1 y2 : Value, Value.tuple #[nD, .int .i64 (y168.2.1), .int .i64 (y168.2.2)] = .tuple #[y0, y1, y2] ∧ RV g.m w (y168.1 : List Int) y0 ∧ y1 = .int .i64 (y168.2.1) ∧ y2 = .int .i64 (y168.2.2)) 11 rfl hall));clear hs hall;refine Zb (Zd (Zf (Za (Ze .plain rfl (Tk (g := aP) Try.isAgg27 Try.sizeOf27 aH iE fun rS sS => ?_)))));obtain ⟨rN, lQ, h⟩ := Ga h;refine Ze .plain rfl (Zp (g := aP) (vs := [rS]) en8 (.cons rfl .nil) (wk8 sS lQ) fun tS bV uS hs hr => ?_)
   have hfr := hfr.ext hs;have mB := mB.ext hs;have mK := mK.ext hs;have nK := hr;refine Zn nD rfl rfl ?_;obtain ⟨sN, mQ, h⟩ := Ga h;refine Ze .plain rfl (Zp (g := tS) (vs := [nD]) en9 (.cons rfl .nil) (wk9 mK mQ) fun vS cV xS hs hr => ?_);have hfr := hfr.ext hs;have mB := mB.ext hs;have nK := nK.ext hs;have yS := hr;obtain ⟨i6, nQ, h⟩ := Ga h;refine Ze .plain rfl (Zp (g := vS) (vs := [uS, xS]) en10 (.cons rfl (.cons rfl .nil)) (wk10 nK yS nQ) fun zH dV qW hs hr => ?_);have hfr := hfr.ext hs;have mB := mB.ext hs;obtain ⟨nU, cH, oU, pU, rfl, rfl, qU, rfl, rfl⟩ := hr;refine Zn (.tuple #[.int .i64 (i6.1), cH, .int .i64 (i6.2.2.1), .int .i64 (i6.2.2.2)]) rfl rfl ?_;refine Zw (.int .i64 (i6.1)) (Zi rfl rfl) rfl ?_;refine Zw cH (Zi rfl rfl) rfl ?_;refine Zw (.int .i64 (i6.2.2.1)) (Zi rfl rfl) rfl ?_;refine Zw (.int .i64 (i6.2.2.2)) (Zi rfl rfl) rfl ?_;refine Zg (.int .i64 (i6.1)) rfl rfl ?_;refine Zg cH rfl rfl ?_;refine Zg (.int .i64 (i6.2.2.1)) rfl rfl ?_;refine Zg (.int .i64 (i6.2.2.2)) rfl rfl ?_;refine Zb (Zd (Zq h (fun (s : Unit) e w => ∃ (g : Gh) , Fr gI wI g w ∧ e 9 = nB ∧ OB 2009 g w 37 (oD : PayList) nB ∧ e 10 = .int .i64 (t5) ∧ e 19 = .int .i64 (i6.2.2.1)) (fun X209 tN oQ h => ?_) ?_))
   ·obtain ⟨lD, hx, h⟩ := Ga h
    refine Gp (fun e w => ∃ (g : Gh) , Fr gI wI g w ∧ e 9 = nB ∧ OB 2009 g w 37 (oD : PayList) nB ∧ e 10 = .int .i64 (t5) ∧ e 19 = .int .i64 (i6.2.2.1) ∧ e 119 = .bool (lD)) (fun Q' hQ => ?_) (fun eV sW hR => ?_)
    ·replace h := hx
     clear hx;refine Za (Zn (.int .i64 (y168.2.2)) rfl rfl ?_);refine Gg (.bool ((y168.2.2 != (0 : Int)))) rfl rfl rfl rfl ?_;refine Zn (.bool ((y168.2.2 != (0 : Int)))) rfl rfl ?_;rcases Zt h with ⟨mE, h⟩ | ⟨mE, h⟩
     ·refine Zy rfl rfl mE rfl rfl ?_
      refine Zy rfl rfl mE rfl rfl ?_;refine Zw (.bool true) (Zl (b := (y168.2.2 != (0 : Int))) rfl (Tg mE rfl)) rfl ?_;refine Ko 9 rfl ?_;refine Zb ?_;obtain rfl := sinj h;exact hQ _ _ ⟨zH, hfr, yF, mB, lE, rfl, rfl⟩
     ·refine Zx (.int .i64 (i6.2.2.2)) (Zk rfl) rfl rfl mE rfl ?_
      refine Zx (.bool ((i6.2.2.2 != (0 : Int)))) (Gj rfl rfl rfl) rfl rfl mE rfl ?_;refine Zw (.bool ((i6.2.2.2 != (0 : Int)))) (Zl (b := (y168.2.2 != (0 : Int))) rfl (Tq mE rfl)) rfl ?_;refine Zn (.bool ((i6.2.2.2 != (0 : Int)))) rfl rfl ?_;rcases Zt h with ⟨oE, h⟩ | ⟨oE, h⟩
      ·refine Zy rfl rfl oE rfl rfl ?_
       refine Zy rfl rfl oE rfl rfl ?_;refine Zw (.bool true) (Zl (b := (i6.2.2.2 != (0 : Int))) rfl (Tg oE rfl)) rfl ?_;refine Ko 5 rfl ?_;refine Zb ?_;obtain rfl := sinj h;exact hQ _ _ ⟨zH, hfr, yF, mB, lE, rfl, rfl⟩
      ·refine Zx (.int .i64 (i6.2.2.1)) (Zk rfl) rfl rfl oE rfl ?_
       refine Zx (.bool ((decide (i6.2.2.1 < (0 : Int))))) (Gj rfl rfl rfl) rfl rfl oE rfl ?_;refine Zw (.bool ((decide (i6.2.2.1 < (0 : Int))))) (Zl (b := (i6.2.2.2 != (0 : Int))) rfl (Tq oE rfl)) rfl ?_;refine Zn (.bool ((decide (i6.2.2.1 < (0 : Int))))) rfl rfl ?_;rcases Zt h with ⟨cD, h⟩ | ⟨cD, h⟩
       ·refine Zy rfl rfl cD rfl rfl ?_
        refine Zy rfl rfl cD rfl rfl ?_;refine Zy rfl rfl cD rfl rfl ?_;refine Zw (.bool true) (Zl (b := (decide (i6.2.2.1 < (0 : Int)))) rfl (Tg cD rfl)) rfl ?_;refine Zb ?_;obtain rfl := sinj h;exact hQ _ _ ⟨zH, hfr, yF, mB, lE, rfl, rfl⟩
       ·refine Zx (.int .i64 (i6.2.2.1)) (Zk rfl) rfl rfl cD rfl ?_
        refine Zx (.int .i64 (t5)) (Zk lE) rfl rfl cD rfl ?_;refine Zx (.bool ((decide (i6.2.2.1 > t5)))) (Gj rfl rfl rfl) rfl rfl cD rfl ?_;refine Zw (.bool ((decide (i6.2.2.1 > t5)))) (Zl (b := (decide (i6.2.2.1 < (0 : Int)))) rfl (Tq cD rfl)) rfl ?_;refine Zb ?_;obtain rfl := sinj h;exact hQ _ _ ⟨zH, hfr, yF, mB, lE, rfl, rfl⟩
    ·clear hx
     obtain ⟨zS, hfr, bP, cP, nN, oN, gH⟩ := hR;rcases Zt h with ⟨aI, h⟩ | ⟨aI, h⟩
     ·refine Tv (Eq.trans (show ev _ _ = .bool (lD) from gH) (congrArg Value.bool aI)) ?_
      refine Zf (Za (Zg (.bool false) rfl rfl ?_));refine Zb (Zd (Gq (Tz ?_)));obtain rfl := sinj h;exact Qr rfl rfl (show _ = .bool false from rfl) ⟨_, hfr, rfl⟩
     ·refine Tj (Eq.trans (show ev _ _ = .bool (lD) from gH) (congrArg Value.bool aI)) ?_
      exact Zu (Zd (oQ () _ _ ⟨zS, hfr, bP, cP, nN, oN⟩ h))
   ·rintro _ gV eT ⟨dP, hfr, jH, lB, pH, qH⟩ h
    refine Zf (Za (Zo pH rfl ?_));have bI : RV dP.m eT (⟨0, (50 : Int), (3000 : Int), [], t5⟩ : Th) (.agg (Qd [[.int .i64 0], [.int .i64 0], [.int .i64 0], [.slice none 0 0], [.int .i64 0]] [(1, .int .i64 (50)), (2, .int .i64 (3000)), (4, .int .i64 (t5))]).flatten.toArray) := Qj rfl (Te (Zv) (Te (rfl) (Te (rfl) (Te (Tr) (Qh (rfl))))));generalize pM : (Value.agg (Qd [[.int .i64 0], [.int .i64 0], [.int .i64 0], [.slice none 0 0], [.int .i64 0]] [(1, .int .i64 (50)), (2, .int .i64 (3000)), (4, .int .i64 (t5))]).flatten.toArray) = eP at bI;refine Zw eP (pM ▸ Qu (vs := [(1, .int .i64 (50)), (2, .int .i64 (3000)), (4, .int .i64 (t5))]) [[.int .i64 0], [.int .i64 0], [.int .i64 0], [.slice none 0 0], [.int .i64 0]] Es rfl rfl (.cons rfl (.cons rfl (.cons rfl .nil))) ⟨⟨_, rfl, rfl⟩, ⟨⟨_, rfl, rfl⟩, ⟨⟨_, rfl, rfl⟩, trivial⟩⟩⟩) rfl ?_;refine Ze .plain rfl (Ti (g := dP) 2021 (⟨0, 0, 0, [], 0⟩ : Th) Try.zeroValue46 (fun m w => ⟨_, (Gv Zv (Gv Zv (Gv Zv (Gv Tr Zv)))), rfl⟩) fun gP lT oK hs b220 cb => ?_);have hfr := hfr.stp hs;have lB := lB.stp hs rfl;have bI := bI.stp hs;have rU : OSF 2021 62103 3 gP lT 3 46 ([] : List Int) oK := cb.osf (by rfl);clear cb;refine Ze .plain rfl (Gm (g := gP) (v := eP) Try.sizeOf46 rfl b220 rfl bI fun iP mT hs b221 cb => ?_);have uC : OSF 2021 62103 3 iP mT 3 46 ([] : List Int) oK := cb.osf (by rw [← pM]; rfl);clear cb;have hfr := hfr.stp hs;have lB := lB.stp hs rfl;refine Zb (Zd (Zf (Wt (x := .tmp 9) Try.isAgg37 Try.sizeOf37 lB fun jP nT pQ => ?_)));obtain ⟨gG, qQ, h⟩ := Ga h;refine Wt (x := .tmp 21) Try.isAgg46 Try.sizeOf46 b221 fun kP oT rQ => ?_;obtain ⟨y227, sQ, h⟩ := Ga h;refine Tx (g := iP) (n := 13) [(1, (fun v g w => RV g.m w gG v)), (3, (fun v g w => ∃ y0 y1 y2 y3 : Value, v = .tuple #[y0, y1, y2, y3] ∧ y0 = .int .i64 (y227.1) ∧ y1 = .int .i64 (y227.2.1) ∧ y2 = .int .i64 (y227.2.2.1) ∧ y3 = .int .i64 (y227.2.2.2)))] [0, 1, 2, 3, 4, 5, 6, 7, 8, 9, 10, 11, 12] rfl Qq (by kernel_rfl) (⟨fun _ => Ym, fun _ => (Ul fun _ => (Ul fun _ => (Ul fun _ => (Ul fun _ => (Kj (Wf _) (Kj (Wf _) (Kj (Wf _) (Kj (Wf _) (Wf _))))))))), trivial⟩) ?_;refine Tt (c := jP) rfl rfl .plain (fun _ _ h => ⟨h.ch, fun b hb _ => h.below.block b hb⟩) pQ jH ?_;refine Ka (φ := fun v g w => RV g.m w gG v) rfl rfl .plain (fun g w hd => Zp (g := g) (vs := [jP]) en12 (.cons rfl .nil) (wk12 (nT.ext hd.1) qQ) fun g' w' v hs hr => ⟨g', hs, hr⟩) (fun pK hv => ?_);obtain ⟨_, _, _, rq223⟩ := hv;refine Tt (c := kP) rfl rfl .plain (fun _ _ h => ⟨h.ch, fun b hb _ => h.below.block b hb⟩) rQ rfl ?_;refine Ka (φ := fun v g w => ∃ y0 y1 y2 y3 : Value, v = .tuple #[y0, y1, y2, y3] ∧ y0 = .int .i64 (y227.1) ∧ y1 = .int .i64 (y227.2.1) ∧ y2 = .int .i64 (y227.2.2.1) ∧ y3 = .int .i64 (y227.2.2.2)) rfl rfl .plain (fun g w hd => Zp (g := g) (vs := [pK, kP]) en11 (.cons rfl (.cons rfl .nil)) (wk11 (Xw (A := fun g w => RV g.m w gG pK) 1 rfl rfl (Hd hd)) (oT.ext hd.1) sQ) fun g' w' v hs hr => ⟨g', hs, hr⟩) (fun tW hv => ?_);obtain ⟨_, _, _, _, _, _, _, rfl, rfl, rfl, rfl, rfl⟩ := hv;refine Zz (.tuple #[.int .i64 (y227.1), .int .i64 (y227.2.1), .int .i64 (y227.2.2.1), .int .i64 (y227.2.2.2)]) rfl rfl (Zk rfl) ?_;refine Zz (.int .i64 (y227.1)) rfl rfl (Zi rfl rfl) ?_;refine Zz (.int .i64 (y227.2.1)) rfl rfl (Zi rfl rfl) ?_;refine Zz (.int .i64 (y227.2.2.1)) rfl rfl (Zi rfl rfl) ?_;refine Zz (.int .i64 (y227.2.2.2)) rfl rfl (Zi rfl rfl) ?_;refine Zz (.int .i64 (y227.1)) rfl rfl (Tb rfl) ?_;refine Zz (.int .i64 (y227.2.1)) rfl rfl (Tb rfl) ?_;refine Zz (.int .i64 (y227.2.2.1)) rfl rfl (Tb rfl) ?_;refine Zz (.int .i64 (y227.2.2.2)) rfl rfl (Tb rfl) ?_;refine Um fun lP pT hall => ?_;have hs := hall.1;have hfr := hfr.ext hs;have lB := lB.ext hs;have uC := uC.ext hs;have b221 := b221.ext hs;have uW := (Qm (A := fun g w => RV g.m w gG pK) 1 rfl hall);clear hs hall;refine Zb (Zd (Zf (Wt (x := .tmp 9) Try.isAgg37 Try.sizeOf37 lB fun mP sT tQ => ?_)));obtain ⟨iG, uQ, h⟩ := Ga h;refine Wt (x := .tmp 21) Try.isAgg46 Try.sizeOf46 b221 fun nP tT vQ => ?_;obtain ⟨jG, xQ, h⟩ := Ga h
    obtain ⟨l5, yQ, h⟩ := Ga h;refine Ur (g := lP) (n := 11) [9] [(1, (fun v g w => RV g.m w iG v)), (5, (fun v g w => RV g.m w jG v)), (6, (fun v g w => ∃ y0 y1 : Value, v = .tuple #[y0, y1] ∧ RV g.m w (l5.1 : Kb) y0 ∧ y1 = .int .i64 (l5.2))), (10, (fun v g w => OB 2026 g w 51 (⟨0, 0⟩ : Kb) v))] [0, 1, 2, 3, 4, 5, 6, 7, 8, 9, 10] rfl Qq (by kernel_rfl) (⟨fun _ => Ym, fun _ => Ym, fun _ => (Ul fun _ => (Ul fun _ => (Kj (Wf _) (Kj Ym (Wf _))))), fun _ => up_ob, trivial⟩) rfl ?_;refine Tt (c := mP) rfl rfl .plain (fun _ _ h => ⟨h.ch, fun b hb _ => h.below.block b hb⟩) tQ jH ?_;refine Ka (φ := fun v g w => RV g.m w iG v) rfl rfl .plain (fun g w hd => Zp (g := g) (vs := [mP]) en12 (.cons rfl .nil) (wk12 (sT.ext hd.1) uQ) fun g' w' v hs hr => ⟨g', hs, hr⟩) (fun qK hv => ?_);obtain ⟨_, _, _, rq249⟩ := hv;refine Tt (c := nP) rfl rfl .plain (fun _ _ h => ⟨h.ch, fun b hb _ => h.below.block b hb⟩) vQ rfl ?_;refine Zz (.int .i64 (i6.2.2.1)) rfl rfl (Zk qH) ?_;refine Zz (.int .i64 (t5)) rfl rfl (Zk pH) ?_;refine Ka (φ := fun v g w => RV g.m w jG v) rfl rfl .plain (fun g w hd => Zp (g := g) (vs := [.int .i64 (i6.2.2.1), .int .i64 (t5)]) en14 (.cons rfl (.cons rfl .nil)) (wk14  xQ) fun g' w' v hs hr => ⟨g', hs, hr⟩) (fun sK hv => ?_);obtain ⟨_, _, _, rq252⟩ := hv;refine Ka (φ := fun v g w => ∃ y0 y1 : Value, v = .tuple #[y0, y1] ∧ RV g.m w (l5.1 : Kb) y0 ∧ y1 = .int .i64 (l5.2)) rfl rfl .plain (fun g w hd => Zp (g := g) (vs := [qK, nP, sK]) en13 (.cons rfl (.cons rfl (.cons rfl .nil))) (wk13 (Xw (A := fun g w => RV g.m w iG qK) 1 rfl rfl (Hd hd)) (tT.ext hd.1) (Xw (A := fun g w => RV g.m w jG sK) 5 rfl rfl (Hd hd)) yQ) fun g' w' v hs hr => ⟨g', hs, hr⟩) (fun vW hv => ?_);obtain ⟨_, _, _, aG, _, rfl, kU, rfl⟩ := hv;refine Zz (.tuple #[aG, .int .i64 (l5.2)]) rfl rfl (Zk rfl) ?_;refine Zz aG rfl rfl (Zi rfl rfl) ?_;refine Jf (c := .int .i64 (l5.2)) rfl rfl .plain (Zi rfl rfl) ?_;refine Ka (φ := fun v g w => OB 2026 g w 51 (⟨0, 0⟩ : Kb) v) rfl rfl .plain (fun g w hd => Pp (g := g) 2026 (⟨0, 0⟩ : Kb) Try.zeroValue51 (fun m w => ⟨_, (Gv Zv Zv), rfl⟩) fun g' w' v hs b => ⟨g', hs, b⟩) (fun uT hv => ?_);clear hv;refine Um fun oP xT hall => ?_;have hs := hall.1;have hlt : Lt lP.m pT oP xT := hs.ch;have hfr := hfr.ext hs;have lB := lB.ext hs;have uC := uC.ext hs;have b221 := b221.ext hs;have xW := (Qm (A := fun g w => RV g.m w iG qK) 1 rfl hall);have yW := (Qm (A := fun g w => RV g.m w jG sK) 5 rfl hall);have yT := (tup2_0 (Qm (A := fun g w => ∃ y0 y1 : Value, Value.tuple #[aG, .int .i64 (l5.2)] = .tuple #[y0, y1] ∧ RV g.m w (l5.1 : Kb) y0 ∧ y1 = .int .i64 (l5.2)) 6 rfl hall));have b287 := (Qm (A := fun g w => OB 2026 g w 51 (⟨0, 0⟩ : Kb) uT) 10 rfl hall);clear hs hall;refine Vq hlt.w .plain rfl (Gm (g := oP) (v := aG) Try.sizeOf51 rfl b287 rfl yT fun zT zW hs b288 cb => ?_);clear cb;have hfr := hfr.stp hs;have hlt := hlt.stp hs;have lB := lB.stp hs rfl;have uC := uC.stp hs rfl;have b221 := b221.stp hs rfl;refine Sd hlt.w (v := .int .i64 (l5.2)) (Tb rfl) .plain rfl ?_;refine Sb hlt.w ?_;clear hlt;refine Zd (Zf (Za (Zo qH rfl ?_)));refine Zw (Gk oK 4) (Zc Rh rfl (OB.ptr b221)) rfl ?_;refine Ze .plain rfl (Jx (g := zT) Ji Try.sizeOf3 rfl b221 rfl (Zj.2 rfl) fun aU aX hs b290 rst hos => ?_);have uC := uC.rest hs rst;clear rst hos;have hfr := hfr.stp hs;have lB := lB.stp hs rfl;have b288 := b288.stp hs rfl;refine Zb (Zd (Zf (Wt (x := .tmp 9) Try.isAgg37 Try.sizeOf37 lB fun pP bU zQ => ?_)));obtain ⟨kG, aR, h⟩ := Ga h;refine Wt (x := .tmp 21) Try.isAgg46 Try.sizeOf46 b290 fun sP cU bR => ?_;obtain ⟨o0, dR, h⟩ := Ga h;refine Tx (g := aU) (n := 13) [(1, (fun v g w => RV g.m w kG v)), (3, (fun v g w => ∃ y0 y1 y2 y3 : Value, v = .tuple #[y0, y1, y2, y3] ∧ y0 = .int .i64 (o0.1) ∧ y1 = .int .i64 (o0.2.1) ∧ y2 = .int .i64 (o0.2.2.1) ∧ y3 = .int .i64 (o0.2.2.2)))] [0, 1, 2, 3, 4, 5, 6, 7, 8, 9, 10, 11, 12] rfl Qq (by kernel_rfl) (⟨fun _ => Ym, fun _ => (Ul fun _ => (Ul fun _ => (Ul fun _ => (Ul fun _ => (Kj (Wf _) (Kj (Wf _) (Kj (Wf _) (Kj (Wf _) (Wf _))))))))), trivial⟩) ?_
    refine Tt (c := pP) rfl rfl .plain (fun _ _ h => ⟨h.ch, fun b hb _ => h.below.block b hb⟩) zQ jH ?_;refine Ka (φ := fun v g w => RV g.m w kG v) rfl rfl .plain (fun g w hd => Zp (g := g) (vs := [pP]) en12 (.cons rfl .nil) (wk12 (bU.ext hd.1) aR) fun g' w' v hs hr => ⟨g', hs, hr⟩) (fun tK hv => ?_);obtain ⟨_, _, _, rq292⟩ := hv;refine Tt (c := sP) rfl rfl .plain (fun _ _ h => ⟨h.ch, fun b hb _ => h.below.block b hb⟩) bR rfl ?_;refine Ka (φ := fun v g w => ∃ y0 y1 y2 y3 : Value, v = .tuple #[y0, y1, y2, y3] ∧ y0 = .int .i64 (o0.1) ∧ y1 = .int .i64 (o0.2.1) ∧ y2 = .int .i64 (o0.2.2.1) ∧ y3 = .int .i64 (o0.2.2.2)) rfl rfl .plain (fun g w hd => Zp (g := g) (vs := [tK, sP]) en11 (.cons rfl (.cons rfl .nil)) (wk11 (Xw (A := fun g w => RV g.m w kG tK) 1 rfl rfl (Hd hd)) (cU.ext hd.1) dR) fun g' w' v hs hr => ⟨g', hs, hr⟩) (fun bX hv => ?_);obtain ⟨_, _, _, _, _, _, _, rfl, rfl, rfl, rfl, rfl⟩ := hv;refine Zz (.tuple #[.int .i64 (o0.1), .int .i64 (o0.2.1), .int .i64 (o0.2.2.1), .int .i64 (o0.2.2.2)]) rfl rfl (Zk rfl) ?_;refine Zz (.int .i64 (o0.1)) rfl rfl (Zi rfl rfl) ?_;refine Zz (.int .i64 (o0.2.1)) rfl rfl (Zi rfl rfl) ?_;refine Zz (.int .i64 (o0.2.2.1)) rfl rfl (Zi rfl rfl) ?_;refine Zz (.int .i64 (o0.2.2.2)) rfl rfl (Zi rfl rfl) ?_;refine Zz (.int .i64 (o0.1)) rfl rfl (Tb rfl) ?_;refine Zz (.int .i64 (o0.2.1)) rfl rfl (Tb rfl) ?_;refine Zz (.int .i64 (o0.2.2.1)) rfl rfl (Tb rfl) ?_;refine Zz (.int .i64 (o0.2.2.2)) rfl rfl (Tb rfl) ?_;refine Um fun tF cX hall => ?_;have hs := hall.1;have hfr := hfr.ext hs;have b288 := b288.ext hs;have dX := (Qm (A := fun g w => RV g.m w kG tK) 1 rfl hall);clear hs hall;refine Zb (Zd ?_);obtain ⟨eF, hx, h⟩ := Ga h;refine Gp (fun e w => ∃ (g : Gh) , Fr gI wI g w ∧ e 6 = .bool (eF)) (fun Q' hQ => ?_) (fun sU iV hR => ?_)
    ·replace h := hx
     clear hx;rcases Zt h with ⟨l8, h⟩ | ⟨l8, h⟩
     ·rcases Zt h with ⟨n9, h⟩ | ⟨n9, h⟩
      ·rcases Zt h with ⟨aB, h⟩ | ⟨aB, h⟩
       ·rcases Zt h with ⟨n8, h⟩ | ⟨n8, h⟩
        ·refine Wt (x := .tmp 26) Try.isAgg51 Try.sizeOf51 b288 fun uK vK dI => ?_
         obtain ⟨l9, iI, h⟩ := Ga h;rcases Zt h with ⟨rE, h⟩ | ⟨rE, h⟩
         ·obtain ⟨vC, qM, h⟩ := Ga h
          rcases Zt h with ⟨bG, h⟩ | ⟨bG, h⟩
          ·obtain ⟨lG, eR, h⟩ := Ga h
           refine Tx (g := tF) (n := 29) [(19, (fun v g w => RV g.m w l9 v)), (23, (fun v g w => v = .bool (vC))), (26, (fun v g w => v = .bool (lG)))] [0, 1, 2, 3, 4, 5, 6, 7, 8, 9, 10, 11, 12, 13, 14, 15, 16, 17, 18, 19, 20, 21, 22, 23, 24, 25, 26, 27, 28] rfl Qq (by kernel_rfl) (⟨fun _ => Ym, fun _ => Wf _, fun _ => Wf _, trivial⟩) ?_;refine Zz (.int .i64 (y227.2.2.2)) rfl rfl (Zk rfl) ?_;refine Zz (.bool ((y227.2.2.2 == (0 : Int)))) rfl rfl (Gj rfl rfl rfl) ?_;refine Zz (.bool ((y227.2.2.2 == (0 : Int)))) rfl rfl (Zk rfl) ?_;refine L_y (.int .i64 (l5.2)) rfl rfl rfl rfl l8 (Zk rfl) ?_;refine L_y (.bool ((l5.2 == (0 : Int)))) rfl rfl rfl rfl l8 (Gj rfl rfl rfl) ?_;refine Zz (.bool ((l5.2 == (0 : Int)))) rfl rfl (Zl (b := (y227.2.2.2 == (0 : Int))) rfl (Tg l8 rfl)) ?_;refine Zz (.bool ((l5.2 == (0 : Int)))) rfl rfl (Zk rfl) ?_;refine L_y (.int .i64 (o0.2.2.2)) rfl rfl rfl rfl n9 (Zk rfl) ?_;refine L_y (.bool ((o0.2.2.2 == (0 : Int)))) rfl rfl rfl rfl n9 (Gj rfl rfl rfl) ?_;refine Zz (.bool ((o0.2.2.2 == (0 : Int)))) rfl rfl (Zl (b := (l5.2 == (0 : Int))) rfl (Tg n9 rfl)) ?_;refine Zz (.bool ((o0.2.2.2 == (0 : Int)))) rfl rfl (Zk rfl) ?_;refine L_y (.int .i64 (o0.2.2.1)) rfl rfl rfl rfl aB (Zk rfl) ?_;refine L_y (.int .i64 (y227.2.2.1)) rfl rfl rfl rfl aB (Zk rfl) ?_;refine L_y (.bool ((decide (o0.2.2.1 ≥ y227.2.2.1)))) rfl rfl rfl rfl aB (Gj rfl rfl rfl) ?_;refine Zz (.bool ((decide (o0.2.2.1 ≥ y227.2.2.1)))) rfl rfl (Zl (b := (o0.2.2.2 == (0 : Int))) rfl (Tg aB rfl)) ?_;refine Zz (.bool ((decide (o0.2.2.1 ≥ y227.2.2.1)))) rfl rfl (Zk rfl) ?_;refine Tt (c := uK) rfl rfl (.yes2 rfl rfl n8) (fun _ _ h => ⟨h.ch, fun b hb _ => h.below.block b hb⟩) dI rfl ?_;refine L_y (.int .i64 (y227.2.2.1)) rfl rfl rfl rfl n8 (Zk rfl) ?_;refine L_y (.int .i64 (o0.2.2.1)) rfl rfl rfl rfl n8 (Zk rfl) ?_;refine Ka (φ := fun v g w => RV g.m w l9 v) rfl rfl (.yes2 rfl rfl n8) (fun g w hd => Zp (g := g) (vs := [.int .i64 (y227.2.2.1), .int .i64 (o0.2.2.1)]) en14 (.cons rfl (.cons rfl .nil)) (wk14  iI) fun g' w' v hs hr => ⟨g', hs, hr⟩) (fun cF hv => ?_);obtain ⟨_, _, _, rq894⟩ := hv;refine Fe (c := .bool ((decide ((l5.1 : Kb) = l9)))) rfl rfl (.yes2 rfl rfl n8) (fun _ _ hd => Eg Au rfl Oh rfl rfl vK (Xw (A := fun g w => RV g.m w l9 cF) 19 rfl rfl (Hd hd))) ?_;refine Zz (.bool ((decide ((l5.1 : Kb) = l9)))) rfl rfl (Zl (b := (decide (o0.2.2.1 ≥ y227.2.2.1))) rfl (Tg n8 rfl)) ?_;refine Zz (.bool ((decide ((l5.1 : Kb) = l9)))) rfl rfl (Zk rfl) ?_;refine Ka (φ := fun v g w => v = .bool (vC)) rfl rfl (.yes2 rfl rfl rE) (fun g w hd => Zp (g := g) (vs := []) en15 .nil (wk15  qM) fun g' w' v hs hr => ⟨g', hs, hr⟩) (fun dU hv => ?_);obtain ⟨_, _, _, rfl⟩ := hv;refine Zz (.bool (vC)) rfl rfl (Zl (b := (decide ((l5.1 : Kb) = l9))) rfl (Tg rE rfl)) ?_;refine Zz (.bool (vC)) rfl rfl (Zk rfl) ?_;refine Ka (φ := fun v g w => v = .bool (lG)) rfl rfl (.yes2 rfl rfl bG) (fun g w hd => Zp (g := g) (vs := []) en16 .nil (wk16  eR) fun g' w' v hs hr => ⟨g', hs, hr⟩) (fun eX hv => ?_);obtain ⟨_, _, _, rfl⟩ := hv;refine Zz (.bool (lG)) rfl rfl (Zl (b := vC) rfl (Tg bG rfl)) ?_;refine Zz (.bool (lG)) rfl rfl (Tb rfl) ?_;refine Um fun eU gX hall => ?_;have hs := hall.1;have hfr := hfr.ext hs;have iX := (Qm (A := fun g w => RV g.m w l9 cF) 19 rfl hall);clear hs hall;refine Zb ?_;obtain rfl := sinj h;exact hQ _ _ ⟨eU, hfr, rfl⟩
          ·refine Tx (g := tF) (n := 29) [(19, (fun v g w => RV g.m w l9 v)), (23, (fun v g w => v = .bool (vC)))] [0, 1, 2, 3, 4, 5, 6, 7, 8, 9, 10, 11, 12, 13, 14, 15, 16, 17, 18, 19, 20, 21, 22, 23, 24, 25, 26, 27, 28] rfl Qq (by kernel_rfl) (⟨fun _ => Ym, fun _ => Wf _, trivial⟩) ?_
           refine Zz (.int .i64 (y227.2.2.2)) rfl rfl (Zk rfl) ?_;refine Zz (.bool ((y227.2.2.2 == (0 : Int)))) rfl rfl (Gj rfl rfl rfl) ?_;refine Zz (.bool ((y227.2.2.2 == (0 : Int)))) rfl rfl (Zk rfl) ?_;refine L_y (.int .i64 (l5.2)) rfl rfl rfl rfl l8 (Zk rfl) ?_;refine L_y (.bool ((l5.2 == (0 : Int)))) rfl rfl rfl rfl l8 (Gj rfl rfl rfl) ?_;refine Zz (.bool ((l5.2 == (0 : Int)))) rfl rfl (Zl (b := (y227.2.2.2 == (0 : Int))) rfl (Tg l8 rfl)) ?_;refine Zz (.bool ((l5.2 == (0 : Int)))) rfl rfl (Zk rfl) ?_;refine L_y (.int .i64 (o0.2.2.2)) rfl rfl rfl rfl n9 (Zk rfl) ?_;refine L_y (.bool ((o0.2.2.2 == (0 : Int)))) rfl rfl rfl rfl n9 (Gj rfl rfl rfl) ?_;refine Zz (.bool ((o0.2.2.2 == (0 : Int)))) rfl rfl (Zl (b := (l5.2 == (0 : Int))) rfl (Tg n9 rfl)) ?_;refine Zz (.bool ((o0.2.2.2 == (0 : Int)))) rfl rfl (Zk rfl) ?_;refine L_y (.int .i64 (o0.2.2.1)) rfl rfl rfl rfl aB (Zk rfl) ?_;refine L_y (.int .i64 (y227.2.2.1)) rfl rfl rfl rfl aB (Zk rfl) ?_;refine L_y (.bool ((decide (o0.2.2.1 ≥ y227.2.2.1)))) rfl rfl rfl rfl aB (Gj rfl rfl rfl) ?_;refine Zz (.bool ((decide (o0.2.2.1 ≥ y227.2.2.1)))) rfl rfl (Zl (b := (o0.2.2.2 == (0 : Int))) rfl (Tg aB rfl)) ?_;refine Zz (.bool ((decide (o0.2.2.1 ≥ y227.2.2.1)))) rfl rfl (Zk rfl) ?_;refine Tt (c := uK) rfl rfl (.yes2 rfl rfl n8) (fun _ _ h => ⟨h.ch, fun b hb _ => h.below.block b hb⟩) dI rfl ?_;refine L_y (.int .i64 (y227.2.2.1)) rfl rfl rfl rfl n8 (Zk rfl) ?_;refine L_y (.int .i64 (o0.2.2.1)) rfl rfl rfl rfl n8 (Zk rfl) ?_;refine Ka (φ := fun v g w => RV g.m w l9 v) rfl rfl (.yes2 rfl rfl n8) (fun g w hd => Zp (g := g) (vs := [.int .i64 (y227.2.2.1), .int .i64 (o0.2.2.1)]) en14 (.cons rfl (.cons rfl .nil)) (wk14  iI) fun g' w' v hs hr => ⟨g', hs, hr⟩) (fun cF hv => ?_);obtain ⟨_, _, _, rq894⟩ := hv;refine Fe (c := .bool ((decide ((l5.1 : Kb) = l9)))) rfl rfl (.yes2 rfl rfl n8) (fun _ _ hd => Eg Au rfl Oh rfl rfl vK (Xw (A := fun g w => RV g.m w l9 cF) 19 rfl rfl (Hd hd))) ?_;refine Zz (.bool ((decide ((l5.1 : Kb) = l9)))) rfl rfl (Zl (b := (decide (o0.2.2.1 ≥ y227.2.2.1))) rfl (Tg n8 rfl)) ?_;refine Zz (.bool ((decide ((l5.1 : Kb) = l9)))) rfl rfl (Zk rfl) ?_;refine Ka (φ := fun v g w => v = .bool (vC)) rfl rfl (.yes2 rfl rfl rE) (fun g w hd => Zp (g := g) (vs := []) en15 .nil (wk15  qM) fun g' w' v hs hr => ⟨g', hs, hr⟩) (fun dU hv => ?_);obtain ⟨_, _, _, rfl⟩ := hv;refine Zz (.bool (vC)) rfl rfl (Zl (b := (decide ((l5.1 : Kb) = l9))) rfl (Tg rE rfl)) ?_;refine Zz (.bool (vC)) rfl rfl (Zk rfl) ?_;refine L_s rfl rfl rfl bG rfl ?_;refine Zz (.bool false) rfl rfl (Zl (b := vC) rfl (Tq bG rfl)) ?_;refine Zz (.bool false) rfl rfl (Tb rfl) ?_;refine Um fun gU jX hall => ?_;have hs := hall.1;have hfr := hfr.ext hs;have jV := (Qm (A := fun g w => RV g.m w l9 cF) 19 rfl hall);clear hs hall;refine Zb ?_;obtain rfl := sinj h;exact hQ _ _ ⟨gU, hfr, rfl⟩
         ·refine Tx (g := tF) (n := 29) [(19, (fun v g w => RV g.m w l9 v))] [0, 1, 2, 3, 4, 5, 6, 7, 8, 9, 10, 11, 12, 13, 14, 15, 16, 17, 18, 19, 20, 21, 22, 23, 24, 25, 26, 27, 28] rfl Qq (by kernel_rfl) (⟨fun _ => Ym, trivial⟩) ?_
          refine Zz (.int .i64 (y227.2.2.2)) rfl rfl (Zk rfl) ?_;refine Zz (.bool ((y227.2.2.2 == (0 : Int)))) rfl rfl (Gj rfl rfl rfl) ?_;refine Zz (.bool ((y227.2.2.2 == (0 : Int)))) rfl rfl (Zk rfl) ?_;refine L_y (.int .i64 (l5.2)) rfl rfl rfl rfl l8 (Zk rfl) ?_;refine L_y (.bool ((l5.2 == (0 : Int)))) rfl rfl rfl rfl l8 (Gj rfl rfl rfl) ?_;refine Zz (.bool ((l5.2 == (0 : Int)))) rfl rfl (Zl (b := (y227.2.2.2 == (0 : Int))) rfl (Tg l8 rfl)) ?_;refine Zz (.bool ((l5.2 == (0 : Int)))) rfl rfl (Zk rfl) ?_;refine L_y (.int .i64 (o0.2.2.2)) rfl rfl rfl rfl n9 (Zk rfl) ?_;refine L_y (.bool ((o0.2.2.2 == (0 : Int)))) rfl rfl rfl rfl n9 (Gj rfl rfl rfl) ?_;refine Zz (.bool ((o0.2.2.2 == (0 : Int)))) rfl rfl (Zl (b := (l5.2 == (0 : Int))) rfl (Tg n9 rfl)) ?_;refine Zz (.bool ((o0.2.2.2 == (0 : Int)))) rfl rfl (Zk rfl) ?_;refine L_y (.int .i64 (o0.2.2.1)) rfl rfl rfl rfl aB (Zk rfl) ?_;refine L_y (.int .i64 (y227.2.2.1)) rfl rfl rfl rfl aB (Zk rfl) ?_;refine L_y (.bool ((decide (o0.2.2.1 ≥ y227.2.2.1)))) rfl rfl rfl rfl aB (Gj rfl rfl rfl) ?_;refine Zz (.bool ((decide (o0.2.2.1 ≥ y227.2.2.1)))) rfl rfl (Zl (b := (o0.2.2.2 == (0 : Int))) rfl (Tg aB rfl)) ?_;refine Zz (.bool ((decide (o0.2.2.1 ≥ y227.2.2.1)))) rfl rfl (Zk rfl) ?_;refine Tt (c := uK) rfl rfl (.yes2 rfl rfl n8) (fun _ _ h => ⟨h.ch, fun b hb _ => h.below.block b hb⟩) dI rfl ?_;refine L_y (.int .i64 (y227.2.2.1)) rfl rfl rfl rfl n8 (Zk rfl) ?_;refine L_y (.int .i64 (o0.2.2.1)) rfl rfl rfl rfl n8 (Zk rfl) ?_;refine Ka (φ := fun v g w => RV g.m w l9 v) rfl rfl (.yes2 rfl rfl n8) (fun g w hd => Zp (g := g) (vs := [.int .i64 (y227.2.2.1), .int .i64 (o0.2.2.1)]) en14 (.cons rfl (.cons rfl .nil)) (wk14  iI) fun g' w' v hs hr => ⟨g', hs, hr⟩) (fun cF hv => ?_);obtain ⟨_, _, _, rq894⟩ := hv;refine Fe (c := .bool ((decide ((l5.1 : Kb) = l9)))) rfl rfl (.yes2 rfl rfl n8) (fun _ _ hd => Eg Au rfl Oh rfl rfl vK (Xw (A := fun g w => RV g.m w l9 cF) 19 rfl rfl (Hd hd))) ?_;refine Zz (.bool ((decide ((l5.1 : Kb) = l9)))) rfl rfl (Zl (b := (decide (o0.2.2.1 ≥ y227.2.2.1))) rfl (Tg n8 rfl)) ?_;refine Zz (.bool ((decide ((l5.1 : Kb) = l9)))) rfl rfl (Zk rfl) ?_;refine L_s rfl rfl rfl rE rfl ?_;refine Zz (.bool false) rfl rfl (Zl (b := (decide ((l5.1 : Kb) = l9))) rfl (Tq rE rfl)) ?_;refine Ua (fun _ => rfl) 3 rfl ?_;refine Zz (.bool false) rfl rfl (Tb rfl) ?_;refine Um fun gR kV hall => ?_;have hs := hall.1;have hfr := hfr.ext hs;have lV := (Qm (A := fun g w => RV g.m w l9 cF) 19 rfl hall);clear hs hall;refine Zb ?_;obtain rfl := sinj h;exact hQ _ _ ⟨gR, hfr, rfl⟩
        ·refine Tx (g := tF) (n := 29) [] [0, 1, 2, 3, 4, 5, 6, 7, 8, 9, 10, 11, 12, 13, 14, 15, 16, 17, 18, 19, 20, 21, 22, 23, 24, 25, 26, 27, 28] rfl Qq (by kernel_rfl) trivial ?_
         refine Zz (.int .i64 (y227.2.2.2)) rfl rfl (Zk rfl) ?_;refine Zz (.bool ((y227.2.2.2 == (0 : Int)))) rfl rfl (Gj rfl rfl rfl) ?_;refine Zz (.bool ((y227.2.2.2 == (0 : Int)))) rfl rfl (Zk rfl) ?_;refine L_y (.int .i64 (l5.2)) rfl rfl rfl rfl l8 (Zk rfl) ?_;refine L_y (.bool ((l5.2 == (0 : Int)))) rfl rfl rfl rfl l8 (Gj rfl rfl rfl) ?_;refine Zz (.bool ((l5.2 == (0 : Int)))) rfl rfl (Zl (b := (y227.2.2.2 == (0 : Int))) rfl (Tg l8 rfl)) ?_;refine Zz (.bool ((l5.2 == (0 : Int)))) rfl rfl (Zk rfl) ?_;refine L_y (.int .i64 (o0.2.2.2)) rfl rfl rfl rfl n9 (Zk rfl) ?_;refine L_y (.bool ((o0.2.2.2 == (0 : Int)))) rfl rfl rfl rfl n9 (Gj rfl rfl rfl) ?_;refine Zz (.bool ((o0.2.2.2 == (0 : Int)))) rfl rfl (Zl (b := (l5.2 == (0 : Int))) rfl (Tg n9 rfl)) ?_;refine Zz (.bool ((o0.2.2.2 == (0 : Int)))) rfl rfl (Zk rfl) ?_;refine L_y (.int .i64 (o0.2.2.1)) rfl rfl rfl rfl aB (Zk rfl) ?_;refine L_y (.int .i64 (y227.2.2.1)) rfl rfl rfl rfl aB (Zk rfl) ?_;refine L_y (.bool ((decide (o0.2.2.1 ≥ y227.2.2.1)))) rfl rfl rfl rfl aB (Gj rfl rfl rfl) ?_;refine Zz (.bool ((decide (o0.2.2.1 ≥ y227.2.2.1)))) rfl rfl (Zl (b := (o0.2.2.2 == (0 : Int))) rfl (Tg aB rfl)) ?_;refine Zz (.bool ((decide (o0.2.2.1 ≥ y227.2.2.1)))) rfl rfl (Zk rfl) ?_;iterate 5 refine L_s rfl rfl rfl n8 rfl ?_
         refine Zz (.bool false) rfl rfl (Zl (b := (decide (o0.2.2.1 ≥ y227.2.2.1))) rfl (Tq n8 rfl)) ?_;refine Ua (fun _ => rfl) 6 rfl ?_;refine Zz (.bool false) rfl rfl (Tb rfl) ?_;refine Kr fun iR mV hs => ?_;have hfr := hfr.ext hs;clear hs;refine Zb ?_;obtain rfl := sinj h;exact hQ _ _ ⟨iR, hfr, rfl⟩
       ·refine Tx (g := tF) (n := 29) [] [0, 1, 2, 3, 4, 5, 6, 7, 8, 9, 10, 11, 12, 13, 14, 15, 16, 17, 18, 19, 20, 21, 22, 23, 24, 25, 26, 27, 28] rfl Qq (by kernel_rfl) trivial ?_
        refine Zz (.int .i64 (y227.2.2.2)) rfl rfl (Zk rfl) ?_;refine Zz (.bool ((y227.2.2.2 == (0 : Int)))) rfl rfl (Gj rfl rfl rfl) ?_;refine Zz (.bool ((y227.2.2.2 == (0 : Int)))) rfl rfl (Zk rfl) ?_;refine L_y (.int .i64 (l5.2)) rfl rfl rfl rfl l8 (Zk rfl) ?_;refine L_y (.bool ((l5.2 == (0 : Int)))) rfl rfl rfl rfl l8 (Gj rfl rfl rfl) ?_;refine Zz (.bool ((l5.2 == (0 : Int)))) rfl rfl (Zl (b := (y227.2.2.2 == (0 : Int))) rfl (Tg l8 rfl)) ?_;refine Zz (.bool ((l5.2 == (0 : Int)))) rfl rfl (Zk rfl) ?_;refine L_y (.int .i64 (o0.2.2.2)) rfl rfl rfl rfl n9 (Zk rfl) ?_;refine L_y (.bool ((o0.2.2.2 == (0 : Int)))) rfl rfl rfl rfl n9 (Gj rfl rfl rfl) ?_;refine Zz (.bool ((o0.2.2.2 == (0 : Int)))) rfl rfl (Zl (b := (l5.2 == (0 : Int))) rfl (Tg n9 rfl)) ?_;refine Zz (.bool ((o0.2.2.2 == (0 : Int)))) rfl rfl (Zk rfl) ?_;iterate 3 refine L_s rfl rfl rfl aB rfl ?_
        refine Zz (.bool false) rfl rfl (Zl (b := (o0.2.2.2 == (0 : Int))) rfl (Tq aB rfl)) ?_;refine Ua (fun _ => rfl) 13 rfl ?_;refine Zz (.bool false) rfl rfl (Tb rfl) ?_;refine Kr fun jR nV hs => ?_;have hfr := hfr.ext hs;clear hs;refine Zb ?_;obtain rfl := sinj h;exact hQ _ _ ⟨jR, hfr, rfl⟩
      ·refine Tx (g := tF) (n := 29) [] [0, 1, 2, 3, 4, 5, 6, 7, 8, 9, 10, 11, 12, 13, 14, 15, 16, 17, 18, 19, 20, 21, 22, 23, 24, 25, 26, 27, 28] rfl Qq (by kernel_rfl) trivial ?_
       refine Zz (.int .i64 (y227.2.2.2)) rfl rfl (Zk rfl) ?_;refine Zz (.bool ((y227.2.2.2 == (0 : Int)))) rfl rfl (Gj rfl rfl rfl) ?_;refine Zz (.bool ((y227.2.2.2 == (0 : Int)))) rfl rfl (Zk rfl) ?_;refine L_y (.int .i64 (l5.2)) rfl rfl rfl rfl l8 (Zk rfl) ?_;refine L_y (.bool ((l5.2 == (0 : Int)))) rfl rfl rfl rfl l8 (Gj rfl rfl rfl) ?_;refine Zz (.bool ((l5.2 == (0 : Int)))) rfl rfl (Zl (b := (y227.2.2.2 == (0 : Int))) rfl (Tg l8 rfl)) ?_;refine Zz (.bool ((l5.2 == (0 : Int)))) rfl rfl (Zk rfl) ?_;refine L_s rfl rfl rfl n9 rfl ?_;refine L_s rfl rfl rfl n9 rfl ?_;refine Zz (.bool false) rfl rfl (Zl (b := (l5.2 == (0 : Int))) rfl (Tq n9 rfl)) ?_;refine Ua (fun _ => rfl) 18 rfl ?_;refine Zz (.bool false) rfl rfl (Tb rfl) ?_;refine Kr fun lR oV hs => ?_;have hfr := hfr.ext hs;clear hs;refine Zb ?_;obtain rfl := sinj h;exact hQ _ _ ⟨lR, hfr, rfl⟩
     ·refine Tx (g := tF) (n := 29) [] [0, 1, 2, 3, 4, 5, 6, 7, 8, 9, 10, 11, 12, 13, 14, 15, 16, 17, 18, 19, 20, 21, 22, 23, 24, 25, 26, 27, 28] rfl Qq (by kernel_rfl) trivial ?_
      refine Zz (.int .i64 (y227.2.2.2)) rfl rfl (Zk rfl) ?_;refine Zz (.bool ((y227.2.2.2 == (0 : Int)))) rfl rfl (Gj rfl rfl rfl) ?_;refine Zz (.bool ((y227.2.2.2 == (0 : Int)))) rfl rfl (Zk rfl) ?_;refine L_s rfl rfl rfl l8 rfl ?_;refine L_s rfl rfl rfl l8 rfl ?_;refine Zz (.bool false) rfl rfl (Zl (b := (y227.2.2.2 == (0 : Int))) rfl (Tq l8 rfl)) ?_;refine Ua (fun _ => rfl) 22 rfl ?_;refine Zz (.bool false) rfl rfl (Tb rfl) ?_;refine Kr fun mR pV hs => ?_;have hfr := hfr.ext hs;clear hs;refine Zb ?_;obtain rfl := sinj h;exact hQ _ _ ⟨mR, hfr, rfl⟩
    ·clear hx
     obtain ⟨qV, hfr, pN⟩ := hR;refine Gq ?_;obtain rfl := sinj h;exact Qr rfl rfl (show _ = .bool (eF) from pN) ⟨_, hfr, rfl⟩
end Go.Proofs.Ytlmibfohllgmeaa
