import Derived.Test.YtlmibfohllgmeaaCode1
set_option maxRecDepth 8000
set_option maxHeartbeats 4000000
namespace Go.Proofs.Ytlmibfohllgmeaa
open Go.RowKit
def f69 (x0 : List Int) : Option (Bool) :=
 Option.bind (α := Bool) (
  (f84 x0).bind fun y9 =>
  bif y9 then
   (f86 x0).bind fun l8 =>
   (f85 l8).bind fun t5 =>
   some ((((t5).length : Int) == ((x0).length : Int)))
  else
   some (false)
  ) fun l5 =>
 some (l5)
theorem en69 : Enters Try.prog 69 := enters_of Try.func69 (by kernel_rfl) rfl
theorem wk69 {gI : Gh} {wI : World} {x0 : List Int} {up0 : Value} (rp0 : RV gI.m wI x0 up0) {r : Bool} (h : f69 x0 = some r) : Fn Try.prog 69 #[up0] gI wI (fun _ _ v => v = .bool (r)) := by
 unfold f69 at h;refine Gw Try.func69 rfl (Nat.le_of_ble_eq_true rfl) fun g0 hm hfr => ?_;have rp0 : RV g0.m wI x0 up0 := hm ▸ rp0;show E _ 14 none _ _ _ _ _;refine Zf (Za (Zg (.bool false) rfl rfl ?_));refine Zb (Zd ?_);obtain ⟨l5, hx, h⟩ := Ga h;refine Gp (fun e w => ∃ (g : Gh) , Fr gI wI g w ∧ e 2 = .bool (l5)) (fun Q' hQ => ?_) (fun vB w15 hR => ?_)
 ·replace h := hx
  clear hx;refine Za (Zn up0 rfl rfl ?_);obtain ⟨y9, n9, h⟩ := Ga h;refine Ze .plain rfl (Zp (g := g0) (vs := [up0]) en84 (.cons rfl .nil) (wk84 rp0 n9) fun g8 w8_ v8 hs hr => ?_);have hfr := hfr.ext hs;have rp0 := rp0.ext hs;subst hr;refine Zn (.bool (y9)) rfl rfl ?_;rcases Zt h with ⟨o0, h⟩ | ⟨o0, h⟩
  ·refine Zx up0 (Zk rfl) rfl rfl o0 rfl ?_
   obtain ⟨l8, n8, h⟩ := Ga h;refine Ze (.yes2 rfl rfl o0) rfl (Zp (g := g8) (vs := [up0]) en86 (.cons rfl .nil) (wk86 rp0 n8) fun aB yB lB hs hr => ?_);have hfr := hfr.ext hs;have rp0 := rp0.ext hs;have mB := hr;obtain ⟨t5, l9, h⟩ := Ga h;refine Ze (.yes2 rfl rfl o0) rfl (Zp (g := aB) (vs := [lB]) en85 (.cons rfl .nil) (wk85 mB l9) fun nB zB cC hs hr => ?_);have hfr := hfr.ext hs;have rp0 := rp0.ext hs;have oB := hr;refine Zx (.int .i64 ((t5).length : Int)) (Tu Try.underlying31 rfl oB) rfl rfl o0 rfl ?_;refine Zx up0 (Zk rfl) rfl rfl o0 rfl ?_;refine Zx (.int .i64 ((x0).length : Int)) (Tu Try.underlying31 rfl rp0) rfl rfl o0 rfl ?_;refine Zx (.bool ((((t5).length : Int) == ((x0).length : Int)))) (Gj rfl rfl rfl) rfl rfl o0 rfl ?_;refine Zw (.bool ((((t5).length : Int) == ((x0).length : Int)))) (Zl (b := y9) rfl (Tg o0 rfl)) rfl ?_;refine Zg (.bool ((((t5).length : Int) == ((x0).length : Int)))) rfl rfl ?_;refine Zb ?_;obtain rfl := sinj h;exact hQ _ _ ⟨nB, hfr, rfl⟩
  ·refine Zy rfl rfl o0 rfl rfl ?_
   iterate 6 refine Zy rfl rfl o0 rfl rfl ?_
   refine Zw (.bool false) (Zl (b := y9) rfl (Tq o0 rfl)) rfl ?_;refine Zg (.bool false) rfl rfl ?_;refine Zb ?_;obtain rfl := sinj h;exact hQ _ _ ⟨g8, hfr, rfl⟩
 ·clear hx
  obtain ⟨uC, hfr, i6⟩ := hR;refine Gq ?_;obtain rfl := sinj h;exact Qr rfl rfl (show _ = .bool (l5) from i6) ⟨_, hfr, rfl⟩
def f72 (x0 : Gb) (x1 : Int) (x2 : List (Int × Bool)) : Option (Int) :=
 (mks 8 (0 : Int) (((((x0).ChainBelt).Cards).length : Int))).bind fun y7 =>
 (idx y7 x1).bind fun pO =>
 Option.bind (α := Int) (
  (f87 x0 x1).bind fun yE =>
  (yE (Int × (List Int)) (fun (zB, cC) o0 =>
   Option.bind (α := (List Int)) (
    lp (σ := (List Int) × Int) (fun oJ (uC, i6) =>
     bif (decide (i6 < ((cC).length : Int))) then
      Option.bind (α := (List Int)) (
       (idx uC i6).bind fun n8 =>
       Option.bind (α := Bool) (
        bif (decide (n8 > (0 : Int))) then
         bif (!((Jv x2 o0).getD (false : Bool))) then
          (idx (((x0).ChainBelt).Cards) o0).bind fun iG =>
          (idx (((x0).ChainBelt).Cards) i6).bind fun jG =>
          some ((decide ((iG).Number > (jG).Number)))
         else
          some (false)
        else
         some (false)
        ) fun rE =>
       bif rE then
        (idx uC o0).bind fun kG =>
        (idx uC o0).bind fun sM =>
        some ((List.set uC (Int.toNat o0) ((Yn kG (w64 (n8 + (1 : Int)))))))
       else
        some (uC)
       ) fun rF =>
      oJ (rF, (w64 (i6 + (1 : Int))))
     else
      some (uC)
     ) big (cC, (0 : Int))
    ) fun sF =>
   (idx sF o0).bind fun lG =>
   some (true, ((Yn zB lG), sF))
   ) ((0 : Int), (List.set y7 (Int.toNat x1) ((1 : Int))))).bind fun (sH, uK) =>
  some (sH)
  ) fun tF =>
 some (tF)
theorem en72 : Enters Try.prog 72 := enters_of Try.func72 (by kernel_rfl) rfl
theorem wk72 {gI : Gh} {wI : World} {x0 : Gb} {x1 : Int} {x2 : List (Int × Bool)} {up0 : Value} (rp0 : RV gI.m wI x0 up0) {up2 : Value} (mq2 : MR (Value.int .i64) gI wI x2 up2) {r : Int} (h : f72 x0 x1 x2 = some r) : Fn Try.prog 72 #[up0, .int .i64 (x1), up2] gI wI (fun _ _ v => v = .int .i64 (r)) := by
 unfold f72 at h;refine Ae Try.func72 rfl (Nat.le_of_ble_eq_true rfl) fun g0 hm hfr => ?_;have hmk : MkF g0 wI [] := MkF.start;have rp0 : RV g0.m wI x0 up0 := hm ▸ rp0;have mq2 := MQ.enter mq2 hm hfr;show E _ 73 none _ _ _ _ _;refine Zf (Za (Ze .plain rfl (Qs (g := g0) rfl rp0 fun g1 w1 p1 hs q1 => ?_)));have hfr := hfr.ext hs;have hmk := hmk.ext hs;have mq2 := mq2.ext hs;have hone2 := MQ.one mq2;refine Ze .plain rfl (Qs (g := g1) (a := (⟨up2, hone2⟩ : Fv)) rfl (Uf.2 rfl) fun g2 w2 p2 hs q2 => ?_);have hfr := hfr.ext hs;have hmk := hmk.ext hs;have mq2 := mq2.ext hs;have q1 := q1.ext hs;have mqb2 := mq2;refine Ze .plain rfl (Ti (g := g2) 2006 (0 : Int) Try.zeroValue3 (fun m w => ⟨_, Zv, rfl⟩) fun g3 w3 p3 hs b3 cb => ?_);have hfr := hfr.stp hs;have hmk := hmk.stp hs;have q1 := q1.stp hs;have mqb2 := mqb2.stp hs;have q2 := q2.stp hs;clear cb;refine Zb (Zd (Zf (Za (Zw (Gk p1 0) (Zc Jr rfl (PT.ptr q1)) rfl ?_))));have q4 := Zm (Qe).1 q1;refine Zw (Gk (Gk p1 0) 1) (Zc Wm rfl (PT.ptr q4)) rfl ?_;have q5 := Zm (Tc).1 q4;refine Ze .plain rfl (Gf (g := g3) Try.isAgg25 Try.sizeOf25 rfl q5 fun v6 r6 => ?_);refine Zw (.int .i64 ((((x0).ChainBelt).Cards).length : Int)) (Tu Try.underlying25 rfl r6) rfl ?_;obtain ⟨y7, qO, h⟩ := Ga h;refine Ze .plain rfl (Ux (g := g3) 9015 (0 : Int) rfl Try.underlying31 Hi rfl (fun _ _ => rfl) rfl rfl qO fun g8 w8 v8 hs b8 => ?_);have hfr := hfr.stp hs;have hmk := hmk.stp hs;have q1 := q1.stp hs;have mqb2 := mqb2.stp hs;have q2 := q2.stp hs;have b3 := b3.stp hs rfl;refine Ze .plain rfl (Ti (g := g8) 2007 (⟨.slice none 0 0, rfl⟩ : Fv) Try.zeroValue31 (fun _ _ => Mk) fun g9 w9 p9 hs b9 cb => ?_);clear cb;have hfr := hfr.stp hs;have hmk := hmk.stp hs;have q1 := q1.stp hs;have mqb2 := mqb2.stp hs;have q2 := q2.stp hs;have b3 := b3.stp hs rfl;have b8 := b8.stp hs rfl;have z9 : OA 4007 g9 w9 3 ([] : List Int) (.slice none 0 0) := OA.nil;have on10 := Ah b8;refine Ze .plain rfl (Gm (g := g9) (v := v8) (a' := (⟨v8, on10⟩ : Fv)) Try.sizeOf31 rfl b9 rfl (Uf.2 rfl) fun yN eQ hs b10 cb => ?_);clear cb;have hfr := hfr.stp hs;have hmk := hmk.stp hs;have q1 := q1.stp hs;have mqb2 := mqb2.stp hs;have q2 := q2.stp hs;have b3 := b3.stp hs rfl;have b8 := b8.stp hs rfl;refine Zb (Zd (Zf (Za (Ze .plain rfl (Tk (α := Fv) (g := yN) Try.isAgg31 Try.sizeOf31 rfl b10 fun zN aO => ?_)))));have e11 : zN = v8 := Uf.1 aO;clear aO;subst zN;refine Zn (.int .i64 (x1)) rfl rfl ?_;obtain ⟨pO, xL, h⟩ := Ga h;refine Zw (Ty v8 x1 1) (Gx (α := Int) Try.underlying31 Try.sizeOf3 rfl b8 rfl xL) rfl ?_;refine Ze .plain rfl (Kz (g := yN) (α := Int) (a' := ((1 : Int))) Try.sizeOf3 rfl b8 xL rfl (Zj.2 rfl) fun bO gQ hs b13 => ?_);have hfr := hfr.stp hs;have hmk := hmk.stp hs;have q1 := q1.stp hs;have mqb2 := mqb2.stp hs;have q2 := q2.stp hs;have b3 := b3.stp hs rfl;have b10 := b10.stp hs rfl;refine Zb (Zd ?_);obtain ⟨tF, hx, h⟩ := Ga h;refine Mz (fun e ds w => ∃ (g : Gh) , Fr gI wI g w ∧ MkF g w ds ∧ e 6 = p3 ∧ OB 2006 g w 3 (tF : Int) p3 ∧ MQ (Value.int .i64) wI.heap.size g w (x2 : List (Int × Bool)) up2) (fun Q' hQ => ?_) (fun rO eO yO hR => ?_)
 ·replace h := hx
  clear hx;refine Zf (Za (Ze .plain rfl (Gf (g := bO) Try.isAgg66 Try.sizeOf66 rfl q1 fun tM uM => ?_)));refine Zn (.int .i64 (x1)) rfl rfl ?_;obtain ⟨yE, yL, h⟩ := Ga h;refine Ze .plain rfl (Zp (g := bO) (vs := [tM, .int .i64 (x1)]) en87 (.cons rfl (.cons rfl .nil)) (wk87 uM yL) fun zO sO zD hs hr => ?_);have hfr := hfr.ext hs;have hmk := hmk.ext hs;have q1 := q1.ext hs;have mqb2 := mqb2.ext hs;have q2 := q2.ext hs;have b3 := b3.ext hs;have b10 := b10.ext hs;have b13 := b13.ext hs;have pJ := hr;refine Zb (Zd (Zr ?_));have hB0 := hfr.size;have hmk0 := hmk;obtain ⟨⟨sH, uK⟩, hφ, h⟩ := Ga h;refine Sf (σ := (Int × (List Int))) (s0 := ((0 : Int), (List.set y7 (Int.toNat x1) ((1 : Int))))) 10 rfl (fun _ => 0) [] (fun (s : Int × (List Int)) (g : Gh) (w : World) => Fr gI wI g w ∧ MkF g w [] ∧ PT g.m w (x0 : Gb) p1 ∧ PT g.m w (⟨up2, hone2⟩ : Fv) p2 ∧ OB 2006 g w 3 (s.1 : Int) p3 ∧ BXF 2007 9015 g w 3 31 (⟨v8, on10⟩ : Fv) v8 (s.2 : List Int) p9 ∧ ItV Try.prog (RA1 (α := Int)) yE zD g.m w ∧ MQ (Value.int .i64) wI.heap.size g w (x2 : List (Int × Bool)) up2) rfl pJ hφ (fun _ _ _ _ => rfl) rfl Ep rfl (fun _ _ _ _ _ hx hR => by obtain ⟨hfr, hmk, z2, z3, z4, z5, z6, z7⟩ := hR; exact ⟨hfr.ist hx hB0, hmk.ist hx, z2.ist hx, z3.ist hx, z4.ist hx, z5.ist hx, z6.ist hx, z7.ist hx hB0⟩) (fun _ _ _ _ _ hx hR => by obtain ⟨hfr, hmk, z2, z3, z4, z5, z6, z7⟩ := hR; exact ⟨hfr.stp hx, hmk.stp hx, z2.stp hx, z3.stp hx, z4.stp hx rfl, z5.stp hx rfl, z6.stp hx, z7.stp hx⟩) ⟨hfr, hmk, q1, q2, b3, ⟨b10, b13⟩, pJ, mqb2⟩ (fun _ h => by cases h) ?_ ?_
  ·intro mG uF s x b s2 zE sG vs hsz h hR hrec_0 pI hrd
   obtain ⟨zB, cC⟩ := s;obtain ⟨hfr, hmk, yG, zG, aH, ⟨vF, xF⟩, gG, yD⟩ := hR;obtain ⟨o0, hxe⟩ : ∃ y, y = x := ⟨x, rfl⟩;subst hxe;obtain ⟨vK, rfl, qI⟩ := ra1_get hrd;obtain rfl : vK = .int .i64 (o0) := Zj.1 qI;have t5 := RFr.refl zE sG;refine Za (Zg (.int .i64 (o0)) rfl rfl ?_);refine Zb (Zd ?_);obtain ⟨vM, hbr, hs, hrN⟩ := Sm hrec_0 pI;refine ⟨vM, hbr, ?_⟩;have hfr := hfr.stp hs;have hmk := hmk.stp hs;have t5 := t5.stp hs;have yG := yG.stp hs;have zG := zG.stp hs;have aH := aH.stp hs rfl;have vF := vF.stp hs rfl;have xF := xF.stp hs rfl;have gG := gG.stp hs;have yD := yD.stp hs;have hrec_0 := hrN;clear hbr hs hrN;refine Zr ?_;obtain ⟨sF, hx, h⟩ := Ga h;refine Gp (fun e w => ∃ (g : Gh) , Fr gI wI g w ∧ MkF g w [] ∧ RFr zE sG g w ∧ HB 10 g w mG (.loop { uF with state := .busy }) ∧ e 3 = p1 ∧ PT g.m w (x0 : Gb) p1 ∧ e 5 = p2 ∧ PT g.m w (⟨up2, hone2⟩ : Fv) p2 ∧ e 6 = p3 ∧ OB 2006 g w 3 (zB : Int) p3 ∧ e 7 = p9 ∧ BXF 2007 9015 g w 3 31 (⟨v8, on10⟩ : Fv) v8 (sF : List Int) p9 ∧ e 8 = .int .i64 (o0) ∧ e 21 = zD ∧ ItV Try.prog (RA1 (α := Int)) yE zD g.m w ∧ MQ (Value.int .i64) wI.heap.size g w (x2 : List (Int × Bool)) up2) (fun Q' hQ => ?_) (fun tO aP hR => ?_)
   ·replace h := hx
    clear hx;refine Zf (Za (Ze .plain rfl (Tk (α := Fv) (g := zE) Try.isAgg31 Try.sizeOf31 rfl vF fun qJ rJ => ?_)));have e4721 : qJ = v8 := Uf.1 rJ;clear rJ;subst qJ;refine Zw (.int .i64 ((cC).length : Int)) (Rx Try.underlying31 rfl xF) rfl ?_;refine Zn (.int .i64 (0)) rfl rfl ?_;refine Zb (Zd (Zr ?_));refine Wv h (fun (s : (List Int) × Int) e w => ∃ (g : Gh) , Fr gI wI g w ∧ MkF g w [] ∧ RFr zE sG g w ∧ HB 10 g w mG (.loop { uF with state := .busy }) ∧ e 3 = p1 ∧ PT g.m w (x0 : Gb) p1 ∧ e 5 = p2 ∧ PT g.m w (⟨up2, hone2⟩ : Fv) p2 ∧ e 6 = p3 ∧ OB 2006 g w 3 (zB : Int) p3 ∧ e 7 = p9 ∧ BXF 2007 9015 g w 3 31 (⟨v8, on10⟩ : Fv) v8 (s.1 : List Int) p9 ∧ e 8 = .int .i64 (o0) ∧ e 21 = zD ∧ ItV Try.prog (RA1 (α := Int)) yE zD g.m w ∧ e 23 = v8 ∧ e 24 = .int .i64 (((cC).length : Int)) ∧ e 25 = .int .i64 (s.2) ∧ MQ (Value.int .i64) wI.heap.size g w (x2 : List (Int × Bool)) up2) ⟨zE, hfr, hmk, t5, hrec_0, rfl, yG, rfl, zG, rfl, aH, rfl, ⟨vF, xF⟩, rfl, rfl, gG, rfl, rfl, rfl, yD⟩ (fun X4722 oJ zL => ?_);rintro ⟨uC, i6⟩ uO bP ⟨xG, hfr, hmk, t5, hrec_0, aE, l9, bE, mB, yF, vB, aG, ⟨yB, n9⟩, bD, cF, lB, dF, eF, cD, l5⟩ h;refine Zf (Za (Gg (.bool ((decide (i6 < ((cC).length : Int))))) cD eF rfl rfl ?_));refine Zb (Zd (Zf ?_));rcases Zt h with ⟨kH, h⟩ | ⟨kH, h⟩
    ·refine Tn kH rfl ?_
     refine Zu (Zd ?_);obtain ⟨rF, hx, h⟩ := Ga h;refine Gp (fun e w => ∃ (g : Gh) , Fr gI wI g w ∧ MkF g w [] ∧ RFr zE sG g w ∧ HB 10 g w mG (.loop { uF with state := .busy }) ∧ e 3 = p1 ∧ PT g.m w (x0 : Gb) p1 ∧ e 5 = p2 ∧ PT g.m w (⟨up2, hone2⟩ : Fv) p2 ∧ e 6 = p3 ∧ OB 2006 g w 3 (zB : Int) p3 ∧ e 7 = p9 ∧ BXF 2007 9015 g w 3 31 (⟨v8, on10⟩ : Fv) v8 (rF : List Int) p9 ∧ e 8 = .int .i64 (o0) ∧ e 21 = zD ∧ ItV Try.prog (RA1 (α := Int)) yE zD g.m w ∧ e 23 = v8 ∧ e 24 = .int .i64 (((cC).length : Int)) ∧ e 25 = .int .i64 (i6) ∧ MQ (Value.int .i64) wI.heap.size g w (x2 : List (Int × Bool)) up2) (fun Q' hQ => ?_) (fun vO cP hR => ?_)
     ·replace h := hx
      clear hx;refine Zr ?_;refine Zf (Za (Zo cD rfl ?_));obtain ⟨n8, dI, h⟩ := Ga h;refine Zw (Ty v8 i6 1) (Gx (α := Int) Try.underlying31 Try.sizeOf3 dF n9 cD dI) rfl ?_;refine Ze .plain rfl (Fp (g := xG) Try.isAgg3 Try.sizeOf3 rfl n9 dI fun dP xM => ?_);obtain rfl := Zj.1 xM;refine Zg (.int .i64 (i6)) rfl rfl ?_;refine Zg (.int .i64 (n8)) rfl rfl ?_;refine Zb (Zd ?_);obtain ⟨rE, hx, h⟩ := Ga h;refine Gp (fun e w => ∃ (g : Gh) , Fr gI wI g w ∧ MkF g w [] ∧ RFr zE sG g w ∧ HB 10 g w mG (.loop { uF with state := .busy }) ∧ e 3 = p1 ∧ PT g.m w (x0 : Gb) p1 ∧ e 5 = p2 ∧ PT g.m w (⟨up2, hone2⟩ : Fv) p2 ∧ e 6 = p3 ∧ OB 2006 g w 3 (zB : Int) p3 ∧ e 7 = p9 ∧ BXF 2007 9015 g w 3 31 (⟨v8, on10⟩ : Fv) v8 (uC : List Int) p9 ∧ e 8 = .int .i64 (o0) ∧ e 10 = .int .i64 (n8) ∧ e 21 = zD ∧ ItV Try.prog (RA1 (α := Int)) yE zD g.m w ∧ e 23 = v8 ∧ e 24 = .int .i64 (((cC).length : Int)) ∧ e 25 = .int .i64 (i6) ∧ e 54 = .bool (rE) ∧ MQ (Value.int .i64) wI.heap.size g w (x2 : List (Int × Bool)) up2) (fun Q' hQ => ?_) (fun xO eP hR => ?_)
      ·replace h := hx
       clear hx;rcases Zt h with ⟨nB, h⟩ | ⟨nB, h⟩
       ·refine Zs (α := Fv) (x := .tmp 5) Try.isAgg110 Try.sizeOf110 mB fun sJ vJ iI => ?_
        have e5203 : sJ = up2 := Uf.1 vJ;clear vJ;subst sJ;rcases Zt h with ⟨l8, h⟩ | ⟨l8, h⟩
        ·have xJ := Zm (Qe).1 l9
         have bN := Zm (Tc).1 xJ;refine Zs (x := .tmp 40) Try.isAgg25 Try.sizeOf25 bN fun aI zJ aM => ?_;obtain ⟨iG, jI, h⟩ := Ga h;have aK := Tp zJ jI;have cN := Zm (Jc).1 aK;refine Zs (x := .tmp 44) Try.isAgg3 Try.sizeOf3 cN fun gP dN bM => ?_;obtain rfl := Zj.1 dN;have bK := Zm (Qe).1 l9;have eN := Zm (Tc).1 bK;refine Zs (x := .tmp 47) Try.isAgg25 Try.sizeOf25 eN fun bI cK cM => ?_;obtain ⟨jG, kI, h⟩ := Ga h;have dK := Tp cK kI;have gN := Zm (Jc).1 dK;refine Zs (x := .tmp 51) Try.isAgg3 Try.sizeOf3 gN fun iP iN dM => ?_;obtain rfl := Zj.1 iN;refine Tx (g := xG) (n := 25) [(5, (fun v _ _ => v = .bool (((Jv x2 o0).getD (false : Bool)))))] [0, 1, 2, 3, 4, 5, 6, 7, 8, 9, 10, 11, 12, 13, 14, 15, 16, 17, 18, 19, 20, 21, 22, 23, 24] rfl Qq (by kernel_rfl) (⟨fun _ => Wf _, trivial⟩) ?_;refine Zz (.int .i64 (n8)) rfl rfl (Zk rfl) ?_;refine Zz (.bool ((decide (n8 > (0 : Int))))) rfl rfl (Gj rfl rfl rfl) ?_;refine Zz (.bool ((decide (n8 > (0 : Int))))) rfl rfl (Zk rfl) ?_;refine Tt (c := up2) rfl rfl (.yes2 rfl rfl nB) (fun _ _ h => h.ch) iI bE ?_;refine L_y (.int .i64 (o0)) rfl rfl rfl rfl nB (Zk bD) ?_;refine Ka (φ := (fun v _ _ => v = .bool (((Jv x2 o0).getD (false : Bool))))) rfl rfl (.yes2 rfl rfl nB) (fun g w hd => Bx (g := g) (z0 := (false : Bool)) Try.underlying110 Rs Try.zeroValue4 (fun m w => ⟨_, Hp, rfl⟩) rfl (l5.ext hd.1).r rfl fun v r => ⟨g, Ext.refl g w, Kl.1 r⟩) (fun jN hv => ?_);obtain ⟨_, _, _, rfl⟩ := hv;refine L_y (.bool (!((Jv x2 o0).getD (false : Bool)))) rfl rfl rfl rfl nB (Wh rfl) ?_;refine Zz (.bool (!((Jv x2 o0).getD (false : Bool)))) rfl rfl (Zl (b := (decide (n8 > (0 : Int)))) rfl (Tg nB rfl)) ?_;refine Zz (.bool (!((Jv x2 o0).getD (false : Bool)))) rfl rfl (Zk rfl) ?_;refine L_y (Gk p1 0) rfl rfl rfl rfl l8 (Zc Jr aE (PT.ptr l9)) ?_;refine L_y (Gk (Gk p1 0) 1) rfl rfl rfl rfl l8 (Zc Wm rfl (PT.ptr xJ)) ?_;refine Tt (c := aI) rfl rfl (.yes2 rfl rfl l8) (fun _ _ h => h.ch) aM rfl ?_;refine L_y (.int .i64 (o0)) rfl rfl rfl rfl l8 (Zk bD) ?_;refine L_y (Ty aI o0 3) rfl rfl rfl rfl l8 (Zh (α := Gc) Try.underlying25 Try.sizeOf60 rfl zJ rfl jI) ?_;refine L_y (Gk (Ty aI o0 3) 0) rfl rfl rfl rfl l8 (Zc Sx rfl (PT.ptr aK)) ?_;refine Tt (c := .int .i64 ((iG).Number)) rfl rfl (.yes2 rfl rfl l8) (fun _ _ h => h.ch) bM rfl ?_;refine L_y (Gk p1 0) rfl rfl rfl rfl l8 (Zc Jr aE (PT.ptr l9)) ?_;refine L_y (Gk (Gk p1 0) 1) rfl rfl rfl rfl l8 (Zc Wm rfl (PT.ptr bK)) ?_;refine Tt (c := bI) rfl rfl (.yes2 rfl rfl l8) (fun _ _ h => h.ch) cM rfl ?_;refine L_y (.int .i64 (i6)) rfl rfl rfl rfl l8 (Zk rfl) ?_;refine L_y (Ty bI i6 3) rfl rfl rfl rfl l8 (Zh (α := Gc) Try.underlying25 Try.sizeOf60 rfl cK rfl kI) ?_;refine L_y (Gk (Ty bI i6 3) 0) rfl rfl rfl rfl l8 (Zc Sx rfl (PT.ptr dK)) ?_;refine Tt (c := .int .i64 ((jG).Number)) rfl rfl (.yes2 rfl rfl l8) (fun _ _ h => h.ch) dM rfl ?_;refine L_y (.bool ((decide ((iG).Number > (jG).Number)))) rfl rfl rfl rfl l8 (Gj rfl rfl rfl) ?_;refine Zz (.bool ((decide ((iG).Number > (jG).Number)))) rfl rfl (Zl (b := (!((Jv x2 o0).getD (false : Bool)))) rfl (Tg l8 rfl)) ?_;refine Kr fun kN jP hs => ?_;have hfr := hfr.ext hs;have hmk := hmk.ext hs;have t5 := t5.ext hs;have hrec_0 := hrec_0.ext hs;have l9 := l9.ext hs;have mB := mB.ext hs;have vB := vB.ext hs;have yB := yB.ext hs;have n9 := n9.ext hs;have lB := lB.ext hs;have l5 := l5.ext hs;clear hs;refine Zb ?_;obtain rfl := sinj h;exact hQ _ _ ⟨kN, hfr, hmk, t5, hrec_0, aE, l9, bE, mB, yF, vB, aG, ⟨yB, n9⟩, bD, rfl, cF, lB, dF, eF, cD, rfl, l5⟩
        ·refine Tx (g := xG) (n := 25) [(5, (fun v _ _ => v = .bool (((Jv x2 o0).getD (false : Bool)))))] [0, 1, 2, 3, 4, 5, 6, 7, 8, 9, 10, 11, 12, 13, 14, 15, 16, 17, 18, 19, 20, 21, 22, 23, 24] rfl Qq (by kernel_rfl) (⟨fun _ => Wf _, trivial⟩) ?_
         refine Zz (.int .i64 (n8)) rfl rfl (Zk rfl) ?_;refine Zz (.bool ((decide (n8 > (0 : Int))))) rfl rfl (Gj rfl rfl rfl) ?_;refine Zz (.bool ((decide (n8 > (0 : Int))))) rfl rfl (Zk rfl) ?_;refine Tt (c := up2) rfl rfl (.yes2 rfl rfl nB) (fun _ _ h => h.ch) iI bE ?_;refine L_y (.int .i64 (o0)) rfl rfl rfl rfl nB (Zk bD) ?_;refine Ka (φ := (fun v _ _ => v = .bool (((Jv x2 o0).getD (false : Bool))))) rfl rfl (.yes2 rfl rfl nB) (fun g w hd => Bx (g := g) (z0 := (false : Bool)) Try.underlying110 Rs Try.zeroValue4 (fun m w => ⟨_, Hp, rfl⟩) rfl (l5.ext hd.1).r rfl fun v r => ⟨g, Ext.refl g w, Kl.1 r⟩) (fun jN hv => ?_);obtain ⟨_, _, _, rfl⟩ := hv;refine L_y (.bool (!((Jv x2 o0).getD (false : Bool)))) rfl rfl rfl rfl nB (Wh rfl) ?_;refine Zz (.bool (!((Jv x2 o0).getD (false : Bool)))) rfl rfl (Zl (b := (decide (n8 > (0 : Int)))) rfl (Tg nB rfl)) ?_;refine Zz (.bool (!((Jv x2 o0).getD (false : Bool)))) rfl rfl (Zk rfl) ?_;iterate 15 refine L_s rfl rfl rfl l8 rfl ?_
         refine Zz (.bool false) rfl rfl (Zl (b := (!((Jv x2 o0).getD (false : Bool)))) rfl (Tq l8 rfl)) ?_;refine Kr fun lN kP hs => ?_;have hfr := hfr.ext hs;have hmk := hmk.ext hs;have t5 := t5.ext hs;have hrec_0 := hrec_0.ext hs;have l9 := l9.ext hs;have mB := mB.ext hs;have vB := vB.ext hs;have yB := yB.ext hs;have n9 := n9.ext hs;have lB := lB.ext hs;have l5 := l5.ext hs;clear hs;refine Zb ?_;obtain rfl := sinj h;exact hQ _ _ ⟨lN, hfr, hmk, t5, hrec_0, aE, l9, bE, mB, yF, vB, aG, ⟨yB, n9⟩, bD, rfl, cF, lB, dF, eF, cD, rfl, l5⟩
       ·refine Tx (g := xG) (n := 25) [] [0, 1, 2, 3, 4, 5, 6, 7, 8, 9, 10, 11, 12, 13, 14, 15, 16, 17, 18, 19, 20, 21, 22, 23, 24] rfl Qq (by kernel_rfl) trivial ?_
        refine Zz (.int .i64 (n8)) rfl rfl (Zk rfl) ?_;refine Zz (.bool ((decide (n8 > (0 : Int))))) rfl rfl (Gj rfl rfl rfl) ?_;refine Zz (.bool ((decide (n8 > (0 : Int))))) rfl rfl (Zk rfl) ?_;iterate 4 refine L_s rfl rfl rfl nB rfl ?_
        refine Zz (.bool false) rfl rfl (Zl (b := (decide (n8 > (0 : Int)))) rfl (Tq nB rfl)) ?_;refine Ua (fun _ => rfl) 17 rfl ?_;refine Kr fun mN lP hs => ?_;have hfr := hfr.ext hs;have hmk := hmk.ext hs;have t5 := t5.ext hs;have hrec_0 := hrec_0.ext hs;have l9 := l9.ext hs;have mB := mB.ext hs;have vB := vB.ext hs;have yB := yB.ext hs;have n9 := n9.ext hs;have lB := lB.ext hs;have l5 := l5.ext hs;clear hs;refine Zb ?_;obtain rfl := sinj h;exact hQ _ _ ⟨mN, hfr, hmk, t5, hrec_0, aE, l9, bE, mB, yF, vB, aG, ⟨yB, n9⟩, bD, rfl, cF, lB, dF, eF, cD, rfl, l5⟩
      ·clear hx
       obtain ⟨lK, hfr, hmk, t5, hrec_0, tH, iE, uH, lE, xH, mE, bG, ⟨vC, lD⟩, cG, sI, lH, nD, mH, nH, oH, pH, aB⟩ := hR;rcases Zt h with ⟨qH, h⟩ | ⟨qH, h⟩
       ·refine Tv (Eq.trans (show ev _ _ = .bool (rE) from pH) (congrArg Value.bool qH)) ?_
        refine Wt (α := Fv) (x := .tmp 7) Try.isAgg31 Try.sizeOf31 vC fun mK nK eM => ?_;have e5351 : mK = v8 := Uf.1 nK;clear nK;subst mK;refine Wt (α := Fv) (x := .tmp 7) Try.isAgg31 Try.sizeOf31 vC fun oK pK iM => ?_;have e5352 : oK = v8 := Uf.1 pK;clear pK;subst oK;obtain ⟨kG, lI, h⟩ := Ga h;refine Ww (x := .tmp 59) Try.isAgg3 Try.sizeOf3 lD lI fun mP nN jM => ?_;obtain rfl := Zj.1 nN;obtain ⟨sM, mI, h⟩ := Ga h;refine Tx (g := lK) (n := 10) [] [0, 1, 2, 3, 4, 5, 6, 7, 8, 9] rfl Qq (by kernel_rfl) trivial ?_;refine Tt (c := v8) rfl rfl .plain (fun _ _ h => ⟨h.ch, fun b hb _ => h.below.block b hb⟩) eM bG ?_;refine Zz (.int .i64 (o0)) rfl rfl (Zk cG) ?_;refine Tt (c := v8) rfl rfl .plain (fun _ _ h => ⟨h.ch, fun b hb _ => h.below.block b hb⟩) iM bG ?_;refine Zz (.int .i64 (o0)) rfl rfl (Zk cG) ?_;refine Zz (Ty v8 o0 1) rfl rfl (Gx (α := Int) Try.underlying31 Try.sizeOf3 rfl lD rfl lI) ?_;refine Tt (c := .int .i64 (kG)) rfl rfl .plain (fun _ _ h => ⟨h.ch, fun b hb _ => h.below.block b hb⟩) jM rfl ?_;refine Zz (.int .i64 (n8)) rfl rfl (Zk sI) ?_;refine Zz (.int .i64 ((w64 (n8 + (1 : Int))))) rfl rfl (Gj rfl rfl rfl) ?_;refine Zz (.int .i64 (Yn kG (w64 (n8 + (1 : Int))))) rfl rfl (Mi rfl rfl) ?_;refine Zz (Ty v8 o0 1) rfl rfl (Gx (α := Int) Try.underlying31 Try.sizeOf3 rfl lD rfl mI) ?_;refine Kr fun oN nP hs => ?_;have hfr := hfr.ext hs;have hmk := hmk.ext hs;have t5 := t5.ext hs;have hrec_0 := hrec_0.ext hs;have iE := iE.ext hs;have lE := lE.ext hs;have mE := mE.ext hs;have vC := vC.ext hs;have lD := lD.ext hs;have nD := nD.ext hs;have aB := aB.ext hs;clear hs;refine Ze .plain rfl (Kz (g := oN) (α := Int) (a' := ((Yn kG (w64 (n8 + (1 : Int)))))) Try.sizeOf3 rfl lD mI rfl (Zj.2 rfl) fun pN oP hs b5380 => ?_);have hfr := hfr.stp hs;have hmk := hmk.stp hs;have t5 := t5.stp hs;have hrec_0 := hrec_0.stp hs rfl;have iE := iE.stp hs;have lE := lE.stp hs;have mE := mE.stp hs rfl;have vC := vC.stp hs rfl;have nD := nD.stp hs;have aB := aB.stp hs;refine Zb (Ts ?_);obtain rfl := sinj h;exact hQ _ _ ⟨pN, hfr, hmk, t5, hrec_0, tH, iE, uH, lE, xH, mE, bG, ⟨vC, b5380⟩, cG, lH, nD, mH, nH, oH, aB⟩
       ·refine Tj (Eq.trans (show ev _ _ = .bool (rE) from pH) (congrArg Value.bool qH)) ?_
        refine Zu (Ts ?_);obtain rfl := sinj h;exact hQ _ _ ⟨lK, hfr, hmk, t5, hrec_0, tH, iE, uH, lE, xH, mE, bG, ⟨vC, lD⟩, cG, lH, nD, mH, nH, oH, aB⟩
     ·clear hx
      obtain ⟨qN, hfr, hmk, t5, hrec_0, xK, yK, zK, aL, bL, dL, eL, ⟨gL, iL⟩, jL, jJ, kJ, lJ, mJ, nJ, gH⟩ := hR;refine Za (Gg (.int .i64 ((w64 (i6 + (1 : Int))))) nJ rfl rfl rfl ?_);refine Zn (.int .i64 ((w64 (i6 + (1 : Int))))) rfl rfl ?_;exact Zb (Zd (zL (rF, (w64 (i6 + (1 : Int)))) _ _ ⟨qN, hfr, hmk, t5, hrec_0, xK, yK, zK, aL, bL, dL, eL, ⟨gL, iL⟩, jL, jJ, kJ, lJ, mJ, rfl, gH⟩ h))
    ·refine To kH rfl ?_
     refine Qc ?_;refine Tf ?_;refine Tf ?_;refine Tl ?_;obtain rfl := sinj h;exact hQ _ _ ⟨xG, hfr, hmk, t5, hrec_0, aE, l9, bE, mB, yF, vB, aG, ⟨yB, n9⟩, bD, cF, lB, l5⟩
   ·clear hx
    obtain ⟨rN, hfr, hmk, t5, hrec_0, gO, vE, jO, xE, yH, eG, lL, ⟨oE, oD⟩, mL, cO, uE, oB⟩ := hR;refine Wt (x := .tmp 6) Try.isAgg3 Try.sizeOf3 eG fun pP sN kM => ?_;obtain rfl := Zj.1 sN;refine Wt (α := Fv) (x := .tmp 7) Try.isAgg31 Try.sizeOf31 oE fun qK sK pM => ?_;have e5384 : qK = v8 := Uf.1 sK;clear sK;subst qK;obtain ⟨lG, nI, h⟩ := Ga h;refine Ww (x := .tmp 69) Try.isAgg3 Try.sizeOf3 oD nI fun sP tN qM => ?_;obtain rfl := Zj.1 tN;refine Tx (g := rN) (n := 6) [] [0, 1, 2, 3, 4, 5] rfl Qq (by kernel_rfl) trivial ?_;refine Tt (c := .int .i64 (zB)) rfl rfl .plain (fun _ _ h => ⟨h.ch, fun b hb _ => h.below.block b hb⟩) kM yH ?_;refine Tt (c := v8) rfl rfl .plain (fun _ _ h => ⟨h.ch, fun b hb _ => h.below.block b hb⟩) pM lL ?_;refine Zz (.int .i64 (o0)) rfl rfl (Zk mL) ?_;refine Zz (Ty v8 o0 1) rfl rfl (Gx (α := Int) Try.underlying31 Try.sizeOf3 rfl oD rfl nI) ?_;refine Tt (c := .int .i64 (lG)) rfl rfl .plain (fun _ _ h => ⟨h.ch, fun b hb _ => h.below.block b hb⟩) qM rfl ?_;refine Zz (.int .i64 (Yn zB lG)) rfl rfl (Mi rfl rfl) ?_;refine Kr fun uN tP hs => ?_;have hfr := hfr.ext hs;have hmk := hmk.ext hs;have t5 := t5.ext hs;have hrec_0 := hrec_0.ext hs;have vE := vE.ext hs;have xE := xE.ext hs;have eG := eG.ext hs;have oE := oE.ext hs;have oD := oD.ext hs;have uE := uE.ext hs;have oB := oB.ext hs;clear hs;refine Ze .plain rfl (Gm (g := uN) (v := .int .i64 (Yn zB lG)) Try.sizeOf3 yH eG rfl (Zj.2 rfl) fun uP vP hs b5402 cb => ?_);clear cb;have hfr := hfr.stp hs;have hmk := hmk.stp hs;have t5 := t5.stp hs;have hrec_0 := hrec_0.stp hs rfl;have vE := vE.stp hs;have xE := xE.stp hs;have oE := oE.stp hs rfl;have oD := oD.stp hs rfl;have uE := uE.stp hs;have oB := oB.stp hs;refine Zb (Ts ?_);obtain ⟨rfl, rfl⟩ := Hn h;exact ⟨_, t5, ⟨hfr, hmk, vE, xE, b5402, ⟨oE, oD⟩, uE, oB⟩, hrec_0, rfl, rfl⟩
  ·intro vN xP ds5404 hsz hR hds
   obtain ⟨hfr, hmk, kO, lO, nL, ⟨mO, nO⟩, dO, jH⟩ := hR;obtain ⟨D, hdse, hD, hDb⟩ := hds.1 rfl;subst hdse;replace hmk := MkF.push hmk0 hmk hD hDb;clear hD hDb hds;revert hmk;generalize ({ target := .collected D, args := #[] } :: [] : List Deferred) = oO;intro hmk;refine ⟨fun _ => ?_, fun k c hs _ => absurd hs (Nat.succ_ne_zero k).symm⟩;refine Ts ?_;obtain rfl := sinj h;exact hQ _ _ _ ⟨vN, hfr, hmk, rfl, nL, jH⟩
 ·clear hx
  obtain ⟨tK, hfr, hmk, cH, zH, oL⟩ := hR;refine Zf (Za (Ze .plain rfl (Tk (g := tK) Try.isAgg3 Try.sizeOf3 cH zH fun yP xN => ?_)));obtain rfl := Zj.1 xN;refine Ze .plain rfl (Gm (g := tK) (v := .int .i64 (tF)) Try.sizeOf3 cH zH rfl (Zj.2 rfl) fun zP bQ hs b5407 cb => ?_);clear cb;have hfr := hfr.stp hs;have hmk := hmk.stp hs;refine Zb (Zd (Gq (endM (.inr rfl) hmk fun cQ dQ hs => ?_)));have hfr := hfr.stp hs;have b5407 := b5407.stp hs rfl;obtain rfl := sinj h;obtain ⟨ad5409, cv5409, hp5409, rM, cr5409⟩ := Ql Try.isAgg3 Try.sizeOf3 b5407;obtain rfl := Zj.1 cr5409;exact Bp rfl rfl ((show _ = p3 from cH).trans hp5409) rM ⟨_, hfr, rfl⟩
def f90 : Nat → (List Int) → (Int) → (Int) → (Int) → (Int → Int → Option Int) → Option ((List Int))
 | 0, _, _, _, _, _ => none
 | n + 1, x0, x1, x2, x3, x4 =>
  jn (σ := (List Int)) (fun vB =>
   jn (σ := (List Int)) (fun nB =>
    (Hz ((Qk (w64 (x1 + x3)))) ((1 : Int))).bind fun l5 =>
    Option.bind (α := Int × Int) (
     bif (decide (x2 > (w64 l5))) then
      some ((w64 ((w64 ((w64 l5) + x2)) - x3)), (w64 l5))
     else
      some (x1, x2)
     ) fun (yF, aG) =>
    Option.bind (α := Int) (
     lp (σ := Int × Int) (fun xN (l8, l9) =>
      jn (σ := Unit) (fun _ =>
       (Hz ((Qk (w64 (l8 + l9)))) ((1 : Int))).bind fun g8 =>
       (idx nB (w64 ((w64 ((w64 ((w64 l5) + x2)) - (1 : Int))) - (w64 g8)))).bind fun zJ =>
       (idx nB (w64 g8)).bind fun aK =>
       (x4 zJ aK).bind fun bG =>
       bif (!(decide (bG < (0 : Int)))) then
        xN ((w64 ((w64 g8) + (1 : Int))), l9)
       else
        xN (l8, (w64 g8))
       ) fun nP =>
      bif (decide (l8 < l9)) then
       nP ()
      else
       some (l8)
      ) big (yF, aG)
     ) fun o0 =>
    Option.bind (α := (List Int)) (
     Option.bind (α := Bool) (
      bif (decide (o0 < x2)) then
       some ((decide (x2 < (w64 ((w64 ((w64 l5) + x2)) - o0)))))
      else
       some (false)
      ) fun zD =>
     bif zD then
      (f97 nB o0 x2 ((w64 ((w64 ((w64 l5) + x2)) - o0))) x4).bind fun oP =>
      some (oP)
     else
      some (nB)
     ) fun mE =>
    Option.bind (α := (List Int)) (
     Option.bind (α := Bool) (
      bif (decide (x1 < o0)) then
       some ((decide (o0 < (w64 l5))))
      else
       some (false)
      ) fun aE =>
     bif aE then
      (f90 n mE x1 o0 ((w64 l5)) x4).bind fun pP =>
      some (pP)
     else
      some (mE)
     ) fun oE =>
    Option.bind (α := Bool) (
     bif (decide ((w64 l5) < (w64 ((w64 ((w64 l5) + x2)) - o0)))) then
      some ((decide ((w64 ((w64 ((w64 l5) + x2)) - o0)) < x3)))
     else
      some (false)
     ) fun bE =>
    bif bE then
     (f90 n oE ((w64 l5)) ((w64 ((w64 ((w64 l5) + x2)) - o0))) x3 x4).bind fun sP =>
     some (sP)
    else
     some (oE)
    ) fun tP =>
   bif ((w64 (x3 - x2)) == (1 : Int)) then
    Option.bind (α := Int) (
     lp (σ := Int × Int) (fun yN (n8, n9) =>
      jn (σ := Unit) (fun _ =>
       (Hz ((Qk (w64 (n8 + n9)))) ((1 : Int))).bind fun lB =>
       (idx vB x2).bind fun bK =>
       (idx vB (w64 lB)).bind fun cK =>
       (x4 bK cK).bind fun cG =>
       bif (!(decide (cG < (0 : Int)))) then
        yN ((w64 ((w64 lB) + (1 : Int))), n9)
       else
        yN (n8, (w64 lB))
       ) fun uP =>
      bif (decide (n8 < n9)) then
       uP ()
      else
       some (n8)
      ) big (x1, x2)
     ) fun yB =>
    Option.bind (α := (List Int)) (
     lp (σ := (List Int) × Int) (fun vP (zB, t5) =>
      jn (σ := Unit) (fun _ =>
       Option.bind (α := (List Int)) (
        (idx zB (w64 (t5 - (1 : Int)))).bind fun zG =>
        (idx zB t5).bind fun dK =>
        (idx zB t5).bind fun zT =>
        (idx ((List.set zB (Int.toNat t5) zG)) (w64 (t5 - (1 : Int)))).bind fun aU =>
        some ((List.set ((List.set zB (Int.toNat t5) zG)) (Int.toNat (w64 (t5 - (1 : Int)))) dK))
        ) fun cF =>
       vP (cF, (w64 (t5 - (1 : Int))))
       ) fun xP =>
      bif (decide (t5 > yB)) then
       xP ()
      else
       some (zB)
      ) big (vB, x2)
     ) fun aH =>
    some (aH)
   else
    tP (vB)
   ) fun yP =>
  bif ((w64 (x2 - x1)) == (1 : Int)) then
   Option.bind (α := Int) (
    lp (σ := Int × Int) (fun zN (v8, aB) =>
     jn (σ := Unit) (fun _ =>
      (Hz ((Qk (w64 (v8 + aB)))) ((1 : Int))).bind fun mB =>
      (idx x0 (w64 mB)).bind fun lK =>
      (idx x0 x1).bind fun mK =>
      (x4 lK mK).bind fun cH =>
      bif (decide (cH < (0 : Int))) then
       zN ((w64 ((w64 mB) + (1 : Int))), aB)
      else
       zN (v8, (w64 mB))
      ) fun zP =>
     bif (decide (v8 < aB)) then
      zP ()
     else
      some (v8)
     ) big (x2, x3)
    ) fun oB =>
   Option.bind (α := (List Int)) (
    lp (σ := (List Int) × Int) (fun bQ (cC, i6) =>
     jn (σ := Unit) (fun _ =>
      Option.bind (α := (List Int)) (
       (idx cC (w64 (i6 + (1 : Int)))).bind fun gH =>
       (idx cC i6).bind fun nK =>
       (idx cC i6).bind fun bU =>
       (idx ((List.set cC (Int.toNat i6) gH)) (w64 (i6 + (1 : Int)))).bind fun cU =>
       some ((List.set ((List.set cC (Int.toNat i6) gH)) (Int.toNat (w64 (i6 + (1 : Int)))) nK))
       ) fun dF =>
      bQ (dF, (w64 (i6 + (1 : Int))))
      ) fun cQ =>
     bif (decide (i6 < (w64 (oB - (1 : Int))))) then
      cQ ()
     else
      some (cC)
     ) big (x0, x1)
    ) fun jH =>
   some (jH)
  else
   yP (x0)
theorem en90 : Enters Try.prog 90 := enters_of Try.func90 (by kernel_rfl) rfl
theorem wk90 (n : Nat) : ∀ {iI : Nat} {gI : Gh} {wI : World} {x0 : List Int} {x1 : Int} {x2 : Int} {x3 : Int} {x4 : Int → Int → Option Int} {up0 : Value} (mp0 : OM iI gI wI 3 x0 up0) {up4 : Value} (rp4 : Ui Try.prog x4 up4 gI wI) {r : (List Int)} (h : f90 n x0 x1 x2 x3 x4 = some r), FnM Try.prog 90 #[up0, .int .i64 (x1), .int .i64 (x2), .int .i64 (x3), up4] iI gI wI (fun g w v => v = .tuple #[] ∧ OM iI g w 3 r up0) := by
 induction n with
 | zero => intros; rename_i h; cases h
 | succ n ih =>
 intro iI gI wI x0 x1 x2 x3 x4 up0 mp0 up4 rp4 r h;simp only [f90] at h;refine Yd Try.func90 rfl (Nat.le_of_ble_eq_true rfl) fun g0 hm hfr => ?_;have yG := mp0;replace mp0 := mp0.enter;rw [← hm] at mp0
 replace hm : g0.m = gI.m := by rw [hm]
 obtain ⟨ff4, fa4, fc4, rfl, fen4, fcl4⟩ := rp4;show E _ 220 none _ _ _ _ _;refine Zq h (fun (s : (List Int)) e w => ∃ (g : Gh) , FrM iI gI wI g w ∧ e 0 = up0 ∧ OM 1 g w 3 (s : List Int) up0 ∧ e 1 = .int .i64 (x1) ∧ e 2 = .int .i64 (x2) ∧ e 3 = .int .i64 (x3) ∧ e 4 = (.func (.func ff4) fa4 fc4)) (fun X203 yP eS h => ?_) ?_
 ·refine Zf (Za (Zn (.int .i64 (x2)) rfl rfl ?_))
  refine Zn (.int .i64 (x1)) rfl rfl ?_;refine Gg (.int .i64 ((w64 (x2 - x1)))) rfl rfl rfl rfl ?_;refine Gg (.bool (((w64 (x2 - x1)) == (1 : Int)))) rfl rfl rfl rfl ?_;refine Zb (Zd ?_);rcases Zt h with ⟨oK, h⟩ | ⟨oK, h⟩
  ·refine Tn oK rfl ?_
   refine Zf (Za (Zn (.int .i64 (x2)) rfl rfl ?_));refine Zg (.int .i64 (x2)) rfl rfl ?_;refine Zb (Zd (Zf (Za (Zn (.int .i64 (x3)) rfl rfl ?_))));refine Zg (.int .i64 (x3)) rfl rfl ?_;refine Zb (Zd ?_);obtain ⟨oB, hx, h⟩ := Ga h;refine Gp (fun e w => ∃ (g : Gh) , FrM iI gI wI g w ∧ e 0 = up0 ∧ OM 1 g w 3 (x0 : List Int) up0 ∧ e 1 = .int .i64 (x1) ∧ e 10 = .int .i64 (oB)) (fun Q' hQ => ?_) (fun nV tW hR => ?_)
   ·replace h := hx
    clear hx;refine Zr ?_;refine Wv h (fun (s : Int × Int) e w => ∃ (g : Gh) , FrM iI gI wI g w ∧ e 0 = up0 ∧ OM 1 g w 3 (x0 : List Int) up0 ∧ e 1 = .int .i64 (x1) ∧ e 4 = (.func (.func ff4) fa4 fc4) ∧ e 10 = .int .i64 (s.1) ∧ e 11 = .int .i64 (s.2)) ⟨g0, hfr, rfl, mp0, rfl, rfl, rfl, rfl⟩ (fun X243 zN aO => ?_);rintro ⟨v8, aB⟩ oV uW ⟨dQ, hfr, gL, iL, jL, eQ, eG, bI⟩ h;refine Zq h (fun (s : Unit) e w => ∃ (g : Gh) , FrM iI gI wI g w ∧ e 0 = up0 ∧ OM 1 g w 3 (x0 : List Int) up0 ∧ e 1 = .int .i64 (x1) ∧ e 4 = (.func (.func ff4) fa4 fc4) ∧ e 10 = .int .i64 (v8) ∧ e 11 = .int .i64 (aB)) (fun X246 zP gS h => ?_) ?_
    ·refine Zf (Za (Zo eG rfl ?_))
     refine Zo bI rfl ?_;refine Gg (.bool ((decide (v8 < aB)))) rfl rfl rfl rfl ?_;refine Zb (Zd ?_);rcases Zt h with ⟨pK, h⟩ | ⟨pK, h⟩
     ·refine Tn pK rfl ?_
      exact Zu (Zd (gS () _ _ ⟨dQ, hfr, gL, iL, jL, eQ, eG, bI⟩ h))
     ·refine To pK rfl ?_
      refine Qc ?_;refine Tf ?_;refine Tf ?_;refine Tl ?_;obtain rfl := sinj h;exact hQ _ _ ⟨dQ, hfr, gL, iL, jL, eG⟩
    ·rintro _ pV vW ⟨dU, hfr, eF, uC, kH, lH, dI, jI⟩ h
     refine Zr ?_;refine Zf (Za (Zo dI rfl ?_));refine Zo jI rfl ?_;refine Gg (.int .i64 ((w64 (v8 + aB)))) rfl rfl rfl rfl ?_;refine Zw (.int .u64 (Qk (w64 (v8 + aB)))) (Jh Try.underlying3 Try.underlying62 rfl) rfl ?_;obtain ⟨mB, iS, h⟩ := Ga h;refine Zw (.int .u64 (mB)) (Hw rfl rfl iS) rfl ?_;refine Zw (.int .i64 ((w64 mB))) (Yw Try.underlying62 Try.underlying3 rfl) rfl ?_;refine Zg (.int .i64 ((w64 mB))) rfl rfl ?_;refine Zb (Zd (Zf ?_));obtain ⟨lK, bO, h⟩ := Ga h;refine Ww (x := .tmp 43) Try.isAgg3 Try.sizeOf3 uC bO fun xW eU jS => ?_;obtain rfl := Zj.1 eU;obtain ⟨mK, cO, h⟩ := Ga h;refine Ww (x := .tmp 47) Try.isAgg3 Try.sizeOf3 uC cO fun yW gU lS => ?_;obtain rfl := Zj.1 gU;obtain ⟨cH, mS, h⟩ := Ga h;refine Tx (g := dU) (n := 11) [(9, (fun v g w => v = .int .i64 (cH)))] [0, 1, 2, 3, 4, 5, 6, 7, 8, 9, 10] rfl Qq (by kernel_rfl) (⟨fun _ => Wf _, trivial⟩) ?_;refine Zz ((.func (.func ff4) fa4 fc4)) rfl rfl (Zk lH) ?_;refine Zz up0 rfl rfl (Zk eF) ?_;refine Zz (.int .i64 ((w64 mB))) rfl rfl (Zk rfl) ?_;refine Zz (Ty up0 (w64 mB) 1) rfl rfl (Gx (α := Int) Try.underlying31 Try.sizeOf3 rfl uC rfl bO) ?_;refine Tt (c := .int .i64 (lK)) rfl rfl .plain (fun _ _ h => ⟨h.ch, fun b hb _ => h.below.block b hb⟩) jS rfl ?_;refine Zz up0 rfl rfl (Zk eF) ?_;refine Zz (.int .i64 (x1)) rfl rfl (Zk kH) ?_;refine Zz (Ty up0 x1 1) rfl rfl (Gx (α := Int) Try.underlying31 Try.sizeOf3 rfl uC rfl cO) ?_;refine Tt (c := .int .i64 (mK)) rfl rfl .plain (fun _ _ h => ⟨h.ch, fun b hb _ => h.below.block b hb⟩) lS rfl ?_;refine Ka (φ := fun v g w => v = .int .i64 (cH)) rfl rfl .plain (fun g w hd => Yp (g := g) (vs := [.int .i64 (lK), .int .i64 (mK)]) rfl fen4 (.cons rfl (.cons rfl .nil)) (fcl4 _ _ (hfr.ext hd.1).ch _ _ _ _ _  (Zj.2 rfl) (Zj.2 rfl) mS) fun g' w' v hs hr => ⟨g', hs, Zj.1 hr⟩) (fun zW hv => ?_);obtain ⟨_, _, _, rfl⟩ := hv;refine Zz (.bool ((decide (cH < (0 : Int))))) rfl rfl (Gj rfl rfl rfl) ?_;refine Kr fun gQ aX hs => ?_;have hfr := hfr.ext hs;have uC := uC.ext hs;clear hs;refine Zb (Zd ?_);rcases Zt h with ⟨qK, h⟩ | ⟨qK, h⟩
     ·refine Tn qK rfl ?_
      refine Za (Zn (.int .i64 ((w64 mB))) rfl rfl ?_);refine Gg (.int .i64 ((w64 ((w64 mB) + (1 : Int))))) rfl rfl rfl rfl ?_;refine Zg (.int .i64 ((w64 ((w64 mB) + (1 : Int))))) rfl rfl ?_;exact Zb (Ts (Zd (aO ((w64 ((w64 mB) + (1 : Int))), aB) _ _ ⟨gQ, hfr, eF, uC, kH, lH, rfl, jI⟩ h)))
     ·refine To qK rfl ?_
      refine Za (Zn (.int .i64 ((w64 mB))) rfl rfl ?_);refine Zg (.int .i64 ((w64 mB))) rfl rfl ?_;exact Zb (Ts (Zd (aO (v8, (w64 mB)) _ _ ⟨gQ, hfr, eF, uC, kH, lH, dI, rfl⟩ h)))
   ·clear hx
    obtain ⟨iU, hfr, iQ, jQ, kQ, uO⟩ := hR;obtain ⟨jH, hx, h⟩ := Ga h;refine Gp (fun e w => ∃ (g : Gh) , FrM iI gI wI g w ∧ e 0 = up0 ∧ OM 1 g w 3 (jH : List Int) up0) (fun Q' hQ => ?_) (fun qV bX hR => ?_)
    ·replace h := hx
     clear hx;refine Zf (Za (Zo kQ rfl ?_));refine Zg (.int .i64 (x1)) rfl rfl ?_;refine Zb (Zd (Zr ?_));refine Wv h (fun (s : (List Int) × Int) e w => ∃ (g : Gh) , FrM iI gI wI g w ∧ e 0 = up0 ∧ OM 1 g w 3 (s.1 : List Int) up0 ∧ e 10 = .int .i64 (oB) ∧ e 13 = .int .i64 (s.2)) ⟨iU, hfr, iQ, jQ, uO, rfl⟩ (fun X343 bQ nS => ?_);rintro ⟨cC, i6⟩ rV cX ⟨lQ, hfr, lL, mL, kI, lI⟩ h;refine Zq h (fun (s : Unit) e w => ∃ (g : Gh) , FrM iI gI wI g w ∧ e 0 = up0 ∧ OM 1 g w 3 (cC : List Int) up0 ∧ e 10 = .int .i64 (oB) ∧ e 13 = .int .i64 (i6)) (fun X346 cQ oS h => ?_) ?_
     ·refine Zf (Za (Zo lI rfl ?_))
      refine Zo kI rfl ?_;refine Gg (.int .i64 ((w64 (oB - (1 : Int))))) rfl rfl rfl rfl ?_;refine Zw (.bool ((decide (i6 < (w64 (oB - (1 : Int))))))) (Gj rfl rfl rfl) rfl ?_;refine Zb (Zd ?_);rcases Zt h with ⟨sK, h⟩ | ⟨sK, h⟩
      ·refine Tn sK rfl ?_
       exact Zu (Zd (oS () _ _ ⟨lQ, hfr, lL, mL, kI, lI⟩ h))
      ·refine To sK rfl ?_
       refine Qc ?_;refine Tf ?_;refine Tf ?_;refine Tl ?_;obtain rfl := sinj h;exact hQ _ _ ⟨lQ, hfr, lL, mL⟩
     ·rintro _ sV jU ⟨mQ, hfr, rE, vC, vO, iE⟩ h
      obtain ⟨dF, hx, h⟩ := Ga h;refine Gp (fun e w => ∃ (g : Gh) , FrM iI gI wI g w ∧ e 0 = up0 ∧ OM 1 g w 3 (dF : List Int) up0 ∧ e 10 = .int .i64 (oB) ∧ e 13 = .int .i64 (i6)) (fun Q' hQ => ?_) (fun tV dX hR => ?_)
      ·replace h := hx
       clear hx;refine Zr ?_;obtain ⟨gH, dO, h⟩ := Ga h;refine Ww (x := .tmp 69) Try.isAgg3 Try.sizeOf3 vC dO fun eX kU pS => ?_;obtain rfl := Zj.1 kU;obtain ⟨nK, eO, h⟩ := Ga h;refine Ww (x := .tmp 73) Try.isAgg3 Try.sizeOf3 vC eO fun gX lU qS => ?_;obtain rfl := Zj.1 lU;obtain ⟨bU, gO, h⟩ := Ga h;refine Ur (g := mQ) (n := 15) [2, 3, 4] [] [0, 1, 2, 3, 4, 5, 6, 7, 8, 9, 10, 11, 12, 13, 14] rfl Qq (by kernel_rfl) trivial rfl ?_;refine Zz up0 rfl rfl (Zk rE) ?_;refine Zz (.int .i64 (i6)) rfl rfl (Zk iE) ?_;refine Jf (c := up0) rfl rfl .plain (Zk rE) ?_;refine Jf (c := .int .i64 (i6)) rfl rfl .plain (Zk iE) ?_;refine Jf (c := .int .i64 ((w64 (i6 + (1 : Int))))) rfl rfl .plain (Gj rfl rfl rfl) ?_;refine Zz up0 rfl rfl (Zk rE) ?_;refine Zz (.int .i64 (i6)) rfl rfl (Zk iE) ?_;refine Zz (.int .i64 ((w64 (i6 + (1 : Int))))) rfl rfl (Gj rfl rfl rfl) ?_;refine Zz (Ty up0 (w64 (i6 + (1 : Int))) 1) rfl rfl (Gx (α := Int) Try.underlying31 Try.sizeOf3 rfl vC rfl dO) ?_;refine Tt (c := .int .i64 (gH)) rfl rfl .plain (fun _ _ h => ⟨h.ch, fun b hb _ => h.below.block b hb⟩) pS rfl ?_;refine Zz up0 rfl rfl (Zk rE) ?_;refine Zz (.int .i64 (i6)) rfl rfl (Zk iE) ?_;refine Zz (Ty up0 i6 1) rfl rfl (Gx (α := Int) Try.underlying31 Try.sizeOf3 rfl vC rfl eO) ?_;refine Tt (c := .int .i64 (nK)) rfl rfl .plain (fun _ _ h => ⟨h.ch, fun b hb _ => h.below.block b hb⟩) qS rfl ?_;refine Zz (Ty up0 i6 1) rfl rfl (Gx (α := Int) Try.underlying31 Try.sizeOf3 rfl vC rfl gO) ?_;refine Kr fun nQ mU hs => ?_;have hlt : Lt mQ.m jU nQ mU := hs.ch;have hfr := hfr.ext hs;have vC := vC.ext hs;clear hs;refine Vq hlt.w .plain rfl (Kz (g := nQ) (α := Int) (a' := gH) Try.sizeOf3 rfl vC gO rfl (Zj.2 rfl) fun nU iX hs b400 => ?_);have hfr := hfr.stp hs;have hlt := hlt.stp hs;obtain ⟨cU, jO, h⟩ := Ga h;refine Sd hlt.w (v := Ty up0 (w64 (i6 + (1 : Int))) 1) (Gx (α := Int) Try.underlying31 Try.sizeOf3 rfl b400 rfl jO) .plain rfl ?_;refine Vq hlt.w .plain rfl (Kz (g := nU) (α := Int) (a' := nK) Try.sizeOf3 rfl b400 jO rfl (Zj.2 rfl) fun oU jX hs b402 => ?_);have hfr := hfr.stp hs;have hlt := hlt.stp hs;refine Sb hlt.w ?_;clear hlt;refine Ts ?_;obtain rfl := sinj h;exact hQ _ _ ⟨oU, hfr, rE, b402, vO, iE⟩
      ·clear hx
       obtain ⟨pU, hfr, oQ, pQ, xO, yO⟩ := hR;refine Za (Zo yO rfl ?_);refine Gg (.int .i64 ((w64 (i6 + (1 : Int))))) rfl rfl rfl rfl ?_;refine Zg (.int .i64 ((w64 (i6 + (1 : Int))))) rfl rfl ?_;exact Zb (Zd (nS (dF, (w64 (i6 + (1 : Int)))) _ _ ⟨pU, hfr, oQ, pQ, xO, rfl⟩ h))
    ·clear hx
     obtain ⟨kX, hfr, lV, qQ⟩ := hR;refine Gq (Tz ?_);obtain rfl := sinj h;exact end0 rfl rfl ⟨_, hfr, rfl, yG.back qQ⟩
  ·refine To oK rfl ?_
   exact Zu (Zd (eS (x0) _ _ ⟨g0, hfr, rfl, mp0, rfl, rfl, rfl, rfl⟩ h))
 ·rintro vB uV lX ⟨rQ, hfr, nL, oL, xL, rF, yL, zL⟩ h
  refine Zq h (fun (s : (List Int)) e w => ∃ (g : Gh) , FrM iI gI wI g w ∧ e 0 = up0 ∧ OM 1 g w 3 (s : List Int) up0 ∧ e 1 = .int .i64 (x1) ∧ e 2 = .int .i64 (x2) ∧ e 3 = .int .i64 (x3) ∧ e 4 = (.func (.func ff4) fa4 fc4)) (fun X609 tP rS h => ?_) ?_
  ·refine Zf (Za (Zo yL rfl ?_))
   refine Zo rF rfl ?_;refine Gg (.int .i64 ((w64 (x3 - x2)))) rfl rfl rfl rfl ?_;refine Gg (.bool (((w64 (x3 - x2)) == (1 : Int)))) rfl rfl rfl rfl ?_;refine Zb (Zd ?_);rcases Zt h with ⟨tK, h⟩ | ⟨tK, h⟩
   ·refine Tn tK rfl ?_
    refine Zf (Za (Zo xL rfl ?_));refine Zg (.int .i64 (x1)) rfl rfl ?_;refine Zb (Zd (Zf (Za (Zo rF rfl ?_))));refine Zg (.int .i64 (x2)) rfl rfl ?_;refine Zb (Zd ?_);obtain ⟨yB, hx, h⟩ := Ga h;refine Gp (fun e w => ∃ (g : Gh) , FrM iI gI wI g w ∧ e 0 = up0 ∧ OM 1 g w 3 (vB : List Int) up0 ∧ e 2 = .int .i64 (x2) ∧ e 14 = .int .i64 (yB)) (fun Q' hQ => ?_) (fun vV mX hR => ?_)
    ·replace h := hx
     clear hx;refine Zr ?_;refine Wv h (fun (s : Int × Int) e w => ∃ (g : Gh) , FrM iI gI wI g w ∧ e 0 = up0 ∧ OM 1 g w 3 (vB : List Int) up0 ∧ e 2 = .int .i64 (x2) ∧ e 4 = (.func (.func ff4) fa4 fc4) ∧ e 14 = .int .i64 (s.1) ∧ e 15 = .int .i64 (s.2)) ⟨rQ, hfr, nL, oL, rF, zL, rfl, rfl⟩ (fun X650 yN kO => ?_);rintro ⟨n8, n9⟩ xV nX ⟨sQ, hfr, aM, bM, cM, tQ, gG, mI⟩ h;refine Zq h (fun (s : Unit) e w => ∃ (g : Gh) , FrM iI gI wI g w ∧ e 0 = up0 ∧ OM 1 g w 3 (vB : List Int) up0 ∧ e 2 = .int .i64 (x2) ∧ e 4 = (.func (.func ff4) fa4 fc4) ∧ e 14 = .int .i64 (n8) ∧ e 15 = .int .i64 (n9)) (fun X653 uP sS h => ?_) ?_
     ·refine Zf (Za (Zo gG rfl ?_))
      refine Zo mI rfl ?_;refine Gg (.bool ((decide (n8 < n9)))) rfl rfl rfl rfl ?_;refine Zb (Zd ?_);rcases Zt h with ⟨uK, h⟩ | ⟨uK, h⟩
      ·refine Tn uK rfl ?_
       exact Zu (Zd (sS () _ _ ⟨sQ, hfr, aM, bM, cM, tQ, gG, mI⟩ h))
      ·refine To uK rfl ?_
       refine Qc ?_;refine Tf ?_;refine Tf ?_;refine Tl ?_;obtain rfl := sinj h;exact hQ _ _ ⟨sQ, hfr, aM, bM, cM, gG⟩
     ·rintro _ yV oX ⟨qU, hfr, sF, bD, mH, nH, nI, pI⟩ h
      refine Zr ?_;refine Zf (Za (Zo nI rfl ?_));refine Zo pI rfl ?_;refine Gg (.int .i64 ((w64 (n8 + n9)))) rfl rfl rfl rfl ?_;refine Zw (.int .u64 (Qk (w64 (n8 + n9)))) (Jh Try.underlying3 Try.underlying62 rfl) rfl ?_;obtain ⟨lB, tS, h⟩ := Ga h;refine Zw (.int .u64 (lB)) (Hw rfl rfl tS) rfl ?_;refine Zw (.int .i64 ((w64 lB))) (Yw Try.underlying62 Try.underlying3 rfl) rfl ?_;refine Zg (.int .i64 ((w64 lB))) rfl rfl ?_;refine Zb (Zd (Zf ?_));obtain ⟨bK, lO, h⟩ := Ga h;refine Ww (x := .tmp 95) Try.isAgg3 Try.sizeOf3 bD lO fun pX rU uS => ?_;obtain rfl := Zj.1 rU;obtain ⟨cK, mO, h⟩ := Ga h;refine Ww (x := .tmp 99) Try.isAgg3 Try.sizeOf3 bD mO fun qX sU vS => ?_;obtain rfl := Zj.1 sU;obtain ⟨cG, xS, h⟩ := Ga h;refine Tx (g := qU) (n := 12) [(9, (fun v g w => v = .int .i64 (cG)))] [0, 1, 2, 3, 4, 5, 6, 7, 8, 9, 10, 11] rfl Qq (by kernel_rfl) (⟨fun _ => Wf _, trivial⟩) ?_;refine Zz ((.func (.func ff4) fa4 fc4)) rfl rfl (Zk nH) ?_;refine Zz up0 rfl rfl (Zk sF) ?_;refine Zz (.int .i64 (x2)) rfl rfl (Zk mH) ?_;refine Zz (Ty up0 x2 1) rfl rfl (Gx (α := Int) Try.underlying31 Try.sizeOf3 rfl bD rfl lO) ?_;refine Tt (c := .int .i64 (bK)) rfl rfl .plain (fun _ _ h => ⟨h.ch, fun b hb _ => h.below.block b hb⟩) uS rfl ?_;refine Zz up0 rfl rfl (Zk sF) ?_;refine Zz (.int .i64 ((w64 lB))) rfl rfl (Zk rfl) ?_;refine Zz (Ty up0 (w64 lB) 1) rfl rfl (Gx (α := Int) Try.underlying31 Try.sizeOf3 rfl bD rfl mO) ?_;refine Tt (c := .int .i64 (cK)) rfl rfl .plain (fun _ _ h => ⟨h.ch, fun b hb _ => h.below.block b hb⟩) vS rfl ?_;refine Ka (φ := fun v g w => v = .int .i64 (cG)) rfl rfl .plain (fun g w hd => Yp (g := g) (vs := [.int .i64 (bK), .int .i64 (cK)]) rfl fen4 (.cons rfl (.cons rfl .nil)) (fcl4 _ _ (hfr.ext hd.1).ch _ _ _ _ _  (Zj.2 rfl) (Zj.2 rfl) xS) fun g' w' v hs hr => ⟨g', hs, Zj.1 hr⟩) (fun rX hv => ?_);obtain ⟨_, _, _, rfl⟩ := hv;refine Zz (.bool ((decide (cG < (0 : Int))))) rfl rfl (Gj rfl rfl rfl) ?_;refine Zz (.bool (!(decide (cG < (0 : Int))))) rfl rfl (Wh rfl) ?_;refine Kr fun uQ sX hs => ?_;have hfr := hfr.ext hs;have bD := bD.ext hs;clear hs;refine Zb (Zd ?_);rcases Zt h with ⟨vK, h⟩ | ⟨vK, h⟩
      ·refine Tn vK rfl ?_
       refine Za (Zn (.int .i64 ((w64 lB))) rfl rfl ?_);refine Gg (.int .i64 ((w64 ((w64 lB) + (1 : Int))))) rfl rfl rfl rfl ?_;refine Zg (.int .i64 ((w64 ((w64 lB) + (1 : Int))))) rfl rfl ?_;exact Zb (Ts (Zd (kO ((w64 ((w64 lB) + (1 : Int))), n9) _ _ ⟨uQ, hfr, sF, bD, mH, nH, rfl, pI⟩ h)))
      ·refine To vK rfl ?_
       refine Za (Zn (.int .i64 ((w64 lB))) rfl rfl ?_);refine Zg (.int .i64 ((w64 lB))) rfl rfl ?_;exact Zb (Ts (Zd (kO (n8, (w64 lB)) _ _ ⟨uQ, hfr, sF, bD, mH, nH, nI, rfl⟩ h)))
    ·clear hx
     obtain ⟨tU, hfr, vQ, xQ, yQ, zO⟩ := hR;obtain ⟨aH, hx, h⟩ := Ga h;refine Gp (fun e w => ∃ (g : Gh) , FrM iI gI wI g w ∧ e 0 = up0 ∧ OM 1 g w 3 (aH : List Int) up0) (fun Q' hQ => ?_) (fun zV tX hR => ?_)
     ·replace h := hx
      clear hx;refine Zf (Za (Zo yQ rfl ?_));refine Zg (.int .i64 (x2)) rfl rfl ?_;refine Zb (Zd (Zr ?_));refine Wv h (fun (s : (List Int) × Int) e w => ∃ (g : Gh) , FrM iI gI wI g w ∧ e 0 = up0 ∧ OM 1 g w 3 (s.1 : List Int) up0 ∧ e 14 = .int .i64 (yB) ∧ e 17 = .int .i64 (s.2)) ⟨tU, hfr, vQ, xQ, zO, rfl⟩ (fun X751 vP yS => ?_);rintro ⟨zB, t5⟩ aW uX ⟨zQ, hfr, dM, eM, qI, sI⟩ h;refine Zq h (fun (s : Unit) e w => ∃ (g : Gh) , FrM iI gI wI g w ∧ e 0 = up0 ∧ OM 1 g w 3 (zB : List Int) up0 ∧ e 14 = .int .i64 (yB) ∧ e 17 = .int .i64 (t5)) (fun X754 xP zS h => ?_) ?_
      ·refine Zf (Za (Zo sI rfl ?_))
       refine Zo qI rfl ?_;refine Gg (.bool ((decide (t5 > yB)))) rfl rfl rfl rfl ?_;refine Zb (Zd ?_);rcases Zt h with ⟨xK, h⟩ | ⟨xK, h⟩
       ·refine Tn xK rfl ?_
        exact Zu (Zd (zS () _ _ ⟨zQ, hfr, dM, eM, qI, sI⟩ h))
       ·refine To xK rfl ?_
        refine Qc ?_;refine Tf ?_;refine Tf ?_;refine Tl ?_;obtain rfl := sinj h;exact hQ _ _ ⟨zQ, hfr, dM, eM⟩
      ·rintro _ bW uU ⟨aR, hfr, uE, cD, aP, lE⟩ h
       obtain ⟨cF, hx, h⟩ := Ga h;refine Gp (fun e w => ∃ (g : Gh) , FrM iI gI wI g w ∧ e 0 = up0 ∧ OM 1 g w 3 (cF : List Int) up0 ∧ e 14 = .int .i64 (yB) ∧ e 17 = .int .i64 (t5)) (fun Q' hQ => ?_) (fun cW vX hR => ?_)
       ·replace h := hx
        clear hx;refine Zr ?_;obtain ⟨zG, nO, h⟩ := Ga h;refine Ww (x := .tmp 121) Try.isAgg3 Try.sizeOf3 cD nO fun xX vU eT => ?_;obtain rfl := Zj.1 vU;obtain ⟨dK, oO, h⟩ := Ga h;refine Ww (x := .tmp 125) Try.isAgg3 Try.sizeOf3 cD oO fun yX xU lT => ?_;obtain rfl := Zj.1 xU;obtain ⟨zT, pO, h⟩ := Ga h;refine Ur (g := aR) (n := 15) [2, 3, 4] [] [0, 1, 2, 3, 4, 5, 6, 7, 8, 9, 10, 11, 12, 13, 14] rfl Qq (by kernel_rfl) trivial rfl ?_;refine Zz up0 rfl rfl (Zk uE) ?_;refine Zz (.int .i64 (t5)) rfl rfl (Zk lE) ?_;refine Jf (c := up0) rfl rfl .plain (Zk uE) ?_;refine Jf (c := .int .i64 (t5)) rfl rfl .plain (Zk lE) ?_;refine Jf (c := .int .i64 ((w64 (t5 - (1 : Int))))) rfl rfl .plain (Gj rfl rfl rfl) ?_;refine Zz up0 rfl rfl (Zk uE) ?_;refine Zz (.int .i64 (t5)) rfl rfl (Zk lE) ?_;refine Zz (.int .i64 ((w64 (t5 - (1 : Int))))) rfl rfl (Gj rfl rfl rfl) ?_;refine Zz (Ty up0 (w64 (t5 - (1 : Int))) 1) rfl rfl (Gx (α := Int) Try.underlying31 Try.sizeOf3 rfl cD rfl nO) ?_;refine Tt (c := .int .i64 (zG)) rfl rfl .plain (fun _ _ h => ⟨h.ch, fun b hb _ => h.below.block b hb⟩) eT rfl ?_;refine Zz up0 rfl rfl (Zk uE) ?_;refine Zz (.int .i64 (t5)) rfl rfl (Zk lE) ?_;refine Zz (Ty up0 t5 1) rfl rfl (Gx (α := Int) Try.underlying31 Try.sizeOf3 rfl cD rfl oO) ?_;refine Tt (c := .int .i64 (dK)) rfl rfl .plain (fun _ _ h => ⟨h.ch, fun b hb _ => h.below.block b hb⟩) lT rfl ?_;refine Zz (Ty up0 t5 1) rfl rfl (Gx (α := Int) Try.underlying31 Try.sizeOf3 rfl cD rfl pO) ?_;refine Kr fun bR yU hs => ?_;have hlt : Lt aR.m uU bR yU := hs.ch;have hfr := hfr.ext hs;have cD := cD.ext hs;clear hs;refine Vq hlt.w .plain rfl (Kz (g := bR) (α := Int) (a' := zG) Try.sizeOf3 rfl cD pO rfl (Zj.2 rfl) fun zU zX hs b808 => ?_);have hfr := hfr.stp hs;have hlt := hlt.stp hs;obtain ⟨aU, qO, h⟩ := Ga h;refine Sd hlt.w (v := Ty up0 (w64 (t5 - (1 : Int))) 1) (Gx (α := Int) Try.underlying31 Try.sizeOf3 rfl b808 rfl qO) .plain rfl ?_;refine Vq hlt.w .plain rfl (Kz (g := zU) (α := Int) (a' := dK) Try.sizeOf3 rfl b808 qO rfl (Zj.2 rfl) fun aV aY hs b810 => ?_);have hfr := hfr.stp hs;have hlt := hlt.stp hs;refine Sb hlt.w ?_;clear hlt;refine Ts ?_;obtain rfl := sinj h;exact hQ _ _ ⟨aV, hfr, uE, b810, aP, lE⟩
       ·clear hx
        obtain ⟨bV, hfr, dR, eR, bP, cP⟩ := hR;refine Za (Zo cP rfl ?_);refine Gg (.int .i64 ((w64 (t5 - (1 : Int))))) rfl rfl rfl rfl ?_;refine Zg (.int .i64 ((w64 (t5 - (1 : Int))))) rfl rfl ?_;exact Zb (Zd (yS (cF, (w64 (t5 - (1 : Int)))) _ _ ⟨bV, hfr, dR, eR, bP, rfl⟩ h))
     ·clear hx
      obtain ⟨bY, hfr, mV, gR⟩ := hR;refine Gq (Tz ?_);obtain rfl := sinj h;exact end0 rfl rfl ⟨_, hfr, rfl, yG.back gR⟩
   ·refine To tK rfl ?_
    exact Zu (Zd (rS (vB) _ _ ⟨rQ, hfr, nL, oL, xL, rF, yL, zL⟩ h))
  ·rintro nB dW cY ⟨iR, hfr, iM, jM, tF, vE, uF, kM⟩ h
   refine Zf (Za (Zo tF rfl ?_));refine Zo uF rfl ?_;refine Gg (.int .i64 ((w64 (x1 + x3)))) rfl rfl rfl rfl ?_;refine Zw (.int .u64 (Qk (w64 (x1 + x3)))) (Jh Try.underlying3 Try.underlying62 rfl) rfl ?_;obtain ⟨l5, mT, h⟩ := Ga h;refine Zw (.int .u64 (l5)) (Hw rfl rfl mT) rfl ?_;refine Zw (.int .i64 ((w64 l5))) (Yw Try.underlying62 Try.underlying3 rfl) rfl ?_;refine Zg (.int .i64 ((w64 l5))) rfl rfl ?_;refine Zb (Zd (Zf (Za (Zn (.int .i64 ((w64 l5))) rfl rfl ?_))));refine Zo vE rfl ?_;refine Gg (.int .i64 ((w64 ((w64 l5) + x2)))) rfl rfl rfl rfl ?_;refine Zg (.int .i64 ((w64 ((w64 l5) + x2)))) rfl rfl ?_;refine Zb (Zd (Zf (Za (Zg (.int .i64 (0)) rfl rfl ?_))));refine Zg (.int .i64 (0)) rfl rfl ?_;refine Zb (Zd ?_);obtain ⟨⟨yF, aG⟩, hx, h⟩ := Ga h;refine Gp (fun e w => ∃ (g : Gh) , FrM iI gI wI g w ∧ e 0 = up0 ∧ OM 1 g w 3 (nB : List Int) up0 ∧ e 1 = .int .i64 (x1) ∧ e 2 = .int .i64 (x2) ∧ e 3 = .int .i64 (x3) ∧ e 4 = (.func (.func ff4) fa4 fc4) ∧ e 18 = .int .i64 ((w64 l5)) ∧ e 19 = .int .i64 ((w64 ((w64 l5) + x2))) ∧ e 20 = .int .i64 (yF) ∧ e 21 = .int .i64 (aG)) (fun Q' hQ => ?_) (fun eW dY hR => ?_)
   ·replace h := hx
    clear hx;refine Zf (Za (Zo vE rfl ?_));refine Zn (.int .i64 ((w64 l5))) rfl rfl ?_;refine Gg (.bool ((decide (x2 > (w64 l5))))) rfl rfl rfl rfl ?_;refine Zb (Zd ?_);rcases Zt h with ⟨yK, h⟩ | ⟨yK, h⟩
    ·refine Tn yK rfl ?_
     refine Zf (Za (Zn (.int .i64 ((w64 ((w64 l5) + x2)))) rfl rfl ?_));refine Zo uF rfl ?_;refine Zw (.int .i64 ((w64 ((w64 ((w64 l5) + x2)) - x3)))) (Gj rfl rfl rfl) rfl ?_;refine Zw (.int .i64 ((w64 ((w64 ((w64 l5) + x2)) - x3)))) (Tb rfl) rfl ?_;refine Zb (Zd (Za (Zn (.int .i64 ((w64 l5))) rfl rfl ?_)));refine Zg (.int .i64 ((w64 l5))) rfl rfl ?_;refine Zb ?_;obtain ⟨rfl, rfl⟩ := Hn h;exact hQ _ _ ⟨iR, hfr, iM, jM, tF, vE, uF, kM, rfl, rfl, rfl, rfl⟩
    ·refine To yK rfl ?_
     refine Zf (Za (Zo tF rfl ?_));refine Zg (.int .i64 (x1)) rfl rfl ?_;refine Zb (Zd (Za (Zo vE rfl ?_)));refine Zg (.int .i64 (x2)) rfl rfl ?_;refine Zb ?_;obtain ⟨rfl, rfl⟩ := Hn h;exact hQ _ _ ⟨iR, hfr, iM, jM, tF, vE, uF, kM, rfl, rfl, rfl, rfl⟩
   ·clear hx
    obtain ⟨cV, hfr, jR, lR, mR, nR, oR, pR, dP, jJ, eP, gP⟩ := hR;refine Zf (Za (Zo jJ rfl ?_));refine Zw (.int .i64 ((w64 ((w64 ((w64 l5) + x2)) - (1 : Int))))) (Gj rfl rfl rfl) rfl ?_;refine Zw (.int .i64 ((w64 ((w64 ((w64 l5) + x2)) - (1 : Int))))) (Tb rfl) rfl ?_;refine Zb (Zd ?_);obtain ⟨o0, hx, h⟩ := Ga h;refine Gp (fun e w => ∃ (g : Gh) , FrM iI gI wI g w ∧ e 0 = up0 ∧ OM 1 g w 3 (nB : List Int) up0 ∧ e 1 = .int .i64 (x1) ∧ e 2 = .int .i64 (x2) ∧ e 3 = .int .i64 (x3) ∧ e 4 = (.func (.func ff4) fa4 fc4) ∧ e 18 = .int .i64 ((w64 l5)) ∧ e 19 = .int .i64 ((w64 ((w64 l5) + x2))) ∧ e 20 = .int .i64 (o0)) (fun Q' hQ => ?_) (fun gW eY hR => ?_)
    ·replace h := hx
     clear hx;refine Zr ?_;refine Wv h (fun (s : Int × Int) e w => ∃ (g : Gh) , FrM iI gI wI g w ∧ e 0 = up0 ∧ OM 1 g w 3 (nB : List Int) up0 ∧ e 1 = .int .i64 (x1) ∧ e 2 = .int .i64 (x2) ∧ e 3 = .int .i64 (x3) ∧ e 4 = (.func (.func ff4) fa4 fc4) ∧ e 18 = .int .i64 ((w64 l5)) ∧ e 19 = .int .i64 ((w64 ((w64 l5) + x2))) ∧ e 20 = .int .i64 (s.1) ∧ e 21 = .int .i64 (s.2) ∧ e 22 = .int .i64 ((w64 ((w64 ((w64 l5) + x2)) - (1 : Int))))) ⟨cV, hfr, jR, lR, mR, nR, oR, pR, dP, jJ, eP, gP, rfl⟩ (fun X864 xN rO => ?_);rintro ⟨l8, l9⟩ iW gY ⟨qR, hfr, pM, qM, rM, sM, tM, uM, kJ, lJ, iG, mJ, iP⟩ h;refine Zq h (fun (s : Unit) e w => ∃ (g : Gh) , FrM iI gI wI g w ∧ e 0 = up0 ∧ OM 1 g w 3 (nB : List Int) up0 ∧ e 1 = .int .i64 (x1) ∧ e 2 = .int .i64 (x2) ∧ e 3 = .int .i64 (x3) ∧ e 4 = (.func (.func ff4) fa4 fc4) ∧ e 18 = .int .i64 ((w64 l5)) ∧ e 19 = .int .i64 ((w64 ((w64 l5) + x2))) ∧ e 20 = .int .i64 (l8) ∧ e 21 = .int .i64 (l9) ∧ e 22 = .int .i64 ((w64 ((w64 ((w64 l5) + x2)) - (1 : Int))))) (fun X867 nP nT h => ?_) ?_
     ·refine Zf (Za (Zo iG rfl ?_))
      refine Zo mJ rfl ?_;refine Gg (.bool ((decide (l8 < l9)))) rfl rfl rfl rfl ?_;refine Zb (Zd ?_);rcases Zt h with ⟨zK, h⟩ | ⟨zK, h⟩
      ·refine Tn zK rfl ?_
       exact Zu (Zd (nT () _ _ ⟨qR, hfr, pM, qM, rM, sM, tM, uM, kJ, lJ, iG, mJ, iP⟩ h))
      ·refine To zK rfl ?_
       refine Qc ?_;refine Tf ?_;refine Tf ?_;refine Tl ?_;obtain rfl := sinj h;exact hQ _ _ ⟨qR, hfr, pM, qM, rM, sM, tM, uM, kJ, lJ, iG⟩
     ·rintro _ jW iY ⟨dV, hfr, vF, lD, vM, xM, bN, oH, nJ, oJ, pJ, qJ, jG⟩ h
      refine Zr ?_;refine Zf (Za (Zo pJ rfl ?_));refine Zo qJ rfl ?_;refine Gg (.int .i64 ((w64 (l8 + l9)))) rfl rfl rfl rfl ?_;refine Zw (.int .u64 (Qk (w64 (l8 + l9)))) (Jh Try.underlying3 Try.underlying62 rfl) rfl ?_;obtain ⟨g8, oT, h⟩ := Ga h;refine Zw (.int .u64 (g8)) (Hw rfl rfl oT) rfl ?_;refine Zw (.int .i64 ((w64 g8))) (Yw Try.underlying62 Try.underlying3 rfl) rfl ?_;refine Zg (.int .i64 ((w64 g8))) rfl rfl ?_;refine Zb (Zd (Zf ?_));obtain ⟨zJ, sO, h⟩ := Ga h;refine Ww (x := .tmp 163) Try.isAgg3 Try.sizeOf3 lD sO fun jY eV pT => ?_;obtain rfl := Zj.1 eV;obtain ⟨aK, tO, h⟩ := Ga h;refine Ww (x := .tmp 167) Try.isAgg3 Try.sizeOf3 lD tO fun kY gV sT => ?_;obtain rfl := Zj.1 gV;obtain ⟨bG, tT, h⟩ := Ga h;refine Tx (g := dV) (n := 14) [(11, (fun v g w => v = .int .i64 (bG)))] [0, 1, 2, 3, 4, 5, 6, 7, 8, 9, 10, 11, 12, 13] rfl Qq (by kernel_rfl) (⟨fun _ => Wf _, trivial⟩) ?_;refine Zz ((.func (.func ff4) fa4 fc4)) rfl rfl (Zk oH) ?_;refine Zz up0 rfl rfl (Zk vF) ?_;refine Zz (.int .i64 ((w64 ((w64 ((w64 l5) + x2)) - (1 : Int))))) rfl rfl (Zk jG) ?_;refine Zz (.int .i64 ((w64 g8))) rfl rfl (Zk rfl) ?_;refine Zz (.int .i64 ((w64 ((w64 ((w64 ((w64 l5) + x2)) - (1 : Int))) - (w64 g8))))) rfl rfl (Gj rfl rfl rfl) ?_;refine Zz (Ty up0 (w64 ((w64 ((w64 ((w64 l5) + x2)) - (1 : Int))) - (w64 g8))) 1) rfl rfl (Gx (α := Int) Try.underlying31 Try.sizeOf3 rfl lD rfl sO) ?_;refine Tt (c := .int .i64 (zJ)) rfl rfl .plain (fun _ _ h => ⟨h.ch, fun b hb _ => h.below.block b hb⟩) pT rfl ?_;refine Zz up0 rfl rfl (Zk vF) ?_;refine Zz (.int .i64 ((w64 g8))) rfl rfl (Zk rfl) ?_;refine Zz (Ty up0 (w64 g8) 1) rfl rfl (Gx (α := Int) Try.underlying31 Try.sizeOf3 rfl lD rfl tO) ?_;refine Tt (c := .int .i64 (aK)) rfl rfl .plain (fun _ _ h => ⟨h.ch, fun b hb _ => h.below.block b hb⟩) sT rfl ?_;refine Ka (φ := fun v g w => v = .int .i64 (bG)) rfl rfl .plain (fun g w hd => Yp (g := g) (vs := [.int .i64 (zJ), .int .i64 (aK)]) rfl fen4 (.cons rfl (.cons rfl .nil)) (fcl4 _ _ (hfr.ext hd.1).ch _ _ _ _ _  (Zj.2 rfl) (Zj.2 rfl) tT) fun g' w' v hs hr => ⟨g', hs, Zj.1 hr⟩) (fun mY hv => ?_);obtain ⟨_, _, _, rfl⟩ := hv;refine Zz (.bool ((decide (bG < (0 : Int))))) rfl rfl (Gj rfl rfl rfl) ?_;refine Zz (.bool (!(decide (bG < (0 : Int))))) rfl rfl (Wh rfl) ?_;refine Kr fun rR nY hs => ?_;have hfr := hfr.ext hs;have lD := lD.ext hs;clear hs;refine Zb (Zd ?_);rcases Zt h with ⟨aL, h⟩ | ⟨aL, h⟩
      ·refine Tn aL rfl ?_
       refine Za (Zn (.int .i64 ((w64 g8))) rfl rfl ?_);refine Gg (.int .i64 ((w64 ((w64 g8) + (1 : Int))))) rfl rfl rfl rfl ?_;refine Zg (.int .i64 ((w64 ((w64 g8) + (1 : Int))))) rfl rfl ?_;exact Zb (Ts (Zd (rO ((w64 ((w64 g8) + (1 : Int))), l9) _ _ ⟨rR, hfr, vF, lD, vM, xM, bN, oH, nJ, oJ, rfl, qJ, jG⟩ h)))
      ·refine To aL rfl ?_
       refine Za (Zn (.int .i64 ((w64 g8))) rfl rfl ?_);refine Zg (.int .i64 ((w64 g8))) rfl rfl ?_;exact Zb (Ts (Zd (rO (l8, (w64 g8)) _ _ ⟨rR, hfr, vF, lD, vM, xM, bN, oH, nJ, oJ, pJ, rfl, jG⟩ h)))
    ·clear hx
     obtain ⟨tR, hfr, cN, dN, eN, xF, gN, iN, rJ, jP, xE⟩ := hR;refine Zf (Za (Zo jP rfl ?_));refine Zo xE rfl ?_;refine Zw (.int .i64 ((w64 ((w64 ((w64 l5) + x2)) - o0)))) (Gj rfl rfl rfl) rfl ?_;refine Zw (.int .i64 ((w64 ((w64 ((w64 l5) + x2)) - o0)))) (Tb rfl) rfl ?_;refine Zb (Zd ?_);obtain ⟨mE, hx, h⟩ := Ga h;refine Gp (fun e w => ∃ (g : Gh) , FrM iI gI wI g w ∧ e 0 = up0 ∧ OM 1 g w 3 (mE : List Int) up0 ∧ e 1 = .int .i64 (x1) ∧ e 3 = .int .i64 (x3) ∧ e 4 = (.func (.func ff4) fa4 fc4) ∧ e 18 = .int .i64 ((w64 l5)) ∧ e 20 = .int .i64 (o0) ∧ e 24 = .int .i64 ((w64 ((w64 ((w64 l5) + x2)) - o0)))) (fun Q' hQ => ?_) (fun kW oY hR => ?_)
     ·replace h := hx
      clear hx;obtain ⟨zD, hx, h⟩ := Ga h;refine Gp (fun e w => ∃ (g : Gh) , FrM iI gI wI g w ∧ e 0 = up0 ∧ OM 1 g w 3 (nB : List Int) up0 ∧ e 1 = .int .i64 (x1) ∧ e 2 = .int .i64 (x2) ∧ e 3 = .int .i64 (x3) ∧ e 4 = (.func (.func ff4) fa4 fc4) ∧ e 18 = .int .i64 ((w64 l5)) ∧ e 20 = .int .i64 (o0) ∧ e 24 = .int .i64 ((w64 ((w64 ((w64 l5) + x2)) - o0))) ∧ e 185 = .bool (zD)) (fun Q' hQ => ?_) (fun lW pY hR => ?_)
      ·replace h := hx
       clear hx;refine Za (Zo xE rfl ?_);refine Zo xF rfl ?_;refine Gg (.bool ((decide (o0 < x2)))) rfl rfl rfl rfl ?_;refine Zn (.bool ((decide (o0 < x2)))) rfl rfl ?_;rcases Zt h with ⟨nD, h⟩ | ⟨nD, h⟩
       ·refine Zx (.int .i64 (x2)) (Zk xF) rfl rfl nD rfl ?_
        refine Zx (.int .i64 ((w64 ((w64 ((w64 l5) + x2)) - o0)))) (Zk rfl) rfl rfl nD rfl ?_;refine Zx (.bool ((decide (x2 < (w64 ((w64 ((w64 l5) + x2)) - o0)))))) (Gj rfl rfl rfl) rfl rfl nD rfl ?_;refine Zw (.bool ((decide (x2 < (w64 ((w64 ((w64 l5) + x2)) - o0)))))) (Zl (b := (decide (o0 < x2))) rfl (Tg nD rfl)) rfl ?_;refine Zb ?_;obtain rfl := sinj h;exact hQ _ _ ⟨tR, hfr, cN, dN, eN, xF, gN, iN, rJ, xE, rfl, rfl⟩
       ·refine Zy rfl rfl nD rfl rfl ?_
        refine Zy rfl rfl nD rfl rfl ?_;refine Zy rfl rfl nD rfl rfl ?_;refine Zw (.bool false) (Zl (b := (decide (o0 < x2))) rfl (Tq nD rfl)) rfl ?_;refine Zb ?_;obtain rfl := sinj h;exact hQ _ _ ⟨tR, hfr, cN, dN, eN, xF, gN, iN, rJ, xE, rfl, rfl⟩
      ·clear hx
       obtain ⟨uR, hfr, pH, jN, kN, vR, lN, qH, sJ, kG, lG, sH⟩ := hR;rcases Zt h with ⟨bL, h⟩ | ⟨bL, h⟩
       ·refine Tv (Eq.trans (show ev _ _ = .bool (zD) from sH) (congrArg Value.bool bL)) ?_
        refine Za (Zo pH rfl ?_);refine Zo kG rfl ?_;refine Zo vR rfl ?_;refine Zw (.int .i64 ((w64 ((w64 ((w64 l5) + x2)) - o0)))) (Zk lG) rfl ?_;refine Zo qH rfl ?_;obtain ⟨oP, uT, h⟩ := Ga h;refine Ze .plain rfl (Hu (g := uR) (i := 1) (vs := [up0, .int .i64 (o0), .int .i64 (x2), .int .i64 ((w64 ((w64 ((w64 l5) + x2)) - o0))), (.func (.func ff4) fa4 fc4)]) en97 (.cons rfl (.cons rfl (.cons rfl (.cons rfl (.cons rfl .nil))))) (wk97 jN (Ui.ch ⟨_, _, _, rfl, fen4, fcl4⟩ hfr.ch) uT) fun iV mW qY hs hr => ?_);obtain ⟨hrv, b921⟩ := hr;have hfr := hfr.stp hs;subst hrv;refine Zb ?_;obtain rfl := sinj h;exact hQ _ _ ⟨iV, hfr, pH, b921, kN, lN, qH, sJ, kG, lG⟩
       ·refine Tj (Eq.trans (show ev _ _ = .bool (zD) from sH) (congrArg Value.bool bL)) ?_
        refine Zu ?_;obtain rfl := sinj h;exact hQ _ _ ⟨uR, hfr, pH, jN, kN, lN, qH, sJ, kG, lG⟩
     ·clear hx
      obtain ⟨xR, hfr, mN, nN, tH, oN, pN, mG, yE, vJ⟩ := hR;obtain ⟨oE, hx, h⟩ := Ga h;refine Gp (fun e w => ∃ (g : Gh) , FrM iI gI wI g w ∧ e 0 = up0 ∧ OM 1 g w 3 (oE : List Int) up0 ∧ e 3 = .int .i64 (x3) ∧ e 4 = (.func (.func ff4) fa4 fc4) ∧ e 18 = .int .i64 ((w64 l5)) ∧ e 24 = .int .i64 ((w64 ((w64 ((w64 l5) + x2)) - o0)))) (fun Q' hQ => ?_) (fun nW uY hR => ?_)
      ·replace h := hx
       clear hx;obtain ⟨aE, hx, h⟩ := Ga h;refine Gp (fun e w => ∃ (g : Gh) , FrM iI gI wI g w ∧ e 0 = up0 ∧ OM 1 g w 3 (mE : List Int) up0 ∧ e 1 = .int .i64 (x1) ∧ e 3 = .int .i64 (x3) ∧ e 4 = (.func (.func ff4) fa4 fc4) ∧ e 18 = .int .i64 ((w64 l5)) ∧ e 20 = .int .i64 (o0) ∧ e 24 = .int .i64 ((w64 ((w64 ((w64 l5) + x2)) - o0))) ∧ e 199 = .bool (aE)) (fun Q' hQ => ?_) (fun oW vY hR => ?_)
       ·replace h := hx
        clear hx;refine Za (Zo tH rfl ?_);refine Zo yE rfl ?_;refine Gg (.bool ((decide (x1 < o0)))) rfl rfl rfl rfl ?_;refine Zn (.bool ((decide (x1 < o0)))) rfl rfl ?_;rcases Zt h with ⟨oD, h⟩ | ⟨oD, h⟩
        ·refine Zx (.int .i64 (o0)) (Zk yE) rfl rfl oD rfl ?_
         refine Zx (.int .i64 ((w64 l5))) (Zk mG) rfl rfl oD rfl ?_;refine Zx (.bool ((decide (o0 < (w64 l5))))) (Gj rfl rfl rfl) rfl rfl oD rfl ?_;refine Zw (.bool ((decide (o0 < (w64 l5))))) (Zl (b := (decide (x1 < o0))) rfl (Tg oD rfl)) rfl ?_;refine Zb ?_;obtain rfl := sinj h;exact hQ _ _ ⟨xR, hfr, mN, nN, tH, oN, pN, mG, yE, vJ, rfl⟩
        ·refine Zy rfl rfl oD rfl rfl ?_
         refine Zy rfl rfl oD rfl rfl ?_;refine Zy rfl rfl oD rfl rfl ?_;refine Zw (.bool false) (Zl (b := (decide (x1 < o0))) rfl (Tq oD rfl)) rfl ?_;refine Zb ?_;obtain rfl := sinj h;exact hQ _ _ ⟨xR, hfr, mN, nN, tH, oN, pN, mG, yE, vJ, rfl⟩
       ·clear hx
        obtain ⟨yR, hfr, uH, qN, zR, rN, xH, sG, kP, xJ, yH⟩ := hR;rcases Zt h with ⟨dL, h⟩ | ⟨dL, h⟩
        ·refine Tv (Eq.trans (show ev _ _ = .bool (aE) from yH) (congrArg Value.bool dL)) ?_
         refine Za (Zo uH rfl ?_);refine Zo zR rfl ?_;refine Zo kP rfl ?_;refine Zo sG rfl ?_;refine Zo xH rfl ?_;obtain ⟨pP, xT, h⟩ := Ga h;refine Ze .plain rfl (Hu (g := yR) (i := 1) (vs := [up0, .int .i64 (x1), .int .i64 (o0), .int .i64 ((w64 l5)), (.func (.func ff4) fa4 fc4)]) en90 (.cons rfl (.cons rfl (.cons rfl (.cons rfl (.cons rfl .nil))))) (ih qN (Ui.ch ⟨_, _, _, rfl, fen4, fcl4⟩ hfr.ch) xT) fun jV pW xY hs hr => ?_);obtain ⟨hrv, b934⟩ := hr;have hfr := hfr.stp hs;subst hrv;refine Zb ?_;obtain rfl := sinj h;exact hQ _ _ ⟨jV, hfr, uH, b934, rN, xH, sG, xJ⟩
        ·refine Tj (Eq.trans (show ev _ _ = .bool (aE) from yH) (congrArg Value.bool dL)) ?_
         refine Zu ?_;obtain rfl := sinj h;exact hQ _ _ ⟨yR, hfr, uH, qN, rN, xH, sG, xJ⟩
      ·clear hx
       obtain ⟨aS, hfr, sN, tN, zH, uN, xG, zE⟩ := hR;obtain ⟨bE, hx, h⟩ := Ga h;refine Gp (fun e w => ∃ (g : Gh) , FrM iI gI wI g w ∧ e 0 = up0 ∧ OM 1 g w 3 (oE : List Int) up0 ∧ e 3 = .int .i64 (x3) ∧ e 4 = (.func (.func ff4) fa4 fc4) ∧ e 18 = .int .i64 ((w64 l5)) ∧ e 24 = .int .i64 ((w64 ((w64 ((w64 l5) + x2)) - o0))) ∧ e 213 = .bool (bE)) (fun Q' hQ => ?_) (fun qW yY hR => ?_)
       ·replace h := hx
        clear hx;refine Za (Zo xG rfl ?_);refine Zw (.int .i64 ((w64 ((w64 ((w64 l5) + x2)) - o0)))) (Zk zE) rfl ?_;refine Zw (.bool ((decide ((w64 l5) < (w64 ((w64 ((w64 l5) + x2)) - o0)))))) (Gj rfl rfl rfl) rfl ?_;refine Zw (.bool ((decide ((w64 l5) < (w64 ((w64 ((w64 l5) + x2)) - o0)))))) (Zk rfl) rfl ?_;rcases Zt h with ⟨yD, h⟩ | ⟨yD, h⟩
        ·refine Zx (.int .i64 ((w64 ((w64 ((w64 l5) + x2)) - o0)))) (Zk zE) rfl rfl yD rfl ?_
         refine Zx (.int .i64 (x3)) (Zk zH) rfl rfl yD rfl ?_;refine Zx (.bool ((decide ((w64 ((w64 ((w64 l5) + x2)) - o0)) < x3)))) (Gj rfl rfl rfl) rfl rfl yD rfl ?_;refine Zw (.bool ((decide ((w64 ((w64 ((w64 l5) + x2)) - o0)) < x3)))) (Zl (b := (decide ((w64 l5) < (w64 ((w64 ((w64 l5) + x2)) - o0))))) rfl (Tg yD rfl)) rfl ?_;refine Zb ?_;obtain rfl := sinj h;exact hQ _ _ ⟨aS, hfr, sN, tN, zH, uN, xG, zE, rfl⟩
        ·refine Zy rfl rfl yD rfl rfl ?_
         refine Zy rfl rfl yD rfl rfl ?_;refine Zy rfl rfl yD rfl rfl ?_;refine Zw (.bool false) (Zl (b := (decide ((w64 l5) < (w64 ((w64 ((w64 l5) + x2)) - o0))))) rfl (Tq yD rfl)) rfl ?_;refine Zb ?_;obtain rfl := sinj h;exact hQ _ _ ⟨aS, hfr, sN, tN, zH, uN, xG, zE, rfl⟩
       ·clear hx
        obtain ⟨kV, hfr, bS, vN, cS, dS, lP, mP, aI⟩ := hR;rcases Zt h with ⟨eL, h⟩ | ⟨eL, h⟩
        ·refine Tv (Eq.trans (show ev _ _ = .bool (bE) from aI) (congrArg Value.bool eL)) ?_
         refine Za (Zo bS rfl ?_);refine Zo lP rfl ?_;refine Zw (.int .i64 ((w64 ((w64 ((w64 l5) + x2)) - o0)))) (Zk mP) rfl ?_;refine Zo cS rfl ?_;refine Zo dS rfl ?_;obtain ⟨sP, yT, h⟩ := Ga h;refine Ze .plain rfl (Hu (g := kV) (i := 1) (vs := [up0, .int .i64 ((w64 l5)), .int .i64 ((w64 ((w64 ((w64 l5) + x2)) - o0))), .int .i64 (x3), (.func (.func ff4) fa4 fc4)]) en90 (.cons rfl (.cons rfl (.cons rfl (.cons rfl (.cons rfl .nil))))) (ih vN (Ui.ch ⟨_, _, _, rfl, fen4, fcl4⟩ hfr.ch) yT) fun zY sW aZ hs hr => ?_);obtain ⟨hrv, b941⟩ := hr;have hfr := hfr.stp hs;subst hrv;refine Zb ?_;obtain rfl := sinj h;exact Vu rfl rfl ⟨_, hfr, rfl, yG.back b941⟩
        ·refine Tj (Eq.trans (show ev _ _ = .bool (bE) from aI) (congrArg Value.bool eL)) ?_
         refine Zu ?_;obtain rfl := sinj h;exact Vu rfl rfl ⟨_, hfr, rfl, yG.back vN⟩
def f91 (x0 : Gu) : Option (Bool) :=
 Option.bind (α := Bool) (
  bif (decide (((((x0).PayTable).Rows).length : Int) > (6 : Int))) then
   some (true)
  else
   (f98 (((x0).PayTable).Rows) ((fun a0 => f99 a0))).bind fun t5 =>
   some (t5)
  ) fun l5 =>
 some (l5)
theorem en91 : Enters Try.prog 91 := enters_of Try.func91 (by kernel_rfl) rfl
theorem wk91 {gI : Gh} {wI : World} {x0 : Gu} {up0 : Value} (rp0 : RV gI.m wI x0 up0) {r : Bool} (h : f91 x0 = some r) : Fn Try.prog 91 #[up0] gI wI (fun _ _ v => v = .bool (r)) := by
 unfold f91 at h;refine Gw Try.func91 rfl (Nat.le_of_ble_eq_true rfl) fun g0 hm hfr => ?_;have rp0 : RV g0.m wI x0 up0 := hm ▸ rp0;show E _ 14 none _ _ _ _ _;refine Zf (Za (Ze .plain rfl (Qs (g := g0) rfl rp0 fun g1 w1 p1 hs q1 => ?_)));have hfr := hfr.ext hs;refine Zg (.bool false) rfl rfl ?_;refine Zb (Zd ?_);obtain ⟨l5, hx, h⟩ := Ga h;refine Gp (fun e w => ∃ (g : Gh) , Fr gI wI g w ∧ e 2 = .bool (l5)) (fun Q' hQ => ?_) (fun nB vB hR => ?_)
 ·replace h := hx
  clear hx;refine Za (Zw (Gk p1 0) (Zc Qi rfl (PT.ptr q1)) rfl ?_);have g8 := Zm (Ta).1 q1;refine Zw (Gk (Gk p1 0) 0) (Zc Kk rfl (PT.ptr g8)) rfl ?_;have v8 := Zm (Qv).1 g8;refine Ze .plain rfl (Gf (g := g1) Try.isAgg76 Try.sizeOf76 rfl v8 fun yB l9 => ?_);refine Zw (.int .i64 ((((x0).PayTable).Rows).length : Int)) (Tu Try.underlying76 rfl l9) rfl ?_;refine Zw (.bool ((decide (((((x0).PayTable).Rows).length : Int) > (6 : Int))))) (Gj rfl rfl rfl) rfl ?_;refine Zw (.bool ((decide (((((x0).PayTable).Rows).length : Int) > (6 : Int))))) (Zk rfl) rfl ?_;rcases Zt h with ⟨o0, h⟩ | ⟨o0, h⟩
  ·refine Zy rfl rfl o0 rfl rfl ?_
   iterate 3 refine Zy rfl rfl o0 rfl rfl ?_
   refine Zw (.bool true) (Zl (b := (decide (((((x0).PayTable).Rows).length : Int) > (6 : Int)))) rfl (Tg o0 rfl)) rfl ?_;refine Zg (.bool true) rfl rfl ?_;refine Zb ?_;obtain rfl := sinj h;exact hQ _ _ ⟨g1, hfr, rfl⟩
  ·refine Zx (Gk p1 0) (Zc Qi rfl (PT.ptr q1)) rfl rfl o0 rfl ?_
   have l8 := Zm (Ta).1 q1;refine Zx (Gk (Gk p1 0) 0) (Zc Kk rfl (PT.ptr l8)) rfl rfl o0 rfl ?_;have n9 := Zm (Qv).1 l8;refine Ze (.yes2 rfl rfl o0) rfl (Gf (g := g1) Try.isAgg76 Try.sizeOf76 rfl n9 fun aB lB => ?_);obtain ⟨t5, n8, h⟩ := Ga h;refine Ze (.yes2 rfl rfl o0) rfl (Zp (g := g1) (vs := [aB, .func (.func 99) #[] #[]]) en98 (.cons rfl (.cons rfl .nil)) (wk98 lB ⟨99, #[], #[], rfl, en99, fun g' w' hch a0 b0 r hu0 hr => by exact Fn.mono (wk99 hu0  hr) fun _ _ _ h => Kl.2 h⟩ n8) fun mB oB zB hs hr => ?_);have hfr := hfr.ext hs;subst hr;refine Zw (.bool (t5)) (Zl (b := (decide (((((x0).PayTable).Rows).length : Int) > (6 : Int)))) rfl (Tq o0 rfl)) rfl ?_;refine Zg (.bool (t5)) rfl rfl ?_;refine Zb ?_;obtain rfl := sinj h;exact hQ _ _ ⟨mB, hfr, rfl⟩
 ·clear hx
  obtain ⟨cC, hfr, i6⟩ := hR;refine Gq ?_;obtain rfl := sinj h;exact Qr rfl rfl (show _ = .bool (l5) from i6) ⟨_, hfr, rfl⟩
def f92 (x0 : Gu) : Option (Bool) :=
 jn (σ := Unit) (fun _ =>
  (f98 (((x0).PayTable).Rows) ((fun a0 => f100 a0 x0))).bind fun l9 =>
  some ((!l9))
  ) fun aE =>
 Option.bind (α := Bool) (
  bif (((((x0).PayTable).Rows).length : Int) == (0 : Int)) then
   some (true)
  else
   (idx (((x0).PayTable).Rows) (0 : Int)).bind fun i6 =>
   bif (((i6).length : Int) == (0 : Int)) then
    some (true)
   else
    bif (((((x0).PayTable).Across).length : Int) != ((((x0).PayTable).Rows).length : Int)) then
     some (true)
    else
     (idx (((x0).PayTable).Rows) (0 : Int)).bind fun n9 =>
     some ((((((x0).PayTable).Down).length : Int) != ((n9).length : Int)))
  ) fun g8 =>
 bif g8 then
  some (false)
 else
  aE ()
theorem en92 : Enters Try.prog 92 := enters_of Try.func92 (by kernel_rfl) rfl
theorem wk92 {gI : Gh} {wI : World} {x0 : Gu} {up0 : Value} (rp0 : RV gI.m wI x0 up0) {r : Bool} (h : f92 x0 = some r) : Fn Try.prog 92 #[up0] gI wI (fun _ _ v => v = .bool (r)) := by
 unfold f92 at h;refine Gw Try.func92 rfl (Nat.le_of_ble_eq_true rfl) fun g0 hm hfr => ?_;have rp0 : RV g0.m wI x0 up0 := hm ▸ rp0;show E _ 47 none _ _ _ _ _;refine Zf (Za (Ze .plain rfl (Qs (g := g0) rfl rp0 fun g1 w1 p1 hs q1 => ?_)));have hfr := hfr.ext hs;refine Zg (.bool false) rfl rfl ?_;refine Zb (Zd (Zq h (fun (s : Unit) e w => ∃ (g : Gh) , Fr gI wI g w ∧ e 1 = p1 ∧ PT g.m w (x0 : Gu) p1) (fun X395 aE dF h => ?_) ?_))
 ·obtain ⟨g8, hx, h⟩ := Ga h
  refine Gp (fun e w => ∃ (g : Gh) , Fr gI wI g w ∧ e 1 = p1 ∧ PT g.m w (x0 : Gu) p1 ∧ e 40 = .bool (g8)) (fun Q' hQ => ?_) (fun gH lH hR => ?_)
  ·replace h := hx
   clear hx;have aB := Zm (Ta).1 q1;have uF := Zm (Qv).1 aB;refine Zs (x := .tmp 4) Try.isAgg76 Try.sizeOf76 uF fun nB oB n8 => ?_;rcases Zt h with ⟨o0, h⟩ | ⟨o0, h⟩
   ·refine Tx (g := g1) (n := 38) [] [0, 1, 2, 3, 4, 5, 6, 7, 8, 9, 10, 11, 12, 13, 14, 15, 16, 17, 18, 19, 20, 21, 22, 23, 24, 25, 26, 27, 28, 29, 30, 31, 32, 33, 34, 35, 36, 37] rfl Qq (by kernel_rfl) trivial ?_
    refine Zz (Gk p1 0) rfl rfl (Zc Qi rfl (PT.ptr q1)) ?_;refine Zz (Gk (Gk p1 0) 0) rfl rfl (Zc Kk rfl (PT.ptr aB)) ?_;refine Tt (c := nB) rfl rfl .plain (fun _ _ h => h.ch) n8 rfl ?_;refine Zz (.int .i64 ((((x0).PayTable).Rows).length : Int)) rfl rfl (Tu Try.underlying76 rfl oB) ?_;refine Zz (.bool ((((((x0).PayTable).Rows).length : Int) == (0 : Int)))) rfl rfl (Gj rfl rfl rfl) ?_;refine Zz (.bool ((((((x0).PayTable).Rows).length : Int) == (0 : Int)))) rfl rfl (Zk rfl) ?_;iterate 7 refine L_s rfl rfl rfl o0 rfl ?_
    refine Zz (.bool true) rfl rfl (Zl (b := (((((x0).PayTable).Rows).length : Int) == (0 : Int))) rfl (Tg o0 rfl)) ?_;refine Ua (fun _ => rfl) 24 rfl ?_;refine Kr fun vF mH hs => ?_;have hfr := hfr.ext hs;have q1 := q1.ext hs;clear hs;refine Zb ?_;obtain rfl := sinj h;exact hQ _ _ ⟨vF, hfr, rfl, q1, rfl⟩
   ·have vB := Zm (Ta).1 q1
    have xF := Zm (Qv).1 vB;refine Zs (x := .tmp 10) Try.isAgg76 Try.sizeOf76 xF fun l8 yB zB => ?_;obtain ⟨i6, v8, h⟩ := Ga h;have yF := Tp yB v8;refine Zs (x := .tmp 12) Try.isAgg31 Try.sizeOf31 yF fun bD cD cC => ?_;rcases Zt h with ⟨l5, h⟩ | ⟨l5, h⟩
    ·refine Tx (g := g1) (n := 38) [] [0, 1, 2, 3, 4, 5, 6, 7, 8, 9, 10, 11, 12, 13, 14, 15, 16, 17, 18, 19, 20, 21, 22, 23, 24, 25, 26, 27, 28, 29, 30, 31, 32, 33, 34, 35, 36, 37] rfl Qq (by kernel_rfl) trivial ?_
     refine Zz (Gk p1 0) rfl rfl (Zc Qi rfl (PT.ptr q1)) ?_;refine Zz (Gk (Gk p1 0) 0) rfl rfl (Zc Kk rfl (PT.ptr aB)) ?_;refine Tt (c := nB) rfl rfl .plain (fun _ _ h => h.ch) n8 rfl ?_;refine Zz (.int .i64 ((((x0).PayTable).Rows).length : Int)) rfl rfl (Tu Try.underlying76 rfl oB) ?_;refine Zz (.bool ((((((x0).PayTable).Rows).length : Int) == (0 : Int)))) rfl rfl (Gj rfl rfl rfl) ?_;refine Zz (.bool ((((((x0).PayTable).Rows).length : Int) == (0 : Int)))) rfl rfl (Zk rfl) ?_;refine L_y (Gk p1 0) rfl rfl rfl rfl o0 (Zc Qi rfl (PT.ptr q1)) ?_;refine L_y (Gk (Gk p1 0) 0) rfl rfl rfl rfl o0 (Zc Kk rfl (PT.ptr vB)) ?_;refine Tt (c := l8) rfl rfl (.yes2 rfl rfl o0) (fun _ _ h => h.ch) zB rfl ?_;refine L_y (Ty l8 (0 : Int) 1) rfl rfl rfl rfl o0 (Zh (α := List Int) Try.underlying76 Try.sizeOf31 rfl yB rfl v8) ?_;refine Tt (c := bD) rfl rfl (.yes2 rfl rfl o0) (fun _ _ h => h.ch) cC rfl ?_;refine L_y (.int .i64 ((i6).length : Int)) rfl rfl rfl rfl o0 (Tu Try.underlying31 rfl cD) ?_;refine L_y (.bool ((((i6).length : Int) == (0 : Int)))) rfl rfl rfl rfl o0 (Gj rfl rfl rfl) ?_;refine Zz (.bool ((((i6).length : Int) == (0 : Int)))) rfl rfl (Zl (b := (((((x0).PayTable).Rows).length : Int) == (0 : Int))) rfl (Tq o0 rfl)) ?_;refine Zz (.bool ((((i6).length : Int) == (0 : Int)))) rfl rfl (Zk rfl) ?_;iterate 9 refine L_s rfl rfl rfl l5 rfl ?_
     refine Zz (.bool true) rfl rfl (Zl (b := (((i6).length : Int) == (0 : Int))) rfl (Tg l5 rfl)) ?_;refine Ua (fun _ => rfl) 13 rfl ?_;refine Kr fun aG nH hs => ?_;have hfr := hfr.ext hs;have q1 := q1.ext hs;clear hs;refine Zb ?_;obtain rfl := sinj h;exact hQ _ _ ⟨aG, hfr, rfl, q1, rfl⟩
    ·have lD := Zm (Ta).1 q1
     have bG := Zm (Hr).1 lD;refine Zs (x := .tmp 19) Try.isAgg31 Try.sizeOf31 bG fun bE iE oD => ?_;have nD := Zm (Ta).1 q1;have cG := Zm (Qv).1 nD;refine Zs (x := .tmp 23) Try.isAgg76 Try.sizeOf76 cG fun lE mE yD => ?_;rcases Zt h with ⟨t5, h⟩ | ⟨t5, h⟩
     ·refine Tx (g := g1) (n := 38) [] [0, 1, 2, 3, 4, 5, 6, 7, 8, 9, 10, 11, 12, 13, 14, 15, 16, 17, 18, 19, 20, 21, 22, 23, 24, 25, 26, 27, 28, 29, 30, 31, 32, 33, 34, 35, 36, 37] rfl Qq (by kernel_rfl) trivial ?_
      refine Zz (Gk p1 0) rfl rfl (Zc Qi rfl (PT.ptr q1)) ?_;refine Zz (Gk (Gk p1 0) 0) rfl rfl (Zc Kk rfl (PT.ptr aB)) ?_;refine Tt (c := nB) rfl rfl .plain (fun _ _ h => h.ch) n8 rfl ?_;refine Zz (.int .i64 ((((x0).PayTable).Rows).length : Int)) rfl rfl (Tu Try.underlying76 rfl oB) ?_;refine Zz (.bool ((((((x0).PayTable).Rows).length : Int) == (0 : Int)))) rfl rfl (Gj rfl rfl rfl) ?_;refine Zz (.bool ((((((x0).PayTable).Rows).length : Int) == (0 : Int)))) rfl rfl (Zk rfl) ?_;refine L_y (Gk p1 0) rfl rfl rfl rfl o0 (Zc Qi rfl (PT.ptr q1)) ?_;refine L_y (Gk (Gk p1 0) 0) rfl rfl rfl rfl o0 (Zc Kk rfl (PT.ptr vB)) ?_;refine Tt (c := l8) rfl rfl (.yes2 rfl rfl o0) (fun _ _ h => h.ch) zB rfl ?_;refine L_y (Ty l8 (0 : Int) 1) rfl rfl rfl rfl o0 (Zh (α := List Int) Try.underlying76 Try.sizeOf31 rfl yB rfl v8) ?_;refine Tt (c := bD) rfl rfl (.yes2 rfl rfl o0) (fun _ _ h => h.ch) cC rfl ?_;refine L_y (.int .i64 ((i6).length : Int)) rfl rfl rfl rfl o0 (Tu Try.underlying31 rfl cD) ?_;refine L_y (.bool ((((i6).length : Int) == (0 : Int)))) rfl rfl rfl rfl o0 (Gj rfl rfl rfl) ?_;refine Zz (.bool ((((i6).length : Int) == (0 : Int)))) rfl rfl (Zl (b := (((((x0).PayTable).Rows).length : Int) == (0 : Int))) rfl (Tq o0 rfl)) ?_;refine Zz (.bool ((((i6).length : Int) == (0 : Int)))) rfl rfl (Zk rfl) ?_;refine L_y (Gk p1 0) rfl rfl rfl rfl l5 (Zc Qi rfl (PT.ptr q1)) ?_;refine L_y (Gk (Gk p1 0) 1) rfl rfl rfl rfl l5 (Zc Xp rfl (PT.ptr lD)) ?_;refine Tt (c := bE) rfl rfl (.yes2 rfl rfl l5) (fun _ _ h => h.ch) oD rfl ?_;refine L_y (.int .i64 ((((x0).PayTable).Across).length : Int)) rfl rfl rfl rfl l5 (Tu Try.underlying31 rfl iE) ?_;refine L_y (Gk p1 0) rfl rfl rfl rfl l5 (Zc Qi rfl (PT.ptr q1)) ?_;refine L_y (Gk (Gk p1 0) 0) rfl rfl rfl rfl l5 (Zc Kk rfl (PT.ptr nD)) ?_;refine Tt (c := lE) rfl rfl (.yes2 rfl rfl l5) (fun _ _ h => h.ch) yD rfl ?_;refine L_y (.int .i64 ((((x0).PayTable).Rows).length : Int)) rfl rfl rfl rfl l5 (Tu Try.underlying76 rfl mE) ?_;refine L_y (.bool ((((((x0).PayTable).Across).length : Int) != ((((x0).PayTable).Rows).length : Int)))) rfl rfl rfl rfl l5 (Gj rfl rfl rfl) ?_;refine Zz (.bool ((((((x0).PayTable).Across).length : Int) != ((((x0).PayTable).Rows).length : Int)))) rfl rfl (Zl (b := (((i6).length : Int) == (0 : Int))) rfl (Tq l5 rfl)) ?_;refine Zz (.bool ((((((x0).PayTable).Across).length : Int) != ((((x0).PayTable).Rows).length : Int)))) rfl rfl (Zk rfl) ?_;iterate 11 refine L_s rfl rfl rfl t5 rfl ?_
      refine Zz (.bool true) rfl rfl (Zl (b := (((((x0).PayTable).Across).length : Int) != ((((x0).PayTable).Rows).length : Int))) rfl (Tg t5 rfl)) ?_;refine Kr fun eG oH hs => ?_;have hfr := hfr.ext hs;have q1 := q1.ext hs;clear hs;refine Zb ?_;obtain rfl := sinj h;exact hQ _ _ ⟨eG, hfr, rfl, q1, rfl⟩
     ·have oE := Zm (Ta).1 q1
      have gG := Zm (Ks).1 oE;refine Zs (x := .tmp 30) Try.isAgg31 Try.sizeOf31 gG fun iG jG eF => ?_;have rE := Zm (Ta).1 q1;have kG := Zm (Qv).1 rE;refine Zs (x := .tmp 34) Try.isAgg76 Try.sizeOf76 kG fun uE vE rF => ?_;obtain ⟨n9, zD, h⟩ := Ga h;have lG := Tp vE zD;refine Zs (x := .tmp 36) Try.isAgg31 Try.sizeOf31 lG fun mG sG sF => ?_;refine Tx (g := g1) (n := 38) [] [0, 1, 2, 3, 4, 5, 6, 7, 8, 9, 10, 11, 12, 13, 14, 15, 16, 17, 18, 19, 20, 21, 22, 23, 24, 25, 26, 27, 28, 29, 30, 31, 32, 33, 34, 35, 36, 37] rfl Qq (by kernel_rfl) trivial ?_;refine Zz (Gk p1 0) rfl rfl (Zc Qi rfl (PT.ptr q1)) ?_;refine Zz (Gk (Gk p1 0) 0) rfl rfl (Zc Kk rfl (PT.ptr aB)) ?_;refine Tt (c := nB) rfl rfl .plain (fun _ _ h => h.ch) n8 rfl ?_;refine Zz (.int .i64 ((((x0).PayTable).Rows).length : Int)) rfl rfl (Tu Try.underlying76 rfl oB) ?_;refine Zz (.bool ((((((x0).PayTable).Rows).length : Int) == (0 : Int)))) rfl rfl (Gj rfl rfl rfl) ?_;refine Zz (.bool ((((((x0).PayTable).Rows).length : Int) == (0 : Int)))) rfl rfl (Zk rfl) ?_;refine L_y (Gk p1 0) rfl rfl rfl rfl o0 (Zc Qi rfl (PT.ptr q1)) ?_;refine L_y (Gk (Gk p1 0) 0) rfl rfl rfl rfl o0 (Zc Kk rfl (PT.ptr vB)) ?_;refine Tt (c := l8) rfl rfl (.yes2 rfl rfl o0) (fun _ _ h => h.ch) zB rfl ?_;refine L_y (Ty l8 (0 : Int) 1) rfl rfl rfl rfl o0 (Zh (α := List Int) Try.underlying76 Try.sizeOf31 rfl yB rfl v8) ?_;refine Tt (c := bD) rfl rfl (.yes2 rfl rfl o0) (fun _ _ h => h.ch) cC rfl ?_;refine L_y (.int .i64 ((i6).length : Int)) rfl rfl rfl rfl o0 (Tu Try.underlying31 rfl cD) ?_;refine L_y (.bool ((((i6).length : Int) == (0 : Int)))) rfl rfl rfl rfl o0 (Gj rfl rfl rfl) ?_;refine Zz (.bool ((((i6).length : Int) == (0 : Int)))) rfl rfl (Zl (b := (((((x0).PayTable).Rows).length : Int) == (0 : Int))) rfl (Tq o0 rfl)) ?_;refine Zz (.bool ((((i6).length : Int) == (0 : Int)))) rfl rfl (Zk rfl) ?_;refine L_y (Gk p1 0) rfl rfl rfl rfl l5 (Zc Qi rfl (PT.ptr q1)) ?_;refine L_y (Gk (Gk p1 0) 1) rfl rfl rfl rfl l5 (Zc Xp rfl (PT.ptr lD)) ?_;refine Tt (c := bE) rfl rfl (.yes2 rfl rfl l5) (fun _ _ h => h.ch) oD rfl ?_;refine L_y (.int .i64 ((((x0).PayTable).Across).length : Int)) rfl rfl rfl rfl l5 (Tu Try.underlying31 rfl iE) ?_;refine L_y (Gk p1 0) rfl rfl rfl rfl l5 (Zc Qi rfl (PT.ptr q1)) ?_;refine L_y (Gk (Gk p1 0) 0) rfl rfl rfl rfl l5 (Zc Kk rfl (PT.ptr nD)) ?_;refine Tt (c := lE) rfl rfl (.yes2 rfl rfl l5) (fun _ _ h => h.ch) yD rfl ?_;refine L_y (.int .i64 ((((x0).PayTable).Rows).length : Int)) rfl rfl rfl rfl l5 (Tu Try.underlying76 rfl mE) ?_;refine L_y (.bool ((((((x0).PayTable).Across).length : Int) != ((((x0).PayTable).Rows).length : Int)))) rfl rfl rfl rfl l5 (Gj rfl rfl rfl) ?_;refine Zz (.bool ((((((x0).PayTable).Across).length : Int) != ((((x0).PayTable).Rows).length : Int)))) rfl rfl (Zl (b := (((i6).length : Int) == (0 : Int))) rfl (Tq l5 rfl)) ?_;refine Zz (.bool ((((((x0).PayTable).Across).length : Int) != ((((x0).PayTable).Rows).length : Int)))) rfl rfl (Zk rfl) ?_;refine L_y (Gk p1 0) rfl rfl rfl rfl t5 (Zc Qi rfl (PT.ptr q1)) ?_;refine L_y (Gk (Gk p1 0) 2) rfl rfl rfl rfl t5 (Zc Xt rfl (PT.ptr oE)) ?_;refine Tt (c := iG) rfl rfl (.yes2 rfl rfl t5) (fun _ _ h => h.ch) eF rfl ?_;refine L_y (.int .i64 ((((x0).PayTable).Down).length : Int)) rfl rfl rfl rfl t5 (Tu Try.underlying31 rfl jG) ?_;refine L_y (Gk p1 0) rfl rfl rfl rfl t5 (Zc Qi rfl (PT.ptr q1)) ?_;refine L_y (Gk (Gk p1 0) 0) rfl rfl rfl rfl t5 (Zc Kk rfl (PT.ptr rE)) ?_;refine Tt (c := uE) rfl rfl (.yes2 rfl rfl t5) (fun _ _ h => h.ch) rF rfl ?_;refine L_y (Ty uE (0 : Int) 1) rfl rfl rfl rfl t5 (Zh (α := List Int) Try.underlying76 Try.sizeOf31 rfl vE rfl zD) ?_;refine Tt (c := mG) rfl rfl (.yes2 rfl rfl t5) (fun _ _ h => h.ch) sF rfl ?_;refine L_y (.int .i64 ((n9).length : Int)) rfl rfl rfl rfl t5 (Tu Try.underlying31 rfl sG) ?_;refine L_y (.bool ((((((x0).PayTable).Down).length : Int) != ((n9).length : Int)))) rfl rfl rfl rfl t5 (Gj rfl rfl rfl) ?_;refine Zz (.bool ((((((x0).PayTable).Down).length : Int) != ((n9).length : Int)))) rfl rfl (Zl (b := (((((x0).PayTable).Across).length : Int) != ((((x0).PayTable).Rows).length : Int))) rfl (Tq t5 rfl)) ?_
      refine Kr fun xG pH hs => ?_;have hfr := hfr.ext hs;have q1 := q1.ext hs;clear hs;refine Zb ?_;obtain rfl := sinj h;exact hQ _ _ ⟨xG, hfr, rfl, q1, rfl⟩
  ·clear hx
   obtain ⟨yG, hfr, xE, yE, mB⟩ := hR;rcases Zt h with ⟨uC, h⟩ | ⟨uC, h⟩
   ·refine Tv (Eq.trans (show ev _ _ = .bool (g8) from mB) (congrArg Value.bool uC)) ?_
    refine Zf (Za (Zg (.bool false) rfl rfl ?_));refine Zb (Zd (Gq (Tz ?_)));obtain rfl := sinj h;exact Qr rfl rfl (show _ = .bool false from rfl) ⟨_, hfr, rfl⟩
   ·refine Tj (Eq.trans (show ev _ _ = .bool (g8) from mB) (congrArg Value.bool uC)) ?_
    exact Zu (Zd (dF () _ _ ⟨yG, hfr, xE, yE⟩ h))
 ·rintro _ jH qH ⟨zE, hfr, vC, lB⟩ h
  refine Zf (Za (Zw (Gk p1 0) (Zc Qi vC (PT.ptr lB)) rfl ?_));have cF := Zm (Ta).1 lB;refine Zw (Gk (Gk p1 0) 0) (Zc Kk rfl (PT.ptr cF)) rfl ?_;have zG := Zm (Qv).1 cF;refine Ze .plain rfl (Gf (g := zE) Try.isAgg76 Try.sizeOf76 rfl zG fun aH cH => ?_);refine Zw ((.func (.func 100) #[] #[p1])) (Hy (Bj (show ev _ _ = p1 from vC))) rfl ?_;obtain ⟨l9, tF, h⟩ := Ga h;refine Ze .plain rfl (Zp (g := zE) (vs := [aH, (.func (.func 100) #[] #[p1])]) en98 (.cons rfl (.cons rfl .nil)) (wk98 cH ⟨100, #[], #[p1], rfl, en100, fun g' w' hch a0 b0 r hu0 hr => by exact Fn.mono (wk100 hu0 (lB.ch hch) hr) fun _ _ _ h => Kl.2 h⟩ tF) fun sH kH tH hs hr => ?_);have hfr := hfr.ext hs;subst hr;refine Zw (.bool (!l9)) (Wh rfl) rfl ?_;refine Zg (.bool (!l9)) rfl rfl ?_;refine Zb (Zd (Gq ?_));obtain rfl := sinj h;exact Qr rfl rfl (show _ = .bool (!l9) from rfl) ⟨_, hfr, rfl⟩
def f93 (x0 : List Int) : Option (Bool) :=
 (f32 ((-1 : Int)) ((1000000 : Int)) x0).bind fun y2 =>
 some (y2)
theorem en93 : Enters Try.prog 93 := enters_of Try.func93 (by kernel_rfl) rfl
theorem wk93 {gI : Gh} {wI : World} {x0 : List Int} {up0 : Value} (rp0 : RV gI.m wI x0 up0) {r : Bool} (h : f93 x0 = some r) : Fn Try.prog 93 #[up0] gI wI (fun _ _ v => v = .bool (r)) := by
 unfold f93 at h;refine Gw Try.func93 rfl (Nat.le_of_ble_eq_true rfl) fun g0 hm hfr => ?_;have rp0 : RV g0.m wI x0 up0 := hm ▸ rp0;show E _ 5 none _ _ _ _ _;refine Zf (Za (Zg (.bool false) rfl rfl ?_));refine Zb (Zd (Zf (Za (Zn up0 rfl rfl ?_))));obtain ⟨y2, hy2, h⟩ := Ga h;refine Ze .plain rfl (Zp (g := g0) (vs := [.int .i64 (-1), .int .i64 (1000000), up0]) en32 (.cons rfl (.cons rfl (.cons rfl .nil))) (wk32 rp0 hy2) fun g1 w1_ v1 hs hr => ?_);have hfr := hfr.ext hs;subst hr;refine Zg (.bool (y2)) rfl rfl ?_;refine Zb (Zd (Gq ?_));obtain rfl := sinj h;exact Qr rfl rfl (show _ = .bool (y2) from rfl) ⟨_, hfr, rfl⟩
def f17 (x0 : Int) : Option (Bool) :=
 (f20 ((1 : Int)) ((24 : Int)) (([x0] : List Int))).bind fun y3 =>
 some (y3)
theorem en17 : Enters Try.prog 17 := enters_of Try.func17 (by kernel_rfl) rfl
theorem wk17 {gI : Gh} {wI : World} {x0 : Int}  {r : Bool} (h : f17 x0 = some r) : Fn Try.prog 17 #[.int .i64 (x0)] gI wI (fun _ _ v => v = .bool (r)) := by
 unfold f17 at h;refine Gw Try.func17 rfl (Nat.le_of_ble_eq_true rfl) fun g0 hm hfr => ?_;show E _ 6 none _ _ _ _ _;refine Zf (Za (Zg (.bool false) rfl rfl ?_));refine Zb (Zd (Zf (Za (Zn (.int .i64 (x0)) rfl rfl ?_))));refine Ze .plain rfl (Gl (g := g0) 3004 (xs := ([x0] : List Int)) (vs := [.int .i64 (x0)]) Try.underlying31 Try.sizeOf3 Try.zeroValue3 rfl rfl (.cons rfl .nil) (RVs.cons (Zj.2 rfl) RVs.nil) rfl rfl fun g1 w1 v1 hs o1 r1 hxt hfl => ?_);have hfr := hfr.stp hs;obtain ⟨y3, hy3, h⟩ := Ga h;refine Ze .plain rfl (Zp (g := g1) (vs := [.int .i64 (1), .int .i64 (24), v1]) en20 (.cons rfl (.cons rfl (.cons rfl .nil))) (wk20 r1 hy3) fun g2 w2_ v2 hs hr => ?_);have hfr := hfr.ext hs;subst hr;refine Zg (.bool (y3)) rfl rfl ?_;refine Zb (Zd (Gq ?_));obtain rfl := sinj h;exact Qr rfl rfl (show _ = .bool (y3) from rfl) ⟨_, hfr, rfl⟩
def f18 (x0 : Int) (x1 : List Int) : Option (Bool) :=
 (Sj (1 : Int) x0).bind fun y1 =>
 (f20 ((0 : Int)) ((w64 (y1 - (1 : Int)))) x1).bind fun y3 =>
 some (y3)
theorem en18 : Enters Try.prog 18 := enters_of Try.func18 (by kernel_rfl) rfl
theorem wk18 {gI : Gh} {wI : World} {x0 : Int} {x1 : List Int} {up1 : Value} (rp1 : RV gI.m wI x1 up1) {r : Bool} (h : f18 x0 x1 = some r) : Fn Try.prog 18 #[.int .i64 (x0), up1] gI wI (fun _ _ v => v = .bool (r)) := by
 unfold f18 at h;refine Gw Try.func18 rfl (Nat.le_of_ble_eq_true rfl) fun g0 hm hfr => ?_;have rp1 : RV g0.m wI x1 up1 := hm ▸ rp1;show E _ 10 none _ _ _ _ _;refine Zf (Za (Zg (.bool false) rfl rfl ?_));refine Zb (Zd (Zf (Za (Zn (.int .i64 (x0)) rfl rfl ?_))));obtain ⟨y1, hy1, h⟩ := Ga h;refine Zw (.int .i64 (y1)) (Gj rfl rfl (congrArg (Option.map (Value.int .i64)) hy1)) rfl ?_;refine Gg (.int .i64 ((w64 (y1 - (1 : Int))))) rfl rfl rfl rfl ?_;refine Zn up1 rfl rfl ?_;obtain ⟨y3, hy3, h⟩ := Ga h;refine Ze .plain rfl (Zp (g := g0) (vs := [.int .i64 (0), .int .i64 ((w64 (y1 - (1 : Int)))), up1]) en20 (.cons rfl (.cons rfl (.cons rfl .nil))) (wk20 rp1 hy3) fun g2 w2_ v2 hs hr => ?_);have hfr := hfr.ext hs;subst hr;refine Zg (.bool (y3)) rfl rfl ?_;refine Zb (Zd (Gq ?_));obtain rfl := sinj h;exact Qr rfl rfl (show _ = .bool (y3) from rfl) ⟨_, hfr, rfl⟩
def f21 (x0 : Gb) (x1 : Int) : Option (Int) :=
 jn (σ := Unit) (fun _ =>
  (idx (((x0).ChainBelt).Cards) x1).bind fun t5 =>
  some ((t5).Row)
  ) fun k19 =>
 (idx (((x0).ChainBelt).Cards) x1).bind fun y23 =>
 bif (y23).Turned then
  (f41 ((x0).frame) ((y23).Row)).bind fun i6 =>
  some (i6)
 else
  k19 ()
theorem en21 : Enters Try.prog 21 := enters_of Try.func21 (by kernel_rfl) rfl
theorem wk21 {gI : Gh} {wI : World} {x0 : Gb} {x1 : Int} {up0 : Value} (rp0 : RV gI.m wI x0 up0) {r : Int} (h : f21 x0 x1 = some r) : Fn Try.prog 21 #[up0, .int .i64 (x1)] gI wI (fun _ _ v => v = .int .i64 (r)) := by
 unfold f21 at h;refine Gw Try.func21 rfl (Nat.le_of_ble_eq_true rfl) fun g0 hm hfr => ?_;have rp0 : RV g0.m wI x0 up0 := hm ▸ rp0;show E _ 26 none _ _ _ _ _;refine Zf (Za (Ze .plain rfl (Qs (g := g0) rfl rp0 fun g1 w1 p1 hs q1 => ?_)));have hfr := hfr.ext hs;refine Zg (.int .i64 (0)) rfl rfl ?_;refine Zb (Zd (Zq h (fun (s : Unit) e w => ∃ (g : Gh) , Fr gI wI g w ∧ e 1 = .int .i64 (x1) ∧ e 2 = p1 ∧ PT g.m w (x0 : Gb) p1) (fun X19 k19 cC h => ?_) ?_))
 ·refine Zf (Za (Zw (Gk p1 0) (Zc Jr rfl (PT.ptr q1)) rfl ?_))
  have aB := Zm (Qe).1 q1;refine Zw (Gk (Gk p1 0) 1) (Zc Wm rfl (PT.ptr aB)) rfl ?_;have vC := Zm (Tc).1 aB;refine Ze .plain rfl (Gf (g := g1) Try.isAgg25 Try.sizeOf25 rfl vC fun bD lB => ?_);refine Zn (.int .i64 (x1)) rfl rfl ?_;obtain ⟨y23, l8, h⟩ := Ga h;refine Zw (Ty bD x1 3) (Zh (α := Gc) Try.underlying25 Try.sizeOf60 rfl lB rfl l8) rfl ?_;have cD := Tp lB l8;refine Ze .plain rfl (Gf (g := g1) Try.isAgg60 Try.sizeOf60 rfl cD fun lD n8 => ?_);refine Ze .plain rfl (Ti (g := g1) 2005 (⟨0, 0, false⟩ : Gc) Try.zeroValue60 (fun m w => ⟨_, (Gv Zv (Gv Zv Hp)), rfl⟩) fun nD rE mB hs b26 cb => ?_);have hfr := hfr.stp hs;have q1 := q1.stp hs;have n8 := n8.stp hs;clear cb;refine Ze .plain rfl (Gm (g := nD) (v := lD) Try.sizeOf60 rfl b26 rfl n8 fun o0 uE hs b27 cb => ?_);clear cb;have hfr := hfr.stp hs;have q1 := q1.stp hs;refine Zb (Zd (Zf (Za (Zw (Gk mB 2) (Zc at_60_2 rfl (OB.ptr b27)) rfl ?_))));refine Ze .plain rfl (Wz (g := o0) Bm.1 Try.isAgg4 Try.sizeOf4 rfl b27 fun vE oD => ?_);obtain rfl := Kl.1 oD;refine Zb (Zd ?_);rcases Zt h with ⟨l5, h⟩ | ⟨l5, h⟩
  ·refine Tn l5 rfl ?_
   refine Zf (Za (Zw (Gk p1 2) (Zc Rg rfl (PT.ptr q1)) rfl ?_));have yD := Zm (Kn).1 q1;refine Ze .plain rfl (Gf (g := o0) Try.isAgg57 Try.sizeOf57 rfl yD fun xE zD => ?_);obtain rfl := Zj.1 zD;refine Zw (Gk mB 1) (Zc Ll rfl (OB.ptr b27)) rfl ?_;refine Ze .plain rfl (Wz (g := o0) Jw.1 Try.isAgg3 Try.sizeOf3 rfl b27 fun yE aE => ?_);obtain rfl := Zj.1 aE;obtain ⟨i6, uC, h⟩ := Ga h;refine Ze .plain rfl (Zp (g := o0) (vs := [.int .i64 ((x0).frame), .int .i64 ((y23).Row)]) en41 (.cons rfl (.cons rfl .nil)) (wk41  uC) fun zE mE cF hs hr => ?_);have hfr := hfr.ext hs;subst hr;refine Zg (.int .i64 (i6)) rfl rfl ?_;refine Zb (Zd (Gq (Tz ?_)));obtain rfl := sinj h;exact Qr rfl rfl (show _ = .int .i64 (i6) from rfl) ⟨_, hfr, rfl⟩
  ·refine To l5 rfl ?_
   exact Zu (Zd (cC () _ _ ⟨o0, hfr, rfl, rfl, q1⟩ h))
 ·rintro _ oE dF ⟨nB, hfr, l9, n9, g8⟩ h
  refine Zf (Za (Zw (Gk p1 0) (Zc Jr n9 (PT.ptr g8)) rfl ?_));have oB := Zm (Qe).1 g8;refine Zw (Gk (Gk p1 0) 1) (Zc Wm rfl (PT.ptr oB)) rfl ?_;have bE := Zm (Tc).1 oB;refine Ze .plain rfl (Gf (g := nB) Try.isAgg25 Try.sizeOf25 rfl bE fun vB yB => ?_);refine Zo l9 rfl ?_;obtain ⟨t5, v8, h⟩ := Ga h;refine Zw (Ty vB x1 3) (Zh (α := Gc) Try.underlying25 Try.sizeOf60 rfl yB rfl v8) rfl ?_;have zB := Tp yB v8;refine Zw (Gk (Ty vB x1 3) 1) (Zc Ll rfl (PT.ptr zB)) rfl ?_;have iE := Zm (Jw).1 zB;refine Ze .plain rfl (Gf (g := nB) Try.isAgg3 Try.sizeOf3 rfl iE fun eF lE => ?_);obtain rfl := Zj.1 lE;refine Zg (.int .i64 ((t5).Row)) rfl rfl ?_;refine Zb (Zd (Gq ?_));obtain rfl := sinj h;exact Qr rfl rfl (show _ = .int .i64 ((t5).Row) from rfl) ⟨_, hfr, rfl⟩
theorem v44_0 {iO : Nat} {gI : Gh} {wI : World} {x0 : List Int} {x1 : Int} {up0 : Value} (rp0 : RV gI.m wI x0 up0) {r : (List Int)} (h : f44 x0 x1 = some r) : FnG Try.prog 44 #[up0, .int .i64 (x1)] gI wI (fun g w v => OM iO g w 3 (r) v) := by
 unfold f44 at h;refine Dt Try.func44 rfl (Nat.le_of_ble_eq_true rfl) fun g0 hm hfr => ?_;have rp0 : RV g0.m wI x0 up0 := hm ▸ rp0;show E _ 48 none _ _ _ _ _;refine Zf (Za (Zg (.slice none 0 0) rfl rfl ?_));have b1 : OA 4004 g0 wI 3 ([] : List Int) (.slice none 0 0) := OA.nil;refine Zb (Zd ?_);obtain ⟨_, hx, h⟩ := Ga h;refine Gp (fun e w => ∃ (g : Gh) , Fr gI wI g w ∧ e 0 = up0 ∧ RV g.m w (x0 : List Int) up0 ∧ e 1 = .int .i64 (x1)) (fun Q' hQ => ?_) (fun yF w4 hR => ?_)
 ·replace h := hx
  clear hx;refine Zf (Za (Zn (.int .i64 (x1)) rfl rfl ?_));refine Gg (.bool ((decide (x1 < (0 : Int))))) rfl rfl rfl rfl ?_;refine Zb (Zd ?_);rcases Zt h with ⟨hc3, h⟩ | ⟨hc3, h⟩
  ·refine Tn hc3 rfl ?_
   refine Za ?_
   cases h
  ·refine To hc3 rfl ?_
   refine Zu ?_;obtain rfl := sinj h;exact hQ _ _ ⟨g0, hfr, rfl, rp0, rfl⟩
 ·clear hx
  obtain ⟨g4, hfr, nB, l8, iE⟩ := hR;refine Zf (Za (Zo nB rfl ?_));refine Zw (.int .i64 ((x0).length : Int)) (Tu Try.underlying31 rfl l8) rfl ?_;refine Zw (.int .u64 (Qk ((x0).length : Int))) (Jh Try.underlying3 Try.underlying62 rfl) rfl ?_;refine Zo iE rfl ?_;refine Zw (.int .u64 (Qk x1)) (Jh Try.underlying3 Try.underlying62 rfl) rfl ?_;obtain ⟨y6, rE, h⟩ := Ga h;refine Ze .plain rfl (Zp (g := g4) (vs := [.int .u64 (Qk ((x0).length : Int)), .int .u64 (Qk x1)]) en66 (.cons rfl (.cons rfl .nil)) (wk66  rE) fun g5 w5_ v5 hs hr => ?_);have hfr := hfr.ext hs;have l8 := l8.ext hs;obtain ⟨eF, rF, rfl, rfl, rfl⟩ := hr;refine Zn (.tuple #[.int .u64 ((y6.1).n), .int .u64 ((y6.2).n)]) rfl rfl ?_;refine Zw (.int .u64 ((y6.1).n)) (Zi rfl rfl) rfl ?_;refine Zw (.int .u64 ((y6.2).n)) (Zi rfl rfl) rfl ?_;refine Zg (.int .u64 ((y6.1).n)) rfl rfl ?_;refine Zg (.int .u64 ((y6.2).n)) rfl rfl ?_;refine Zb (Zd ?_);obtain ⟨_, hx, h⟩ := Ga h;refine Gp (fun e w => ∃ (g : Gh) , Fr gI wI g w ∧ e 0 = up0 ∧ RV g.m w (x0 : List Int) up0 ∧ e 6 = .int .u64 ((y6.2).n)) (fun Q' hQ => ?_) (fun sF w15 hR => ?_)
  ·replace h := hx
   clear hx;obtain ⟨n8, hx, h⟩ := Ga h;refine Gp (fun e w => ∃ (g : Gh) , Fr gI wI g w ∧ e 0 = up0 ∧ RV g.m w (x0 : List Int) up0 ∧ e 6 = .int .u64 ((y6.2).n) ∧ e 26 = .bool (n8)) (fun Q' hQ => ?_) (fun tF aG hR => ?_)
   ·replace h := hx
    clear hx;refine Za (Zn (.int .u64 ((y6.1).n)) rfl rfl ?_);refine Zw (.bool (decide ((y6.1).n > (0 : Int)))) (Lz rfl rfl rfl) rfl ?_;refine Zn (.bool (decide ((y6.1).n > (0 : Int)))) rfl rfl ?_;rcases Zt h with ⟨t5, h⟩ | ⟨t5, h⟩
    ·refine Zy rfl rfl t5 rfl rfl ?_
     refine Zy rfl rfl t5 rfl rfl ?_;refine Zw (.bool true) (Zl (b := (decide ((y6.1).n > (0 : Int)))) rfl (Tg t5 rfl)) rfl ?_;refine Zb ?_;obtain rfl := sinj h;exact hQ _ _ ⟨g5, hfr, nB, l8, rfl, rfl⟩
    ·refine Zx (.int .u64 ((y6.2).n)) (Zk rfl) rfl rfl t5 rfl ?_
     refine Zx (.bool (decide ((y6.2).n > (9223372036854775807 : Int)))) (Lz rfl rfl rfl) rfl rfl t5 rfl ?_;refine Zw (.bool (decide ((y6.2).n > (9223372036854775807 : Int)))) (Zl (b := (decide ((y6.1).n > (0 : Int)))) rfl (Tq t5 rfl)) rfl ?_;refine Zb ?_;obtain rfl := sinj h;exact hQ _ _ ⟨g5, hfr, nB, l8, rfl, rfl⟩
   ·clear hx
    obtain ⟨uE, hfr, vC, bD, cD, mB⟩ := hR;rcases Zt h with ⟨oB, h⟩ | ⟨oB, h⟩
    ·refine Tv (Eq.trans (show ev _ _ = .bool (n8) from mB) (congrArg Value.bool oB)) ?_
     refine Za ?_
     cases h
    ·refine Tj (Eq.trans (show ev _ _ = .bool (n8) from mB) (congrArg Value.bool oB)) ?_
     refine Zu ?_;obtain rfl := sinj h;exact hQ _ _ ⟨uE, hfr, vC, bD, cD⟩
  ·clear hx
   obtain ⟨vE, hfr, lD, v8, nD⟩ := hR;refine Zf (Za (Zo nD rfl ?_));refine Zw (.int .i64 ((w64 ((y6.2).n)))) (Yw Try.underlying62 Try.underlying3 rfl) rfl ?_;obtain ⟨xE, lE, h⟩ := Ga h;refine Ze .plain rfl (Ux (g := vE) 9030 (0 : Int) rfl Try.underlying31 Hi rfl (fun _ _ => rfl) rfl rfl lE fun yE bG l5 hs b17 => ?_);have hfr := hfr.stp hs;have v8 := v8.stp hs;refine Zg l5 rfl rfl ?_;refine Zb (Zd (Zf (Za (Zn l5 rfl rfl ?_))));refine Zo lD rfl ?_;refine Ze .plain rfl (D_copyM (g := yE) (α := Int) Try.underlying31 Hi rfl b17 rfl v8 fun zE cG hs b18 => ?_);have hfr := hfr.stp hs;refine Zg (.int .i64 ((min (x0).length (xE).length : Nat) : Int)) rfl rfl ?_;refine Zb (Zd ?_);obtain ⟨oD, hx, h⟩ := Ga h;refine Gp (fun e w => ∃ (g : Gh) , Fr gI wI g w ∧ e 7 = l5 ∧ OM 9030 g w 3 (oD : List Int) l5) (fun Q' hQ => ?_) (fun uF eG hR => ?_)
   ·replace h := hx
    clear hx;refine Zr ?_;refine Wv h (fun (s : (List Int) × Int) e w => ∃ (g : Gh) , Fr gI wI g w ∧ e 7 = l5 ∧ OM 9030 g w 3 (s.1 : List Int) l5 ∧ e 8 = .int .i64 (s.2)) ⟨zE, hfr, rfl, b18, rfl⟩ (fun X31 gG mE => ?_);rintro ⟨i6, o0⟩ vF iG ⟨aE, hfr, l9, n9, yB⟩ h;refine Zq h (fun (s : Unit) e w => ∃ (g : Gh) , Fr gI wI g w ∧ e 7 = l5 ∧ OM 9030 g w 3 (i6 : List Int) l5 ∧ e 8 = .int .i64 (o0)) (fun X34 jG oE h => ?_) ?_
    ·refine Zf (Za (Zo yB rfl ?_))
     refine Zo l9 rfl ?_;refine Zw (.int .i64 ((i6).length : Int)) (Rx Try.underlying31 rfl n9) rfl ?_;refine Gg (.bool ((decide (o0 < ((i6).length : Int))))) rfl rfl rfl rfl ?_;refine Zb (Zd ?_);rcases Zt h with ⟨vB, h⟩ | ⟨vB, h⟩
     ·refine Tn vB rfl ?_
      exact Zu (Zd (oE () _ _ ⟨aE, hfr, l9, n9, yB⟩ h))
     ·refine To vB rfl ?_
      refine Qc ?_;refine Tf ?_;refine Tf ?_;refine Tl ?_;obtain rfl := sinj h;exact hQ _ _ ⟨aE, hfr, l9, n9⟩
    ·rintro _ xF cF ⟨bE, hfr, aB, g8, lB⟩ h
     refine Zr ?_;obtain ⟨y40, cC, h⟩ := Ga h;obtain ⟨zB, uC, h⟩ := Ga h;refine E_drawC (g := bE) (w := cF) (n := 8) [0, 1, 2, 3, 4, 5, 6] [] [0, 1, 2, 3, 4, 5, 6, 7] rfl Qq (by kernel_rfl) fun w_c39 hs hlt => ?_;have hfr := hfr.ext hs;have g8 := g8.ext hs;clear hs;refine Dc (c := .int .i64 (o0)) rfl rfl .plain (Zk lB) ?_;refine Dc (c := l5) rfl rfl .plain (Zk aB) ?_;refine Dc (c := .int .i64 (o0)) rfl rfl .plain (Zk lB) ?_;refine Dc (c := (Ju l5 (Int.toNat o0) (Int.toNat ((i6).length : Int)) 1)) rfl rfl .plain (Ii (α := Int) Try.underlying31 Try.sizeOf3 rfl (OM.hdr g8) rfl rfl cC) ?_;refine Dc (c := l5) rfl rfl .plain (Zk aB) ?_;refine Dc (c := .int .i64 (o0)) rfl rfl .plain (Zk lB) ?_;refine Dc (c := (Ju l5 0 (Int.toNat o0) 1)) rfl rfl .plain (Ii (α := Int) Try.underlying31 Try.sizeOf3 rfl (OM.hdr g8) rfl rfl uC) ?_;refine CH_do rfl rfl .plain (Oj (g := bE) (α := Int) Try.underlying31 Hi rfl g8 rfl cC uC fun dF kG hs b42 => ?_);have hfr := hfr.stp hs;have hlt := hlt.stp hs;refine ⟨hlt.toW, ?_⟩;refine CH_nil ?_;clear hlt;refine Zw (.int .i64 ((w64 (o0 + ((min (zB).length (y40).length : Nat) : Int))))) (Gj rfl rfl rfl) rfl ?_;refine Zw (.int .i64 ((w64 (o0 + ((min (zB).length (y40).length : Nat) : Int))))) (Tb rfl) rfl ?_;exact Zb (Ts (Zd (mE ((cpy i6 o0 y40 zB), (w64 (o0 + ((min (zB).length (y40).length : Nat) : Int)))) _ _ ⟨dF, hfr, aB, b42, rfl⟩ h)))
   ·clear hx
    obtain ⟨lG, hfr, yD, zD⟩ := hR;refine Zf (Za (Zo yD rfl ?_));refine Zg l5 rfl rfl ?_;refine Zb (Zd (Gq ?_));obtain rfl := sinj h;obtain ⟨gh, hxh, hmh, homh⟩ := OM.handM (i := iO) hfr zD;exact Qr rfl rfl (show _ = l5 from rfl) ⟨gh, hxh, homh⟩
def f29 (x0 : Gz) (x1 : Th) : Option (Int) :=
 Option.bind (α := Int) (
  lp (σ := Int × Int) (fun vE (l5, o0) =>
   bif (decide (o0 < (((x1).Extras).length : Int))) then
    Option.bind (α := Int) (
     (idx ((x1).Extras) o0).bind fun aB =>
     (idx (((x0).PayList).Extras) aB).bind fun yB =>
     some ((w64 (l5 + yB)))
     ) fun i6 =>
    vE (i6, (w64 (o0 + (1 : Int))))
   else
    some (l5)
   ) big ((1000 : Int), (0 : Int))
  ) fun t5 =>
 (f49 x0 ((x1).Dense)).bind fun v8 =>
 (Xz (w64 ((w64 ((x1).Picks * v8)) * t5)) (1000000 : Int)).bind fun lB =>
 some (lB)
theorem en29 : Enters Try.prog 29 := enters_of Try.func29 (by kernel_rfl) rfl
theorem wk29 {gI : Gh} {wI : World} {x0 : Gz} {x1 : Th} {up0 : Value} (rp0 : RV gI.m wI x0 up0) {up1 : Value} (rp1 : RV gI.m wI x1 up1) {r : Int} (h : f29 x0 x1 = some r) : Fn Try.prog 29 #[up0, up1] gI wI (fun _ _ v => v = .int .i64 (r)) := by
 unfold f29 at h;refine Gw Try.func29 rfl (Nat.le_of_ble_eq_true rfl) fun g0 hm hfr => ?_;have rp0 : RV g0.m wI x0 up0 := hm ▸ rp0;have rp1 : RV g0.m wI x1 up1 := hm ▸ rp1;show E _ 34 none _ _ _ _ _;refine Zf (Za (Ze .plain rfl (Qs (g := g0) rfl rp0 fun g1 w1 p1 hs q1 => ?_)));have hfr := hfr.ext hs;have rp1 := rp1.ext hs;refine Ze .plain rfl (Qs (g := g1) rfl rp1 fun g2 w2 p2 hs q2 => ?_);have hfr := hfr.ext hs;have q1 := q1.ext hs;refine Zg (.int .i64 (0)) rfl rfl ?_;refine Zb (Zd (Zf (Za (Zg (.int .i64 (1000)) rfl rfl ?_))));refine Zb (Zd ?_);obtain ⟨t5, hx, h⟩ := Ga h;refine Gp (fun e w => ∃ (g : Gh) , Fr gI wI g w ∧ e 2 = p1 ∧ PT g.m w (x0 : Gz) p1 ∧ e 3 = p2 ∧ PT g.m w (x1 : Th) p2 ∧ e 5 = .int .i64 (t5)) (fun Q' hQ => ?_) (fun xG aH hR => ?_)
 ·replace h := hx
  clear hx;refine Zf (Za (Zw (Gk p2 3) (Zc Fz rfl (PT.ptr q2)) rfl ?_));have vF := Zm (Yk).1 q2;refine Ze .plain rfl (Gf (g := g2) Try.isAgg31 Try.sizeOf31 rfl vF fun mB xE => ?_);refine Zw (.int .i64 (((x1).Extras).length : Int)) (Tu Try.underlying31 rfl xE) rfl ?_;refine Zn (.int .i64 (0)) rfl rfl ?_;refine Zb (Zd (Zr ?_));refine Wv h (fun (s : Int × Int) e w => ∃ (g : Gh) , Fr gI wI g w ∧ e 2 = p1 ∧ PT g.m w (x0 : Gz) p1 ∧ e 3 = p2 ∧ PT g.m w (x1 : Th) p2 ∧ e 5 = .int .i64 (s.1) ∧ e 9 = mB ∧ RV g.m w ((x1).Extras : List Int) mB ∧ e 10 = .int .i64 ((((x1).Extras).length : Int)) ∧ e 11 = .int .i64 (s.2)) ⟨g2, hfr, rfl, q1, rfl, q2, rfl, rfl, xE, rfl, rfl⟩ (fun X29 vE dF => ?_);rintro ⟨l5, o0⟩ yG cH ⟨nB, hfr, l9, g8, zB, cC, uC, vC, n9, oB, n8⟩ h;refine Zf (Za (Zw (.bool ((decide (o0 < (((x1).Extras).length : Int))))) (Gj n8 oB rfl) rfl ?_));refine Zb (Zd (Zf ?_));rcases Zt h with ⟨vB, h⟩ | ⟨vB, h⟩
  ·refine Tn vB rfl ?_
   refine Zu (Zd ?_);obtain ⟨i6, hx, h⟩ := Ga h;refine Gp (fun e w => ∃ (g : Gh) , Fr gI wI g w ∧ e 2 = p1 ∧ PT g.m w (x0 : Gz) p1 ∧ e 3 = p2 ∧ PT g.m w (x1 : Th) p2 ∧ e 5 = .int .i64 (i6) ∧ e 9 = mB ∧ RV g.m w ((x1).Extras : List Int) mB ∧ e 10 = .int .i64 ((((x1).Extras).length : Int)) ∧ e 11 = .int .i64 (o0)) (fun Q' hQ => ?_) (fun zG gH hR => ?_)
   ·replace h := hx
    clear hx;refine Zr ?_;refine Zf (Za ?_);obtain ⟨aB, cD, h⟩ := Ga h;refine Zw (Ty mB o0 1) (Zh (α := Int) Try.underlying31 Try.sizeOf3 vC n9 n8 cD) rfl ?_;have xF := Tp n9 cD;refine Ze .plain rfl (Gf (g := nB) Try.isAgg3 Try.sizeOf3 rfl xF fun jH yF => ?_);obtain rfl := Zj.1 yF;refine Zg (.int .i64 (aB)) rfl rfl ?_;refine Zb (Zd (Za (Zo uC rfl ?_)));refine Zw (Gk p1 0) (Zc Ub l9 (PT.ptr g8)) rfl ?_;have yE := Zm (Wg).1 g8;refine Zw (Gk (Gk p1 0) 1) (Zc Xq rfl (PT.ptr yE)) rfl ?_;have aG := Zm (Hg).1 yE;refine Ze .plain rfl (Gf (g := nB) Try.isAgg31 Try.sizeOf31 rfl aG fun bG zE => ?_);refine Zn (.int .i64 (aB)) rfl rfl ?_;obtain ⟨yB, lD, h⟩ := Ga h;refine Zw (Ty bG aB 1) (Zh (α := Int) Try.underlying31 Try.sizeOf3 rfl zE rfl lD) rfl ?_;have cG := Tp zE lD;refine Ze .plain rfl (Gf (g := nB) Try.isAgg3 Try.sizeOf3 rfl cG fun kH eG => ?_);obtain rfl := Zj.1 eG;refine Gg (.int .i64 ((w64 (l5 + yB)))) rfl rfl rfl rfl ?_;refine Zg (.int .i64 ((w64 (l5 + yB)))) rfl rfl ?_;refine Zb (Ts ?_);obtain rfl := sinj h;exact hQ _ _ ⟨nB, hfr, l9, g8, zB, cC, rfl, vC, n9, oB, n8⟩
   ·clear hx
    obtain ⟨gG, hfr, yD, zD, aE, bE, iE, lE, mE, nD, oD⟩ := hR;refine Za (Gg (.int .i64 ((w64 (o0 + (1 : Int))))) oD rfl rfl rfl ?_);refine Zn (.int .i64 ((w64 (o0 + (1 : Int))))) rfl rfl ?_;exact Zb (Zd (dF (i6, (w64 (o0 + (1 : Int)))) _ _ ⟨gG, hfr, yD, zD, aE, bE, iE, lE, mE, nD, rfl⟩ h))
  ·refine To vB rfl ?_
   refine Qc ?_;refine Tf ?_;refine Tf ?_;refine Tl ?_;obtain rfl := sinj h;exact hQ _ _ ⟨nB, hfr, l9, g8, zB, cC, uC⟩
 ·clear hx
  obtain ⟨iG, hfr, oE, rE, bD, l8, uE⟩ := hR;refine Zf ?_;have jG := Zm (Vi).1 l8;refine Zs (x := .tmp 24) Try.isAgg3 Try.sizeOf3 jG fun lH kG eF => ?_;obtain rfl := Zj.1 kG;refine Zs (x := .tmp 2) Try.isAgg81 Try.sizeOf81 rE fun cF lG rF => ?_;have mG := Zm (Vj).1 l8;refine Zs (x := .tmp 27) Try.isAgg3 Try.sizeOf3 mG fun mH sG sF => ?_;obtain rfl := Zj.1 sG;obtain ⟨v8, tF, h⟩ := Ga h;obtain ⟨lB, uF, h⟩ := Ga h;refine Tx (g := iG) (n := 11) [(5, (fun v g w => v = .int .i64 (v8)))] [0, 1, 2, 3, 4, 5, 6, 7, 8, 9, 10] rfl Qq (by kernel_rfl) (⟨fun _ => Wf _, trivial⟩) ?_;refine Zz (Gk p2 2) rfl rfl (Zc Mt bD (PT.ptr l8)) ?_;refine Tt (c := .int .i64 ((x1).Picks)) rfl rfl .plain (fun _ _ h => h.ch) eF rfl ?_;refine Tt (c := cF) rfl rfl .plain (fun _ _ h => h.ch) rF oE ?_;refine Zz (Gk p2 1) rfl rfl (Zc Ng bD (PT.ptr l8)) ?_;refine Tt (c := .int .i64 ((x1).Dense)) rfl rfl .plain (fun _ _ h => h.ch) sF rfl ?_;refine Ka (φ := fun v g w => v = .int .i64 (v8)) rfl rfl .plain (fun g w hd => Zp (g := g) (vs := [cF, .int .i64 ((x1).Dense)]) en49 (.cons rfl (.cons rfl .nil)) (wk49 (lG.ext hd.1) tF) fun g' w' v hs hr => ⟨g', hs, hr⟩) (fun nH hv => ?_);obtain ⟨_, _, _, rfl⟩ := hv;refine Zz (.int .i64 ((w64 ((x1).Picks * v8)))) rfl rfl (Gj rfl rfl rfl) ?_;refine Zz (.int .i64 (t5)) rfl rfl (Zk uE) ?_;refine Zz (.int .i64 ((w64 ((w64 ((x1).Picks * v8)) * t5)))) rfl rfl (Gj rfl rfl rfl) ?_;refine Zz (.int .i64 (lB)) rfl rfl (Gj rfl rfl (congrArg (Option.map (Value.int .i64)) uF)) ?_;refine Zz (.int .i64 (lB)) rfl rfl (Tb rfl) ?_;refine Kr fun oH pH hs => ?_;have hfr := hfr.ext hs;clear hs;refine Zb (Zd (Gq ?_));obtain rfl := sinj h;exact Qr rfl rfl (show _ = .int .i64 (lB) from rfl) ⟨_, hfr, rfl⟩
def f31 (x0 : Gz) (x1 : Th) (x2 : Int) : Option (Int) :=
 (f29 x0 x1).bind fun y6 =>
 (f30 x0 y6 x2).bind fun y9 =>
 some ((w64 (y6 - y9)))
theorem en31 : Enters Try.prog 31 := enters_of Try.func31 (by kernel_rfl) rfl
theorem wk31 {gI : Gh} {wI : World} {x0 : Gz} {x1 : Th} {x2 : Int} {up0 : Value} (rp0 : RV gI.m wI x0 up0) {up1 : Value} (rp1 : RV gI.m wI x1 up1) {r : Int} (h : f31 x0 x1 x2 = some r) : Fn Try.prog 31 #[up0, up1, .int .i64 (x2)] gI wI (fun _ _ v => v = .int .i64 (r)) := by
 unfold f31 at h;refine Gw Try.func31 rfl (Nat.le_of_ble_eq_true rfl) fun g0 hm hfr => ?_;have rp0 : RV g0.m wI x0 up0 := hm ▸ rp0;have rp1 : RV g0.m wI x1 up1 := hm ▸ rp1;show E _ 17 none _ _ _ _ _;refine Zf (Za (Ze .plain rfl (Qs (g := g0) rfl rp0 fun g1 w1 p1 hs q1 => ?_)));have hfr := hfr.ext hs;have rp1 := rp1.ext hs;refine Ze .plain rfl (Qs (g := g1) rfl rp1 fun g2 w2 p2 hs q2 => ?_);have hfr := hfr.ext hs;have q1 := q1.ext hs;refine Zg (.int .i64 (0)) rfl rfl ?_;refine Zb (Zd (Zf (Za (Ze .plain rfl (Gf (g := g2) Try.isAgg81 Try.sizeOf81 rfl q1 fun v3 r3 => ?_)))));refine Ze .plain rfl (Gf (g := g2) Try.isAgg46 Try.sizeOf46 rfl q2 fun v4 r4 => ?_);obtain ⟨y6, o0, h⟩ := Ga h;refine Ze .plain rfl (Zp (g := g2) (vs := [v3, v4]) en29 (.cons rfl (.cons rfl .nil)) (wk29 r3 r4 o0) fun g5 w5_ v5 hs hr => ?_);have hfr := hfr.ext hs;have q1 := q1.ext hs;subst hr;refine Zg (.int .i64 (y6)) rfl rfl ?_;refine Zb (Zd (Zf (Za (Zn (.int .i64 (y6)) rfl rfl ?_))));refine Ze .plain rfl (Gf (g := g5) Try.isAgg81 Try.sizeOf81 rfl q1 fun v7 r7 => ?_);refine Zn (.int .i64 (y6)) rfl rfl ?_;refine Zn (.int .i64 (x2)) rfl rfl ?_;obtain ⟨y9, l5, h⟩ := Ga h;refine Ze .plain rfl (Zp (g := g5) (vs := [v7, .int .i64 (y6), .int .i64 (x2)]) en30 (.cons rfl (.cons rfl (.cons rfl .nil))) (wk30 r7 l5) fun g8 w8_ v8 hs hr => ?_);have hfr := hfr.ext hs;subst hr;refine Gg (.int .i64 ((w64 (y6 - y9)))) rfl rfl rfl rfl ?_;refine Zg (.int .i64 ((w64 (y6 - y9)))) rfl rfl ?_;refine Zb (Zd (Gq ?_));obtain rfl := sinj h;exact Qr rfl rfl (show _ = .int .i64 ((w64 (y6 - y9))) from rfl) ⟨_, hfr, rfl⟩
def f42 (x0 : Int) (z0 : Gb) : Option (Bool) :=
 Option.bind (α := Bool) (
  bif (x0 != (-1 : Int)) then
   (f18 ((z0).frame) (([x0] : List Int))).bind fun t5 =>
   some ((!t5))
  else
   some (false)
  ) fun l5 =>
 some (l5)
theorem en42 : Enters Try.prog 42 := enters_of Try.func42 (by kernel_rfl) rfl
theorem wk42 {gI : Gh} {wI : World} {x0 : Int} {z0 : Gb} {pf0 : Value} (qf0 : PT gI.m wI z0 pf0) {r : Bool} (h : f42 x0 z0 = some r) : Fn Try.prog 42 #[.int .i64 (x0), pf0] gI wI (fun _ _ v => v = .bool (r)) := by
 unfold f42 at h;refine Gw Try.func42 rfl (Nat.le_of_ble_eq_true rfl) fun g0 hm hfr => ?_;have qf0 : PT g0.m wI z0 pf0 := hm ▸ qf0;show E _ 14 none _ _ _ _ _;refine Zf (Za (Zg (.bool false) rfl rfl ?_));refine Zb (Zd ?_);obtain ⟨l5, hx, h⟩ := Ga h;refine Gp (fun e w => ∃ (g : Gh) , Fr gI wI g w ∧ e 3 = .bool (l5)) (fun Q' hQ => ?_) (fun n9 lB hR => ?_)
 ·replace h := hx
  clear hx;refine Za (Zn (.int .i64 (x0)) rfl rfl ?_);refine Gg (.bool ((x0 != (-1 : Int)))) rfl rfl rfl rfl ?_;refine Zn (.bool ((x0 != (-1 : Int)))) rfl rfl ?_;rcases Zt h with ⟨o0, h⟩ | ⟨o0, h⟩
  ·refine Zx (Gk pf0 2) (Zc Rg rfl (PT.ptr qf0)) rfl rfl o0 rfl ?_
   have q8 := Zm (Kn).1 qf0;refine Ze (.yes2 rfl rfl o0) rfl (Gf (g := g0) Try.isAgg57 Try.sizeOf57 rfl q8 fun v9 r9 => ?_);obtain rfl := Zj.1 r9;refine Zx (.int .i64 (x0)) (Zk rfl) rfl rfl o0 rfl ?_;refine Ze (.yes2 rfl rfl o0) rfl (Gl (g := g0) 3010 (xs := ([x0] : List Int)) (vs := [.int .i64 (x0)]) Try.underlying31 Try.sizeOf3 Try.zeroValue3 rfl rfl (.cons rfl .nil) (RVs.cons (Zj.2 rfl) RVs.nil) rfl rfl fun l8 mB n8 hs o10 v8 hxt hfl => ?_);have hfr := hfr.stp hs;obtain ⟨t5, g8, h⟩ := Ga h;refine Ze (.yes2 rfl rfl o0) rfl (Zp (g := l8) (vs := [.int .i64 ((z0).frame), n8]) en18 (.cons rfl (.cons rfl .nil)) (wk18 v8 g8) fun l9 aB nB hs hr => ?_);have hfr := hfr.ext hs;subst hr;refine Zx (.bool (!t5)) (Wh rfl) rfl rfl o0 rfl ?_;refine Zw (.bool (!t5)) (Zl (b := (x0 != (-1 : Int))) rfl (Tg o0 rfl)) rfl ?_;refine Zg (.bool (!t5)) rfl rfl ?_;refine Zb ?_;obtain rfl := sinj h;exact hQ _ _ ⟨l9, hfr, rfl⟩
  ·refine Zy rfl rfl o0 rfl rfl ?_
   iterate 5 refine Zy rfl rfl o0 rfl rfl ?_
   refine Zw (.bool false) (Zl (b := (x0 != (-1 : Int))) rfl (Tq o0 rfl)) rfl ?_;refine Zg (.bool false) rfl rfl ?_;refine Zb ?_;obtain rfl := sinj h;exact hQ _ _ ⟨g0, hfr, rfl⟩
 ·clear hx
  obtain ⟨oB, hfr, i6⟩ := hR;refine Gq ?_;obtain rfl := sinj h;exact Qr rfl rfl (show _ = .bool (l5) from i6) ⟨_, hfr, rfl⟩
def f45 (x0 : Gd) (x1 : Int) (x2 : Int) : Option (Bool) :=
 Option.bind (α := Bool) (
  (idx ((x0).cloth) x1).bind fun l5 =>
  bif (l5 == (-1 : Int)) then
   some (true)
  else
   (idx ((x0).cloth) x1).bind fun y98 =>
   (f21 ((x0).belt) x2).bind fun y104 =>
   some ((y98 == y104))
  ) fun t5 =>
 some (t5)
theorem en45 : Enters Try.prog 45 := enters_of Try.func45 (by kernel_rfl) rfl
theorem wk45 {gI : Gh} {wI : World} {x0 : Gd} {x1 : Int} {x2 : Int} {up0 : Value} (rp0 : RV gI.m wI x0 up0) {r : Bool} (h : f45 x0 x1 x2 = some r) : Fn Try.prog 45 #[up0, .int .i64 (x1), .int .i64 (x2)] gI wI (fun _ _ v => v = .bool (r)) := by
 unfold f45 at h;refine Gw Try.func45 rfl (Nat.le_of_ble_eq_true rfl) fun g0 hm hfr => ?_;have rp0 : RV g0.m wI x0 up0 := hm ▸ rp0;show E _ 25 none _ _ _ _ _;refine Zf (Za (Ze .plain rfl (Qs (g := g0) rfl rp0 fun g1 w1 p1 hs q1 => ?_)));have hfr := hfr.ext hs;refine Zg (.bool false) rfl rfl ?_;refine Zb (Zd ?_);obtain ⟨t5, hx, h⟩ := Ga h;refine Gp (fun e w => ∃ (g : Gh) , Fr gI wI g w ∧ e 6 = .bool (t5)) (fun Q' hQ => ?_) (fun zD aE hR => ?_)
 ·replace h := hx
  clear hx;have bD := Zm (Kt).1 q1;refine Zs (x := .tmp 7) Try.isAgg31 Try.sizeOf31 bD fun g8 l8 n8 => ?_;obtain ⟨l5, i6, h⟩ := Ga h;have cD := Tp l8 i6;refine Zs (x := .tmp 10) Try.isAgg3 Try.sizeOf3 cD fun oE lD v8 => ?_;obtain rfl := Zj.1 lD;rcases Zt h with ⟨o0, h⟩ | ⟨o0, h⟩
  ·refine Tx (g := g1) (n := 19) [] [0, 1, 2, 3, 4, 5, 6, 7, 8, 9, 10, 11, 12, 13, 14, 15, 16, 17, 18] rfl Qq (by kernel_rfl) trivial ?_
   refine Zz (Gk p1 3) rfl rfl (Zc Be rfl (PT.ptr q1)) ?_;refine Tt (c := g8) rfl rfl .plain (fun _ _ h => h.ch) n8 rfl ?_;refine Zz (.int .i64 (x1)) rfl rfl (Zk rfl) ?_;refine Zz (Ty g8 x1 1) rfl rfl (Zh (α := Int) Try.underlying31 Try.sizeOf3 rfl l8 rfl i6) ?_;refine Tt (c := .int .i64 (l5)) rfl rfl .plain (fun _ _ h => h.ch) v8 rfl ?_;refine Zz (.bool ((l5 == (-1 : Int)))) rfl rfl (Gj rfl rfl rfl) ?_;refine Zz (.bool ((l5 == (-1 : Int)))) rfl rfl (Zk rfl) ?_;iterate 10 refine L_s rfl rfl rfl o0 rfl ?_
   refine Zz (.bool true) rfl rfl (Zl (b := (l5 == (-1 : Int))) rfl (Tg o0 rfl)) ?_;refine Zz (.bool true) rfl rfl (Tb rfl) ?_;refine Kr fun nD rE hs => ?_;have hfr := hfr.ext hs;clear hs;refine Zb ?_;obtain rfl := sinj h;exact hQ _ _ ⟨nD, hfr, rfl⟩
  ·have oD := Zm (Kt).1 q1
   refine Zs (x := .tmp 14) Try.isAgg31 Try.sizeOf31 oD fun oB vB yB => ?_;obtain ⟨y98, l9, h⟩ := Ga h;have yD := Tp vB l9;refine Zs (x := .tmp 17) Try.isAgg3 Try.sizeOf3 yD fun bE zB lB => ?_;obtain rfl := Zj.1 zB;have cC := Zm (Wa).1 q1;refine Zs (x := .tmp 19) Try.isAgg66 Try.sizeOf66 cC fun n9 uC mB => ?_;obtain ⟨y104, nB, h⟩ := Ga h;refine Tx (g := g1) (n := 19) [(15, (fun v g w => v = .int .i64 (y104)))] [0, 1, 2, 3, 4, 5, 6, 7, 8, 9, 10, 11, 12, 13, 14, 15, 16, 17, 18] rfl Qq (by kernel_rfl) (⟨fun _ => Wf _, trivial⟩) ?_;refine Zz (Gk p1 3) rfl rfl (Zc Be rfl (PT.ptr q1)) ?_;refine Tt (c := g8) rfl rfl .plain (fun _ _ h => h.ch) n8 rfl ?_;refine Zz (.int .i64 (x1)) rfl rfl (Zk rfl) ?_;refine Zz (Ty g8 x1 1) rfl rfl (Zh (α := Int) Try.underlying31 Try.sizeOf3 rfl l8 rfl i6) ?_;refine Tt (c := .int .i64 (l5)) rfl rfl .plain (fun _ _ h => h.ch) v8 rfl ?_;refine Zz (.bool ((l5 == (-1 : Int)))) rfl rfl (Gj rfl rfl rfl) ?_;refine Zz (.bool ((l5 == (-1 : Int)))) rfl rfl (Zk rfl) ?_;refine L_y (Gk p1 3) rfl rfl rfl rfl o0 (Zc Be rfl (PT.ptr q1)) ?_;refine Tt (c := oB) rfl rfl (.yes2 rfl rfl o0) (fun _ _ h => h.ch) yB rfl ?_;refine L_y (.int .i64 (x1)) rfl rfl rfl rfl o0 (Zk rfl) ?_;refine L_y (Ty oB x1 1) rfl rfl rfl rfl o0 (Zh (α := Int) Try.underlying31 Try.sizeOf3 rfl vB rfl l9) ?_;refine Tt (c := .int .i64 (y98)) rfl rfl (.yes2 rfl rfl o0) (fun _ _ h => h.ch) lB rfl ?_;refine L_y (Gk p1 0) rfl rfl rfl rfl o0 (Zc Ug rfl (PT.ptr q1)) ?_;refine Tt (c := n9) rfl rfl (.yes2 rfl rfl o0) (fun _ _ h => h.ch) mB rfl ?_;refine L_y (.int .i64 (x2)) rfl rfl rfl rfl o0 (Zk rfl) ?_;refine Ka (φ := fun v g w => v = .int .i64 (y104)) rfl rfl (.yes2 rfl rfl o0) (fun g w hd => Zp (g := g) (vs := [n9, .int .i64 (x2)]) en21 (.cons rfl (.cons rfl .nil)) (wk21 (uC.ext hd.1) nB) fun g' w' v hs hr => ⟨g', hs, hr⟩) (fun iE hv => ?_);obtain ⟨_, _, _, rfl⟩ := hv;refine L_y (.bool ((y98 == y104))) rfl rfl rfl rfl o0 (Gj rfl rfl rfl) ?_;refine Zz (.bool ((y98 == y104))) rfl rfl (Zl (b := (l5 == (-1 : Int))) rfl (Tq o0 rfl)) ?_;refine Zz (.bool ((y98 == y104))) rfl rfl (Tb rfl) ?_;refine Kr fun vC lE hs => ?_;have hfr := hfr.ext hs;clear hs;refine Zb ?_;obtain rfl := sinj h;exact hQ _ _ ⟨vC, hfr, rfl⟩
 ·clear hx
  obtain ⟨mE, hfr, aB⟩ := hR;refine Gq ?_;obtain rfl := sinj h;exact Qr rfl rfl (show _ = .bool (t5) from aB) ⟨_, hfr, rfl⟩
def f47 (x0 : PayList) : Option (Int) :=
 jn (σ := Unit) (fun _ =>
  some ((0 : Int))
  ) fun nD =>
 Option.bind (α := Bool) (
  bif (decide ((((x0).Rates).length : Int) > (6 : Int))) then
   some ((decide ((((x0).Rates).length : Int) > (6 : Int))))
  else
   some ((decide ((((x0).Extras).length : Int) > (8 : Int))))
  ) fun t5 =>
 bif t5 then
  some ((5 : Int))
 else
  Option.bind (α := Bool) (
   (f67 ((⟨x0⟩ : Gz))).bind fun lB =>
   bif (!lB) then
    some ((!lB))
   else
    (f68 ((x0).Extras)).bind fun g8 =>
    bif (!g8) then
     some ((!g8))
    else
     (f32 ((0 : Int)) ((1000 : Int)) (([(x0).Fine] : List Int))).bind fun l8 =>
     bif (!l8) then
      some ((!l8))
     else
      (f68 (([(x0).Cap] : List Int))).bind fun v8 =>
      some ((!v8))
   ) fun l5 =>
  bif l5 then
   some ((2 : Int))
  else
   nD ()
theorem en47 : Enters Try.prog 47 := enters_of Try.func47 (by kernel_rfl) rfl
theorem wk47 {gI : Gh} {wI : World} {x0 : PayList} {up0 : Value} (rp0 : RV gI.m wI x0 up0) {r : Int} (h : f47 x0 = some r) : Fn Try.prog 47 #[up0] gI wI (fun _ _ v => v = .int .i64 (r)) := by
 unfold f47 at h;refine Gw Try.func47 rfl (Nat.le_of_ble_eq_true rfl) fun g0 hm hfr => ?_;have rp0 : RV g0.m wI x0 up0 := hm ▸ rp0;show E _ 31 none _ _ _ _ _;refine Zf (Za (Ze .plain rfl (Qs (g := g0) rfl rp0 fun g1 w1 p1 hs q1 => ?_)));have hfr := hfr.ext hs;refine Zg (.int .i64 (0)) rfl rfl ?_;refine Zb (Zd (Zq h (fun (s : Unit) e w => ∃ (g : Gh) , Fr gI wI g w) (fun X58 nD aE h => ?_) ?_))
 ·refine Zr ?_
  obtain ⟨t5, hx, h⟩ := Ga h;refine Gp (fun e w => ∃ (g : Gh) , Fr gI wI g w ∧ e 1 = p1 ∧ PT g.m w (x0 : PayList) p1 ∧ e 3 = .bool (t5)) (fun Q' hQ => ?_) (fun iG jH hR => ?_)
  ·replace h := hx
   clear hx;refine Zf (Za (Zw (Gk p1 0) (Zc Vg rfl (PT.ptr q1)) rfl ?_));have rF := Zm (Kf).1 q1;refine Ze .plain rfl (Gf (g := g1) Try.isAgg35 Try.sizeOf35 rfl rF fun kH sF => ?_);refine Zw (.int .i64 (((x0).Rates).length : Int)) (Tu Try.underlying35 rfl sF) rfl ?_;refine Zw (.bool ((decide ((((x0).Rates).length : Int) > (6 : Int))))) (Gj rfl rfl rfl) rfl ?_;refine Zw (.bool ((decide ((((x0).Rates).length : Int) > (6 : Int))))) (Tb rfl) rfl ?_;refine Zb (Zd ?_);rcases Zt h with ⟨mB, h⟩ | ⟨mB, h⟩
   ·refine Tn mB rfl ?_
    refine Zu ?_;obtain rfl := sinj h;exact hQ _ _ ⟨g1, hfr, rfl, q1, rfl⟩
   ·refine To mB rfl ?_
    refine Za (Zw (Gk p1 1) (Zc Xq rfl (PT.ptr q1)) rfl ?_);have tF := Zm (Hg).1 q1;refine Ze .plain rfl (Gf (g := g1) Try.isAgg31 Try.sizeOf31 rfl tF fun lH uF => ?_);refine Zw (.int .i64 (((x0).Extras).length : Int)) (Tu Try.underlying31 rfl uF) rfl ?_;refine Zw (.bool ((decide ((((x0).Extras).length : Int) > (8 : Int))))) (Gj rfl rfl rfl) rfl ?_;refine Zw (.bool ((decide ((((x0).Extras).length : Int) > (8 : Int))))) (Tb rfl) rfl ?_;refine Zb ?_;obtain rfl := sinj h;exact hQ _ _ ⟨g1, hfr, rfl, q1, rfl⟩
  ·clear hx
   obtain ⟨cC, hfr, i6, o0, zB⟩ := hR;rcases Zt h with ⟨nB, h⟩ | ⟨nB, h⟩
   ·refine Tv (Eq.trans (show ev _ _ = .bool (t5) from zB) (congrArg Value.bool nB)) ?_
    refine Zf (Za (Zg (.int .i64 (5)) rfl rfl ?_));refine Zb (Zd (Gq (Wd ?_)));refine Tz ?_;obtain rfl := sinj h;exact Qr rfl rfl (show _ = .int .i64 (5) from rfl) ⟨_, hfr, rfl⟩
   ·refine Tj (Eq.trans (show ev _ _ = .bool (t5) from zB) (congrArg Value.bool nB)) ?_
    obtain ⟨l5, hx, h⟩ := Ga h;refine Gp (fun e w => ∃ (g : Gh) , Fr gI wI g w ∧ e 12 = .bool (l5)) (fun Q' hQ => ?_) (fun aG jG hR => ?_)
    ·replace h := hx
     clear hx;refine Zf (Za (Ze .plain rfl (Gf (g := cC) Try.isAgg37 Try.sizeOf37 i6 o0 fun uC oD => ?_)));have yD : RV cC.m _ (⟨x0⟩ : Gz) (.agg (Qd [[.slice none 0 0, .slice none 0 0, .int .i64 0, .int .i64 0]] [(0, uC)]).flatten.toArray) := Qj rfl (Qh (RV.cells oD));generalize bE : (Value.agg (Qd [[.slice none 0 0, .slice none 0 0, .int .i64 0, .int .i64 0]] [(0, uC)]).flatten.toArray) = zD at yD;refine Zw zD (bE ▸ Qu (vs := [(0, uC)]) [[.slice none 0 0, .slice none 0 0, .int .i64 0, .int .i64 0]] Lj rfl rfl (.cons rfl .nil) ⟨⟨_, rfl, Qt oD⟩, trivial⟩) rfl ?_;obtain ⟨lB, iE, h⟩ := Ga h;refine Ze .plain rfl (Zp (g := cC) (vs := [zD]) en67 (.cons rfl .nil) (wk67 yD iE) fun vC kG mH hs hr => ?_);have hfr := hfr.ext hs;have o0 := o0.ext hs;subst hr;refine Zw (.bool (!lB)) (Wh rfl) rfl ?_;refine Zg (.bool (!lB)) rfl rfl ?_;refine Zb (Zd ?_);rcases Zt h with ⟨oB, h⟩ | ⟨oB, h⟩
     ·refine Tn oB rfl ?_
      refine Zu ?_;obtain rfl := sinj h;exact hQ _ _ ⟨vC, hfr, rfl⟩
     ·refine To oB rfl ?_
      refine Zf (Za (Zw (Gk p1 1) (Zc Xq i6 (PT.ptr o0)) rfl ?_));have vF := Zm (Hg).1 o0;refine Ze .plain rfl (Gf (g := vC) Try.isAgg31 Try.sizeOf31 rfl vF fun xF yF => ?_);obtain ⟨g8, bD, h⟩ := Ga h;refine Ze .plain rfl (Zp (g := vC) (vs := [xF]) en68 (.cons rfl .nil) (wk68 yF bD) fun vB bG lG hs hr => ?_);have hfr := hfr.ext hs;have o0 := o0.ext hs;subst hr;refine Zw (.bool (!g8)) (Wh rfl) rfl ?_;refine Zg (.bool (!g8)) rfl rfl ?_;refine Zb (Zd ?_);rcases Zt h with ⟨l9, h⟩ | ⟨l9, h⟩
      ·refine Tn l9 rfl ?_
       refine Zu ?_;obtain rfl := sinj h;exact hQ _ _ ⟨vB, hfr, rfl⟩
      ·refine To l9 rfl ?_
       refine Zf (Za (Zw (Gk p1 2) (Zc Mq i6 (PT.ptr o0)) rfl ?_));have lE := Zm (Xj).1 o0;refine Ze .plain rfl (Gf (g := vB) Try.isAgg3 Try.sizeOf3 rfl lE fun mG mE => ?_);obtain rfl := Zj.1 mE;refine Ze .plain rfl (Gl (g := vB) 3023 (xs := ([(x0).Fine] : List Int)) (vs := [.int .i64 ((x0).Fine)]) Try.underlying31 Try.sizeOf3 Try.zeroValue3 rfl rfl (.cons rfl .nil) (RVs.cons (Zj.2 rfl) RVs.nil) rfl rfl fun oE sG rE hs o105 uE hxt hfl => ?_);have hfr := hfr.stp hs;have o0 := o0.stp hs;obtain ⟨l8, cD, h⟩ := Ga h;refine Ze .plain rfl (Zp (g := oE) (vs := [.int .i64 (0), .int .i64 (1000), rE]) en32 (.cons rfl (.cons rfl (.cons rfl .nil))) (wk32 uE cD) fun yB cG xG hs hr => ?_);have hfr := hfr.ext hs;have o0 := o0.ext hs;subst hr;refine Zw (.bool (!l8)) (Wh rfl) rfl ?_;refine Zg (.bool (!l8)) rfl rfl ?_;refine Zb (Zd ?_);rcases Zt h with ⟨n9, h⟩ | ⟨n9, h⟩
       ·refine Tn n9 rfl ?_
        refine Zu ?_;obtain rfl := sinj h;exact hQ _ _ ⟨yB, hfr, rfl⟩
       ·refine To n9 rfl ?_
        refine Za (Zw (Gk p1 3) (Zc Ni i6 (PT.ptr o0)) rfl ?_);have vE := Zm (Xn).1 o0;refine Ze .plain rfl (Gf (g := yB) Try.isAgg3 Try.sizeOf3 rfl vE fun yG xE => ?_);obtain rfl := Zj.1 xE;refine Ze .plain rfl (Gl (g := yB) 3028 (xs := ([(x0).Cap] : List Int)) (vs := [.int .i64 ((x0).Cap)]) Try.underlying31 Try.sizeOf3 Try.zeroValue3 rfl rfl (.cons rfl .nil) (RVs.cons (Zj.2 rfl) RVs.nil) rfl rfl fun yE zG zE hs o111 cF hxt hfl => ?_);have hfr := hfr.stp hs;obtain ⟨v8, lD, h⟩ := Ga h;refine Ze .plain rfl (Zp (g := yE) (vs := [zE]) en68 (.cons rfl .nil) (wk68 cF lD) fun dF eG aH hs hr => ?_);have hfr := hfr.ext hs;subst hr;refine Zw (.bool (!v8)) (Wh rfl) rfl ?_;refine Zg (.bool (!v8)) rfl rfl ?_;refine Zb ?_;obtain rfl := sinj h;exact hQ _ _ ⟨dF, hfr, rfl⟩
    ·clear hx
     obtain ⟨eF, hfr, n8⟩ := hR;rcases Zt h with ⟨aB, h⟩ | ⟨aB, h⟩
     ·refine Tv (Eq.trans (show ev _ _ = .bool (l5) from n8) (congrArg Value.bool aB)) ?_
      refine Zf (Za (Zg (.int .i64 (2)) rfl rfl ?_));refine Zb (Zd (Gq (Wd ?_)));refine Tz ?_;obtain rfl := sinj h;exact Qr rfl rfl (show _ = .int .i64 (2) from rfl) ⟨_, hfr, rfl⟩
     ·refine Tj (Eq.trans (show ev _ _ = .bool (l5) from n8) (congrArg Value.bool aB)) ?_
      exact Zu (Ts (Zd (aE () _ _ ⟨eF, hfr⟩ h)))
 ·rintro _ gG cH ⟨gH, hfr⟩ h
  refine Zf (Za (Zg (.int .i64 (0)) rfl rfl ?_));refine Zb (Zd (Gq ?_));obtain rfl := sinj h;exact Qr rfl rfl (show _ = .int .i64 (0) from rfl) ⟨_, hfr, rfl⟩
def f48 (x0 : Gz) (x1 : Th) : Option (Int) :=
 jn (σ := Unit) (fun _ =>
  some ((0 : Int))
  ) fun zD =>
 Option.bind (α := Bool) (
  (f32 ((0 : Int)) ((50 : Int)) (([(x1).Weaver] : List Int))).bind fun aB =>
  bif (!aB) then
   some ((!aB))
  else
   (f32 ((0 : Int)) ((1000 : Int)) (([(x1).Dense] : List Int))).bind fun lB =>
   bif (!lB) then
    some ((!lB))
   else
    (f32 ((0 : Int)) ((1000000 : Int)) (([(x1).Picks] : List Int))).bind fun t5 =>
    bif (!t5) then
     some ((!t5))
    else
     (f32 ((0 : Int)) ((100 : Int)) (([(x1).Faults] : List Int))).bind fun i6 =>
     some ((!i6))
  ) fun l5 =>
 bif l5 then
  some ((2 : Int))
 else
  (f32 ((0 : Int)) ((w64 (((((x0).PayList).Extras).length : Int) - (1 : Int)))) ((x1).Extras)).bind fun g8 =>
  bif (!g8) then
   some ((7 : Int))
  else
   (f69 ((x1).Extras)).bind fun y125 =>
   bif (!y125) then
    some ((4 : Int))
   else
    zD ()
theorem en48 : Enters Try.prog 48 := enters_of Try.func48 (by kernel_rfl) rfl
theorem wk48 {gI : Gh} {wI : World} {x0 : Gz} {x1 : Th} {up0 : Value} (rp0 : RV gI.m wI x0 up0) {up1 : Value} (rp1 : RV gI.m wI x1 up1) {r : Int} (h : f48 x0 x1 = some r) : Fn Try.prog 48 #[up0, up1] gI wI (fun _ _ v => v = .int .i64 (r)) := by
 unfold f48 at h;refine Gw Try.func48 rfl (Nat.le_of_ble_eq_true rfl) fun g0 hm hfr => ?_;have rp0 : RV g0.m wI x0 up0 := hm ▸ rp0;have rp1 : RV g0.m wI x1 up1 := hm ▸ rp1;show E _ 41 none _ _ _ _ _;refine Zf (Za (Ze .plain rfl (Qs (g := g0) rfl rp0 fun g1 w1 p1 hs q1 => ?_)));have hfr := hfr.ext hs;have rp1 := rp1.ext hs;refine Ze .plain rfl (Qs (g := g1) rfl rp1 fun g2 w2 p2 hs q2 => ?_);have hfr := hfr.ext hs;have q1 := q1.ext hs;refine Zg (.int .i64 (0)) rfl rfl ?_;refine Zb (Zd (Zq h (fun (s : Unit) e w => ∃ (g : Gh) , Fr gI wI g w) (fun X65 zD aE h => ?_) ?_))
 ·refine Zr ?_
  obtain ⟨l5, hx, h⟩ := Ga h;refine Gp (fun e w => ∃ (g : Gh) , Fr gI wI g w ∧ e 2 = p1 ∧ PT g.m w (x0 : Gz) p1 ∧ e 3 = p2 ∧ PT g.m w (x1 : Th) p2 ∧ e 5 = .bool (l5)) (fun Q' hQ => ?_) (fun xG jH hR => ?_)
  ·replace h := hx
   clear hx;refine Zf (Za (Zw (Gk p2 0) (Zc at_46_0 rfl (PT.ptr q2)) rfl ?_));have bG := Zm (Sp).1 q2;refine Ze .plain rfl (Gf (g := g2) Try.isAgg3 Try.sizeOf3 rfl bG fun aI cG => ?_);obtain rfl := Zj.1 cG;refine Ze .plain rfl (Gl (g := g2) 3008 (xs := ([(x1).Weaver] : List Int)) (vs := [.int .i64 ((x1).Weaver)]) Try.underlying31 Try.sizeOf3 Try.zeroValue3 rfl rfl (.cons rfl .nil) (RVs.cons (Zj.2 rfl) RVs.nil) rfl rfl fun eG bI gG hs o91 iG hxt hfl => ?_);have hfr := hfr.stp hs;have q1 := q1.stp hs;have q2 := q2.stp hs;obtain ⟨aB, bE, h⟩ := Ga h;refine Ze .plain rfl (Zp (g := eG) (vs := [.int .i64 (0), .int .i64 (50), gG]) en32 (.cons rfl (.cons rfl (.cons rfl .nil))) (wk32 iG bE) fun cC kH dI hs hr => ?_);have hfr := hfr.ext hs;have q1 := q1.ext hs;have q2 := q2.ext hs;subst hr;refine Zw (.bool (!aB)) (Wh rfl) rfl ?_;refine Zg (.bool (!aB)) rfl rfl ?_;refine Zb (Zd ?_);rcases Zt h with ⟨vB, h⟩ | ⟨vB, h⟩
   ·refine Tn vB rfl ?_
    refine Zu ?_;obtain rfl := sinj h;exact hQ _ _ ⟨cC, hfr, rfl, q1, rfl, q2, rfl⟩
   ·refine To vB rfl ?_
    refine Zf (Za (Zw (Gk p2 1) (Zc Ng rfl (PT.ptr q2)) rfl ?_));have jG := Zm (Vj).1 q2;refine Ze .plain rfl (Gf (g := cC) Try.isAgg3 Try.sizeOf3 rfl jG fun iI kG => ?_);obtain rfl := Zj.1 kG;refine Ze .plain rfl (Gl (g := cC) 3013 (xs := ([(x1).Dense] : List Int)) (vs := [.int .i64 ((x1).Dense)]) Try.underlying31 Try.sizeOf3 Try.zeroValue3 rfl rfl (.cons rfl .nil) (RVs.cons (Zj.2 rfl) RVs.nil) rfl rfl fun lG jI mG hs o97 sG hxt hfl => ?_);have hfr := hfr.stp hs;have q1 := q1.stp hs;have q2 := q2.stp hs;obtain ⟨lB, iE, h⟩ := Ga h;refine Ze .plain rfl (Zp (g := lG) (vs := [.int .i64 (0), .int .i64 (1000), mG]) en32 (.cons rfl (.cons rfl (.cons rfl .nil))) (wk32 sG iE) fun uC lH kI hs hr => ?_);have hfr := hfr.ext hs;have q1 := q1.ext hs;have q2 := q2.ext hs;subst hr;refine Zw (.bool (!lB)) (Wh rfl) rfl ?_;refine Zg (.bool (!lB)) rfl rfl ?_;refine Zb (Zd ?_);rcases Zt h with ⟨l8, h⟩ | ⟨l8, h⟩
    ·refine Tn l8 rfl ?_
     refine Zu ?_;obtain rfl := sinj h;exact hQ _ _ ⟨uC, hfr, rfl, q1, rfl, q2, rfl⟩
    ·refine To l8 rfl ?_
     refine Zf (Za (Zw (Gk p2 2) (Zc Mt rfl (PT.ptr q2)) rfl ?_));have lE := Zm (Vi).1 q2;refine Ze .plain rfl (Gf (g := uC) Try.isAgg3 Try.sizeOf3 rfl lE fun mH mE => ?_);obtain rfl := Zj.1 mE;refine Ze .plain rfl (Gl (g := uC) 3018 (xs := ([(x1).Picks] : List Int)) (vs := [.int .i64 ((x1).Picks)]) Try.underlying31 Try.sizeOf3 Try.zeroValue3 rfl rfl (.cons rfl .nil) (RVs.cons (Zj.2 rfl) RVs.nil) rfl rfl fun oE nH rE hs o103 uE hxt hfl => ?_);have hfr := hfr.stp hs;have q1 := q1.stp hs;have q2 := q2.stp hs;obtain ⟨t5, lD, h⟩ := Ga h;refine Ze .plain rfl (Zp (g := oE) (vs := [.int .i64 (0), .int .i64 (1000000), rE]) en32 (.cons rfl (.cons rfl (.cons rfl .nil))) (wk32 uE lD) fun yB yG oH hs hr => ?_);have hfr := hfr.ext hs;have q1 := q1.ext hs;have q2 := q2.ext hs;subst hr;refine Zw (.bool (!t5)) (Wh rfl) rfl ?_;refine Zg (.bool (!t5)) rfl rfl ?_;refine Zb (Zd ?_);rcases Zt h with ⟨n8, h⟩ | ⟨n8, h⟩
     ·refine Tn n8 rfl ?_
      refine Zu ?_;obtain rfl := sinj h;exact hQ _ _ ⟨yB, hfr, rfl, q1, rfl, q2, rfl⟩
     ·refine To n8 rfl ?_
      refine Za (Zw (Gk p2 4) (Zc Rh rfl (PT.ptr q2)) rfl ?_);have vE := Zm (Ji).1 q2;refine Ze .plain rfl (Gf (g := yB) Try.isAgg3 Try.sizeOf3 rfl vE fun pH xE => ?_);obtain rfl := Zj.1 xE;refine Ze .plain rfl (Gl (g := yB) 3023 (xs := ([(x1).Faults] : List Int)) (vs := [.int .i64 ((x1).Faults)]) Try.underlying31 Try.sizeOf3 Try.zeroValue3 rfl rfl (.cons rfl .nil) (RVs.cons (Zj.2 rfl) RVs.nil) rfl rfl fun yE qH zE hs o109 cF hxt hfl => ?_);have hfr := hfr.stp hs;have q1 := q1.stp hs;have q2 := q2.stp hs;obtain ⟨i6, nD, h⟩ := Ga h;refine Ze .plain rfl (Zp (g := yE) (vs := [.int .i64 (0), .int .i64 (100), zE]) en32 (.cons rfl (.cons rfl (.cons rfl .nil))) (wk32 cF nD) fun dF zG sH hs hr => ?_);have hfr := hfr.ext hs;have q1 := q1.ext hs;have q2 := q2.ext hs;subst hr;refine Zw (.bool (!i6)) (Wh rfl) rfl ?_;refine Zg (.bool (!i6)) rfl rfl ?_;refine Zb ?_;obtain rfl := sinj h;exact hQ _ _ ⟨dF, hfr, rfl, q1, rfl, q2, rfl⟩
  ·clear hx
   obtain ⟨zB, hfr, vC, mB, nB, o0, oB⟩ := hR;rcases Zt h with ⟨v8, h⟩ | ⟨v8, h⟩
   ·refine Tv (Eq.trans (show ev _ _ = .bool (l5) from oB) (congrArg Value.bool v8)) ?_
    refine Zf (Za (Zg (.int .i64 (2)) rfl rfl ?_));refine Zb (Zd (Gq (Wd ?_)));refine Tz ?_;obtain rfl := sinj h;exact Qr rfl rfl (show _ = .int .i64 (2) from rfl) ⟨_, hfr, rfl⟩
   ·refine Tj (Eq.trans (show ev _ _ = .bool (l5) from oB) (congrArg Value.bool v8)) ?_
    refine Zf (Za (Zw (Gk p1 0) (Zc Ub vC (PT.ptr mB)) rfl ?_));have bD := Zm (Wg).1 mB;refine Zw (Gk (Gk p1 0) 1) (Zc Xq rfl (PT.ptr bD)) rfl ?_;have eF := Zm (Hg).1 bD;refine Ze .plain rfl (Gf (g := zB) Try.isAgg31 Try.sizeOf31 rfl eF fun tH rF => ?_);refine Zw (.int .i64 ((((x0).PayList).Extras).length : Int)) (Tu Try.underlying31 rfl rF) rfl ?_;refine Zw (.int .i64 ((w64 (((((x0).PayList).Extras).length : Int) - (1 : Int))))) (Gj rfl rfl rfl) rfl ?_;refine Zw (Gk p2 3) (Zc Fz nB (PT.ptr o0)) rfl ?_;have sF := Zm (Yk).1 o0;refine Ze .plain rfl (Gf (g := zB) Try.isAgg31 Try.sizeOf31 rfl sF fun tF uF => ?_);obtain ⟨g8, oD, h⟩ := Ga h;refine Ze .plain rfl (Zp (g := zB) (vs := [.int .i64 (0), .int .i64 ((w64 (((((x0).PayList).Extras).length : Int) - (1 : Int)))), tF]) en32 (.cons rfl (.cons rfl (.cons rfl .nil))) (wk32 uF oD) fun cD aH uH hs hr => ?_);have hfr := hfr.ext hs;have o0 := o0.ext hs;subst hr;refine Zw (.bool (!g8)) (Wh rfl) rfl ?_;refine Zg (.bool (!g8)) rfl rfl ?_;refine Zb (Zd ?_);rcases Zt h with ⟨l9, h⟩ | ⟨l9, h⟩
    ·refine Tn l9 rfl ?_
     refine Zf (Za (Zg (.int .i64 (7)) rfl rfl ?_));refine Zb (Zd (Gq (Wd ?_)));refine Tz ?_;obtain rfl := sinj h;exact Qr rfl rfl (show _ = .int .i64 (7) from rfl) ⟨_, hfr, rfl⟩
    ·refine To l9 rfl ?_
     refine Zf (Za (Zw (Gk p2 3) (Zc Fz nB (PT.ptr o0)) rfl ?_));have vF := Zm (Yk).1 o0;refine Ze .plain rfl (Gf (g := cD) Try.isAgg31 Try.sizeOf31 rfl vF fun xF yF => ?_);obtain ⟨y125, yD, h⟩ := Ga h;refine Ze .plain rfl (Zp (g := cD) (vs := [xF]) en69 (.cons rfl .nil) (wk69 yF yD) fun aG cH xH hs hr => ?_);have hfr := hfr.ext hs;subst hr;refine Zw (.bool (!y125)) (Wh rfl) rfl ?_;refine Zg (.bool (!y125)) rfl rfl ?_;refine Zb (Zd ?_);rcases Zt h with ⟨n9, h⟩ | ⟨n9, h⟩
     ·refine Tn n9 rfl ?_
      refine Zf (Za (Zg (.int .i64 (4)) rfl rfl ?_));refine Zb (Zd (Gq (Wd ?_)));refine Tz ?_;obtain rfl := sinj h;exact Qr rfl rfl (show _ = .int .i64 (4) from rfl) ⟨_, hfr, rfl⟩
     ·refine To n9 rfl ?_
      exact Zu (Ts (Zd (aE () _ _ ⟨aG, hfr⟩ h)))
 ·rintro _ gH yH ⟨zH, hfr⟩ h
  refine Zf (Za (Zg (.int .i64 (0)) rfl rfl ?_));refine Zb (Zd (Gq ?_));obtain rfl := sinj h;exact Qr rfl rfl (show _ = .int .i64 (0) from rfl) ⟨_, hfr, rfl⟩
def f52 (x0 : Gb) (x1 : List (Int × Bool)) : Option (Int) :=
 Option.bind (α := Int) (
  lp (σ := Int × Int) (fun lD (l5, o0) =>
   bif (decide (o0 < ((((x0).ChainBelt).Cards).length : Int))) then
    Option.bind (α := Int) (
     bif (!((Jv x1 o0).getD (false : Bool))) then
      (f72 x0 o0 x1).bind fun oB =>
      some ((Yn l5 oB))
     else
      some (l5)
     ) fun n8 =>
    lD (n8, (w64 (o0 + (1 : Int))))
   else
    some (l5)
   ) big ((0 : Int), (0 : Int))
  ) fun i6 =>
 some (i6)
theorem en52 : Enters Try.prog 52 := enters_of Try.func52 (by kernel_rfl) rfl
theorem wk52 {gI : Gh} {wI : World} {x0 : Gb} {x1 : List (Int × Bool)} {up0 : Value} (rp0 : RV gI.m wI x0 up0) {up1 : Value} (mq1 : MR (Value.int .i64) gI wI x1 up1) {r : Int} (h : f52 x0 x1 = some r) : Fn Try.prog 52 #[up0, up1] gI wI (fun _ _ v => v = .int .i64 (r)) := by
 unfold f52 at h;refine Gw Try.func52 rfl (Nat.le_of_ble_eq_true rfl) fun g0 hm hfr => ?_;have rp0 : RV g0.m wI x0 up0 := hm ▸ rp0;have mq1 := MQ.enter mq1 hm hfr;show E _ 25 none _ _ _ _ _;refine Zf (Za (Ze .plain rfl (Qs (g := g0) rfl rp0 fun g1 w1 p1 hs q1 => ?_)));have hfr := hfr.ext hs;have mq1 := mq1.ext hs;refine Zg (.int .i64 (0)) rfl rfl ?_;refine Zb (Zd ?_);obtain ⟨i6, hx, h⟩ := Ga h;refine Gp (fun e w => ∃ (g : Gh) , Fr gI wI g w ∧ e 4 = .int .i64 (i6)) (fun Q' hQ => ?_) (fun rE yE hR => ?_)
 ·replace h := hx
  clear hx;refine Zf (Za (Zw (Gk p1 0) (Zc Jr rfl (PT.ptr q1)) rfl ?_));have nD := Zm (Qe).1 q1;refine Zw (Gk (Gk p1 0) 1) (Zc Wm rfl (PT.ptr nD)) rfl ?_;have zD := Zm (Tc).1 nD;refine Ze .plain rfl (Gf (g := g1) Try.isAgg25 Try.sizeOf25 rfl zD fun zE aE => ?_);refine Zw (.int .i64 ((((x0).ChainBelt).Cards).length : Int)) (Tu Try.underlying25 rfl aE) rfl ?_;refine Zn (.int .i64 (0)) rfl rfl ?_;refine Zb (Zd (Zr ?_));refine Wv h (fun (s : Int × Int) e w => ∃ (g : Gh) , Fr gI wI g w ∧ e 1 = up1 ∧ MQ (Value.int .i64) wI.heap.size g w (x1 : List (Int × Bool)) up1 ∧ e 2 = p1 ∧ PT g.m w (x0 : Gb) p1 ∧ e 4 = .int .i64 (s.1) ∧ e 9 = .int .i64 (((((x0).ChainBelt).Cards).length : Int)) ∧ e 10 = .int .i64 (s.2)) ⟨g1, hfr, rfl, mq1, rfl, q1, rfl, rfl, rfl⟩ (fun X22 lD oD => ?_);rintro ⟨l5, o0⟩ uE cF ⟨lB, hfr, v8, t5, l9, g8, n9, aB, l8⟩ h;refine Zf (Za (Zw (.bool ((decide (o0 < ((((x0).ChainBelt).Cards).length : Int))))) (Gj l8 aB rfl) rfl ?_));refine Zb (Zd (Zf ?_));rcases Zt h with ⟨mB, h⟩ | ⟨mB, h⟩
  ·refine Tn mB rfl ?_
   refine Zu (Zd ?_);obtain ⟨n8, hx, h⟩ := Ga h;refine Gp (fun e w => ∃ (g : Gh) , Fr gI wI g w ∧ e 1 = up1 ∧ MQ (Value.int .i64) wI.heap.size g w (x1 : List (Int × Bool)) up1 ∧ e 2 = p1 ∧ PT g.m w (x0 : Gb) p1 ∧ e 4 = .int .i64 (n8) ∧ e 9 = .int .i64 (((((x0).ChainBelt).Cards).length : Int)) ∧ e 10 = .int .i64 (o0)) (fun Q' hQ => ?_) (fun vE dF hR => ?_)
   ·replace h := hx
    clear hx;refine Zr ?_;refine Zf (Za (Zo l8 rfl ?_));refine Zg (.int .i64 (o0)) rfl rfl ?_;refine Zb (Zd (Zf (Za (Zo v8 rfl ?_))));refine Zn (.int .i64 (o0)) rfl rfl ?_;refine Ze .plain rfl (Bx (g := lB) (z0 := (false : Bool)) Try.underlying110 Rs Try.zeroValue4 (fun m w => ⟨_, Hp, rfl⟩) rfl t5.r rfl fun eF bE => ?_);obtain rfl := Kl.1 bE;refine Zw (.bool (!((Jv x1 o0).getD (false : Bool)))) (Wh rfl) rfl ?_;refine Zb (Zd ?_);rcases Zt h with ⟨nB, h⟩ | ⟨nB, h⟩
    ·refine Tn nB rfl ?_
     refine Za (Zo n9 rfl ?_);refine Ze .plain rfl (Gf (g := lB) Try.isAgg66 Try.sizeOf66 l9 g8 fun iE lE => ?_);refine Zn (.int .i64 (o0)) rfl rfl ?_;refine Zo v8 rfl ?_;obtain ⟨oB, yD, h⟩ := Ga h;refine Ze .plain rfl (Zp (g := lB) (vs := [iE, .int .i64 (o0), up1]) en72 (.cons rfl (.cons rfl (.cons rfl .nil))) (wk72 lE t5.r yD) fun mE xE rF hs hr => ?_);have hfr := hfr.ext hs;have t5 := t5.ext hs;have g8 := g8.ext hs;subst hr;refine Zw (.int .i64 (Yn l5 oB)) (Mi rfl rfl) rfl ?_;refine Zg (.int .i64 (Yn l5 oB)) rfl rfl ?_;refine Zb (Ts ?_);obtain rfl := sinj h;exact hQ _ _ ⟨mE, hfr, v8, t5, l9, g8, rfl, aB, l8⟩
    ·refine To nB rfl ?_
     refine Zu (Ts ?_);obtain rfl := sinj h;exact hQ _ _ ⟨lB, hfr, v8, t5, l9, g8, n9, aB, l8⟩
   ·clear hx
    obtain ⟨oE, hfr, yB, zB, cC, uC, vC, bD, vB⟩ := hR;refine Za (Gg (.int .i64 ((w64 (o0 + (1 : Int))))) vB rfl rfl rfl ?_);refine Zn (.int .i64 ((w64 (o0 + (1 : Int))))) rfl rfl ?_;exact Zb (Zd (oD (n8, (w64 (o0 + (1 : Int)))) _ _ ⟨oE, hfr, yB, zB, cC, uC, vC, bD, rfl⟩ h))
  ·refine To mB rfl ?_
   refine Qc ?_;refine Tf ?_;refine Tf ?_;refine Tl ?_;obtain rfl := sinj h;exact hQ _ _ ⟨lB, hfr, n9⟩
 ·clear hx
  obtain ⟨sF, hfr, cD⟩ := hR;refine Zf (Za (Zo cD rfl ?_));refine Zg (.int .i64 (i6)) rfl rfl ?_;refine Zb (Zd (Gq ?_));obtain rfl := sinj h;exact Qr rfl rfl (show _ = .int .i64 (i6) from rfl) ⟨_, hfr, rfl⟩
def f61 (x0 : Gc) (z0 : Int) : Option (Bool) :=
 Option.bind (α := Bool) (
  (f20 ((-1 : Int)) ((59 : Int)) (([(x0).Number] : List Int))).bind fun t5 =>
  bif (!t5) then
   some (true)
  else
   (f18 z0 (([(x0).Row] : List Int))).bind fun i6 =>
   some ((!i6))
  ) fun l5 =>
 some (l5)
theorem en61 : Enters Try.prog 61 := enters_of Try.func61 (by kernel_rfl) rfl
theorem wk61 {gI : Gh} {wI : World} {x0 : Gc} {z0 : Int} {up0 : Value} (rp0 : RV gI.m wI x0 up0) {pf0 : Value} (qf0 : PT gI.m wI z0 pf0) {r : Bool} (h : f61 x0 z0 = some r) : Fn Try.prog 61 #[up0, pf0] gI wI (fun _ _ v => v = .bool (r)) := by
 unfold f61 at h;refine Gw Try.func61 rfl (Nat.le_of_ble_eq_true rfl) fun g0 hm hfr => ?_;have qf0 : PT g0.m wI z0 pf0 := hm ▸ qf0;have rp0 : RV g0.m wI x0 up0 := hm ▸ rp0;show E _ 17 none _ _ _ _ _;refine Zf (Za (Ze .plain rfl (Qs (g := g0) rfl rp0 fun g1 w1 p1 hs q1 => ?_)));have hfr := hfr.ext hs;have qf0 := qf0.ext hs;refine Zg (.bool false) rfl rfl ?_;refine Zb (Zd ?_);obtain ⟨l5, hx, h⟩ := Ga h;refine Gp (fun e w => ∃ (g : Gh) , Fr gI wI g w ∧ e 3 = .bool (l5)) (fun Q' hQ => ?_) (fun vC lD hR => ?_)
 ·replace h := hx
  clear hx;refine Za (Zw (Gk p1 0) (Zc Sx rfl (PT.ptr q1)) rfl ?_);have l9 := Zm (Jc).1 q1;refine Ze .plain rfl (Gf (g := g1) Try.isAgg3 Try.sizeOf3 rfl l9 fun nD n9 => ?_);obtain rfl := Zj.1 n9;refine Ze .plain rfl (Gl (g := g1) 3006 (xs := ([(x0).Number] : List Int)) (vs := [.int .i64 ((x0).Number)]) Try.underlying31 Try.sizeOf3 Try.zeroValue3 rfl rfl (.cons rfl .nil) (RVs.cons (Zj.2 rfl) RVs.nil) rfl rfl fun aB oD lB hs o16 mB hxt hfl => ?_);have hfr := hfr.stp hs;have qf0 := qf0.stp hs;have q1 := q1.stp hs;obtain ⟨t5, n8, h⟩ := Ga h;refine Ze .plain rfl (Zp (g := aB) (vs := [.int .i64 (-1), .int .i64 (59), lB]) en20 (.cons rfl (.cons rfl (.cons rfl .nil))) (wk20 mB n8) fun g8 bD yD hs hr => ?_);have hfr := hfr.ext hs;have qf0 := qf0.ext hs;have q1 := q1.ext hs;subst hr;refine Zw (.bool (!t5)) (Wh rfl) rfl ?_;refine Zn (.bool (!t5)) rfl rfl ?_;rcases Zt h with ⟨o0, h⟩ | ⟨o0, h⟩
  ·refine Zy rfl rfl o0 rfl rfl ?_
   iterate 5 refine Zy rfl rfl o0 rfl rfl ?_
   refine Zw (.bool true) (Zl (b := (!t5)) rfl (Tg o0 rfl)) rfl ?_;refine Zg (.bool true) rfl rfl ?_;refine Zb ?_;obtain rfl := sinj h;exact hQ _ _ ⟨g8, hfr, rfl⟩
  ·refine Ze (.yes2 rfl rfl o0) rfl (Gf (g := g8) Try.isAgg57 Try.sizeOf57 rfl qf0 fun zD nB => ?_)
   obtain rfl := Zj.1 nB;refine Zx (Gk p1 1) (Zc Ll rfl (PT.ptr q1)) rfl rfl o0 rfl ?_;have oB := Zm (Jw).1 q1;refine Ze (.yes2 rfl rfl o0) rfl (Gf (g := g8) Try.isAgg3 Try.sizeOf3 rfl oB fun aE vB => ?_);obtain rfl := Zj.1 vB;refine Ze (.yes2 rfl rfl o0) rfl (Gl (g := g8) 3013 (xs := ([(x0).Row] : List Int)) (vs := [.int .i64 ((x0).Row)]) Try.underlying31 Try.sizeOf3 Try.zeroValue3 rfl rfl (.cons rfl .nil) (RVs.cons (Zj.2 rfl) RVs.nil) rfl rfl fun yB bE zB hs o23 cC hxt hfl => ?_);have hfr := hfr.stp hs;obtain ⟨i6, v8, h⟩ := Ga h;refine Ze (.yes2 rfl rfl o0) rfl (Zp (g := yB) (vs := [.int .i64 (z0), zB]) en18 (.cons rfl (.cons rfl .nil)) (wk18 cC v8) fun uC cD iE hs hr => ?_);have hfr := hfr.ext hs;subst hr;refine Zx (.bool (!i6)) (Wh rfl) rfl rfl o0 rfl ?_;refine Zw (.bool (!i6)) (Zl (b := (!t5)) rfl (Tq o0 rfl)) rfl ?_;refine Zg (.bool (!i6)) rfl rfl ?_;refine Zb ?_;obtain rfl := sinj h;exact hQ _ _ ⟨uC, hfr, rfl⟩
 ·clear hx
  obtain ⟨lE, hfr, l8⟩ := hR;refine Gq ?_;obtain rfl := sinj h;exact Qr rfl rfl (show _ = .bool (l5) from l8) ⟨_, hfr, rfl⟩
def f73 (x0 : Gd) (x1 : Int) : Option (List ((List (Gi × Int)))) :=
 Option.bind (α := (List (Gi × Int))) (
  lp (σ := (List (Gi × Int)) × Int) (fun k19 (zD, l5) =>
   bif (decide (l5 < (((((x0).belt).ChainBelt).Cards).length : Int))) then
    Option.bind (α := (List (Gi × Int))) (
     some ((Vw zD ((⟨l5, 0⟩ : Gi)) ((1 : Int))))
     ) fun cC =>
    k19 (cC, (w64 (l5 + (1 : Int))))
   else
    some (zD)
   ) big (([] : List (Gi × Int)), (0 : Int))
  ) fun aE =>
 jn (σ := (List (Gi × Int))) (fun uE =>
  some [(uE)]
  ) fun gG =>
 lp (σ := (List (Gi × Int)) × Int) (fun iG (aB, o0) =>
  bif (decide (o0 < (((x0).cloth).length : Int))) then
   jn (σ := (List (Gi × Int))) (fun vC =>
    iG (vC, (w64 (o0 + (1 : Int))))
    ) fun k156 =>
   jn (σ := (List (Gi × Int))) (fun bD =>
    k156 (bD)
    ) fun jG =>
   lp (σ := (List (Gi × Int)) × (List (Gi × Int))) (fun zE (l8, oB) =>
    bif oB.isEmpty then
     jG (l8)
    else Cx oB fun g8 rm179 =>
     (f45 x0 o0 ((g8.1).at_)).bind fun kG =>
     bif kG then
      (f88 x0 l8 (g8.1) (g8.2) x1).bind fun cF =>
      zE (cF, rm179)
     else
      zE (l8, rm179)
    ) big (([] : List (Gi × Int)), aB)
  else
   gG (aB)
  ) big (aE, (0 : Int))
theorem en73 : Enters Try.prog 73 := enters_of Try.func73 (by kernel_rfl) rfl
theorem wk73 {iO : Nat} {gI : Gh} {wI : World} {x0 : Gd} {x1 : Int} {up0 : Value} (rp0 : RV gI.m wI x0 up0) {r0 : List ((List (Gi × Int)))} (h : f73 x0 x1 = some r0) : FnG Try.prog 73 #[up0, .int .i64 (x1)] gI wI (fun g w v => ∃ q, q ∈ r0 ∧ MP (Je Wj) iO g w q v) := by
 obtain ⟨r, h, hsub⟩ : ∃ r, f73 x0 x1 = some r ∧ ∀ a ∈ r, a ∈ r0 := ⟨r0, h, fun _ h => h⟩;unfold f73 at h;refine Dt Try.func73 rfl (Nat.le_of_ble_eq_true rfl) fun g0 hm hfr => ?_;have rp0 : RV g0.m wI x0 up0 := hm ▸ rp0;show E _ 52 none _ _ _ _ _;refine Zf (Za (Ze .plain rfl (Qs (g := g0) rfl rp0 fun g1 w1 p1 hs q1 => ?_)));have hfr := hfr.ext hs;refine Zg (.map none) rfl rfl ?_;refine Zb (Zd (Zf (Za (Ze .plain rfl (Xu (g := g1) (Je Wj) Int 8011 fun g2 w2 v2 hs m2 => ?_)))));have hfr := hfr.stp hs;have q1 := q1.stp hs;refine Zg v2 rfl rfl ?_;refine Zb (Zd ?_);obtain ⟨aE, hx, h⟩ := Ga h;refine Gp (fun e w => ∃ (g : Gh) , Fr gI wI g w ∧ e 1 = .int .i64 (x1) ∧ e 2 = p1 ∧ PT g.m w (x0 : Gd) p1 ∧ e 5 = v2 ∧ MP (Je Wj) 8011 g w (aE : List (Gi × Int)) v2) (fun Q' hQ => ?_) (fun iL rM hR => ?_)
 ·replace h := hx
  clear hx;refine Zf (Za (Zw (Gk p1 0) (Zc Ug rfl (PT.ptr q1)) rfl ?_));have sI := Zm (Wa).1 q1;refine Zw (Gk (Gk p1 0) 0) (Zc Jr rfl (PT.ptr sI)) rfl ?_;have jJ := Zm (Qe).1 sI;refine Zw (Gk (Gk (Gk p1 0) 0) 1) (Zc Wm rfl (PT.ptr jJ)) rfl ?_;have qK := Zm (Tc).1 jJ;refine Ze .plain rfl (Gf (g := g2) Try.isAgg25 Try.sizeOf25 rfl qK fun sM sK => ?_);refine Zw (.int .i64 (((((x0).belt).ChainBelt).Cards).length : Int)) (Tu Try.underlying25 rfl sK) rfl ?_;refine Zn (.int .i64 (0)) rfl rfl ?_;refine Zb (Zd (Zr ?_));refine Wv h (fun (s : (List (Gi × Int)) × Int) e w => ∃ (g : Gh) , Fr gI wI g w ∧ e 1 = .int .i64 (x1) ∧ e 2 = p1 ∧ PT g.m w (x0 : Gd) p1 ∧ e 5 = v2 ∧ MP (Je Wj) 8011 g w (s.1 : List (Gi × Int)) v2 ∧ e 16 = .int .i64 ((((((x0).belt).ChainBelt).Cards).length : Int)) ∧ e 17 = .int .i64 (s.2)) ⟨g2, hfr, rfl, rfl, q1, rfl, m2, rfl, rfl⟩ (fun X19 k19 mJ => ?_);rintro ⟨zD, l5⟩ jL tK ⟨lG, hfr, tF, uF, uC, bE, vF, vE, cD⟩ h;refine Zf (Za (Zw (.bool ((decide (l5 < (((((x0).belt).ChainBelt).Cards).length : Int))))) (Gj cD vE rfl) rfl ?_));refine Zb (Zd (Zf ?_));rcases Zt h with ⟨dF, h⟩ | ⟨dF, h⟩
  ·refine Tn dF rfl ?_
   refine Zu (Zd ?_);obtain ⟨cC, hx, h⟩ := Ga h;refine Gp (fun e w => ∃ (g : Gh) , Fr gI wI g w ∧ e 1 = .int .i64 (x1) ∧ e 2 = p1 ∧ PT g.m w (x0 : Gd) p1 ∧ e 5 = v2 ∧ MP (Je Wj) 8011 g w (cC : List (Gi × Int)) v2 ∧ e 16 = .int .i64 ((((((x0).belt).ChainBelt).Cards).length : Int)) ∧ e 17 = .int .i64 (l5)) (fun Q' hQ => ?_) (fun lL tM hR => ?_)
   ·replace h := hx
    clear hx;refine Zr ?_;refine Zf (Za (Zo cD rfl ?_));refine Zg (.int .i64 (l5)) rfl rfl ?_;refine Zb (Zd (Za (Zo bE rfl ?_)));refine Zn (.int .i64 (l5)) rfl rfl ?_;have kJ : RV lG.m tK (⟨l5, 0⟩ : Gi) (.agg (Qd [[.int .i64 0], [.int .i64 0]] [(0, .int .i64 (l5))]).flatten.toArray) := Qj rfl (Te (rfl) (Qh (Zv)));generalize nJ : (Value.agg (Qd [[.int .i64 0], [.int .i64 0]] [(0, .int .i64 (l5))]).flatten.toArray) = uK at kJ;refine Zw uK (nJ ▸ Qu (vs := [(0, .int .i64 (l5))]) [[.int .i64 0], [.int .i64 0]] Mh rfl rfl (.cons rfl .nil) ⟨⟨_, rfl, rfl⟩, trivial⟩) rfl ?_;refine Ze .plain rfl (Vs (g := lG) Try.underlying112 Dy rfl vF (rfl.trans (Ba Wj kJ)) rfl (Zj.2 rfl) fun vK uM hs m25 => ?_);have hfr := hfr.stp hs;have uC := uC.stp hs;refine Zb (Ts ?_);obtain rfl := sinj h;exact hQ _ _ ⟨vK, hfr, tF, uF, uC, bE, m25, vE, cD⟩
   ·clear hx
    obtain ⟨xK, hfr, xH, yH, zH, aI, bI, mG, sG⟩ := hR;refine Za (Gg (.int .i64 ((w64 (l5 + (1 : Int))))) sG rfl rfl rfl ?_);refine Zn (.int .i64 ((w64 (l5 + (1 : Int))))) rfl rfl ?_;exact Zb (Zd (mJ (cC, (w64 (l5 + (1 : Int)))) _ _ ⟨xK, hfr, xH, yH, zH, aI, bI, mG, rfl⟩ h))
  ·refine To dF rfl ?_
   refine Qc ?_;refine Tf ?_;refine Tf ?_;refine Tl ?_;obtain rfl := sinj h;exact hQ _ _ ⟨lG, hfr, tF, uF, uC, bE, vF⟩
 ·clear hx
  obtain ⟨lJ, hfr, dI, xF, iE, iI, jI⟩ := hR;refine Dx h hsub (fun (s : (List (Gi × Int))) e w => ∃ (g : Gh) (v5 : Value), Fr gI wI g w ∧ e 5 = v5 ∧ MP (Je Wj) 8011 g w (s : List (Gi × Int)) v5) (fun X112 gG kI r h hsub => ?_) ?_
  ·refine Zf (Za (Zw (Gk p1 3) (Zc Be xF (PT.ptr iE)) rfl ?_))
   have oJ := Zm (Kt).1 iE;refine Ze .plain rfl (Gf (g := lJ) Try.isAgg31 Try.sizeOf31 rfl oJ fun mL pJ => ?_);refine Zw (.int .i64 (((x0).cloth).length : Int)) (Tu Try.underlying31 rfl pJ) rfl ?_;refine Zn (.int .i64 (0)) rfl rfl ?_;refine Zb (Zd (Zr ?_));refine E_lpL h hsub (fun (s : (List (Gi × Int)) × Int) e w => ∃ (g : Gh) (v5 : Value), Fr gI wI g w ∧ e 1 = .int .i64 (x1) ∧ e 2 = p1 ∧ PT g.m w (x0 : Gd) p1 ∧ e 5 = v5 ∧ MP (Je Wj) 8011 g w (s.1 : List (Gi × Int)) v5 ∧ e 26 = .int .i64 ((((x0).cloth).length : Int)) ∧ e 27 = .int .i64 (s.2)) ⟨lJ, (v2), hfr, dI, xF, iE, iI, jI, rfl, rfl⟩ (fun X115 iG lI => ?_);rintro ⟨aB, o0⟩ yK nL ⟨xG, yG, hfr, zG, aH, v8, xE, lB, oD, vB⟩ r h hsub;refine Zf (Za (Zw (.bool ((decide (o0 < (((x0).cloth).length : Int))))) (Gj vB oD rfl) rfl ?_));refine Zb (Zd (Zf ?_));rcases Zt h with ⟨lE, h⟩ | ⟨lE, h⟩
   ·refine Tn lE rfl ?_
    refine Zu (Zd (Dx h hsub (fun (s : (List (Gi × Int))) e w => ∃ (g : Gh) (v5 : Value), Fr gI wI g w ∧ e 1 = .int .i64 (x1) ∧ e 2 = p1 ∧ PT g.m w (x0 : Gd) p1 ∧ e 5 = v5 ∧ MP (Je Wj) 8011 g w (s : List (Gi × Int)) v5 ∧ e 26 = .int .i64 ((((x0).cloth).length : Int)) ∧ e 27 = .int .i64 (o0)) (fun X156 k156 mI r h hsub => ?_) ?_))
    ·refine Zr ?_
     refine Zf (Za (Zo vB rfl ?_));refine Zg (.int .i64 (o0)) rfl rfl ?_;refine Zb (Zd (Zf (Za (Ze .plain rfl (Xu (g := xG) (Je Wj) Int 8030 fun qJ oL l9 hs m157 => ?_)))));have hfr := hfr.stp hs;have v8 := v8.stp hs;have lB := lB.stp hs rfl;refine Zg l9 rfl rfl ?_;refine Zb (Zd (Dx h hsub (fun (s : (List (Gi × Int))) e w => ∃ (g : Gh) , Fr gI wI g w ∧ e 1 = .int .i64 (x1) ∧ e 2 = p1 ∧ PT g.m w (x0 : Gd) p1 ∧ e 8 = l9 ∧ MP (Je Wj) 8030 g w (s : List (Gi × Int)) l9 ∧ e 26 = .int .i64 ((((x0).cloth).length : Int)) ∧ e 27 = .int .i64 (o0)) (fun X175 jG nI r h hsub => ?_) ?_))
     ·refine Zf (Za (Zo xE rfl ?_))
      refine Ze .plain rfl (Lx (g := qJ) 7532 Try.underlying112 rfl lB fun rJ xL cH hs b176 => ?_);have hfr := hfr.stp hs;have v8 := v8.stp hs;have m157 := m157.stp hs rfl;refine Zb (Zd (Zr ?_));refine E_lpL h hsub (fun (s : (List (Gi × Int)) × (List (Gi × Int))) e w => ∃ (g : Gh) , Fr gI wI g w ∧ e 1 = .int .i64 (x1) ∧ e 2 = p1 ∧ PT g.m w (x0 : Gd) p1 ∧ e 7 = .int .i64 (o0) ∧ e 8 = l9 ∧ MP (Je Wj) 8030 g w (s.1 : List (Gi × Int)) l9 ∧ e 26 = .int .i64 ((((x0).cloth).length : Int)) ∧ e 27 = .int .i64 (o0) ∧ e 32 = cH ∧ MI (Je Wj) 7532 8011 g w (s.2 : List (Gi × Int)) none cH) ⟨rJ, hfr, zG, aH, v8, rfl, rfl, m157, oD, vB, rfl, b176.dropc⟩ (fun X177 zE yF => ?_);rintro ⟨l8, oB⟩ zK yL ⟨eF, hfr, mB, n9, t5, lD, nB, i6, yB, zB, n8, yD⟩ r h hsub;refine Zf (Za ?_);rcases Zt h with ⟨mE, h⟩ | ⟨mE, h⟩
      ·refine Ze .plain rfl (Fi (g := eF) n8 yD mE ?_)
       refine Zw (.bool false) (Zi rfl rfl) rfl ?_;refine Zb (Zd (Zf (Tj (by rw [show ev _ _ = _ from rfl]; exact congrArg Value.bool rfl) ?_)));refine Qc ?_;refine Tf ?_;refine Tf ?_;refine Tl ?_;exact Zd (nI (l8) _ _ ⟨eF, hfr, mB, n9, t5, nB, i6, yB, zB⟩ _ h hsub)
      ·refine Ze .plain rfl (Cz (g := eF) n8 yD rfl mE fun g8 rm179 u179 rF sJ hmem hs b179 ru179 => ?_)
       replace h := Nb h hsub _ hmem;clear hsub hmem;obtain ⟨r, h, hsub⟩ := h;obtain rfl := Zj.1 ru179;have hfr := hfr.stp hs;have t5 := t5.stp hs;have i6 := i6.stp hs rfl;refine Zw (.bool true) (Zi rfl rfl) rfl ?_;refine Zb (Zd (Zf (Tv (by rw [show ev _ _ = _ from rfl]; exact congrArg Value.bool rfl) ?_)));refine Zu (Zd (Zr ?_));refine Zf (Za (Ze .plain rfl (Na (g := rF) n8 b179 fun zL vJ => ?_)));have kr180 := Dr Wj rF.m sJ g8.1;obtain rfl := Zj.1 vJ;refine Zw ((Je Wj g8.1)) (Zi rfl rfl) rfl ?_;refine Zw (.int .i64 (g8.2)) (Zi rfl rfl) rfl ?_;refine Ze .plain rfl (Ti (g := rF) 2009 (⟨0, 0⟩ : Gi) Try.zeroValue116 (fun m w => ⟨_, (Gv Zv Zv), rfl⟩) fun xJ aM zJ hs b181 cb => ?_);have hfr := hfr.stp hs;have t5 := t5.stp hs;have i6 := i6.stp hs rfl;have b179 := b179.stp hs rfl;clear cb;refine Ze .plain rfl (Gm (g := xJ) (v := (Je Wj g8.1)) Try.sizeOf116 rfl b181 rfl kr180 fun sF bM hs b182 cb => ?_);clear cb;have hfr := hfr.stp hs;have t5 := t5.stp hs;have i6 := i6.stp hs rfl;have b179 := b179.stp hs rfl;refine Zg (.int .i64 (g8.2)) rfl rfl ?_;refine Zb (Zd (Zf (Za (Ze .plain rfl (Gf (g := sF) Try.isAgg73 Try.sizeOf73 n9 t5 fun aK bK => ?_)))));refine Zo lD rfl ?_;refine Zw (Gk zJ 0) (Zc Ad rfl (OB.ptr b182)) rfl ?_;refine Ze .plain rfl (Wz (g := sF) Ht.1 Try.isAgg3 Try.sizeOf3 rfl b182 fun cM cK => ?_);obtain rfl := Zj.1 cK;obtain ⟨kG, pI, h⟩ := Ga h;refine Ze .plain rfl (Zp (g := sF) (vs := [aK, .int .i64 (o0), .int .i64 ((g8.1).at_)]) en45 (.cons rfl (.cons rfl (.cons rfl .nil))) (wk45 bK pI) fun oE aL dM hs hr => ?_);have hfr := hfr.ext hs;have t5 := t5.ext hs;have i6 := i6.ext hs;have b179 := b179.ext hs;have b182 := b182.ext hs;subst hr;refine Zb (Zd ?_);rcases Zt h with ⟨rE, h⟩ | ⟨rE, h⟩
       ·refine Tn rE rfl ?_
        refine Za (Ze .plain rfl (Gf (g := oE) Try.isAgg73 Try.sizeOf73 n9 t5 fun dK lK => ?_));refine Zo nB rfl ?_;refine Ze .plain rfl (Tk (g := oE) Try.isAgg116 Try.sizeOf116 rfl b182 fun mK nK => ?_);refine Zn (.int .i64 (g8.2)) rfl rfl ?_;refine Zo mB rfl ?_;obtain ⟨cF, qI, h⟩ := Ga h;refine Ze .plain rfl (Hu (g := oE) (i := 8030) (vs := [dK, l9, mK, .int .i64 (g8.2), .int .i64 (x1)]) en88 (.cons rfl (.cons rfl (.cons rfl (.cons rfl (.cons rfl .nil))))) (wk88 lK i6 nK qI) fun oK bL eM hs hr => ?_);obtain ⟨hrv, b191⟩ := hr;have hfr := hfr.stp hs;have t5 := t5.stp hs;have b179 := b179.stp hs rfl;subst hrv;exact Zb (Ts (Zd (yF (cF, rm179) _ _ ⟨oK, hfr, mB, n9, t5, lD, nB, b191, yB, zB, n8, b179.dropc⟩ _ h hsub)))
       ·refine To rE rfl ?_
        exact Zu (Ts (Zd (yF (l8, rm179) _ _ ⟨oE, hfr, mB, n9, t5, lD, nB, i6, yB, zB, n8, b179.dropc⟩ _ h hsub)))
     ·rintro bD dL iM ⟨jM, hfr, gH, jH, nD, kH, lH, aG, bG⟩ r h hsub
      refine Za (Zo kH rfl ?_);refine Zg l9 rfl rfl ?_;obtain ⟨gr194, hs, mr194⟩ := MP.retag 8011 lH;have hfr := hfr.stp hs;have nD := nD.stp hs;exact Zb (Ts (Zd (mI (bD) _ _ ⟨gr194, (l9), hfr, gH, jH, nD, rfl, mr194, aG, bG⟩ _ h hsub)))
    ·rintro vC eL kM ⟨pK, mH, hfr, nH, oH, pH, qH, sH, cG, eG⟩ r h hsub
     refine Za (Gg (.int .i64 ((w64 (o0 + (1 : Int))))) eG rfl rfl rfl ?_);refine Zn (.int .i64 ((w64 (o0 + (1 : Int))))) rfl rfl ?_;exact Zb (Zd (lI (vC, (w64 (o0 + (1 : Int)))) _ _ ⟨pK, (mH), hfr, nH, oH, pH, qH, sH, cG, rfl⟩ _ h hsub))
   ·refine To lE rfl ?_
    refine Qc ?_;refine Tf ?_;refine Tf ?_;refine Tl ?_;exact Zd (kI (aB) _ _ ⟨xG, (yG), hfr, xE, lB⟩ _ h hsub)
  ·rintro uE gL pM ⟨qM, yE, hfr, tH, uH⟩ r h hsub
   refine Zf (Za (Zo tH rfl ?_));refine Zg yE rfl rfl ?_;refine Zb (Zd (Gq ?_));obtain rfl := sinj h;have hQ := hsub _ (List.mem_singleton.2 rfl);obtain ⟨gh, hxh, hmh, mph⟩ := MP.handm (i := iO) hfr uH;exact Qr rfl rfl (show _ = yE from rfl) ⟨gh, hxh, _, hQ, mph⟩
def f74 (x0 : List Int) (x1 : Int) (x2 : Int → Int → Option Int) : Option ((List Int)) :=
 Option.bind (α := (List Int) × Int) (
  lp (σ := (List Int) × Int × Int) (fun k9 (n8, l8, l5) =>
   jn (σ := Unit) (fun _ =>
    (f89 n8 l8 l5 x2).bind fun eG =>
    k9 (eG, l5, (w64 (l5 + (20 : Int))))
    ) fun sH =>
   bif (decide (l5 ≤ x1)) then
    sH ()
   else
    some (n8, l8)
   ) big (x0, (0 : Int), (20 : Int))
  ) fun (nB, v8) =>
 (f89 nB v8 x1 x2).bind fun tH =>
 lp (σ := (List Int) × Int) (fun uH (l9, o0) =>
  jn (σ := Unit) (fun _ =>
   Option.bind (α := (List Int) × Int) (
    lp (σ := (List Int) × Int × Int) (fun xH (n9, g8, t5) =>
     jn (σ := Unit) (fun _ =>
      (f90 big n9 g8 ((w64 (g8 + o0))) t5 x2).bind fun gG =>
      xH (gG, t5, (w64 (t5 + (w64 ((2 : Int) * o0)))))
      ) fun yH =>
     bif (decide (t5 ≤ x1)) then
      yH ()
     else
      some (n9, g8)
     ) big (l9, (0 : Int), (w64 ((2 : Int) * o0)))
    ) fun (aB, i6) =>
   Option.bind (α := (List Int)) (
    bif (decide ((w64 (i6 + o0)) < x1)) then
     (f90 big aB i6 ((w64 (i6 + o0))) x1 x2).bind fun zH =>
     some (zH)
    else
     some (aB)
    ) fun lB =>
   uH (lB, (w64 (o0 * (2 : Int))))
   ) fun aI =>
  bif (decide (o0 < x1)) then
   aI ()
  else
   some (l9)
  ) big (tH, (20 : Int))
theorem en74 : Enters Try.prog 74 := enters_of Try.func74 (by kernel_rfl) rfl
theorem wk74 {iI : Nat} {gI : Gh} {wI : World} {x0 : List Int} {x1 : Int} {x2 : Int → Int → Option Int} {up0 : Value} (mp0 : OM iI gI wI 3 x0 up0) {up2 : Value} (rp2 : Ui Try.prog x2 up2 gI wI) {r : (List Int)} (h : f74 x0 x1 x2 = some r) : FnM Try.prog 74 #[up0, .int .i64 (x1), up2] iI gI wI (fun g w v => v = .tuple #[] ∧ OM iI g w 3 r up0) := by
 unfold f74 at h;refine Yd Try.func74 rfl (Nat.le_of_ble_eq_true rfl) fun g0 hm hfr => ?_;have iG := mp0;replace mp0 := mp0.enter;rw [← hm] at mp0
 replace hm : g0.m = gI.m := by rw [hm]
 obtain ⟨ff2, fa2, fc2, rfl, fen2, fcl2⟩ := rp2;show E _ 63 none _ _ _ _ _;refine Zf (Za (Zg (.int .i64 (20)) rfl rfl ?_));refine Zb (Zd (Zf (Za (Zn (.int .i64 (20)) rfl rfl ?_))));refine Zg (.int .i64 (0)) rfl rfl ?_;refine Zg (.int .i64 (20)) rfl rfl ?_;refine Zb (Zd ?_);obtain ⟨⟨nB, v8⟩, hx, h⟩ := Ga h;refine Gp (fun e w => ∃ (g : Gh) , FrM iI gI wI g w ∧ e 0 = up0 ∧ OM 1 g w 3 (nB : List Int) up0 ∧ e 1 = .int .i64 (x1) ∧ e 2 = (.func (.func ff2) fa2 fc2) ∧ e 6 = .int .i64 ((20 : Int)) ∧ e 7 = .int .i64 (v8)) (fun Q' hQ => ?_) (fun aK vK hR => ?_)
 ·replace h := hx
  clear hx;refine Zr ?_;refine Wv h (fun (s : (List Int) × Int × Int) e w => ∃ (g : Gh) , FrM iI gI wI g w ∧ e 0 = up0 ∧ OM 1 g w 3 (s.1 : List Int) up0 ∧ e 1 = .int .i64 (x1) ∧ e 2 = (.func (.func ff2) fa2 fc2) ∧ e 6 = .int .i64 ((20 : Int)) ∧ e 7 = .int .i64 (s.2.1) ∧ e 8 = .int .i64 (s.2.2)) ⟨g0, hfr, rfl, mp0, rfl, rfl, rfl, rfl, rfl⟩ (fun X9 k9 lJ => ?_);rintro ⟨n8, l8, l5⟩ bK xK ⟨bI, hfr, yD, zD, oB, aE, bE, iE, lE⟩ h;refine Zq h (fun (s : Unit) e w => ∃ (g : Gh) , FrM iI gI wI g w ∧ e 0 = up0 ∧ OM 1 g w 3 (n8 : List Int) up0 ∧ e 1 = .int .i64 (x1) ∧ e 2 = (.func (.func ff2) fa2 fc2) ∧ e 6 = .int .i64 ((20 : Int)) ∧ e 7 = .int .i64 (l8) ∧ e 8 = .int .i64 (l5)) (fun X12 sH kI h => ?_) ?_
  ·refine Zf (Za (Zo lE rfl ?_))
   refine Zo oB rfl ?_;refine Gg (.bool ((decide (l5 ≤ x1)))) rfl rfl rfl rfl ?_;refine Zb (Zd ?_);rcases Zt h with ⟨cD, h⟩ | ⟨cD, h⟩
   ·refine Tn cD rfl ?_
    exact Zu (Zd (kI () _ _ ⟨bI, hfr, yD, zD, oB, aE, bE, iE, lE⟩ h))
   ·refine To cD rfl ?_
    refine Qc ?_;refine Tf ?_;refine Tf ?_;refine Tl ?_;obtain ⟨rfl, rfl⟩ := Hn h;exact hQ _ _ ⟨bI, hfr, yD, zD, oB, aE, bE, iE⟩
  ·rintro _ cK yK ⟨mJ, hfr, mE, jG, kG, oE, rE, lG, vB⟩ h
   refine Zr ?_;refine Zf (Za (Zo mE rfl ?_));refine Zo lG rfl ?_;refine Zo vB rfl ?_;refine Zo oE rfl ?_;obtain ⟨eG, lI, h⟩ := Ga h;refine Ze .plain rfl (Hu (g := mJ) (i := 1) (vs := [up0, .int .i64 (l8), .int .i64 (l5), (.func (.func ff2) fa2 fc2)]) en89 (.cons rfl (.cons rfl (.cons rfl (.cons rfl .nil)))) (wk89 jG (Ui.ch ⟨_, _, _, rfl, fen2, fcl2⟩ hfr.ch) lI) fun nJ dK zK hs hr => ?_);obtain ⟨hrv, b15⟩ := hr;have hfr := hfr.stp hs;subst hrv;refine Zb (Zd (Zf (Za (Zo vB rfl ?_))));refine Zg (.int .i64 (l5)) rfl rfl ?_;refine Zb (Zd (Za (Zo vB rfl ?_)));refine Zo rE rfl ?_;refine Gg (.int .i64 ((w64 (l5 + (20 : Int))))) rfl rfl rfl rfl ?_;refine Zg (.int .i64 ((w64 (l5 + (20 : Int))))) rfl rfl ?_;exact Zb (Ts (Zd (lJ (eG, l5, (w64 (l5 + (20 : Int)))) _ _ ⟨nJ, hfr, mE, b15, kG, oE, rE, rfl, rfl⟩ h)))
 ·clear hx
  obtain ⟨oJ, hfr, uE, mG, vE, xE, sG, xG⟩ := hR;refine Zf (Za (Zo uE rfl ?_));refine Zo xG rfl ?_;refine Zo vE rfl ?_;refine Zo xE rfl ?_;obtain ⟨tH, mI, h⟩ := Ga h;refine Ze .plain rfl (Hu (g := oJ) (i := 1) (vs := [up0, .int .i64 (v8), .int .i64 (x1), (.func (.func ff2) fa2 fc2)]) en89 (.cons rfl (.cons rfl (.cons rfl (.cons rfl .nil)))) (wk89 mG (Ui.ch ⟨_, _, _, rfl, fen2, fcl2⟩ hfr.ch) mI) fun pJ lK aL hs hr => ?_);obtain ⟨hrv, b18⟩ := hr;have hfr := hfr.stp hs;subst hrv;refine Zb (Zd (Zr ?_));refine Wv h (fun (s : (List Int) × Int) e w => ∃ (g : Gh) , FrM iI gI wI g w ∧ e 0 = up0 ∧ OM 1 g w 3 (s.1 : List Int) up0 ∧ e 1 = .int .i64 (x1) ∧ e 2 = (.func (.func ff2) fa2 fc2) ∧ e 6 = .int .i64 (s.2)) ⟨pJ, hfr, uE, b18, vE, xE, sG⟩ (fun X20 uH nI => ?_);rintro ⟨l9, o0⟩ mK bL ⟨qJ, hfr, yG, yE, zE, zG, cF⟩ h;refine Zq h (fun (s : Unit) e w => ∃ (g : Gh) , FrM iI gI wI g w ∧ e 0 = up0 ∧ OM 1 g w 3 (l9 : List Int) up0 ∧ e 1 = .int .i64 (x1) ∧ e 2 = (.func (.func ff2) fa2 fc2) ∧ e 6 = .int .i64 (o0)) (fun X23 aI pI h => ?_) ?_
  ·refine Zf (Za (Zo cF rfl ?_))
   refine Zo zE rfl ?_;refine Gg (.bool ((decide (o0 < x1)))) rfl rfl rfl rfl ?_;refine Zb (Zd ?_);rcases Zt h with ⟨lD, h⟩ | ⟨lD, h⟩
   ·refine Tn lD rfl ?_
    exact Zu (Zd (pI () _ _ ⟨qJ, hfr, yG, yE, zE, zG, cF⟩ h))
   ·refine To lD rfl ?_
    refine Qc ?_;refine Tf ?_;refine Tf ?_;refine Tl ?_;obtain rfl := sinj h;exact Vu rfl rfl ⟨_, hfr, rfl, iG.back yE⟩
  ·rintro _ nK dL ⟨rJ, hfr, aH, cH, gH, jH, dF⟩ h
   refine Zr ?_;refine Zf (Za (Zo dF rfl ?_));refine Gg (.int .i64 ((w64 ((2 : Int) * o0)))) rfl rfl rfl rfl ?_;refine Zg (.int .i64 (0)) rfl rfl ?_;refine Zg (.int .i64 ((w64 ((2 : Int) * o0)))) rfl rfl ?_;refine Zb (Zd ?_);obtain ⟨⟨aB, i6⟩, hx, h⟩ := Ga h;refine Gp (fun e w => ∃ (g : Gh) , FrM iI gI wI g w ∧ e 0 = up0 ∧ OM 1 g w 3 (aB : List Int) up0 ∧ e 1 = .int .i64 (x1) ∧ e 2 = (.func (.func ff2) fa2 fc2) ∧ e 6 = .int .i64 (o0) ∧ e 7 = .int .i64 (i6)) (fun Q' hQ => ?_) (fun oK eL hR => ?_)
   ·replace h := hx
    clear hx;refine Zr ?_;refine Wv h (fun (s : (List Int) × Int × Int) e w => ∃ (g : Gh) , FrM iI gI wI g w ∧ e 0 = up0 ∧ OM 1 g w 3 (s.1 : List Int) up0 ∧ e 1 = .int .i64 (x1) ∧ e 2 = (.func (.func ff2) fa2 fc2) ∧ e 6 = .int .i64 (o0) ∧ e 7 = .int .i64 (s.2.1) ∧ e 8 = .int .i64 (s.2.2)) ⟨rJ, hfr, aH, cH, gH, jH, dF, rfl, rfl⟩ (fun X34 xH qI => ?_);rintro ⟨n9, g8, t5⟩ pK gL ⟨dI, hfr, eF, rF, yB, sF, tF, uF, vF⟩ h;refine Zq h (fun (s : Unit) e w => ∃ (g : Gh) , FrM iI gI wI g w ∧ e 0 = up0 ∧ OM 1 g w 3 (n9 : List Int) up0 ∧ e 1 = .int .i64 (x1) ∧ e 2 = (.func (.func ff2) fa2 fc2) ∧ e 6 = .int .i64 (o0) ∧ e 7 = .int .i64 (g8) ∧ e 8 = .int .i64 (t5)) (fun X37 yH sI h => ?_) ?_
    ·refine Zf (Za (Zo vF rfl ?_))
     refine Zo yB rfl ?_;refine Gg (.bool ((decide (t5 ≤ x1)))) rfl rfl rfl rfl ?_;refine Zb (Zd ?_);rcases Zt h with ⟨nD, h⟩ | ⟨nD, h⟩
     ·refine Tn nD rfl ?_
      exact Zu (Zd (sI () _ _ ⟨dI, hfr, eF, rF, yB, sF, tF, uF, vF⟩ h))
     ·refine To nD rfl ?_
      refine Qc ?_;refine Tf ?_;refine Tf ?_;refine Tl ?_;obtain ⟨rfl, rfl⟩ := Hn h;exact hQ _ _ ⟨dI, hfr, eF, rF, yB, sF, tF, uF⟩
    ·rintro _ qK iL ⟨sJ, hfr, xF, kH, lH, yF, zB, aG, cC⟩ h
     refine Zr ?_;refine Zf (Za (Zo xF rfl ?_));refine Zo aG rfl ?_;refine Zo aG rfl ?_;refine Zo zB rfl ?_;refine Gg (.int .i64 ((w64 (g8 + o0)))) rfl rfl rfl rfl ?_;refine Zo cC rfl ?_;refine Zo yF rfl ?_;obtain ⟨gG, jJ, h⟩ := Ga h;refine Ze .plain rfl (Hu (g := sJ) (i := 1) (vs := [up0, .int .i64 (g8), .int .i64 ((w64 (g8 + o0))), .int .i64 (t5), (.func (.func ff2) fa2 fc2)]) en90 (.cons rfl (.cons rfl (.cons rfl (.cons rfl (.cons rfl .nil))))) (wk90 big kH (Ui.ch ⟨_, _, _, rfl, fen2, fcl2⟩ hfr.ch) jJ) fun vJ sK jL hs hr => ?_);obtain ⟨hrv, b40⟩ := hr;have hfr := hfr.stp hs;subst hrv;refine Zb (Zd (Zf (Za (Zo cC rfl ?_))));refine Zg (.int .i64 (t5)) rfl rfl ?_;refine Zb (Zd (Za (Zo cC rfl ?_)));refine Zo zB rfl ?_;refine Gg (.int .i64 ((w64 ((2 : Int) * o0)))) rfl rfl rfl rfl ?_;refine Zw (.int .i64 ((w64 (t5 + (w64 ((2 : Int) * o0)))))) (Gj rfl rfl rfl) rfl ?_;refine Zw (.int .i64 ((w64 (t5 + (w64 ((2 : Int) * o0)))))) (Tb rfl) rfl ?_;exact Zb (Ts (Zd (qI (gG, t5, (w64 (t5 + (w64 ((2 : Int) * o0))))) _ _ ⟨vJ, hfr, xF, b40, lH, yF, zB, rfl, rfl⟩ h)))
   ·clear hx
    obtain ⟨jI, hfr, uC, bG, mB, vC, bD, cG⟩ := hR;obtain ⟨lB, hx, h⟩ := Ga h;refine Gp (fun e w => ∃ (g : Gh) , FrM iI gI wI g w ∧ e 0 = up0 ∧ OM 1 g w 3 (lB : List Int) up0 ∧ e 1 = .int .i64 (x1) ∧ e 2 = (.func (.func ff2) fa2 fc2) ∧ e 6 = .int .i64 (o0)) (fun Q' hQ => ?_) (fun tK lL hR => ?_)
    ·replace h := hx
     clear hx;refine Zf (Za (Zo cG rfl ?_));refine Zo bD rfl ?_;refine Gg (.int .i64 ((w64 (i6 + o0)))) rfl rfl rfl rfl ?_;refine Zg (.int .i64 ((w64 (i6 + o0)))) rfl rfl ?_;refine Zb (Zd (Zf (Za (Zn (.int .i64 ((w64 (i6 + o0)))) rfl rfl ?_))));refine Zo mB rfl ?_;refine Gg (.bool ((decide ((w64 (i6 + o0)) < x1)))) rfl rfl rfl rfl ?_;refine Zb (Zd ?_);rcases Zt h with ⟨oD, h⟩ | ⟨oD, h⟩
     ·refine Tn oD rfl ?_
      refine Za (Zo uC rfl ?_);refine Zo cG rfl ?_;refine Zn (.int .i64 ((w64 (i6 + o0)))) rfl rfl ?_;refine Zo mB rfl ?_;refine Zo vC rfl ?_;obtain ⟨zH, kJ, h⟩ := Ga h;refine Ze .plain rfl (Hu (g := jI) (i := 1) (vs := [up0, .int .i64 (i6), .int .i64 ((w64 (i6 + o0))), .int .i64 (x1), (.func (.func ff2) fa2 fc2)]) en90 (.cons rfl (.cons rfl (.cons rfl (.cons rfl (.cons rfl .nil))))) (wk90 big bG (Ui.ch ⟨_, _, _, rfl, fen2, fcl2⟩ hfr.ch) kJ) fun xJ uK mL hs hr => ?_);obtain ⟨hrv, b47⟩ := hr;have hfr := hfr.stp hs;subst hrv;refine Zb ?_;obtain rfl := sinj h;exact hQ _ _ ⟨xJ, hfr, uC, b47, mB, vC, bD⟩
     ·refine To oD rfl ?_
      refine Zu ?_;obtain rfl := sinj h;exact hQ _ _ ⟨jI, hfr, uC, bG, mB, vC, bD⟩
    ·clear hx
     obtain ⟨zJ, hfr, mH, nH, oH, pH, qH⟩ := hR;refine Za (Zo qH rfl ?_);refine Gg (.int .i64 ((w64 (o0 * (2 : Int))))) rfl rfl rfl rfl ?_;refine Zg (.int .i64 ((w64 (o0 * (2 : Int))))) rfl rfl ?_;exact Zb (Ts (Zd (nI (lB, (w64 (o0 * (2 : Int)))) _ _ ⟨zJ, hfr, mH, nH, oH, pH, rfl⟩ h)))
def f76 (x0 : PayTable) : Option (Gu × Int) :=
 jn (σ := Gu) (fun iE =>
  some ((⟨x0⟩ : Gu), (0 : Int))
  ) fun vF =>
 (f91 ((⟨x0⟩ : Gu))).bind fun lE =>
 bif lE then
  some ((⟨x0⟩ : Gu), (5 : Int))
 else
  (f92 ((⟨x0⟩ : Gu))).bind fun zD =>
  bif (!zD) then
   some ((⟨x0⟩ : Gu), (4 : Int))
  else
   Option.bind (α := Bool) (
    (f94 ((x0).Rows)).bind fun mE =>
    (f93 mE).bind fun l9 =>
    bif (!l9) then
     some ((!l9))
    else
     (f60 ((x0).Across)).bind fun n9 =>
     bif (!n9) then
      some ((!n9))
     else
      (f60 ((x0).Down)).bind fun aB =>
      bif (!aB) then
       some ((!aB))
      else
       (f60 (([(x0).Total] : List Int))).bind fun nB =>
       some ((!nB))
    ) fun i6 =>
   bif i6 then
    some ((⟨x0⟩ : Gu), (2 : Int))
   else
    (f77 ((⟨x0⟩ : Gu))).bind fun lB =>
    bif (decide (((lB).length : Int) > (12 : Int))) then
     some ((⟨x0⟩ : Gu), (8 : Int))
    else
     vF ((⟨⟨[], [], [], 0⟩⟩ : Gu))
theorem en76 : Enters Try.prog 76 := enters_of Try.func76 (by kernel_rfl) rfl
theorem wk76 {gI : Gh} {wI : World} {x0 : PayTable} {up0 : Value} (rp0 : RV gI.m wI x0 up0) {r : Gu × Int} (h : f76 x0 = some r) : Fn Try.prog 76 #[up0] gI wI (fun m w v => ∃ y0 y1, v = .tuple #[y0, y1] ∧ RV m w (r.1) y0 ∧ y1 = .int .i64 (r.2)) := by
 unfold f76 at h;refine Gw Try.func76 rfl (Nat.le_of_ble_eq_true rfl) fun g0 hm hfr => ?_;have rp0 : RV g0.m wI x0 up0 := hm ▸ rp0;show E _ 47 none _ _ _ _ _;refine Zf (Za (Ze .plain rfl (Qs (g := g0) rfl rp0 fun g1 w1 p1 hs q1 => ?_)));have hfr := hfr.ext hs;refine Ze .plain rfl (Ti (g := g1) 2002 (⟨⟨[], [], [], 0⟩⟩ : Gu) Try.zeroValue119 (fun m w => ⟨_, (Gv Tr (Gv Tr (Gv Tr Zv))), rfl⟩) fun g2 w2 p2 hs b2 cb => ?_);have hfr := hfr.stp hs;have q1 := q1.stp hs;have o0 : OSF 2002 60200 0 g2 w2 31 119 ([] : List (List Int)) p2 := cb.osf (by rfl);have l5 : OSF 2002 60201 1 g2 w2 3 119 ([] : List Int) p2 := cb.osf (by rfl);have t5 : OSF 2002 60202 2 g2 w2 3 119 ([] : List Int) p2 := cb.osf (by rfl);clear cb;refine Zg (.int .i64 (0)) rfl rfl ?_;refine Zb (Zd (Zf (Za (Ze .plain rfl (Gf (g := g2) Try.isAgg98 Try.sizeOf98 rfl q1 fun v3 r3 => ?_)))));have r4 : RV g2.m _ (⟨x0⟩ : Gu) (.agg (Qd [[.slice none 0 0, .slice none 0 0, .slice none 0 0, .int .i64 0]] [(0, v3)]).flatten.toArray) := Qj rfl (Qh (RV.cells r3));generalize sH : (Value.agg (Qd [[.slice none 0 0, .slice none 0 0, .slice none 0 0, .int .i64 0]] [(0, v3)]).flatten.toArray) = v4 at r4;refine Zw v4 (sH ▸ Qu (vs := [(0, v3)]) [[.slice none 0 0, .slice none 0 0, .slice none 0 0, .int .i64 0]] lay_119 rfl rfl (.cons rfl .nil) ⟨⟨_, rfl, Qt r3⟩, trivial⟩) rfl ?_;refine Ze .plain rfl (Ti (g := g2) 2004 (⟨⟨[], [], [], 0⟩⟩ : Gu) Try.zeroValue119 (fun m w => ⟨_, (Gv Tr (Gv Tr (Gv Tr Zv))), rfl⟩) fun g5 w5 p5 hs b5 cb => ?_);have hfr := hfr.stp hs;have o0 := o0.stp hs rfl;have l5 := l5.stp hs rfl;have t5 := t5.stp hs rfl;have b2 := b2.stp hs rfl;have r4 := r4.stp hs;have sI : OSF 2004 60400 0 g5 w5 31 119 ([] : List (List Int)) p5 := cb.osf (by rfl);have jJ : OSF 2004 60401 1 g5 w5 3 119 ([] : List Int) p5 := cb.osf (by rfl);have kJ : OSF 2004 60402 2 g5 w5 3 119 ([] : List Int) p5 := cb.osf (by rfl);clear cb;refine Ze .plain rfl (Gm (g := g5) (v := v4) Try.sizeOf119 rfl b5 rfl r4 fun g6 w6 hs b6 cb => ?_);clear cb;have hfr := hfr.stp hs;have o0 := o0.stp hs rfl;have l5 := l5.stp hs rfl;have t5 := t5.stp hs rfl;have b2 := b2.stp hs rfl;refine Zb (Zd (Zq h (fun (s : Gu) e w => ∃ (g : Gh) , Fr gI wI g w ∧ e 2 = p2 ∧ OB 2002 g w 119 (s : Gu) p2 ∧ OSF 2002 60200 0 g w 31 119 (((s).PayTable).Rows) p2 ∧ OSF 2002 60201 1 g w 3 119 (((s).PayTable).Across) p2 ∧ OSF 2002 60202 2 g w 3 119 (((s).PayTable).Down) p2 ∧ e 4 = p5 ∧ OB 2004 g w 119 ((⟨x0⟩ : Gu) : Gu) p5) (fun X86 vF xF h => ?_) ?_))
 ·refine Zr ?_
  refine Zf (Za (Ze .plain rfl (Tk (g := g6) Try.isAgg119 Try.sizeOf119 rfl b6 fun tH uH => ?_)));obtain ⟨lE, yF, h⟩ := Ga h;refine Ze .plain rfl (Zp (g := g6) (vs := [tH]) en91 (.cons rfl .nil) (wk91 uH yF) fun aE lJ nK hs hr => ?_);have hfr := hfr.ext hs;have o0 := o0.ext hs;have l5 := l5.ext hs;have t5 := t5.ext hs;have b2 := b2.ext hs;have b6 := b6.ext hs;subst hr;refine Zg (.bool (lE)) rfl rfl ?_;refine Zb (Zd ?_);rcases Zt h with ⟨bD, h⟩ | ⟨bD, h⟩
  ·refine Tn bD rfl ?_
   refine Zf (Za (Ze .plain rfl (Tk (g := aE) Try.isAgg119 Try.sizeOf119 rfl b6 fun xH yH => ?_)));refine Ze .plain rfl (Gm (g := aE) (v := xH) Try.sizeOf119 rfl b2 rfl yH fun oK pK hs b92 cb => ?_);clear cb;have hfr := hfr.stp hs;refine Zg (.int .i64 (5)) rfl rfl ?_;refine Zb (Zd (Gq (Wd ?_)));refine Tz ?_;obtain rfl := sinj h;obtain ⟨ad93, cv93, hp93, aG, cr93⟩ := Ql Try.isAgg119 Try.sizeOf119 b92;exact Qy rfl rfl ((show _ = p2 from rfl).trans hp93) aG (show _ = .int .i64 (5) from rfl) ⟨_, hfr, _, _, rfl, cr93, rfl⟩
  ·refine To bD rfl ?_
   refine Zf (Za (Ze .plain rfl (Tk (g := aE) Try.isAgg119 Try.sizeOf119 rfl b6 fun zH aI => ?_)));obtain ⟨zD, bG, h⟩ := Ga h;refine Ze .plain rfl (Zp (g := aE) (vs := [zH]) en92 (.cons rfl .nil) (wk92 aI bG) fun bE mJ qK hs hr => ?_);have hfr := hfr.ext hs;have o0 := o0.ext hs;have l5 := l5.ext hs;have t5 := t5.ext hs;have b2 := b2.ext hs;have b6 := b6.ext hs;subst hr;refine Zw (.bool (!zD)) (Wh rfl) rfl ?_;refine Zg (.bool (!zD)) rfl rfl ?_;refine Zb (Zd ?_);rcases Zt h with ⟨cD, h⟩ | ⟨cD, h⟩
   ·refine Tn cD rfl ?_
    refine Zf (Za (Ze .plain rfl (Tk (g := bE) Try.isAgg119 Try.sizeOf119 rfl b6 fun bI dI => ?_)));refine Ze .plain rfl (Gm (g := bE) (v := bI) Try.sizeOf119 rfl b2 rfl dI fun sK tK hs b99 cb => ?_);clear cb;have hfr := hfr.stp hs;refine Zg (.int .i64 (4)) rfl rfl ?_;refine Zb (Zd (Gq (Wd ?_)));refine Tz ?_;obtain rfl := sinj h;obtain ⟨ad100, cv100, hp100, xE, cr100⟩ := Ql Try.isAgg119 Try.sizeOf119 b99;exact Qy rfl rfl ((show _ = p2 from rfl).trans hp100) xE (show _ = .int .i64 (4) from rfl) ⟨_, hfr, _, _, rfl, cr100, rfl⟩
   ·refine To cD rfl ?_
    obtain ⟨i6, hx, h⟩ := Ga h;refine Gp (fun e w => ∃ (g : Gh) , Fr gI wI g w ∧ e 2 = p2 ∧ OB 2002 g w 119 ((⟨⟨[], [], [], 0⟩⟩ : Gu) : Gu) p2 ∧ OSF 2002 60200 0 g w 31 119 ((((⟨⟨[], [], [], 0⟩⟩ : Gu)).PayTable).Rows) p2 ∧ OSF 2002 60201 1 g w 3 119 ((((⟨⟨[], [], [], 0⟩⟩ : Gu)).PayTable).Across) p2 ∧ OSF 2002 60202 2 g w 3 119 ((((⟨⟨[], [], [], 0⟩⟩ : Gu)).PayTable).Down) p2 ∧ e 4 = p5 ∧ OB 2004 g w 119 ((⟨x0⟩ : Gu) : Gu) p5 ∧ e 16 = .bool (i6)) (fun Q' hQ => ?_) (fun iI nJ hR => ?_)
    ·replace h := hx
     clear hx;refine Zf (Za (Zw (Gk p5 0) (Zc Qi rfl (OB.ptr b6)) rfl ?_));refine Zw (Gk p5 0) (Ky (o1 := 0) rfl Kk rfl (OB.ptr b6)) rfl ?_;refine Ze .plain rfl (Wz (g := bE) (Gy.comp Ta Qv rfl).1 Try.isAgg76 Try.sizeOf76 rfl b6 fun cG eG => ?_);obtain ⟨mE, yE, h⟩ := Ga h;refine Ze .plain rfl (Zp (g := bE) (vs := [cG]) en94 (.cons rfl .nil) (wk94 eG yE) fun gG jI iG hs hr => ?_);have hfr := hfr.ext hs;have o0 := o0.ext hs;have l5 := l5.ext hs;have t5 := t5.ext hs;have b2 := b2.ext hs;have b6 := b6.ext hs;have jG := hr;obtain ⟨l9, zE, h⟩ := Ga h;refine Ze .plain rfl (Zp (g := gG) (vs := [iG]) en93 (.cons rfl .nil) (wk93 jG zE) fun lD kI oJ hs hr => ?_);have hfr := hfr.ext hs;have o0 := o0.ext hs;have l5 := l5.ext hs;have t5 := t5.ext hs;have b2 := b2.ext hs;have b6 := b6.ext hs;subst hr;refine Zw (.bool (!l9)) (Wh rfl) rfl ?_;refine Zg (.bool (!l9)) rfl rfl ?_;refine Zb (Zd ?_);rcases Zt h with ⟨oB, h⟩ | ⟨oB, h⟩
     ·refine Tn oB rfl ?_
      refine Zu ?_;obtain rfl := sinj h;exact hQ _ _ ⟨lD, hfr, rfl, b2, o0, l5, t5, rfl, b6, rfl⟩
     ·refine To oB rfl ?_
      refine Zf (Za (Zw (Gk p5 0) (Zc Qi rfl (OB.ptr b6)) rfl ?_));refine Zw (Gk p5 1) (Ky (o1 := 0) rfl Xp rfl (OB.ptr b6)) rfl ?_;refine Ze .plain rfl (Wz (g := lD) (Gy.comp Ta Hr rfl).1 Try.isAgg31 Try.sizeOf31 rfl b6 fun kG lG => ?_);obtain ⟨n9, cF, h⟩ := Ga h;refine Ze .plain rfl (Zp (g := lD) (vs := [kG]) en60 (.cons rfl .nil) (wk60 lG cF) fun nD lI pJ hs hr => ?_);have hfr := hfr.ext hs;have o0 := o0.ext hs;have l5 := l5.ext hs;have t5 := t5.ext hs;have b2 := b2.ext hs;have b6 := b6.ext hs;subst hr;refine Zw (.bool (!n9)) (Wh rfl) rfl ?_;refine Zg (.bool (!n9)) rfl rfl ?_;refine Zb (Zd ?_);rcases Zt h with ⟨vB, h⟩ | ⟨vB, h⟩
      ·refine Tn vB rfl ?_
       refine Zu ?_;obtain rfl := sinj h;exact hQ _ _ ⟨nD, hfr, rfl, b2, o0, l5, t5, rfl, b6, rfl⟩
      ·refine To vB rfl ?_
       refine Zf (Za (Zw (Gk p5 0) (Zc Qi rfl (OB.ptr b6)) rfl ?_));refine Zw (Gk p5 2) (Ky (o1 := 0) rfl Xt rfl (OB.ptr b6)) rfl ?_;refine Ze .plain rfl (Wz (g := nD) (Gy.comp Ta Ks rfl).1 Try.isAgg31 Try.sizeOf31 rfl b6 fun mG sG => ?_);obtain ⟨aB, dF, h⟩ := Ga h;refine Ze .plain rfl (Zp (g := nD) (vs := [mG]) en60 (.cons rfl .nil) (wk60 sG dF) fun oD mI qJ hs hr => ?_);have hfr := hfr.ext hs;have o0 := o0.ext hs;have l5 := l5.ext hs;have t5 := t5.ext hs;have b2 := b2.ext hs;have b6 := b6.ext hs;subst hr;refine Zw (.bool (!aB)) (Wh rfl) rfl ?_;refine Zg (.bool (!aB)) rfl rfl ?_;refine Zb (Zd ?_);rcases Zt h with ⟨yB, h⟩ | ⟨yB, h⟩
       ·refine Tn yB rfl ?_
        refine Zu ?_;obtain rfl := sinj h;exact hQ _ _ ⟨oD, hfr, rfl, b2, o0, l5, t5, rfl, b6, rfl⟩
       ·refine To yB rfl ?_
        refine Za (Zw (Gk p5 0) (Zc Qi rfl (OB.ptr b6)) rfl ?_);refine Zw (Gk p5 3) (Ky (o1 := 0) rfl Rf rfl (OB.ptr b6)) rfl ?_;refine Ze .plain rfl (Wz (g := oD) (Gy.comp Ta Jj rfl).1 Try.isAgg3 Try.sizeOf3 rfl b6 fun rJ xG => ?_);obtain rfl := Zj.1 xG;refine Ze .plain rfl (Gl (g := oD) 3036 (xs := ([(x0).Total] : List Int)) (vs := [.int .i64 ((x0).Total)]) Try.underlying31 Try.sizeOf3 Try.zeroValue3 rfl rfl (.cons rfl .nil) (RVs.cons (Zj.2 rfl) RVs.nil) rfl rfl fun yG sJ zG hs o150 aH hxt hfl => ?_);have hfr := hfr.stp hs;have o0 := o0.stp hs rfl;have l5 := l5.stp hs rfl;have t5 := t5.stp hs rfl;have b2 := b2.stp hs rfl;have b6 := b6.stp hs rfl;obtain ⟨nB, eF, h⟩ := Ga h;refine Ze .plain rfl (Zp (g := yG) (vs := [zG]) en60 (.cons rfl .nil) (wk60 aH eF) fun cH nI vJ hs hr => ?_);have hfr := hfr.ext hs;have o0 := o0.ext hs;have l5 := l5.ext hs;have t5 := t5.ext hs;have b2 := b2.ext hs;have b6 := b6.ext hs;subst hr;refine Zw (.bool (!nB)) (Wh rfl) rfl ?_;refine Zg (.bool (!nB)) rfl rfl ?_;refine Zb ?_;obtain rfl := sinj h;exact hQ _ _ ⟨cH, hfr, rfl, b2, o0, l5, t5, rfl, b6, rfl⟩
    ·clear hx
     obtain ⟨zB, hfr, l8, n8, u2_0_153, u2_1_153, u2_2_153, v8, g8, mB⟩ := hR;rcases Zt h with ⟨cC, h⟩ | ⟨cC, h⟩
     ·refine Tv (Eq.trans (show ev _ _ = .bool (i6) from mB) (congrArg Value.bool cC)) ?_
      refine Zf (Za (Ze .plain rfl (Tk (g := zB) Try.isAgg119 Try.sizeOf119 v8 g8 fun gH jH => ?_)));refine Ze .plain rfl (Gm (g := zB) (v := gH) Try.sizeOf119 l8 n8 rfl jH fun xJ zJ hs b156 cb => ?_);clear cb;have hfr := hfr.stp hs;refine Zg (.int .i64 (2)) rfl rfl ?_;refine Zb (Zd (Gq (Wd ?_)));refine Tz ?_;obtain rfl := sinj h;obtain ⟨ad157, cv157, hp157, rF, cr157⟩ := Ql Try.isAgg119 Try.sizeOf119 b156;exact Qy rfl rfl ((show _ = p2 from l8).trans hp157) rF (show _ = .int .i64 (2) from rfl) ⟨_, hfr, _, _, rfl, cr157, rfl⟩
     ·refine Tj (Eq.trans (show ev _ _ = .bool (i6) from mB) (congrArg Value.bool cC)) ?_
      refine Zf (Za (Ze .plain rfl (Tk (g := zB) Try.isAgg119 Try.sizeOf119 v8 g8 fun kH lH => ?_)));obtain ⟨lB, sF, h⟩ := Ga h;refine Ze .plain rfl (Zp (g := zB) (vs := [kH]) en77 (.cons rfl .nil) (wk77 lH sF) fun yD pI aK hs hr => ?_);have hfr := hfr.ext hs;have u2_0_153 := u2_0_153.ext hs;have u2_1_153 := u2_1_153.ext hs;have u2_2_153 := u2_2_153.ext hs;have n8 := n8.ext hs;have g8 := g8.ext hs;have mH := hr;refine Zw (.int .i64 ((lB).length : Int)) (Tu Try.underlying140 rfl mH) rfl ?_;refine Gg (.bool ((decide (((lB).length : Int) > (12 : Int))))) rfl rfl rfl rfl ?_;refine Zg (.bool ((decide (((lB).length : Int) > (12 : Int))))) rfl rfl ?_;refine Zb (Zd ?_);rcases Zt h with ⟨uC, h⟩ | ⟨uC, h⟩
      ·refine Tn uC rfl ?_
       refine Zf (Za (Ze .plain rfl (Tk (g := yD) Try.isAgg119 Try.sizeOf119 v8 g8 fun nH oH => ?_)));refine Ze .plain rfl (Gm (g := yD) (v := nH) Try.sizeOf119 l8 n8 rfl oH fun bK cK hs b163 cb => ?_);clear cb;have hfr := hfr.stp hs;refine Zg (.int .i64 (8)) rfl rfl ?_;refine Zb (Zd (Gq (Wd ?_)));refine Tz ?_;obtain rfl := sinj h;obtain ⟨ad164, cv164, hp164, tF, cr164⟩ := Ql Try.isAgg119 Try.sizeOf119 b163;exact Qy rfl rfl ((show _ = p2 from l8).trans hp164) tF (show _ = .int .i64 (8) from rfl) ⟨_, hfr, _, _, rfl, cr164, rfl⟩
      ·refine To uC rfl ?_
       exact Zu (Ts (Zd (xF ((⟨⟨[], [], [], 0⟩⟩ : Gu)) _ _ ⟨yD, hfr, l8, n8, u2_0_153, u2_1_153, u2_2_153, v8, g8⟩ h)))
 ·rintro iE qI dK ⟨oE, hfr, vC, rE, u2_0_165, u2_1_165, u2_2_165, uE, vE⟩ h
  refine Zf (Za (Ze .plain rfl (Tk (g := oE) Try.isAgg119 Try.sizeOf119 uE vE fun pH qH => ?_)));refine Ze .plain rfl (Gm (g := oE) (v := pH) Try.sizeOf119 vC rE rfl qH fun lK mK hs b167 cb => ?_);clear cb;have hfr := hfr.stp hs;refine Zg (.int .i64 (0)) rfl rfl ?_;refine Zb (Zd (Gq ?_));obtain rfl := sinj h;obtain ⟨ad168, cv168, hp168, uF, cr168⟩ := Ql Try.isAgg119 Try.sizeOf119 b167;exact Qy rfl rfl ((show _ = p2 from vC).trans hp168) uF (show _ = .int .i64 (0) from rfl) ⟨_, hfr, _, _, rfl, cr168, rfl⟩
def f4 (x0 : Qp) : Option (ChainBelt × Int) :=
 jn (σ := ChainBelt) (fun oD =>
  Option.bind (α := ChainBelt) (
   lp (σ := ChainBelt × Int) (fun k94 (n9, o0) =>
    bif (decide (o0 < (((x0).Rows).length : Int))) then
     Option.bind (α := ChainBelt) (
      (idx ((x0).Rows) o0).bind fun i6 =>
      (apnd 24 ((n9).Cards) (([(⟨o0, i6, false⟩ : Gc)] : List Gc))).bind fun cC =>
      some ({ n9 with Cards := cC })
      ) fun g8 =>
     k94 (g8, (w64 (o0 + (1 : Int))))
    else
     some (n9)
    ) big ({ oD with Hooks := (x0).Hooks }, (0 : Int))
   ) fun v8 =>
  some (v8, (0 : Int))
  ) fun vF =>
 (f17 ((x0).Hooks)).bind fun yD =>
 bif (!yD) then
  some ((⟨0, []⟩ : ChainBelt), (2 : Int))
 else
  bif (decide ((((x0).Rows).length : Int) > (60 : Int))) then
   some ((⟨0, []⟩ : ChainBelt), (5 : Int))
  else
   bif ((((x0).Rows).length : Int) == (0 : Int)) then
    some ((⟨0, []⟩ : ChainBelt), (7 : Int))
   else
    (f18 ((x0).Hooks) ((x0).Rows)).bind fun zD =>
    bif (!zD) then
     some ((⟨0, []⟩ : ChainBelt), (2 : Int))
    else
     vF ((⟨0, []⟩ : ChainBelt))
theorem en4 : Enters Try.prog 4 := enters_of Try.func4 (by kernel_rfl) rfl
theorem wk4 {gI : Gh} {wI : World} {x0 : Qp} {up0 : Value} (rp0 : RV gI.m wI x0 up0) {r : ChainBelt × Int} (h : f4 x0 = some r) : Fn Try.prog 4 #[up0] gI wI (fun m w v => ∃ y0 y1, v = .tuple #[y0, y1] ∧ RV m w (r.1) y0 ∧ y1 = .int .i64 (r.2)) := by
 unfold f4 at h;refine Gw Try.func4 rfl (Nat.le_of_ble_eq_true rfl) fun g0 hm hfr => ?_;have rp0 : RV g0.m wI x0 up0 := hm ▸ rp0;show E _ 54 none _ _ _ _ _;refine Zf (Za (Ze .plain rfl (Qs (g := g0) rfl rp0 fun g1 w1 p1 hs q1 => ?_)));have hfr := hfr.ext hs;refine Ze .plain rfl (Ti (g := g1) 2002 (⟨0, []⟩ : ChainBelt) Try.zeroValue27 (fun m w => ⟨_, (Gv Zv Tr), rfl⟩) fun g2 w2 p2 hs b2 cb => ?_);have hfr := hfr.stp hs;have q1 := q1.stp hs;have lB : OSF 2002 60201 1 g2 w2 60 27 ([] : List Gc) p2 := cb.osf (by rfl);clear cb;refine Zg (.int .i64 (0)) rfl rfl ?_;refine Zb (Zd (Zf (Za (Zw (Gk p1 0) (Zc Li rfl (PT.ptr q1)) rfl ?_))));have q3 := Zm (Uh).1 q1;refine Ze .plain rfl (Gf (g := g2) Try.isAgg3 Try.sizeOf3 rfl q3 fun v4 r4 => ?_);obtain rfl := Zj.1 r4;refine Zg (.int .i64 ((x0).Hooks)) rfl rfl ?_;refine Zb (Zd (Zq h (fun (s : ChainBelt) e w => ∃ (g : Gh) , Fr gI wI g w ∧ e 1 = p1 ∧ PT g.m w (x0 : Qp) p1 ∧ e 2 = p2 ∧ OB 2002 g w 27 (s : ChainBelt) p2 ∧ OSF 2002 60201 1 g w 60 27 ((s).Cards) p2) (fun X31 vF bG h => ?_) ?_))
 ·refine Zr ?_
  refine Zf (Za (Zn (.int .i64 ((x0).Hooks)) rfl rfl ?_));obtain ⟨yD, cG, h⟩ := Ga h;refine Ze .plain rfl (Zp (g := g2) (vs := [.int .i64 ((x0).Hooks)]) en17 (.cons rfl .nil) (wk17  cG) fun n8 nI xJ hs hr => ?_);have hfr := hfr.ext hs;have q1 := q1.ext hs;have lB := lB.ext hs;have b2 := b2.ext hs;subst hr;refine Zw (.bool (!yD)) (Wh rfl) rfl ?_;refine Zg (.bool (!yD)) rfl rfl ?_;refine Zb (Zd ?_);rcases Zt h with ⟨uC, h⟩ | ⟨uC, h⟩
  ·refine Tn uC rfl ?_
   refine Zf (Za (Ze .plain rfl (Tk (g := n8) Try.isAgg27 Try.sizeOf27 rfl b2 fun kH lH => ?_)));refine Ze .plain rfl (Gm (g := n8) (v := kH) Try.sizeOf27 rfl b2 rfl lH fun zJ aK hs b36 cb => ?_);clear cb;have hfr := hfr.stp hs;refine Zg (.int .i64 (2)) rfl rfl ?_;refine Zb (Zd (Gq (Wd ?_)));refine Tz ?_;obtain rfl := sinj h;obtain ⟨ad37, cv37, hp37, eG, cr37⟩ := Ql Try.isAgg27 Try.sizeOf27 b36;exact Qy rfl rfl ((show _ = p2 from rfl).trans hp37) eG (show _ = .int .i64 (2) from rfl) ⟨_, hfr, _, _, rfl, cr37, rfl⟩
  ·refine To uC rfl ?_
   refine Zf (Za (Zw (Gk p1 1) (Zc Xs rfl (PT.ptr q1)) rfl ?_));have mH := Zm (Hs).1 q1;refine Ze .plain rfl (Gf (g := n8) Try.isAgg31 Try.sizeOf31 rfl mH fun bK nH => ?_);refine Zw (.int .i64 (((x0).Rows).length : Int)) (Tu Try.underlying31 rfl nH) rfl ?_;refine Zw (.bool ((decide ((((x0).Rows).length : Int) > (60 : Int))))) (Gj rfl rfl rfl) rfl ?_;refine Zw (.bool ((decide ((((x0).Rows).length : Int) > (60 : Int))))) (Tb rfl) rfl ?_;refine Zb (Zd ?_);rcases Zt h with ⟨vC, h⟩ | ⟨vC, h⟩
   ·refine Tn vC rfl ?_
    refine Zf (Za (Ze .plain rfl (Tk (g := n8) Try.isAgg27 Try.sizeOf27 rfl b2 fun oH pH => ?_)));refine Ze .plain rfl (Gm (g := n8) (v := oH) Try.sizeOf27 rfl b2 rfl pH fun cK dK hs b42 cb => ?_);clear cb;have hfr := hfr.stp hs;refine Zg (.int .i64 (5)) rfl rfl ?_;refine Zb (Zd (Gq (Wd ?_)));refine Tz ?_;obtain rfl := sinj h;obtain ⟨ad43, cv43, hp43, gG, cr43⟩ := Ql Try.isAgg27 Try.sizeOf27 b42;exact Qy rfl rfl ((show _ = p2 from rfl).trans hp43) gG (show _ = .int .i64 (5) from rfl) ⟨_, hfr, _, _, rfl, cr43, rfl⟩
   ·refine To vC rfl ?_
    refine Zf (Za (Zw (Gk p1 1) (Zc Xs rfl (PT.ptr q1)) rfl ?_));have qH := Zm (Hs).1 q1;refine Ze .plain rfl (Gf (g := n8) Try.isAgg31 Try.sizeOf31 rfl qH fun lK sH => ?_);refine Zw (.int .i64 (((x0).Rows).length : Int)) (Tu Try.underlying31 rfl sH) rfl ?_;refine Gg (.bool (((((x0).Rows).length : Int) == (0 : Int)))) rfl rfl rfl rfl ?_;refine Zg (.bool (((((x0).Rows).length : Int) == (0 : Int)))) rfl rfl ?_;refine Zb (Zd ?_);rcases Zt h with ⟨bD, h⟩ | ⟨bD, h⟩
    ·refine Tn bD rfl ?_
     refine Zf (Za (Ze .plain rfl (Tk (g := n8) Try.isAgg27 Try.sizeOf27 rfl b2 fun tH uH => ?_)));refine Ze .plain rfl (Gm (g := n8) (v := tH) Try.sizeOf27 rfl b2 rfl uH fun mK nK hs b48 cb => ?_);clear cb;have hfr := hfr.stp hs;refine Zg (.int .i64 (7)) rfl rfl ?_;refine Zb (Zd (Gq (Wd ?_)));refine Tz ?_;obtain rfl := sinj h;obtain ⟨ad49, cv49, hp49, iG, cr49⟩ := Ql Try.isAgg27 Try.sizeOf27 b48;exact Qy rfl rfl ((show _ = p2 from rfl).trans hp49) iG (show _ = .int .i64 (7) from rfl) ⟨_, hfr, _, _, rfl, cr49, rfl⟩
    ·refine To bD rfl ?_
     refine Zf (Za (Zn (.int .i64 ((x0).Hooks)) rfl rfl ?_));refine Zw (Gk p1 1) (Zc Xs rfl (PT.ptr q1)) rfl ?_;have xH := Zm (Hs).1 q1;refine Ze .plain rfl (Gf (g := n8) Try.isAgg31 Try.sizeOf31 rfl xH fun yH zH => ?_);obtain ⟨zD, jG, h⟩ := Ga h;refine Ze .plain rfl (Zp (g := n8) (vs := [.int .i64 ((x0).Hooks), yH]) en18 (.cons rfl (.cons rfl .nil)) (wk18 zH jG) fun vE pI oK hs hr => ?_);have hfr := hfr.ext hs;have q1 := q1.ext hs;have lB := lB.ext hs;have b2 := b2.ext hs;subst hr;refine Zw (.bool (!zD)) (Wh rfl) rfl ?_;refine Zg (.bool (!zD)) rfl rfl ?_;refine Zb (Zd ?_);rcases Zt h with ⟨cD, h⟩ | ⟨cD, h⟩
     ·refine Tn cD rfl ?_
      refine Zf (Za (Ze .plain rfl (Tk (g := vE) Try.isAgg27 Try.sizeOf27 rfl b2 fun aI bI => ?_)));refine Ze .plain rfl (Gm (g := vE) (v := aI) Try.sizeOf27 rfl b2 rfl bI fun pK qK hs b56 cb => ?_);clear cb;have hfr := hfr.stp hs;refine Zg (.int .i64 (2)) rfl rfl ?_;refine Zb (Zd (Gq (Wd ?_)));refine Tz ?_;obtain rfl := sinj h;obtain ⟨ad57, cv57, hp57, kG, cr57⟩ := Ql Try.isAgg27 Try.sizeOf27 b56;exact Qy rfl rfl ((show _ = p2 from rfl).trans hp57) kG (show _ = .int .i64 (2) from rfl) ⟨_, hfr, _, _, rfl, cr57, rfl⟩
     ·refine To cD rfl ?_
      exact Zu (Ts (Zd (bG ((⟨0, []⟩ : ChainBelt)) _ _ ⟨vE, hfr, rfl, q1, rfl, b2, lB⟩ h)))
 ·rintro oD qI sK ⟨xF, hfr, aE, l8, bE, iE, u2_1_58⟩ h
  refine Zf (Za (Zw (Gk p1 0) (Zc Li aE (PT.ptr l8)) rfl ?_));have dI := Zm (Uh).1 l8;refine Ze .plain rfl (Gf (g := xF) Try.isAgg3 Try.sizeOf3 rfl dI fun tK iI => ?_);obtain rfl := Zj.1 iI;refine Zw (Gk p2 0) (Zc Mu bE (OB.ptr iE)) rfl ?_;refine Ze .plain rfl (Jx (g := xF) Uu Try.sizeOf3 rfl iE rfl (Zj.2 rfl) fun yF uK hs b62 rst hos => ?_);have u2_1_58 := u2_1_58.rest hs rst;clear rst hos;have hfr := hfr.stp hs;have l8 := l8.stp hs;refine Zb (Zd ?_);obtain ⟨v8, hx, h⟩ := Ga h;refine Gp (fun e w => ∃ (g : Gh) , Fr gI wI g w ∧ e 2 = p2 ∧ OB 2002 g w 27 (v8 : ChainBelt) p2 ∧ OSF 2002 60201 1 g w 60 27 ((v8).Cards) p2) (fun Q' hQ => ?_) (fun lI sI hR => ?_)
  ·replace h := hx
   clear hx;refine Zf (Za (Zw (Gk p1 1) (Zc Xs aE (PT.ptr l8)) rfl ?_));have jI := Zm (Hs).1 l8;refine Ze .plain rfl (Gf (g := yF) Try.isAgg31 Try.sizeOf31 rfl jI fun nB aG => ?_);refine Zw (.int .i64 (((x0).Rows).length : Int)) (Tu Try.underlying31 rfl aG) rfl ?_;refine Zn (.int .i64 (0)) rfl rfl ?_;refine Zb (Zd (Zr ?_));refine Wv h (fun (s : ChainBelt × Int) e w => ∃ (g : Gh) , Fr gI wI g w ∧ e 2 = p2 ∧ OB 2002 g w 27 (s.1 : ChainBelt) p2 ∧ OSF 2002 60201 1 g w 60 27 ((s.1).Cards) p2 ∧ e 37 = nB ∧ RV g.m w ((x0).Rows : List Int) nB ∧ e 38 = .int .i64 ((((x0).Rows).length : Int)) ∧ e 39 = .int .i64 (s.2)) ⟨yF, hfr, bE, b62, u2_1_58, rfl, aG, rfl, rfl⟩ (fun X94 k94 lG => ?_);rintro ⟨n9, o0⟩ jJ kI ⟨oB, hfr, aB, t5, u2_1_95, vB, l5, yB, l9⟩ h;refine Zf (Za (Zw (.bool ((decide (o0 < (((x0).Rows).length : Int))))) (Gj l9 yB rfl) rfl ?_));refine Zb (Zd (Zf ?_));rcases Zt h with ⟨lD, h⟩ | ⟨lD, h⟩
   ·refine Tn lD rfl ?_
    refine Zu (Zd ?_);obtain ⟨g8, hx, h⟩ := Ga h;refine Gp (fun e w => ∃ (g : Gh) , Fr gI wI g w ∧ e 2 = p2 ∧ OB 2002 g w 27 (g8 : ChainBelt) p2 ∧ OSF 2002 60201 1 g w 60 27 ((g8).Cards) p2 ∧ e 37 = nB ∧ RV g.m w ((x0).Rows : List Int) nB ∧ e 38 = .int .i64 ((((x0).Rows).length : Int)) ∧ e 39 = .int .i64 (o0)) (fun Q' hQ => ?_) (fun mI kJ hR => ?_)
    ·replace h := hx
     clear hx;refine Zr ?_;refine Zf (Za (Zo l9 rfl ?_));obtain ⟨i6, lE, h⟩ := Ga h;refine Zw (Ty nB o0 1) (Zh (α := Int) Try.underlying31 Try.sizeOf3 vB l5 l9 lE) rfl ?_;have mG := Tp l5 lE;refine Ze .plain rfl (Gf (g := oB) Try.isAgg3 Try.sizeOf3 rfl mG fun lJ sG => ?_);obtain rfl := Zj.1 sG;refine Zg (.int .i64 (o0)) rfl rfl ?_;refine Zg (.int .i64 (i6)) rfl rfl ?_;refine Zb (Zd (Za (Zw (Gk p2 1) (Zc Wm aB (OB.ptr t5)) rfl ?_)));refine Ze .plain rfl (Pz (g := oB) Tc.1 Try.isAgg25 Try.sizeOf25 rfl t5 u2_1_95 fun mJ nD o112 => ?_);refine Zn (.int .i64 (o0)) rfl rfl ?_;refine Zn (.int .i64 (i6)) rfl rfl ?_;have xE : RV oB.m kI (⟨o0, i6, false⟩ : Gc) (.agg (Qd [[.int .i64 0], [.int .i64 0], [.bool false]] [(0, .int .i64 (o0)), (1, .int .i64 (i6))]).flatten.toArray) := Qj rfl (Te (rfl) (Te (rfl) (Qh (Hp))));generalize sF : (Value.agg (Qd [[.int .i64 0], [.int .i64 0], [.bool false]] [(0, .int .i64 (o0)), (1, .int .i64 (i6))]).flatten.toArray) = yE at xE;refine Zw yE (sF ▸ Qu (vs := [(0, .int .i64 (o0)), (1, .int .i64 (i6))]) [[.int .i64 0], [.int .i64 0], [.bool false]] Bw rfl rfl (.cons rfl (.cons rfl .nil)) ⟨⟨_, rfl, rfl⟩, ⟨⟨_, rfl, rfl⟩, trivial⟩⟩) rfl ?_;refine Ze .plain rfl (Gl (g := oB) 3049 (xs := ([(⟨o0, i6, false⟩ : Gc)] : List Gc)) (vs := [yE]) Try.underlying25 Try.sizeOf60 Try.zeroValue60 rfl rfl (.cons rfl .nil) (RVs.cons xE RVs.nil) rfl rfl fun xG nJ oJ hs o114 yG hxt hfl => ?_);have hfr := hfr.stp hs;have t5 := t5.stp hs rfl;have l5 := l5.stp hs;have nD := nD.stp hs;have o112 := o112.stp hs rfl;obtain ⟨cC, tF, h⟩ := Ga h;refine Ze .plain rfl (Kg (g := xG) (i := 60201) Try.underlying25 Mg rfl rfl o112 nD rfl yG tF fun zG pJ qJ hs o115 zE _ => ?_);have hfr := hfr.stp hs;have t5 := t5.stp hs rfl;have l5 := l5.stp hs;refine Zw (Gk p2 1) (Zc Wm aB (OB.ptr t5)) rfl ?_;refine Ze .plain rfl (Jx (g := zG) Tc Try.sizeOf25 rfl t5 rfl zE fun aH rJ hs b118 rst hos => ?_);have cF := hos _ _ 60201 60 (cC : List Gc) (Yt zE) rfl o115;clear rst hos;have hfr := hfr.stp hs;have l5 := l5.stp hs;refine Zb (Ts ?_);obtain rfl := sinj h;exact hQ _ _ ⟨aH, hfr, aB, b118, cF, vB, l5, yB, l9⟩
    ·clear hx
     obtain ⟨cH, hfr, dF, eF, u2_1_119, mE, oE, rE, uE⟩ := hR;refine Za (Gg (.int .i64 ((w64 (o0 + (1 : Int))))) uE rfl rfl rfl ?_);refine Zn (.int .i64 ((w64 (o0 + (1 : Int))))) rfl rfl ?_;exact Zb (Zd (lG (g8, (w64 (o0 + (1 : Int)))) _ _ ⟨cH, hfr, dF, eF, u2_1_119, mE, oE, rE, rfl⟩ h))
   ·refine To lD rfl ?_
    refine Qc ?_;refine Tf ?_;refine Tf ?_;refine Tl ?_;obtain rfl := sinj h;exact hQ _ _ ⟨oB, hfr, aB, t5, u2_1_95⟩
  ·clear hx
   obtain ⟨rF, hfr, mB, zB, u2_1_120⟩ := hR;refine Zf (Za (Ze .plain rfl (Tk (g := rF) Try.isAgg27 Try.sizeOf27 mB zB fun gH jH => ?_)));refine Ze .plain rfl (Gm (g := rF) (v := gH) Try.sizeOf27 mB zB rfl jH fun sJ vJ hs b122 cb => ?_);clear cb;have hfr := hfr.stp hs;refine Zg (.int .i64 (0)) rfl rfl ?_;refine Zb (Zd (Gq ?_));obtain rfl := sinj h;obtain ⟨ad123, cv123, hp123, uF, cr123⟩ := Ql Try.isAgg27 Try.sizeOf27 b122;exact Qy rfl rfl ((show _ = p2 from mB).trans hp123) uF (show _ = .int .i64 (0) from rfl) ⟨_, hfr, _, _, rfl, cr123, rfl⟩
def f24 (x0 : Gd) : Option ((List (List Int))) :=
 (mks 8 (0 : Int) ((((((x0).belt).ChainBelt).Cards).length : Int))).bind fun y6 =>
 Option.bind (α := (List (List Int))) (
  (f43 ((x0).cloth)).bind fun bE =>
  (bE ((List Int) × (List (List Int))) (fun (vC, bD) (nB, yG) =>
   (f44 (([(1048576 : Int)] : List Int)) ((((((x0).belt).ChainBelt).Cards).length : Int))).bind fun yD =>
   Option.bind (α := (List Int)) (
    lp (σ := (List Int) × Int) (fun sI (eG, o0) =>
     bif (decide (o0 < ((yD).length : Int))) then
      Option.bind (α := (List Int)) (
       lp (σ := (List Int) × Int) (fun jJ (zD, t5) =>
        bif (decide (t5 < (3 : Int))) then
         Option.bind (α := (List Int)) (
          (f45 x0 nB o0).bind fun kJ =>
          bif kJ then
           (idx zD o0).bind fun bG =>
           (f27 t5).bind fun xE =>
           (f22 ((x0).belt) o0 t5).bind fun cG =>
           (idx vC cG).bind fun dF =>
           (idx zD o0).bind fun gN =>
           some ((List.set zD (Int.toNat o0) ((Ha bG (w64 (xE + dF))))))
          else
           some (zD)
          ) fun eF =>
         jJ (eF, (w64 (t5 + (1 : Int))))
        else
         some (zD)
        ) big (eG, (0 : Int))
       ) fun rF =>
      sI (rF, (w64 (o0 + (1 : Int))))
     else
      some (eG)
     ) big (yD, (0 : Int))
    ) fun iE =>
   (apnd 24 bD (([iE] : List (List Int)))).bind fun lJ =>
   some (true, (iE, lJ))
   ) (y6, ([y6] : List (List Int)))).bind fun (pK, zG) =>
  some (zG)
  ) fun gG =>
 (f46 gG).bind fun mJ =>
 some (mJ)
theorem en24 : Enters Try.prog 24 := enters_of Try.func24 (by kernel_rfl) rfl
theorem wk24 {gI : Gh} {wI : World} {x0 : Gd} {up0 : Value} (rp0 : RV gI.m wI x0 up0) {r : (List (List Int))} (h : f24 x0 = some r) : Fn Try.prog 24 #[up0] gI wI (fun m w v => RV m w (r) v) := by
 unfold f24 at h;refine Ae Try.func24 rfl (Nat.le_of_ble_eq_true rfl) fun g0 hm hfr => ?_;have hmk : MkF g0 wI [] := MkF.start;have rp0 : RV g0.m wI x0 up0 := hm ▸ rp0;show E _ 70 none _ _ _ _ _;refine Zf (Za (Ze .plain rfl (Qs (g := g0) rfl rp0 fun g1 w1 p1 hs q1 => ?_)));have hfr := hfr.ext hs;have hmk := hmk.ext hs;refine Zg (.slice none 0 0) rfl rfl ?_;refine Zb (Zd (Zf (Za (Zw (Gk p1 0) (Zc Ug rfl (PT.ptr q1)) rfl ?_))));have q2 := Zm (Wa).1 q1;refine Zw (Gk (Gk p1 0) 0) (Zc Jr rfl (PT.ptr q2)) rfl ?_;have q3 := Zm (Qe).1 q2;refine Zw (Gk (Gk (Gk p1 0) 0) 1) (Zc Wm rfl (PT.ptr q3)) rfl ?_;have q4 := Zm (Tc).1 q3;refine Ze .plain rfl (Gf (g := g1) Try.isAgg25 Try.sizeOf25 rfl q4 fun v5 r5 => ?_);refine Zw (.int .i64 (((((x0).belt).ChainBelt).Cards).length : Int)) (Tu Try.underlying25 rfl r5) rfl ?_;obtain ⟨y6, yO, h⟩ := Ga h;refine Ze .plain rfl (Ux (g := g1) 9014 (0 : Int) rfl Try.underlying31 Hi rfl (fun _ _ => rfl) rfl rfl yO fun g7 w7 v7 hs b7 => ?_);have hfr := hfr.stp hs;have hmk := hmk.stp hs;have q1 := q1.stp hs;refine Ze .plain rfl (Ti (g := g7) 2003 ([] : List Int) Try.zeroValue31 (fun m w => ⟨_, Tr, rfl⟩) fun g8 w8 p8 hs b8 cb => ?_);have hfr := hfr.stp hs;have hmk := hmk.stp hs;have q1 := q1.stp hs;have b7 := b7.stp hs rfl;have vQ : OSF 2003 60300 0 g8 w8 3 31 ([] : List Int) p8 := cb.osf (by rfl);clear cb;obtain ⟨gp10, hs, rp10⟩ := OM.pub b7;have hfr := hfr.stp hs;have hmk := hmk.stp hs;have q1 := q1.stp hs;have b8 := b8.stp hs rfl;refine Ze .plain rfl (Gm (g := gp10) (v := v7) Try.sizeOf31 rfl b8 rfl rp10 fun g9 w9 hs b9 cb => ?_);clear cb;have hfr := hfr.stp hs;have hmk := hmk.stp hs;have q1 := q1.stp hs;refine Zb (Zd (Zf (Za (Ze .plain rfl (Tk (g := g9) Try.isAgg31 Try.sizeOf31 rfl b9 fun zO aP => ?_)))));refine Ze .plain rfl (Xx (g := g9) 4016 (xs := ([y6] : List (List Int))) (vs := [zO]) Try.underlying76 Try.sizeOf31 Try.zeroValue31 rfl rfl (.cons rfl .nil) (RVs.cons aP RVs.nil) rfl rfl fun bP xQ mO hs b12 _ => ?_);have hfr := hfr.stp hs;have hmk := hmk.stp hs;have q1 := q1.stp hs;have b9 := b9.stp hs rfl;refine Ze .plain rfl (Ti (g := bP) 2004 (⟨.slice none 0 0, rfl⟩ : Fv) Try.zeroValue76 (fun _ _ => Mk) fun nO cP lE hs b13 cb => ?_);clear cb;have hfr := hfr.stp hs;have hmk := hmk.stp hs;have q1 := q1.stp hs;have b9 := b9.stp hs rfl;have b12 := b12.stp hs rfl;have z13 : OA 4004 nO cP 31 ([] : List (List Int)) (.slice none 0 0) := OA.nil;have on14 := Ah (b12.toM);refine Ze .plain rfl (Gm (g := nO) (v := mO) (a' := (⟨mO, on14⟩ : Fv)) Try.sizeOf76 rfl b13 rfl (Uf.2 rfl) fun oO yQ hs b14 cb => ?_);clear cb;have hfr := hfr.stp hs;have hmk := hmk.stp hs;have q1 := q1.stp hs;have b9 := b9.stp hs rfl;have b12 := b12.stp hs rfl;refine Zb (Zd ?_);obtain ⟨gG, hx, h⟩ := Ga h;refine Mz (fun e ds w => ∃ (g : Gh) , Fr gI wI g w ∧ MkF g w ds ∧ e 4 = lE ∧ BXA 2004 4016 g w 31 76 (gG : List (List Int)) lE) (fun Q' hQ => ?_) (fun dP rO pP hR => ?_)
 ·replace h := hx
  clear hx;refine Zf (Za (Zw (Gk p1 3) (Zc Be rfl (PT.ptr q1)) rfl ?_));have iN := Zm (Kt).1 q1;refine Ze .plain rfl (Gf (g := oO) Try.isAgg31 Try.sizeOf31 rfl iN fun jN kN => ?_);obtain ⟨bE, kM, h⟩ := Ga h;refine Ze .plain rfl (Zp (g := oO) (vs := [jN]) en43 (.cons rfl .nil) (wk43 kN kM) fun sP eP uC hs hr => ?_);have hfr := hfr.ext hs;have hmk := hmk.ext hs;have q1 := q1.ext hs;have b9 := b9.ext hs;have b14 := b14.ext hs;have b12 := b12.ext hs;have nJ := hr;refine Zb (Zd (Zr ?_));have hB0 := hfr.size;have hmk0 := hmk;obtain ⟨⟨pK, zG⟩, hφ, h⟩ := Ga h;refine Sf (σ := ((List Int) × (List (List Int)))) (s0 := (y6, ([y6] : List (List Int)))) 10 rfl (fun _ => 0) [] (fun (s : (List Int) × (List (List Int))) (g : Gh) (w : World) => Fr gI wI g w ∧ MkF g w [] ∧ PT g.m w (x0 : Gd) p1 ∧ OB 2003 g w 31 (s.1 : List Int) p8 ∧ BXA 2004 4016 g w 31 76 (s.2 : List (List Int)) lE ∧ ItV Try.prog (RA2 (α := Int) (β := Int)) bE uC g.m w) rfl nJ hφ (fun _ _ _ _ => rfl) rfl Ib rfl (fun _ _ _ _ _ hx hR => by obtain ⟨hfr, hmk, z2, z3, z4, z5⟩ := hR; exact ⟨hfr.ist hx hB0, hmk.ist hx, z2.ist hx, z3.ist hx, z4.ist hx, z5.ist hx⟩) (fun _ _ _ _ _ hx hR => by obtain ⟨hfr, hmk, z2, z3, z4, z5⟩ := hR; exact ⟨hfr.stp hx, hmk.stp hx, z2.stp hx, z3.stp hx rfl, z4.stp hx rfl, z5.stp hx⟩) ⟨hfr, hmk, q1, b9, ⟨_, b14, b12⟩, nJ⟩ (fun _ h => by cases h) ?_ ?_
  ·intro cF mE s x b s2 yE sF vs hsz h hR hrec_0 zH hrd
   obtain ⟨vC, bD⟩ := s;obtain ⟨hfr, hmk, oB, cD, ⟨n9, lD, nD⟩, cC⟩ := hR;obtain ⟨nB, yG⟩ := x;obtain ⟨qK, sK, rfl, aI, bI⟩ := ra2_get hrd;obtain rfl : qK = .int .i64 (nB) := Zj.1 aI;obtain rfl : sK = .int .i64 (yG) := Zj.1 bI;have l5 := RFr.refl yE sF;refine Za (Zg (.int .i64 (nB)) rfl rfl ?_);refine Zb (Zd ?_);obtain ⟨lN, hbr, hs, hrN⟩ := Sm hrec_0 zH;refine ⟨lN, hbr, ?_⟩;have hfr := hfr.stp hs;have hmk := hmk.stp hs;have l5 := l5.stp hs;have oB := oB.stp hs;have cD := cD.stp hs rfl;have lD := lD.stp hs rfl;have nD := nD.stp hs rfl;have cC := cC.stp hs;have hrec_0 := hrN;clear hbr hs hrN;refine Zr ?_;refine Zf (Za (Ze .plain rfl (Gl (g := yE) 3022 (xs := ([(1048576 : Int)] : List Int)) (vs := [.int .i64 (1048576)]) Try.underlying31 Try.sizeOf3 Try.zeroValue3 rfl rfl (.cons rfl .nil) (RVs.cons (Zj.2 rfl) RVs.nil) rfl rfl fun oJ tP mN hs o1495 nN hxt hfl => ?_)));have hfr := hfr.stp hs;have hmk := hmk.stp hs;have l5 := l5.stp hs;have hrec_0 := hrec_0.stp hs rfl;have oB := oB.stp hs;have cD := cD.stp hs rfl;have lD := lD.stp hs rfl;have nD := nD.stp hs rfl;have cC := cC.stp hs;refine Zw (Gk p1 0) (Zc Ug rfl (PT.ptr oB)) rfl ?_;have pJ := Zm (Wa).1 oB;refine Zw (Gk (Gk p1 0) 0) (Zc Jr rfl (PT.ptr pJ)) rfl ?_;have qJ := Zm (Qe).1 pJ;refine Zw (Gk (Gk (Gk p1 0) 0) 1) (Zc Wm rfl (PT.ptr qJ)) rfl ?_;have oN := Zm (Tc).1 qJ;refine Ze .plain rfl (Gf (g := oJ) Try.isAgg25 Try.sizeOf25 rfl oN fun uP pN => ?_);refine Zw (.int .i64 (((((x0).belt).ChainBelt).Cards).length : Int)) (Tu Try.underlying25 rfl pN) rfl ?_;obtain ⟨yD, pM, h⟩ := Ga h;refine Ze .plain rfl (Ra (g := oJ) (vs := [mN, .int .i64 (((((x0).belt).ChainBelt).Cards).length : Int)]) en44 (.cons rfl (.cons rfl .nil)) (v44_0 (iO := 9028) nN pM) fun qN gP n8 hs hr => ?_);have hfr := hfr.ext hs;have hmk := hmk.ext hs;have l5 := l5.ext hs;have hrec_0 := hrec_0.ext hs;have oB := oB.ext hs;have cD := cD.ext hs;have lD := lD.ext hs;have nD := nD.ext hs;have cC := cC.ext hs;have hm1500 := hr;refine Zg n8 rfl rfl ?_;refine Zb (Zd ?_);obtain ⟨iE, hx, h⟩ := Ga h;refine Gp (fun e w => ∃ (g : Gh) , Fr gI wI g w ∧ MkF g w [] ∧ RFr yE sF g w ∧ HB 10 g w cF (.loop { mE with state := .busy }) ∧ e 1 = p1 ∧ PT g.m w (x0 : Gd) p1 ∧ e 3 = p8 ∧ OB 2003 g w 31 (vC : List Int) p8 ∧ e 4 = lE ∧ Rk 2004 4016 g w 31 76 n9 n9.v (bD : List (List Int)) lE ∧ e 6 = n8 ∧ OM 9028 g w 3 (iE : List Int) n8 ∧ e 19 = uC ∧ ItV Try.prog (RA2 (α := Int) (β := Int)) bE uC g.m w) (fun Q' hQ => ?_) (fun iP vP hR => ?_)
   ·replace h := hx
    clear hx;refine Zf (Za (Zn n8 rfl rfl ?_));refine Zw (.int .i64 ((yD).length : Int)) (Rx Try.underlying31 rfl hm1500) rfl ?_;refine Zn (.int .i64 (0)) rfl rfl ?_;refine Zb (Zd (Zr ?_));refine Wv h (fun (s : (List Int) × Int) e w => ∃ (g : Gh) , Fr gI wI g w ∧ MkF g w [] ∧ RFr yE sF g w ∧ HB 10 g w cF (.loop { mE with state := .busy }) ∧ e 1 = p1 ∧ PT g.m w (x0 : Gd) p1 ∧ e 3 = p8 ∧ OB 2003 g w 31 (vC : List Int) p8 ∧ e 4 = lE ∧ Rk 2004 4016 g w 31 76 n9 n9.v (bD : List (List Int)) lE ∧ e 5 = .int .i64 (nB) ∧ e 6 = n8 ∧ OM 9028 g w 3 (s.1 : List Int) n8 ∧ e 19 = uC ∧ ItV Try.prog (RA2 (α := Int) (β := Int)) bE uC g.m w ∧ e 30 = .int .i64 (((yD).length : Int)) ∧ e 31 = .int .i64 (s.2)) ⟨qN, hfr, hmk, l5, hrec_0, rfl, oB, rfl, cD, rfl, ⟨lD, nD⟩, rfl, rfl, hm1500, rfl, cC, rfl, rfl⟩ (fun X1738 sI qM => ?_);rintro ⟨eG, o0⟩ jP xP ⟨rJ, hfr, hmk, l5, hrec_0, aH, cH, gH, jH, kH, ⟨lH, mH⟩, tK, nH, oH, jG, kG, lG, vF⟩ h;refine Zf (Za (Gg (.bool ((decide (o0 < ((yD).length : Int))))) vF lG rfl rfl ?_));refine Zb (Zd (Zf ?_));rcases Zt h with ⟨mG, h⟩ | ⟨mG, h⟩
    ·refine Tn mG rfl ?_
     refine Zu (Zd ?_);obtain ⟨rF, hx, h⟩ := Ga h;refine Gp (fun e w => ∃ (g : Gh) , Fr gI wI g w ∧ MkF g w [] ∧ RFr yE sF g w ∧ HB 10 g w cF (.loop { mE with state := .busy }) ∧ e 1 = p1 ∧ PT g.m w (x0 : Gd) p1 ∧ e 3 = p8 ∧ OB 2003 g w 31 (vC : List Int) p8 ∧ e 4 = lE ∧ Rk 2004 4016 g w 31 76 n9 n9.v (bD : List (List Int)) lE ∧ e 5 = .int .i64 (nB) ∧ e 6 = n8 ∧ OM 9028 g w 3 (rF : List Int) n8 ∧ e 19 = uC ∧ ItV Try.prog (RA2 (α := Int) (β := Int)) bE uC g.m w ∧ e 30 = .int .i64 (((yD).length : Int)) ∧ e 31 = .int .i64 (o0)) (fun Q' hQ => ?_) (fun kP yP hR => ?_)
     ·replace h := hx
      clear hx;refine Zr ?_;refine Zf (Za (Zo vF rfl ?_));refine Zg (.int .i64 (o0)) rfl rfl ?_;refine Zb (Zd (Zf (Za (Zn (.int .i64 (0)) rfl rfl ?_))));refine Zb (Zd (Zr ?_));refine Wv h (fun (s : (List Int) × Int) e w => ∃ (g : Gh) , Fr gI wI g w ∧ MkF g w [] ∧ RFr yE sF g w ∧ HB 10 g w cF (.loop { mE with state := .busy }) ∧ e 1 = p1 ∧ PT g.m w (x0 : Gd) p1 ∧ e 3 = p8 ∧ OB 2003 g w 31 (vC : List Int) p8 ∧ e 4 = lE ∧ Rk 2004 4016 g w 31 76 n9 n9.v (bD : List (List Int)) lE ∧ e 5 = .int .i64 (nB) ∧ e 6 = n8 ∧ OM 9028 g w 3 (s.1 : List Int) n8 ∧ e 7 = .int .i64 (o0) ∧ e 19 = uC ∧ ItV Try.prog (RA2 (α := Int) (β := Int)) bE uC g.m w ∧ e 30 = .int .i64 (((yD).length : Int)) ∧ e 31 = .int .i64 (o0) ∧ e 34 = .int .i64 (s.2)) ⟨rJ, hfr, hmk, l5, hrec_0, aH, cH, gH, jH, kH, ⟨lH, mH⟩, tK, nH, oH, rfl, jG, kG, lG, vF, rfl⟩ (fun X1857 jJ rM => ?_);rintro ⟨zD, t5⟩ lP zP ⟨tH, hfr, hmk, l5, hrec_0, oE, v8, tF, lB, iG, ⟨vB, yB⟩, uF, rE, mB, aE, xF, aB, yF, aG, zE⟩ h;refine Zf (Za (Gg (.bool ((decide (t5 < (3 : Int))))) zE rfl rfl rfl ?_));refine Zb (Zd (Zf ?_));rcases Zt h with ⟨sG, h⟩ | ⟨sG, h⟩
      ·refine Tn sG rfl ?_
       refine Zu (Zd ?_);obtain ⟨eF, hx, h⟩ := Ga h;refine Gp (fun e w => ∃ (g : Gh) , Fr gI wI g w ∧ MkF g w [] ∧ RFr yE sF g w ∧ HB 10 g w cF (.loop { mE with state := .busy }) ∧ e 1 = p1 ∧ PT g.m w (x0 : Gd) p1 ∧ e 3 = p8 ∧ OB 2003 g w 31 (vC : List Int) p8 ∧ e 4 = lE ∧ Rk 2004 4016 g w 31 76 n9 n9.v (bD : List (List Int)) lE ∧ e 5 = .int .i64 (nB) ∧ e 6 = n8 ∧ OM 9028 g w 3 (eF : List Int) n8 ∧ e 7 = .int .i64 (o0) ∧ e 19 = uC ∧ ItV Try.prog (RA2 (α := Int) (β := Int)) bE uC g.m w ∧ e 30 = .int .i64 (((yD).length : Int)) ∧ e 31 = .int .i64 (o0) ∧ e 34 = .int .i64 (t5)) (fun Q' hQ => ?_) (fun mP bQ hR => ?_)
       ·replace h := hx
        clear hx;refine Zr ?_;refine Zf (Za (Zo zE rfl ?_));refine Zg (.int .i64 (t5)) rfl rfl ?_;refine Zb (Zd (Zf (Za (Ze .plain rfl (Gf (g := tH) Try.isAgg73 Try.sizeOf73 oE v8 fun rN sN => ?_)))));refine Zo uF rfl ?_;refine Zo aE rfl ?_;obtain ⟨kJ, sM, h⟩ := Ga h;refine Ze .plain rfl (Zp (g := tH) (vs := [rN, .int .i64 (nB), .int .i64 (o0)]) en45 (.cons rfl (.cons rfl (.cons rfl .nil))) (wk45 sN sM) fun sJ nP cQ hs hr => ?_);have hfr := hfr.ext hs;have hmk := hmk.ext hs;have l5 := l5.ext hs;have hrec_0 := hrec_0.ext hs;have v8 := v8.ext hs;have lB := lB.ext hs;have vB := vB.ext hs;have yB := yB.ext hs;have mB := mB.ext hs;have aB := aB.ext hs;subst hr;refine Zb (Zd ?_);rcases Zt h with ⟨xG, h⟩ | ⟨xG, h⟩
        ·refine Tn xG rfl ?_
         obtain ⟨bG, uH, h⟩ := Ga h;refine Ww (x := .tmp 45) Try.isAgg3 Try.sizeOf3 mB uH fun dQ tN tM => ?_;obtain rfl := Zj.1 tN;obtain ⟨xE, uM, h⟩ := Ga h;refine Wt (x := .tmp 3) Try.isAgg31 Try.sizeOf31 lB fun vJ xJ vM => ?_;have uN := Zm (Wa).1 v8;refine Zs (x := .tmp 50) Try.isAgg66 Try.sizeOf66 uN fun zJ vN xM => ?_;obtain ⟨cG, bN, h⟩ := Ga h;obtain ⟨dF, xH, h⟩ := Ga h;have xN := Tp xJ xH;refine Zs (x := .tmp 55) Try.isAgg3 Try.sizeOf3 xN fun eQ yN cN => ?_;obtain rfl := Zj.1 yN;obtain ⟨gN, yH, h⟩ := Ga h;refine Tx (g := sJ) (n := 19) [(7, (fun v g w => v = .int .i64 (xE))), (13, (fun v g w => v = .int .i64 (cG)))] [0, 1, 2, 3, 4, 5, 6, 7, 8, 9, 10, 11, 12, 13, 14, 15, 16, 17, 18] rfl Qq (by kernel_rfl) (⟨fun _ => Wf _, fun _ => Wf _, trivial⟩) ?_;refine Zz n8 rfl rfl (Zk rE) ?_;refine Zz (.int .i64 (o0)) rfl rfl (Zk aE) ?_;refine Zz n8 rfl rfl (Zk rE) ?_;refine Zz (.int .i64 (o0)) rfl rfl (Zk aE) ?_;refine Zz (Ty n8 o0 1) rfl rfl (Gx (α := Int) Try.underlying31 Try.sizeOf3 rfl mB rfl uH) ?_;refine Tt (c := .int .i64 (bG)) rfl rfl .plain (fun _ _ h => ⟨h.ch, fun b hb _ => h.below.block b hb⟩) tM rfl ?_;refine Zz (.int .i64 (t5)) rfl rfl (Zk rfl) ?_;refine Ka (φ := fun v g w => v = .int .i64 (xE)) rfl rfl .plain (fun g w hd => Zp (g := g) (vs := [.int .i64 (t5)]) en27 (.cons rfl .nil) (wk27  uM) fun g' w' v hs hr => ⟨g', hs, hr⟩) (fun gQ hv => ?_);obtain ⟨_, _, _, rfl⟩ := hv;refine Tt (c := vJ) rfl rfl .plain (fun _ _ h => ⟨h.ch, fun b hb _ => h.below.block b hb⟩) vM tF ?_;refine Zz (Gk p1 0) rfl rfl (Zc Ug oE (PT.ptr v8)) ?_;refine Tt (c := zJ) rfl rfl .plain (fun _ _ h => h.ch) xM rfl ?_;refine Zz (.int .i64 (o0)) rfl rfl (Zk aE) ?_;refine Zz (.int .i64 (t5)) rfl rfl (Zk rfl) ?_;refine Ka (φ := fun v g w => v = .int .i64 (cG)) rfl rfl .plain (fun g w hd => Zp (g := g) (vs := [zJ, .int .i64 (o0), .int .i64 (t5)]) en22 (.cons rfl (.cons rfl (.cons rfl .nil))) (wk22 (vN.ext hd.1) bN) fun g' w' v hs hr => ⟨g', hs, hr⟩) (fun iQ hv => ?_);obtain ⟨_, _, _, rfl⟩ := hv;refine Zz (Ty vJ cG 1) rfl rfl (Zh (α := Int) Try.underlying31 Try.sizeOf3 rfl xJ rfl xH) ?_;refine Tt (c := .int .i64 (dF)) rfl rfl .plain (fun _ _ h => h.ch) cN rfl ?_;refine Zz (.int .i64 ((w64 (xE + dF)))) rfl rfl (Gj rfl rfl rfl) ?_;refine Zz (.int .i64 (Ha bG (w64 (xE + dF)))) rfl rfl (Mx rfl rfl) ?_;refine Zz (Ty n8 o0 1) rfl rfl (Gx (α := Int) Try.underlying31 Try.sizeOf3 rfl mB rfl yH) ?_;refine Kr fun zN jQ hs => ?_;have hfr := hfr.ext hs;have hmk := hmk.ext hs;have l5 := l5.ext hs;have hrec_0 := hrec_0.ext hs;have v8 := v8.ext hs;have lB := lB.ext hs;have vB := vB.ext hs;have yB := yB.ext hs;have mB := mB.ext hs;have aB := aB.ext hs;clear hs;refine Ze .plain rfl (Kz (g := zN) (α := Int) (a' := ((Ha bG (w64 (xE + dF))))) Try.sizeOf3 rfl mB yH rfl (Zj.2 rfl) fun aO kQ hs b1971 => ?_);have hfr := hfr.stp hs;have hmk := hmk.stp hs;have l5 := l5.stp hs;have hrec_0 := hrec_0.stp hs rfl;have v8 := v8.stp hs;have lB := lB.stp hs rfl;have vB := vB.stp hs rfl;have yB := yB.stp hs rfl;have aB := aB.stp hs;refine Zb (Ts ?_);obtain rfl := sinj h;exact hQ _ _ ⟨aO, hfr, hmk, l5, hrec_0, oE, v8, tF, lB, iG, ⟨vB, yB⟩, uF, rE, b1971, aE, xF, aB, yF, aG, zE⟩
        ·refine To xG rfl ?_
         refine Zu (Ts ?_);obtain rfl := sinj h;exact hQ _ _ ⟨sJ, hfr, hmk, l5, hrec_0, oE, v8, tF, lB, iG, ⟨vB, yB⟩, uF, rE, mB, aE, xF, aB, yF, aG, zE⟩
       ·clear hx
        obtain ⟨bO, hfr, hmk, l5, hrec_0, uK, vK, xK, yK, zK, ⟨aL, bL⟩, dL, eL, gL, iL, dI, iI, jI, kI, lI⟩ := hR;refine Za (Gg (.int .i64 ((w64 (t5 + (1 : Int))))) lI rfl rfl rfl ?_);refine Zn (.int .i64 ((w64 (t5 + (1 : Int))))) rfl rfl ?_;exact Zb (Zd (rM (eF, (w64 (t5 + (1 : Int)))) _ _ ⟨bO, hfr, hmk, l5, hrec_0, uK, vK, xK, yK, zK, ⟨aL, bL⟩, dL, eL, gL, iL, dI, iI, jI, kI, rfl⟩ h))
      ·refine To sG rfl ?_
       refine Qc ?_;refine Tf ?_;refine Tf ?_;refine Tl ?_;refine Ts ?_;obtain rfl := sinj h;exact hQ _ _ ⟨tH, hfr, hmk, l5, hrec_0, oE, v8, tF, lB, iG, ⟨vB, yB⟩, uF, rE, mB, xF, aB, yF, aG⟩
     ·clear hx
      obtain ⟨cO, hfr, hmk, l5, hrec_0, jL, lL, mL, nL, oL, ⟨xL, yL⟩, zL, aM, bM, mI, nI, pI, qI⟩ := hR;refine Za (Gg (.int .i64 ((w64 (o0 + (1 : Int))))) qI rfl rfl rfl ?_);refine Zn (.int .i64 ((w64 (o0 + (1 : Int))))) rfl rfl ?_;exact Zb (Zd (qM (rF, (w64 (o0 + (1 : Int)))) _ _ ⟨cO, hfr, hmk, l5, hrec_0, jL, lL, mL, nL, oL, ⟨xL, yL⟩, zL, aM, bM, mI, nI, pI, rfl⟩ h))
    ·refine To mG rfl ?_
     refine Qc ?_;refine Tf ?_;refine Tf ?_;refine Tl ?_;obtain rfl := sinj h;exact hQ _ _ ⟨rJ, hfr, hmk, l5, hrec_0, aH, cH, gH, jH, kH, ⟨lH, mH⟩, nH, oH, jG, kG⟩
   ·clear hx
    obtain ⟨dO, hfr, hmk, l5, hrec_0, sO, l8, cM, zB, pH, ⟨l9, uE⟩, qH, dM, pO, i6⟩ := hR;refine Za (Zo qH rfl ?_);refine Ze .plain rfl (Tk (α := Fv) (g := dO) Try.isAgg76 Try.sizeOf76 pH l9 fun aK bK => ?_);have e1975 : aK = n9.v := Uf.1 bK;clear bK;subst aK;refine Zo qH rfl ?_;obtain ⟨gp1977, hs, rp1977⟩ := OM.pub dM;have hfr := hfr.stp hs;have hmk := hmk.stp hs;have l5 := l5.stp hs;have hrec_0 := hrec_0.stp hs rfl;have l8 := l8.stp hs;have zB := zB.stp hs rfl;have l9 := l9.stp hs rfl;have uE := uE.stp hs rfl;have i6 := i6.stp hs;refine Ze .plain rfl (Xx (g := gp1977) 4065 (xs := ([iE] : List (List Int))) (vs := [n8]) Try.underlying76 Try.sizeOf31 Try.zeroValue31 rfl rfl (.cons rfl .nil) (RVs.cons rp1977 RVs.nil) rfl rfl fun eO lQ mQ hs b1976 _ => ?_);have hfr := hfr.stp hs;have hmk := hmk.stp hs;have l5 := l5.stp hs;have hrec_0 := hrec_0.stp hs rfl;have l8 := l8.stp hs;have zB := zB.stp hs rfl;have l9 := l9.stp hs rfl;have uE := uE.stp hs rfl;have rp1977 := rp1977.stp hs;have i6 := i6.stp hs;obtain ⟨lJ, dN, h⟩ := Ga h;refine Ze .plain rfl (Am (g := eO) (i := 4016) (j := 4065) Try.underlying76 info_31 rfl rfl uE rfl b1976 (by simp) rfl dN fun ga1978 gO nQ cK hs hs2 b1978 => ?_);have hfr := hfr.stp hs;have hmk := hmk.stp hs;have l5 := l5.stp hs;have hrec_0 := hrec_0.stp hs rfl;have l8 := l8.stp hs;have zB := zB.stp hs rfl;have l9 := l9.stp hs rfl;have rp1977 := rp1977.stp hs;have i6 := i6.stp hs;have hfr := hfr.stp hs2;have hmk := hmk.stp hs2;have l5 := l5.stp hs2;have hrec_0 := hrec_0.stp hs2 rfl;have l8 := l8.stp hs2;have zB := zB.stp hs2 rfl;have l9 := l9.stp hs2 rfl;have rp1977 := rp1977.stp hs2;have i6 := i6.stp hs2;refine Ze .plain rfl (Gm (g := gO) (v := n8) Try.sizeOf31 cM zB rfl rp1977 fun jO oQ hs b1980 cb => ?_);clear cb;have hfr := hfr.stp hs;have hmk := hmk.stp hs;have l5 := l5.stp hs;have hrec_0 := hrec_0.stp hs rfl;have l8 := l8.stp hs;have l9 := l9.stp hs rfl;have i6 := i6.stp hs;have b1978 := b1978.stp hs rfl;have on1981 := Ah (b1978.toM);refine Ze .plain rfl (Gm (g := jO) (v := cK) (a' := (⟨cK, on1981⟩ : Fv)) Try.sizeOf76 pH l9 rfl (Uf.2 rfl) fun pQ qQ hs b1981 cb => ?_);clear cb;have hfr := hfr.stp hs;have hmk := hmk.stp hs;have l5 := l5.stp hs;have hrec_0 := hrec_0.stp hs rfl;have l8 := l8.stp hs;have b1980 := b1980.stp hs rfl;have i6 := i6.stp hs;have b1978 := b1978.stp hs rfl;refine Zb (Ts ?_);obtain ⟨rfl, rfl⟩ := Hn h;exact ⟨_, l5, ⟨hfr, hmk, l8, b1980, ⟨_, b1981, b1978⟩, i6⟩, hrec_0, rfl, rfl⟩
  ·intro kO rQ ds1983 hsz hR hds
   obtain ⟨hfr, hmk, tO, uO, ⟨vO, eM, iM⟩, qO⟩ := hR;obtain ⟨D, hdse, hD, hDb⟩ := hds.1 rfl;subst hdse;replace hmk := MkF.push hmk0 hmk hD hDb;clear hD hDb hds;revert hmk;generalize ({ target := .collected D, args := #[] } :: [] : List Deferred) = xO;intro hmk;refine ⟨fun _ => ?_, fun k c hs _ => absurd hs (Nat.succ_ne_zero k).symm⟩;refine Ts ?_;obtain rfl := sinj h;exact hQ _ _ _ ⟨kO, hfr, hmk, rfl, ⟨_, eM, iM⟩⟩
 ·clear hx
  obtain ⟨dK, hfr, hmk, sH, ⟨vE, oD, jM⟩⟩ := hR;refine Zf (Za (Ze .plain rfl (Tk (α := Fv) (g := dK) Try.isAgg76 Try.sizeOf76 sH oD fun lK mK => ?_)));have e1985 : lK = vE.v := Uf.1 mK;clear mK;subst lK;obtain ⟨mJ, eN, h⟩ := Ga h;refine Ze .plain rfl (Hu (g := dK) (i := 4016) (vs := [vE.v]) en46 (.cons rfl .nil) (wk46 (jM.toM) eN) fun lO oP sQ hs hr => ?_);obtain ⟨hrv, b1986⟩ := hr;have hfr := hfr.stp hs;have hmk := hmk.stp hs;have oD := oD.stp hs rfl;subst hrv;refine Zb (Zd (Zf (Za (Ze .plain rfl (Tk (α := Fv) (g := lO) Try.isAgg76 Try.sizeOf76 sH oD fun nK oK => ?_)))));have e1988 : nK = vE.v := Uf.1 oK;clear oK;subst nK;obtain ⟨gp1989, hs, rp1989⟩ := OM.pub b1986;have hfr := hfr.stp hs;have hmk := hmk.stp hs;have oD := oD.stp hs rfl;have ub1989 := OB.ofRV oD rp1989;refine Zg (vE.v) rfl rfl ?_;refine Zb (Zd (Gq (endM (.inr rfl) hmk fun tQ uQ hs => ?_)));have hfr := hfr.stp hs;have rp1989 := rp1989.stp hs;obtain rfl := sinj h;exact Qr rfl rfl (show _ = vE.v from rfl) ⟨_, hfr, rp1989⟩
def f28 (x0 : PayList) (x1 : Th) : Option (Gz × Int) :=
 jn (σ := Gz) (fun vB =>
  (f48 ((⟨x0⟩ : Gz)) x1).bind fun l5 =>
  some ((⟨x0⟩ : Gz), l5)
  ) fun cC =>
 (f47 x0).bind fun o0 =>
 bif (o0 != (0 : Int)) then
  some ((⟨x0⟩ : Gz), o0)
 else
  cC ((⟨⟨[], [], 0, 0⟩⟩ : Gz))
theorem en28 : Enters Try.prog 28 := enters_of Try.func28 (by kernel_rfl) rfl
theorem wk28 {gI : Gh} {wI : World} {x0 : PayList} {x1 : Th} {up0 : Value} (rp0 : RV gI.m wI x0 up0) {up1 : Value} (rp1 : RV gI.m wI x1 up1) {r : Gz × Int} (h : f28 x0 x1 = some r) : Fn Try.prog 28 #[up0, up1] gI wI (fun m w v => ∃ y0 y1, v = .tuple #[y0, y1] ∧ RV m w (r.1) y0 ∧ y1 = .int .i64 (r.2)) := by
 unfold f28 at h;refine Gw Try.func28 rfl (Nat.le_of_ble_eq_true rfl) fun g0 hm hfr => ?_;have rp0 : RV g0.m wI x0 up0 := hm ▸ rp0;have rp1 : RV g0.m wI x1 up1 := hm ▸ rp1;show E _ 20 none _ _ _ _ _;refine Zf (Za (Ze .plain rfl (Qs (g := g0) rfl rp0 fun g1 w1 p1 hs q1 => ?_)));have hfr := hfr.ext hs;have rp1 := rp1.ext hs;refine Ze .plain rfl (Qs (g := g1) rfl rp1 fun g2 w2 p2 hs q2 => ?_);have hfr := hfr.ext hs;have q1 := q1.ext hs;refine Ze .plain rfl (Ti (g := g2) 2004 (⟨⟨[], [], 0, 0⟩⟩ : Gz) Try.zeroValue81 (fun m w => ⟨_, (Gv Tr (Gv Tr (Gv Zv Zv))), rfl⟩) fun g3 w3 p3 hs b3 cb => ?_);have hfr := hfr.stp hs;have q1 := q1.stp hs;have q2 := q2.stp hs;have i6 : OSF 2004 60400 0 g3 w3 64 81 ([] : List Gr) p3 := cb.osf (by rfl);have g8 : OSF 2004 60401 1 g3 w3 3 81 ([] : List Int) p3 := cb.osf (by rfl);clear cb;refine Zg (.int .i64 (0)) rfl rfl ?_;refine Zb (Zd (Zq h (fun (s : Gz) e w => ∃ (g : Gh) , Fr gI wI g w ∧ e 2 = p1 ∧ PT g.m w (x0 : PayList) p1 ∧ e 3 = p2 ∧ PT g.m w (x1 : Th) p2 ∧ e 4 = p3 ∧ OB 2004 g w 81 (s : Gz) p3 ∧ OSF 2004 60400 0 g w 64 81 (((s).PayList).Rates) p3 ∧ OSF 2004 60401 1 g w 3 81 (((s).PayList).Extras) p3) (fun X12 cC aE h => ?_) ?_))
 ·refine Zf (Za (Ze .plain rfl (Gf (g := g3) Try.isAgg37 Try.sizeOf37 rfl q1 fun yE zE => ?_)))
  obtain ⟨o0, bE, h⟩ := Ga h;refine Ze .plain rfl (Zp (g := g3) (vs := [yE]) en47 (.cons rfl .nil) (wk47 zE bE) fun n8 eF sF hs hr => ?_);have hfr := hfr.ext hs;have q1 := q1.ext hs;have q2 := q2.ext hs;have i6 := i6.ext hs;have g8 := g8.ext hs;have b3 := b3.ext hs;subst hr;refine Zg (.int .i64 (o0)) rfl rfl ?_;refine Zb (Zd (Zf (Za (Zn (.int .i64 (o0)) rfl rfl ?_))));refine Gg (.bool ((o0 != (0 : Int)))) rfl rfl rfl rfl ?_;refine Zb (Zd ?_);rcases Zt h with ⟨l8, h⟩ | ⟨l8, h⟩
  ·refine Tn l8 rfl ?_
   refine Zf (Za (Ze .plain rfl (Gf (g := n8) Try.isAgg37 Try.sizeOf37 rfl q1 fun nB uC => ?_)));have vC : RV n8.m _ (⟨x0⟩ : Gz) (.agg (Qd [[.slice none 0 0, .slice none 0 0, .int .i64 0, .int .i64 0]] [(0, nB)]).flatten.toArray) := Qj rfl (Qh (RV.cells uC));generalize iE : (Value.agg (Qd [[.slice none 0 0, .slice none 0 0, .int .i64 0, .int .i64 0]] [(0, nB)]).flatten.toArray) = bD at vC;refine Zw bD (iE ▸ Qu (vs := [(0, nB)]) [[.slice none 0 0, .slice none 0 0, .int .i64 0, .int .i64 0]] Lj rfl rfl (.cons rfl .nil) ⟨⟨_, rfl, Qt uC⟩, trivial⟩) rfl ?_;refine Zn (.int .i64 (o0)) rfl rfl ?_;refine Ze .plain rfl (Gm (g := n8) (v := bD) Try.sizeOf81 rfl b3 rfl vC fun tF uF hs b19 cb => ?_);clear cb;have hfr := hfr.stp hs;refine Zg (.int .i64 (o0)) rfl rfl ?_;refine Zb (Zd (Gq (Tz ?_)));obtain rfl := sinj h;obtain ⟨ad20, cv20, hp20, hl20, cr20⟩ := Ql Try.isAgg81 Try.sizeOf81 b19;exact Qy rfl rfl ((show _ = p3 from rfl).trans hp20) hl20 (show _ = .int .i64 (o0) from rfl) ⟨_, hfr, _, _, rfl, cr20, rfl⟩
  ·refine To l8 rfl ?_
   exact Zu (Zd (aE ((⟨⟨[], [], 0, 0⟩⟩ : Gz)) _ _ ⟨n8, hfr, rfl, q1, rfl, q2, rfl, b3, i6, g8⟩ h))
 ·rintro vB rF vF ⟨oB, hfr, v8, l9, yB, zB, n9, t5, u4_0_21, u4_1_21⟩ h
  refine Zf (Zs (x := .tmp 2) Try.isAgg37 Try.sizeOf37 l9 fun aB cD lE => ?_);have lB : RV oB.m _ (⟨x0⟩ : Gz) (.agg (Qd [[.slice none 0 0, .slice none 0 0, .int .i64 0, .int .i64 0]] [(0, aB)]).flatten.toArray) := Qj rfl (Qh (RV.cells cD));generalize mE : (Value.agg (Qd [[.slice none 0 0, .slice none 0 0, .int .i64 0, .int .i64 0]] [(0, aB)]).flatten.toArray) = lD at lB;refine Zs (x := .tmp 2) Try.isAgg37 Try.sizeOf37 l9 fun mB nD oE => ?_;have oD : RV oB.m _ (⟨x0⟩ : Gz) (.agg (Qd [[.slice none 0 0, .slice none 0 0, .int .i64 0, .int .i64 0]] [(0, mB)]).flatten.toArray) := Qj rfl (Qh (RV.cells nD));generalize rE : (Value.agg (Qd [[.slice none 0 0, .slice none 0 0, .int .i64 0, .int .i64 0]] [(0, mB)]).flatten.toArray) = yD at oD;refine Zs (x := .tmp 3) Try.isAgg46 Try.sizeOf46 zB fun zD cF uE => ?_;obtain ⟨l5, vE, h⟩ := Ga h;refine Tx (g := oB) (n := 6) [(5, (fun v g w => v = .int .i64 (l5)))] [0, 1, 2, 3, 4, 5] rfl Qq (by kernel_rfl) (⟨fun _ => Wf _, trivial⟩) ?_;refine Tt (c := aB) rfl rfl .plain (fun _ _ h => h.ch) lE v8 ?_;refine Zz lD rfl rfl (mE ▸ Qu (vs := [(0, aB)]) [[.slice none 0 0, .slice none 0 0, .int .i64 0, .int .i64 0]] Lj rfl rfl (.cons rfl .nil) ⟨⟨_, rfl, Qt cD⟩, trivial⟩) ?_;refine Tt (c := mB) rfl rfl .plain (fun _ _ h => h.ch) oE v8 ?_;refine Zz yD rfl rfl (rE ▸ Qu (vs := [(0, mB)]) [[.slice none 0 0, .slice none 0 0, .int .i64 0, .int .i64 0]] Lj rfl rfl (.cons rfl .nil) ⟨⟨_, rfl, Qt nD⟩, trivial⟩) ?_;refine Tt (c := zD) rfl rfl .plain (fun _ _ h => h.ch) uE yB ?_;refine Ka (φ := fun v g w => v = .int .i64 (l5)) rfl rfl .plain (fun g w hd => Zp (g := g) (vs := [yD, zD]) en48 (.cons rfl (.cons rfl .nil)) (wk48 (oD.ext hd.1) (cF.ext hd.1) vE) fun g' w' v hs hr => ⟨g', hs, hr⟩) (fun xF hv => ?_);obtain ⟨_, _, _, rfl⟩ := hv;refine Kr fun dF w29 hs => ?_;have hfr := hfr.ext hs;have t5 := t5.ext hs;have lB := lB.ext hs;clear hs;refine Ze .plain rfl (Gm (g := dF) (v := lD) Try.sizeOf81 n9 t5 rfl lB fun yF aG hs b39 cb => ?_);clear cb;have hfr := hfr.stp hs;refine Zg (.int .i64 (l5)) rfl rfl ?_;refine Zb (Zd (Gq ?_));obtain rfl := sinj h;obtain ⟨ad40, cv40, hp40, xE, cr40⟩ := Ql Try.isAgg81 Try.sizeOf81 b39;exact Qy rfl rfl ((show _ = p3 from n9).trans hp40) xE (show _ = .int .i64 (l5) from rfl) ⟨_, hfr, _, _, rfl, cr40, rfl⟩
def f38 (x0 : Int) (x1 : List Gc) : Option (Bool) :=
 Option.bind (α := Bool) (
  bif (decide (((x1).length : Int) > (0 : Int))) then
   (f62 x1 ((fun a0 => f61 a0 x0))).bind fun y7 =>
   some ((!y7))
  else
   some (false)
  ) fun o0 =>
 some (o0)
theorem en38 : Enters Try.prog 38 := enters_of Try.func38 (by kernel_rfl) rfl
theorem wk38 {gI : Gh} {wI : World} {x0 : Int} {x1 : List Gc} {up1 : Value} (rp1 : RV gI.m wI x1 up1) {r : Bool} (h : f38 x0 x1 = some r) : Fn Try.prog 38 #[.int .i64 (x0), up1] gI wI (fun _ _ v => v = .bool (r)) := by
 unfold f38 at h;refine Gw Try.func38 rfl (Nat.le_of_ble_eq_true rfl) fun g0 hm hfr => ?_;have rp1 : RV g0.m wI x1 up1 := hm ▸ rp1;show E _ 16 none _ _ _ _ _;refine Zf (Za (Ze .plain rfl (Qs (g := g0) rfl (Zj.2 rfl) fun g1 w1 p1 hs q1 => ?_)));have hfr := hfr.ext hs;have rp1 := rp1.ext hs;refine Zg (.bool false) rfl rfl ?_;refine Zb (Zd (Zf (Za (Zw ((.func (.func 61) #[] #[p1])) (Hy (Bj (show ev _ _ = p1 from rfl))) rfl ?_))));refine Zg ((.func (.func 61) #[] #[p1])) rfl rfl ?_;refine Zb (Zd ?_);obtain ⟨o0, hx, h⟩ := Ga h;refine Gp (fun e w => ∃ (g : Gh) , Fr gI wI g w ∧ e 4 = .bool (o0)) (fun Q' hQ => ?_) (fun i6 w8 hR => ?_)
 ·replace h := hx
  clear hx;refine Za (Zn up1 rfl rfl ?_);refine Zw (.int .i64 ((x1).length : Int)) (Tu Try.underlying25 rfl rp1) rfl ?_;refine Gg (.bool ((decide (((x1).length : Int) > (0 : Int))))) rfl rfl rfl rfl ?_;refine Zn (.bool ((decide (((x1).length : Int) > (0 : Int))))) rfl rfl ?_;rcases Zt h with ⟨hc5, h⟩ | ⟨hc5, h⟩
  ·refine Zx up1 (Zk rfl) rfl rfl hc5 rfl ?_
   refine Zx ((.func (.func 61) #[] #[p1])) (Zk rfl) rfl rfl hc5 rfl ?_;obtain ⟨y7, t5, h⟩ := Ga h;refine Ze (.yes2 rfl rfl hc5) rfl (Zp (g := g1) (vs := [up1, (.func (.func 61) #[] #[p1])]) en62 (.cons rfl (.cons rfl .nil)) (wk62 rp1 ⟨61, #[], #[p1], rfl, en61, fun g' w' hch a0 b0 r hu0 hr => by exact Fn.mono (wk61 hu0 (q1.ch hch) hr) fun _ _ _ h => Kl.2 h⟩ t5) fun g6 w6_ v6 hs hr => ?_);have hfr := hfr.ext hs;subst hr;refine Zx (.bool (!y7)) (Wh rfl) rfl rfl hc5 rfl ?_;refine Zw (.bool (!y7)) (Zl (b := (decide (((x1).length : Int) > (0 : Int)))) rfl (Tg hc5 rfl)) rfl ?_;refine Zg (.bool (!y7)) rfl rfl ?_;refine Zb ?_;obtain rfl := sinj h;exact hQ _ _ ⟨g6, hfr, rfl⟩
  ·refine Zy rfl rfl hc5 rfl rfl ?_
   iterate 3 refine Zy rfl rfl hc5 rfl rfl ?_
   refine Zw (.bool false) (Zl (b := (decide (((x1).length : Int) > (0 : Int)))) rfl (Tq hc5 rfl)) rfl ?_;refine Zg (.bool false) rfl rfl ?_;refine Zb ?_;obtain rfl := sinj h;exact hQ _ _ ⟨g1, hfr, rfl⟩
 ·clear hx
  obtain ⟨g8, hfr, l5⟩ := hR;refine Gq ?_;obtain rfl := sinj h;exact Qr rfl rfl (show _ = .bool (o0) from l5) ⟨_, hfr, rfl⟩
def f54 (x0 : List Int) (x1 : Int → Int → Option Int) : Option ((List Int)) :=
 (f74 x0 (((x0).length : Int)) x1).bind fun y2 =>
 some (y2)
theorem en54 : Enters Try.prog 54 := enters_of Try.func54 (by kernel_rfl) rfl
theorem wk54 {iI : Nat} {gI : Gh} {wI : World} {x0 : List Int} {x1 : Int → Int → Option Int} {up0 : Value} (mp0 : OM iI gI wI 3 x0 up0) {up1 : Value} (rp1 : Ui Try.prog x1 up1 gI wI) {r : (List Int)} (h : f54 x0 x1 = some r) : FnM Try.prog 54 #[up0, up1] iI gI wI (fun g w v => v = .tuple #[] ∧ OM iI g w 3 r up0) := by
 unfold f54 at h;refine Yd Try.func54 rfl (Nat.le_of_ble_eq_true rfl) fun g0 hm hfr => ?_;have o0 := mp0;replace mp0 := mp0.enter;rw [← hm] at mp0
 replace hm : g0.m = gI.m := by rw [hm]
 obtain ⟨ff1, fa1, fc1, rfl, fen1, fcl1⟩ := rp1;show E _ 9 none _ _ _ _ _;refine Za (Zn up0 rfl rfl ?_);refine Zn up0 rfl rfl ?_;refine Zw (.int .i64 ((x0).length : Int)) (Rx Try.underlying31 rfl mp0) rfl ?_;refine Zn ((.func (.func ff1) fa1 fc1)) rfl rfl ?_;obtain ⟨y2, hy2, h⟩ := Ga h;refine Ze .plain rfl (Hu (g := g0) (i := 1) (vs := [up0, .int .i64 ((x0).length : Int), (.func (.func ff1) fa1 fc1)]) en74 (.cons rfl (.cons rfl (.cons rfl .nil))) (wk74 mp0 (Ui.ch ⟨_, _, _, rfl, fen1, fcl1⟩ hfr.ch) hy2) fun g1 w1_ v1 hs hr => ?_);obtain ⟨hrv, b1⟩ := hr;have hfr := hfr.stp hs;subst hrv;refine Zb ?_;obtain rfl := sinj h;exact Vu rfl rfl ⟨_, hfr, rfl, o0.back b1⟩
def f57 (x0 : PayTable) : Option (Gu × Int) :=
 (f76 x0).bind fun y5 =>
 Option.bind (α := Int) (
  Option.bind (α := Bool) (
   bif (y5.2 == (0 : Int)) then
    (f77 (y5.1)).bind fun n8 =>
    some ((decide (((n8).length : Int) > (0 : Int))))
   else
    some (false)
   ) fun g8 =>
  bif g8 then
   some ((7 : Int))
  else
   some (y5.2)
  ) fun l8 =>
 some (y5.1, l8)
theorem en57 : Enters Try.prog 57 := enters_of Try.func57 (by kernel_rfl) rfl
theorem wk57 {gI : Gh} {wI : World} {x0 : PayTable} {up0 : Value} (rp0 : RV gI.m wI x0 up0) {r : Gu × Int} (h : f57 x0 = some r) : Fn Try.prog 57 #[up0] gI wI (fun m w v => ∃ y0 y1, v = .tuple #[y0, y1] ∧ RV m w (r.1) y0 ∧ y1 = .int .i64 (r.2)) := by
 unfold f57 at h;refine Gw Try.func57 rfl (Nat.le_of_ble_eq_true rfl) fun g0 hm hfr => ?_;have rp0 : RV g0.m wI x0 up0 := hm ▸ rp0;show E _ 21 none _ _ _ _ _;refine Zf (Za (Ze .plain rfl (Qs (g := g0) rfl rp0 fun g1 w1 p1 hs q1 => ?_)));have hfr := hfr.ext hs;refine Ze .plain rfl (Ti (g := g1) 2002 (⟨⟨[], [], [], 0⟩⟩ : Gu) Try.zeroValue119 (fun m w => ⟨_, (Gv Tr (Gv Tr (Gv Tr Zv))), rfl⟩) fun g2 w2 p2 hs b2 cb => ?_);have hfr := hfr.stp hs;have q1 := q1.stp hs;have o0 : OSF 2002 60200 0 g2 w2 31 119 ([] : List (List Int)) p2 := cb.osf (by rfl);have l5 : OSF 2002 60201 1 g2 w2 3 119 ([] : List Int) p2 := cb.osf (by rfl);have t5 : OSF 2002 60202 2 g2 w2 3 119 ([] : List Int) p2 := cb.osf (by rfl);clear cb;refine Zg (.int .i64 (0)) rfl rfl ?_;refine Zb (Zd (Zf (Za (Ze .plain rfl (Gf (g := g2) Try.isAgg98 Try.sizeOf98 rfl q1 fun v3 r3 => ?_)))));obtain ⟨y5, hy5, h⟩ := Ga h;refine Ze .plain rfl (Zp (g := g2) (vs := [v3]) en76 (.cons rfl .nil) (wk76 r3 hy5) fun g4 w4_ v4 hs hr => ?_);have hfr := hfr.ext hs;have o0 := o0.ext hs;have l5 := l5.ext hs;have t5 := t5.ext hs;have b2 := b2.ext hs;obtain ⟨l9, lE, rfl, n9, rfl⟩ := hr;refine Zn (.tuple #[l9, .int .i64 (y5.2)]) rfl rfl ?_;refine Zw l9 (Zi rfl rfl) rfl ?_;refine Zw (.int .i64 (y5.2)) (Zi rfl rfl) rfl ?_;refine Ze .plain rfl (Ti (g := g4) 2004 (⟨⟨[], [], [], 0⟩⟩ : Gu) Try.zeroValue119 (fun m w => ⟨_, (Gv Tr (Gv Tr (Gv Tr Zv))), rfl⟩) fun g6 w6 p6 hs b6 cb => ?_);have hfr := hfr.stp hs;have o0 := o0.stp hs rfl;have l5 := l5.stp hs rfl;have t5 := t5.stp hs rfl;have b2 := b2.stp hs rfl;have n9 := n9.stp hs;have mE : OSF 2004 60400 0 g6 w6 31 119 ([] : List (List Int)) p6 := cb.osf (by rfl);have oE : OSF 2004 60401 1 g6 w6 3 119 ([] : List Int) p6 := cb.osf (by rfl);have rE : OSF 2004 60402 2 g6 w6 3 119 ([] : List Int) p6 := cb.osf (by rfl);clear cb;refine Ze .plain rfl (Gm (g := g6) (v := l9) Try.sizeOf119 rfl b6 rfl n9 fun g7 w7 hs b7 cb => ?_);clear cb;have hfr := hfr.stp hs;have o0 := o0.stp hs rfl;have l5 := l5.stp hs rfl;have t5 := t5.stp hs rfl;have b2 := b2.stp hs rfl;refine Zg (.int .i64 (y5.2)) rfl rfl ?_;refine Zb (Zd ?_);obtain ⟨l8, hx, h⟩ := Ga h;refine Gp (fun e w => ∃ (g : Gh) , Fr gI wI g w ∧ e 2 = p2 ∧ OB 2002 g w 119 ((⟨⟨[], [], [], 0⟩⟩ : Gu) : Gu) p2 ∧ OSF 2002 60200 0 g w 31 119 ((((⟨⟨[], [], [], 0⟩⟩ : Gu)).PayTable).Rows) p2 ∧ OSF 2002 60201 1 g w 3 119 ((((⟨⟨[], [], [], 0⟩⟩ : Gu)).PayTable).Across) p2 ∧ OSF 2002 60202 2 g w 3 119 ((((⟨⟨[], [], [], 0⟩⟩ : Gu)).PayTable).Down) p2 ∧ e 4 = p6 ∧ OB 2004 g w 119 (y5.1 : Gu) p6 ∧ e 5 = .int .i64 (l8)) (fun Q' hQ => ?_) (fun uE yE hR => ?_)
 ·replace h := hx
  clear hx;obtain ⟨g8, hx, h⟩ := Ga h;refine Gp (fun e w => ∃ (g : Gh) , Fr gI wI g w ∧ e 2 = p2 ∧ OB 2002 g w 119 ((⟨⟨[], [], [], 0⟩⟩ : Gu) : Gu) p2 ∧ OSF 2002 60200 0 g w 31 119 ((((⟨⟨[], [], [], 0⟩⟩ : Gu)).PayTable).Rows) p2 ∧ OSF 2002 60201 1 g w 3 119 ((((⟨⟨[], [], [], 0⟩⟩ : Gu)).PayTable).Across) p2 ∧ OSF 2002 60202 2 g w 3 119 ((((⟨⟨[], [], [], 0⟩⟩ : Gu)).PayTable).Down) p2 ∧ e 4 = p6 ∧ OB 2004 g w 119 (y5.1 : Gu) p6 ∧ e 5 = .int .i64 (y5.2) ∧ e 18 = .bool (g8)) (fun Q' hQ => ?_) (fun vE zE hR => ?_)
  ·replace h := hx
   clear hx;refine Za (Zn (.int .i64 (y5.2)) rfl rfl ?_);refine Gg (.bool ((y5.2 == (0 : Int)))) rfl rfl rfl rfl ?_;refine Zn (.bool ((y5.2 == (0 : Int)))) rfl rfl ?_;rcases Zt h with ⟨i6, h⟩ | ⟨i6, h⟩
   ·refine Ze (.yes2 rfl rfl i6) rfl (Tk (g := g7) Try.isAgg119 Try.sizeOf119 rfl b7 fun oD yD => ?_)
    obtain ⟨n8, lD, h⟩ := Ga h;refine Ze (.yes2 rfl rfl i6) rfl (Zp (g := g7) (vs := [oD]) en77 (.cons rfl .nil) (wk77 yD lD) fun zD xE cF hs hr => ?_);have hfr := hfr.ext hs;have o0 := o0.ext hs;have l5 := l5.ext hs;have t5 := t5.ext hs;have b2 := b2.ext hs;have b7 := b7.ext hs;have aE := hr;refine Zx (.int .i64 ((n8).length : Int)) (Tu Try.underlying140 rfl aE) rfl rfl i6 rfl ?_;refine Zx (.bool ((decide (((n8).length : Int) > (0 : Int))))) (Gj rfl rfl rfl) rfl rfl i6 rfl ?_;refine Zw (.bool ((decide (((n8).length : Int) > (0 : Int))))) (Zl (b := (y5.2 == (0 : Int))) rfl (Tg i6 rfl)) rfl ?_;refine Zb ?_;obtain rfl := sinj h;exact hQ _ _ ⟨zD, hfr, rfl, b2, o0, l5, t5, rfl, b7, rfl, rfl⟩
   ·refine Zy rfl rfl i6 rfl rfl ?_
    iterate 3 refine Zy rfl rfl i6 rfl rfl ?_
    refine Zw (.bool false) (Zl (b := (y5.2 == (0 : Int))) rfl (Tq i6 rfl)) rfl ?_;refine Zb ?_;obtain rfl := sinj h;exact hQ _ _ ⟨g7, hfr, rfl, b2, o0, l5, t5, rfl, b7, rfl, rfl⟩
  ·clear hx
   obtain ⟨bD, hfr, lB, mB, u2_0_26, u2_1_26, u2_2_26, nB, oB, yB, v8⟩ := hR;rcases Zt h with ⟨aB, h⟩ | ⟨aB, h⟩
   ·refine Tv (Eq.trans (show ev _ _ = .bool (g8) from v8) (congrArg Value.bool aB)) ?_
    refine Za (Zg (.int .i64 (7)) rfl rfl ?_);refine Zb ?_;obtain rfl := sinj h;exact hQ _ _ ⟨bD, hfr, lB, mB, u2_0_26, u2_1_26, u2_2_26, nB, oB, rfl⟩
   ·refine Tj (Eq.trans (show ev _ _ = .bool (g8) from v8) (congrArg Value.bool aB)) ?_
    refine Zu ?_;obtain rfl := sinj h;exact hQ _ _ ⟨bD, hfr, lB, mB, u2_0_26, u2_1_26, u2_2_26, nB, oB, yB⟩
 ·clear hx
  obtain ⟨cD, hfr, vB, zB, u2_0_28, u2_1_28, u2_2_28, cC, uC, vC⟩ := hR;refine Zf (Za (Ze .plain rfl (Tk (g := cD) Try.isAgg119 Try.sizeOf119 cC uC fun bE iE => ?_)));refine Zo vC rfl ?_;refine Ze .plain rfl (Gm (g := cD) (v := bE) Try.sizeOf119 vB zB rfl iE fun dF eF hs b30 cb => ?_);clear cb;have hfr := hfr.stp hs;refine Zg (.int .i64 (l8)) rfl rfl ?_;refine Zb (Zd (Gq ?_));obtain rfl := sinj h;obtain ⟨ad31, cv31, hp31, nD, cr31⟩ := Ql Try.isAgg119 Try.sizeOf119 b30;exact Qy rfl rfl ((show _ = p2 from vB).trans hp31) nD (show _ = .int .i64 (l8) from rfl) ⟨_, hfr, _, _, rfl, cr31, rfl⟩
def f11 (x0 : PayList) (x1 : Th) : Option (Int × Int × Int × Int) :=
 (f28 x0 x1).bind fun y6 =>
 jn (σ := Unit) (fun _ =>
  (f29 (y6.1) x1).bind fun l5 =>
  (f30 (y6.1) l5 ((x1).Faults)).bind fun l8 =>
  (f31 (y6.1) x1 ((x1).Faults)).bind fun n8 =>
  some (l5, l8, n8, (0 : Int))
  ) fun mB =>
 bif (y6.2 != (0 : Int)) then
  some ((0 : Int), (0 : Int), (0 : Int), y6.2)
 else
  mB ()
theorem en11 : Enters Try.prog 11 := enters_of Try.func11 (by kernel_rfl) rfl
theorem wk11 {gI : Gh} {wI : World} {x0 : PayList} {x1 : Th} {up0 : Value} (rp0 : RV gI.m wI x0 up0) {up1 : Value} (rp1 : RV gI.m wI x1 up1) {r : Int × Int × Int × Int} (h : f11 x0 x1 = some r) : Fn Try.prog 11 #[up0, up1] gI wI (fun m w v => ∃ y0 y1 y2 y3, v = .tuple #[y0, y1, y2, y3] ∧ y0 = .int .i64 (r.1) ∧ y1 = .int .i64 (r.2.1) ∧ y2 = .int .i64 (r.2.2.1) ∧ y3 = .int .i64 (r.2.2.2)) := by
 unfold f11 at h;refine Gw Try.func11 rfl (Nat.le_of_ble_eq_true rfl) fun g0 hm hfr => ?_;have rp0 : RV g0.m wI x0 up0 := hm ▸ rp0;have rp1 : RV g0.m wI x1 up1 := hm ▸ rp1;show E _ 32 none _ _ _ _ _;refine Zf (Za (Ze .plain rfl (Qs (g := g0) rfl rp0 fun g1 w1 p1 hs q1 => ?_)));have hfr := hfr.ext hs;have rp1 := rp1.ext hs;refine Ze .plain rfl (Qs (g := g1) rfl rp1 fun g2 w2 p2 hs q2 => ?_);have hfr := hfr.ext hs;have q1 := q1.ext hs;iterate 4 refine Zg (.int .i64 (0)) rfl rfl ?_
 refine Zb (Zd (Zf (Za (Ze .plain rfl (Gf (g := g2) Try.isAgg37 Try.sizeOf37 rfl q1 fun v3 r3 => ?_)))));refine Ze .plain rfl (Gf (g := g2) Try.isAgg46 Try.sizeOf46 rfl q2 fun v4 r4 => ?_);obtain ⟨y6, oD, h⟩ := Ga h;refine Ze .plain rfl (Zp (g := g2) (vs := [v3, v4]) en28 (.cons rfl (.cons rfl .nil)) (wk28 r3 r4 oD) fun g5 w5_ v5 hs hr => ?_);have hfr := hfr.ext hs;have q2 := q2.ext hs;obtain ⟨l9, yE, rfl, n9, rfl⟩ := hr;refine Zn (.tuple #[l9, .int .i64 (y6.2)]) rfl rfl ?_;refine Zw l9 (Zi rfl rfl) rfl ?_;refine Zw (.int .i64 (y6.2)) (Zi rfl rfl) rfl ?_;refine Ze .plain rfl (Ti (g := g5) 2008 (⟨⟨[], [], 0, 0⟩⟩ : Gz) Try.zeroValue81 (fun m w => ⟨_, (Gv Tr (Gv Tr (Gv Zv Zv))), rfl⟩) fun g7 w7 p7 hs b7 cb => ?_);have hfr := hfr.stp hs;have q2 := q2.stp hs;have n9 := n9.stp hs;have zE : OSF 2008 60800 0 g7 w7 64 81 ([] : List Gr) p7 := cb.osf (by rfl);have cF : OSF 2008 60801 1 g7 w7 3 81 ([] : List Int) p7 := cb.osf (by rfl);clear cb;refine Ze .plain rfl (Gm (g := g7) (v := l9) Try.sizeOf81 rfl b7 rfl n9 fun g8 w8 hs b8 cb => ?_);clear cb;have hfr := hfr.stp hs;have q2 := q2.stp hs;refine Zg (.int .i64 (y6.2)) rfl rfl ?_;refine Zb (Zd (Zq h (fun (s : Unit) e w => ∃ (g : Gh) , Fr gI wI g w ∧ e 3 = p2 ∧ PT g.m w (x1 : Th) p2 ∧ e 8 = p7 ∧ OB 2008 g w 81 (y6.1 : Gz) p7) (fun X10 mB yB h => ?_) ?_))
 ·refine Zf (Za (Zn (.int .i64 (y6.2)) rfl rfl ?_))
  refine Gg (.bool ((y6.2 != (0 : Int)))) rfl rfl rfl rfl ?_;refine Zb (Zd ?_);rcases Zt h with ⟨aB, h⟩ | ⟨aB, h⟩
  ·refine Tn aB rfl ?_
   refine Zf (Za (Zn (.int .i64 (y6.2)) rfl rfl ?_));iterate 3 refine Zg (.int .i64 (0)) rfl rfl ?_
   refine Zg (.int .i64 (y6.2)) rfl rfl ?_;refine Zb (Zd (Gq (Tz ?_)));obtain rfl := sinj h;exact Nq rfl rfl (show _ = .int .i64 (0) from rfl) (show _ = .int .i64 (0) from rfl) (show _ = .int .i64 (0) from rfl) (show _ = .int .i64 (y6.2) from rfl) ⟨_, hfr, _, _, _, _, rfl, rfl, rfl, rfl, rfl⟩
  ·refine To aB rfl ?_
   exact Zu (Zd (yB () _ _ ⟨g8, hfr, rfl, q2, rfl, b8⟩ h))
 ·rintro _ dF rF ⟨lB, hfr, i6, o0, v8, t5⟩ h
  refine Zf (Za (Ze .plain rfl (Tk (g := lB) Try.isAgg81 Try.sizeOf81 v8 t5 fun yD zD => ?_)));refine Ze .plain rfl (Gf (g := lB) Try.isAgg46 Try.sizeOf46 i6 o0 fun aE bE => ?_);obtain ⟨l5, zB, h⟩ := Ga h;refine Ze .plain rfl (Zp (g := lB) (vs := [yD, aE]) en29 (.cons rfl (.cons rfl .nil)) (wk29 zD bE zB) fun iE eF sF hs hr => ?_);have hfr := hfr.ext hs;have o0 := o0.ext hs;have t5 := t5.ext hs;subst hr;refine Zg (.int .i64 (l5)) rfl rfl ?_;refine Zb (Zd (Zf (Wt (x := .tmp 8) Try.isAgg81 Try.sizeOf81 t5 fun nB lE cC => ?_)));have mE := Zm (Ji).1 o0;refine Zs (x := .tmp 24) Try.isAgg3 Try.sizeOf3 mE fun tF oE uC => ?_;obtain rfl := Zj.1 oE;obtain ⟨l8, vC, h⟩ := Ga h;refine Wt (x := .tmp 8) Try.isAgg81 Try.sizeOf81 t5 fun oB rE bD => ?_;refine Zs (x := .tmp 3) Try.isAgg46 Try.sizeOf46 o0 fun vB uE cD => ?_;have vE := Zm (Ji).1 o0;refine Zs (x := .tmp 29) Try.isAgg3 Try.sizeOf3 vE fun uF xE lD => ?_;obtain rfl := Zj.1 xE;obtain ⟨n8, nD, h⟩ := Ga h;refine Tx (g := iE) (n := 15) [(5, (fun v g w => v = .int .i64 (l8))), (10, (fun v g w => v = .int .i64 (n8)))] [0, 1, 2, 3, 4, 5, 6, 7, 8, 9, 10, 11, 12, 13, 14] rfl Qq (by kernel_rfl) (⟨fun _ => Wf _, fun _ => Wf _, trivial⟩) ?_;refine Zz (.int .i64 (l5)) rfl rfl (Zk rfl) ?_;refine Tt (c := nB) rfl rfl .plain (fun _ _ h => ⟨h.ch, fun b hb _ => h.below.block b hb⟩) cC v8 ?_;refine Zz (.int .i64 (l5)) rfl rfl (Zk rfl) ?_;refine Zz (Gk p2 4) rfl rfl (Zc Rh i6 (PT.ptr o0)) ?_;refine Tt (c := .int .i64 ((x1).Faults)) rfl rfl .plain (fun _ _ h => h.ch) uC rfl ?_;refine Ka (φ := fun v g w => v = .int .i64 (l8)) rfl rfl .plain (fun g w hd => Zp (g := g) (vs := [nB, .int .i64 (l5), .int .i64 ((x1).Faults)]) en30 (.cons rfl (.cons rfl (.cons rfl .nil))) (wk30 (lE.ext hd.1) vC) fun g' w' v hs hr => ⟨g', hs, hr⟩) (fun vF hv => ?_);obtain ⟨_, _, _, rfl⟩ := hv;refine Tt (c := oB) rfl rfl .plain (fun _ _ h => ⟨h.ch, fun b hb _ => h.below.block b hb⟩) bD v8 ?_;refine Tt (c := vB) rfl rfl .plain (fun _ _ h => h.ch) cD i6 ?_;refine Zz (Gk p2 4) rfl rfl (Zc Rh i6 (PT.ptr o0)) ?_;refine Tt (c := .int .i64 ((x1).Faults)) rfl rfl .plain (fun _ _ h => h.ch) lD rfl ?_;refine Ka (φ := fun v g w => v = .int .i64 (n8)) rfl rfl .plain (fun g w hd => Zp (g := g) (vs := [oB, vB, .int .i64 ((x1).Faults)]) en31 (.cons rfl (.cons rfl (.cons rfl .nil))) (wk31 (rE.ext hd.1) (uE.ext hd.1) nD) fun g' w' v hs hr => ⟨g', hs, hr⟩) (fun xF hv => ?_);obtain ⟨_, _, _, rfl⟩ := hv;refine Zz (.int .i64 (l5)) rfl rfl (Tb rfl) ?_;refine Zz (.int .i64 (l8)) rfl rfl (Tb rfl) ?_;refine Zz (.int .i64 (n8)) rfl rfl (Tb rfl) ?_;refine Zz (.int .i64 (0)) rfl rfl (Tb rfl) ?_;refine Kr fun yF aG hs => ?_;have hfr := hfr.ext hs;clear hs;refine Zb (Zd (Gq ?_));obtain rfl := sinj h;exact Nq rfl rfl (show _ = .int .i64 (l5) from rfl) (show _ = .int .i64 (l8) from rfl) (show _ = .int .i64 (n8) from rfl) (show _ = .int .i64 (0) from rfl) ⟨_, hfr, _, _, _, _, rfl, rfl, rfl, rfl, rfl⟩
def f13 (x0 : PayList) (x1 : Th) (x2 : Kb) : Option (Kb × Int) :=
 (f28 x0 x1).bind fun y8 =>
 jn (σ := Kb) (fun oD =>
  (f31 (y8.1) x1 ((x2).High)).bind fun l5 =>
  (f31 (y8.1) x1 ((x2).Low)).bind fun t5 =>
  some ((⟨l5, t5⟩ : Kb), (0 : Int))
  ) fun rE =>
 bif (y8.2 != (0 : Int)) then
  some ((⟨0, 0⟩ : Kb), y8.2)
 else
  Option.bind (α := Bool) (
   (f32 ((0 : Int)) ((100 : Int)) (([(x2).Low, (x2).High] : List Int))).bind fun v8 =>
   bif (!v8) then
    some ((!v8))
   else
    some ((decide ((x2).Low > (x2).High)))
   ) fun o0 =>
  bif o0 then
   some ((⟨0, 0⟩ : Kb), (3 : Int))
  else
   rE ((⟨0, 0⟩ : Kb))
theorem en13 : Enters Try.prog 13 := enters_of Try.func13 (by kernel_rfl) rfl
theorem wk13 {gI : Gh} {wI : World} {x0 : PayList} {x1 : Th} {x2 : Kb} {up0 : Value} (rp0 : RV gI.m wI x0 up0) {up1 : Value} (rp1 : RV gI.m wI x1 up1) {up2 : Value} (rp2 : RV gI.m wI x2 up2) {r : Kb × Int} (h : f13 x0 x1 x2 = some r) : Fn Try.prog 13 #[up0, up1, up2] gI wI (fun m w v => ∃ y0 y1, v = .tuple #[y0, y1] ∧ RV m w (r.1) y0 ∧ y1 = .int .i64 (r.2)) := by
 unfold f13 at h;refine Gw Try.func13 rfl (Nat.le_of_ble_eq_true rfl) fun g0 hm hfr => ?_;have rp0 : RV g0.m wI x0 up0 := hm ▸ rp0;have rp1 : RV g0.m wI x1 up1 := hm ▸ rp1;have rp2 : RV g0.m wI x2 up2 := hm ▸ rp2;show E _ 45 none _ _ _ _ _;refine Zf (Za (Ze .plain rfl (Qs (g := g0) rfl rp0 fun g1 w1 p1 hs q1 => ?_)));have hfr := hfr.ext hs;have rp1 := rp1.ext hs;have rp2 := rp2.ext hs;refine Ze .plain rfl (Qs (g := g1) rfl rp1 fun g2 w2 p2 hs q2 => ?_);have hfr := hfr.ext hs;have rp2 := rp2.ext hs;have q1 := q1.ext hs;refine Ze .plain rfl (Qs (g := g2) rfl rp2 fun g3 w3 p3 hs q3 => ?_);have hfr := hfr.ext hs;have q1 := q1.ext hs;have q2 := q2.ext hs;refine Ze .plain rfl (Ti (g := g3) 2006 (⟨0, 0⟩ : Kb) Try.zeroValue51 (fun m w => ⟨_, (Gv Zv Zv), rfl⟩) fun g4 w4 p4 hs b4 cb => ?_);have hfr := hfr.stp hs;have q1 := q1.stp hs;have q2 := q2.stp hs;have q3 := q3.stp hs;clear cb;refine Zg (.int .i64 (0)) rfl rfl ?_;refine Zb (Zd (Zf (Za (Ze .plain rfl (Gf (g := g4) Try.isAgg37 Try.sizeOf37 rfl q1 fun v5 r5 => ?_)))));refine Ze .plain rfl (Gf (g := g4) Try.isAgg46 Try.sizeOf46 rfl q2 fun v6 r6 => ?_);obtain ⟨y8, cG, h⟩ := Ga h;refine Ze .plain rfl (Zp (g := g4) (vs := [v5, v6]) en28 (.cons rfl (.cons rfl .nil)) (wk28 r5 r6 cG) fun g7 w7_ v7 hs hr => ?_);have hfr := hfr.ext hs;have q2 := q2.ext hs;have q3 := q3.ext hs;have b4 := b4.ext hs;obtain ⟨aB, xH, rfl, lB, rfl⟩ := hr;refine Zn (.tuple #[aB, .int .i64 (y8.2)]) rfl rfl ?_;refine Zw aB (Zi rfl rfl) rfl ?_;refine Zw (.int .i64 (y8.2)) (Zi rfl rfl) rfl ?_;refine Ze .plain rfl (Ti (g := g7) 2008 (⟨⟨[], [], 0, 0⟩⟩ : Gz) Try.zeroValue81 (fun m w => ⟨_, (Gv Tr (Gv Tr (Gv Zv Zv))), rfl⟩) fun g9 w9 p9 hs b9 cb => ?_);have hfr := hfr.stp hs;have q2 := q2.stp hs;have q3 := q3.stp hs;have b4 := b4.stp hs rfl;have lB := lB.stp hs;have yH : OSF 2008 60800 0 g9 w9 64 81 ([] : List Gr) p9 := cb.osf (by rfl);have zH : OSF 2008 60801 1 g9 w9 3 81 ([] : List Int) p9 := cb.osf (by rfl);clear cb;refine Ze .plain rfl (Gm (g := g9) (v := aB) Try.sizeOf81 rfl b9 rfl lB fun l9 kI hs b10 cb => ?_);clear cb;have hfr := hfr.stp hs;have q2 := q2.stp hs;have q3 := q3.stp hs;have b4 := b4.stp hs rfl;refine Zg (.int .i64 (y8.2)) rfl rfl ?_;refine Zb (Zd (Zq h (fun (s : Kb) e w => ∃ (g : Gh) , Fr gI wI g w ∧ e 4 = p2 ∧ PT g.m w (x1 : Th) p2 ∧ e 5 = p3 ∧ PT g.m w (x2 : Kb) p3 ∧ e 6 = p4 ∧ OB 2006 g w 51 (s : Kb) p4 ∧ e 8 = p9 ∧ OB 2008 g w 81 (y8.1 : Gz) p9) (fun X44 rE cF h => ?_) ?_))
 ·refine Zr ?_
  refine Zf (Za (Zn (.int .i64 (y8.2)) rfl rfl ?_));refine Gg (.bool ((y8.2 != (0 : Int)))) rfl rfl rfl rfl ?_;refine Zg (.bool ((y8.2 != (0 : Int)))) rfl rfl ?_;refine Zb (Zd ?_);rcases Zt h with ⟨mB, h⟩ | ⟨mB, h⟩
  ·refine Tn mB rfl ?_
   refine Zf (Za (Ze .plain rfl (Tk (g := l9) Try.isAgg51 Try.sizeOf51 rfl b4 fun eG gG => ?_)));refine Zn (.int .i64 (y8.2)) rfl rfl ?_;refine Ze .plain rfl (Gm (g := l9) (v := eG) Try.sizeOf51 rfl b4 rfl gG fun lI mI hs b47 cb => ?_);clear cb;have hfr := hfr.stp hs;refine Zg (.int .i64 (y8.2)) rfl rfl ?_;refine Zb (Zd (Gq (Wd ?_)));refine Tz ?_;obtain rfl := sinj h;obtain ⟨ad48, cv48, hp48, dF, cr48⟩ := Ql Try.isAgg51 Try.sizeOf51 b47;exact Qy rfl rfl ((show _ = p4 from rfl).trans hp48) dF (show _ = .int .i64 (y8.2) from rfl) ⟨_, hfr, _, _, rfl, cr48, rfl⟩
  ·refine To mB rfl ?_
   obtain ⟨o0, hx, h⟩ := Ga h;refine Gp (fun e w => ∃ (g : Gh) , Fr gI wI g w ∧ e 4 = p2 ∧ PT g.m w (x1 : Th) p2 ∧ e 5 = p3 ∧ PT g.m w (x2 : Kb) p3 ∧ e 6 = p4 ∧ OB 2006 g w 51 ((⟨0, 0⟩ : Kb) : Kb) p4 ∧ e 8 = p9 ∧ OB 2008 g w 81 (y8.1 : Gz) p9 ∧ e 20 = .bool (o0)) (fun Q' hQ => ?_) (fun aI nI hR => ?_)
   ·replace h := hx
    clear hx;refine Zf (Za (Zw (Gk p3 0) (Zc Lp rfl (PT.ptr q3)) rfl ?_));have iG := Zm (Xa).1 q3;refine Ze .plain rfl (Gf (g := l9) Try.isAgg3 Try.sizeOf3 rfl iG fun v62 jG => ?_);obtain rfl := Zj.1 jG;refine Zw (Gk p3 1) (Zc Lr rfl (PT.ptr q3)) rfl ?_;have kG := Zm (Xc).1 q3;refine Ze .plain rfl (Gf (g := l9) Try.isAgg3 Try.sizeOf3 rfl kG fun pI lG => ?_);obtain rfl := Zj.1 lG;refine Ze .plain rfl (Gl (g := l9) 3025 (xs := ([(x2).Low, (x2).High] : List Int)) (vs := [.int .i64 ((x2).Low), .int .i64 ((x2).High)]) Try.underlying31 Try.sizeOf3 Try.zeroValue3 rfl rfl (.cons rfl (.cons rfl .nil)) (RVs.cons (Zj.2 rfl) (RVs.cons (Zj.2 rfl) RVs.nil)) rfl rfl fun mG qI sG hs o66 xG hxt hfl => ?_);have hfr := hfr.stp hs;have q2 := q2.stp hs;have q3 := q3.stp hs;have b4 := b4.stp hs rfl;have b10 := b10.stp hs rfl;obtain ⟨v8, eF, h⟩ := Ga h;refine Ze .plain rfl (Zp (g := mG) (vs := [.int .i64 (0), .int .i64 (100), sG]) en32 (.cons rfl (.cons rfl (.cons rfl .nil))) (wk32 xG eF) fun vB bI sI hs hr => ?_);have hfr := hfr.ext hs;have q2 := q2.ext hs;have q3 := q3.ext hs;have b4 := b4.ext hs;have b10 := b10.ext hs;subst hr;refine Zw (.bool (!v8)) (Wh rfl) rfl ?_;refine Zg (.bool (!v8)) rfl rfl ?_;refine Zb (Zd ?_);rcases Zt h with ⟨nB, h⟩ | ⟨nB, h⟩
    ·refine Tn nB rfl ?_
     refine Zu ?_;obtain rfl := sinj h;exact hQ _ _ ⟨vB, hfr, rfl, q2, rfl, q3, rfl, b4, rfl, b10, rfl⟩
    ·refine To nB rfl ?_
     refine Za (Zw (Gk p3 0) (Zc Lp rfl (PT.ptr q3)) rfl ?_);have yG := Zm (Xa).1 q3;refine Ze .plain rfl (Gf (g := vB) Try.isAgg3 Try.sizeOf3 rfl yG fun jJ zG => ?_);obtain rfl := Zj.1 zG;refine Zw (Gk p3 1) (Zc Lr rfl (PT.ptr q3)) rfl ?_;have aH := Zm (Xc).1 q3;refine Ze .plain rfl (Gf (g := vB) Try.isAgg3 Try.sizeOf3 rfl aH fun kJ cH => ?_);obtain rfl := Zj.1 cH;refine Gg (.bool ((decide ((x2).Low > (x2).High)))) rfl rfl rfl rfl ?_;refine Zg (.bool ((decide ((x2).Low > (x2).High)))) rfl rfl ?_;refine Zb ?_;obtain rfl := sinj h;exact hQ _ _ ⟨vB, hfr, rfl, q2, rfl, q3, rfl, b4, rfl, b10, rfl⟩
   ·clear hx
    obtain ⟨cD, hfr, yD, zD, aE, bE, i6, l8, iE, lE, n9⟩ := hR;rcases Zt h with ⟨oB, h⟩ | ⟨oB, h⟩
    ·refine Tv (Eq.trans (show ev _ _ = .bool (o0) from n9) (congrArg Value.bool oB)) ?_
     refine Zf (Za (Ze .plain rfl (Tk (g := cD) Try.isAgg51 Try.sizeOf51 i6 l8 fun gH jH => ?_)));refine Ze .plain rfl (Gm (g := cD) (v := gH) Try.sizeOf51 i6 l8 rfl jH fun lJ mJ hs b77 cb => ?_);clear cb;have hfr := hfr.stp hs;refine Zg (.int .i64 (3)) rfl rfl ?_;refine Zb (Zd (Gq (Wd ?_)));refine Tz ?_;obtain rfl := sinj h;obtain ⟨ad78, cv78, hp78, rF, cr78⟩ := Ql Try.isAgg51 Try.sizeOf51 b77;exact Qy rfl rfl ((show _ = p4 from i6).trans hp78) rF (show _ = .int .i64 (3) from rfl) ⟨_, hfr, _, _, rfl, cr78, rfl⟩
    ·refine Tj (Eq.trans (show ev _ _ = .bool (o0) from n9) (congrArg Value.bool oB)) ?_
     exact Zu (Ts (Zd (cF ((⟨0, 0⟩ : Kb)) _ _ ⟨cD, hfr, yD, zD, aE, bE, i6, l8, iE, lE⟩ h)))
 ·rintro oD dI nJ ⟨kH, hfr, yB, zB, cC, g8, uC, n8, vC, bD⟩ h
  refine Zf (Wt (x := .tmp 8) Try.isAgg81 Try.sizeOf81 bD fun uE lH sF => ?_);refine Zs (x := .tmp 4) Try.isAgg46 Try.sizeOf46 zB fun vE mH tF => ?_;have nH := Zm (Xc).1 g8;refine Zs (x := .tmp 36) Try.isAgg3 Try.sizeOf3 nH fun oJ oH uF => ?_;obtain rfl := Zj.1 oH;obtain ⟨l5, vF, h⟩ := Ga h;refine Wt (x := .tmp 8) Try.isAgg81 Try.sizeOf81 bD fun xE pH xF => ?_;refine Zs (x := .tmp 4) Try.isAgg46 Try.sizeOf46 zB fun yE qH yF => ?_;have sH := Zm (Xa).1 g8;refine Zs (x := .tmp 41) Try.isAgg3 Try.sizeOf3 sH fun pJ tH aG => ?_;obtain rfl := Zj.1 tH;obtain ⟨t5, bG, h⟩ := Ga h;refine Tx (g := kH) (n := 10) [(4, (fun v g w => v = .int .i64 (l5))), (9, (fun v g w => v = .int .i64 (t5)))] [0, 1, 2, 3, 4, 5, 6, 7, 8, 9] rfl Qq (by kernel_rfl) (⟨fun _ => Wf _, fun _ => Wf _, trivial⟩) ?_;refine Tt (c := uE) rfl rfl .plain (fun _ _ h => ⟨h.ch, fun b hb _ => h.below.block b hb⟩) sF vC ?_;refine Tt (c := vE) rfl rfl .plain (fun _ _ h => h.ch) tF yB ?_;refine Zz (Gk p3 1) rfl rfl (Zc Lr cC (PT.ptr g8)) ?_;refine Tt (c := .int .i64 ((x2).High)) rfl rfl .plain (fun _ _ h => h.ch) uF rfl ?_;refine Ka (φ := fun v g w => v = .int .i64 (l5)) rfl rfl .plain (fun g w hd => Zp (g := g) (vs := [uE, vE, .int .i64 ((x2).High)]) en31 (.cons rfl (.cons rfl (.cons rfl .nil))) (wk31 (lH.ext hd.1) (mH.ext hd.1) vF) fun g' w' v hs hr => ⟨g', hs, hr⟩) (fun qJ hv => ?_);obtain ⟨_, _, _, rfl⟩ := hv;refine Tt (c := xE) rfl rfl .plain (fun _ _ h => ⟨h.ch, fun b hb _ => h.below.block b hb⟩) xF vC ?_;refine Tt (c := yE) rfl rfl .plain (fun _ _ h => h.ch) yF yB ?_;refine Zz (Gk p3 0) rfl rfl (Zc Lp cC (PT.ptr g8)) ?_;refine Tt (c := .int .i64 ((x2).Low)) rfl rfl .plain (fun _ _ h => h.ch) aG rfl ?_;refine Ka (φ := fun v g w => v = .int .i64 (t5)) rfl rfl .plain (fun g w hd => Zp (g := g) (vs := [xE, yE, .int .i64 ((x2).Low)]) en31 (.cons rfl (.cons rfl (.cons rfl .nil))) (wk31 (pH.ext hd.1) (qH.ext hd.1) bG) fun g' w' v hs hr => ⟨g', hs, hr⟩) (fun rJ hv => ?_);obtain ⟨_, _, _, rfl⟩ := hv;refine Kr fun zE uH hs => ?_;have hfr := hfr.ext hs;have n8 := n8.ext hs;clear hs;have lD : RV zE.m uH (⟨l5, t5⟩ : Kb) (.agg (Qd [[.int .i64 0], [.int .i64 0]] [(0, .int .i64 (l5)), (1, .int .i64 (t5))]).flatten.toArray) := Qj rfl (Te (rfl) (Qh (rfl)));generalize mE : (Value.agg (Qd [[.int .i64 0], [.int .i64 0]] [(0, .int .i64 (l5)), (1, .int .i64 (t5))]).flatten.toArray) = nD at lD;refine Zw nD (mE ▸ Qu (vs := [(0, .int .i64 (l5)), (1, .int .i64 (t5))]) [[.int .i64 0], [.int .i64 0]] Ei rfl rfl (.cons rfl (.cons rfl .nil)) ⟨⟨_, rfl, rfl⟩, ⟨⟨_, rfl, rfl⟩, trivial⟩⟩) rfl ?_;refine Ze .plain rfl (Gm (g := zE) (v := nD) Try.sizeOf51 uC n8 rfl lD fun iI jI hs b108 cb => ?_);clear cb;have hfr := hfr.stp hs;refine Zg (.int .i64 (0)) rfl rfl ?_;refine Zb (Zd (Gq ?_));obtain rfl := sinj h;obtain ⟨ad109, cv109, hp109, oE, cr109⟩ := Ql Try.isAgg51 Try.sizeOf51 b108;exact Qy rfl rfl ((show _ = p4 from uC).trans hp109) oE (show _ = .int .i64 (0) from rfl) ⟨_, hfr, _, _, rfl, cr109, rfl⟩
end Go.Proofs.Ytlmibfohllgmeaa
