import Derived.Test.YtmpjooneiaiffaaCode3
set_option maxRecDepth 8000
set_option maxHeartbeats 4000000
namespace Go.Proofs.Ytmpjooneiaiffaa
open Go.RowKit
def f83 (x0 : BoxShuttle) (z0 : BoxBoxLoom) : Option (Bool) :=
 (f84 z0 x0).bind fun y5 =>
 some ((!y5))
theorem en83 : Enters Try.prog 83 := enters_of Try.func83 (by kernel_rfl) rfl
theorem wk83 {gI : Gh} {wI : World} {x0 : BoxShuttle} {z0 : BoxBoxLoom} {up0 : Value} (rp0 : RV gI.m wI x0 up0) {pf0 : Value} (qf0 : PT gI.m wI z0 pf0) {r : Bool} (h : f83 x0 z0 = some r) : Fn Try.prog 83 #[up0, pf0] gI wI (fun _ _ v => v = .bool (r)) := by
 unfold f83 at h
 refine fn_of_E Try.func83 rfl (Nat.le_of_ble_eq_true rfl) fun g0 hm hfr => ?_
 have qf0 : PT g0.m wI z0 pf0 := hm ▸ qf0
 have rp0 : RV g0.m wI x0 up0 := hm ▸ rp0
 show E _ 8 none _ _ _ _ _
 refine E_seq (E_region (EL_do .plain rfl (D_box (g := g0) rfl rp0 fun g1 w1 p1 hs q1 => ?_)))
 have hfr := hfr.ext hs
 have qf0 := qf0.ext hs
 refine EL_at (.bool false) rfl rfl ?_
 refine EL_nil (thn_n (E_seq (E_region (EL_do .plain rfl (D_load (g := g1) Try.isAgg102 Try.sizeOf102 rfl qf0 fun v2 r2 => ?_)))))
 refine EL_do .plain rfl (D_load (g := g1) Try.isAgg87 Try.sizeOf87 rfl q1 fun v3 r3 => ?_)
 obtain ⟨y5, hy5, h⟩ := bsome h
 refine EL_do .plain rfl (D_call (g := g1) (vs := [v2, v3]) en84 (.cons rfl (.cons rfl .nil)) (wk84 r2 r3 hy5) fun g4 w4_ v4 hs hr => ?_)
 have hfr := hfr.ext hs
 subst hr
 refine EL_p (.bool (!y5)) (P_not rfl) rfl ?_
 refine EL_at (.bool (!y5)) rfl rfl ?_
 refine EL_nil (thn_n (E_ret ?_))
 obtain rfl := sinj h
 exact end1 rfl rfl (show _ = .bool (!y5) from rfl) ⟨_, hfr, rfl⟩
def f108 : Nat → (List Int) → (Int) → (Int) → (Int) → Option ((List Int))
 | 0, _, _, _, _ => none
 | n + 1, x0, x1, x2, x3 =>
  lp (σ := (List Int) × Int × Int × Int × Bool × Bool) (fun k1 (u3, o0, j1, i3, j3, z3) =>
   jn (σ := (List Int)) (fun z4 =>
    jn (σ := (List Int)) (fun i6 =>
     Option.bind (α := Int) (
      bif (!j3) then
       none
      else
       some (i3)
      ) fun j6 =>
     none
     ) fun t8 =>
    bif (i3 == (0 : Int)) then
     none
    else
     t8 (z4)
    ) fun k6 =>
   bif (decide ((w64 (j1 - o0)) ≤ (12 : Int))) then
    (f110 u3 o0 j1).bind fun y9 =>
    some (y9)
   else
    k6 (u3)
   ) big (x0, x1, x2, x3, true, true)
def f51 (x0 : BoxLoom) : Option (BoxBoxLoom × Int) :=
 jn (σ := BoxBoxLoom) (fun o0 =>
  Option.bind (α := (List ((Vector Int 2) × Bool))) (
   lp (σ := (List ((Vector Int 2) × Bool)) × Int) (fun aB (u7, j1) =>
    bif (decide (j1 < (((x0).Shuttles).length : Int))) then
     Option.bind (α := (List ((Vector Int 2) × Bool))) (
      (idx ((x0).Shuttles) j1).bind fun t5 =>
      some ((mset u7 ((⟨List.toArray [(t5).Side, (t5).Box], rfl⟩ : Vector Int 2)) true))
      ) fun g7 =>
     aB (g7, (w64 (j1 + (1 : Int))))
    else
     some (u7)
    ) big (([] : List ((Vector Int 2) × Bool)), (0 : Int))
   ) fun i7 =>
  jn (σ := BoxBoxLoom) (fun bB =>
   some ((⟨x0⟩ : BoxBoxLoom), (0 : Int))
   ) fun cB =>
  bif (decide (((i7).length : Int) < (((x0).Shuttles).length : Int))) then
   some ((⟨x0⟩ : BoxBoxLoom), (6 : Int))
  else
   cB (o0)
  ) fun k54 =>
 Option.bind (α := Bool) (
  bif ((((x0).Boxes).length : Int) != (2 : Int)) then
   some (((((x0).Boxes).length : Int) != (2 : Int)))
  else
   some (((((x0).At).length : Int) != (2 : Int)))
  ) fun j6 =>
 bif j6 then
  some ((⟨x0⟩ : BoxBoxLoom), (4 : Int))
 else
  (f85 ((⟨x0⟩ : BoxBoxLoom))).bind fun mA =>
  bif (!mA) then
   some ((⟨x0⟩ : BoxBoxLoom), (3 : Int))
  else
   bif (decide ((((x0).Shuttles).length : Int) > (6 : Int))) then
    some ((⟨x0⟩ : BoxBoxLoom), (5 : Int))
   else
    Option.bind (α := Bool) (
     bif ((((x0).Shuttles).length : Int) == (0 : Int)) then
      some (((((x0).Shuttles).length : Int) == (0 : Int)))
     else
      (f86 ((x0).Shuttles) ((fun a0 => f83 a0 ((⟨x0⟩ : BoxBoxLoom))))).bind fun dB =>
      some (dB)
     ) fun v6 =>
    bif v6 then
     some ((⟨x0⟩ : BoxBoxLoom), (2 : Int))
    else
     k54 ((⟨⟨[], [], []⟩⟩ : BoxBoxLoom))
theorem en51 : Enters Try.prog 51 := enters_of Try.func51 (by kernel_rfl) rfl
theorem wk51 {gI : Gh} {wI : World} {x0 : BoxLoom} {up0 : Value} (rp0 : RV gI.m wI x0 up0) {r : BoxBoxLoom × Int} (h : f51 x0 = some r) : Fn Try.prog 51 #[up0] gI wI (fun m w v => ∃ y0 y1, v = .tuple #[y0, y1] ∧ RV m w (r.1) y0 ∧ y1 = .int .i64 (r.2)) := by
 unfold f51 at h
 refine fn_of_E Try.func51 rfl (Nat.le_of_ble_eq_true rfl) fun g0 hm hfr => ?_
 have rp0 : RV g0.m wI x0 up0 := hm ▸ rp0
 show E _ 66 none _ _ _ _ _
 refine E_seq (E_region (EL_do .plain rfl (D_box (g := g0) rfl rp0 fun g1 w1 p1 hs q1 => ?_)))
 have hfr := hfr.ext hs
 refine EL_do .plain rfl (D_allocOc (g := g1) 2002 (⟨⟨[], [], []⟩⟩ : BoxBoxLoom) Try.zeroValue102 (fun m w => ⟨_, (rep_two rep_nil (rep_two rep_nil rep_nil)), rfl⟩) fun g2 w2 p2 hs b2 cb => ?_)
 have hfr := hfr.stp hs
 have q1 := q1.stp hs
 have x6 : OSF 2002 60200 0 g2 w2 3 102 ([] : List Int) p2 := cb.osf (by rfl)
 have y6 : OSF 2002 60201 1 g2 w2 3 102 ([] : List Int) p2 := cb.osf (by rfl)
 have a7 : OSF 2002 60202 2 g2 w2 87 102 ([] : List BoxShuttle) p2 := cb.osf (by rfl)
 clear cb
 refine EL_at (.int .i64 (0)) rfl rfl ?_
 refine EL_nil (thn_n (E_seq (E_region (EL_do .plain rfl (D_load (g := g2) Try.isAgg25 Try.sizeOf25 rfl q1 fun v3 r3 => ?_)))))
 have r4 : RV g2.m _ (⟨x0⟩ : BoxBoxLoom) (.agg (setCh [[.slice none 0 0, .slice none 0 0, .slice none 0 0]] [(0, v3)]).flatten.toArray) := RV_build rfl (rep_last (RV.cells r3))
 generalize lE : (Value.agg (setCh [[.slice none 0 0, .slice none 0 0, .slice none 0 0]] [(0, v3)]).flatten.toArray) = v4 at r4
 refine EL_p v4 (lE ▸ P_build (vs := [(0, v3)]) [[.slice none 0 0, .slice none 0 0, .slice none 0 0]] lay_102 rfl rfl (.cons rfl .nil) ⟨⟨_, rfl, cells_size r3⟩, trivial⟩) rfl ?_
 refine EL_do .plain rfl (D_allocOc (g := g2) 2004 (⟨⟨[], [], []⟩⟩ : BoxBoxLoom) Try.zeroValue102 (fun m w => ⟨_, (rep_two rep_nil (rep_two rep_nil rep_nil)), rfl⟩) fun g5 w5 p5 hs b5 cb => ?_)
 have hfr := hfr.stp hs
 have q1 := q1.stp hs
 have x6 := x6.stp hs rfl
 have y6 := y6.stp hs rfl
 have a7 := a7.stp hs rfl
 have b2 := b2.stp hs rfl
 have r4 := r4.stp hs
 have yF : OSF 2004 60400 0 g5 w5 3 102 ([] : List Int) p5 := cb.osf (by rfl)
 have zF : OSF 2004 60401 1 g5 w5 3 102 ([] : List Int) p5 := cb.osf (by rfl)
 have aG : OSF 2004 60402 2 g5 w5 87 102 ([] : List BoxShuttle) p5 := cb.osf (by rfl)
 clear cb
 refine EL_do .plain rfl (D_storeOc (g := g5) (v := v4) Try.sizeOf102 rfl b5 rfl r4 fun g6 w6 hs b6 cb => ?_)
 clear cb
 have hfr := hfr.stp hs
 have q1 := q1.stp hs
 have x6 := x6.stp hs rfl
 have y6 := y6.stp hs rfl
 have a7 := a7.stp hs rfl
 have b2 := b2.stp hs rfl
 obtain ⟨gp6, hs, qp6⟩ := OB.pub b6
 have hfr := hfr.stp hs
 have q1 := q1.stp hs
 have x6 := x6.stp hs rfl
 have y6 := y6.stp hs rfl
 have a7 := a7.stp hs rfl
 have b2 := b2.stp hs rfl
 refine EL_nil (thn_n (E_seq (E_region (EL_p ((.func (.func 83) #[] #[p5])) (P_makeFunc (capf_0_1 (show ev _ _ = p5 from rfl))) rfl ?_))))
 refine EL_at ((.func (.func 83) #[] #[p5])) rfl rfl ?_
 refine EL_nil (thn_n (E_joinC h (fun (s : BoxBoxLoom) e w => ∃ (g : Gh) , Fr gI wI g w ∧ e 1 = p1 ∧ PT g.m w (x0 : BoxLoom) p1 ∧ e 2 = p2 ∧ OB 2002 g w 102 (s : BoxBoxLoom) p2 ∧ OSF 2002 60200 0 g w 3 102 (((s).BoxLoom).Boxes) p2 ∧ OSF 2002 60201 1 g w 3 102 (((s).BoxLoom).At) p2 ∧ OSF 2002 60202 2 g w 87 102 (((s).BoxLoom).Shuttles) p2 ∧ e 4 = p5 ∧ PT g.m w ((⟨x0⟩ : BoxBoxLoom) : BoxBoxLoom) p5) (fun X54 k54 eD h => ?_) ?_))
 ·refine E_block ?_
  obtain ⟨j6, hx, h⟩ := bsome h
  refine E_join (fun e w => ∃ (g : Gh) , Fr gI wI g w ∧ e 1 = p1 ∧ PT g.m w (x0 : BoxLoom) p1 ∧ e 2 = p2 ∧ OB 2002 g w 102 ((⟨⟨[], [], []⟩⟩ : BoxBoxLoom) : BoxBoxLoom) p2 ∧ OSF 2002 60200 0 g w 3 102 ((((⟨⟨[], [], []⟩⟩ : BoxBoxLoom)).BoxLoom).Boxes) p2 ∧ OSF 2002 60201 1 g w 3 102 ((((⟨⟨[], [], []⟩⟩ : BoxBoxLoom)).BoxLoom).At) p2 ∧ OSF 2002 60202 2 g w 87 102 ((((⟨⟨[], [], []⟩⟩ : BoxBoxLoom)).BoxLoom).Shuttles) p2 ∧ e 4 = p5 ∧ PT g.m w ((⟨x0⟩ : BoxBoxLoom) : BoxBoxLoom) p5 ∧ e 5 = (.func (.func 83) #[] #[p5]) ∧ e 12 = .bool (j6)) (fun Q' hQ => ?_) (fun bG yG hR => ?_)
  ·replace h := hx
   clear hx
   refine E_seq (E_region (EL_p (fPtr p1 0) (P_fieldAddr at_25_0 rfl (PT.ptr q1)) rfl ?_))
   have mE := PT_field (part_BoxLoom_0).1 q1
   refine EL_do .plain rfl (D_load (g := gp6) Try.isAgg22 Try.sizeOf22 rfl mE fun zG nE => ?_)
   refine EL_p (.int .i64 (((x0).Boxes).length : Int)) (P_len Try.underlying22 rfl nE) rfl ?_
   refine EL_in (.bool (((((x0).Boxes).length : Int) != (2 : Int)))) rfl rfl rfl rfl ?_
   refine EL_at (.bool (((((x0).Boxes).length : Int) != (2 : Int)))) rfl rfl ?_
   refine EL_nil (thn_n ?_)
   rcases csome h with ⟨u9, h⟩ | ⟨u9, h⟩
   ·refine E_ct u9 rfl ?_
    refine E_skip ?_
    obtain rfl := sinj h
    exact hQ _ _ ⟨gp6, hfr, rfl, q1, rfl, b2, x6, y6, a7, rfl, qp6, rfl, rfl⟩
   ·refine E_cf u9 rfl ?_
    refine E_region (EL_p (fPtr p1 1) (P_fieldAddr at_25_1 rfl (PT.ptr q1)) rfl ?_)
    have oE := PT_field (part_BoxLoom_1).1 q1
    refine EL_do .plain rfl (D_load (g := gp6) Try.isAgg22 Try.sizeOf22 rfl oE fun aH rE => ?_)
    refine EL_p (.int .i64 (((x0).At).length : Int)) (P_len Try.underlying22 rfl rE) rfl ?_
    refine EL_in (.bool (((((x0).At).length : Int) != (2 : Int)))) rfl rfl rfl rfl ?_
    refine EL_at (.bool (((((x0).At).length : Int) != (2 : Int)))) rfl rfl ?_
    refine EL_nil ?_
    obtain rfl := sinj h
    exact hQ _ _ ⟨gp6, hfr, rfl, q1, rfl, b2, x6, y6, a7, rfl, qp6, rfl, rfl⟩
  ·clear hx
   obtain ⟨nA, hfr, j7, j3, x5, l5, u2_0_66, u2_1_66, u2_2_66, c7, u3, rC, v8⟩ := hR
   rcases csome h with ⟨y9, h⟩ | ⟨y9, h⟩
   ·refine E_cond_true (Eq.trans (show ev _ _ = .bool (j6) from v8) (congrArg Value.bool y9)) ?_
    refine E_seq (E_region (EL_do .plain rfl (D_load (g := nA) Try.isAgg102 Try.sizeOf102 c7 u3 fun sE tE => ?_)))
    refine EL_do .plain rfl (D_storeOc (g := nA) (v := sE) Try.sizeOf102 x5 l5 rfl tE fun bH cH hs b69 cb => ?_)
    clear cb
    have hfr := hfr.stp hs
    refine EL_at (.int .i64 (4)) rfl rfl ?_
    refine EL_nil (thn_n (E_ret (blk_r ?_)))
    refine thn_r ?_
    obtain rfl := sinj h
    obtain ⟨ad70, cv70, hp70, gD, cr70⟩ := ob_read Try.isAgg102 Try.sizeOf102 b69
    exact endm_ct rfl rfl ((show _ = p2 from x5).trans hp70) gD (show _ = .int .i64 (4) from rfl) ⟨_, hfr, _, _, rfl, cr70, rfl⟩
   ·refine E_cond_false (Eq.trans (show ev _ _ = .bool (j6) from v8) (congrArg Value.bool y9)) ?_
    refine E_seq (E_region (EL_do .plain rfl (D_load (g := nA) Try.isAgg102 Try.sizeOf102 c7 u3 fun uE vE => ?_)))
    obtain ⟨mA, iD, h⟩ := bsome h
    refine EL_do .plain rfl (D_call (g := nA) (vs := [uE]) en85 (.cons rfl .nil) (wk85 vE iD) fun m7 cG dH hs hr => ?_)
    have hfr := hfr.ext hs
    have j3 := j3.ext hs
    have u2_0_66 := u2_0_66.ext hs
    have u2_1_66 := u2_1_66.ext hs
    have u2_2_66 := u2_2_66.ext hs
    have l5 := l5.ext hs
    have u3 := u3.ext hs
    subst hr
    refine EL_p (.bool (!mA)) (P_not rfl) rfl ?_
    refine EL_at (.bool (!mA)) rfl rfl ?_
    refine EL_nil (thn_n ?_)
    rcases csome h with ⟨z9, h⟩ | ⟨z9, h⟩
    ·refine E_ct z9 rfl ?_
     refine E_seq (E_region (EL_do .plain rfl (D_load (g := m7) Try.isAgg102 Try.sizeOf102 c7 u3 fun xE yE => ?_)))
     refine EL_do .plain rfl (D_storeOc (g := m7) (v := xE) Try.sizeOf102 x5 l5 rfl yE fun gH iH hs b76 cb => ?_)
     clear cb
     have hfr := hfr.stp hs
     refine EL_at (.int .i64 (3)) rfl rfl ?_
     refine EL_nil (thn_n (E_ret (blk_r ?_)))
     refine thn_r ?_
     obtain rfl := sinj h
     obtain ⟨ad77, cv77, hp77, jD, cr77⟩ := ob_read Try.isAgg102 Try.sizeOf102 b76
     exact endm_ct rfl rfl ((show _ = p2 from x5).trans hp77) jD (show _ = .int .i64 (3) from rfl) ⟨_, hfr, _, _, rfl, cr77, rfl⟩
    ·refine E_cf z9 rfl ?_
     refine E_seq (E_region (EL_p (fPtr p1 2) (P_fieldAddr at_25_2 j7 (PT.ptr j3)) rfl ?_))
     have zE := PT_field (part_BoxLoom_2).1 j3
     refine EL_do .plain rfl (D_load (g := m7) Try.isAgg23 Try.sizeOf23 rfl zE fun jH cF => ?_)
     refine EL_p (.int .i64 (((x0).Shuttles).length : Int)) (P_len Try.underlying23 rfl cF) rfl ?_
     refine EL_p (.bool ((decide ((((x0).Shuttles).length : Int) > (6 : Int))))) (P_int rfl rfl rfl) rfl ?_
     refine EL_p (.bool ((decide ((((x0).Shuttles).length : Int) > (6 : Int))))) (P_assign rfl) rfl ?_
     refine EL_nil (thn_n ?_)
     rcases csome h with ⟨bA, h⟩ | ⟨bA, h⟩
     ·refine E_ct bA rfl ?_
      refine E_seq (E_region (EL_do .plain rfl (D_load (g := m7) Try.isAgg102 Try.sizeOf102 c7 u3 fun dF eF => ?_)))
      refine EL_do .plain rfl (D_storeOc (g := m7) (v := dF) Try.sizeOf102 x5 l5 rfl eF fun kH lH hs b82 cb => ?_)
      clear cb
      have hfr := hfr.stp hs
      refine EL_at (.int .i64 (5)) rfl rfl ?_
      refine EL_nil (thn_n (E_ret (blk_r ?_)))
      refine thn_r ?_
      obtain rfl := sinj h
      obtain ⟨ad83, cv83, hp83, kD, cr83⟩ := ob_read Try.isAgg102 Try.sizeOf102 b82
      exact endm_ct rfl rfl ((show _ = p2 from x5).trans hp83) kD (show _ = .int .i64 (5) from rfl) ⟨_, hfr, _, _, rfl, cr83, rfl⟩
     ·refine E_cf bA rfl ?_
      obtain ⟨v6, hx, h⟩ := bsome h
      refine E_join (fun e w => ∃ (g : Gh) , Fr gI wI g w ∧ e 1 = p1 ∧ PT g.m w (x0 : BoxLoom) p1 ∧ e 2 = p2 ∧ OB 2002 g w 102 ((⟨⟨[], [], []⟩⟩ : BoxBoxLoom) : BoxBoxLoom) p2 ∧ OSF 2002 60200 0 g w 3 102 ((((⟨⟨[], [], []⟩⟩ : BoxBoxLoom)).BoxLoom).Boxes) p2 ∧ OSF 2002 60201 1 g w 3 102 ((((⟨⟨[], [], []⟩⟩ : BoxBoxLoom)).BoxLoom).At) p2 ∧ OSF 2002 60202 2 g w 87 102 ((((⟨⟨[], [], []⟩⟩ : BoxBoxLoom)).BoxLoom).Shuttles) p2 ∧ e 4 = p5 ∧ PT g.m w ((⟨x0⟩ : BoxBoxLoom) : BoxBoxLoom) p5 ∧ e 33 = .bool (v6)) (fun Q' hQ => ?_) (fun dG mH hR => ?_)
      ·replace h := hx
       clear hx
       refine E_seq (E_region (EL_p (fPtr p1 2) (P_fieldAddr at_25_2 j7 (PT.ptr j3)) rfl ?_))
       have iF := PT_field (part_BoxLoom_2).1 j3
       refine EL_do .plain rfl (D_load (g := m7) Try.isAgg23 Try.sizeOf23 rfl iF fun nH nF => ?_)
       refine EL_p (.int .i64 (((x0).Shuttles).length : Int)) (P_len Try.underlying23 rfl nF) rfl ?_
       refine EL_in (.bool (((((x0).Shuttles).length : Int) == (0 : Int)))) rfl rfl rfl rfl ?_
       refine EL_at (.bool (((((x0).Shuttles).length : Int) == (0 : Int)))) rfl rfl ?_
       refine EL_nil (thn_n ?_)
       rcases csome h with ⟨gA, h⟩ | ⟨gA, h⟩
       ·refine E_ct gA rfl ?_
        refine E_skip ?_
        obtain rfl := sinj h
        exact hQ _ _ ⟨m7, hfr, j7, j3, x5, l5, u2_0_66, u2_1_66, u2_2_66, c7, u3, rfl⟩
       ·refine E_cf gA rfl ?_
        refine E_region (EL_p (fPtr p1 2) (P_fieldAddr at_25_2 j7 (PT.ptr j3)) rfl ?_)
        have oF := PT_field (part_BoxLoom_2).1 j3
        refine EL_do .plain rfl (D_load (g := m7) Try.isAgg23 Try.sizeOf23 rfl oF fun pF qF => ?_)
        refine EL_mv rC rfl ?_
        obtain ⟨dB, lD, h⟩ := bsome h
        refine EL_do .plain rfl (D_call (g := m7) (vs := [pF, (.func (.func 83) #[] #[p5])]) en86 (.cons rfl (.cons rfl .nil)) (wk86 qF ⟨83, #[], #[p5], rfl, en83, fun g' w' hch a0 b0 r hu0 hr => by exact Fn.mono (wk83 hu0 (u3.ch hch) hr) fun _ _ _ h => RV_bool.2 h⟩ lD) fun rF eG oH hs hr => ?_)
        have hfr := hfr.ext hs
        have j3 := j3.ext hs
        have u2_0_66 := u2_0_66.ext hs
        have u2_1_66 := u2_1_66.ext hs
        have u2_2_66 := u2_2_66.ext hs
        have l5 := l5.ext hs
        have u3 := u3.ext hs
        subst hr
        refine EL_at (.bool (dB)) rfl rfl ?_
        refine EL_nil ?_
        obtain rfl := sinj h
        exact hQ _ _ ⟨rF, hfr, j7, j3, x5, l5, u2_0_66, u2_1_66, u2_2_66, c7, u3, rfl⟩
      ·clear hx
       obtain ⟨eB, hfr, tC, uC, o8, oA, u2_0_98, u2_1_98, u2_2_98, pA, qA, x8⟩ := hR
       rcases csome h with ⟨iA, h⟩ | ⟨iA, h⟩
       ·refine E_cond_true (Eq.trans (show ev _ _ = .bool (v6) from x8) (congrArg Value.bool iA)) ?_
        refine E_seq (E_region (EL_do .plain rfl (D_load (g := eB) Try.isAgg102 Try.sizeOf102 pA qA fun mD nD => ?_)))
        refine EL_do .plain rfl (D_storeOc (g := eB) (v := mD) Try.sizeOf102 o8 oA rfl nD fun gG hG hs b101 cb => ?_)
        clear cb
        have hfr := hfr.stp hs
        refine EL_at (.int .i64 (2)) rfl rfl ?_
        refine EL_nil (thn_n (E_ret (blk_r ?_)))
        refine thn_r ?_
        obtain rfl := sinj h
        obtain ⟨ad102, cv102, hp102, vC, cr102⟩ := ob_read Try.isAgg102 Try.sizeOf102 b101
        exact endm_ct rfl rfl ((show _ = p2 from o8).trans hp102) vC (show _ = .int .i64 (2) from rfl) ⟨_, hfr, _, _, rfl, cr102, rfl⟩
       ·refine E_cond_false (Eq.trans (show ev _ _ = .bool (v6) from x8) (congrArg Value.bool iA)) ?_
        exact E_skip (blk_n (thn_n (eD ((⟨⟨[], [], []⟩⟩ : BoxBoxLoom)) _ _ ⟨eB, hfr, tC, uC, o8, oA, u2_0_98, u2_1_98, u2_2_98, pA, qA⟩ h)))
 ·rintro o0 sF iG ⟨oD, hfr, y8, b7, iB, v7, u2_0_103, u2_1_103, u2_2_103, jB, c8⟩ h
  refine E_seq (E_region (EL_do .plain rfl (D_makeMap (g := oD) (encK pl_138) Bool 8043 fun lB jG d7 hs m104 => ?_)))
  have hfr := hfr.stp hs
  have b7 := b7.stp hs
  have u2_0_103 := u2_0_103.stp hs rfl
  have u2_1_103 := u2_1_103.stp hs rfl
  have u2_2_103 := u2_2_103.stp hs rfl
  have v7 := v7.stp hs rfl
  have c8 := c8.stp hs
  refine EL_at d7 rfl rfl ?_
  refine EL_nil (thn_n ?_)
  obtain ⟨i7, hx, h⟩ := bsome h
  refine E_join (fun e w => ∃ (g : Gh) , Fr gI wI g w ∧ e 1 = p1 ∧ PT g.m w (x0 : BoxLoom) p1 ∧ e 2 = p2 ∧ OB 2002 g w 102 (o0 : BoxBoxLoom) p2 ∧ OSF 2002 60200 0 g w 3 102 (((o0).BoxLoom).Boxes) p2 ∧ OSF 2002 60201 1 g w 3 102 (((o0).BoxLoom).At) p2 ∧ OSF 2002 60202 2 g w 87 102 (((o0).BoxLoom).Shuttles) p2 ∧ e 4 = p5 ∧ PT g.m w ((⟨x0⟩ : BoxBoxLoom) : BoxBoxLoom) p5 ∧ e 6 = d7 ∧ MP (encK pl_138) 8043 g w (i7 : List ((Vector Int 2) × Bool)) d7) (fun Q' hQ => ?_) (fun tF kG hR => ?_)
  ·replace h := hx
   clear hx
   refine E_seq (E_region (EL_p (fPtr p1 2) (P_fieldAddr at_25_2 y8 (PT.ptr b7)) rfl ?_))
   have sD := PT_field (part_BoxLoom_2).1 b7
   refine EL_do .plain rfl (D_load (g := lB) Try.isAgg23 Try.sizeOf23 rfl sD fun g8 mB => ?_)
   refine EL_p (.int .i64 (((x0).Shuttles).length : Int)) (P_len Try.underlying23 rfl mB) rfl ?_
   refine EL_mw (.int .i64 (0)) rfl rfl ?_
   refine EL_nil (thn_n (E_block ?_))
   refine E_lp h (fun (s : (List ((Vector Int 2) × Bool)) × Int) e w => ∃ (g : Gh) , Fr gI wI g w ∧ e 1 = p1 ∧ PT g.m w (x0 : BoxLoom) p1 ∧ e 2 = p2 ∧ OB 2002 g w 102 (o0 : BoxBoxLoom) p2 ∧ OSF 2002 60200 0 g w 3 102 (((o0).BoxLoom).Boxes) p2 ∧ OSF 2002 60201 1 g w 3 102 (((o0).BoxLoom).At) p2 ∧ OSF 2002 60202 2 g w 87 102 (((o0).BoxLoom).Shuttles) p2 ∧ e 4 = p5 ∧ PT g.m w ((⟨x0⟩ : BoxBoxLoom) : BoxBoxLoom) p5 ∧ e 6 = d7 ∧ MP (encK pl_138) 8043 g w (s.1 : List ((Vector Int 2) × Bool)) d7 ∧ e 45 = g8 ∧ RV g.m w ((x0).Shuttles : List BoxShuttle) g8 ∧ e 46 = .int .i64 ((((x0).Shuttles).length : Int)) ∧ e 47 = .int .i64 (s.2)) ⟨lB, hfr, y8, b7, iB, v7, u2_0_103, u2_1_103, u2_2_103, jB, c8, rfl, m104, rfl, mB, rfl, rfl⟩ (fun X135 aB xC => ?_)
   rintro ⟨u7, j1⟩ uF lG ⟨jA, hfr, a9, z3, d9, z4, u2_0_136, u2_1_136, u2_2_136, i9, i5, i8, i6, m8, i3, n8, o7⟩ h
   refine E_seq (E_region (EL_p (.bool ((decide (j1 < (((x0).Shuttles).length : Int))))) (P_int o7 n8 rfl) rfl ?_))
   refine EL_nil (thn_n (E_seq ?_))
   rcases csome h with ⟨q8, h⟩ | ⟨q8, h⟩
   ·refine E_ct q8 rfl ?_
    refine E_skip (thn_n ?_)
    obtain ⟨g7, hx, h⟩ := bsome h
    refine E_join (fun e w => ∃ (g : Gh) , Fr gI wI g w ∧ e 1 = p1 ∧ PT g.m w (x0 : BoxLoom) p1 ∧ e 2 = p2 ∧ OB 2002 g w 102 (o0 : BoxBoxLoom) p2 ∧ OSF 2002 60200 0 g w 3 102 (((o0).BoxLoom).Boxes) p2 ∧ OSF 2002 60201 1 g w 3 102 (((o0).BoxLoom).At) p2 ∧ OSF 2002 60202 2 g w 87 102 (((o0).BoxLoom).Shuttles) p2 ∧ e 4 = p5 ∧ PT g.m w ((⟨x0⟩ : BoxBoxLoom) : BoxBoxLoom) p5 ∧ e 6 = d7 ∧ MP (encK pl_138) 8043 g w (g7 : List ((Vector Int 2) × Bool)) d7 ∧ e 45 = g8 ∧ RV g.m w ((x0).Shuttles : List BoxShuttle) g8 ∧ e 46 = .int .i64 ((((x0).Shuttles).length : Int)) ∧ e 47 = .int .i64 (j1)) (fun Q' hQ => ?_) (fun vF mG hR => ?_)
    ·replace h := hx
     clear hx
     refine E_block ?_
     refine E_seq (E_region ?_)
     obtain ⟨t5, rA, h⟩ := bsome h
     refine EL_p (ePtr g8 j1 5) (P_indexAddr (α := BoxShuttle) Try.underlying23 Try.sizeOf87 m8 i3 o7 rA) rfl ?_
     have tD := PT_idx i3 rA
     refine EL_do .plain rfl (D_load (g := jA) Try.isAgg87 Try.sizeOf87 rfl tD fun uD lA => ?_)
     refine EL_do .plain rfl (D_allocOc (g := jA) 2008 (⟨0, 0, 0, ⟨0, 0⟩⟩ : BoxShuttle) Try.zeroValue87 (fun m w => ⟨_, (rep_two rep_int (rep_two rep_int (rep_two rep_int (rep_two rep_int rep_int)))), rfl⟩) fun vD nG nB hs b152 cb => ?_)
     have hfr := hfr.stp hs
     have z3 := z3.stp hs
     have u2_0_136 := u2_0_136.stp hs rfl
     have u2_1_136 := u2_1_136.stp hs rfl
     have u2_2_136 := u2_2_136.stp hs rfl
     have z4 := z4.stp hs rfl
     have i5 := i5.stp hs
     have i6 := i6.stp hs rfl
     have i3 := i3.stp hs
     have lA := lA.stp hs
     clear cb
     refine EL_do .plain rfl (D_storeOc (g := vD) (v := uD) Try.sizeOf87 rfl b152 rfl lA fun r8 xD hs b153 cb => ?_)
     clear cb
     have hfr := hfr.stp hs
     have z3 := z3.stp hs
     have u2_0_136 := u2_0_136.stp hs rfl
     have u2_1_136 := u2_1_136.stp hs rfl
     have u2_2_136 := u2_2_136.stp hs rfl
     have z4 := z4.stp hs rfl
     have i5 := i5.stp hs
     have i6 := i6.stp hs rfl
     have i3 := i3.stp hs
     refine EL_nil (thn_n (E_region (EL_mv i8 rfl ?_)))
     refine EL_p (fPtr nB 1) (P_fieldAddr at_87_1 rfl (OB.ptr b153)) rfl ?_
     refine EL_do .plain rfl (D_loadF (g := r8) part_BoxShuttle_1.1 Try.isAgg3 Try.sizeOf3 rfl b153 fun oG yD => ?_)
     obtain rfl := RV_int.1 yD
     refine EL_p (fPtr nB 2) (P_fieldAddr at_87_2 rfl (OB.ptr b153)) rfl ?_
     refine EL_do .plain rfl (D_loadF (g := r8) part_BoxShuttle_2.1 Try.isAgg3 Try.sizeOf3 rfl b153 fun pG zD => ?_)
     obtain rfl := RV_int.1 zD
     have oB : RV r8.m xD (⟨List.toArray [(t5).Side, (t5).Box], rfl⟩ : Vector Int 2) (.agg (setCh [[.int .i64 0], [.int .i64 0]] [(0, .int .i64 ((t5).Side)), (1, .int .i64 ((t5).Box))]).flatten.toArray) := RV_build rfl (rep_vec (flat_chunk rfl (flat_chunk rfl flat_nil)) rfl)
     generalize yC : (Value.agg (setCh [[.int .i64 0], [.int .i64 0]] [(0, .int .i64 ((t5).Side)), (1, .int .i64 ((t5).Box))]).flatten.toArray) = aE at oB
     refine EL_p aE (yC ▸ P_buildA (vs := [(0, .int .i64 ((t5).Side)), (1, .int .i64 ((t5).Box))]) [[.int .i64 0], [.int .i64 0]] Try.underlying138 layA_138 szA_3 rfl (by simp) (.cons rfl (.cons rfl .nil)) ⟨⟨_, rfl, rfl⟩, ⟨⟨_, rfl, rfl⟩, trivial⟩⟩) rfl ?_
     refine EL_do .plain rfl (D_mapUpdate (g := r8) Try.underlying151 key_138 rfl i6 (rfl.trans (encK_of pl_138 oB)) rfl (RV_bool.2 rfl) fun bE qG hs m159 => ?_)
     have hfr := hfr.stp hs
     have z3 := z3.stp hs
     have u2_0_136 := u2_0_136.stp hs rfl
     have u2_1_136 := u2_1_136.stp hs rfl
     have u2_2_136 := u2_2_136.stp hs rfl
     have z4 := z4.stp hs rfl
     have i5 := i5.stp hs
     have i3 := i3.stp hs
     refine EL_nil (blk_n ?_)
     obtain rfl := sinj h
     exact hQ _ _ ⟨bE, hfr, a9, z3, d9, z4, u2_0_136, u2_1_136, u2_2_136, i9, i5, i8, m159, m8, i3, n8, o7⟩
    ·clear hx
     obtain ⟨cE, hfr, tB, vB, xB, yB, u2_0_160, u2_1_160, u2_2_160, zB, aC, cC, dC, uA, xA, yA, zA⟩ := hR
     refine E_region (EL_in (.int .i64 ((w64 (j1 + (1 : Int))))) zA rfl rfl rfl ?_)
     refine EL_mw (.int .i64 ((w64 (j1 + (1 : Int))))) rfl rfl ?_
     exact EL_nil (thn_n (xC (g7, (w64 (j1 + (1 : Int)))) _ _ ⟨cE, hfr, tB, vB, xB, yB, u2_0_160, u2_1_160, u2_2_160, zB, aC, cC, dC, uA, xA, yA, rfl⟩ h))
   ·refine E_cf q8 rfl ?_
    refine E_exit ?_
    refine thn_e ?_
    refine thn_e ?_
    refine blk_hit ?_
    obtain rfl := sinj h
    exact hQ _ _ ⟨jA, hfr, a9, z3, d9, z4, u2_0_136, u2_1_136, u2_2_136, i9, i5, i8, i6⟩
  ·clear hx
   obtain ⟨k8, hfr, eC, k9, l8, l9, u2_0_161, u2_1_161, u2_2_161, n9, o9, iC, jC⟩ := hR
   refine E_joinC h (fun (s : BoxBoxLoom) e w => ∃ (g : Gh) , Fr gI wI g w ∧ e 2 = p2 ∧ OB 2002 g w 102 (s : BoxBoxLoom) p2 ∧ OSF 2002 60200 0 g w 3 102 (((s).BoxLoom).Boxes) p2 ∧ OSF 2002 60201 1 g w 3 102 (((s).BoxLoom).At) p2 ∧ OSF 2002 60202 2 g w 87 102 (((s).BoxLoom).Shuttles) p2 ∧ e 4 = p5 ∧ PT g.m w ((⟨x0⟩ : BoxBoxLoom) : BoxBoxLoom) p5) (fun X168 cB aD h => ?_) ?_
   ·refine E_seq (E_region (EL_mv iC rfl ?_))
    refine EL_do .plain rfl (P_lenMap (g := k8) Try.underlying151 rfl jC ?_)
    refine EL_p (fPtr p1 2) (P_fieldAddr at_25_2 eC (PT.ptr k9)) rfl ?_
    have dE := PT_field (part_BoxLoom_2).1 k9
    refine EL_do .plain rfl (D_load (g := k8) Try.isAgg23 Try.sizeOf23 rfl dE fun rG eE => ?_)
    refine EL_p (.int .i64 (((x0).Shuttles).length : Int)) (P_len Try.underlying23 rfl eE) rfl ?_
    refine EL_p (.bool ((decide (((i7).length : Int) < (((x0).Shuttles).length : Int))))) (P_int rfl rfl rfl) rfl ?_
    refine EL_nil (thn_n ?_)
    rcases csome h with ⟨t8, h⟩ | ⟨t8, h⟩
    ·refine E_ct t8 rfl ?_
     refine E_seq (E_region (EL_do .plain rfl (D_load (g := k8) Try.isAgg102 Try.sizeOf102 n9 o9 fun gE iE => ?_)))
     refine EL_do .plain rfl (D_storeOc (g := k8) (v := gE) Try.sizeOf102 l8 l9 rfl iE fun sG tG hs b173 cb => ?_)
     clear cb
     have hfr := hfr.stp hs
     refine EL_at (.int .i64 (6)) rfl rfl ?_
     refine EL_nil (thn_n (E_ret (thn_r ?_)))
     obtain rfl := sinj h
     obtain ⟨ad174, cv174, hp174, bD, cr174⟩ := ob_read Try.isAgg102 Try.sizeOf102 b173
     exact endm_ct rfl rfl ((show _ = p2 from l8).trans hp174) bD (show _ = .int .i64 (6) from rfl) ⟨_, hfr, _, _, rfl, cr174, rfl⟩
    ·refine E_cf t8 rfl ?_
     exact E_skip (thn_n (aD (o0) _ _ ⟨k8, hfr, l8, l9, u2_0_161, u2_1_161, u2_2_161, n9, o9⟩ h))
   ·rintro bB xF uG ⟨kC, hfr, t9, lC, u2_0_175, u2_1_175, u2_2_175, mC, qC⟩ h
    refine E_seq (E_region (EL_do .plain rfl (D_load (g := kC) Try.isAgg102 Try.sizeOf102 mC qC fun jE kE => ?_)))
    refine EL_do .plain rfl (D_storeOc (g := kC) (v := jE) Try.sizeOf102 t9 lC rfl kE fun vG xG hs b177 cb => ?_)
    clear cb
    have hfr := hfr.stp hs
    refine EL_at (.int .i64 (0)) rfl rfl ?_
    refine EL_nil (thn_n (E_ret ?_))
    obtain rfl := sinj h
    obtain ⟨ad178, cv178, hp178, cD, cr178⟩ := ob_read Try.isAgg102 Try.sizeOf102 b177
    exact endm_ct rfl rfl ((show _ = p2 from t9).trans hp178) cD (show _ = .int .i64 (0) from rfl) ⟨_, hfr, _, _, rfl, cr178, rfl⟩
def f74 (x0 : BoxLoom) (x1 : List BoxPick) : Option (BoxBoxLoom × Int) :=
 (f51 x0).bind fun y5 =>
 jn (σ := BoxBoxLoom) (fun i6 =>
  some (y5.1, (0 : Int))
  ) fun y6 =>
 bif (y5.2 != (0 : Int)) then
  some (y5.1, y5.2)
 else
  bif (decide (((x1).length : Int) > (24 : Int))) then
   some (y5.1, (5 : Int))
  else
   (f96 x1 ((fun a0 => f95 a0 (y5.1)))).bind fun t5 =>
   bif t5 then
    some (y5.1, (2 : Int))
   else
    y6 ((⟨⟨[], [], []⟩⟩ : BoxBoxLoom))
theorem en74 : Enters Try.prog 74 := enters_of Try.func74 (by kernel_rfl) rfl
theorem wk74 {gI : Gh} {wI : World} {x0 : BoxLoom} {x1 : List BoxPick} {up0 : Value} (rp0 : RV gI.m wI x0 up0) {up1 : Value} (rp1 : RV gI.m wI x1 up1) {r : BoxBoxLoom × Int} (h : f74 x0 x1 = some r) : Fn Try.prog 74 #[up0, up1] gI wI (fun m w v => ∃ y0 y1, v = .tuple #[y0, y1] ∧ RV m w (r.1) y0 ∧ y1 = .int .i64 (r.2)) := by
 unfold f74 at h
 refine fn_of_E Try.func74 rfl (Nat.le_of_ble_eq_true rfl) fun g0 hm hfr => ?_
 have rp0 : RV g0.m wI x0 up0 := hm ▸ rp0
 have rp1 : RV g0.m wI x1 up1 := hm ▸ rp1
 show E _ 31 none _ _ _ _ _
 refine E_seq (E_region (EL_do .plain rfl (D_box (g := g0) rfl rp0 fun g1 w1 p1 hs q1 => ?_)))
 have hfr := hfr.ext hs
 have rp1 := rp1.ext hs
 refine EL_do .plain rfl (D_allocOc (g := g1) 2004 (⟨⟨[], [], []⟩⟩ : BoxBoxLoom) Try.zeroValue102 (fun m w => ⟨_, (rep_two rep_nil (rep_two rep_nil rep_nil)), rfl⟩) fun g2 w2 p2 hs b2 cb => ?_)
 have hfr := hfr.stp hs
 have rp1 := rp1.stp hs
 have q1 := q1.stp hs
 have o0 : OSF 2004 60400 0 g2 w2 3 102 ([] : List Int) p2 := cb.osf (by rfl)
 have j1 : OSF 2004 60401 1 g2 w2 3 102 ([] : List Int) p2 := cb.osf (by rfl)
 have i3 : OSF 2004 60402 2 g2 w2 87 102 ([] : List BoxShuttle) p2 := cb.osf (by rfl)
 clear cb
 refine EL_at (.int .i64 (0)) rfl rfl ?_
 refine EL_nil (thn_n (E_seq (E_region (EL_do .plain rfl (D_load (g := g2) Try.isAgg25 Try.sizeOf25 rfl q1 fun v3 r3 => ?_)))))
 obtain ⟨y5, hy5, h⟩ := bsome h
 refine EL_do .plain rfl (D_call (g := g2) (vs := [v3]) en51 (.cons rfl .nil) (wk51 r3 hy5) fun g4 w4_ v4 hs hr => ?_)
 have hfr := hfr.ext hs
 have rp1 := rp1.ext hs
 have o0 := o0.ext hs
 have j1 := j1.ext hs
 have i3 := i3.ext hs
 have b2 := b2.ext hs
 obtain ⟨j3, n8, rfl, u3, rfl⟩ := hr
 refine EL_mw (.tuple #[j3, .int .i64 (y5.2)]) rfl rfl ?_
 refine EL_p j3 (P_extract rfl rfl) rfl ?_
 refine EL_p (.int .i64 (y5.2)) (P_extract rfl rfl) rfl ?_
 refine EL_do .plain rfl (D_allocOc (g := g4) 2006 (⟨⟨[], [], []⟩⟩ : BoxBoxLoom) Try.zeroValue102 (fun m w => ⟨_, (rep_two rep_nil (rep_two rep_nil rep_nil)), rfl⟩) fun g6 w6 p6 hs b6 cb => ?_)
 have hfr := hfr.stp hs
 have rp1 := rp1.stp hs
 have o0 := o0.stp hs rfl
 have j1 := j1.stp hs rfl
 have i3 := i3.stp hs rfl
 have b2 := b2.stp hs rfl
 have u3 := u3.stp hs
 have o8 : OSF 2006 60600 0 g6 w6 3 102 ([] : List Int) p6 := cb.osf (by rfl)
 have q8 : OSF 2006 60601 1 g6 w6 3 102 ([] : List Int) p6 := cb.osf (by rfl)
 have r8 : OSF 2006 60602 2 g6 w6 87 102 ([] : List BoxShuttle) p6 := cb.osf (by rfl)
 clear cb
 refine EL_do .plain rfl (D_storeOc (g := g6) (v := j3) Try.sizeOf102 rfl b6 rfl u3 fun g7 w7 hs b7 cb => ?_)
 clear cb
 have hfr := hfr.stp hs
 have rp1 := rp1.stp hs
 have o0 := o0.stp hs rfl
 have j1 := j1.stp hs rfl
 have i3 := i3.stp hs rfl
 have b2 := b2.stp hs rfl
 obtain ⟨gp7, hs, qp7⟩ := OB.pub b7
 have hfr := hfr.stp hs
 have rp1 := rp1.stp hs
 have o0 := o0.stp hs rfl
 have j1 := j1.stp hs rfl
 have i3 := i3.stp hs rfl
 have b2 := b2.stp hs rfl
 refine EL_at (.int .i64 (y5.2)) rfl rfl ?_
 refine EL_nil (thn_n (E_seq (E_region (EL_p ((.func (.func 95) #[] #[p6])) (P_makeFunc (capf_0_1 (show ev _ _ = p6 from rfl))) rfl ?_))))
 refine EL_at ((.func (.func 95) #[] #[p6])) rfl rfl ?_
 refine EL_nil (thn_n (E_joinC h (fun (s : BoxBoxLoom) e w => ∃ (g : Gh) , Fr gI wI g w ∧ e 4 = p2 ∧ OB 2004 g w 102 (s : BoxBoxLoom) p2 ∧ OSF 2004 60400 0 g w 3 102 (((s).BoxLoom).Boxes) p2 ∧ OSF 2004 60401 1 g w 3 102 (((s).BoxLoom).At) p2 ∧ OSF 2004 60402 2 g w 87 102 (((s).BoxLoom).Shuttles) p2 ∧ e 6 = p6 ∧ PT g.m w (y5.1 : BoxBoxLoom) p6) (fun X22 y6 c7 h => ?_) ?_))
 ·refine E_block ?_
  refine E_seq (E_region (EL_mw (.int .i64 (y5.2)) rfl rfl ?_))
  refine EL_in (.bool ((y5.2 != (0 : Int)))) rfl rfl rfl rfl ?_
  refine EL_at (.bool ((y5.2 != (0 : Int)))) rfl rfl ?_
  refine EL_nil (thn_n ?_)
  rcases csome h with ⟨z3, h⟩ | ⟨z3, h⟩
  ·refine E_ct z3 rfl ?_
   refine E_seq (E_region (EL_do .plain rfl (D_load (g := gp7) Try.isAgg102 Try.sizeOf102 rfl qp7 fun u7 v7 => ?_)))
   refine EL_mw (.int .i64 (y5.2)) rfl rfl ?_
   refine EL_do .plain rfl (D_storeOc (g := gp7) (v := u7) Try.sizeOf102 rfl b2 rfl v7 fun x8 y8 hs b25 cb => ?_)
   clear cb
   have hfr := hfr.stp hs
   refine EL_at (.int .i64 (y5.2)) rfl rfl ?_
   refine EL_nil (thn_n (E_ret (blk_r ?_)))
   refine thn_r ?_
   obtain rfl := sinj h
   obtain ⟨ad26, cv26, hp26, d7, cr26⟩ := ob_read Try.isAgg102 Try.sizeOf102 b25
   exact endm_ct rfl rfl ((show _ = p2 from rfl).trans hp26) d7 (show _ = .int .i64 (y5.2) from rfl) ⟨_, hfr, _, _, rfl, cr26, rfl⟩
  ·refine E_cf z3 rfl ?_
   refine E_seq (E_region (EL_mw up1 rfl rfl ?_))
   refine EL_p (.int .i64 ((x1).length : Int)) (P_len Try.underlying30 rfl rp1) rfl ?_
   refine EL_in (.bool ((decide (((x1).length : Int) > (24 : Int))))) rfl rfl rfl rfl ?_
   refine EL_at (.bool ((decide (((x1).length : Int) > (24 : Int))))) rfl rfl ?_
   refine EL_nil (thn_n ?_)
   rcases csome h with ⟨z4, h⟩ | ⟨z4, h⟩
   ·refine E_ct z4 rfl ?_
    refine E_seq (E_region (EL_do .plain rfl (D_load (g := gp7) Try.isAgg102 Try.sizeOf102 rfl qp7 fun c8 g8 => ?_)))
    refine EL_do .plain rfl (D_storeOc (g := gp7) (v := c8) Try.sizeOf102 rfl b2 rfl g8 fun a9 d9 hs b29 cb => ?_)
    clear cb
    have hfr := hfr.stp hs
    refine EL_at (.int .i64 (5)) rfl rfl ?_
    refine EL_nil (thn_n (E_ret (blk_r ?_)))
    refine thn_r ?_
    obtain rfl := sinj h
    obtain ⟨ad30, cv30, hp30, i7, cr30⟩ := ob_read Try.isAgg102 Try.sizeOf102 b29
    exact endm_ct rfl rfl ((show _ = p2 from rfl).trans hp30) i7 (show _ = .int .i64 (5) from rfl) ⟨_, hfr, _, _, rfl, cr30, rfl⟩
   ·refine E_cf z4 rfl ?_
    refine E_seq (E_region (EL_mw up1 rfl rfl ?_))
    refine EL_mw ((.func (.func 95) #[] #[p6])) rfl rfl ?_
    obtain ⟨t5, j7, h⟩ := bsome h
    refine EL_do .plain rfl (D_call (g := gp7) (vs := [up1, (.func (.func 95) #[] #[p6])]) en96 (.cons rfl (.cons rfl .nil)) (wk96 rp1 ⟨95, #[], #[p6], rfl, en95, fun g' w' hch a0 b0 r hu0 hr => by exact Fn.mono (wk95 hu0 (qp7.ch hch) hr) fun _ _ _ h => RV_bool.2 h⟩ j7) fun x5 t8 i9 hs hr => ?_)
    have hfr := hfr.ext hs
    have o0 := o0.ext hs
    have j1 := j1.ext hs
    have i3 := i3.ext hs
    have b2 := b2.ext hs
    have qp7 := qp7.ext hs
    subst hr
    refine EL_at (.bool (t5)) rfl rfl ?_
    refine EL_nil (thn_n ?_)
    rcases csome h with ⟨i5, h⟩ | ⟨i5, h⟩
    ·refine E_ct i5 rfl ?_
     refine E_seq (E_region (EL_do .plain rfl (D_load (g := x5) Try.isAgg102 Try.sizeOf102 rfl qp7 fun i8 k8 => ?_)))
     refine EL_do .plain rfl (D_storeOc (g := x5) (v := i8) Try.sizeOf102 rfl b2 rfl k8 fun k9 l9 hs b35 cb => ?_)
     clear cb
     have hfr := hfr.stp hs
     refine EL_at (.int .i64 (2)) rfl rfl ?_
     refine EL_nil (thn_n (E_ret (blk_r ?_)))
     refine thn_r ?_
     obtain rfl := sinj h
     obtain ⟨ad36, cv36, hp36, m7, cr36⟩ := ob_read Try.isAgg102 Try.sizeOf102 b35
     exact endm_ct rfl rfl ((show _ = p2 from rfl).trans hp36) m7 (show _ = .int .i64 (2) from rfl) ⟨_, hfr, _, _, rfl, cr36, rfl⟩
    ·refine E_cf i5 rfl ?_
     exact E_skip (blk_n (thn_n (c7 ((⟨⟨[], [], []⟩⟩ : BoxBoxLoom)) _ _ ⟨x5, hfr, rfl, b2, o0, j1, i3, rfl, qp7⟩ h)))
 ·rintro i6 v8 n9 ⟨a7, hfr, l5, j6, u4_0_37, u4_1_37, u4_2_37, v6, x6⟩ h
  refine E_seq (E_region (EL_do .plain rfl (D_load (g := a7) Try.isAgg102 Try.sizeOf102 v6 x6 fun l8 m8 => ?_)))
  refine EL_do .plain rfl (D_storeOc (g := a7) (v := l8) Try.sizeOf102 l5 j6 rfl m8 fun o9 t9 hs b39 cb => ?_)
  clear cb
  have hfr := hfr.stp hs
  refine EL_at (.int .i64 (0)) rfl rfl ?_
  refine EL_nil (thn_n (E_ret ?_))
  obtain rfl := sinj h
  obtain ⟨ad40, cv40, hp40, o7, cr40⟩ := ob_read Try.isAgg102 Try.sizeOf102 b39
  exact endm_ct rfl rfl ((show _ = p2 from l5).trans hp40) o7 (show _ = .int .i64 (0) from rfl) ⟨_, hfr, _, _, rfl, cr40, rfl⟩
def f100 (x0 : List Int) : Option ((List Int)) :=
 (f109 ((wu64 ((x0).length : Int)))).bind fun y2 =>
 (f108 big x0 ((0 : Int)) (((x0).length : Int)) y2).bind fun y4 =>
 some (y4)
def f36 (x0 : BoxLoom) (x1 : List BoxPick) : Option (Int × Int) :=
 (f74 x0 x1).bind fun y4 =>
 jn (σ := Int) (fun d9 =>
  (f54 (y4.1) ((fun a0 a1 => f75 a0 a1))).bind fun x6 =>
  jn (σ := Int) (fun y6 =>
   some (y6, (0 : Int))
   ) fun zB =>
  lp (σ := Int × BoxRace) (fun aC (j1, l5) =>
   jn (σ := Unit) (fun _ =>
    jn (σ := Int × BoxRace) (fun (x5, c7) =>
     aC ((w64 (x5 + (1 : Int))), c7)
     ) fun o9 =>
    (f76 l5 x1).bind fun o0 =>
    jn (σ := Int) (fun d7 =>
     o9 (d7, (o0.1).last)
     ) fun t9 =>
    bif (o0.2.2 != (0 : Int)) then
     some ((0 : Int), o0.2.2)
    else
     t9 (j1)
    ) fun k97 =>
   Option.bind (α := Bool) (
    bif (j1 == (0 : Int)) then
     some (true)
    else
     some ((!(decide ((l5).boxes = (x6).boxes))))
    ) fun t5 =>
   bif t5 then
    k97 ()
   else
    zB (j1)
   ) big (d9, x6)
  ) fun k9 =>
 bif (y4.2 != (0 : Int)) then
  some ((0 : Int), y4.2)
 else
  bif (((x1).length : Int) == (0 : Int)) then
   some ((0 : Int), (7 : Int))
  else
   k9 ((0 : Int))
theorem en36 : Enters Try.prog 36 := enters_of Try.func36 (by kernel_rfl) rfl
theorem wk36 {gI : Gh} {wI : World} {x0 : BoxLoom} {x1 : List BoxPick} {up0 : Value} (rp0 : RV gI.m wI x0 up0) {up1 : Value} (rp1 : RV gI.m wI x1 up1) {r : Int × Int} (h : f36 x0 x1 = some r) : Fn Try.prog 36 #[up0, up1] gI wI (fun m w v => ∃ y0 y1, v = .tuple #[y0, y1] ∧ y0 = .int .i64 (r.1) ∧ y1 = .int .i64 (r.2)) := by
 unfold f36 at h
 refine fn_of_E Try.func36 rfl (Nat.le_of_ble_eq_true rfl) fun g0 hm hfr => ?_
 have rp0 : RV g0.m wI x0 up0 := hm ▸ rp0
 have rp1 : RV g0.m wI x1 up1 := hm ▸ rp1
 show E _ 54 none _ _ _ _ _
 refine E_seq (E_region (EL_do .plain rfl (D_box (g := g0) rfl rp0 fun g1 w1 p1 hs q1 => ?_)))
 have hfr := hfr.ext hs
 have rp1 := rp1.ext hs
 refine EL_at (.int .i64 (0)) rfl rfl ?_
 refine EL_at (.int .i64 (0)) rfl rfl ?_
 refine EL_nil (thn_n (E_seq (E_region (EL_do .plain rfl (D_load (g := g1) Try.isAgg25 Try.sizeOf25 rfl q1 fun v2 r2 => ?_)))))
 refine EL_mw up1 rfl rfl ?_
 obtain ⟨y4, iD, h⟩ := bsome h
 refine EL_do .plain rfl (D_call (g := g1) (vs := [v2, up1]) en74 (.cons rfl (.cons rfl .nil)) (wk74 r2 rp1 iD) fun g3 w3_ v3 hs hr => ?_)
 have hfr := hfr.ext hs
 have rp1 := rp1.ext hs
 obtain ⟨r8, iE, rfl, t8, rfl⟩ := hr
 refine EL_mw (.tuple #[r8, .int .i64 (y4.2)]) rfl rfl ?_
 refine EL_p r8 (P_extract rfl rfl) rfl ?_
 refine EL_p (.int .i64 (y4.2)) (P_extract rfl rfl) rfl ?_
 refine EL_do .plain rfl (D_allocOc (g := g3) 2006 (⟨⟨[], [], []⟩⟩ : BoxBoxLoom) Try.zeroValue102 (fun m w => ⟨_, (rep_two rep_nil (rep_two rep_nil rep_nil)), rfl⟩) fun g5 w5 p5 hs b5 cb => ?_)
 have hfr := hfr.stp hs
 have rp1 := rp1.stp hs
 have t8 := t8.stp hs
 have jE : OSF 2006 60600 0 g5 w5 3 102 ([] : List Int) p5 := cb.osf (by rfl)
 have kE : OSF 2006 60601 1 g5 w5 3 102 ([] : List Int) p5 := cb.osf (by rfl)
 have lE : OSF 2006 60602 2 g5 w5 87 102 ([] : List BoxShuttle) p5 := cb.osf (by rfl)
 clear cb
 refine EL_do .plain rfl (D_storeOc (g := g5) (v := r8) Try.sizeOf102 rfl b5 rfl t8 fun g6 w6 hs b6 cb => ?_)
 clear cb
 have hfr := hfr.stp hs
 have rp1 := rp1.stp hs
 refine EL_at (.int .i64 (y4.2)) rfl rfl ?_
 refine EL_nil (thn_n (E_joinC h (fun (s : Int) e w => ∃ (g : Gh) , Fr gI wI g w ∧ e 1 = up1 ∧ RV g.m w (x1 : List BoxPick) up1 ∧ e 4 = .int .i64 (s) ∧ e 6 = p5 ∧ OB 2006 g w 102 (y4.1 : BoxBoxLoom) p5) (fun X9 k9 jD h => ?_) ?_))
 ·refine E_block ?_
  refine E_seq (E_region (EL_mw (.int .i64 (y4.2)) rfl rfl ?_))
  refine EL_in (.bool ((y4.2 != (0 : Int)))) rfl rfl rfl rfl ?_
  refine EL_at (.bool ((y4.2 != (0 : Int)))) rfl rfl ?_
  refine EL_nil (thn_n ?_)
  rcases csome h with ⟨x8, h⟩ | ⟨x8, h⟩
  ·refine E_ct x8 rfl ?_
   refine E_seq (E_region (EL_mw (.int .i64 (y4.2)) rfl rfl ?_))
   refine EL_at (.int .i64 (0)) rfl rfl ?_
   refine EL_at (.int .i64 (y4.2)) rfl rfl ?_
   refine EL_nil (thn_n (E_ret (blk_r ?_)))
   refine thn_r ?_
   obtain rfl := sinj h
   exact end2 rfl rfl (show _ = .int .i64 (0) from rfl) (show _ = .int .i64 (y4.2) from rfl) ⟨_, hfr, _, _, rfl, rfl, rfl⟩
  ·refine E_cf x8 rfl ?_
   refine E_seq (E_region (EL_mw up1 rfl rfl ?_))
   refine EL_p (.int .i64 ((x1).length : Int)) (P_len Try.underlying30 rfl rp1) rfl ?_
   refine EL_in (.bool ((((x1).length : Int) == (0 : Int)))) rfl rfl rfl rfl ?_
   refine EL_at (.bool ((((x1).length : Int) == (0 : Int)))) rfl rfl ?_
   refine EL_nil (thn_n ?_)
   rcases csome h with ⟨y8, h⟩ | ⟨y8, h⟩
   ·refine E_ct y8 rfl ?_
    refine E_seq (E_region (EL_at (.int .i64 (0)) rfl rfl ?_))
    refine EL_at (.int .i64 (7)) rfl rfl ?_
    refine EL_nil (thn_n (E_ret (blk_r ?_)))
    refine thn_r ?_
    obtain rfl := sinj h
    exact end2 rfl rfl (show _ = .int .i64 (0) from rfl) (show _ = .int .i64 (7) from rfl) ⟨_, hfr, _, _, rfl, rfl, rfl⟩
   ·refine E_cf y8 rfl ?_
    exact E_skip (blk_n (thn_n (jD ((0 : Int)) _ _ ⟨g6, hfr, rfl, rp1, rfl, rfl, b6⟩ h)))
 ·rintro d9 mE oF ⟨cC, hfr, mB, i3, nB, oB, tB⟩ h
  refine E_seq (E_region (EL_do .plain rfl (D_loadO (g := cC) Try.isAgg102 Try.sizeOf102 oB tB fun kD lD => ?_)))
  obtain ⟨x6, eC, h⟩ := bsome h
  refine EL_do .plain rfl (D_call (g := cC) (vs := [kD, .func (.func 75) #[] #[]]) en54 (.cons rfl (.cons rfl .nil)) (wk54 lD ⟨75, #[], #[], rfl, en75, fun g' w' hch a0 a1 b0 b1 r hu0 hu1 hr => by obtain rfl := RV_int.1 hu0; exact Fn.mono (wk75 hu1  hr) fun _ _ _ h => RV_int.2 h⟩ eC) fun mD nE nD hs hr => ?_)
  have hfr := hfr.ext hs
  have i3 := i3.ext hs
  have u9 := hr
  refine EL_do .plain rfl (D_allocOc (g := mD) 2007 (⟨(⟨List.toArray [(⟨List.toArray [0, 0, 0, 0], rfl⟩ : Vector Int 4), (⟨List.toArray [0, 0, 0, 0], rfl⟩ : Vector Int 4)], rfl⟩ : Vector (Vector Int 4) 2), ⟨0, 0⟩⟩ : BoxRace) Try.zeroValue108 (fun m w => ⟨_, (rep_two (rep_vec (flat_chunk (rep_vec (flat_chunk rep_int (flat_chunk rep_int (flat_chunk rep_int (flat_chunk rep_int flat_nil)))) rfl) (flat_chunk (rep_vec (flat_chunk rep_int (flat_chunk rep_int (flat_chunk rep_int (flat_chunk rep_int flat_nil)))) rfl) flat_nil)) rfl) (rep_two rep_int rep_int)), rfl⟩) fun oD pF i6 hs b16 cb => ?_)
  have hfr := hfr.stp hs
  have i3 := i3.stp hs
  have u9 := u9.stp hs
  clear cb
  refine EL_do .plain rfl (D_storeOc (g := oD) (v := nD) Try.sizeOf108 rfl b16 rfl u9 fun dC qF hs b17 cb => ?_)
  clear cb
  have hfr := hfr.stp hs
  have i3 := i3.stp hs
  refine EL_nil (thn_n (E_joinC h (fun (s : Int) e w => ∃ (g : Gh) , Fr gI wI g w ∧ e 4 = .int .i64 (s)) (fun X79 zB iC h => ?_) ?_))
  ·refine E_seq (E_region (EL_do .plain rfl (D_loadO (g := dC) Try.isAgg108 Try.sizeOf108 rfl b17 fun sD y9 => ?_)))
   refine EL_do .plain rfl (D_allocOc (g := dC) 2008 (⟨(⟨List.toArray [(⟨List.toArray [0, 0, 0, 0], rfl⟩ : Vector Int 4), (⟨List.toArray [0, 0, 0, 0], rfl⟩ : Vector Int 4)], rfl⟩ : Vector (Vector Int 4) 2), ⟨0, 0⟩⟩ : BoxRace) Try.zeroValue108 (fun m w => ⟨_, (rep_two (rep_vec (flat_chunk (rep_vec (flat_chunk rep_int (flat_chunk rep_int (flat_chunk rep_int (flat_chunk rep_int flat_nil)))) rfl) (flat_chunk (rep_vec (flat_chunk rep_int (flat_chunk rep_int (flat_chunk rep_int (flat_chunk rep_int flat_nil)))) rfl) flat_nil)) rfl) (rep_two rep_int rep_int)), rfl⟩) fun tD rF uD hs b81 cb => ?_)
   have hfr := hfr.stp hs
   have i3 := i3.stp hs
   have b17 := b17.stp hs rfl
   have y9 := y9.stp hs
   clear cb
   refine EL_do .plain rfl (D_storeOc (g := tD) (v := sD) Try.sizeOf108 rfl b81 rfl y9 fun vD sF hs b82 cb => ?_)
   clear cb
   have hfr := hfr.stp hs
   have i3 := i3.stp hs
   have b17 := b17.stp hs rfl
   refine EL_nil (thn_n (E_block ?_))
   refine E_lp h (fun (s : Int × BoxRace) e w => ∃ (g : Gh) (v8 : Value), Fr gI wI g w ∧ e 1 = up1 ∧ RV g.m w (x1 : List BoxPick) up1 ∧ e 4 = .int .i64 (s.1) ∧ e 7 = i6 ∧ OB 2007 g w 108 (x6 : BoxRace) i6 ∧ e 8 = v8 ∧ OB 2008 g w 108 (s.2 : BoxRace) v8) ⟨vD, (uD), hfr, mB, i3, nB, rfl, b17, rfl, b82⟩ (fun X83 aC jC => ?_)
   rintro ⟨j1, l5⟩ oE tF ⟨i9, z4, hfr, l9, n9, u7, v7, a7, c8, b7⟩ h
   refine E_joinC h (fun (s : Unit) e w => ∃ (g : Gh) , Fr gI wI g w ∧ e 1 = up1 ∧ RV g.m w (x1 : List BoxPick) up1 ∧ e 4 = .int .i64 (j1) ∧ e 7 = i6 ∧ OB 2007 g w 108 (x6 : BoxRace) i6 ∧ e 8 = z4 ∧ OB 2008 g w 108 (l5 : BoxRace) z4) (fun X97 k97 kC h => ?_) ?_
   ·obtain ⟨t5, hx, h⟩ := bsome h
    refine E_join (fun e w => ∃ (g : Gh) , Fr gI wI g w ∧ e 1 = up1 ∧ RV g.m w (x1 : List BoxPick) up1 ∧ e 4 = .int .i64 (j1) ∧ e 7 = i6 ∧ OB 2007 g w 108 (x6 : BoxRace) i6 ∧ e 8 = z4 ∧ OB 2008 g w 108 (l5 : BoxRace) z4 ∧ e 37 = .bool (t5)) (fun Q' hQ => ?_) (fun aE rE hR => ?_)
    ·replace h := hx
     clear hx
     refine E_region (EL_mv u7 rfl ?_)
     refine EL_in (.bool ((j1 == (0 : Int)))) rfl rfl rfl rfl ?_
     refine EL_mw (.bool ((j1 == (0 : Int)))) rfl rfl ?_
     rcases csome h with ⟨j3, h⟩ | ⟨j3, h⟩
     ·refine EL_s rfl rfl j3 rfl rfl ?_
      iterate 4 refine EL_s rfl rfl j3 rfl rfl ?_
      refine EL_p (.bool true) (P_pick (b := (j1 == (0 : Int))) rfl (pick_t j3 rfl)) rfl ?_
      refine EL_nil ?_
      obtain rfl := sinj h
      exact hQ _ _ ⟨i9, hfr, l9, n9, u7, v7, a7, c8, b7, rfl⟩
     ·refine EL_y (fPtr z4 0) (P_fieldAddr at_108_0 c8 (OB.ptr b7)) rfl rfl j3 rfl ?_
      refine EL_do (.yes2 rfl rfl j3) rfl (D_loadF (g := i9) part_BoxRace_0.1 Try.isAgg76 Try.sizeOf76 rfl b7 fun sE lC => ?_)
      refine EL_y (fPtr i6 0) (P_fieldAddr at_108_0 v7 (OB.ptr a7)) rfl rfl j3 rfl ?_
      refine EL_do (.yes2 rfl rfl j3) rfl (D_loadF (g := i9) part_BoxRace_0.1 Try.isAgg76 Try.sizeOf76 rfl a7 fun tE mC => ?_)
      refine EL_y (.bool ((!(decide ((l5).boxes = (x6).boxes))))) (P_neD eqd_76 rfl rfl eg_76 rfl rfl lC mC) rfl rfl j3 rfl ?_
      refine EL_p (.bool ((!(decide ((l5).boxes = (x6).boxes))))) (P_pick (b := (j1 == (0 : Int))) rfl (pick_f j3 rfl)) rfl ?_
      refine EL_nil ?_
      obtain rfl := sinj h
      exact hQ _ _ ⟨i9, hfr, l9, n9, u7, v7, a7, c8, b7, rfl⟩
    ·clear hx
     obtain ⟨z9, hfr, bA, gA, l8, iA, jA, lA, mA, o7⟩ := hR
     rcases csome h with ⟨g8, h⟩ | ⟨g8, h⟩
     ·refine E_cond_true (Eq.trans (show ev _ _ = .bool (t5) from o7) (congrArg Value.bool g8)) ?_
      exact E_skip (thn_n (kC () _ _ ⟨z9, hfr, bA, gA, l8, iA, jA, lA, mA⟩ h))
     ·refine E_cond_false (Eq.trans (show ev _ _ = .bool (t5) from o7) (congrArg Value.bool g8)) ?_
      refine E_exit ?_
      refine thn_e ?_
      refine thn_e ?_
      refine blk_hit ?_
      exact thn_n (iC (j1) _ _ ⟨z9, hfr, l8⟩ h)
   ·rintro _ bE uE ⟨nA, hfr, m8, u3, oA, pA, i5, n8, z3⟩ h
    refine E_joinC h (fun (s : Int × BoxRace) e w => ∃ (g : Gh) , Fr gI wI g w ∧ e 1 = up1 ∧ RV g.m w (x1 : List BoxPick) up1 ∧ e 4 = .int .i64 (s.1) ∧ e 7 = i6 ∧ OB 2007 g w 108 (x6 : BoxRace) i6 ∧ e 8 = z4 ∧ OB 2008 g w 108 (s.2 : BoxRace) z4) (fun X123 o9 vB h => ?_) ?_
    ·refine E_block ?_
     refine E_seq (E_region (EL_do .plain rfl (D_loadO (g := nA) Try.isAgg108 Try.sizeOf108 n8 z3 fun qC rC => ?_)))
     refine EL_mv m8 rfl ?_
     obtain ⟨o0, xB, h⟩ := bsome h
     refine EL_do .plain rfl (D_call (g := nA) (vs := [qC, up1]) en76 (.cons rfl (.cons rfl .nil)) (wk76 rC u3 xB) fun tC cE vE hs hr => ?_)
     have hfr := hfr.ext hs
     have u3 := u3.ext hs
     have i5 := i5.ext hs
     have z3 := z3.ext hs
     obtain ⟨g7, xD, yD, rfl, i7, rfl, rfl⟩ := hr
     refine EL_mw (.tuple #[g7, .int .i64 (o0.2.1), .int .i64 (o0.2.2)]) rfl rfl ?_
     refine EL_p g7 (P_extract rfl rfl) rfl ?_
     refine EL_p (.int .i64 (o0.2.1)) (P_extract rfl rfl) rfl ?_
     refine EL_p (.int .i64 (o0.2.2)) (P_extract rfl rfl) rfl ?_
     refine EL_do .plain rfl (D_allocOc (g := tC) 2009 (⟨[], ⟨(⟨List.toArray [(⟨List.toArray [0, 0, 0, 0], rfl⟩ : Vector Int 4), (⟨List.toArray [0, 0, 0, 0], rfl⟩ : Vector Int 4)], rfl⟩ : Vector (Vector Int 4) 2), ⟨0, 0⟩⟩, 0⟩ : BoxRun) Try.zeroValue129 (fun m w => ⟨_, (rep_two rep_nil (rep_two (rep_two (rep_vec (flat_chunk (rep_vec (flat_chunk rep_int (flat_chunk rep_int (flat_chunk rep_int (flat_chunk rep_int flat_nil)))) rfl) (flat_chunk (rep_vec (flat_chunk rep_int (flat_chunk rep_int (flat_chunk rep_int (flat_chunk rep_int flat_nil)))) rfl) flat_nil)) rfl) (rep_two rep_int rep_int)) rep_int)), rfl⟩) fun qA uC i8 hs b127 cb => ?_)
     have hfr := hfr.stp hs
     have u3 := u3.stp hs
     have i5 := i5.stp hs rfl
     have z3 := z3.stp hs rfl
     have i7 := i7.stp hs
     have zD : OSF 2009 60900 0 qA uC 3 129 ([] : List Int) i8 := cb.osf (by rfl)
     clear cb
     refine EL_do .plain rfl (D_storeOc (g := qA) (v := g7) Try.sizeOf129 rfl b127 rfl i7 fun vC xE hs b128 cb => ?_)
     clear cb
     have hfr := hfr.stp hs
     have u3 := u3.stp hs
     have i5 := i5.stp hs rfl
     have z3 := z3.stp hs rfl
     refine EL_at (.int .i64 (o0.2.1)) rfl rfl ?_
     refine EL_at (.int .i64 (o0.2.2)) rfl rfl ?_
     refine EL_nil (thn_n (E_joinC h (fun (s : Int) e w => ∃ (g : Gh) , Fr gI wI g w ∧ e 1 = up1 ∧ RV g.m w (x1 : List BoxPick) up1 ∧ e 4 = .int .i64 (s) ∧ e 7 = i6 ∧ OB 2007 g w 108 (x6 : BoxRace) i6 ∧ e 8 = z4 ∧ OB 2008 g w 108 (l5 : BoxRace) z4 ∧ e 9 = i8 ∧ OB 2009 g w 129 (o0.1 : BoxRun) i8) (fun X130 t9 yB h => ?_) ?_))
     ·refine E_seq (E_region (EL_mw (.int .i64 (o0.2.2)) rfl rfl ?_))
      refine EL_in (.bool ((o0.2.2 != (0 : Int)))) rfl rfl rfl rfl ?_
      refine EL_nil (thn_n ?_)
      rcases csome h with ⟨k8, h⟩ | ⟨k8, h⟩
      ·refine E_ct k8 rfl ?_
       refine E_seq (E_region (EL_mw (.int .i64 (o0.2.2)) rfl rfl ?_))
       refine EL_at (.int .i64 (0)) rfl rfl ?_
       refine EL_at (.int .i64 (o0.2.2)) rfl rfl ?_
       refine EL_nil (thn_n (E_ret (thn_r ?_)))
       refine blk_r ?_
       refine thn_r ?_
       refine thn_r ?_
       refine blk_r ?_
       refine thn_r ?_
       obtain rfl := sinj h
       exact end2 rfl rfl (show _ = .int .i64 (0) from rfl) (show _ = .int .i64 (o0.2.2) from rfl) ⟨_, hfr, _, _, rfl, rfl, rfl⟩
      ·refine E_cf k8 rfl ?_
       exact E_skip (thn_n (yB (j1) _ _ ⟨vC, hfr, m8, u3, oA, pA, i5, n8, z3, rfl, b128⟩ h))
     ·rintro d7 dE yE ⟨rA, hfr, uA, j7, xA, yA, m7, o8, zA, aB, q8⟩ h
      refine E_region (EL_p (fPtr i8 1) (P_fieldAddr at_129_1 aB (OB.ptr q8)) rfl ?_)
      refine EL_do .plain rfl (D_loadF (g := rA) part_BoxRun_1.1 Try.isAgg108 Try.sizeOf108 rfl q8 fun xC yC => ?_)
      refine EL_do .plain rfl (D_storeOc (g := rA) (v := xC) Try.sizeOf108 o8 zA rfl yC fun aD zE hs b135 cb => ?_)
      clear cb
      have hfr := hfr.stp hs
      have j7 := j7.stp hs
      have m7 := m7.stp hs rfl
      exact EL_nil (blk_n (thn_n (vB (d7, (o0.1).last) _ _ ⟨aD, hfr, uA, j7, xA, yA, m7, o8, b135⟩ h)))
    ·rintro ⟨x5, c7⟩ eE cF ⟨bB, hfr, cB, j6, dB, eB, v6, iB, jB⟩ h
     refine E_seq (E_seq (E_region (EL_do .plain rfl (D_loadO (g := bB) Try.isAgg108 Try.sizeOf108 iB jB fun bD a9 => ?_))))
     refine EL_nil (thn_n (E_region (EL_do .plain rfl (D_allocOc (g := bB) 2008 (⟨(⟨List.toArray [(⟨List.toArray [0, 0, 0, 0], rfl⟩ : Vector Int 4), (⟨List.toArray [0, 0, 0, 0], rfl⟩ : Vector Int 4)], rfl⟩ : Vector (Vector Int 4) 2), ⟨0, 0⟩⟩ : BoxRace) Try.zeroValue108 (fun m w => ⟨_, (rep_two (rep_vec (flat_chunk (rep_vec (flat_chunk rep_int (flat_chunk rep_int (flat_chunk rep_int (flat_chunk rep_int flat_nil)))) rfl) (flat_chunk (rep_vec (flat_chunk rep_int (flat_chunk rep_int (flat_chunk rep_int (flat_chunk rep_int flat_nil)))) rfl) flat_nil)) rfl) (rep_two rep_int rep_int)), rfl⟩) fun cD dF eD hs b138 cb => ?_))))
     have hfr := hfr.stp hs
     have j6 := j6.stp hs
     have v6 := v6.stp hs rfl
     have a9 := a9.stp hs
     clear cb
     refine EL_do .plain rfl (D_storeOc (g := cD) (v := bD) Try.sizeOf108 rfl b138 rfl a9 fun gD eF hs b139 cb => ?_)
     clear cb
     have hfr := hfr.stp hs
     have j6 := j6.stp hs
     have v6 := v6.stp hs rfl
     refine EL_nil (thn_n (E_region (EL_mv dB rfl ?_)))
     refine EL_in (.int .i64 ((w64 (x5 + (1 : Int))))) rfl rfl rfl rfl ?_
     refine EL_at (.int .i64 ((w64 (x5 + (1 : Int))))) rfl rfl ?_
     exact EL_nil (thn_n (jC ((w64 (x5 + (1 : Int))), c7) _ _ ⟨gD, (eD), hfr, cB, j6, rfl, eB, v6, rfl, b139⟩ h))
  ·rintro y6 gE iF ⟨nF, hfr, lB⟩ h
   refine E_seq (E_region (EL_mv lB rfl ?_))
   refine EL_at (.int .i64 (y6)) rfl rfl ?_
   refine EL_at (.int .i64 (0)) rfl rfl ?_
   refine EL_nil (thn_n (E_ret ?_))
   obtain rfl := sinj h
   exact end2 rfl rfl (show _ = .int .i64 (y6) from rfl) (show _ = .int .i64 (0) from rfl) ⟨_, hfr, _, _, rfl, rfl, rfl⟩
def f70 (x0 : BoxLoom) (x1 : List BoxPick) : Option (BoxBoxLoom × BoxRun × Int × Int) :=
 jn (σ := BoxBoxLoom × BoxRun) (fun (z4, i6) =>
  (f54 z4 ((fun a0 a1 => f75 a0 a1))).bind fun y6 =>
  (f76 y6 x1).bind fun y71 =>
  some (z4, y71.1, y71.2.1, y71.2.2)
  ) fun a7 =>
 (f74 x0 x1).bind fun j1 =>
 bif (j1.2 != (0 : Int)) then
  some (j1.1, (⟨[], ⟨(⟨List.toArray [(⟨List.toArray [0, 0, 0, 0], rfl⟩ : Vector Int 4), (⟨List.toArray [0, 0, 0, 0], rfl⟩ : Vector Int 4)], rfl⟩ : Vector (Vector Int 4) 2), ⟨0, 0⟩⟩, 0⟩ : BoxRun), (0 : Int), j1.2)
 else
  a7 (j1.1, (⟨[], ⟨(⟨List.toArray [(⟨List.toArray [0, 0, 0, 0], rfl⟩ : Vector Int 4), (⟨List.toArray [0, 0, 0, 0], rfl⟩ : Vector Int 4)], rfl⟩ : Vector (Vector Int 4) 2), ⟨0, 0⟩⟩, 0⟩ : BoxRun))
theorem en70 : Enters Try.prog 70 := enters_of Try.func70 (by kernel_rfl) rfl
theorem wk70 {gI : Gh} {wI : World} {x0 : BoxLoom} {x1 : List BoxPick} {up0 : Value} (rp0 : RV gI.m wI x0 up0) {up1 : Value} (rp1 : RV gI.m wI x1 up1) {r : BoxBoxLoom × BoxRun × Int × Int} (h : f70 x0 x1 = some r) : Fn Try.prog 70 #[up0, up1] gI wI (fun m w v => ∃ y0 y1 y2 y3, v = .tuple #[y0, y1, y2, y3] ∧ RV m w (r.1) y0 ∧ RV m w (r.2.1) y1 ∧ y2 = .int .i64 (r.2.2.1) ∧ y3 = .int .i64 (r.2.2.2)) := by
 unfold f70 at h
 refine fn_of_E Try.func70 rfl (Nat.le_of_ble_eq_true rfl) fun g0 hm hfr => ?_
 have rp0 : RV g0.m wI x0 up0 := hm ▸ rp0
 have rp1 : RV g0.m wI x1 up1 := hm ▸ rp1
 show E _ 31 none _ _ _ _ _
 refine E_seq (E_region (EL_do .plain rfl (D_box (g := g0) rfl rp0 fun g1 w1 p1 hs q1 => ?_)))
 have hfr := hfr.ext hs
 have rp1 := rp1.ext hs
 refine EL_do .plain rfl (D_allocOc (g := g1) 2004 (⟨⟨[], [], []⟩⟩ : BoxBoxLoom) Try.zeroValue102 (fun m w => ⟨_, (rep_two rep_nil (rep_two rep_nil rep_nil)), rfl⟩) fun g2 w2 p2 hs b2 cb => ?_)
 have hfr := hfr.stp hs
 have rp1 := rp1.stp hs
 have q1 := q1.stp hs
 have bA : OSF 2004 60400 0 g2 w2 3 102 ([] : List Int) p2 := cb.osf (by rfl)
 have gA : OSF 2004 60401 1 g2 w2 3 102 ([] : List Int) p2 := cb.osf (by rfl)
 have iA : OSF 2004 60402 2 g2 w2 87 102 ([] : List BoxShuttle) p2 := cb.osf (by rfl)
 clear cb
 refine EL_do .plain rfl (D_allocOc (g := g2) 2005 (⟨[], ⟨(⟨List.toArray [(⟨List.toArray [0, 0, 0, 0], rfl⟩ : Vector Int 4), (⟨List.toArray [0, 0, 0, 0], rfl⟩ : Vector Int 4)], rfl⟩ : Vector (Vector Int 4) 2), ⟨0, 0⟩⟩, 0⟩ : BoxRun) Try.zeroValue129 (fun m w => ⟨_, (rep_two rep_nil (rep_two (rep_two (rep_vec (flat_chunk (rep_vec (flat_chunk rep_int (flat_chunk rep_int (flat_chunk rep_int (flat_chunk rep_int flat_nil)))) rfl) (flat_chunk (rep_vec (flat_chunk rep_int (flat_chunk rep_int (flat_chunk rep_int (flat_chunk rep_int flat_nil)))) rfl) flat_nil)) rfl) (rep_two rep_int rep_int)) rep_int)), rfl⟩) fun g3 w3 p3 hs b3 cb => ?_)
 have hfr := hfr.stp hs
 have rp1 := rp1.stp hs
 have q1 := q1.stp hs
 have b2 := b2.stp hs rfl
 have z3 : OSF 2005 60500 0 g3 w3 3 129 ([] : List Int) p3 := cb.osf (by rfl)
 clear cb
 refine EL_at (.int .i64 (0)) rfl rfl ?_
 refine EL_at (.int .i64 (0)) rfl rfl ?_
 refine EL_nil (thn_n (E_joinC h (fun (s : BoxBoxLoom × BoxRun) e w => ∃ (g : Gh) , Fr gI wI g w ∧ e 1 = up1 ∧ RV g.m w (x1 : List BoxPick) up1 ∧ e 4 = p2 ∧ OB 2004 g w 102 (s.1 : BoxBoxLoom) p2 ∧ e 5 = p3 ∧ OB 2005 g w 129 (s.2 : BoxRun) p3 ∧ OSF 2005 60500 0 g w 3 129 ((s.2).thrown) p3) (fun X34 a7 d7 h => ?_) ?_))
 ·refine E_seq (E_region (EL_do .plain rfl (D_load (g := g3) Try.isAgg25 Try.sizeOf25 rfl q1 fun q8 r8 => ?_)))
  refine EL_mw up1 rfl rfl ?_
  obtain ⟨j1, g7, h⟩ := bsome h
  refine EL_do .plain rfl (D_call (g := g3) (vs := [q8, up1]) en74 (.cons rfl (.cons rfl .nil)) (wk74 r8 rp1 g7) fun t8 jA oA hs hr => ?_)
  have hfr := hfr.ext hs
  have rp1 := rp1.ext hs
  have b2 := b2.ext hs
  have z3 := z3.ext hs
  have b3 := b3.ext hs
  obtain ⟨i5, u9, rfl, j6, rfl⟩ := hr
  refine EL_mw (.tuple #[i5, .int .i64 (j1.2)]) rfl rfl ?_
  refine EL_p i5 (P_extract rfl rfl) rfl ?_
  refine EL_p (.int .i64 (j1.2)) (P_extract rfl rfl) rfl ?_
  refine EL_do .plain rfl (D_storeOc (g := t8) (v := i5) Try.sizeOf102 rfl b2 rfl j6 fun b7 pA hs b38 cb => ?_)
  clear cb
  have hfr := hfr.stp hs
  have rp1 := rp1.stp hs
  have z3 := z3.stp hs rfl
  have b3 := b3.stp hs rfl
  refine EL_at (.int .i64 (j1.2)) rfl rfl ?_
  refine EL_nil (thn_n (E_seq (E_region (EL_mw (.int .i64 (j1.2)) rfl rfl ?_))))
  refine EL_in (.bool ((j1.2 != (0 : Int)))) rfl rfl rfl rfl ?_
  refine EL_nil (thn_n ?_)
  rcases csome h with ⟨x5, h⟩ | ⟨x5, h⟩
  ·refine E_ct x5 rfl ?_
   refine E_seq (L_selfO Try.isAgg102 Try.sizeOf102 rfl b38 fun v8 i7 j7 => ?_)
   refine L_selfO Try.isAgg129 Try.sizeOf129 rfl b3 fun x8 m7 o7 => ?_
   refine E_drawL (g := b7) (n := 7) [(3, (fun _ _ _ => True)), (4, (fun _ _ _ => True))] [0, 1, 2, 3, 4, 5, 6] rfl mixed (by kernel_rfl) (⟨fun _ => (fun _ _ _ _ _ _ => trivial), fun _ => (fun _ _ _ _ _ _ => trivial), trivial⟩) ?_
   refine L_ld (c := v8) rfl rfl .plain (fun _ _ h => ⟨h.ch, fun b hb _ => h.below.block b hb⟩) (i7 _) rfl ?_
   refine L_ld (c := x8) rfl rfl .plain (fun _ _ h => ⟨h.ch, fun b hb _ => h.below.block b hb⟩) (m7 _) rfl ?_
   refine L_p (.int .i64 (j1.2)) rfl rfl (P_move rfl) ?_
   refine L_do (φ := fun _ _ _ => True) rfl rfl .plain (fun g w hd => j7 _ _ _ g w ⟨hd.1.ch, fun b hb _ => hd.1.below.block b hb⟩ rfl rfl) (fun qA hv => ?_)
   clear hv
   refine L_do (φ := fun _ _ _ => True) rfl rfl .plain (fun g w hd => o7 _ _ _ g w ⟨hd.1.ch, fun b hb _ => hd.1.below.block b hb⟩ rfl rfl) (fun rA hv => ?_)
   clear hv
   refine L_p (.int .i64 (0)) rfl rfl (P_assign rfl) ?_
   refine L_p (.int .i64 (j1.2)) rfl rfl (P_assign rfl) ?_
   refine L_nl fun uA xA hs => ?_
   have hfr := hfr.ext hs
   have b38 := b38.ext hs
   have b3 := b3.ext hs
   clear hs
   refine EL_nil (thn_n (E_ret (thn_r ?_)))
   obtain rfl := sinj h
   obtain ⟨ad63, cv63, hp63, u7, cr63⟩ := ob_read Try.isAgg102 Try.sizeOf102 b38
   obtain ⟨ad65, cv65, hp65, v7, cr65⟩ := ob_read Try.isAgg129 Try.sizeOf129 b3
   exact endm_cctt rfl rfl ((show _ = p2 from rfl).trans hp63) u7 ((show _ = p3 from rfl).trans hp65) v7 (show _ = .int .i64 (0) from rfl) (show _ = .int .i64 (j1.2) from rfl) ⟨_, hfr, _, _, _, _, rfl, cr63, cr65, rfl, rfl⟩
  ·refine E_cf x5 rfl ?_
   exact E_skip (thn_n (d7 (j1.1, (⟨[], ⟨(⟨List.toArray [(⟨List.toArray [0, 0, 0, 0], rfl⟩ : Vector Int 4), (⟨List.toArray [0, 0, 0, 0], rfl⟩ : Vector Int 4)], rfl⟩ : Vector (Vector Int 4) 2), ⟨0, 0⟩⟩, 0⟩ : BoxRun)) _ _ ⟨b7, hfr, rfl, rp1, rfl, b38, rfl, b3, z3⟩ h))
 ·rintro ⟨z4, i6⟩ lA yA ⟨c7, hfr, v6, l5, j3, o0, u3, i3, u5_0_66⟩ h
  refine E_seq (E_region (EL_do .plain rfl (D_loadO (g := c7) Try.isAgg102 Try.sizeOf102 j3 o0 fun y8 a9 => ?_)))
  obtain ⟨y6, c8, h⟩ := bsome h
  refine EL_do .plain rfl (D_call (g := c7) (vs := [y8, .func (.func 75) #[] #[]]) en54 (.cons rfl (.cons rfl .nil)) (wk54 a9 ⟨75, #[], #[], rfl, en75, fun g' w' hch a0 a1 b0 b1 r hu0 hu1 hr => by obtain rfl := RV_int.1 hu0; exact Fn.mono (wk75 hu1  hr) fun _ _ _ h => RV_int.2 h⟩ c8) fun d9 mA i9 hs hr => ?_)
  have hfr := hfr.ext hs
  have l5 := l5.ext hs
  have o0 := o0.ext hs
  have i3 := i3.ext hs
  have k9 := hr
  refine EL_mv v6 rfl ?_
  obtain ⟨y71, g8, h⟩ := bsome h
  refine EL_do .plain rfl (D_call (g := d9) (vs := [i9, up1]) en76 (.cons rfl (.cons rfl .nil)) (wk76 k9 l5 g8) fun l9 nA zA hs hr => ?_)
  have hfr := hfr.ext hs
  have o0 := o0.ext hs
  have i3 := i3.ext hs
  obtain ⟨t5, y9, z9, rfl, x6, rfl, rfl⟩ := hr
  refine EL_mw (.tuple #[t5, .int .i64 (y71.2.1), .int .i64 (y71.2.2)]) rfl rfl ?_
  refine EL_p t5 (P_extract rfl rfl) rfl ?_
  refine EL_p (.int .i64 (y71.2.1)) (P_extract rfl rfl) rfl ?_
  refine EL_p (.int .i64 (y71.2.2)) (P_extract rfl rfl) rfl ?_
  refine EL_do .plain rfl (D_storeOc (g := l9) (v := t5) Try.sizeOf129 u3 i3 rfl x6 fun n9 aB hs b72 cb => ?_)
  clear cb
  have hfr := hfr.stp hs
  have o0 := o0.stp hs rfl
  refine EL_at (.int .i64 (y71.2.1)) rfl rfl ?_
  refine EL_at (.int .i64 (y71.2.2)) rfl rfl ?_
  refine EL_nil (thn_n (E_seq (L_selfO Try.isAgg102 Try.sizeOf102 rfl o0 fun o9 i8 k8 => ?_)))
  refine L_selfO Try.isAgg129 Try.sizeOf129 rfl b72 fun t9 l8 m8 => ?_
  refine E_drawL (g := n9) (n := 8) [(4, (fun _ _ _ => True)), (5, (fun _ _ _ => True))] [0, 1, 2, 3, 4, 5, 6, 7] rfl mixed (by kernel_rfl) (⟨fun _ => (fun _ _ _ _ _ _ => trivial), fun _ => (fun _ _ _ _ _ _ => trivial), trivial⟩) ?_
  refine L_ld (c := o9) rfl rfl .plain (fun _ _ h => ⟨h.ch, fun b hb _ => h.below.block b hb⟩) (i8 _) j3 ?_
  refine L_ld (c := t9) rfl rfl .plain (fun _ _ h => ⟨h.ch, fun b hb _ => h.below.block b hb⟩) (l8 _) u3 ?_
  refine L_p (.int .i64 (y71.2.1)) rfl rfl (P_move rfl) ?_
  refine L_p (.int .i64 (y71.2.2)) rfl rfl (P_move rfl) ?_
  refine L_do (φ := fun _ _ _ => True) rfl rfl .plain (fun g w hd => k8 _ _ _ g w ⟨hd.1.ch, fun b hb _ => hd.1.below.block b hb⟩ j3 rfl) (fun bB hv => ?_)
  clear hv
  refine L_do (φ := fun _ _ _ => True) rfl rfl .plain (fun g w hd => m8 _ _ _ g w ⟨hd.1.ch, fun b hb _ => hd.1.below.block b hb⟩ u3 rfl) (fun cB hv => ?_)
  clear hv
  refine L_p (.int .i64 (y71.2.1)) rfl rfl (P_assign rfl) ?_
  refine L_p (.int .i64 (y71.2.2)) rfl rfl (P_assign rfl) ?_
  refine L_nl fun dB eB hs => ?_
  have hfr := hfr.ext hs
  have o0 := o0.ext hs
  have b72 := b72.ext hs
  clear hs
  refine EL_nil (thn_n (E_ret ?_))
  obtain rfl := sinj h
  obtain ⟨ad95, cv95, hp95, n8, cr95⟩ := ob_read Try.isAgg102 Try.sizeOf102 o0
  obtain ⟨ad96, cv96, hp96, o8, cr96⟩ := ob_read Try.isAgg129 Try.sizeOf129 b72
  exact endm_cctt rfl rfl ((show _ = p2 from j3).trans hp95) n8 ((show _ = p3 from u3).trans hp96) o8 (show _ = .int .i64 (y71.2.1) from rfl) (show _ = .int .i64 (y71.2.2) from rfl) ⟨_, hfr, _, _, _, _, rfl, cr95, cr96, rfl, rfl⟩
def f29 (x0 : BoxLoom) (x1 : List BoxPick) : Option ((List Span) × Int × Int) :=
 (f70 x0 x1).bind fun y5 =>
 jn (σ := (List Span)) (fun v8 =>
  Option.bind (α := (List Span)) (
   lp (σ := (List Span) × Int) (fun k48 (m7, j3) =>
    bif (decide (j3 < ((((y5.1).BoxLoom).Shuttles).length : Int))) then
     Option.bind (α := (List Span)) (
      (idx (((y5.1).BoxLoom).Shuttles) j3).bind fun u9 =>
      (apnd 16 m7 (([(u9).Yarn] : List Span))).bind fun y71 =>
      some (y71)
      ) fun x6 =>
     k48 (x6, (w64 (j3 + (1 : Int))))
    else
     some (m7)
    ) big (v8, (0 : Int))
   ) fun o7 =>
  Option.bind (α := (List Span)) (
   lp (σ := (List Span) × Int) (fun y9 (t5, o0) =>
    bif (decide (o0 < (((y5.2.1).thrown).length : Int))) then
     Option.bind (α := (List Span)) (
      (idx ((y5.2.1).thrown) o0).bind fun i5 =>
      (idx t5 (w64 (i5 - (1 : Int)))).bind fun y130 =>
      (idx t5 (w64 (i5 - (1 : Int)))).bind fun jC =>
      some ((List.set t5 (Int.toNat (w64 (i5 - (1 : Int)))) ((⟨(max64 (0 : Int) (w64 ((y130).Low - (1 : Int)))), (max64 (0 : Int) (w64 ((y130).High - (1 : Int))))⟩ : Span))))
      ) fun i6 =>
     y9 (i6, (w64 (o0 + (1 : Int))))
    else
     some (t5)
    ) big (o7, (0 : Int))
   ) fun y6 =>
  some (y6, (0 : Int), (0 : Int))
  ) fun zB =>
 bif (y5.2.2.2 != (0 : Int)) then
  some (([] : List Span), y5.2.2.1, y5.2.2.2)
 else
  zB (([] : List Span))
theorem W78 {iO : Nat} {gI : Gh} {wI : World} {x0 : List Int} {up0 : Value} (rp0 : RV gI.m wI x0 up0) {r : List Int} (h : f78 x0 = some r) : FnG Try.prog 78 #[up0] gI wI (fun g w v => OWx (Ow.list 3 (Ow.sh Int)) iO g w r v) := by
 unfold f78 at h
 refine fnG_of_E Try.func78 rfl (Nat.le_of_ble_eq_true rfl) fun g0 hm hfr => ?_
 have rp0 : RV g0.m wI x0 up0 := hm ▸ rp0
 show E _ 8 none _ _ _ _ _
 refine E_seq (E_region (EL_at (.slice none 0 0) rfl rfl (EL_nil (thn_n ?_))))
 refine E_seq (E_seq (E_region (EL_mw up0 rfl rfl ?_)))
 obtain ⟨a, c, hv, hc, hrow⟩ := RV_list rp0
 refine EL_p (.bool a.isNone) (P_slnil Try.underlying22 (show ev _ _ = _ from hv)) rfl (EL_nil (thn_n ?_))
 cases a with
 | none =>
  have hx : x0 = [] := by
   cases x0 with
   | nil => rfl
   | cons y ys => obtain ⟨b, off, hb, _⟩ := hrow (by simp); cases hb
  subst hx
  have hr : r = [] := by unfold apnd at h; split at h <;> simp at h; exact h
  subst hr
  refine E_cond_true rfl (E_seq (E_region ?_))
  refine EL_at (.slice none 0 0) rfl rfl (EL_nil (thn_n ?_))
  obtain ⟨sk, ow, ok⟩ := OA.toW (OA.nil : OA 1 g0 wI 3 ([] : List Int) (.slice none 0 0))
  obtain ⟨gh, hxh, _, homh⟩ := OW.hand (i := iO) hfr ow ok; exact E_ret (thn_r (end1 rfl rfl (show _ = .slice none 0 0 from rfl) ⟨gh, hxh, homh⟩))
 | some a =>
  refine E_cond_false rfl (E_skip (thn_n ?_))
  refine E_seq (E_region (EL_do .plain rfl (D_buildSlice (g := g0) 1 (xs := ([] : List Int)) (vs := []) Try.underlying22 Try.sizeOf3 Try.zeroValue3 rfl rfl .nil RVs.nil rfl rfl fun g1 w1 v1 hs o1 r1 hxt hfl => ?_)))
  have hfr := hfr.stp hs
  have rp0 := rp0.stp hs
  refine EL_mw up0 rfl rfl ?_
  refine EL_do .plain rfl (D_appendE (g := g1) plain_int (i := 1) Try.underlying22 info_3 rfl rfl o1 hfl rfl rp0 h fun g2 w2 v2 hs b2 => ?_)
  have hfr := hfr.ext hs
  refine EL_at v2 rfl rfl (EL_nil (thn_n ?_))
  obtain ⟨sk, ow, ok⟩ := OA.toW b2
  obtain ⟨gh, hxh, _, homh⟩ := OW.hand (i := iO) hfr ow ok; exact E_ret (end1 rfl rfl (show _ = v2 from rfl) ⟨gh, hxh, homh⟩)
theorem W79 {iO : Nat} {gI : Gh} {wI : World} {x0 : List BoxShuttle} {up0 : Value} (rp0 : RV gI.m wI x0 up0) {r : List BoxShuttle} (h : f79 x0 = some r) : FnG Try.prog 79 #[up0] gI wI (fun g w v => OWx (Ow.list 87 (Ow.sh BoxShuttle)) iO g w r v) := by
 unfold f79 at h
 refine fnG_of_E Try.func79 rfl (Nat.le_of_ble_eq_true rfl) fun g0 hm hfr => ?_
 have rp0 : RV g0.m wI x0 up0 := hm ▸ rp0
 show E _ 8 none _ _ _ _ _
 refine E_seq (E_region (EL_at (.slice none 0 0) rfl rfl (EL_nil (thn_n ?_))))
 refine E_seq (E_seq (E_region (EL_mw up0 rfl rfl ?_)))
 obtain ⟨a, c, hv, hc, hrow⟩ := RV_list rp0
 refine EL_p (.bool a.isNone) (P_slnil Try.underlying23 (show ev _ _ = _ from hv)) rfl (EL_nil (thn_n ?_))
 cases a with
 | none =>
  have hx : x0 = [] := by
   cases x0 with
   | nil => rfl
   | cons y ys => obtain ⟨b, off, hb, _⟩ := hrow (by simp); cases hb
  subst hx
  have hr : r = [] := by unfold apnd at h; split at h <;> simp at h; exact h
  subst hr
  refine E_cond_true rfl (E_seq (E_region ?_))
  refine EL_at (.slice none 0 0) rfl rfl (EL_nil (thn_n ?_))
  obtain ⟨sk, ow, ok⟩ := OA.toW (OA.nil : OA 1 g0 wI 87 ([] : List BoxShuttle) (.slice none 0 0))
  obtain ⟨gh, hxh, _, homh⟩ := OW.hand (i := iO) hfr ow ok; exact E_ret (thn_r (end1 rfl rfl (show _ = .slice none 0 0 from rfl) ⟨gh, hxh, homh⟩))
 | some a =>
  refine E_cond_false rfl (E_skip (thn_n ?_))
  refine E_seq (E_region (EL_do .plain rfl (D_buildSlice (g := g0) 1 (xs := ([] : List BoxShuttle)) (vs := []) Try.underlying23 Try.sizeOf87 Try.zeroValue87 rfl rfl .nil RVs.nil rfl rfl fun g1 w1 v1 hs o1 r1 hxt hfl => ?_)))
  have hfr := hfr.stp hs
  have rp0 := rp0.stp hs
  refine EL_mw up0 rfl rfl ?_
  refine EL_do .plain rfl (D_appendE (g := g1) plain_BoxShuttle (i := 1) Try.underlying23 info_87 rfl rfl o1 hfl rfl rp0 h fun g2 w2 v2 hs b2 => ?_)
  have hfr := hfr.ext hs
  refine EL_at v2 rfl rfl (EL_nil (thn_n ?_))
  obtain ⟨sk, ow, ok⟩ := OA.toW b2
  obtain ⟨gh, hxh, _, homh⟩ := OW.hand (i := iO) hfr ow ok; exact E_ret (end1 rfl rfl (show _ = v2 from rfl) ⟨gh, hxh, homh⟩)
def f40 (x0 : BoxLoom) (x1 : List BoxPick) : Option ((List Int) × BoxLoom × Int × Int × Int) :=
 (f70 x0 x1).bind fun y5 =>
 jn (σ := (List Int) × BoxLoom) (fun (bD, i6) =>
  Option.bind (α := (List Int)) (
   lp (σ := (List Int) × Int) (fun rE (pA, l5) =>
    bif (decide (l5 < (((y5.2.1).thrown).length : Int))) then
     Option.bind (α := (List Int)) (
      (idx ((y5.2.1).thrown) l5).bind fun i9 =>
      (idx (((y5.1).BoxLoom).Shuttles) (w64 (i9 - (1 : Int)))).bind fun y125 =>
      (apnd 8 pA (([(y125).Colour] : List Int))).bind fun sE =>
      some (sE)
      ) fun t8 =>
     rE (t8, (w64 (l5 + (1 : Int))))
    else
     some (pA)
    ) big (bD, (0 : Int))
   ) fun i5 =>
  (f78 (((y5.1).BoxLoom).Boxes)).bind fun k9 =>
  (f79 (((y5.1).BoxLoom).Shuttles)).bind fun l9 =>
  Option.bind (α := BoxLoom) (
   lp (σ := BoxLoom × Int) (fun tE (qA, j1) =>
    bif (decide (j1 < (2 : Int))) then
     Option.bind (α := BoxLoom) (
      (idx (((y5.2.1).last).boxes).toList j1).bind fun oB =>
      lp (σ := BoxLoom × Int) (fun uE (o0, z4) =>
       bif (decide (z4 < (4 : Int))) then
        Option.bind (α := BoxLoom) (
         (idx (oB).toList z4).bind fun u3 =>
         bif (decide (u3 > (0 : Int))) then
          (idx ((o0).Shuttles) ((w64 (u3 - (1 : Int))))).bind fun j6 =>
          (idx ((({ o0 with Shuttles := (List.set ((o0).Shuttles) (Int.toNat ((w64 (u3 - (1 : Int))))) ({ j6 with Side := j1 } : BoxShuttle)) } : BoxLoom)).Shuttles) ((w64 (u3 - (1 : Int))))).bind fun tB =>
          some (({ (({ o0 with Shuttles := (List.set ((o0).Shuttles) (Int.toNat ((w64 (u3 - (1 : Int))))) ({ j6 with Side := j1 } : BoxShuttle)) } : BoxLoom)) with Shuttles := (List.set ((({ o0 with Shuttles := (List.set ((o0).Shuttles) (Int.toNat ((w64 (u3 - (1 : Int))))) ({ j6 with Side := j1 } : BoxShuttle)) } : BoxLoom)).Shuttles) (Int.toNat ((w64 (u3 - (1 : Int))))) ({ tB with Box := z4 } : BoxShuttle)) } : BoxLoom))
         else
          some (o0)
         ) fun o9 =>
        uE (o9, (w64 (z4 + (1 : Int))))
       else
        some (o0)
       ) big (qA, (0 : Int))
      ) fun t9 =>
     tE (t9, (w64 (j1 + (1 : Int))))
    else
     some (qA)
    ) big ((⟨k9, ([(((y5.2.1).last).at_).Left, (((y5.2.1).last).at_).Right] : List Int), l9⟩ : BoxLoom), (0 : Int))
   ) fun rA =>
  some (i5, rA, (y5.2.1).moves, (0 : Int), (0 : Int))
  ) fun qH =>
 bif (y5.2.2.2 != (0 : Int)) then
  some ([], (⟨[], [], []⟩ : BoxLoom), (0 : Int), y5.2.2.1, y5.2.2.2)
 else
  qH ([], (⟨[], [], []⟩ : BoxLoom))
theorem en40 : Enters Try.prog 40 := enters_of Try.func40 (by kernel_rfl) rfl
theorem wk40 {gI : Gh} {wI : World} {x0 : BoxLoom} {x1 : List BoxPick} {up0 : Value} (rp0 : RV gI.m wI x0 up0) {up1 : Value} (rp1 : RV gI.m wI x1 up1) {r : (List Int) × BoxLoom × Int × Int × Int} (h : f40 x0 x1 = some r) : Fn Try.prog 40 #[up0, up1] gI wI (fun m w v => ∃ y0 y1 y2 y3 y4, v = .tuple #[y0, y1, y2, y3, y4] ∧ RV m w (r.1) y0 ∧ RV m w (r.2.1) y1 ∧ y2 = .int .i64 (r.2.2.1) ∧ y3 = .int .i64 (r.2.2.2.1) ∧ y4 = .int .i64 (r.2.2.2.2)) := by
 unfold f40 at h
 refine fn_of_E Try.func40 rfl (Nat.le_of_ble_eq_true rfl) fun g0 hm hfr => ?_
 have rp0 : RV g0.m wI x0 up0 := hm ▸ rp0
 have rp1 : RV g0.m wI x1 up1 := hm ▸ rp1
 show E _ 101 none _ _ _ _ _
 refine E_seq (E_region (EL_do .plain rfl (D_box (g := g0) rfl rp0 fun g1 w1 p1 hs q1 => ?_)))
 have hfr := hfr.ext hs
 have rp1 := rp1.ext hs
 refine EL_at (.slice none 0 0) rfl rfl ?_
 refine EL_do .plain rfl (D_allocOc (g := g1) 2005 (⟨[], [], []⟩ : BoxLoom) Try.zeroValue25 (fun m w => ⟨_, (rep_two rep_nil (rep_two rep_nil rep_nil)), rfl⟩) fun g2 w2 p2 hs b2 cb => ?_)
 have hfr := hfr.stp hs
 have rp1 := rp1.stp hs
 have q1 := q1.stp hs
 have o7 : OSF 2005 60500 0 g2 w2 3 25 ([] : List Int) p2 := cb.osf (by rfl)
 have u7 : OSF 2005 60501 1 g2 w2 3 25 ([] : List Int) p2 := cb.osf (by rfl)
 have v7 : OSF 2005 60502 2 g2 w2 87 25 ([] : List BoxShuttle) p2 := cb.osf (by rfl)
 clear cb
 iterate 3 refine EL_at (.int .i64 (0)) rfl rfl ?_
 refine EL_nil (thn_n (E_seq (E_region (EL_do .plain rfl (D_load (g := g2) Try.isAgg25 Try.sizeOf25 rfl q1 fun v3 r3 => ?_)))))
 refine EL_mw up1 rfl rfl ?_
 obtain ⟨y5, hy5, h⟩ := bsome h
 refine EL_do .plain rfl (D_call (g := g2) (vs := [v3, up1]) en70 (.cons rfl (.cons rfl .nil)) (wk70 r3 rp1 hy5) fun g4 w4_ v4 hs hr => ?_)
 have hfr := hfr.ext hs
 have o7 := o7.ext hs
 have u7 := u7.ext hs
 have v7 := v7.ext hs
 have b2 := b2.ext hs
 obtain ⟨rC, tC, vJ, xJ, rfl, uA, n9, rfl, rfl⟩ := hr
 refine EL_mw (.tuple #[rC, tC, .int .i64 (y5.2.2.1), .int .i64 (y5.2.2.2)]) rfl rfl ?_
 refine EL_p rC (P_extract rfl rfl) rfl ?_
 refine EL_p tC (P_extract rfl rfl) rfl ?_
 refine EL_p (.int .i64 (y5.2.2.1)) (P_extract rfl rfl) rfl ?_
 refine EL_p (.int .i64 (y5.2.2.2)) (P_extract rfl rfl) rfl ?_
 refine EL_do .plain rfl (D_allocOc (g := g4) 2009 (⟨⟨[], [], []⟩⟩ : BoxBoxLoom) Try.zeroValue102 (fun m w => ⟨_, (rep_two rep_nil (rep_two rep_nil rep_nil)), rfl⟩) fun g6 w6 p6 hs b6 cb => ?_)
 have hfr := hfr.stp hs
 have o7 := o7.stp hs rfl
 have u7 := u7.stp hs rfl
 have v7 := v7.stp hs rfl
 have b2 := b2.stp hs rfl
 have uA := uA.stp hs
 have n9 := n9.stp hs
 have yJ : OSF 2009 60900 0 g6 w6 3 102 ([] : List Int) p6 := cb.osf (by rfl)
 have zJ : OSF 2009 60901 1 g6 w6 3 102 ([] : List Int) p6 := cb.osf (by rfl)
 have aK : OSF 2009 60902 2 g6 w6 87 102 ([] : List BoxShuttle) p6 := cb.osf (by rfl)
 clear cb
 refine EL_do .plain rfl (D_allocOc (g := g6) 2010 (⟨[], ⟨(⟨List.toArray [(⟨List.toArray [0, 0, 0, 0], rfl⟩ : Vector Int 4), (⟨List.toArray [0, 0, 0, 0], rfl⟩ : Vector Int 4)], rfl⟩ : Vector (Vector Int 4) 2), ⟨0, 0⟩⟩, 0⟩ : BoxRun) Try.zeroValue129 (fun m w => ⟨_, (rep_two rep_nil (rep_two (rep_two (rep_vec (flat_chunk (rep_vec (flat_chunk rep_int (flat_chunk rep_int (flat_chunk rep_int (flat_chunk rep_int flat_nil)))) rfl) (flat_chunk (rep_vec (flat_chunk rep_int (flat_chunk rep_int (flat_chunk rep_int (flat_chunk rep_int flat_nil)))) rfl) flat_nil)) rfl) (rep_two rep_int rep_int)) rep_int)), rfl⟩) fun g7 w7 p7 hs b7 cb => ?_)
 have hfr := hfr.stp hs
 have o7 := o7.stp hs rfl
 have u7 := u7.stp hs rfl
 have v7 := v7.stp hs rfl
 have b2 := b2.stp hs rfl
 have uA := uA.stp hs
 have n9 := n9.stp hs
 have b6 := b6.stp hs rfl
 have bK : OSF 2010 61000 0 g7 w7 3 129 ([] : List Int) p7 := cb.osf (by rfl)
 clear cb
 refine EL_do .plain rfl (D_storeOc (g := g7) (v := rC) Try.sizeOf102 rfl b6 rfl uA fun g8 w8 hs b8 cb => ?_)
 clear cb
 have hfr := hfr.stp hs
 have o7 := o7.stp hs rfl
 have u7 := u7.stp hs rfl
 have v7 := v7.stp hs rfl
 have b2 := b2.stp hs rfl
 have n9 := n9.stp hs
 have b7 := b7.stp hs rfl
 refine EL_do .plain rfl (D_storeOc (g := g8) (v := tC) Try.sizeOf129 rfl b7 rfl n9 fun g9 w9 hs b9 cb => ?_)
 clear cb
 have hfr := hfr.stp hs
 have o7 := o7.stp hs rfl
 have u7 := u7.stp hs rfl
 have v7 := v7.stp hs rfl
 have b2 := b2.stp hs rfl
 have b8 := b8.stp hs rfl
 refine EL_at (.int .i64 (y5.2.2.1)) rfl rfl ?_
 refine EL_at (.int .i64 (y5.2.2.2)) rfl rfl ?_
 refine EL_nil (thn_n (E_joinC h (fun (s : (List Int) × BoxLoom) e w => ∃ (g : Gh) (v4 : Value), Fr gI wI g w ∧ e 4 = v4 ∧ RV g.m w (s.1 : List Int) v4 ∧ OS 1004 g w 3 (s.1 : List Int) v4 ∧ e 5 = p2 ∧ OB 2005 g w 25 (s.2 : BoxLoom) p2 ∧ OSF 2005 60500 0 g w 3 25 ((s.2).Boxes) p2 ∧ OSF 2005 60501 1 g w 3 25 ((s.2).At) p2 ∧ OSF 2005 60502 2 g w 87 25 ((s.2).Shuttles) p2 ∧ e 9 = p6 ∧ OB 2009 g w 102 (y5.1 : BoxBoxLoom) p6 ∧ e 10 = p7 ∧ OB 2010 g w 129 (y5.2.1 : BoxRun) p7) (fun X38 qH tH h => ?_) ?_))
 ·refine E_seq (E_region (EL_mw (.int .i64 (y5.2.2.2)) rfl rfl ?_))
  refine EL_in (.bool ((y5.2.2.2 != (0 : Int)))) rfl rfl rfl rfl ?_
  refine EL_nil (thn_n ?_)
  rcases csome h with ⟨uC, h⟩ | ⟨uC, h⟩
  ·refine E_ct uC rfl ?_
   refine E_seq (L_selfO Try.isAgg25 Try.sizeOf25 rfl b2 fun lJ uH vH => ?_)
   refine E_drawL (g := g9) (n := 8) [(4, (fun _ _ _ => True))] [0, 1, 2, 3, 4, 5, 6, 7] rfl mixed (by kernel_rfl) (⟨fun _ => (fun _ _ _ _ _ _ => trivial), trivial⟩) ?_
   refine L_ld (c := lJ) rfl rfl .plain (fun _ _ h => ⟨h.ch, fun b hb _ => h.below.block b hb⟩) (uH _) rfl ?_
   refine L_p (.int .i64 (y5.2.2.1)) rfl rfl (P_move rfl) ?_
   refine L_p (.int .i64 (y5.2.2.2)) rfl rfl (P_move rfl) ?_
   refine L_p (.slice none 0 0) rfl rfl (P_assign rfl) ?_
   refine L_do (φ := fun _ _ _ => True) rfl rfl .plain (fun g w hd => vH _ _ _ g w ⟨hd.1.ch, fun b hb _ => hd.1.below.block b hb⟩ rfl rfl) (fun nL hv => ?_)
   clear hv
   refine L_p (.int .i64 (0)) rfl rfl (P_assign rfl) ?_
   refine L_p (.int .i64 (y5.2.2.1)) rfl rfl (P_assign rfl) ?_
   refine L_p (.int .i64 (y5.2.2.2)) rfl rfl (P_assign rfl) ?_
   refine L_nl fun oL pL hs => ?_
   have hfr := hfr.ext hs
   have b2 := b2.ext hs
   clear hs
   refine EL_nil (thn_n (E_ret (thn_r ?_)))
   obtain rfl := sinj h
   obtain ⟨ad67, cv67, hp67, xH, cr67⟩ := ob_read Try.isAgg25 Try.sizeOf25 b2
   exact endm_tcttt rfl rfl (show _ = .slice none 0 0 from rfl) ((show _ = p2 from rfl).trans hp67) xH (show _ = .int .i64 (0) from rfl) (show _ = .int .i64 (y5.2.2.1) from rfl) (show _ = .int .i64 (y5.2.2.2) from rfl) ⟨_, hfr, _, _, _, _, _, rfl, RV_nil, cr67, rfl, rfl, rfl⟩
  ·refine E_cf uC rfl ?_
   exact E_skip (thn_n (tH ([], (⟨[], [], []⟩ : BoxLoom)) _ _ ⟨g9, (.slice none 0 0), hfr, rfl, RV_nil, OS.nil, rfl, b2, o7, u7, v7, rfl, b8, rfl, b9⟩ h))
 ·rintro ⟨bD, i6⟩ cK qL ⟨sH, pG, hfr, qG, rG, sG, tG, uG, u5_0_68, u5_1_68, u5_2_68, vG, xG, eC, xA⟩ h
  obtain ⟨i5, hx, h⟩ := bsome h
  refine E_join (fun e w => ∃ (g : Gh) (v4 : Value), Fr gI wI g w ∧ e 4 = v4 ∧ RV g.m w (i5 : List Int) v4 ∧ OS 1004 g w 3 (i5 : List Int) v4 ∧ e 5 = p2 ∧ OB 2005 g w 25 (i6 : BoxLoom) p2 ∧ OSF 2005 60500 0 g w 3 25 ((i6).Boxes) p2 ∧ OSF 2005 60501 1 g w 3 25 ((i6).At) p2 ∧ OSF 2005 60502 2 g w 87 25 ((i6).Shuttles) p2 ∧ e 9 = p6 ∧ OB 2009 g w 102 (y5.1 : BoxBoxLoom) p6 ∧ e 10 = p7 ∧ OB 2010 g w 129 (y5.2.1 : BoxRun) p7) (fun Q' hQ => ?_) (fun nJ dK hR => ?_)
  ·replace h := hx
   clear hx
   refine E_seq (E_region (EL_p (fPtr p7 0) (P_fieldAddr at_129_0 eC (OB.ptr xA)) rfl ?_))
   refine EL_do .plain rfl (D_loadF (g := sH) part_BoxRun_0.1 Try.isAgg22 Try.sizeOf22 rfl xA fun yA vE => ?_)
   refine EL_p (.int .i64 (((y5.2.1).thrown).length : Int)) (P_len Try.underlying22 rfl vE) rfl ?_
   refine EL_mw (.int .i64 (0)) rfl rfl ?_
   refine EL_nil (thn_n (E_block ?_))
   refine E_lp h (fun (s : (List Int) × Int) e w => ∃ (g : Gh) (v4 : Value), Fr gI wI g w ∧ e 4 = v4 ∧ RV g.m w (s.1 : List Int) v4 ∧ OS 1004 g w 3 (s.1 : List Int) v4 ∧ e 5 = p2 ∧ OB 2005 g w 25 (i6 : BoxLoom) p2 ∧ OSF 2005 60500 0 g w 3 25 ((i6).Boxes) p2 ∧ OSF 2005 60501 1 g w 3 25 ((i6).At) p2 ∧ OSF 2005 60502 2 g w 87 25 ((i6).Shuttles) p2 ∧ e 9 = p6 ∧ OB 2009 g w 102 (y5.1 : BoxBoxLoom) p6 ∧ e 10 = p7 ∧ OB 2010 g w 129 (y5.2.1 : BoxRun) p7 ∧ e 31 = yA ∧ RV g.m w ((y5.2.1).thrown : List Int) yA ∧ e 32 = .int .i64 ((((y5.2.1).thrown).length : Int)) ∧ e 33 = .int .i64 (s.2)) ⟨sH, (pG), hfr, qG, rG, sG, tG, uG, u5_0_68, u5_1_68, u5_2_68, vG, xG, eC, xA, rfl, vE, rfl, rfl⟩ (fun X103 rE yG => ?_)
   rintro ⟨pA, l5⟩ oJ eK ⟨zA, xE, hfr, iC, u9, y9, jC, l8, u5_0_104, u5_1_104, u5_2_104, aB, x6, dB, i7, eB, y6, iB, gA⟩ h
   refine E_seq (E_region (EL_p (.bool ((decide (l5 < (((y5.2.1).thrown).length : Int))))) (P_int gA iB rfl) rfl ?_))
   refine EL_nil (thn_n (E_seq ?_))
   rcases csome h with ⟨vB, h⟩ | ⟨vB, h⟩
   ·refine E_ct vB rfl ?_
    refine E_skip (thn_n ?_)
    obtain ⟨t8, hx, h⟩ := bsome h
    refine E_join (fun e w => ∃ (g : Gh) (v4 : Value), Fr gI wI g w ∧ e 4 = v4 ∧ RV g.m w (t8 : List Int) v4 ∧ OS 1004 g w 3 (t8 : List Int) v4 ∧ e 5 = p2 ∧ OB 2005 g w 25 (i6 : BoxLoom) p2 ∧ OSF 2005 60500 0 g w 3 25 ((i6).Boxes) p2 ∧ OSF 2005 60501 1 g w 3 25 ((i6).At) p2 ∧ OSF 2005 60502 2 g w 87 25 ((i6).Shuttles) p2 ∧ e 9 = p6 ∧ OB 2009 g w 102 (y5.1 : BoxBoxLoom) p6 ∧ e 10 = p7 ∧ OB 2010 g w 129 (y5.2.1 : BoxRun) p7 ∧ e 31 = yA ∧ RV g.m w ((y5.2.1).thrown : List Int) yA ∧ e 32 = .int .i64 ((((y5.2.1).thrown).length : Int)) ∧ e 33 = .int .i64 (l5)) (fun Q' hQ => ?_) (fun pJ lK hR => ?_)
    ·replace h := hx
     clear hx
     refine E_block ?_
     refine E_seq (E_region ?_)
     obtain ⟨i9, cD, h⟩ := bsome h
     refine EL_p (ePtr yA l5 1) (P_indexAddr (α := Int) Try.underlying22 Try.sizeOf3 eB y6 gA cD) rfl ?_
     have yH := PT_idx y6 cD
     refine EL_do .plain rfl (D_load (g := zA) Try.isAgg3 Try.sizeOf3 rfl yH fun mK zH => ?_)
     obtain rfl := RV_int.1 zH
     refine EL_at (.int .i64 (i9)) rfl rfl ?_
     refine EL_nil (thn_n (E_region (EL_mv iC rfl ?_)))
     refine EL_p (fPtr p6 0) (P_fieldAddr at_102_0 aB (OB.ptr x6)) rfl ?_
     refine EL_p (fPtr p6 2) (P_fieldAddr2 (o1 := 0) rfl at_25_2 rfl (OB.ptr x6)) rfl ?_
     refine EL_do .plain rfl (D_loadF (g := zA) (SubS.comp part_BoxBoxLoom_0 part_BoxLoom_2 rfl).1 Try.isAgg23 Try.sizeOf23 rfl x6 fun yE zE => ?_)
     refine EL_mw (.int .i64 (i9)) rfl rfl ?_
     refine EL_in (.int .i64 ((w64 (i9 - (1 : Int))))) rfl rfl rfl rfl ?_
     obtain ⟨y125, eD, h⟩ := bsome h
     refine EL_p (ePtr yE (w64 (i9 - (1 : Int))) 5) (P_indexAddr (α := BoxShuttle) Try.underlying23 Try.sizeOf87 rfl zE rfl eD) rfl ?_
     have cF := PT_idx zE eD
     refine EL_p (fPtr (ePtr yE (w64 (i9 - (1 : Int))) 5) 0) (P_fieldAddr at_87_0 rfl (PT.ptr cF)) rfl ?_
     have aI := PT_field (part_BoxShuttle_0).1 cF
     refine EL_do .plain rfl (D_load (g := zA) Try.isAgg3 Try.sizeOf3 rfl aI fun nK bI => ?_)
     obtain rfl := RV_int.1 bI
     refine EL_do .plain rfl (D_buildSlice (g := zA) 3046 (xs := ([(y125).Colour] : List Int)) (vs := [.int .i64 ((y125).Colour)]) Try.underlying22 Try.sizeOf3 Try.zeroValue3 rfl rfl (.cons rfl .nil) (RVs.cons (RV_int.2 rfl) RVs.nil) rfl rfl fun cI oK pK hs o129 dI hxt hfl => ?_)
     have hfr := hfr.stp hs
     have u9 := u9.stp hs
     have y9 := y9.stp hs rfl
     have u5_0_104 := u5_0_104.stp hs rfl
     have u5_1_104 := u5_1_104.stp hs rfl
     have u5_2_104 := u5_2_104.stp hs rfl
     have l8 := l8.stp hs rfl
     have x6 := x6.stp hs rfl
     have i7 := i7.stp hs rfl
     have y6 := y6.stp hs
     obtain ⟨sE, zG, h⟩ := bsome h
     refine EL_do .plain rfl (D_append (g := cI) (i := 1004) Try.underlying22 info_3 rfl rfl y9 u9 rfl dI zG fun iI qK dF hs o130 jI _ => ?_)
     have hfr := hfr.stp hs
     have u5_0_104 := u5_0_104.stp hs rfl
     have u5_1_104 := u5_1_104.stp hs rfl
     have u5_2_104 := u5_2_104.stp hs rfl
     have l8 := l8.stp hs rfl
     have x6 := x6.stp hs rfl
     have i7 := i7.stp hs rfl
     have y6 := y6.stp hs
     refine EL_at dF rfl rfl ?_
     refine EL_nil (blk_n ?_)
     obtain rfl := sinj h
     exact hQ _ _ ⟨iI, (dF), hfr, rfl, jI, o130, jC, l8, u5_0_104, u5_1_104, u5_2_104, aB, x6, dB, i7, eB, y6, iB, gA⟩
    ·clear hx
     obtain ⟨kI, eF, hfr, iF, nF, oF, pF, qF, u5_0_132, u5_1_132, u5_2_132, rF, sF, lD, mD, nD, oD, sD, tD⟩ := hR
     refine E_region (EL_in (.int .i64 ((w64 (l5 + (1 : Int))))) tD rfl rfl rfl ?_)
     refine EL_mw (.int .i64 ((w64 (l5 + (1 : Int))))) rfl rfl ?_
     exact EL_nil (thn_n (yG (t8, (w64 (l5 + (1 : Int)))) _ _ ⟨kI, (eF), hfr, iF, nF, oF, pF, qF, u5_0_132, u5_1_132, u5_2_132, rF, sF, lD, mD, nD, oD, sD, rfl⟩ h))
   ·refine E_cf vB rfl ?_
    refine E_exit ?_
    refine thn_e ?_
    refine thn_e ?_
    refine blk_hit ?_
    obtain rfl := sinj h
    exact hQ _ _ ⟨zA, (xE), hfr, iC, u9, y9, jC, l8, u5_0_104, u5_1_104, u5_2_104, aB, x6, dB, i7⟩
  ·clear hx
   obtain ⟨lI, z3, hfr, tF, t5, x5, kC, c8, u5_0_133, u5_1_133, u5_2_133, lC, m8, a9, j3⟩ := hR
   refine E_seq (L_loadO (x := .tmp 50) (SubS.comp part_BoxBoxLoom_0 part_BoxLoom_0 rfl).1 Try.isAgg22 Try.sizeOf22 m8 fun uF mI aH => ?_)
   obtain ⟨k9, bH, h⟩ := bsome h
   refine L_loadO (x := .tmp 55) (SubS.comp (SubS.comp part_BoxRun_1 part_BoxRace_1 rfl) part_BoxPick_0 rfl).1 Try.isAgg3 Try.sizeOf3 j3 fun sK nI cH => ?_
   obtain rfl := RV_int.1 nI
   refine L_loadO (x := .tmp 59) (SubS.comp (SubS.comp part_BoxRun_1 part_BoxRace_1 rfl) part_BoxPick_1 rfl).1 Try.isAgg3 Try.sizeOf3 j3 fun tK pI dH => ?_
   obtain rfl := RV_int.1 pI
   refine L_loadO (x := .tmp 63) (SubS.comp part_BoxBoxLoom_0 part_BoxLoom_2 rfl).1 Try.isAgg23 Try.sizeOf23 m8 fun vF qI gH => ?_
   obtain ⟨l9, iH, h⟩ := bsome h
   refine E_drawL (g := lI) (n := 17) [(3, (fun v g w => OWx (Ow.list 3 (Ow.sh Int)) 4052 g w k9 v)), (12, (fun v g w => OA 4061 g w 3 ([(((y5.2.1).last).at_).Left, (((y5.2.1).last).at_).Right] : List Int) v)), (16, (fun v g w => OWx (Ow.list 87 (Ow.sh BoxShuttle)) 4065 g w l9 v))] [0, 1, 2, 3, 4, 5, 6, 7, 8, 9, 10, 11, 12, 13, 14, 15, 16] rfl mixed (by kernel_rfl) (⟨fun _ => up_owx, fun _ => up_oa, fun _ => up_owx, trivial⟩) ?_
   refine L_p (fPtr p6 0) rfl rfl (P_fieldAddr at_102_0 lC (OB.ptr m8)) ?_
   refine L_p (fPtr p6 0) rfl rfl (P_fieldAddr2 (o1 := 0) rfl at_25_0 rfl (OB.ptr m8)) ?_
   refine L_ld (c := uF) rfl rfl .plain (fun _ _ h => ⟨h.ch, fun b hb _ => h.below.block b hb⟩) aH rfl ?_
   refine L_do (φ := fun v g w => OWx (Ow.list 3 (Ow.sh Int)) 4052 g w k9 v) rfl rfl .plain (fun g w hd => D_callG (g := g) (vs := [uF]) en78 (.cons rfl .nil) (W78 (iO := 4052) (mI.ext hd.1) bH) fun g' w' v hs hr => ⟨g', hs, hr⟩) (fun vC hv => ?_)
   clear hv
   refine L_p (fPtr p7 1) rfl rfl (P_fieldAddr at_129_1 a9 (OB.ptr j3)) ?_
   refine L_p (fPtr p7 9) rfl rfl (P_fieldAddr2 (o1 := 1) rfl at_108_1 rfl (OB.ptr j3)) ?_
   refine L_p (fPtr p7 9) rfl rfl (P_fieldAddr2 (o1 := 9) rfl at_83_0 rfl (OB.ptr j3)) ?_
   refine L_ld (c := .int .i64 ((((y5.2.1).last).at_).Left)) rfl rfl .plain (fun _ _ h => ⟨h.ch, fun b hb _ => h.below.block b hb⟩) cH rfl ?_
   refine L_p (fPtr p7 1) rfl rfl (P_fieldAddr at_129_1 a9 (OB.ptr j3)) ?_
   refine L_p (fPtr p7 9) rfl rfl (P_fieldAddr2 (o1 := 1) rfl at_108_1 rfl (OB.ptr j3)) ?_
   refine L_p (fPtr p7 10) rfl rfl (P_fieldAddr2 (o1 := 9) rfl at_83_1 rfl (OB.ptr j3)) ?_
   refine L_ld (c := .int .i64 ((((y5.2.1).last).at_).Right)) rfl rfl .plain (fun _ _ h => ⟨h.ch, fun b hb _ => h.below.block b hb⟩) dH rfl ?_
   refine L_do (φ := fun v g w => OA 4061 g w 3 ([(((y5.2.1).last).at_).Left, (((y5.2.1).last).at_).Right] : List Int) v) rfl rfl .plain (fun g w hd => D_buildSliceA (g := g) 4061 (xs := ([(((y5.2.1).last).at_).Left, (((y5.2.1).last).at_).Right] : List Int)) (vs := [.int .i64 ((((y5.2.1).last).at_).Left), .int .i64 ((((y5.2.1).last).at_).Right)]) Try.underlying22 Try.sizeOf3 Try.zeroValue3 rfl rfl (.cons rfl (.cons rfl .nil)) (RVs.cons (RV_int.2 rfl) (RVs.cons (RV_int.2 rfl) RVs.nil)) rfl rfl fun g' w' v hs b hxt => ⟨g', hxt, b⟩) (fun xC hv => ?_)
   clear hv
   refine L_p (fPtr p6 0) rfl rfl (P_fieldAddr at_102_0 lC (OB.ptr m8)) ?_
   refine L_p (fPtr p6 2) rfl rfl (P_fieldAddr2 (o1 := 0) rfl at_25_2 rfl (OB.ptr m8)) ?_
   refine L_ld (c := vF) rfl rfl .plain (fun _ _ h => ⟨h.ch, fun b hb _ => h.below.block b hb⟩) gH rfl ?_
   refine L_do (φ := fun v g w => OWx (Ow.list 87 (Ow.sh BoxShuttle)) 4065 g w l9 v) rfl rfl .plain (fun g w hd => D_callG (g := g) (vs := [vF]) en79 (.cons rfl .nil) (W79 (iO := 4065) (qI.ext hd.1) iH) fun g' w' v hs hr => ⟨g', hs, hr⟩) (fun yC hv => ?_)
   clear hv
   refine L_nil fun uK rI hall => ?_
   have hs := hall.1
   have hfr := hfr.ext hs
   have t5 := t5.ext hs
   have x5 := x5.ext hs
   have c8 := c8.ext hs
   have j3 := j3.ext hs
   obtain ⟨sk161, ow161, ok161⟩ := (word_all (A := fun g w => OWx (Ow.list 3 (Ow.sh Int)) 4052 g w k9 vC) 3 rfl hall)
   have b170 := (word_all (A := fun g w => OA 4061 g w 3 ([(((y5.2.1).last).at_).Left, (((y5.2.1).last).at_).Right] : List Int) xC) 12 rfl hall)
   obtain ⟨sk174, ow174, ok174⟩ := (word_all (A := fun g w => OWx (Ow.list 87 (Ow.sh BoxShuttle)) 4065 g w l9 yC) 16 rfl hall)
   clear hs hall
   obtain ⟨sk176, ow176, ok176⟩ := OA.toW b170
   have wn177 := Wn.fl (OW.wn ow174)
   obtain ⟨gq178, hs, _, wn178⟩ := Wn.pair (OW.wn ow176) wn177 rfl
   have hfr := hfr.stp hs
   have t5 := t5.stp hs
   have x5 := x5.stp hs rfl
   have c8 := c8.stp hs rfl
   have j3 := j3.stp hs rfl
   have ow161 := ow161.stp hs rfl
   obtain ⟨gq179, hs, _, wn179⟩ := Wn.pair (OW.wn ow161) wn178 rfl
   have hfr := hfr.stp hs
   have t5 := t5.stp hs
   have x5 := x5.stp hs rfl
   have c8 := c8.stp hs rfl
   have j3 := j3.stp hs rfl
   obtain ⟨xF, gD⟩ : ∃ v, v = (Value.agg (setCh [[.slice none 0 0], [.slice none 0 0], [.slice none 0 0]] [(0, vC), (1, xC), (2, yC)]).flatten.toArray) := ⟨_, rfl⟩
   have ow175 : OW ow_BoxLoom 4065 gq179 rI (⟨k9, ([(((y5.2.1).last).at_).Left, (((y5.2.1).last).at_).Right] : List Int), l9⟩ : BoxLoom) (sk161, (sk176, sk174)) xF := gD ▸ Wn.mk_ (Wn.struct (x := ((⟨k9, ([(((y5.2.1).last).at_).Left, (((y5.2.1).last).at_).Right] : List Int), l9⟩ : BoxLoom))) wn179)
   refine EL_p xF (gD ▸ P_build (vs := [(0, vC), (1, xC), (2, yC)]) [[.slice none 0 0], [.slice none 0 0], [.slice none 0 0]] lay_25 rfl rfl (.cons rfl (.cons rfl (.cons rfl .nil))) ⟨⟨_, rfl, OW.csz ow161⟩, ⟨⟨_, rfl, OW.csz ow176⟩, ⟨⟨_, rfl, OW.csz ow174⟩, trivial⟩⟩⟩) rfl ?_
   refine EL_do .plain rfl (D_storeOW (g := gq179) Try.sizeOf25 kC c8 rfl ow175 rfl fun gj180 yF vK bk180 hsa hsb hpp b180 => ?_)
   have hfr := hfr.stp hsa
   have t5 := t5.stp hsa
   have x5 := x5.stp hsa rfl
   have j3 := j3.stp hsa rfl
   have hfr := hfr.stp hsb
   have t5 := t5.stp hsb
   have x5 := x5.stp hsb rfl
   have j3 := j3.stp hsb rfl
   clear hsa hsb
   subst hpp
   refine EL_nil (thn_n ?_)
   obtain ⟨rA, hx, h⟩ := bsome h
   refine E_join (fun e w => ∃ (g : Gh) , Fr gI wI g w ∧ e 4 = z3 ∧ RV g.m w (i5 : List Int) z3 ∧ OS 1004 g w 3 (i5 : List Int) z3 ∧ e 5 = (Value.pointer (some ⟨bk180, 0, none⟩)) ∧ OVb ow_BoxLoom 2005 g w 25 (rA : BoxLoom) bk180 ∧ e 10 = p7 ∧ OB 2010 g w 129 (y5.2.1 : BoxRun) p7) (fun Q' hQ => ?_) (fun qJ xK hR => ?_)
   ·replace h := hx
    clear hx
    refine E_seq (E_region (EL_p (fPtr p7 1) (P_fieldAddr at_129_1 a9 (OB.ptr j3)) rfl ?_))
    refine EL_p (fPtr p7 1) (P_fieldAddr2 (o1 := 1) rfl at_108_0 rfl (OB.ptr j3)) rfl ?_
    refine EL_do .plain rfl (D_loadF (g := yF) (SubS.comp part_BoxRun_1 part_BoxRace_0 rfl).1 Try.isAgg76 Try.sizeOf76 rfl j3 fun v8 sI => ?_)
    refine EL_mw (.int .i64 (0)) rfl rfl ?_
    refine EL_nil (thn_n (E_block ?_))
    refine E_lp h (fun (s : BoxLoom × Int) e w => ∃ (g : Gh) , Fr gI wI g w ∧ e 4 = z3 ∧ RV g.m w (i5 : List Int) z3 ∧ OS 1004 g w 3 (i5 : List Int) z3 ∧ e 5 = (Value.pointer (some ⟨bk180, 0, none⟩)) ∧ OVb ow_BoxLoom 2005 g w 25 (s.1 : BoxLoom) bk180 ∧ e 10 = p7 ∧ OB 2010 g w 129 (y5.2.1 : BoxRun) p7 ∧ e 69 = v8 ∧ RV g.m w (((y5.2.1).last).boxes : Vector (Vector Int 4) 2) v8 ∧ e 70 = .int .i64 (s.2)) ⟨yF, hfr, tF, t5, x5, kC, ⟨_, b180, (⟨ok161, ⟨ok176, ok174⟩⟩ : (ow_BoxLoom).ok (sk161, (sk176, sk174)))⟩, a9, j3, rfl, sI, rfl⟩ (fun X425 tE jH => ?_)
    rintro ⟨qA, j1⟩ rJ yK ⟨zF, hfr, mC, n8, o8, qC, ⟨gJ, q8, jB⟩, lB, j7, mB, a7, d9⟩ h
    refine E_seq (E_region (EL_in (.bool ((decide (j1 < (2 : Int))))) d9 rfl rfl rfl ?_))
    refine EL_nil (thn_n (E_seq ?_))
    rcases csome h with ⟨xB, h⟩ | ⟨xB, h⟩
    ·refine E_ct xB rfl ?_
     refine E_skip (thn_n ?_)
     obtain ⟨t9, hx, h⟩ := bsome h
     refine E_join (fun e w => ∃ (g : Gh) , Fr gI wI g w ∧ e 4 = z3 ∧ RV g.m w (i5 : List Int) z3 ∧ OS 1004 g w 3 (i5 : List Int) z3 ∧ e 5 = (Value.pointer (some ⟨bk180, 0, none⟩)) ∧ OVb ow_BoxLoom 2005 g w 25 (t9 : BoxLoom) bk180 ∧ e 10 = p7 ∧ OB 2010 g w 129 (y5.2.1 : BoxRun) p7 ∧ e 69 = v8 ∧ RV g.m w (((y5.2.1).last).boxes : Vector (Vector Int 4) 2) v8 ∧ e 70 = .int .i64 (j1)) (fun Q' hQ => ?_) (fun sJ zK hR => ?_)
     ·replace h := hx
      clear hx
      refine E_block ?_
      refine E_seq (E_region (EL_mv d9 rfl ?_))
      obtain ⟨oB, iD, h⟩ := bsome h
      have yB := RV_idxA a7 iD
      generalize kH : partV _ _ _ _ = aG at yB
      refine EL_p aG (kH ▸ P_indexA Try.underlying76 Try.isAgg75 Try.sizeOf75 mB a7 d9 iD) rfl ?_
      refine EL_do .plain rfl (D_allocOc (g := zF) 2014 ((⟨List.toArray [0, 0, 0, 0], rfl⟩ : Vector Int 4) : Vector Int 4) Try.zeroValue75 (fun m w => ⟨_, (rep_vec (flat_chunk rep_int (flat_chunk rep_int (flat_chunk rep_int (flat_chunk rep_int flat_nil)))) rfl), rfl⟩) fun tI aL bL hs b547 cb => ?_)
      have hfr := hfr.stp hs
      have n8 := n8.stp hs
      have o8 := o8.stp hs rfl
      have q8 := q8.stp hs rfl
      have j7 := j7.stp hs rfl
      have a7 := a7.stp hs
      have yB := yB.stp hs
      clear cb
      refine EL_at (.int .i64 (j1)) rfl rfl ?_
      refine EL_do .plain rfl (D_storeOc (g := tI) (v := aG) Try.sizeOf75 rfl b547 rfl yB fun bG cL hs b548 cb => ?_)
      clear cb
      have hfr := hfr.stp hs
      have n8 := n8.stp hs
      have o8 := o8.stp hs rfl
      have q8 := q8.stp hs rfl
      have j7 := j7.stp hs rfl
      have a7 := a7.stp hs
      refine EL_nil (thn_n (E_seq (E_region (EL_do .plain rfl (D_loadO (g := bG) Try.isAgg75 Try.sizeOf75 rfl b548 fun zB uI => ?_)))))
      refine EL_mw (.int .i64 (0)) rfl rfl ?_
      refine EL_nil (thn_n (E_block ?_))
      refine E_lp h (fun (s : BoxLoom × Int) e w => ∃ (g : Gh) , Fr gI wI g w ∧ e 4 = z3 ∧ RV g.m w (i5 : List Int) z3 ∧ OS 1004 g w 3 (i5 : List Int) z3 ∧ e 5 = (Value.pointer (some ⟨bk180, 0, none⟩)) ∧ OVb ow_BoxLoom 2005 g w 25 (s.1 : BoxLoom) bk180 ∧ e 10 = p7 ∧ OB 2010 g w 129 (y5.2.1 : BoxRun) p7 ∧ e 13 = .int .i64 (j1) ∧ e 69 = v8 ∧ RV g.m w (((y5.2.1).last).boxes : Vector (Vector Int 4) 2) v8 ∧ e 70 = .int .i64 (j1) ∧ e 74 = zB ∧ RV g.m w (oB : Vector Int 4) zB ∧ e 75 = .int .i64 (s.2)) ⟨bG, hfr, mC, n8, o8, qC, ⟨_, q8, jB⟩, lB, j7, rfl, mB, a7, d9, rfl, uI, rfl⟩ (fun X550 uE lH => ?_)
      rintro ⟨o0, z4⟩ tJ vI ⟨aD, hfr, bB, i8, k8, x8, ⟨i3, z9, m7⟩, iA, c7, jA, lA, d7, mA, nA, v6, r8⟩ h
      refine E_seq (E_region (EL_in (.bool ((decide (z4 < (4 : Int))))) r8 rfl rfl rfl ?_))
      refine EL_nil (thn_n (E_seq ?_))
      rcases csome h with ⟨aC, h⟩ | ⟨aC, h⟩
      ·refine E_ct aC rfl ?_
       refine E_skip (thn_n ?_)
       obtain ⟨o9, hx, h⟩ := bsome h
       refine E_join (fun e w => ∃ (g : Gh) , Fr gI wI g w ∧ e 4 = z3 ∧ RV g.m w (i5 : List Int) z3 ∧ OS 1004 g w 3 (i5 : List Int) z3 ∧ e 5 = (Value.pointer (some ⟨bk180, 0, none⟩)) ∧ OVb ow_BoxLoom 2005 g w 25 (o9 : BoxLoom) bk180 ∧ e 10 = p7 ∧ OB 2010 g w 129 (y5.2.1 : BoxRun) p7 ∧ e 13 = .int .i64 (j1) ∧ e 69 = v8 ∧ RV g.m w (((y5.2.1).last).boxes : Vector (Vector Int 4) 2) v8 ∧ e 70 = .int .i64 (j1) ∧ e 74 = zB ∧ RV g.m w (oB : Vector Int 4) zB ∧ e 75 = .int .i64 (z4)) (fun Q' hQ => ?_) (fun uJ dL hR => ?_)
       ·replace h := hx
        clear hx
        refine E_block ?_
        refine E_seq (E_region (EL_mv r8 rfl ?_))
        obtain ⟨u3, jD, h⟩ := bsome h
        have xI := RV_idxA v6 jD
        refine EL_p (.int .i64 (u3)) ((RV_int.1 xI) ▸ P_indexA Try.underlying75 Try.isAgg3 Try.sizeOf3 nA v6 r8 jD) rfl ?_
        refine EL_at (.int .i64 (z4)) rfl rfl ?_
        refine EL_at (.int .i64 (u3)) rfl rfl ?_
        refine EL_nil (thn_n (E_seq (E_region (EL_mw (.int .i64 (u3)) rfl rfl ?_))))
        refine EL_in (.bool ((decide (u3 > (0 : Int))))) rfl rfl rfl rfl ?_
        refine EL_nil (thn_n ?_)
        rcases csome h with ⟨cC, h⟩ | ⟨cC, h⟩
        ·refine E_ct cC rfl ?_
         obtain ⟨j6, oA, h⟩ := bsome h
         obtain ⟨bb623, cc623, ss623, hq623, kD⟩ := (OV.slice z9 (Cxt.fld (Cxt.root ow_BoxLoom bk180) fl_BoxLoom_2 (o0) (i3)) rfl rfl ((m7.2).2)).2 oA
         obtain ⟨tB, dC, h⟩ := bsome h
         refine E_drawG (g := aD) (w := vI) (i := 2005) (A0 := fun g w => OV ow_BoxLoom 2005 g w 25 (o0 : BoxLoom) bk180 i3) (A1 := fun g w => OV ow_BoxLoom 2005 g w 25 (({ o0 with Shuttles := (List.set ((o0).Shuttles) (Int.toNat ((w64 (u3 - (1 : Int))))) ({ j6 with Side := j1 } : BoxShuttle)) } : BoxLoom) : BoxLoom) bk180 i3) z9 up_ov (n := 15) [(12, (fun _ g w => OV ow_BoxLoom 2005 g w 25 (({ o0 with Shuttles := (List.set ((o0).Shuttles) (Int.toNat ((w64 (u3 - (1 : Int))))) ({ j6 with Side := j1 } : BoxShuttle)) } : BoxLoom) : BoxLoom) bk180 i3))] [0, 1, 2, 3, 4, 5, 6, 7, 8, 9, 10, 11, 12, 13, 14] rfl mixed (by kernel_rfl) (⟨fun _ => up_box, trivial⟩) ?_
         refine L_p ((.pointer (some ⟨bk180, (0 + 2), none⟩))) rfl rfl (P_fieldAddrH at_25_2 x8) ?_
         refine L_val (c := (hdrV (Prod.snd (Prod.snd i3)) ((o0).Shuttles).length)) rfl rfl .plain (fun g w hd => loadHAB (Cxt.fld (Cxt.root ow_BoxLoom bk180) fl_BoxLoom_2 (o0) (i3)) rfl rfl (Cxt.fld (Cxt.root ow_BoxLoom bk180) fl_BoxLoom_2 (({ o0 with Shuttles := (List.set ((o0).Shuttles) (Int.toNat ((w64 (u3 - (1 : Int))))) ({ j6 with Side := j1 } : BoxShuttle)) } : BoxLoom)) (i3)) rfl rfl (by simp) ((m7.2).2) Try.isAgg23 rfl hd.1.2) ?_
         refine L_p (.int .i64 (u3)) rfl rfl (P_move rfl) ?_
         refine L_p (.int .i64 ((w64 (u3 - (1 : Int))))) rfl rfl (P_int rfl rfl rfl) ?_
         refine L_p ((.pointer (some ⟨bk180, (0 + 2), none⟩))) rfl rfl (P_fieldAddrH at_25_2 x8) ?_
         refine L_val (c := (hdrV (Prod.snd (Prod.snd i3)) ((o0).Shuttles).length)) rfl rfl .plain (fun g w hd => loadHAB (Cxt.fld (Cxt.root ow_BoxLoom bk180) fl_BoxLoom_2 (o0) (i3)) rfl rfl (Cxt.fld (Cxt.root ow_BoxLoom bk180) fl_BoxLoom_2 (({ o0 with Shuttles := (List.set ((o0).Shuttles) (Int.toNat ((w64 (u3 - (1 : Int))))) ({ j6 with Side := j1 } : BoxShuttle)) } : BoxLoom)) (i3)) rfl rfl (by simp) ((m7.2).2) Try.isAgg23 rfl hd.1.2) ?_
         refine L_p (.int .i64 (u3)) rfl rfl (P_move rfl) ?_
         refine L_p (.int .i64 ((w64 (u3 - (1 : Int))))) rfl rfl (P_int rfl rfl rfl) ?_
         refine L_p (.int .i64 (j1)) rfl rfl (P_move jA) ?_
         refine L_p (.int .i64 (z4)) rfl rfl (P_move rfl) ?_
         refine L_p ((.pointer (some ⟨bb623, ((Int.toNat ((w64 (u3 - (1 : Int))))) * 5), none⟩))) rfl rfl (P_indexH Try.underlying23 Try.sizeOf87 (rfl.trans (hdr_at hq623 _)) rfl (idx_nat oA)) ?_
         refine L_p ((.pointer (some ⟨bb623, (((Int.toNat ((w64 (u3 - (1 : Int))))) * 5) + 1), none⟩))) rfl rfl (P_fieldAddrH at_87_1 rfl) ?_
         refine L_do (φ := fun _ g w => OV ow_BoxLoom 2005 g w 25 (({ o0 with Shuttles := (List.set ((o0).Shuttles) (Int.toNat ((w64 (u3 - (1 : Int))))) ({ j6 with Side := j1 } : BoxShuttle)) } : BoxLoom) : BoxLoom) bk180 i3) rfl rfl .plain (fun g w hd => D_storeOVR (g := g) (u' := (j1 : Int)) (Cxt.fld (Cxt.idx (Cxt.fld (Cxt.root ow_BoxLoom bk180) fl_BoxLoom_2 (o0) (i3)) ((o0).Shuttles) (Int.toNat ((w64 (u3 - (1 : Int))))) bb623 cc623 ss623 (idx_nat oA).2 kD) fl_BoxShuttle_1 (j6) (())) ((congrArg (fun q => ({ o0 with Shuttles := q } : BoxLoom)) (set_idx oA)).trans rfl) rfl (((congrArg (fun q => (Prod.fst i3, (Prod.fst (Prod.snd i3), (Sl.at bb623 cc623 q)))) set_unit).trans (congrArg (fun q => (Prod.fst i3, (Prod.fst (Prod.snd i3), q))) (hq623).symm)).trans rfl) Try.sizeOf3 rfl hd.1.2 rfl (RV_int.2 rfl)) (fun eL hv => ?_)
         clear hv
         refine L_p ((.pointer (some ⟨bb623, ((Int.toNat ((w64 (u3 - (1 : Int))))) * 5), none⟩))) rfl rfl (P_indexH Try.underlying23 Try.sizeOf87 (rfl.trans (hdr_at hq623 _)) rfl (by simpa using idx_nat dC)) ?_
         refine L_p ((.pointer (some ⟨bb623, (((Int.toNat ((w64 (u3 - (1 : Int))))) * 5) + 2), none⟩))) rfl rfl (P_fieldAddrH at_87_2 rfl) ?_
         refine L_nil fun yI gL hall => ?_
         have hs := hall.1.1
         have hfr := hfr.stp hs
         have i8 := i8.stp hs
         have k8 := k8.stp hs rfl
         have c7 := c7.stp hs rfl
         have d7 := d7.stp hs
         have v6 := v6.stp hs
         have b631 := (word_all (A := fun g w => OV ow_BoxLoom 2005 g w 25 (({ o0 with Shuttles := (List.set ((o0).Shuttles) (Int.toNat ((w64 (u3 - (1 : Int))))) ({ j6 with Side := j1 } : BoxShuttle)) } : BoxLoom) : BoxLoom) bk180 i3) 12 rfl hall)
         clear hs hall
         refine EL_do .plain rfl (D_storeOV (g := yI) (u' := (z4 : Int)) (Cxt.fld (Cxt.idx (Cxt.fld (Cxt.root ow_BoxLoom bk180) fl_BoxLoom_2 (({ o0 with Shuttles := (List.set ((o0).Shuttles) (Int.toNat ((w64 (u3 - (1 : Int))))) ({ j6 with Side := j1 } : BoxShuttle)) } : BoxLoom)) (i3)) ((({ o0 with Shuttles := (List.set ((o0).Shuttles) (Int.toNat ((w64 (u3 - (1 : Int))))) ({ j6 with Side := j1 } : BoxShuttle)) } : BoxLoom)).Shuttles) (Int.toNat ((w64 (u3 - (1 : Int))))) bb623 cc623 ss623 (idx_nat dC).2 (by simpa using kD)) fl_BoxShuttle_2 (tB) (())) ((congrArg (fun q => ({ (({ o0 with Shuttles := (List.set ((o0).Shuttles) (Int.toNat ((w64 (u3 - (1 : Int))))) ({ j6 with Side := j1 } : BoxShuttle)) } : BoxLoom)) with Shuttles := q } : BoxLoom)) (set_idx dC)).trans rfl) (((congrArg (fun q => (Prod.fst i3, (Prod.fst (Prod.snd i3), (Sl.at bb623 cc623 q)))) set_unit).trans (congrArg (fun q => (Prod.fst i3, (Prod.fst (Prod.snd i3), q))) (hq623).symm)).trans rfl) Try.sizeOf3 rfl b631 rfl (RV_int.2 rfl) fun cG zI hs b660 => ?_)
         have hfr := hfr.stp hs
         have i8 := i8.stp hs
         have k8 := k8.stp hs rfl
         have c7 := c7.stp hs rfl
         have d7 := d7.stp hs
         have v6 := v6.stp hs
         replace b660 : OV ow_BoxLoom 2005 cG zI 25 (({ (({ o0 with Shuttles := (List.set ((o0).Shuttles) (Int.toNat ((w64 (u3 - (1 : Int))))) ({ j6 with Side := j1 } : BoxShuttle)) } : BoxLoom)) with Shuttles := (List.set ((({ o0 with Shuttles := (List.set ((o0).Shuttles) (Int.toNat ((w64 (u3 - (1 : Int))))) ({ j6 with Side := j1 } : BoxShuttle)) } : BoxLoom)).Shuttles) (Int.toNat ((w64 (u3 - (1 : Int))))) ({ tB with Box := z4 } : BoxShuttle)) } : BoxLoom) : BoxLoom) bk180 i3 := b660
         refine EL_nil (blk_n ?_)
         obtain rfl := sinj h
         exact hQ _ _ ⟨cG, hfr, bB, i8, k8, x8, ⟨_, b660, m7⟩, iA, c7, jA, lA, d7, mA, nA, v6, r8⟩
        ·refine E_cf cC rfl ?_
         refine E_skip (blk_n ?_)
         obtain rfl := sinj h
         exact hQ _ _ ⟨aD, hfr, bB, i8, k8, x8, ⟨_, z9, m7⟩, iA, c7, jA, lA, d7, mA, nA, v6, r8⟩
       ·clear hx
        obtain ⟨aJ, hfr, dG, eG, gG, hG, ⟨iJ, iG, uD⟩, vD, xD, yD, zD, aE, bE, cE, dE, eE⟩ := hR
        refine E_region (EL_in (.int .i64 ((w64 (z4 + (1 : Int))))) eE rfl rfl rfl ?_)
        refine EL_mw (.int .i64 ((w64 (z4 + (1 : Int))))) rfl rfl ?_
        exact EL_nil (thn_n (lH (o9, (w64 (z4 + (1 : Int)))) _ _ ⟨aJ, hfr, dG, eG, gG, hG, ⟨_, iG, uD⟩, vD, xD, yD, zD, aE, bE, cE, dE, rfl⟩ h))
      ·refine E_cf aC rfl ?_
       refine E_exit ?_
       refine thn_e ?_
       refine thn_e ?_
       refine blk_hit ?_
       refine blk_n ?_
       obtain rfl := sinj h
       exact hQ _ _ ⟨aD, hfr, bB, i8, k8, x8, ⟨_, z9, m7⟩, iA, c7, lA, d7, mA⟩
     ·clear hx
      obtain ⟨bJ, hfr, jG, kG, lG, mG, ⟨jJ, nG, gE⟩, iE, jE, kE, lE, mE⟩ := hR
      refine E_region (EL_in (.int .i64 ((w64 (j1 + (1 : Int))))) mE rfl rfl rfl ?_)
      refine EL_mw (.int .i64 ((w64 (j1 + (1 : Int))))) rfl rfl ?_
      exact EL_nil (thn_n (jH (t9, (w64 (j1 + (1 : Int)))) _ _ ⟨bJ, hfr, jG, kG, lG, mG, ⟨_, nG, gE⟩, iE, jE, kE, lE, rfl⟩ h))
    ·refine E_cf xB rfl ?_
     refine E_exit ?_
     refine thn_e ?_
     refine thn_e ?_
     refine blk_hit ?_
     obtain rfl := sinj h
     exact hQ _ _ ⟨zF, hfr, mC, n8, o8, qC, ⟨_, q8, jB⟩, lB, j7⟩
   ·clear hx
    obtain ⟨cJ, hfr, oG, y8, mJ, cB, ⟨kJ, bA, nE⟩, oE, nB⟩ := hR
    refine E_seq (L_self Try.isAgg25 Try.sizeOf25 rfl bA fun dJ mH nH => ?_)
    refine L_loadO (x := .tmp 99) part_BoxRun_2.1 Try.isAgg3 Try.sizeOf3 nB fun iL eJ oH => ?_
    obtain rfl := RV_int.1 eJ
    refine E_drawL (g := cJ) (n := 9) [(5, (fun _ _ _ => True))] [0, 1, 2, 3, 4, 5, 6, 7, 8] rfl mixed (by kernel_rfl) (⟨fun _ => (fun _ _ _ _ _ _ => trivial), trivial⟩) ?_
    refine L_p z3 rfl rfl (P_move oG) ?_
    refine L_ld (c := dJ) rfl rfl .plain (fun _ _ h => ⟨h.ch, fun b hb _ => h.below.block b hb⟩) (mH _) cB ?_
    refine L_p (fPtr p7 11) rfl rfl (P_fieldAddr at_129_2 oE (OB.ptr nB)) ?_
    refine L_ld (c := .int .i64 ((y5.2.1).moves)) rfl rfl .plain (fun _ _ h => ⟨h.ch, fun b hb _ => h.below.block b hb⟩) oH rfl ?_
    refine L_p z3 rfl rfl (P_assign rfl) ?_
    refine L_do (φ := fun _ _ _ => True) rfl rfl .plain (fun g w hd => nH _ _ _ g w ⟨hd.1.ch, fun b hb _ => hd.1.below.block b hb⟩ cB rfl) (fun jL hv => ?_)
    clear hv
    refine L_p (.int .i64 ((y5.2.1).moves)) rfl rfl (P_assign rfl) ?_
    refine L_p (.int .i64 (0)) rfl rfl (P_assign rfl) ?_
    refine L_p (.int .i64 (0)) rfl rfl (P_assign rfl) ?_
    refine L_nl fun lL mL hs => ?_
    have hfr := hfr.ext hs
    have y8 := y8.ext hs
    have bA := bA.ext hs
    clear hs
    refine EL_nil (thn_n (E_ret ?_))
    obtain ⟨go680, hs, b680⟩ := OV.toOB bA nE
    have hfr := hfr.stp hs
    have y8 := y8.stp hs
    obtain rfl := sinj h
    obtain ⟨ad681, cv681, hp681, pH, cr681⟩ := ob_read Try.isAgg25 Try.sizeOf25 b680
    exact endm_tcttt rfl rfl (show _ = z3 from rfl) ((show _ = (Value.pointer (some ⟨bk180, 0, none⟩)) from cB).trans hp681) pH (show _ = .int .i64 ((y5.2.1).moves) from rfl) (show _ = .int .i64 (0) from rfl) (show _ = .int .i64 (0) from rfl) ⟨_, hfr, _, _, _, _, _, rfl, y8, cr681, rfl, rfl, rfl⟩
def f10 (x0 : Race) : Option (Bool) :=
 (f38 x0).bind fun y4 =>
 (f39 x0 y4 ((12 : Int))).bind fun z4 =>
 (f15 y4).bind fun gQ =>
 (f28 (z4.1)).bind fun iQ =>
 (f40 gQ iQ).bind fun i3 =>
 jn (σ := Unit) (fun _ =>
  Option.bind (α := (List BoxPick)) (
   lp (σ := (List BoxPick) × Int) (fun jQ (bA, d7) =>
    jn (σ := Unit) (fun _ =>
     Option.bind (α := (List BoxPick)) (
      (idx (z4.1) d7).bind fun aK =>
      (apnd 16 bA (([aK] : List BoxPick))).bind fun kQ =>
      some (kQ)
      ) fun gA =>
     jQ (gA, (w64 (d7 - (1 : Int))))
     ) fun k80 =>
    bif (decide (d7 ≥ (0 : Int))) then
     k80 ()
    else
     some (bA)
    ) big (([] : List BoxPick), (w64 (((z4.1).length : Int) - (1 : Int))))
   ) fun yA =>
  (f15 (i3.2.1)).bind fun lQ =>
  (f40 lQ yA).bind fun j3 =>
  jn (σ := Unit) (fun _ =>
   jn (σ := Unit) (fun _ =>
    (f15 y4).bind fun bK =>
    (f28 (z4.1)).bind fun cK =>
    (f36 bK cK).bind fun o0 =>
    jn (σ := Unit) (fun _ =>
     (f15 y4).bind fun dK =>
     jn (σ := Bool) (fun o8 =>
      Option.bind (α := Bool) (
       bif o8 then
        bif (o0.2 == (9 : Int)) then
         bif (o0.1 == (0 : Int)) then
          (f14).bind fun xB =>
          some (xB)
         else
          some (false)
        else
         some (false)
       else
        some (false)
       ) fun mA =>
      some (mA)
      ) fun eG =>
     lp (σ := BoxLoom × Bool × Int) (fun eK (m8, n8, z3) =>
      jn (σ := Unit) (fun _ =>
       jn (σ := BoxLoom × Bool) (fun (qA, rA) =>
        eK (qA, rA, (w64 (z3 + (1 : Int))))
        ) fun lK =>
       (f15 m8).bind fun mK =>
       (f28 (z4.1)).bind fun nK =>
       (f40 mK nK).bind fun i5 =>
       jn (σ := Bool) (fun q8 =>
        jn (σ := Unit) (fun _ =>
         (f45 y4).bind fun nA =>
         (f41 (i5.2.1) y4 nA).bind fun yB =>
         bif yB then
          Option.bind (α := Bool) (
           bif (o0.2 == (0 : Int)) then
            bif (o0.1 == z3) then
             (f14).bind fun zB =>
             some (zB)
            else
             some (false)
           else
            some (false)
           ) fun oA =>
          some (oA)
         else
          lK (i5.2.1, q8)
         ) fun uH =>
        Option.bind (α := Bool) (
         bif (i5.2.2.2.2 != (0 : Int)) then
          some (true)
         else
          some (((((i5.2.1).Shuttles).length : Int) != (((y4).Shuttles).length : Int)))
         ) fun i8 =>
        bif i8 then
         some (false)
        else
         uH ()
        ) fun vH =>
       bif (i5.2.2.2.2 == (9 : Int)) then
        eG (true)
       else
        vH (n8)
       ) fun oK =>
      bif (decide (z3 ≤ (15 : Int))) then
       oK ()
      else
       eG (n8)
      ) big (dK, false, (1 : Int))
     ) fun pK =>
    bif (((z4.1).length : Int) == (0 : Int)) then
     Option.bind (α := Bool) (
      bif (o0.2 == (7 : Int)) then
       bif (o0.1 == (0 : Int)) then
        (f14).bind fun jE =>
        some (jE)
       else
        some (false)
      else
       some (false)
      ) fun zA =>
     some (zA)
    else
     pK ()
    ) fun qK =>
   lp (σ := Int) (fun sK l5 =>
    jn (σ := Unit) (fun _ =>
     jn (σ := Unit) (fun _ =>
      sK ((w64 (l5 + (1 : Int))))
      ) fun tK =>
     (idx (j3.1) l5).bind fun kE =>
     (idx (i3.1) (w64 ((w64 (((i3.1).length : Int) - (1 : Int))) - l5))).bind fun lE =>
     bif (kE != lE) then
      some (false)
     else
      tK ()
     ) fun uK =>
    bif (decide (l5 < ((i3.1).length : Int))) then
     uK ()
    else
     qK ()
    ) big ((0 : Int))
   ) fun vK =>
  Option.bind (α := Bool) (
   bif (j3.2.2.2.2 != (0 : Int)) then
    some (true)
   else
    bif (((j3.1).length : Int) != ((i3.1).length : Int)) then
     some (true)
    else
     (f45 y4).bind fun lB =>
     (f41 (j3.2.1) y4 lB).bind fun mB =>
     some ((!mB))
   ) fun t8 =>
  bif t8 then
   some (false)
  else
   vK ()
  ) fun mQ =>
 Option.bind (α := Bool) (
  bif (i3.2.2.2.2 != (0 : Int)) then
   some (true)
  else
   bif (((i3.1).length : Int) != ((z4.1).length : Int)) then
    some (true)
   else
    (f41 (i3.2.1) y4 (z4.2.2.1)).bind fun xH =>
    some ((!xH))
  ) fun iA =>
 bif iA then
  some (false)
 else
  mQ ()
theorem wk10 {gI : Gh} {wI : World} {x0 : Race} {up0 : Value} (rp0 : RV gI.m wI x0 up0) {r : Bool} (h : f10 x0 = some r) : Fn Try.prog 10 #[up0] gI wI (fun _ _ v => v = .bool (r)) := by
 unfold f10 at h
 refine fn_of_E Try.func10 rfl (Nat.le_of_ble_eq_true rfl) fun g0 hm hfr => ?_
 have rp0 : RV g0.m wI x0 up0 := hm ▸ rp0
 show E _ 207 none _ _ _ _ _
 refine E_seq (E_region (EL_do .plain rfl (D_box (g := g0) rfl rp0 fun g1 w1 p1 hs q1 => ?_)))
 have hfr := hfr.ext hs
 refine EL_at (.bool false) rfl rfl ?_
 refine EL_nil (thn_n (E_seq (E_region (EL_do .plain rfl (D_load (g := g1) Try.isAgg73 Try.sizeOf73 rfl q1 fun v2 r2 => ?_)))))
 obtain ⟨y4, lT, h⟩ := bsome h
 refine EL_do .plain rfl (D_call (g := g1) (vs := [v2]) en38 (.cons rfl .nil) (wk38 r2 lT) fun g3 w3_ v3 hs hr => ?_)
 have hfr := hfr.ext hs
 have q1 := q1.ext hs
 have r3 := hr
 refine EL_do .plain rfl (D_allocOc (g := g3) 2003 (⟨[], [], []⟩ : BoxLoom) Try.zeroValue25 (fun m w => ⟨_, (rep_two rep_nil (rep_two rep_nil rep_nil)), rfl⟩) fun g5 w5 p5 hs b5 cb => ?_)
 have hfr := hfr.stp hs
 have q1 := q1.stp hs
 have r3 := r3.stp hs
 have yX : OSF 2003 60300 0 g5 w5 3 25 ([] : List Int) p5 := cb.osf (by rfl)
 have zX : OSF 2003 60301 1 g5 w5 3 25 ([] : List Int) p5 := cb.osf (by rfl)
 have aY : OSF 2003 60302 2 g5 w5 87 25 ([] : List BoxShuttle) p5 := cb.osf (by rfl)
 clear cb
 refine EL_do .plain rfl (D_storeOc (g := g5) (v := v3) Try.sizeOf25 rfl b5 rfl r3 fun g6 w6 hs b6 cb => ?_)
 clear cb
 have hfr := hfr.stp hs
 have q1 := q1.stp hs
 refine EL_nil (thn_n (E_seq (E_region (EL_do .plain rfl (D_load (g := g6) Try.isAgg73 Try.sizeOf73 rfl q1 fun v7 r7 => ?_)))))
 refine EL_do .plain rfl (D_loadO (g := g6) Try.isAgg25 Try.sizeOf25 rfl b6 fun v8 r8 => ?_)
 obtain ⟨z4, tQ, h⟩ := bsome h
 refine EL_do .plain rfl (D_call (g := g6) (vs := [v7, v8, .int .i64 (12)]) en39 (.cons rfl (.cons rfl (.cons rfl .nil))) (wk39 r7 r8 tQ) fun g9 w9_ v9 hs hr => ?_)
 have hfr := hfr.ext hs
 have b6 := b6.ext hs
 obtain ⟨j1, gG, hG, bY, rfl, y6, cY, iG, rfl⟩ := hr
 refine EL_mw (.tuple #[j1, gG, hG, .int .i64 (z4.2.2.2)]) rfl rfl ?_
 refine EL_p j1 (P_extract rfl rfl) rfl ?_
 refine EL_p gG (P_extract rfl rfl) rfl ?_
 refine EL_p hG (P_extract rfl rfl) rfl ?_
 refine EL_p (.int .i64 (z4.2.2.2)) (P_extract rfl rfl) rfl ?_
 refine EL_do .plain rfl (D_allocOc (g := g9) 2006 ((⟨List.toArray [(⟨List.toArray [0, 0, 0, 0], rfl⟩ : Vector Int 4), (⟨List.toArray [0, 0, 0, 0], rfl⟩ : Vector Int 4)], rfl⟩ : Vector (Vector Int 4) 2) : Vector (Vector Int 4) 2) Try.zeroValue76 (fun m w => ⟨_, (rep_vec (flat_chunk (rep_vec (flat_chunk rep_int (flat_chunk rep_int (flat_chunk rep_int (flat_chunk rep_int flat_nil)))) rfl) (flat_chunk (rep_vec (flat_chunk rep_int (flat_chunk rep_int (flat_chunk rep_int (flat_chunk rep_int flat_nil)))) rfl) flat_nil)) rfl), rfl⟩) fun mT w11 p11 hs b11 cb => ?_)
 have hfr := hfr.stp hs
 have b6 := b6.stp hs rfl
 have y6 := y6.stp hs
 have iG := iG.stp hs
 clear cb
 refine EL_at j1 rfl rfl ?_
 refine EL_at gG rfl rfl ?_
 refine EL_do .plain rfl (D_storeOc (g := mT) (v := hG) Try.sizeOf76 rfl b11 rfl iG fun nQ w12 hs b12 cb => ?_)
 clear cb
 have hfr := hfr.stp hs
 have b6 := b6.stp hs rfl
 have y6 := y6.stp hs
 refine EL_at (.int .i64 (z4.2.2.2)) rfl rfl ?_
 refine EL_nil (thn_n (E_seq (E_region (EL_do .plain rfl (D_loadO (g := nQ) Try.isAgg25 Try.sizeOf25 rfl b6 fun l9 nT => ?_)))))
 obtain ⟨gQ, uQ, h⟩ := bsome h
 refine EL_do .plain rfl (D_call (g := nQ) (vs := [l9]) en15 (.cons rfl .nil) (wk15 nT uQ) fun oT dY pT hs hr => ?_)
 have hfr := hfr.ext hs
 have b6 := b6.ext hs
 have y6 := y6.ext hs
 have b12 := b12.ext hs
 have xK := hr
 refine EL_mw j1 rfl rfl ?_
 obtain ⟨iQ, vQ, h⟩ := bsome h
 refine EL_do .plain rfl (D_call (g := oT) (vs := [j1]) en28 (.cons rfl .nil) (wk28 y6 vQ) fun sT eY tT hs hr => ?_)
 have hfr := hfr.ext hs
 have b6 := b6.ext hs
 have y6 := y6.ext hs
 have b12 := b12.ext hs
 have xK := xK.ext hs
 have uT := hr
 obtain ⟨i3, xQ, h⟩ := bsome h
 refine EL_do .plain rfl (D_call (g := sT) (vs := [pT, tT]) en40 (.cons rfl (.cons rfl .nil)) (wk40 xK uT xQ) fun vT gY v18 hs hr => ?_)
 have hfr := hfr.ext hs
 have b6 := b6.ext hs
 have y6 := y6.ext hs
 have b12 := b12.ext hs
 obtain ⟨u3, mE, aW, bW, cW, rfl, u7, nE, rfl, rfl, rfl⟩ := hr
 refine EL_mw (.tuple #[u3, mE, .int .i64 (i3.2.2.1), .int .i64 (i3.2.2.2.1), .int .i64 (i3.2.2.2.2)]) rfl rfl ?_
 refine EL_p u3 (P_extract rfl rfl) rfl ?_
 refine EL_p mE (P_extract rfl rfl) rfl ?_
 refine EL_p (.int .i64 (i3.2.2.1)) (P_extract rfl rfl) rfl ?_
 refine EL_p (.int .i64 (i3.2.2.2.1)) (P_extract rfl rfl) rfl ?_
 refine EL_p (.int .i64 (i3.2.2.2.2)) (P_extract rfl rfl) rfl ?_
 refine EL_do .plain rfl (D_allocOc (g := vT) 2009 (⟨[], [], []⟩ : BoxLoom) Try.zeroValue25 (fun m w => ⟨_, (rep_two rep_nil (rep_two rep_nil rep_nil)), rfl⟩) fun yH yK x8 hs b20 cb => ?_)
 have hfr := hfr.stp hs
 have b6 := b6.stp hs rfl
 have y6 := y6.stp hs
 have b12 := b12.stp hs rfl
 have u7 := u7.stp hs
 have nE := nE.stp hs
 have dW : OSF 2009 60900 0 yH yK 3 25 ([] : List Int) x8 := cb.osf (by rfl)
 have eW : OSF 2009 60901 1 yH yK 3 25 ([] : List Int) x8 := cb.osf (by rfl)
 have gW : OSF 2009 60902 2 yH yK 87 25 ([] : List BoxShuttle) x8 := cb.osf (by rfl)
 clear cb
 refine EL_at u3 rfl rfl ?_
 refine EL_do .plain rfl (D_storeOc (g := yH) (v := mE) Try.sizeOf25 rfl b20 rfl nE fun uD w21 hs b21 cb => ?_)
 clear cb
 have hfr := hfr.stp hs
 have b6 := b6.stp hs rfl
 have y6 := y6.stp hs
 have b12 := b12.stp hs rfl
 have u7 := u7.stp hs
 refine EL_at (.int .i64 (i3.2.2.1)) rfl rfl ?_
 refine EL_at (.int .i64 (i3.2.2.2.1)) rfl rfl ?_
 refine EL_at (.int .i64 (i3.2.2.2.2)) rfl rfl ?_
 refine EL_nil (thn_n (E_joinC h (fun (s : Unit) e w => ∃ (g : Gh) , Fr gI wI g w ∧ e 3 = p5 ∧ OB 2003 g w 25 (y4 : BoxLoom) p5 ∧ e 4 = j1 ∧ RV g.m w (z4.1 : List BoxPick) j1 ∧ e 8 = u3 ∧ RV g.m w (i3.1 : List Int) u3 ∧ e 9 = x8 ∧ OB 2009 g w 25 (i3.2.1 : BoxLoom) x8) (fun X38 mQ yQ h => ?_) ?_))
 ·obtain ⟨iA, hx, h⟩ := bsome h
  refine E_join (fun e w => ∃ (g : Gh) , Fr gI wI g w ∧ e 3 = p5 ∧ OB 2003 g w 25 (y4 : BoxLoom) p5 ∧ e 4 = j1 ∧ RV g.m w (z4.1 : List BoxPick) j1 ∧ e 8 = u3 ∧ RV g.m w (i3.1 : List Int) u3 ∧ e 9 = x8 ∧ OB 2009 g w 25 (i3.2.1 : BoxLoom) x8 ∧ e 67 = .bool (iA)) (fun Q' hQ => ?_) (fun iY w53 hR => ?_)
  ·replace h := hx
   clear hx
   refine E_region (EL_mw (.int .i64 (i3.2.2.2.2)) rfl rfl ?_)
   refine EL_in (.bool ((i3.2.2.2.2 != (0 : Int)))) rfl rfl rfl rfl ?_
   refine EL_mw (.bool ((i3.2.2.2.2 != (0 : Int)))) rfl rfl ?_
   rcases csome h with ⟨i9, h⟩ | ⟨i9, h⟩
   ·refine EL_s rfl rfl i9 rfl rfl ?_
    iterate 4 refine EL_s rfl rfl i9 rfl rfl ?_
    refine EL_p (.bool true) (P_pick (b := (i3.2.2.2.2 != (0 : Int))) rfl (pick_t i9 rfl)) rfl ?_
    refine EL_dead 7 rfl ?_
    refine EL_nil ?_
    obtain rfl := sinj h
    exact hQ _ _ ⟨uD, hfr, rfl, b6, rfl, y6, rfl, u7, rfl, b21, rfl⟩
   ·refine EL_y u3 (P_move rfl) rfl rfl i9 rfl ?_
    refine EL_y (.int .i64 ((i3.1).length : Int)) (P_len Try.underlying22 rfl u7) rfl rfl i9 rfl ?_
    refine EL_y j1 (P_move rfl) rfl rfl i9 rfl ?_
    refine EL_y (.int .i64 ((z4.1).length : Int)) (P_len Try.underlying30 rfl y6) rfl rfl i9 rfl ?_
    refine EL_y (.bool ((((i3.1).length : Int) != ((z4.1).length : Int)))) (P_int rfl rfl rfl) rfl rfl i9 rfl ?_
    refine EL_p (.bool ((((i3.1).length : Int) != ((z4.1).length : Int)))) (P_pick (b := (i3.2.2.2.2 != (0 : Int))) rfl (pick_f i9 rfl)) rfl ?_
    refine EL_mw (.bool ((((i3.1).length : Int) != ((z4.1).length : Int)))) rfl rfl ?_
    rcases csome h with ⟨k9, h⟩ | ⟨k9, h⟩
    ·refine EL_s rfl rfl k9 rfl rfl ?_
     iterate 4 refine EL_s rfl rfl k9 rfl rfl ?_
     refine EL_p (.bool true) (P_pick (b := (((i3.1).length : Int) != ((z4.1).length : Int))) rfl (pick_t k9 rfl)) rfl ?_
     refine EL_nil ?_
     obtain rfl := sinj h
     exact hQ _ _ ⟨uD, hfr, rfl, b6, rfl, y6, rfl, u7, rfl, b21, rfl⟩
    ·refine EL_do (.yes2 rfl rfl k9) rfl (D_loadO (g := uD) Try.isAgg25 Try.sizeOf25 rfl b21 fun xT yT => ?_)
     refine EL_do (.yes2 rfl rfl k9) rfl (D_loadO (g := uD) Try.isAgg25 Try.sizeOf25 rfl b6 fun zT aU => ?_)
     refine EL_do (.yes2 rfl rfl k9) rfl (D_loadO (g := uD) Try.isAgg76 Try.sizeOf76 rfl b12 fun bU cU => ?_)
     obtain ⟨xH, zQ, h⟩ := bsome h
     refine EL_do (.yes2 rfl rfl k9) rfl (D_call (g := uD) (vs := [xT, zT, bU]) en41 (.cons rfl (.cons rfl (.cons rfl .nil))) (wk41 yT aU cU zQ) fun dU jY v51 hs hr => ?_)
     have hfr := hfr.ext hs
     have b6 := b6.ext hs
     have y6 := y6.ext hs
     have u7 := u7.ext hs
     have b21 := b21.ext hs
     subst hr
     refine EL_y (.bool (!xH)) (P_not rfl) rfl rfl k9 rfl ?_
     refine EL_p (.bool (!xH)) (P_pick (b := (((i3.1).length : Int) != ((z4.1).length : Int))) rfl (pick_f k9 rfl)) rfl ?_
     refine EL_nil ?_
     obtain rfl := sinj h
     exact hQ _ _ ⟨dU, hfr, rfl, b6, rfl, y6, rfl, u7, rfl, b21, rfl⟩
  ·clear hx
   obtain ⟨eU, hfr, mN, nN, oN, pN, qN, rN, sN, tN, oF⟩ := hR
   rcases csome h with ⟨jG, h⟩ | ⟨jG, h⟩
   ·refine E_cond_true (Eq.trans (show ev _ _ = .bool (iA) from oF) (congrArg Value.bool jG)) ?_
    refine E_seq (E_region (EL_at (.bool false) rfl rfl ?_))
    refine EL_nil (thn_n (E_ret (thn_r ?_)))
    obtain rfl := sinj h
    exact end1 rfl rfl (show _ = .bool false from rfl) ⟨_, hfr, rfl⟩
   ·refine E_cond_false (Eq.trans (show ev _ _ = .bool (iA) from oF) (congrArg Value.bool jG)) ?_
    exact E_skip (thn_n (yQ () _ _ ⟨eU, hfr, mN, nN, oN, pN, qN, rN, sN, tN⟩ h))
 ·rintro _ kY w55 ⟨gU, hfr, uN, oE, zH, aC, vN, rE, xN, sE⟩ h
  refine E_seq (E_region (EL_do .plain rfl (D_buildSlice (g := gU) 3068 (xs := ([] : List BoxPick)) (vs := []) Try.underlying30 Try.sizeOf83 Try.zeroValue83 rfl rfl .nil RVs.nil rfl rfl fun iU w56 oQ hs o56 jU hxt hfl => ?_)))
  have hfr := hfr.stp hs
  have oE := oE.stp hs rfl
  have aC := aC.stp hs
  have rE := rE.stp hs
  have sE := sE.stp hs rfl
  refine EL_at oQ rfl rfl ?_
  refine EL_nil (thn_n ?_)
  obtain ⟨yA, hx, h⟩ := bsome h
  refine E_join (fun e w => ∃ (g : Gh) (l9 : Value), Fr gI wI g w ∧ e 3 = p5 ∧ OB 2003 g w 25 (y4 : BoxLoom) p5 ∧ e 4 = j1 ∧ RV g.m w (z4.1 : List BoxPick) j1 ∧ e 8 = u3 ∧ RV g.m w (i3.1 : List Int) u3 ∧ e 9 = x8 ∧ OB 2009 g w 25 (i3.2.1 : BoxLoom) x8 ∧ e 13 = l9 ∧ RV g.m w (yA : List BoxPick) l9 ∧ OS 3068 g w 83 (yA : List BoxPick) l9) (fun Q' hQ => ?_) (fun mY w96 hR => ?_)
  ·replace h := hx
   clear hx
   refine E_seq (E_region (EL_mv zH rfl ?_))
   refine EL_p (.int .i64 ((z4.1).length : Int)) (P_len Try.underlying30 rfl aC) rfl ?_
   refine EL_in (.int .i64 ((w64 (((z4.1).length : Int) - (1 : Int))))) rfl rfl rfl rfl ?_
   refine EL_at (.int .i64 ((w64 (((z4.1).length : Int) - (1 : Int))))) rfl rfl ?_
   refine EL_nil (thn_n (E_block ?_))
   refine E_lp h (fun (s : (List BoxPick) × Int) e w => ∃ (g : Gh) (l9 : Value), Fr gI wI g w ∧ e 3 = p5 ∧ OB 2003 g w 25 (y4 : BoxLoom) p5 ∧ e 4 = j1 ∧ RV g.m w (z4.1 : List BoxPick) j1 ∧ e 8 = u3 ∧ RV g.m w (i3.1 : List Int) u3 ∧ e 9 = x8 ∧ OB 2009 g w 25 (i3.2.1 : BoxLoom) x8 ∧ e 13 = l9 ∧ RV g.m w (s.1 : List BoxPick) l9 ∧ OS 3068 g w 83 (s.1 : List BoxPick) l9 ∧ e 14 = .int .i64 (s.2)) ⟨iU, (oQ), hfr, uN, oE, zH, aC, vN, rE, xN, sE, rfl, jU, o56, rfl⟩ (fun X77 jQ aR => ?_)
   rintro ⟨bA, d7⟩ nY w78 ⟨pQ, aB, hfr, aI, bI, cI, dI, iI, jI, kI, lI, pF, qF, rF, sF⟩ h
   refine E_joinC h (fun (s : Unit) e w => ∃ (g : Gh) , Fr gI wI g w ∧ e 3 = p5 ∧ OB 2003 g w 25 (y4 : BoxLoom) p5 ∧ e 4 = j1 ∧ RV g.m w (z4.1 : List BoxPick) j1 ∧ e 8 = u3 ∧ RV g.m w (i3.1 : List Int) u3 ∧ e 9 = x8 ∧ OB 2009 g w 25 (i3.2.1 : BoxLoom) x8 ∧ e 13 = aB ∧ RV g.m w (bA : List BoxPick) aB ∧ OS 3068 g w 83 (bA : List BoxPick) aB ∧ e 14 = .int .i64 (d7)) (fun X80 k80 bR h => ?_) ?_
   ·refine E_seq (E_region (EL_mv sF rfl ?_))
    refine EL_in (.bool ((decide (d7 ≥ (0 : Int))))) rfl rfl rfl rfl ?_
    refine EL_nil (thn_n ?_)
    rcases csome h with ⟨kG, h⟩ | ⟨kG, h⟩
    ·refine E_ct kG rfl ?_
     exact E_skip (thn_n (bR () _ _ ⟨pQ, hfr, aI, bI, cI, dI, iI, jI, kI, lI, pF, qF, rF, sF⟩ h))
    ·refine E_cf kG rfl ?_
     refine E_exit ?_
     refine thn_e ?_
     refine thn_e ?_
     refine blk_hit ?_
     obtain rfl := sinj h
     exact hQ _ _ ⟨pQ, (aB), hfr, aI, bI, cI, dI, iI, jI, kI, lI, pF, qF, rF⟩
   ·rintro _ oY w82 ⟨qQ, hfr, yN, bB, mI, u9, zN, cB, aO, dB, zK, jC, kC, tF⟩ h
    obtain ⟨gA, hx, h⟩ := bsome h
    refine E_join (fun e w => ∃ (g : Gh) (l9 : Value), Fr gI wI g w ∧ e 3 = p5 ∧ OB 2003 g w 25 (y4 : BoxLoom) p5 ∧ e 4 = j1 ∧ RV g.m w (z4.1 : List BoxPick) j1 ∧ e 8 = u3 ∧ RV g.m w (i3.1 : List Int) u3 ∧ e 9 = x8 ∧ OB 2009 g w 25 (i3.2.1 : BoxLoom) x8 ∧ e 13 = l9 ∧ RV g.m w (gA : List BoxPick) l9 ∧ OS 3068 g w 83 (gA : List BoxPick) l9 ∧ e 14 = .int .i64 (d7)) (fun Q' hQ => ?_) (fun pY w95 hR => ?_)
    ·replace h := hx
     clear hx
     refine E_block ?_
     refine E_region (EL_mv zK rfl ?_)
     refine EL_mv mI rfl ?_
     refine EL_mv tF rfl ?_
     obtain ⟨aK, aL, h⟩ := bsome h
     refine EL_p (ePtr j1 d7 2) (P_indexAddr (α := BoxPick) Try.underlying30 Try.sizeOf83 rfl u9 rfl aL) rfl ?_
     have kU := PT_idx u9 aL
     refine EL_do .plain rfl (D_load (g := qQ) Try.isAgg83 Try.sizeOf83 rfl kU fun lU mU => ?_)
     refine EL_do .plain rfl (D_buildSlice (g := qQ) 3081 (xs := ([aK] : List BoxPick)) (vs := [lU]) Try.underlying30 Try.sizeOf83 Try.zeroValue83 rfl rfl (.cons rfl .nil) (RVs.cons mU RVs.nil) rfl rfl fun nU w92 v92 hs o92 oU hxt hfl => ?_)
     have hfr := hfr.stp hs
     have bB := bB.stp hs rfl
     have u9 := u9.stp hs
     have cB := cB.stp hs
     have dB := dB.stp hs rfl
     have jC := jC.stp hs
     have kC := kC.stp hs rfl
     obtain ⟨kQ, cR, h⟩ := bsome h
     refine EL_do .plain rfl (D_append (g := nU) (i := 3068) Try.underlying30 info_83 rfl rfl kC jC rfl oU cR fun pU w93 rQ hs o93 qU _ => ?_)
     have hfr := hfr.stp hs
     have bB := bB.stp hs rfl
     have u9 := u9.stp hs
     have cB := cB.stp hs
     have dB := dB.stp hs rfl
     refine EL_at rQ rfl rfl ?_
     refine EL_nil (blk_n ?_)
     obtain rfl := sinj h
     exact hQ _ _ ⟨pU, (rQ), hfr, yN, bB, mI, u9, zN, cB, aO, dB, rfl, qU, o93, tF⟩
    ·clear hx
     obtain ⟨rU, bL, hfr, bO, cO, dO, eO, gO, iO, jO, kO, cL, dL, eL, gL⟩ := hR
     refine E_region (EL_mv gL rfl ?_)
     refine EL_in (.int .i64 ((w64 (d7 - (1 : Int))))) rfl rfl rfl rfl ?_
     refine EL_at (.int .i64 ((w64 (d7 - (1 : Int))))) rfl rfl ?_
     exact EL_nil (thn_n (aR (gA, (w64 (d7 - (1 : Int)))) _ _ ⟨rU, (bL), hfr, bO, cO, dO, eO, gO, iO, jO, kO, cL, dL, eL, rfl⟩ h))
  ·clear hx
   obtain ⟨sQ, iL, hfr, eB, x5, tE, x6, iB, i6, lO, mO, jL, lC, sU⟩ := hR
   refine E_seq (E_region (EL_do .plain rfl (D_loadO (g := sQ) Try.isAgg25 Try.sizeOf25 lO mO fun tU uU => ?_)))
   obtain ⟨lQ, dR, h⟩ := bsome h
   refine EL_do .plain rfl (D_call (g := sQ) (vs := [tU]) en15 (.cons rfl .nil) (wk15 uU dR) fun vU qY xU hs hr => ?_)
   have hfr := hfr.ext hs
   have x5 := x5.ext hs
   have x6 := x6.ext hs
   have i6 := i6.ext hs
   have lC := lC.ext hs
   have yU := hr
   refine EL_mv jL rfl ?_
   obtain ⟨j3, nO, h⟩ := bsome h
   refine EL_do .plain rfl (D_call (g := vU) (vs := [xU, iL]) en40 (.cons rfl (.cons rfl .nil)) (wk40 yU lC nO) fun eR iW uY hs hr => ?_)
   have hfr := hfr.ext hs
   have x5 := x5.ext hs
   have x6 := x6.ext hs
   have i6 := i6.ext hs
   obtain ⟨t5, mC, zU, aV, bV, rfl, j6, qC, rfl, rfl, rfl⟩ := hr
   refine EL_mw (.tuple #[t5, mC, .int .i64 (j3.2.2.1), .int .i64 (j3.2.2.2.1), .int .i64 (j3.2.2.2.2)]) rfl rfl ?_
   refine EL_p t5 (P_extract rfl rfl) rfl ?_
   refine EL_p mC (P_extract rfl rfl) rfl ?_
   refine EL_p (.int .i64 (j3.2.2.1)) (P_extract rfl rfl) rfl ?_
   refine EL_p (.int .i64 (j3.2.2.2.1)) (P_extract rfl rfl) rfl ?_
   refine EL_p (.int .i64 (j3.2.2.2.2)) (P_extract rfl rfl) rfl ?_
   refine EL_do .plain rfl (D_allocOc (g := eR) 2016 (⟨[], [], []⟩ : BoxLoom) Try.zeroValue25 (fun m w => ⟨_, (rep_two rep_nil (rep_two rep_nil rep_nil)), rfl⟩) fun uE lG mG hs b102 cb => ?_)
   have hfr := hfr.stp hs
   have x5 := x5.stp hs rfl
   have x6 := x6.stp hs
   have i6 := i6.stp hs
   have j6 := j6.stp hs
   have qC := qC.stp hs
   have cV : OSF 2016 61600 0 uE lG 3 25 ([] : List Int) mG := cb.osf (by rfl)
   have dV : OSF 2016 61601 1 uE lG 3 25 ([] : List Int) mG := cb.osf (by rfl)
   have eV : OSF 2016 61602 2 uE lG 87 25 ([] : List BoxShuttle) mG := cb.osf (by rfl)
   clear cb
   refine EL_at t5 rfl rfl ?_
   refine EL_do .plain rfl (D_storeOc (g := uE) (v := mC) Try.sizeOf25 rfl b102 rfl qC fun nG vY hs b103 cb => ?_)
   clear cb
   have hfr := hfr.stp hs
   have x5 := x5.stp hs rfl
   have x6 := x6.stp hs
   have i6 := i6.stp hs
   have j6 := j6.stp hs
   refine EL_at (.int .i64 (j3.2.2.1)) rfl rfl ?_
   refine EL_at (.int .i64 (j3.2.2.2.1)) rfl rfl ?_
   refine EL_at (.int .i64 (j3.2.2.2.2)) rfl rfl ?_
   refine EL_nil (thn_n (E_joinC h (fun (s : Unit) e w => ∃ (g : Gh) , Fr gI wI g w ∧ e 3 = p5 ∧ OB 2003 g w 25 (y4 : BoxLoom) p5 ∧ e 4 = j1 ∧ RV g.m w (z4.1 : List BoxPick) j1 ∧ e 8 = u3 ∧ RV g.m w (i3.1 : List Int) u3 ∧ e 15 = t5 ∧ RV g.m w (j3.1 : List Int) t5) (fun X352 vK oO h => ?_) ?_))
   ·obtain ⟨t8, hx, h⟩ := bsome h
    refine E_join (fun e w => ∃ (g : Gh) , Fr gI wI g w ∧ e 3 = p5 ∧ OB 2003 g w 25 (y4 : BoxLoom) p5 ∧ e 4 = j1 ∧ RV g.m w (z4.1 : List BoxPick) j1 ∧ e 8 = u3 ∧ RV g.m w (i3.1 : List Int) u3 ∧ e 15 = t5 ∧ RV g.m w (j3.1 : List Int) t5 ∧ e 109 = .bool (t8)) (fun Q' hQ => ?_) (fun jW xY hR => ?_)
    ·replace h := hx
     clear hx
     rcases csome h with ⟨a7, h⟩ | ⟨a7, h⟩
     ·refine E_drawL (g := nG) (n := 17) [] [0, 1, 2, 3, 4, 5, 6, 7, 8, 9, 10, 11, 12, 13, 14, 15, 16] rfl mixed (by kernel_rfl) trivial ?_
      refine L_p (.int .i64 (j3.2.2.2.2)) rfl rfl (P_move rfl) ?_
      refine L_p (.bool ((j3.2.2.2.2 != (0 : Int)))) rfl rfl (P_int rfl rfl rfl) ?_
      refine L_p (.bool ((j3.2.2.2.2 != (0 : Int)))) rfl rfl (P_move rfl) ?_
      iterate 5 refine L_s rfl rfl rfl a7 rfl ?_
      refine L_p (.bool true) rfl rfl (P_pick (b := (j3.2.2.2.2 != (0 : Int))) rfl (pick_t a7 rfl)) ?_
      refine L_dead (fun _ => rfl) 8 rfl ?_
      refine L_nl fun gR yY hs => ?_
      have hfr := hfr.ext hs
      have x5 := x5.ext hs
      have x6 := x6.ext hs
      have i6 := i6.ext hs
      have j6 := j6.ext hs
      clear hs
      refine EL_nil ?_
      obtain rfl := sinj h
      exact hQ _ _ ⟨gR, hfr, eB, x5, tE, x6, iB, i6, rfl, j6, rfl⟩
     ·rcases csome h with ⟨c8, h⟩ | ⟨c8, h⟩
      ·refine E_drawL (g := nG) (n := 17) [] [0, 1, 2, 3, 4, 5, 6, 7, 8, 9, 10, 11, 12, 13, 14, 15, 16] rfl mixed (by kernel_rfl) trivial ?_
       refine L_p (.int .i64 (j3.2.2.2.2)) rfl rfl (P_move rfl) ?_
       refine L_p (.bool ((j3.2.2.2.2 != (0 : Int)))) rfl rfl (P_int rfl rfl rfl) ?_
       refine L_p (.bool ((j3.2.2.2.2 != (0 : Int)))) rfl rfl (P_move rfl) ?_
       refine L_y t5 rfl rfl rfl rfl a7 (P_move rfl) ?_
       refine L_y (.int .i64 ((j3.1).length : Int)) rfl rfl rfl rfl a7 (P_len Try.underlying22 rfl j6) ?_
       refine L_y u3 rfl rfl rfl rfl a7 (P_move iB) ?_
       refine L_y (.int .i64 ((i3.1).length : Int)) rfl rfl rfl rfl a7 (P_len Try.underlying22 rfl i6) ?_
       refine L_y (.bool ((((j3.1).length : Int) != ((i3.1).length : Int)))) rfl rfl rfl rfl a7 (P_int rfl rfl rfl) ?_
       refine L_p (.bool ((((j3.1).length : Int) != ((i3.1).length : Int)))) rfl rfl (P_pick (b := (j3.2.2.2.2 != (0 : Int))) rfl (pick_f a7 rfl)) ?_
       refine L_p (.bool ((((j3.1).length : Int) != ((i3.1).length : Int)))) rfl rfl (P_move rfl) ?_
       iterate 6 refine L_s rfl rfl rfl c8 rfl ?_
       refine L_p (.bool true) rfl rfl (P_pick (b := (((j3.1).length : Int) != ((i3.1).length : Int))) rfl (pick_t c8 rfl)) ?_
       refine L_nl fun iR zY hs => ?_
       have hfr := hfr.ext hs
       have x5 := x5.ext hs
       have x6 := x6.ext hs
       have i6 := i6.ext hs
       have j6 := j6.ext hs
       clear hs
       refine EL_nil ?_
       obtain rfl := sinj h
       exact hQ _ _ ⟨iR, hfr, eB, x5, tE, x6, iB, i6, rfl, j6, rfl⟩
      ·refine L_loadO0 (x := .tmp 16) Try.isAgg25 Try.sizeOf25 b103 fun lL jR pO => ?_
       refine L_loadO0 (x := .tmp 3) Try.isAgg25 Try.sizeOf25 x5 fun mL lR qO => ?_
       refine L_loadO0 (x := .tmp 3) Try.isAgg25 Try.sizeOf25 x5 fun nL mR rO => ?_
       obtain ⟨lB, sO, h⟩ := bsome h
       obtain ⟨mB, tO, h⟩ := bsome h
       refine E_drawL (g := nG) (n := 17) [(13, (fun v g w => RV g.m w lB v)), (14, (fun v g w => v = .bool (mB)))] [0, 1, 2, 3, 4, 5, 6, 7, 8, 9, 10, 11, 12, 13, 14, 15, 16] rfl mixed (by kernel_rfl) (⟨fun _ => up_rv, fun _ => up_eq _, trivial⟩) ?_
       refine L_p (.int .i64 (j3.2.2.2.2)) rfl rfl (P_move rfl) ?_
       refine L_p (.bool ((j3.2.2.2.2 != (0 : Int)))) rfl rfl (P_int rfl rfl rfl) ?_
       refine L_p (.bool ((j3.2.2.2.2 != (0 : Int)))) rfl rfl (P_move rfl) ?_
       refine L_y t5 rfl rfl rfl rfl a7 (P_move rfl) ?_
       refine L_y (.int .i64 ((j3.1).length : Int)) rfl rfl rfl rfl a7 (P_len Try.underlying22 rfl j6) ?_
       refine L_y u3 rfl rfl rfl rfl a7 (P_move iB) ?_
       refine L_y (.int .i64 ((i3.1).length : Int)) rfl rfl rfl rfl a7 (P_len Try.underlying22 rfl i6) ?_
       refine L_y (.bool ((((j3.1).length : Int) != ((i3.1).length : Int)))) rfl rfl rfl rfl a7 (P_int rfl rfl rfl) ?_
       refine L_p (.bool ((((j3.1).length : Int) != ((i3.1).length : Int)))) rfl rfl (P_pick (b := (j3.2.2.2.2 != (0 : Int))) rfl (pick_f a7 rfl)) ?_
       refine L_p (.bool ((((j3.1).length : Int) != ((i3.1).length : Int)))) rfl rfl (P_move rfl) ?_
       refine L_ld (c := lL) rfl rfl (.yes2 rfl rfl c8) (fun _ _ h => ⟨h.ch, fun b hb _ => h.below.block b hb⟩) pO rfl ?_
       refine L_ld (c := mL) rfl rfl (.yes2 rfl rfl c8) (fun _ _ h => ⟨h.ch, fun b hb _ => h.below.block b hb⟩) qO eB ?_
       refine L_ld (c := nL) rfl rfl (.yes2 rfl rfl c8) (fun _ _ h => ⟨h.ch, fun b hb _ => h.below.block b hb⟩) rO eB ?_
       refine L_do (φ := fun v g w => RV g.m w lB v) rfl rfl (.yes2 rfl rfl c8) (fun g w hd => D_call (g := g) (vs := [nL]) en45 (.cons rfl .nil) (wk45 (mR.ext hd.1) sO) fun g' w' v hs hr => ⟨g', hs, hr⟩) (fun oG hv => ?_)
       obtain ⟨_, _, _, rq557⟩ := hv
       refine L_do (φ := fun v g w => v = .bool (mB)) rfl rfl (.yes2 rfl rfl c8) (fun g w hd => D_call (g := g) (vs := [lL, mL, oG]) en41 (.cons rfl (.cons rfl (.cons rfl .nil))) (wk41 (jR.ext hd.1) (lR.ext hd.1) (word (A := fun g w => RV g.m w lB oG) 13 rfl rfl (deps_of hd)) tO) fun g' w' v hs hr => ⟨g', hs, hr⟩) (fun aZ hv => ?_)
       obtain ⟨_, _, _, rfl⟩ := hv
       refine L_y (.bool (!mB)) rfl rfl rfl rfl c8 (P_not rfl) ?_
       refine L_p (.bool (!mB)) rfl rfl (P_pick (b := (((j3.1).length : Int) != ((i3.1).length : Int))) rfl (pick_f c8 rfl)) ?_
       refine L_nil fun nR bZ hall => ?_
       have hs := hall.1
       have hfr := hfr.ext hs
       have x5 := x5.ext hs
       have x6 := x6.ext hs
       have i6 := i6.ext hs
       have j6 := j6.ext hs
       have cZ := (word_all (A := fun g w => RV g.m w lB oG) 13 rfl hall)
       clear hs hall
       refine EL_nil ?_
       obtain rfl := sinj h
       exact hQ _ _ ⟨nR, hfr, eB, x5, tE, x6, iB, i6, rfl, j6, rfl⟩
    ·clear hx
     obtain ⟨oR, hfr, oL, pL, qL, rL, tL, uL, xI, yI, rC⟩ := hR
     rcases csome h with ⟨vE, h⟩ | ⟨vE, h⟩
     ·refine E_cond_true (Eq.trans (show ev _ _ = .bool (t8) from rC) (congrArg Value.bool vE)) ?_
      refine E_seq (E_region (EL_at (.bool false) rfl rfl ?_))
      refine EL_nil (thn_n (E_ret (thn_r ?_)))
      obtain rfl := sinj h
      exact end1 rfl rfl (show _ = .bool false from rfl) ⟨_, hfr, rfl⟩
     ·refine E_cond_false (Eq.trans (show ev _ _ = .bool (t8) from rC) (congrArg Value.bool vE)) ?_
      exact E_skip (thn_n (oO () _ _ ⟨oR, hfr, oL, pL, qL, rL, tL, uL, xI, yI⟩ h))
   ·rintro _ kW dZ ⟨pR, hfr, vL, xL, yL, zL, aM, bM, zI, aJ⟩ h
    refine E_joinC h (fun (s : Unit) e w => ∃ (g : Gh) , Fr gI wI g w ∧ e 3 = p5 ∧ OB 2003 g w 25 (y4 : BoxLoom) p5 ∧ e 4 = j1 ∧ RV g.m w (z4.1 : List BoxPick) j1) (fun X662 qK uO h => ?_) ?_
    ·refine E_seq (E_region (EL_at (.int .i64 (0)) rfl rfl ?_))
     refine EL_nil (thn_n (E_block ?_))
     refine E_lp h (fun (s : Int) e w => ∃ (g : Gh) , Fr gI wI g w ∧ e 3 = p5 ∧ OB 2003 g w 25 (y4 : BoxLoom) p5 ∧ e 4 = j1 ∧ RV g.m w (z4.1 : List BoxPick) j1 ∧ e 8 = u3 ∧ RV g.m w (i3.1 : List Int) u3 ∧ e 15 = t5 ∧ RV g.m w (j3.1 : List Int) t5 ∧ e 20 = .int .i64 (s)) ⟨pR, hfr, vL, xL, yL, zL, aM, bM, zI, aJ, rfl⟩ (fun X663 sK vO => ?_)
     rintro l5 lW mZ ⟨cM, hfr, uF, vF, xF, yF, zF, aG, bJ, cJ, vD⟩ h
     refine E_joinC h (fun (s : Unit) e w => ∃ (g : Gh) , Fr gI wI g w ∧ e 3 = p5 ∧ OB 2003 g w 25 (y4 : BoxLoom) p5 ∧ e 4 = j1 ∧ RV g.m w (z4.1 : List BoxPick) j1 ∧ e 8 = u3 ∧ RV g.m w (i3.1 : List Int) u3 ∧ e 15 = t5 ∧ RV g.m w (j3.1 : List Int) t5 ∧ e 20 = .int .i64 (l5)) (fun X666 uK xO h => ?_) ?_
     ·refine E_seq (E_region (EL_mv vD rfl ?_))
      refine EL_mv zF rfl ?_
      refine EL_p (.int .i64 ((i3.1).length : Int)) (P_len Try.underlying22 rfl aG) rfl ?_
      refine EL_in (.bool ((decide (l5 < ((i3.1).length : Int))))) rfl rfl rfl rfl ?_
      refine EL_nil (thn_n ?_)
      rcases csome h with ⟨xE, h⟩ | ⟨xE, h⟩
      ·refine E_ct xE rfl ?_
       exact E_skip (thn_n (xO () _ _ ⟨cM, hfr, uF, vF, xF, yF, zF, aG, bJ, cJ, vD⟩ h))
      ·refine E_cf xE rfl ?_
       refine E_exit ?_
       refine thn_e ?_
       refine thn_e ?_
       refine blk_hit ?_
       exact thn_n (uO () _ _ ⟨cM, hfr, uF, vF, xF, yF⟩ h)
     ·rintro _ mW nZ ⟨qR, hfr, dM, tC, eM, uC, vC, n9, xD, o9, nB⟩ h
      refine E_joinC h (fun (s : Unit) e w => ∃ (g : Gh) , Fr gI wI g w ∧ e 3 = p5 ∧ OB 2003 g w 25 (y4 : BoxLoom) p5 ∧ e 4 = j1 ∧ RV g.m w (z4.1 : List BoxPick) j1 ∧ e 8 = u3 ∧ RV g.m w (i3.1 : List Int) u3 ∧ e 15 = t5 ∧ RV g.m w (j3.1 : List Int) t5 ∧ e 20 = .int .i64 (l5)) (fun X695 tK yO h => ?_) ?_
      ·refine E_block ?_
       refine E_seq ?_
       obtain ⟨kE, nI, h⟩ := bsome h
       have rR := PT_idx o9 nI
       refine L_load (x := .tmp 118) Try.isAgg3 Try.sizeOf3 rR fun oZ tR zO => ?_
       obtain rfl := RV_int.1 tR
       obtain ⟨lE, pI, h⟩ := bsome h
       have uR := PT_idx n9 pI
       refine L_load (x := .tmp 126) Try.isAgg3 Try.sizeOf3 uR fun pZ vR aP => ?_
       obtain rfl := RV_int.1 vR
       refine E_drawL (g := qR) (n := 13) [] [0, 1, 2, 3, 4, 5, 6, 7, 8, 9, 10, 11, 12] rfl mixed (by kernel_rfl) trivial ?_
       refine L_p t5 rfl rfl (P_move xD) ?_
       refine L_p (.int .i64 (l5)) rfl rfl (P_move nB) ?_
       refine L_p (ePtr t5 l5 1) rfl rfl (P_indexAddr (α := Int) Try.underlying22 Try.sizeOf3 rfl o9 rfl nI) ?_
       refine L_ld (c := .int .i64 (kE)) rfl rfl .plain (fun _ _ h => h.ch) zO rfl ?_
       refine L_p u3 rfl rfl (P_move vC) ?_
       refine L_p u3 rfl rfl (P_move vC) ?_
       refine L_p (.int .i64 ((i3.1).length : Int)) rfl rfl (P_len Try.underlying22 rfl n9) ?_
       refine L_p (.int .i64 ((w64 (((i3.1).length : Int) - (1 : Int))))) rfl rfl (P_int rfl rfl rfl) ?_
       refine L_p (.int .i64 (l5)) rfl rfl (P_move nB) ?_
       refine L_p (.int .i64 ((w64 ((w64 (((i3.1).length : Int) - (1 : Int))) - l5)))) rfl rfl (P_int rfl rfl rfl) ?_
       refine L_p (ePtr u3 (w64 ((w64 (((i3.1).length : Int) - (1 : Int))) - l5)) 1) rfl rfl (P_indexAddr (α := Int) Try.underlying22 Try.sizeOf3 rfl n9 rfl pI) ?_
       refine L_ld (c := .int .i64 (lE)) rfl rfl .plain (fun _ _ h => h.ch) aP rfl ?_
       refine L_p (.bool ((kE != lE))) rfl rfl (P_int rfl rfl rfl) ?_
       refine L_nl fun xR qZ hs => ?_
       have hfr := hfr.ext hs
       have tC := tC.ext hs
       have uC := uC.ext hs
       have n9 := n9.ext hs
       have o9 := o9.ext hs
       clear hs
       refine EL_nil (thn_n ?_)
       rcases csome h with ⟨yE, h⟩ | ⟨yE, h⟩
       ·refine E_ct yE rfl ?_
        refine E_seq (E_region (EL_at (.bool false) rfl rfl ?_))
        refine EL_nil (thn_n (E_ret (blk_r ?_)))
        refine thn_r ?_
        refine thn_r ?_
        refine blk_r ?_
        refine thn_r ?_
        obtain rfl := sinj h
        exact end1 rfl rfl (show _ = .bool false from rfl) ⟨_, hfr, rfl⟩
       ·refine E_cf yE rfl ?_
        exact E_skip (blk_n (thn_n (yO () _ _ ⟨xR, hfr, dM, tC, eM, uC, vC, n9, xD, o9, nB⟩ h)))
      ·rintro _ nW rZ ⟨yR, hfr, gM, iM, jM, kM, mM, nM, dJ, eJ, gJ⟩ h
       refine E_region (EL_mv gJ rfl ?_)
       refine EL_in (.int .i64 ((w64 (l5 + (1 : Int))))) rfl rfl rfl rfl ?_
       refine EL_at (.int .i64 ((w64 (l5 + (1 : Int))))) rfl rfl ?_
       exact EL_nil (thn_n (vO ((w64 (l5 + (1 : Int)))) _ _ ⟨yR, hfr, gM, iM, jM, kM, mM, nM, dJ, eJ, rfl⟩ h))
    ·rintro _ oW sZ ⟨oM, hfr, bG, k8, xC, j7⟩ h
     refine E_seq (E_region (EL_do .plain rfl (D_loadO (g := oM) Try.isAgg25 Try.sizeOf25 bG k8 fun zR aS => ?_)))
     obtain ⟨bK, bP, h⟩ := bsome h
     refine EL_do .plain rfl (D_call (g := oM) (vs := [zR]) en15 (.cons rfl .nil) (wk15 aS bP) fun bS pW cS hs hr => ?_)
     have hfr := hfr.ext hs
     have k8 := k8.ext hs
     have j7 := j7.ext hs
     have pG := hr
     refine EL_mv xC rfl ?_
     obtain ⟨cK, cP, h⟩ := bsome h
     refine EL_do .plain rfl (D_call (g := bS) (vs := [j1]) en28 (.cons rfl .nil) (wk28 j7 cP) fun dS qW eS hs hr => ?_)
     have hfr := hfr.ext hs
     have k8 := k8.ext hs
     have j7 := j7.ext hs
     have pG := pG.ext hs
     have gS := hr
     obtain ⟨o0, dP, h⟩ := bsome h
     refine EL_do .plain rfl (D_call (g := dS) (vs := [cS, eS]) en36 (.cons rfl (.cons rfl .nil)) (wk36 pG gS dP) fun zE sW tZ hs hr => ?_)
     have hfr := hfr.ext hs
     have k8 := k8.ext hs
     have j7 := j7.ext hs
     obtain ⟨gV, iV, rfl, rfl, rfl⟩ := hr
     refine EL_mw (.tuple #[.int .i64 (o0.1), .int .i64 (o0.2)]) rfl rfl ?_
     refine EL_p (.int .i64 (o0.1)) (P_extract rfl rfl) rfl ?_
     refine EL_p (.int .i64 (o0.2)) (P_extract rfl rfl) rfl ?_
     refine EL_at (.int .i64 (o0.1)) rfl rfl ?_
     refine EL_at (.int .i64 (o0.2)) rfl rfl ?_
     refine EL_nil (thn_n (E_joinC h (fun (s : Unit) e w => ∃ (g : Gh) , Fr gI wI g w ∧ e 3 = p5 ∧ OB 2003 g w 25 (y4 : BoxLoom) p5 ∧ e 4 = j1 ∧ RV g.m w (z4.1 : List BoxPick) j1 ∧ e 21 = .int .i64 (o0.1) ∧ e 22 = .int .i64 (o0.2)) (fun X741 pK eP h => ?_) ?_))
     ·refine E_seq (E_region (EL_mv xC rfl ?_))
      refine EL_p (.int .i64 ((z4.1).length : Int)) (P_len Try.underlying30 rfl j7) rfl ?_
      refine EL_in (.bool ((((z4.1).length : Int) == (0 : Int)))) rfl rfl rfl rfl ?_
      refine EL_nil (thn_n ?_)
      rcases csome h with ⟨cF, h⟩ | ⟨cF, h⟩
      ·refine E_ct cF rfl ?_
       obtain ⟨zA, hx, h⟩ := bsome h
       refine E_join (fun e w => ∃ (g : Gh) , Fr gI wI g w ∧ e 2 = .bool (zA)) (fun Q' hQ => ?_) (fun tW uZ hR => ?_)
       ·replace h := hx
        clear hx
        refine E_region (EL_mw (.int .i64 (o0.2)) rfl rfl ?_)
        refine EL_in (.bool ((o0.2 == (7 : Int)))) rfl rfl rfl rfl ?_
        refine EL_mw (.bool ((o0.2 == (7 : Int)))) rfl rfl ?_
        rcases csome h with ⟨y9, h⟩ | ⟨y9, h⟩
        ·refine EL_y (.int .i64 (o0.1)) (P_move rfl) rfl rfl y9 rfl ?_
         refine EL_y (.bool ((o0.1 == (0 : Int)))) (P_int rfl rfl rfl) rfl rfl y9 rfl ?_
         refine EL_p (.bool ((o0.1 == (0 : Int)))) (P_pick (b := (o0.2 == (7 : Int))) rfl (pick_t y9 rfl)) rfl ?_
         refine EL_mw (.bool ((o0.1 == (0 : Int)))) rfl rfl ?_
         rcases csome h with ⟨jB, h⟩ | ⟨jB, h⟩
         ·obtain ⟨jE, gP, h⟩ := bsome h
          refine EL_do (.yes2 rfl rfl jB) rfl (D_call (g := zE) (vs := []) en14 .nil (wk14  gP) fun iS uW vZ hs hr => ?_)
          have hfr := hfr.ext hs
          subst hr
          refine EL_p (.bool (jE)) (P_pick (b := (o0.1 == (0 : Int))) rfl (pick_t jB rfl)) rfl ?_
          refine EL_at (.bool (jE)) rfl rfl ?_
          refine EL_nil ?_
          obtain rfl := sinj h
          exact hQ _ _ ⟨iS, hfr, rfl⟩
         ·refine EL_s rfl rfl jB rfl rfl ?_
          refine EL_p (.bool false) (P_pick (b := (o0.1 == (0 : Int))) rfl (pick_f jB rfl)) rfl ?_
          refine EL_at (.bool false) rfl rfl ?_
          refine EL_nil ?_
          obtain rfl := sinj h
          exact hQ _ _ ⟨zE, hfr, rfl⟩
        ·refine EL_s rfl rfl y9 rfl rfl ?_
         refine EL_s rfl rfl y9 rfl rfl ?_
         refine EL_p (.bool false) (P_pick (b := (o0.2 == (7 : Int))) rfl (pick_f y9 rfl)) rfl ?_
         refine EL_dead 3 rfl ?_
         refine EL_at (.bool false) rfl rfl ?_
         refine EL_nil ?_
         obtain rfl := sinj h
         exact hQ _ _ ⟨zE, hfr, rfl⟩
       ·clear hx
        obtain ⟨xZ, hfr, pM⟩ := hR
        refine E_ret (thn_r ?_)
        obtain rfl := sinj h
        exact end1 rfl rfl (show _ = .bool (zA) from pM) ⟨_, hfr, rfl⟩
      ·refine E_cf cF rfl ?_
       exact E_skip (thn_n (eP () _ _ ⟨zE, hfr, bG, k8, xC, j7, rfl, rfl⟩ h))
     ·rintro _ vW yZ ⟨qM, hfr, cG, l8, rM, y8, iJ, jJ⟩ h
      refine E_seq (E_region (EL_do .plain rfl (D_loadO (g := qM) Try.isAgg25 Try.sizeOf25 cG l8 fun jS lS => ?_)))
      obtain ⟨dK, iP, h⟩ := bsome h
      refine EL_do .plain rfl (D_call (g := qM) (vs := [jS]) en15 (.cons rfl .nil) (wk15 lS iP) fun mS xW nS hs hr => ?_)
      have hfr := hfr.ext hs
      have l8 := l8.ext hs
      have y8 := y8.ext hs
      have qG := hr
      refine EL_do .plain rfl (D_allocOc (g := mS) 2023 (⟨[], [], []⟩ : BoxLoom) Try.zeroValue25 (fun m w => ⟨_, (rep_two rep_nil (rep_two rep_nil rep_nil)), rfl⟩) fun dF rG i7 hs b756 cb => ?_)
      have hfr := hfr.stp hs
      have l8 := l8.stp hs rfl
      have y8 := y8.stp hs
      have qG := qG.stp hs
      have jV : OSF 2023 62300 0 dF rG 3 25 ([] : List Int) i7 := cb.osf (by rfl)
      have kV : OSF 2023 62301 1 dF rG 3 25 ([] : List Int) i7 := cb.osf (by rfl)
      have lV : OSF 2023 62302 2 dF rG 87 25 ([] : List BoxShuttle) i7 := cb.osf (by rfl)
      clear cb
      refine EL_do .plain rfl (D_storeOc (g := dF) (v := nS) Try.sizeOf25 rfl b756 rfl qG fun oS zZ hs b757 cb => ?_)
      clear cb
      have hfr := hfr.stp hs
      have l8 := l8.stp hs rfl
      have y8 := y8.stp hs
      refine EL_at (.bool false) rfl rfl ?_
      refine EL_nil (thn_n (E_joinC h (fun (s : Bool) e w => ∃ (g : Gh) , Fr gI wI g w ∧ e 21 = .int .i64 (o0.1) ∧ e 22 = .int .i64 (o0.2) ∧ e 24 = .bool (s)) (fun X912 eG qI h => ?_) ?_))
      ·refine E_seq (E_region (EL_at (.int .i64 (1)) rfl rfl ?_))
       refine EL_nil (thn_n (E_block ?_))
       refine E_lp h (fun (s : BoxLoom × Bool × Int) e w => ∃ (g : Gh) , Fr gI wI g w ∧ e 3 = p5 ∧ OB 2003 g w 25 (y4 : BoxLoom) p5 ∧ e 4 = j1 ∧ RV g.m w (z4.1 : List BoxPick) j1 ∧ e 21 = .int .i64 (o0.1) ∧ e 22 = .int .i64 (o0.2) ∧ e 23 = i7 ∧ OB 2023 g w 25 (s.1 : BoxLoom) i7 ∧ e 24 = .bool (s.2.1) ∧ e 25 = .int .i64 (s.2.2)) ⟨oS, hfr, cG, l8, rM, y8, iJ, jJ, rfl, b757, rfl, rfl⟩ (fun X913 eK jP => ?_)
       rintro ⟨m8, n8, z3⟩ yW a00 ⟨sM, hfr, tM, uM, vM, xM, yD, zD, kJ, lJ, aE, bE⟩ h
       refine E_joinC h (fun (s : Unit) e w => ∃ (g : Gh) , Fr gI wI g w ∧ e 3 = p5 ∧ OB 2003 g w 25 (y4 : BoxLoom) p5 ∧ e 4 = j1 ∧ RV g.m w (z4.1 : List BoxPick) j1 ∧ e 21 = .int .i64 (o0.1) ∧ e 22 = .int .i64 (o0.2) ∧ e 23 = i7 ∧ OB 2023 g w 25 (m8 : BoxLoom) i7 ∧ e 24 = .bool (n8) ∧ e 25 = .int .i64 (z3)) (fun X916 oK kP h => ?_) ?_
       ·refine E_seq (E_region (EL_mv bE rfl ?_))
        refine EL_in (.bool ((decide (z3 ≤ (15 : Int))))) rfl rfl rfl rfl ?_
        refine EL_nil (thn_n ?_)
        rcases csome h with ⟨eF, h⟩ | ⟨eF, h⟩
        ·refine E_ct eF rfl ?_
         exact E_skip (thn_n (kP () _ _ ⟨sM, hfr, tM, uM, vM, xM, yD, zD, kJ, lJ, aE, bE⟩ h))
        ·refine E_cf eF rfl ?_
         refine E_exit ?_
         refine thn_e ?_
         refine thn_e ?_
         refine blk_hit ?_
         exact thn_n (qI (n8) _ _ ⟨sM, hfr, yD, zD, aE⟩ h)
       ·rintro _ zW b00 ⟨yM, hfr, zM, g7, dG, b7, cE, dE, eE, v6, mJ, nJ⟩ h
        refine E_joinC h (fun (s : BoxLoom × Bool) e w => ∃ (g : Gh) , Fr gI wI g w ∧ e 3 = p5 ∧ OB 2003 g w 25 (y4 : BoxLoom) p5 ∧ e 4 = j1 ∧ RV g.m w (z4.1 : List BoxPick) j1 ∧ e 21 = .int .i64 (o0.1) ∧ e 22 = .int .i64 (o0.2) ∧ e 23 = i7 ∧ OB 2023 g w 25 (s.1 : BoxLoom) i7 ∧ e 24 = .bool (s.2) ∧ e 25 = .int .i64 (z3)) (fun X992 lK lP h => ?_) ?_
        ·refine E_block ?_
         refine E_seq (E_region (EL_do .plain rfl (D_loadO (g := yM) Try.isAgg25 Try.sizeOf25 eE v6 fun pS qS => ?_)))
         obtain ⟨mK, mP, h⟩ := bsome h
         refine EL_do .plain rfl (D_call (g := yM) (vs := [pS]) en15 (.cons rfl .nil) (wk15 qS mP) fun rS aX sS hs hr => ?_)
         have hfr := hfr.ext hs
         have g7 := g7.ext hs
         have b7 := b7.ext hs
         have v6 := v6.ext hs
         have sG := hr
         refine EL_mv dG rfl ?_
         obtain ⟨nK, nP, h⟩ := bsome h
         refine EL_do .plain rfl (D_call (g := rS) (vs := [j1]) en28 (.cons rfl .nil) (wk28 b7 nP) fun tS bX uS hs hr => ?_)
         have hfr := hfr.ext hs
         have g7 := g7.ext hs
         have b7 := b7.ext hs
         have v6 := v6.ext hs
         have sG := sG.ext hs
         have vS := hr
         obtain ⟨i5, oP, h⟩ := bsome h
         refine EL_do .plain rfl (D_call (g := tS) (vs := [sS, uS]) en40 (.cons rfl (.cons rfl .nil)) (wk40 sG vS oP) fun xS cX c00 hs hr => ?_)
         have hfr := hfr.ext hs
         have g7 := g7.ext hs
         have b7 := b7.ext hs
         have v6 := v6.ext hs
         obtain ⟨yC, aD, mV, nV, oV, rfl, pV, bD, rfl, rfl, rfl⟩ := hr
         refine EL_mw (.tuple #[yC, aD, .int .i64 (i5.2.2.1), .int .i64 (i5.2.2.2.1), .int .i64 (i5.2.2.2.2)]) rfl rfl ?_
         refine EL_p yC (P_extract rfl rfl) rfl ?_
         refine EL_p aD (P_extract rfl rfl) rfl ?_
         refine EL_p (.int .i64 (i5.2.2.1)) (P_extract rfl rfl) rfl ?_
         refine EL_p (.int .i64 (i5.2.2.2.1)) (P_extract rfl rfl) rfl ?_
         refine EL_p (.int .i64 (i5.2.2.2.2)) (P_extract rfl rfl) rfl ?_
         refine EL_do .plain rfl (D_allocOc (g := xS) 2027 (⟨[], [], []⟩ : BoxLoom) Try.zeroValue25 (fun m w => ⟨_, (rep_two rep_nil (rep_two rep_nil rep_nil)), rfl⟩) fun cC iF g8 hs b1000 cb => ?_)
         have hfr := hfr.stp hs
         have g7 := g7.stp hs rfl
         have b7 := b7.stp hs
         have v6 := v6.stp hs rfl
         have bD := bD.stp hs
         have yS : OSF 2027 62700 0 cC iF 3 25 ([] : List Int) g8 := cb.osf (by rfl)
         have zS : OSF 2027 62701 1 cC iF 3 25 ([] : List Int) g8 := cb.osf (by rfl)
         have eT : OSF 2027 62702 2 cC iF 87 25 ([] : List BoxShuttle) g8 := cb.osf (by rfl)
         clear cb
         refine EL_at yC rfl rfl ?_
         refine EL_do .plain rfl (D_storeOc (g := cC) (v := aD) Try.sizeOf25 rfl b1000 rfl bD fun rI dX hs b1001 cb => ?_)
         clear cb
         have hfr := hfr.stp hs
         have g7 := g7.stp hs rfl
         have b7 := b7.stp hs
         have v6 := v6.stp hs rfl
         refine EL_at (.int .i64 (i5.2.2.1)) rfl rfl ?_
         refine EL_at (.int .i64 (i5.2.2.2.1)) rfl rfl ?_
         refine EL_at (.int .i64 (i5.2.2.2.2)) rfl rfl ?_
         refine EL_nil (thn_n (E_joinC h (fun (s : Bool) e w => ∃ (g : Gh) , Fr gI wI g w ∧ e 3 = p5 ∧ OB 2003 g w 25 (y4 : BoxLoom) p5 ∧ e 4 = j1 ∧ RV g.m w (z4.1 : List BoxPick) j1 ∧ e 21 = .int .i64 (o0.1) ∧ e 22 = .int .i64 (o0.2) ∧ e 23 = i7 ∧ OB 2023 g w 25 (m8 : BoxLoom) i7 ∧ e 24 = .bool (s) ∧ e 25 = .int .i64 (z3) ∧ e 27 = g8 ∧ OB 2027 g w 25 (i5.2.1 : BoxLoom) g8 ∧ e 30 = .int .i64 (i5.2.2.2.2)) (fun X1003 vH bN h => ?_) ?_))
         ·refine E_seq (E_region (EL_mw (.int .i64 (i5.2.2.2.2)) rfl rfl ?_))
          refine EL_in (.bool ((i5.2.2.2.2 == (9 : Int)))) rfl rfl rfl rfl ?_
          refine EL_nil (thn_n ?_)
          rcases csome h with ⟨cD, h⟩ | ⟨cD, h⟩
          ·refine E_ct cD rfl ?_
           refine E_seq (E_region (EL_at (.bool true) rfl rfl ?_))
           refine EL_nil (thn_n (E_exit ?_))
           refine thn_e ?_
           refine blk_miss rfl ?_
           refine thn_e ?_
           refine thn_e ?_
           refine blk_hit ?_
           exact thn_n (qI (true) _ _ ⟨rI, hfr, cE, dE, rfl⟩ h)
          ·refine E_cf cD rfl ?_
           exact E_skip (thn_n (bN (n8) _ _ ⟨rI, hfr, zM, g7, dG, b7, cE, dE, eE, v6, mJ, nJ, rfl, b1001, rfl⟩ h))
         ·rintro q8 qV eX ⟨dC, hfr, oB, pA, gE, iE, eD, gD, iD, jD, kD, lD, uA, z9, tG⟩ h
          refine E_joinC h (fun (s : Unit) e w => ∃ (g : Gh) , Fr gI wI g w ∧ e 3 = p5 ∧ OB 2003 g w 25 (y4 : BoxLoom) p5 ∧ e 4 = j1 ∧ RV g.m w (z4.1 : List BoxPick) j1 ∧ e 21 = .int .i64 (o0.1) ∧ e 22 = .int .i64 (o0.2) ∧ e 23 = i7 ∧ OB 2023 g w 25 (m8 : BoxLoom) i7 ∧ e 24 = .bool (q8) ∧ e 25 = .int .i64 (z3) ∧ e 27 = g8 ∧ OB 2027 g w 25 (i5.2.1 : BoxLoom) g8) (fun X1018 uH cN h => ?_) ?_
          ·obtain ⟨i8, hx, h⟩ := bsome h
           refine E_join (fun e w => ∃ (g : Gh) , Fr gI wI g w ∧ e 3 = p5 ∧ OB 2003 g w 25 (y4 : BoxLoom) p5 ∧ e 4 = j1 ∧ RV g.m w (z4.1 : List BoxPick) j1 ∧ e 21 = .int .i64 (o0.1) ∧ e 22 = .int .i64 (o0.2) ∧ e 23 = i7 ∧ OB 2023 g w 25 (m8 : BoxLoom) i7 ∧ e 24 = .bool (q8) ∧ e 25 = .int .i64 (z3) ∧ e 27 = g8 ∧ OB 2027 g w 25 (i5.2.1 : BoxLoom) g8 ∧ e 178 = .bool (i8)) (fun Q' hQ => ?_) (fun rV gX hR => ?_)
           ·replace h := hx
            clear hx
            refine E_region (EL_mv tG rfl ?_)
            refine EL_in (.bool ((i5.2.2.2.2 != (0 : Int)))) rfl rfl rfl rfl ?_
            refine EL_mw (.bool ((i5.2.2.2.2 != (0 : Int)))) rfl rfl ?_
            rcases csome h with ⟨c7, h⟩ | ⟨c7, h⟩
            ·refine EL_s rfl rfl c7 rfl rfl ?_
             iterate 6 refine EL_s rfl rfl c7 rfl rfl ?_
             refine EL_p (.bool true) (P_pick (b := (i5.2.2.2.2 != (0 : Int))) rfl (pick_t c7 rfl)) rfl ?_
             refine EL_nil ?_
             obtain rfl := sinj h
             exact hQ _ _ ⟨dC, hfr, oB, pA, gE, iE, eD, gD, iD, jD, kD, lD, uA, z9, rfl⟩
            ·refine EL_y (fPtr g8 2) (P_fieldAddr at_25_2 uA (OB.ptr z9)) rfl rfl c7 rfl ?_
             refine EL_do (.yes2 rfl rfl c7) rfl (D_loadF (g := dC) part_BoxLoom_2.1 Try.isAgg23 Try.sizeOf23 rfl z9 fun iX pP => ?_)
             refine EL_y (.int .i64 (((i5.2.1).Shuttles).length : Int)) (P_len Try.underlying23 rfl pP) rfl rfl c7 rfl ?_
             refine EL_y (fPtr p5 2) (P_fieldAddr at_25_2 oB (OB.ptr pA)) rfl rfl c7 rfl ?_
             refine EL_do (.yes2 rfl rfl c7) rfl (D_loadF (g := dC) part_BoxLoom_2.1 Try.isAgg23 Try.sizeOf23 rfl pA fun jX sP => ?_)
             refine EL_y (.int .i64 (((y4).Shuttles).length : Int)) (P_len Try.underlying23 rfl sP) rfl rfl c7 rfl ?_
             refine EL_y (.bool (((((i5.2.1).Shuttles).length : Int) != (((y4).Shuttles).length : Int)))) (P_int rfl rfl rfl) rfl rfl c7 rfl ?_
             refine EL_p (.bool (((((i5.2.1).Shuttles).length : Int) != (((y4).Shuttles).length : Int)))) (P_pick (b := (i5.2.2.2.2 != (0 : Int))) rfl (pick_f c7 rfl)) rfl ?_
             refine EL_nil ?_
             obtain rfl := sinj h
             exact hQ _ _ ⟨dC, hfr, oB, pA, gE, iE, eD, gD, iD, jD, kD, lD, uA, z9, rfl⟩
           ·clear hx
            obtain ⟨tP, hfr, oJ, pJ, qJ, rJ, uG, vG, xG, yG, zG, aH, bH, cH, vB⟩ := hR
            rcases csome h with ⟨mD, h⟩ | ⟨mD, h⟩
            ·refine E_cond_true (Eq.trans (show ev _ _ = .bool (i8) from vB) (congrArg Value.bool mD)) ?_
             refine E_seq (E_region (EL_at (.bool false) rfl rfl ?_))
             refine EL_nil (thn_n (E_ret (thn_r ?_)))
             refine blk_r ?_
             refine thn_r ?_
             refine thn_r ?_
             refine blk_r ?_
             refine thn_r ?_
             obtain rfl := sinj h
             exact end1 rfl rfl (show _ = .bool false from rfl) ⟨_, hfr, rfl⟩
            ·refine E_cond_false (Eq.trans (show ev _ _ = .bool (i8) from vB) (congrArg Value.bool mD)) ?_
             exact E_skip (thn_n (cN () _ _ ⟨tP, hfr, oJ, pJ, qJ, rJ, uG, vG, xG, yG, zG, aH, bH, cH⟩ h))
          ·rintro _ sV kX ⟨sI, hfr, tB, o7, sJ, t9, nD, oD, xA, dH, gH, sD, iH, jH⟩ h
           refine E_seq (E_region (EL_do .plain rfl (D_loadO (g := sI) Try.isAgg25 Try.sizeOf25 iH jH fun uP vP => ?_)))
           refine EL_do .plain rfl (D_storeOc (g := sI) (v := uP) Try.sizeOf25 xA dH rfl vP fun xP lX hs b1033 cb => ?_)
           clear cb
           have hfr := hfr.stp hs
           have o7 := o7.stp hs rfl
           have t9 := t9.stp hs
           refine EL_nil (thn_n (E_seq (L_loadO0 (x := .tmp 23) Try.isAgg25 Try.sizeOf25 b1033 fun tI yP dN => ?_)))
           refine L_loadO0 (x := .tmp 3) Try.isAgg25 Try.sizeOf25 o7 fun uI zP eN => ?_
           refine L_loadO0 (x := .tmp 3) Try.isAgg25 Try.sizeOf25 o7 fun vI bQ gN => ?_
           obtain ⟨nA, iN, h⟩ := bsome h
           obtain ⟨yB, jN, h⟩ := bsome h
           refine E_drawL (g := xP) (n := 5) [(3, (fun v g w => RV g.m w nA v)), (4, (fun v g w => v = .bool (yB)))] [0, 1, 2, 3, 4] rfl mixed (by kernel_rfl) (⟨fun _ => up_rv, fun _ => up_eq _, trivial⟩) ?_
           refine L_ld (c := tI) rfl rfl .plain (fun _ _ h => ⟨h.ch, fun b hb _ => h.below.block b hb⟩) dN xA ?_
           refine L_ld (c := uI) rfl rfl .plain (fun _ _ h => ⟨h.ch, fun b hb _ => h.below.block b hb⟩) eN tB ?_
           refine L_ld (c := vI) rfl rfl .plain (fun _ _ h => ⟨h.ch, fun b hb _ => h.below.block b hb⟩) gN tB ?_
           refine L_do (φ := fun v g w => RV g.m w nA v) rfl rfl .plain (fun g w hd => D_call (g := g) (vs := [vI]) en45 (.cons rfl .nil) (wk45 (bQ.ext hd.1) iN) fun g' w' v hs hr => ⟨g', hs, hr⟩) (fun nF hv => ?_)
           obtain ⟨_, _, _, rq1037⟩ := hv
           refine L_do (φ := fun v g w => v = .bool (yB)) rfl rfl .plain (fun g w hd => D_call (g := g) (vs := [tI, uI, nF]) en41 (.cons rfl (.cons rfl (.cons rfl .nil))) (wk41 (yP.ext hd.1) (zP.ext hd.1) (word (A := fun g w => RV g.m w nA nF) 3 rfl rfl (deps_of hd)) jN) fun g' w' v hs hr => ⟨g', hs, hr⟩) (fun mX hv => ?_)
           obtain ⟨_, _, _, rfl⟩ := hv
           refine L_nil fun eC nX hall => ?_
           have hs := hall.1
           have hfr := hfr.ext hs
           have o7 := o7.ext hs
           have t9 := t9.ext hs
           have b1033 := b1033.ext hs
           have oX := (word_all (A := fun g w => RV g.m w nA nF) 3 rfl hall)
           clear hs hall
           refine EL_nil (thn_n ?_)
           rcases csome h with ⟨tD, h⟩ | ⟨tD, h⟩
           ·refine E_ct tD rfl ?_
            obtain ⟨oA, hx, h⟩ := bsome h
            refine E_join (fun e w => ∃ (g : Gh) , Fr gI wI g w ∧ e 2 = .bool (oA)) (fun Q' hQ => ?_) (fun tV pX hR => ?_)
            ·replace h := hx
             clear hx
             refine E_region (EL_mv oD rfl ?_)
             refine EL_in (.bool ((o0.2 == (0 : Int)))) rfl rfl rfl rfl ?_
             refine EL_mw (.bool ((o0.2 == (0 : Int)))) rfl rfl ?_
             rcases csome h with ⟨m7, h⟩ | ⟨m7, h⟩
             ·refine EL_y (.int .i64 (o0.1)) (P_move nD) rfl rfl m7 rfl ?_
              refine EL_y (.int .i64 (z3)) (P_move sD) rfl rfl m7 rfl ?_
              refine EL_y (.bool ((o0.1 == z3))) (P_int rfl rfl rfl) rfl rfl m7 rfl ?_
              refine EL_p (.bool ((o0.1 == z3))) (P_pick (b := (o0.2 == (0 : Int))) rfl (pick_t m7 rfl)) rfl ?_
              refine EL_mw (.bool ((o0.1 == z3))) rfl rfl ?_
              rcases csome h with ⟨jA, h⟩ | ⟨jA, h⟩
              ·obtain ⟨zB, kN, h⟩ := bsome h
               refine EL_do (.yes2 rfl rfl jA) rfl (D_call (g := eC) (vs := []) en14 .nil (wk14  kN) fun cQ uV qX hs hr => ?_)
               have hfr := hfr.ext hs
               subst hr
               refine EL_p (.bool (zB)) (P_pick (b := (o0.1 == z3)) rfl (pick_t jA rfl)) rfl ?_
               refine EL_at (.bool (zB)) rfl rfl ?_
               refine EL_nil ?_
               obtain rfl := sinj h
               exact hQ _ _ ⟨cQ, hfr, rfl⟩
              ·refine EL_s rfl rfl jA rfl rfl ?_
               refine EL_p (.bool false) (P_pick (b := (o0.1 == z3)) rfl (pick_f jA rfl)) rfl ?_
               refine EL_at (.bool false) rfl rfl ?_
               refine EL_nil ?_
               obtain rfl := sinj h
               exact hQ _ _ ⟨eC, hfr, rfl⟩
             ·refine EL_s rfl rfl m7 rfl rfl ?_
              refine EL_s rfl rfl m7 rfl rfl ?_
              refine EL_s rfl rfl m7 rfl rfl ?_
              refine EL_p (.bool false) (P_pick (b := (o0.2 == (0 : Int))) rfl (pick_f m7 rfl)) rfl ?_
              refine EL_dead 3 rfl ?_
              refine EL_at (.bool false) rfl rfl ?_
              refine EL_nil ?_
              obtain rfl := sinj h
              exact hQ _ _ ⟨eC, hfr, rfl⟩
            ·clear hx
             obtain ⟨rX, hfr, tJ⟩ := hR
             refine E_ret (blk_r ?_)
             refine thn_r ?_
             refine thn_r ?_
             refine blk_r ?_
             refine thn_r ?_
             obtain rfl := sinj h
             exact end1 rfl rfl (show _ = .bool (oA) from tJ) ⟨_, hfr, rfl⟩
           ·refine E_cf tD rfl ?_
            exact E_skip (blk_n (thn_n (lP (i5.2.1, q8) _ _ ⟨eC, hfr, tB, o7, sJ, t9, nD, oD, xA, b1033, gH, sD⟩ h)))
        ·rintro ⟨qA, rA⟩ vV sX ⟨dQ, hfr, uJ, vJ, xJ, yJ, kH, lH, mH, nH, oH, pH⟩ h
         refine E_region (EL_mv pH rfl ?_)
         refine EL_in (.int .i64 ((w64 (z3 + (1 : Int))))) rfl rfl rfl rfl ?_
         refine EL_at (.int .i64 ((w64 (z3 + (1 : Int))))) rfl rfl ?_
         exact EL_nil (thn_n (jP (qA, rA, (w64 (z3 + (1 : Int)))) _ _ ⟨dQ, hfr, uJ, vJ, xJ, yJ, kH, lH, mH, nH, oH, rfl⟩ h))
      ·rintro o8 xV tX ⟨iC, hfr, qH, sH, tH⟩ h
       obtain ⟨mA, hx, h⟩ := bsome h
       refine E_join (fun e w => ∃ (g : Gh) , Fr gI wI g w ∧ e 2 = .bool (mA)) (fun Q' hQ => ?_) (fun yV uX hR => ?_)
       ·replace h := hx
        clear hx
        refine E_region (EL_mv tH rfl ?_)
        refine EL_mw (.bool (o8)) rfl rfl ?_
        rcases csome h with ⟨a9, h⟩ | ⟨a9, h⟩
        ·refine EL_y (.int .i64 (o0.2)) (P_move sH) rfl rfl a9 rfl ?_
         refine EL_y (.bool ((o0.2 == (9 : Int)))) (P_int rfl rfl rfl) rfl rfl a9 rfl ?_
         refine EL_p (.bool ((o0.2 == (9 : Int)))) (P_pick (b := o8) rfl (pick_t a9 rfl)) rfl ?_
         refine EL_mw (.bool ((o0.2 == (9 : Int)))) rfl rfl ?_
         rcases csome h with ⟨d9, h⟩ | ⟨d9, h⟩
         ·refine EL_y (.int .i64 (o0.1)) (P_move qH) rfl rfl d9 rfl ?_
          refine EL_y (.bool ((o0.1 == (0 : Int)))) (P_int rfl rfl rfl) rfl rfl d9 rfl ?_
          refine EL_p (.bool ((o0.1 == (0 : Int)))) (P_pick (b := (o0.2 == (9 : Int))) rfl (pick_t d9 rfl)) rfl ?_
          refine EL_mw (.bool ((o0.1 == (0 : Int)))) rfl rfl ?_
          rcases csome h with ⟨lA, h⟩ | ⟨lA, h⟩
          ·obtain ⟨xB, lN, h⟩ := bsome h
           refine EL_do (.yes2 rfl rfl lA) rfl (D_call (g := iC) (vs := []) en14 .nil (wk14  lN) fun eQ zV vX hs hr => ?_)
           have hfr := hfr.ext hs
           subst hr
           refine EL_p (.bool (xB)) (P_pick (b := (o0.1 == (0 : Int))) rfl (pick_t lA rfl)) rfl ?_
           refine EL_at (.bool (xB)) rfl rfl ?_
           refine EL_nil ?_
           obtain rfl := sinj h
           exact hQ _ _ ⟨eQ, hfr, rfl⟩
          ·refine EL_s rfl rfl lA rfl rfl ?_
           refine EL_p (.bool false) (P_pick (b := (o0.1 == (0 : Int))) rfl (pick_f lA rfl)) rfl ?_
           refine EL_at (.bool false) rfl rfl ?_
           refine EL_nil ?_
           obtain rfl := sinj h
           exact hQ _ _ ⟨iC, hfr, rfl⟩
         ·refine EL_s rfl rfl d9 rfl rfl ?_
          refine EL_s rfl rfl d9 rfl rfl ?_
          refine EL_p (.bool false) (P_pick (b := (o0.2 == (9 : Int))) rfl (pick_f d9 rfl)) rfl ?_
          refine EL_dead 3 rfl ?_
          refine EL_at (.bool false) rfl rfl ?_
          refine EL_nil ?_
          obtain rfl := sinj h
          exact hQ _ _ ⟨iC, hfr, rfl⟩
        ·refine EL_s rfl rfl a9 rfl rfl ?_
         refine EL_s rfl rfl a9 rfl rfl ?_
         refine EL_p (.bool false) (P_pick (b := o8) rfl (pick_f a9 rfl)) rfl ?_
         refine EL_dead 7 rfl ?_
         refine EL_at (.bool false) rfl rfl ?_
         refine EL_nil ?_
         obtain rfl := sinj h
         exact hQ _ _ ⟨iC, hfr, rfl⟩
       ·clear hx
        obtain ⟨xX, hfr, zJ⟩ := hR
        refine E_ret ?_
        obtain rfl := sinj h
        exact end1 rfl rfl (show _ = .bool (mA) from zJ) ⟨_, hfr, rfl⟩
end Go.Proofs.Ytmpjooneiaiffaa
