import Derived.Test.YtdkgoipaohacgaaCode3
set_option maxRecDepth 8000
set_option maxHeartbeats 4000000
namespace Go.Proofs.Ytdkgoipaohacgaa
open Go.RowKit
def f85 (x0 : FaultLoom) (x1 : List FaultDamage) : Option (Int) :=
 jn (σ := Unit) (fun _ =>
  jn (σ := Unit) (fun _ =>
   some ((0 : Int))
   ) fun u3 =>
  bif (decide (((x1).length : Int) > (100 : Int))) then
   some ((5 : Int))
  else
   (f138 x1 ((fun a0 => f136 a0 x0))).bind fun i3 =>
   bif i3 then
    some ((2 : Int))
   else
    u3 ()
  ) fun k6 =>
 (f51 x0).bind fun y9 =>
 bif (y9 != (0 : Int)) then
  some (y9)
 else
  k6 ()
theorem en85 : Enters Try.prog 85 := enters_of Try.func85 (by kernel_rfl) rfl
theorem wk85 {gI : Gh} {wI : World} {x0 : FaultLoom} {x1 : List FaultDamage} {up0 : Value} (rp0 : RV gI.m wI x0 up0) {up1 : Value} (rp1 : RV gI.m wI x1 up1) {r : Int} (h : f85 x0 x1 = some r) : Fn Try.prog 85 #[up0, up1] gI wI (fun _ _ v => v = .int .i64 (r)) := by
 unfold f85 at h
 refine fn_of_E Try.func85 rfl (Nat.le_of_ble_eq_true rfl) fun g0 hm hfr => ?_
 have rp0 : RV g0.m wI x0 up0 := hm ▸ rp0
 have rp1 : RV g0.m wI x1 up1 := hm ▸ rp1
 show E _ 21 none _ _ _ _ _
 refine E_seq (E_region (EL_do .plain rfl (D_box (g := g0) rfl rp0 fun g1 w1 p1 hs q1 => ?_)))
 have hfr := hfr.ext hs
 have rp1 := rp1.ext hs
 refine EL_at (.int .i64 (0)) rfl rfl ?_
 refine EL_nil (thn_n (E_joinC h (fun (s : Unit) e w => ∃ (g : Gh) , Fr gI wI g w ∧ e 1 = up1 ∧ RV g.m w (x1 : List FaultDamage) up1 ∧ e 2 = p1 ∧ PT g.m w (x0 : FaultLoom) p1) (fun X6 k6 hk6 h => ?_) ?_))
 ·refine E_seq (E_region (EL_do .plain rfl (D_load (g := g1) Try.isAgg32 Try.sizeOf32 rfl q1 fun v7 r7 => ?_)))
  obtain ⟨y9, i5, h⟩ := bsome h
  refine EL_do .plain rfl (D_call (g := g1) (vs := [v7]) en51 (.cons rfl .nil) (wk51 r7 i5) fun g8 w8_ v8 hs hr => ?_)
  have hfr := hfr.ext hs
  have rp1 := rp1.ext hs
  have q1 := q1.ext hs
  subst hr
  refine EL_at (.int .i64 (y9)) rfl rfl ?_
  refine EL_nil (thn_n (E_seq (E_region (EL_mw (.int .i64 (y9)) rfl rfl ?_))))
  refine EL_in (.bool ((y9 != (0 : Int)))) rfl rfl rfl rfl ?_
  refine EL_nil (thn_n ?_)
  rcases csome h with ⟨o0, h⟩ | ⟨o0, h⟩
  ·refine E_ct o0 rfl ?_
   refine E_seq (E_region (EL_mw (.int .i64 (y9)) rfl rfl ?_))
   refine EL_at (.int .i64 (y9)) rfl rfl ?_
   refine EL_nil (thn_n (E_ret (thn_r ?_)))
   obtain rfl := sinj h
   exact end1 rfl rfl (show _ = .int .i64 (y9) from rfl) ⟨_, hfr, rfl⟩
  ·refine E_cf o0 rfl ?_
   exact E_skip (thn_n (hk6 () _ _ ⟨g8, hfr, rfl, rp1, rfl, q1⟩ h))
 ·rintro _ t5 j6 ⟨l5, hfr, z2, d3, j3, o3⟩ h
  refine E_seq (E_region (EL_p ((.func (.func 136) #[] #[p1])) (P_makeFunc (capf_0_1 (show ev _ _ = p1 from j3))) rfl ?_))
  refine EL_at ((.func (.func 136) #[] #[p1])) rfl rfl ?_
  refine EL_nil (thn_n (E_joinC h (fun (s : Unit) e w => ∃ (g : Gh) , Fr gI wI g w) (fun X16 u3 z3 h => ?_) ?_))
  ·refine E_block ?_
   refine E_seq (E_region (EL_mv z2 rfl ?_))
   refine EL_p (.int .i64 ((x1).length : Int)) (P_len Try.underlying47 rfl d3) rfl ?_
   refine EL_in (.bool ((decide (((x1).length : Int) > (100 : Int))))) rfl rfl rfl rfl ?_
   refine EL_at (.bool ((decide (((x1).length : Int) > (100 : Int))))) rfl rfl ?_
   refine EL_nil (thn_n ?_)
   rcases csome h with ⟨u0, h⟩ | ⟨u0, h⟩
   ·refine E_ct u0 rfl ?_
    refine E_seq (E_region (EL_at (.int .i64 (5)) rfl rfl ?_))
    refine EL_nil (thn_n (E_ret (blk_r ?_)))
    refine thn_r ?_
    obtain rfl := sinj h
    exact end1 rfl rfl (show _ = .int .i64 (5) from rfl) ⟨_, hfr, rfl⟩
   ·refine E_cf u0 rfl ?_
    refine E_seq (E_region (EL_mv z2 rfl ?_))
    refine EL_mw ((.func (.func 136) #[] #[p1])) rfl rfl ?_
    obtain ⟨i3, z4, h⟩ := bsome h
    refine EL_do .plain rfl (D_call (g := l5) (vs := [up1, (.func (.func 136) #[] #[p1])]) en138 (.cons rfl (.cons rfl .nil)) (wk138 d3 ⟨136, #[], #[p1], rfl, en136, fun g' w' hch a0 b0 r hu0 hr => by exact Fn.mono (wk136 hu0 (o3.ch hch) hr) fun _ _ _ h => RV_bool.2 h⟩ z4) fun q5 x5 v6 hs hr => ?_)
    have hfr := hfr.ext hs
    subst hr
    refine EL_at (.bool (i3)) rfl rfl ?_
    refine EL_nil (thn_n ?_)
    rcases csome h with ⟨j1, h⟩ | ⟨j1, h⟩
    ·refine E_ct j1 rfl ?_
     refine E_seq (E_region (EL_at (.int .i64 (2)) rfl rfl ?_))
     refine EL_nil (thn_n (E_ret (blk_r ?_)))
     refine thn_r ?_
     obtain rfl := sinj h
     exact end1 rfl rfl (show _ = .int .i64 (2) from rfl) ⟨_, hfr, rfl⟩
    ·refine E_cf j1 rfl ?_
     exact E_skip (blk_n (thn_n (z3 () _ _ ⟨q5, hfr⟩ h)))
  ·rintro _ i6 x6 ⟨y6, hfr⟩ h
   refine E_seq (E_region (EL_at (.int .i64 (0)) rfl rfl ?_))
   refine EL_nil (thn_n (E_ret ?_))
   obtain rfl := sinj h
   exact end1 rfl rfl (show _ = .int .i64 (0) from rfl) ⟨_, hfr, rfl⟩
def f87 (x0 : List FaultDamage) (x1 : FaultDamage → FaultDamage → Option Int) : Option ((List FaultDamage)) :=
 (f139 x0 (((x0).length : Int)) x1).bind fun y2 =>
 some (y2)
theorem en87 : Enters Try.prog 87 := enters_of Try.func87 (by kernel_rfl) rfl
theorem wk87 {iI : Nat} {gI : Gh} {wI : World} {x0 : List FaultDamage} {x1 : FaultDamage → FaultDamage → Option Int} {up0 : Value} (mp0 : OM iI gI wI 37 x0 up0) {up1 : Value} (rp1 : FnV2 Try.prog x1 up1 gI wI) {r : (List FaultDamage)} (h : f87 x0 x1 = some r) : FnM Try.prog 87 #[up0, up1] iI gI wI (fun g w v => v = .tuple #[] ∧ OM iI g w 37 r up0) := by
 unfold f87 at h
 refine fnM_of_E Try.func87 rfl (Nat.le_of_ble_eq_true rfl) fun g0 hm hfr => ?_
 have o0 := mp0
 replace mp0 := mp0.enter
 rw [← hm] at mp0
 replace hm : g0.m = gI.m := by rw [hm]
 obtain ⟨ff1, fa1, fc1, rfl, fen1, fcl1⟩ := rp1
 show E _ 9 none _ _ _ _ _
 refine E_region (EL_mw up0 rfl rfl ?_)
 refine EL_mw up0 rfl rfl ?_
 refine EL_p (.int .i64 ((x0).length : Int)) (P_lenM Try.underlying47 rfl mp0) rfl ?_
 refine EL_mw ((.func (.func ff1) fa1 fc1)) rfl rfl ?_
 obtain ⟨y2, hy2, h⟩ := bsome h
 refine EL_do .plain rfl (D_callM (g := g0) (i := 1) (vs := [up0, .int .i64 ((x0).length : Int), (.func (.func ff1) fa1 fc1)]) en139 (.cons rfl (.cons rfl (.cons rfl .nil))) (wk139 mp0 (FnV2.ch ⟨_, _, _, rfl, fen1, fcl1⟩ hfr.ch) hy2) fun g1 w1_ v1 hs hr => ?_)
 obtain ⟨hrv, b1⟩ := hr
 have hfr := hfr.stp hs
 subst hrv
 refine EL_nil ?_
 obtain rfl := sinj h
 exact end0n rfl rfl ⟨_, hfr, rfl, o0.back b1⟩
def f110 (x0 : List SeamPart) (x1 : List SeamPart) : Option (SeamPair × Int) :=
 jn (σ := SeamPair) (fun i3 =>
  (f153 x0).bind fun i6 =>
  (f153 x1).bind fun j6 =>
  jn (σ := SeamPair) (fun j3 =>
   Option.bind (α := SeamPair) (
    lp (σ := SeamPair × Int) (fun n9 (u3, o0) =>
     bif (decide (o0 < (((j3).a).length : Int))) then
      Option.bind (α := SeamPair) (
       (idx ((j3).a) o0).bind fun o9 =>
       (idx ((u3).b) o0).bind fun t9 =>
       (f154 o9 t9).bind fun z2 =>
       (apnd 16 ((u3).more) (([z2] : List Span))).bind fun i8 =>
       some ({ u3 with more := i8 })
       ) fun z3 =>
      n9 (z3, (w64 (o0 + (1 : Int))))
     else
      some (u3)
     ) big (j3, (0 : Int))
    ) fun v6 =>
   some (v6, (0 : Int))
   ) fun xB =>
  bif (((({ { i3 with a := i6 } with b := j6 }).a).length : Int) != ((({ { i3 with a := i6 } with b := j6 }).b).length : Int)) then
   some ({ { i3 with a := i6 } with b := j6 }, (4 : Int))
  else
   xB ({ { i3 with a := i6 } with b := j6 })
  ) fun yB =>
 lp (σ := SeamPair × Int) (fun zB (l5, d3) =>
  bif (decide (d3 < (2 : Int))) then
   jn (σ := SeamPair) (fun m7 =>
    zB (m7, (w64 (d3 + (1 : Int))))
    ) fun aC =>
   (idx ((⟨List.toArray [x0, x1], rfl⟩ : Vector (List SeamPart) 2)).toList d3).bind fun cC =>
   (f152 cC).bind fun x6 =>
   bif (x6 != (0 : Int)) then
    some (l5, x6)
   else
    aC (l5)
  else
   yB (l5)
  ) big ((⟨[], [], []⟩ : SeamPair), (0 : Int))
theorem en110 : Enters Try.prog 110 := enters_of Try.func110 (by kernel_rfl) rfl
theorem wk110 {gI : Gh} {wI : World} {x0 : List SeamPart} {x1 : List SeamPart} {up0 : Value} (rp0 : RV gI.m wI x0 up0) {up1 : Value} (rp1 : RV gI.m wI x1 up1) {r : SeamPair × Int} (h : f110 x0 x1 = some r) : Fn Try.prog 110 #[up0, up1] gI wI (fun m w v => ∃ y0 y1, v = .tuple #[y0, y1] ∧ RV m w (r.1) y0 ∧ y1 = .int .i64 (r.2)) := by
 unfold f110 at h
 refine fn_of_E Try.func110 rfl (Nat.le_of_ble_eq_true rfl) fun g0 hm hfr => ?_
 have rp0 : RV g0.m wI x0 up0 := hm ▸ rp0
 have rp1 : RV g0.m wI x1 up1 := hm ▸ rp1
 show E _ 60 none _ _ _ _ _
 refine E_seq (E_region (EL_do .plain rfl (D_allocOc (g := g0) 2004 (⟨[], [], []⟩ : SeamPair) Try.zeroValue209 (fun m w => ⟨_, (rep_two rep_nil (rep_two rep_nil rep_nil)), rfl⟩) fun g1 w1 p1 hs b1 cb => ?_)))
 have hfr := hfr.stp hs
 have rp0 := rp0.stp hs
 have rp1 := rp1.stp hs
 have kC : OSF 2004 60400 0 g1 w1 137 209 ([] : List Span) p1 := cb.osf (by rfl)
 have lC : OSF 2004 60401 1 g1 w1 137 209 ([] : List Span) p1 := cb.osf (by rfl)
 have mC : OSF 2004 60402 2 g1 w1 137 209 ([] : List Span) p1 := cb.osf (by rfl)
 clear cb
 refine EL_at (.int .i64 (0)) rfl rfl ?_
 refine EL_nil (thn_n (E_joinC h (fun (s : SeamPair) e w => ∃ (g : Gh) , Fr gI wI g w ∧ e 0 = up0 ∧ RV g.m w (x0 : List SeamPart) up0 ∧ e 1 = up1 ∧ RV g.m w (x1 : List SeamPart) up1 ∧ e 4 = p1 ∧ OB 2004 g w 209 (s : SeamPair) p1 ∧ OSF 2004 60400 0 g w 137 209 ((s).a) p1 ∧ OSF 2004 60401 1 g w 137 209 ((s).b) p1 ∧ OSF 2004 60402 2 g w 137 209 ((s).more) p1) (fun X24 yB qC h => ?_) ?_))
 ·refine E_seq (E_region (EL_mw up0 rfl rfl ?_))
  refine EL_mw up1 rfl rfl ?_
  have dC : RV g1.m _ (⟨List.toArray [x0, x1], rfl⟩ : Vector (List SeamPart) 2) (.agg (setCh [[.slice none 0 0], [.slice none 0 0]] [(0, up0), (1, up1)]).flatten.toArray) := RV_build rfl (rep_vec (flat_chunk (RV.cells rp0) (flat_chunk (RV.cells rp1) flat_nil)) rfl)
  generalize rC : (Value.agg (setCh [[.slice none 0 0], [.slice none 0 0]] [(0, up0), (1, up1)]).flatten.toArray) = v7 at dC
  refine EL_p v7 (rC ▸ P_buildA (vs := [(0, up0), (1, up1)]) [[.slice none 0 0], [.slice none 0 0]] Try.underlying262 layA_262 szA_141 rfl (by simp) (.cons rfl (.cons rfl .nil)) ⟨⟨_, rfl, cells_size rp0⟩, ⟨⟨_, rfl, cells_size rp1⟩, trivial⟩⟩) rfl ?_
  refine EL_mw (.int .i64 (0)) rfl rfl ?_
  refine EL_nil (thn_n (E_block ?_))
  refine E_lp h (fun (s : SeamPair × Int) e w => ∃ (g : Gh) , Fr gI wI g w ∧ e 0 = up0 ∧ RV g.m w (x0 : List SeamPart) up0 ∧ e 1 = up1 ∧ RV g.m w (x1 : List SeamPart) up1 ∧ e 4 = p1 ∧ OB 2004 g w 209 (s.1 : SeamPair) p1 ∧ OSF 2004 60400 0 g w 137 209 ((s.1).a) p1 ∧ OSF 2004 60401 1 g w 137 209 ((s.1).b) p1 ∧ OSF 2004 60402 2 g w 137 209 ((s.1).more) p1 ∧ e 13 = v7 ∧ RV g.m w ((⟨List.toArray [x0, x1], rfl⟩ : Vector (List SeamPart) 2) : Vector (List SeamPart) 2) v7 ∧ e 14 = .int .i64 (s.2)) ⟨g1, hfr, rfl, rp0, rfl, rp1, rfl, b1, kC, lC, mC, rfl, dC, rfl⟩ (fun X26 zB tC => ?_)
  rintro ⟨l5, d3⟩ sE xF ⟨eC, hfr, t8, b7, v8, c7, y6, q5, u4_0_27, u4_1_27, u4_2_27, c8, z4, d7⟩ h
  refine E_seq (E_region (EL_in (.bool ((decide (d3 < (2 : Int))))) d7 rfl rfl rfl ?_))
  refine EL_nil (thn_n (E_seq ?_))
  rcases csome h with ⟨k8, h⟩ | ⟨k8, h⟩
  ·refine E_ct k8 rfl ?_
   refine E_skip (thn_n (E_joinC h (fun (s : SeamPair) e w => ∃ (g : Gh) , Fr gI wI g w ∧ e 0 = up0 ∧ RV g.m w (x0 : List SeamPart) up0 ∧ e 1 = up1 ∧ RV g.m w (x1 : List SeamPart) up1 ∧ e 4 = p1 ∧ OB 2004 g w 209 (s : SeamPair) p1 ∧ OSF 2004 60400 0 g w 137 209 ((s).a) p1 ∧ OSF 2004 60401 1 g w 137 209 ((s).b) p1 ∧ OSF 2004 60402 2 g w 137 209 ((s).more) p1 ∧ e 13 = v7 ∧ RV g.m w ((⟨List.toArray [x0, x1], rfl⟩ : Vector (List SeamPart) 2) : Vector (List SeamPart) 2) v7 ∧ e 14 = .int .i64 (d3)) (fun X37 aC uC h => ?_) ?_))
   ·refine E_block ?_
    refine E_seq (E_region ?_)
    obtain ⟨cC, u9, h⟩ := bsome h
    have iC := RV_idxA z4 u9
    generalize vC : partV _ _ _ _ = x8 at iC
    refine EL_p x8 (vC ▸ P_indexA Try.underlying262 Try.isAgg141 Try.sizeOf141 c8 z4 d7 u9) rfl ?_
    refine EL_at x8 rfl rfl ?_
    refine EL_nil (thn_n (E_seq (E_region (EL_mw x8 rfl rfl ?_))))
    obtain ⟨x6, xC, h⟩ := bsome h
    refine EL_do .plain rfl (D_call (g := eC) (vs := [x8]) en152 (.cons rfl .nil) (wk152 iC xC) fun y9 tE yF hs hr => ?_)
    have hfr := hfr.ext hs
    have b7 := b7.ext hs
    have c7 := c7.ext hs
    have u4_0_27 := u4_0_27.ext hs
    have u4_1_27 := u4_1_27.ext hs
    have u4_2_27 := u4_2_27.ext hs
    have q5 := q5.ext hs
    have z4 := z4.ext hs
    subst hr
    refine EL_at (.int .i64 (x6)) rfl rfl ?_
    refine EL_nil (thn_n (E_seq (E_region (EL_mw (.int .i64 (x6)) rfl rfl ?_))))
    refine EL_in (.bool ((x6 != (0 : Int)))) rfl rfl rfl rfl ?_
    refine EL_nil (thn_n ?_)
    rcases csome h with ⟨l8, h⟩ | ⟨l8, h⟩
    ·refine E_ct l8 rfl ?_
     refine E_seq (E_region (EL_do .plain rfl (D_loadO (g := y9) Try.isAgg209 Try.sizeOf209 y6 q5 fun aE bE => ?_)))
     refine EL_mw (.int .i64 (x6)) rfl rfl ?_
     refine EL_do .plain rfl (D_storeOc (g := y9) (v := aE) Try.sizeOf209 y6 q5 rfl bE fun zF aG hs b44 cb => ?_)
     clear cb
     have hfr := hfr.stp hs
     refine EL_at (.int .i64 (x6)) rfl rfl ?_
     refine EL_nil (thn_n (E_ret (blk_r ?_)))
     refine thn_r ?_
     refine thn_r ?_
     refine blk_r ?_
     refine thn_r ?_
     obtain rfl := sinj h
     obtain ⟨ad45, cv45, hp45, yC, cr45⟩ := ob_read Try.isAgg209 Try.sizeOf209 b44
     exact endm_ct rfl rfl ((show _ = p1 from y6).trans hp45) yC (show _ = .int .i64 (x6) from rfl) ⟨_, hfr, _, _, rfl, cr45, rfl⟩
    ·refine E_cf l8 rfl ?_
     exact E_skip (blk_n (thn_n (uC (l5) _ _ ⟨y9, hfr, t8, b7, v8, c7, y6, q5, u4_0_27, u4_1_27, u4_2_27, c8, z4, d7⟩ h)))
   ·rintro m7 uE bG ⟨cE, hfr, xA, yA, zA, aB, bB, cB, u4_0_46, u4_1_46, u4_2_46, z9, bA, gA⟩ h
    refine E_region (EL_in (.int .i64 ((w64 (d3 + (1 : Int))))) gA rfl rfl rfl ?_)
    refine EL_mw (.int .i64 ((w64 (d3 + (1 : Int))))) rfl rfl ?_
    exact EL_nil (thn_n (tC (m7, (w64 (d3 + (1 : Int)))) _ _ ⟨cE, hfr, xA, yA, zA, aB, bB, cB, u4_0_46, u4_1_46, u4_2_46, z9, bA, rfl⟩ h))
  ·refine E_cf k8 rfl ?_
   refine E_exit ?_
   refine thn_e ?_
   refine thn_e ?_
   refine blk_hit ?_
   exact thn_n (qC (l5) _ _ ⟨eC, hfr, t8, b7, v8, c7, y6, q5, u4_0_27, u4_1_27, u4_2_27⟩ h)
 ·rintro i3 vE cG ⟨dE, hfr, dB, eB, iB, n7, o3, t5, u4_0_47, u4_1_47, u4_2_47⟩ h
  refine E_seq (E_region (EL_mv dB rfl ?_))
  obtain ⟨i6, aD, h⟩ := bsome h
  refine EL_do .plain rfl (D_call (g := dE) (vs := [up0]) en153 (.cons rfl .nil) (wk153 eB aD) fun eE xE dG hs hr => ?_)
  have hfr := hfr.ext hs
  have n7 := n7.ext hs
  have u4_1_47 := u4_1_47.ext hs
  have u4_2_47 := u4_2_47.ext hs
  have t5 := t5.ext hs
  have iA := hr
  refine EL_mv iB rfl ?_
  obtain ⟨j6, bD, h⟩ := bsome h
  refine EL_do .plain rfl (D_call (g := eE) (vs := [up1]) en153 (.cons rfl .nil) (wk153 n7 bD) fun gE yE eG hs hr => ?_)
  have hfr := hfr.ext hs
  have u4_1_47 := u4_1_47.ext hs
  have u4_2_47 := u4_2_47.ext hs
  have t5 := t5.ext hs
  have iA := iA.ext hs
  have jA := hr
  refine EL_p (fPtr p1 0) (P_fieldAddr at_209_0 o3 (OB.ptr t5)) rfl ?_
  refine EL_do .plain rfl (D_storeFc (g := gE) part_SeamPair_0 Try.sizeOf207 rfl t5 rfl iA fun iE gG hs b53 rst hos => ?_)
  have u4_1_47 := u4_1_47.rest hs rst
  have u4_2_47 := u4_2_47.rest hs rst
  clear rst hos
  have hfr := hfr.stp hs
  have jA := jA.stp hs
  refine EL_p (fPtr p1 1) (P_fieldAddr at_209_1 o3 (OB.ptr b53)) rfl ?_
  refine EL_do .plain rfl (D_storeFc (g := iE) part_SeamPair_1 Try.sizeOf207 rfl b53 rfl jA fun e8 hG hs b55 rst hos => ?_)
  have u4_2_47 := u4_2_47.rest hs rst
  clear rst hos
  have hfr := hfr.stp hs
  refine EL_nil (thn_n (E_joinC h (fun (s : SeamPair) e w => ∃ (g : Gh) , Fr gI wI g w ∧ e 4 = p1 ∧ OB 2004 g w 209 (s : SeamPair) p1 ∧ OSF 2004 60402 2 g w 137 209 ((s).more) p1) (fun X65 xB cD h => ?_) ?_))
  ·refine E_seq (E_region (EL_p (fPtr p1 0) (P_fieldAddr at_209_0 o3 (OB.ptr b55)) rfl ?_))
   refine EL_do .plain rfl (D_loadF (g := e8) part_SeamPair_0.1 Try.isAgg207 Try.sizeOf207 rfl b55 fun iG jE => ?_)
   refine EL_p (.int .i64 ((({ { i3 with a := i6 } with b := j6 }).a).length : Int)) (P_len Try.underlying207 rfl jE) rfl ?_
   refine EL_p (fPtr p1 1) (P_fieldAddr at_209_1 o3 (OB.ptr b55)) rfl ?_
   refine EL_do .plain rfl (D_loadF (g := e8) part_SeamPair_1.1 Try.isAgg207 Try.sizeOf207 rfl b55 fun jG kE => ?_)
   refine EL_p (.int .i64 ((({ { i3 with a := i6 } with b := j6 }).b).length : Int)) (P_len Try.underlying207 rfl kE) rfl ?_
   refine EL_in (.bool ((((({ { i3 with a := i6 } with b := j6 }).a).length : Int) != ((({ { i3 with a := i6 } with b := j6 }).b).length : Int)))) rfl rfl rfl rfl ?_
   refine EL_nil (thn_n ?_)
   rcases csome h with ⟨m8, h⟩ | ⟨m8, h⟩
   ·refine E_ct m8 rfl ?_
    refine E_seq (E_region (EL_do .plain rfl (D_loadO (g := e8) Try.isAgg209 Try.sizeOf209 o3 b55 fun lE mE => ?_)))
    refine EL_do .plain rfl (D_storeOc (g := e8) (v := lE) Try.sizeOf209 o3 b55 rfl mE fun kG lG hs b72 cb => ?_)
    clear cb
    have hfr := hfr.stp hs
    refine EL_at (.int .i64 (4)) rfl rfl ?_
    refine EL_nil (thn_n (E_ret (thn_r ?_)))
    obtain rfl := sinj h
    obtain ⟨ad73, cv73, hp73, eD, cr73⟩ := ob_read Try.isAgg209 Try.sizeOf209 b72
    exact endm_ct rfl rfl ((show _ = p1 from o3).trans hp73) eD (show _ = .int .i64 (4) from rfl) ⟨_, hfr, _, _, rfl, cr73, rfl⟩
   ·refine E_cf m8 rfl ?_
    exact E_skip (thn_n (cD ({ { i3 with a := i6 } with b := j6 }) _ _ ⟨e8, hfr, o3, b55, u4_2_47⟩ h))
  ·rintro j3 zE mG ⟨jC, hfr, y8, o7, u4_2_74⟩ h
   obtain ⟨v6, hx, h⟩ := bsome h
   refine E_join (fun e w => ∃ (g : Gh) , Fr gI wI g w ∧ e 4 = p1 ∧ OB 2004 g w 209 (v6 : SeamPair) p1 ∧ OSF 2004 60402 2 g w 137 209 ((v6).more) p1) (fun Q' hQ => ?_) (fun nE cF hR => ?_)
   ·replace h := hx
    clear hx
    refine E_seq (E_region (EL_p (fPtr p1 0) (P_fieldAddr at_209_0 y8 (OB.ptr o7)) rfl ?_))
    refine EL_do .plain rfl (D_loadF (g := jC) part_SeamPair_0.1 Try.isAgg207 Try.sizeOf207 rfl o7 fun e7 kA => ?_)
    refine EL_p (.int .i64 (((j3).a).length : Int)) (P_len Try.underlying207 rfl kA) rfl ?_
    refine EL_mw (.int .i64 (0)) rfl rfl ?_
    refine EL_nil (thn_n (E_block ?_))
    refine E_lp h (fun (s : SeamPair × Int) e w => ∃ (g : Gh) , Fr gI wI g w ∧ e 4 = p1 ∧ OB 2004 g w 209 (s.1 : SeamPair) p1 ∧ OSF 2004 60402 2 g w 137 209 ((s.1).more) p1 ∧ e 39 = e7 ∧ RV g.m w ((j3).a : List Span) e7 ∧ e 40 = .int .i64 ((((j3).a).length : Int)) ∧ e 41 = .int .i64 (s.2)) ⟨jC, hfr, y8, o7, u4_2_74, rfl, kA, rfl, rfl⟩ (fun X165 n9 jB => ?_)
    rintro ⟨u3, o0⟩ oE dF ⟨n8, hfr, i5, j1, u4_2_166, i7, u0, j7, x5⟩ h
    refine E_seq (E_region (EL_p (.bool ((decide (o0 < (((j3).a).length : Int))))) (P_int x5 j7 rfl) rfl ?_))
    refine EL_nil (thn_n (E_seq ?_))
    rcases csome h with ⟨u7, h⟩ | ⟨u7, h⟩
    ·refine E_ct u7 rfl ?_
     refine E_skip (thn_n ?_)
     obtain ⟨z3, hx, h⟩ := bsome h
     refine E_join (fun e w => ∃ (g : Gh) , Fr gI wI g w ∧ e 4 = p1 ∧ OB 2004 g w 209 (z3 : SeamPair) p1 ∧ OSF 2004 60402 2 g w 137 209 ((z3).more) p1 ∧ e 39 = e7 ∧ RV g.m w ((j3).a : List Span) e7 ∧ e 40 = .int .i64 ((((j3).a).length : Int)) ∧ e 41 = .int .i64 (o0)) (fun Q' hQ => ?_) (fun rE eF hR => ?_)
     ·replace h := hx
      clear hx
      refine E_block ?_
      refine E_seq (E_region (EL_mv x5 rfl ?_))
      obtain ⟨o9, a9, h⟩ := bsome h
      refine EL_p (ePtr e7 o0 2) (P_indexAddr (α := Span) Try.underlying207 Try.sizeOf137 i7 u0 x5 a9) rfl ?_
      have gD := PT_idx u0 a9
      refine EL_do .plain rfl (D_load (g := n8) Try.isAgg137 Try.sizeOf137 rfl gD fun iD o8 => ?_)
      refine EL_do .plain rfl (D_allocOc (g := n8) 2010 (⟨0, 0⟩ : Span) Try.zeroValue137 (fun m w => ⟨_, (rep_two rep_int rep_int), rfl⟩) fun jD iF nF hs b212 cb => ?_)
      have hfr := hfr.stp hs
      have u4_2_166 := u4_2_166.stp hs rfl
      have j1 := j1.stp hs rfl
      have u0 := u0.stp hs
      have o8 := o8.stp hs
      clear cb
      refine EL_at (.int .i64 (o0)) rfl rfl ?_
      refine EL_do .plain rfl (D_storeOc (g := jD) (v := iD) Try.sizeOf137 rfl b212 rfl o8 fun kD oF hs b213 cb => ?_)
      clear cb
      have hfr := hfr.stp hs
      have u4_2_166 := u4_2_166.stp hs rfl
      have j1 := j1.stp hs rfl
      have u0 := u0.stp hs
      refine EL_nil (thn_n (L_loadFS (x := .tmp 46) part_SeamPair_2.1 Try.isAgg207 Try.sizeOf207 j1 u4_2_166 fun lD q8 o215 kB => ?_))
      refine L_loadO0 (x := .tmp 10) Try.isAgg137 Try.sizeOf137 b213 fun lA mD lB => ?_
      refine L_loadO (x := .tmp 49) part_SeamPair_1.1 Try.isAgg207 Try.sizeOf207 j1 fun mA nA mB => ?_
      obtain ⟨t9, d9, h⟩ := bsome h
      have nD := PT_idx nA d9
      refine L_load (x := .tmp 52) Try.isAgg137 Try.sizeOf137 nD fun oA oD nB => ?_
      obtain ⟨z2, oB, h⟩ := bsome h
      refine E_drawL (g := kD) (n := 10) [(8, (fun v g w => RV g.m w z2 v)), (9, (fun v g w => RV g.m w ([z2] : List Span) v ∧ OS 3055 g w 137 ([z2] : List Span) v ∧ FullV v))] [0, 1, 2, 3, 4, 5, 6, 7, 8, 9] rfl mixed (by kernel_rfl) (⟨fun _ => up_rv, fun _ => up_and up_rv (up_and up_os (up_eq _)), trivial⟩) ?_
      refine L_p (fPtr p1 2) rfl rfl (P_fieldAddr at_209_2 i5 (OB.ptr j1)) ?_
      refine L_ld (c := lD) rfl rfl .plain (fun _ _ h => ⟨h.ch, fun b hb _ => h.below.block b hb⟩) kB rfl ?_
      refine L_ld (c := lA) rfl rfl .plain (fun _ _ h => ⟨h.ch, fun b hb _ => h.below.block b hb⟩) lB rfl ?_
      refine L_p (fPtr p1 1) rfl rfl (P_fieldAddr at_209_1 i5 (OB.ptr j1)) ?_
      refine L_ld (c := mA) rfl rfl .plain (fun _ _ h => ⟨h.ch, fun b hb _ => h.below.block b hb⟩) mB rfl ?_
      refine L_p (.int .i64 (o0)) rfl rfl (P_move rfl) ?_
      refine L_p (ePtr mA o0 2) rfl rfl (P_indexAddr (α := Span) Try.underlying207 Try.sizeOf137 rfl nA rfl d9) ?_
      refine L_ld (c := oA) rfl rfl .plain (fun _ _ h => h.ch) nB rfl ?_
      refine L_do (φ := fun v g w => RV g.m w z2 v) rfl rfl .plain (fun g w hd => D_call (g := g) (vs := [lA, oA]) en154 (.cons rfl (.cons rfl .nil)) (wk154 (mD.ext hd.1) (oD.ext hd.1) oB) fun g' w' v hs hr => ⟨g', hs, hr⟩) (fun r8 hv => ?_)
      obtain ⟨_, _, _, rq222⟩ := hv
      refine L_do (φ := fun v g w => RV g.m w ([z2] : List Span) v ∧ OS 3055 g w 137 ([z2] : List Span) v ∧ FullV v) rfl rfl .plain (fun g w hd => D_buildSlice (g := g) 3055 (xs := ([z2] : List Span)) (vs := [r8]) Try.underlying207 Try.sizeOf137 Try.zeroValue137 rfl rfl (.cons rfl .nil) (RVs.cons (word (A := fun g w => RV g.m w z2 r8) 8 rfl rfl (deps_of hd)) RVs.nil) rfl rfl fun g' w' v hs o r hxt hfl => ⟨g', hxt, r, o, hfl⟩) (fun a7 hv => ?_)
      clear hv
      refine L_nil fun sD pF hall => ?_
      have hs := hall.1
      have hfr := hfr.ext hs
      have j1 := j1.ext hs
      have u0 := u0.ext hs
      have q8 := q8.ext hs
      have o215 := o215.ext hs
      have qF := (word_all (A := fun g w => RV g.m w z2 r8) 8 rfl hall)
      have tD := (word_all (A := fun g w => RV g.m w ([z2] : List Span) a7 ∧ OS 3055 g w 137 ([z2] : List Span) a7 ∧ FullV a7) 9 rfl hall).1
      have o245 := (word_all (A := fun g w => RV g.m w ([z2] : List Span) a7 ∧ OS 3055 g w 137 ([z2] : List Span) a7 ∧ FullV a7) 9 rfl hall).2.1
      clear hs hall
      obtain ⟨i8, tB, h⟩ := bsome h
      refine EL_do .plain rfl (D_append (g := sD) (i := 60402) Try.underlying207 info_137 rfl rfl o215 q8 rfl tD tB fun uD rF sF hs o246 pA _ => ?_)
      have hfr := hfr.stp hs
      have j1 := j1.stp hs rfl
      have u0 := u0.stp hs
      refine EL_p (fPtr p1 2) (P_fieldAddr at_209_2 i5 (OB.ptr j1)) rfl ?_
      refine EL_do .plain rfl (D_storeFc (g := uD) part_SeamPair_2 Try.sizeOf207 rfl j1 rfl pA fun vD tF hs b249 rst hos => ?_)
      have qA := hos _ _ 60402 137 (i8 : List Span) (rv_cells1 pA) rfl o246
      clear rst hos
      have hfr := hfr.stp hs
      have u0 := u0.stp hs
      refine EL_nil (blk_n ?_)
      obtain rfl := sinj h
      exact hQ _ _ ⟨vD, hfr, i5, b249, qA, i7, u0, j7, x5⟩
     ·clear hx
      obtain ⟨xD, hfr, rA, sA, u4_2_250, e9, i9, k9, l9⟩ := hR
      refine E_region (EL_in (.int .i64 ((w64 (o0 + (1 : Int))))) l9 rfl rfl rfl ?_)
      refine EL_mw (.int .i64 ((w64 (o0 + (1 : Int))))) rfl rfl ?_
      exact EL_nil (thn_n (jB (z3, (w64 (o0 + (1 : Int)))) _ _ ⟨xD, hfr, rA, sA, u4_2_250, e9, i9, k9, rfl⟩ h))
    ·refine E_cf u7 rfl ?_
     refine E_exit ?_
     refine thn_e ?_
     refine thn_e ?_
     refine blk_hit ?_
     obtain rfl := sinj h
     exact hQ _ _ ⟨n8, hfr, i5, j1, u4_2_166⟩
   ·clear hx
    obtain ⟨uA, hfr, g7, g8, u4_2_251⟩ := hR
    refine E_seq (E_region (EL_do .plain rfl (D_loadO (g := uA) Try.isAgg209 Try.sizeOf209 g7 g8 fun yD zD => ?_)))
    refine EL_do .plain rfl (D_storeOc (g := uA) (v := yD) Try.sizeOf209 g7 g8 rfl zD fun uF vF hs b253 cb => ?_)
    clear cb
    have hfr := hfr.stp hs
    refine EL_at (.int .i64 (0)) rfl rfl ?_
    refine EL_nil (thn_n (E_ret ?_))
    obtain rfl := sinj h
    obtain ⟨ad254, cv254, hp254, vB, cr254⟩ := ob_read Try.isAgg209 Try.sizeOf209 b253
    exact endm_ct rfl rfl ((show _ = p1 from g7).trans hp254) vB (show _ = .int .i64 (0) from rfl) ⟨_, hfr, _, _, rfl, cr254, rfl⟩
def f114 (x0 : List SeamPart) (x1 : List SeamPart) (x2 : List Int) : Option (SeamPair × (List Span) × Int) :=
 jn (σ := SeamPair) (fun o3 =>
  jn (σ := SeamPair) (fun n8 =>
   jn (σ := SeamPair) (fun z4 =>
    (f158 z4 x2).bind fun u3 =>
    jn (σ := SeamPair × (List Span)) (fun (o7, u7) =>
     some (o7, u7, (0 : Int))
     ) fun e9 =>
    bif (!u3.2) then
     some (z4, [], (9 : Int))
    else
     e9 (z4, u3.1)
    ) fun i9 =>
   lp (σ := SeamPair × Int) (fun l9 (z2, o0) =>
    bif (decide (o0 < ((x2).length : Int))) then
     jn (σ := SeamPair) (fun x6 =>
      l9 (x6, (w64 (o0 + (1 : Int))))
      ) fun n9 =>
     Option.bind (α := Bool) (
      bif (decide (o0 > (0 : Int))) then
       (idx x2 o0).bind fun y6 =>
       (idx x2 (w64 (o0 - (1 : Int)))).bind fun a7 =>
       some ((decide (y6 ≤ a7)))
      else
       some (false)
      ) fun i3 =>
     bif i3 then
      some (z2, [], (6 : Int))
     else
      n9 (z2)
    else
     i9 (z2)
    ) big (n8, (0 : Int))
   ) fun jB =>
  (f107 ((1 : Int)) ((((o3).more).length : Int)) x2).bind fun o9 =>
  bif (!o9) then
   some (o3, [], (2 : Int))
  else
   jB (o3)
  ) fun k9 =>
 (f110 x0 x1).bind fun y11 =>
 bif (y11.2 != (0 : Int)) then
  some (y11.1, [], y11.2)
 else
  k9 (y11.1)
theorem en114 : Enters Try.prog 114 := enters_of Try.func114 (by kernel_rfl) rfl
theorem wk114 {gI : Gh} {wI : World} {x0 : List SeamPart} {x1 : List SeamPart} {x2 : List Int} {up0 : Value} (rp0 : RV gI.m wI x0 up0) {up1 : Value} (rp1 : RV gI.m wI x1 up1) {up2 : Value} (rp2 : RV gI.m wI x2 up2) {r : SeamPair × (List Span) × Int} (h : f114 x0 x1 x2 = some r) : Fn Try.prog 114 #[up0, up1, up2] gI wI (fun m w v => ∃ y0 y1 y2, v = .tuple #[y0, y1, y2] ∧ RV m w (r.1) y0 ∧ RV m w (r.2.1) y1 ∧ y2 = .int .i64 (r.2.2)) := by
 unfold f114 at h
 refine fn_of_E Try.func114 rfl (Nat.le_of_ble_eq_true rfl) fun g0 hm hfr => ?_
 have rp0 : RV g0.m wI x0 up0 := hm ▸ rp0
 have rp1 : RV g0.m wI x1 up1 := hm ▸ rp1
 have rp2 : RV g0.m wI x2 up2 := hm ▸ rp2
 show E _ 60 none _ _ _ _ _
 refine E_seq (E_region (EL_do .plain rfl (D_allocOc (g := g0) 2006 (⟨[], [], []⟩ : SeamPair) Try.zeroValue209 (fun m w => ⟨_, (rep_two rep_nil (rep_two rep_nil rep_nil)), rfl⟩) fun g1 w1 p1 hs b1 cb => ?_)))
 have hfr := hfr.stp hs
 have rp0 := rp0.stp hs
 have rp1 := rp1.stp hs
 have rp2 := rp2.stp hs
 have oD : OSF 2006 60600 0 g1 w1 137 209 ([] : List Span) p1 := cb.osf (by rfl)
 have sD : OSF 2006 60601 1 g1 w1 137 209 ([] : List Span) p1 := cb.osf (by rfl)
 have tD : OSF 2006 60602 2 g1 w1 137 209 ([] : List Span) p1 := cb.osf (by rfl)
 clear cb
 refine EL_at (.slice none 0 0) rfl rfl ?_
 refine EL_at (.int .i64 (0)) rfl rfl ?_
 refine EL_nil (thn_n (E_joinC h (fun (s : SeamPair) e w => ∃ (g : Gh) , Fr gI wI g w ∧ e 2 = up2 ∧ RV g.m w (x2 : List Int) up2 ∧ e 6 = p1 ∧ OB 2006 g w 209 (s : SeamPair) p1) (fun X9 k9 tC h => ?_) ?_))
 ·refine E_seq (E_region (EL_mw up0 rfl rfl ?_))
  refine EL_mw up1 rfl rfl ?_
  obtain ⟨y11, lB, h⟩ := bsome h
  refine EL_do .plain rfl (D_call (g := g1) (vs := [up0, up1]) en110 (.cons rfl (.cons rfl .nil)) (wk110 rp0 rp1 lB) fun uC uD tE hs hr => ?_)
  have hfr := hfr.ext hs
  have rp2 := rp2.ext hs
  have b1 := b1.ext hs
  obtain ⟨i7, gD, rfl, qA, rfl⟩ := hr
  refine EL_mw (.tuple #[i7, .int .i64 (y11.2)]) rfl rfl ?_
  refine EL_p i7 (P_extract rfl rfl) rfl ?_
  refine EL_p (.int .i64 (y11.2)) (P_extract rfl rfl) rfl ?_
  refine EL_do .plain rfl (D_storeOc (g := uC) (v := i7) Try.sizeOf209 rfl b1 rfl qA fun t9 uE hs b12 cb => ?_)
  clear cb
  have hfr := hfr.stp hs
  have rp2 := rp2.stp hs
  refine EL_at (.int .i64 (y11.2)) rfl rfl ?_
  refine EL_nil (thn_n (E_seq (E_region (EL_mw (.int .i64 (y11.2)) rfl rfl ?_))))
  refine EL_in (.bool ((y11.2 != (0 : Int)))) rfl rfl rfl rfl ?_
  refine EL_nil (thn_n ?_)
  rcases csome h with ⟨g8, h⟩ | ⟨g8, h⟩
  ·refine E_ct g8 rfl ?_
   refine E_seq (E_region (EL_do .plain rfl (D_loadO (g := t9) Try.isAgg209 Try.sizeOf209 rfl b12 fun vC xC => ?_)))
   refine EL_mw (.int .i64 (y11.2)) rfl rfl ?_
   refine EL_do .plain rfl (D_storeOc (g := t9) (v := vC) Try.sizeOf209 rfl b12 rfl xC fun vE w15 hs b15 cb => ?_)
   clear cb
   have hfr := hfr.stp hs
   refine EL_at (.slice none 0 0) rfl rfl ?_
   refine EL_at (.int .i64 (y11.2)) rfl rfl ?_
   refine EL_nil (thn_n (E_ret (thn_r ?_)))
   obtain rfl := sinj h
   obtain ⟨ad16, cv16, hp16, mB, cr16⟩ := ob_read Try.isAgg209 Try.sizeOf209 b15
   exact endm_ctt rfl rfl ((show _ = p1 from rfl).trans hp16) mB (show _ = .slice none 0 0 from rfl) (show _ = .int .i64 (y11.2) from rfl) ⟨_, hfr, _, _, _, rfl, cr16, RV_nil, rfl⟩
  ·refine E_cf g8 rfl ?_
   exact E_skip (thn_n (tC (y11.1) _ _ ⟨t9, hfr, rfl, rp2, rfl, b12⟩ h))
 ·rintro o3 vD xE ⟨kB, hfr, o8, v6, t5, z3⟩ h
  refine E_joinC h (fun (s : SeamPair) e w => ∃ (g : Gh) , Fr gI wI g w ∧ e 2 = up2 ∧ RV g.m w (x2 : List Int) up2 ∧ e 6 = p1 ∧ OB 2006 g w 209 (s : SeamPair) p1) (fun X26 jB nB h => ?_) ?_
  ·refine E_seq (E_region (EL_p (fPtr p1 2) (P_fieldAddr at_209_2 t5 (OB.ptr z3)) rfl ?_))
   refine EL_do .plain rfl (D_loadF (g := kB) part_SeamPair_2.1 Try.isAgg207 Try.sizeOf207 rfl z3 fun yE yC => ?_)
   refine EL_p (.int .i64 (((o3).more).length : Int)) (P_len Try.underlying207 rfl yC) rfl ?_
   refine EL_mv o8 rfl ?_
   obtain ⟨o9, oB, h⟩ := bsome h
   refine EL_do .plain rfl (D_call (g := kB) (vs := [.int .i64 (1), .int .i64 (((o3).more).length : Int), up2]) en107 (.cons rfl (.cons rfl (.cons rfl .nil))) (wk107 v6 oB) fun u9 xD zE hs hr => ?_)
   have hfr := hfr.ext hs
   have v6 := v6.ext hs
   have z3 := z3.ext hs
   subst hr
   refine EL_p (.bool (!o9)) (P_not rfl) rfl ?_
   refine EL_nil (thn_n ?_)
   rcases csome h with ⟨i8, h⟩ | ⟨i8, h⟩
   ·refine E_ct i8 rfl ?_
    refine E_seq (E_region (EL_do .plain rfl (D_loadO (g := u9) Try.isAgg209 Try.sizeOf209 t5 z3 fun aD bD => ?_)))
    refine EL_do .plain rfl (D_storeOc (g := u9) (v := aD) Try.sizeOf209 t5 z3 rfl bD fun cF dF hs b33 cb => ?_)
    clear cb
    have hfr := hfr.stp hs
    refine EL_at (.slice none 0 0) rfl rfl ?_
    refine EL_at (.int .i64 (2)) rfl rfl ?_
    refine EL_nil (thn_n (E_ret (thn_r ?_)))
    obtain rfl := sinj h
    obtain ⟨ad34, cv34, hp34, tB, cr34⟩ := ob_read Try.isAgg209 Try.sizeOf209 b33
    exact endm_ctt rfl rfl ((show _ = p1 from t5).trans hp34) tB (show _ = .slice none 0 0 from rfl) (show _ = .int .i64 (2) from rfl) ⟨_, hfr, _, _, _, rfl, cr34, RV_nil, rfl⟩
   ·refine E_cf i8 rfl ?_
    exact E_skip (thn_n (nB (o3) _ _ ⟨u9, hfr, o8, v6, t5, z3⟩ h))
  ·rintro n8 yD eF ⟨cD, hfr, q8, r8, rA, sA⟩ h
   refine E_joinC h (fun (s : SeamPair) e w => ∃ (g : Gh) , Fr gI wI g w ∧ e 2 = up2 ∧ RV g.m w (x2 : List Int) up2 ∧ e 6 = p1 ∧ OB 2006 g w 209 (s : SeamPair) p1) (fun X256 i9 uA h => ?_) ?_
   ·refine E_seq (E_region (EL_mv q8 rfl ?_))
    refine EL_p (.int .i64 ((x2).length : Int)) (P_len Try.underlying26 rfl r8) rfl ?_
    refine EL_mw (.int .i64 (0)) rfl rfl ?_
    refine EL_nil (thn_n (E_block ?_))
    refine E_lp h (fun (s : SeamPair × Int) e w => ∃ (g : Gh) , Fr gI wI g w ∧ e 2 = up2 ∧ RV g.m w (x2 : List Int) up2 ∧ e 6 = p1 ∧ OB 2006 g w 209 (s.1 : SeamPair) p1 ∧ e 29 = .int .i64 (((x2).length : Int)) ∧ e 30 = .int .i64 (s.2)) ⟨cD, hfr, q8, r8, rA, sA, rfl, rfl⟩ (fun X257 l9 xA => ?_)
    rintro ⟨z2, o0⟩ iD zD ⟨k8, hfr, i5, j1, b7, d3, j6, q5⟩ h
    refine E_seq (E_region (EL_in (.bool ((decide (o0 < ((x2).length : Int))))) q5 j6 rfl rfl ?_))
    refine EL_nil (thn_n (E_seq ?_))
    rcases csome h with ⟨j7, h⟩ | ⟨j7, h⟩
    ·refine E_ct j7 rfl ?_
     refine E_skip (thn_n (E_joinC h (fun (s : SeamPair) e w => ∃ (g : Gh) , Fr gI wI g w ∧ e 2 = up2 ∧ RV g.m w (x2 : List Int) up2 ∧ e 6 = p1 ∧ OB 2006 g w 209 (s : SeamPair) p1 ∧ e 29 = .int .i64 (((x2).length : Int)) ∧ e 30 = .int .i64 (o0)) (fun X367 n9 yA h => ?_) ?_))
     ·refine E_block ?_
      refine E_seq (E_region (EL_mv q5 rfl ?_))
      refine EL_at (.int .i64 (o0)) rfl rfl ?_
      refine EL_nil (thn_n ?_)
      obtain ⟨i3, hx, h⟩ := bsome h
      refine E_join (fun e w => ∃ (g : Gh) , Fr gI wI g w ∧ e 2 = up2 ∧ RV g.m w (x2 : List Int) up2 ∧ e 6 = p1 ∧ OB 2006 g w 209 (z2 : SeamPair) p1 ∧ e 29 = .int .i64 (((x2).length : Int)) ∧ e 30 = .int .i64 (o0) ∧ e 46 = .bool (i3)) (fun Q' hQ => ?_) (fun jD aE hR => ?_)
      ·replace h := hx
       clear hx
       rcases csome h with ⟨u0, h⟩ | ⟨u0, h⟩
       ·obtain ⟨y6, t8, h⟩ := bsome h
        have vB := PT_idx j1 t8
        refine L_load (x := .tmp 38) Try.isAgg3 Try.sizeOf3 vB fun bE xB zA => ?_
        obtain rfl := RV_int.1 xB
        obtain ⟨a7, v8, h⟩ := bsome h
        have yB := PT_idx j1 v8
        refine L_load (x := .tmp 43) Try.isAgg3 Try.sizeOf3 yB fun cE zB aB => ?_
        obtain rfl := RV_int.1 zB
        refine E_drawL (g := k8) (n := 14) [] [0, 1, 2, 3, 4, 5, 6, 7, 8, 9, 10, 11, 12, 13] rfl mixed (by kernel_rfl) trivial ?_
        refine L_p (.int .i64 (o0)) rfl rfl (P_move rfl) ?_
        refine L_p (.bool ((decide (o0 > (0 : Int))))) rfl rfl (P_int rfl rfl rfl) ?_
        refine L_p (.bool ((decide (o0 > (0 : Int))))) rfl rfl (P_move rfl) ?_
        refine L_y up2 rfl rfl rfl rfl u0 (P_move i5) ?_
        refine L_y (.int .i64 (o0)) rfl rfl rfl rfl u0 (P_move rfl) ?_
        refine L_y (ePtr up2 o0 1) rfl rfl rfl rfl u0 (P_indexAddr (α := Int) Try.underlying26 Try.sizeOf3 rfl j1 rfl t8) ?_
        refine L_ld (c := .int .i64 (y6)) rfl rfl (.yes2 rfl rfl u0) (fun _ _ h => h.ch) zA rfl ?_
        refine L_y up2 rfl rfl rfl rfl u0 (P_move i5) ?_
        refine L_y (.int .i64 (o0)) rfl rfl rfl rfl u0 (P_move rfl) ?_
        refine L_y (.int .i64 ((w64 (o0 - (1 : Int))))) rfl rfl rfl rfl u0 (P_int rfl rfl rfl) ?_
        refine L_y (ePtr up2 (w64 (o0 - (1 : Int))) 1) rfl rfl rfl rfl u0 (P_indexAddr (α := Int) Try.underlying26 Try.sizeOf3 rfl j1 rfl v8) ?_
        refine L_ld (c := .int .i64 (a7)) rfl rfl (.yes2 rfl rfl u0) (fun _ _ h => h.ch) aB rfl ?_
        refine L_y (.bool ((decide (y6 ≤ a7)))) rfl rfl rfl rfl u0 (P_int rfl rfl rfl) ?_
        refine L_p (.bool ((decide (y6 ≤ a7)))) rfl rfl (P_pick (b := (decide (o0 > (0 : Int)))) rfl (pick_t u0 rfl)) ?_
        refine L_nl fun aC dE hs => ?_
        have hfr := hfr.ext hs
        have j1 := j1.ext hs
        have d3 := d3.ext hs
        clear hs
        refine EL_nil ?_
        obtain rfl := sinj h
        exact hQ _ _ ⟨aC, hfr, i5, j1, b7, d3, j6, q5, rfl⟩
       ·refine E_drawL (g := k8) (n := 14) [] [0, 1, 2, 3, 4, 5, 6, 7, 8, 9, 10, 11, 12, 13] rfl mixed (by kernel_rfl) trivial ?_
        refine L_p (.int .i64 (o0)) rfl rfl (P_move rfl) ?_
        refine L_p (.bool ((decide (o0 > (0 : Int))))) rfl rfl (P_int rfl rfl rfl) ?_
        refine L_p (.bool ((decide (o0 > (0 : Int))))) rfl rfl (P_move rfl) ?_
        iterate 10 refine L_s rfl rfl rfl u0 rfl ?_
        refine L_p (.bool false) rfl rfl (P_pick (b := (decide (o0 > (0 : Int)))) rfl (pick_f u0 rfl)) ?_
        refine L_nl fun cC eE hs => ?_
        have hfr := hfr.ext hs
        have j1 := j1.ext hs
        have d3 := d3.ext hs
        clear hs
        refine EL_nil ?_
        obtain rfl := sinj h
        exact hQ _ _ ⟨cC, hfr, i5, j1, b7, d3, j6, q5, rfl⟩
      ·clear hx
       obtain ⟨l8, hfr, y9, z9, x5, c7, x8, y8, g7⟩ := hR
       rcases csome h with ⟨m7, h⟩ | ⟨m7, h⟩
       ·refine E_cond_true (Eq.trans (show ev _ _ = .bool (i3) from g7) (congrArg Value.bool m7)) ?_
        refine E_seq (E_region (EL_do .plain rfl (D_loadO (g := l8) Try.isAgg209 Try.sizeOf209 x5 c7 fun dC eC => ?_)))
        refine EL_do .plain rfl (D_storeOc (g := l8) (v := dC) Try.sizeOf209 x5 c7 rfl eC fun gE iE hs b473 cb => ?_)
        clear cb
        have hfr := hfr.stp hs
        refine EL_at (.slice none 0 0) rfl rfl ?_
        refine EL_at (.int .i64 (6)) rfl rfl ?_
        refine EL_nil (thn_n (E_ret (blk_r ?_)))
        refine thn_r ?_
        refine thn_r ?_
        refine blk_r ?_
        refine thn_r ?_
        obtain rfl := sinj h
        obtain ⟨ad474, cv474, hp474, bB, cr474⟩ := ob_read Try.isAgg209 Try.sizeOf209 b473
        exact endm_ctt rfl rfl ((show _ = p1 from x5).trans hp474) bB (show _ = .slice none 0 0 from rfl) (show _ = .int .i64 (6) from rfl) ⟨_, hfr, _, _, _, rfl, cr474, RV_nil, rfl⟩
       ·refine E_cond_false (Eq.trans (show ev _ _ = .bool (i3) from g7) (congrArg Value.bool m7)) ?_
        exact E_skip (blk_n (thn_n (yA (z2) _ _ ⟨l8, hfr, y9, z9, x5, c7, x8, y8⟩ h)))
     ·rintro x6 kD jE ⟨iC, hfr, bA, gA, iA, jA, a9, d9⟩ h
      refine E_region (EL_in (.int .i64 ((w64 (o0 + (1 : Int))))) d9 rfl rfl rfl ?_)
      refine EL_mw (.int .i64 ((w64 (o0 + (1 : Int))))) rfl rfl ?_
      exact EL_nil (thn_n (xA (x6, (w64 (o0 + (1 : Int)))) _ _ ⟨iC, hfr, bA, gA, iA, jA, a9, rfl⟩ h))
    ·refine E_cf j7 rfl ?_
     refine E_exit ?_
     refine thn_e ?_
     refine thn_e ?_
     refine blk_hit ?_
     exact thn_n (uA (z2) _ _ ⟨k8, hfr, i5, j1, b7, d3⟩ h)
   ·rintro z4 lD kE ⟨kA, hfr, lA, mA, l5, j3⟩ h
    refine E_seq (E_region (EL_do .plain rfl (D_loadO (g := kA) Try.isAgg209 Try.sizeOf209 l5 j3 fun jC kC => ?_)))
    refine EL_mv lA rfl ?_
    obtain ⟨u3, cB, h⟩ := bsome h
    refine EL_do .plain rfl (D_call (g := kA) (vs := [jC, up2]) en158 (.cons rfl (.cons rfl .nil)) (wk158 kC mA cB) fun m8 mD lE hs hr => ?_)
    have hfr := hfr.ext hs
    have j3 := j3.ext hs
    obtain ⟨i6, eD, rfl, nA, rfl⟩ := hr
    refine EL_mw (.tuple #[i6, .bool (u3.2)]) rfl rfl ?_
    refine EL_p i6 (P_extract rfl rfl) rfl ?_
    refine EL_p (.bool (u3.2)) (P_extract rfl rfl) rfl ?_
    refine EL_at i6 rfl rfl ?_
    refine EL_at (.bool (u3.2)) rfl rfl ?_
    refine EL_nil (thn_n (E_joinC h (fun (s : SeamPair × (List Span)) e w => ∃ (g : Gh) (v7 : Value), Fr gI wI g w ∧ e 6 = p1 ∧ OB 2006 g w 209 (s.1 : SeamPair) p1 ∧ e 7 = v7 ∧ RV g.m w (s.2 : List Span) v7) (fun X484 e9 dB h => ?_) ?_))
    ·refine E_seq (E_region (EL_mw (.bool (u3.2)) rfl rfl ?_))
     refine EL_p (.bool (!u3.2)) (P_not rfl) rfl ?_
     refine EL_nil (thn_n ?_)
     rcases csome h with ⟨n7, h⟩ | ⟨n7, h⟩
     ·refine E_ct n7 rfl ?_
      refine E_seq (E_region (EL_do .plain rfl (D_loadO (g := m8) Try.isAgg209 Try.sizeOf209 l5 j3 fun lC mC => ?_)))
      refine EL_do .plain rfl (D_storeOc (g := m8) (v := lC) Try.sizeOf209 l5 j3 rfl mC fun mE nE hs b487 cb => ?_)
      clear cb
      have hfr := hfr.stp hs
      refine EL_at (.slice none 0 0) rfl rfl ?_
      refine EL_at (.int .i64 (9)) rfl rfl ?_
      refine EL_nil (thn_n (E_ret (thn_r ?_)))
      obtain rfl := sinj h
      obtain ⟨ad488, cv488, hp488, eB, cr488⟩ := ob_read Try.isAgg209 Try.sizeOf209 b487
      exact endm_ctt rfl rfl ((show _ = p1 from l5).trans hp488) eB (show _ = .slice none 0 0 from rfl) (show _ = .int .i64 (9) from rfl) ⟨_, hfr, _, _, _, rfl, cr488, RV_nil, rfl⟩
     ·refine E_cf n7 rfl ?_
      exact E_skip (thn_n (dB (z4, u3.1) _ _ ⟨m8, (i6), hfr, l5, j3, rfl, nA⟩ h))
    ·rintro ⟨o7, u7⟩ nD oE ⟨oA, c8, hfr, d7, e8, pA, e7⟩ h
     refine E_seq (E_region (EL_do .plain rfl (D_loadO (g := oA) Try.isAgg209 Try.sizeOf209 d7 e8 fun qC rC => ?_)))
     refine EL_mv pA rfl ?_
     refine EL_do .plain rfl (D_storeOc (g := oA) (v := qC) Try.sizeOf209 d7 e8 rfl rC fun rE sE hs b491 cb => ?_)
     clear cb
     have hfr := hfr.stp hs
     have e7 := e7.stp hs
     refine EL_at c8 rfl rfl ?_
     refine EL_at (.int .i64 (0)) rfl rfl ?_
     refine EL_nil (thn_n (E_ret ?_))
     obtain rfl := sinj h
     obtain ⟨ad492, cv492, hp492, iB, cr492⟩ := ob_read Try.isAgg209 Try.sizeOf209 b491
     exact endm_ctt rfl rfl ((show _ = p1 from d7).trans hp492) iB (show _ = c8 from rfl) (show _ = .int .i64 (0) from rfl) ⟨_, hfr, _, _, _, rfl, cr492, e7, rfl⟩
def f41 (x0 : FaultLoom) (x1 : List FaultDamage) (x2 : Int) : Option (Int) :=
 jn (σ := Unit) (fun _ =>
  jn (σ := Unit) (fun _ =>
   some ((0 : Int))
   ) fun d3 =>
  (f50 ((1 : Int)) ((120 : Int)) (([x2] : List Int))).bind fun j1 =>
  bif (!j1) then
   some ((3 : Int))
  else
   d3 ()
  ) fun k6 =>
 (f85 x0 x1).bind fun y9 =>
 bif (y9 != (0 : Int)) then
  some (y9)
 else
  k6 ()
theorem en41 : Enters Try.prog 41 := enters_of Try.func41 (by kernel_rfl) rfl
theorem wk41 {gI : Gh} {wI : World} {x0 : FaultLoom} {x1 : List FaultDamage} {x2 : Int} {up0 : Value} (rp0 : RV gI.m wI x0 up0) {up1 : Value} (rp1 : RV gI.m wI x1 up1) {r : Int} (h : f41 x0 x1 x2 = some r) : Fn Try.prog 41 #[up0, up1, .int .i64 (x2)] gI wI (fun _ _ v => v = .int .i64 (r)) := by
 unfold f41 at h
 refine fn_of_E Try.func41 rfl (Nat.le_of_ble_eq_true rfl) fun g0 hm hfr => ?_
 have rp0 : RV g0.m wI x0 up0 := hm ▸ rp0
 have rp1 : RV g0.m wI x1 up1 := hm ▸ rp1
 show E _ 18 none _ _ _ _ _
 refine E_seq (E_region (EL_do .plain rfl (D_box (g := g0) rfl rp0 fun g1 w1 p1 hs q1 => ?_)))
 have hfr := hfr.ext hs
 have rp1 := rp1.ext hs
 refine EL_at (.int .i64 (0)) rfl rfl ?_
 refine EL_nil (thn_n (E_joinC h (fun (s : Unit) e w => ∃ (g : Gh) , Fr gI wI g w ∧ e 2 = .int .i64 (x2)) (fun X6 k6 hk6 h => ?_) ?_))
 ·refine E_seq (E_region (EL_do .plain rfl (D_load (g := g1) Try.isAgg32 Try.sizeOf32 rfl q1 fun v7 r7 => ?_)))
  refine EL_mw up1 rfl rfl ?_
  obtain ⟨y9, o3, h⟩ := bsome h
  refine EL_do .plain rfl (D_call (g := g1) (vs := [v7, up1]) en85 (.cons rfl (.cons rfl .nil)) (wk85 r7 rp1 o3) fun g8 w8_ v8 hs hr => ?_)
  have hfr := hfr.ext hs
  subst hr
  refine EL_at (.int .i64 (y9)) rfl rfl ?_
  refine EL_nil (thn_n (E_seq (E_region (EL_mw (.int .i64 (y9)) rfl rfl ?_))))
  refine EL_in (.bool ((y9 != (0 : Int)))) rfl rfl rfl rfl ?_
  refine EL_nil (thn_n ?_)
  rcases csome h with ⟨o0, h⟩ | ⟨o0, h⟩
  ·refine E_ct o0 rfl ?_
   refine E_seq (E_region (EL_mw (.int .i64 (y9)) rfl rfl ?_))
   refine EL_at (.int .i64 (y9)) rfl rfl ?_
   refine EL_nil (thn_n (E_ret (thn_r ?_)))
   obtain rfl := sinj h
   exact end1 rfl rfl (show _ = .int .i64 (y9) from rfl) ⟨_, hfr, rfl⟩
  ·refine E_cf o0 rfl ?_
   exact E_skip (thn_n (hk6 () _ _ ⟨g8, hfr, rfl⟩ h))
 ·rintro _ q5 i6 ⟨u3, hfr, z2⟩ h
  refine E_joinC h (fun (s : Unit) e w => ∃ (g : Gh) , Fr gI wI g w) (fun X16 d3 i3 h => ?_) ?_
  ·refine E_seq (E_region (EL_mv z2 rfl ?_))
   refine EL_do .plain rfl (D_buildSlice (g := u3) 3015 (xs := ([x2] : List Int)) (vs := [.int .i64 (x2)]) Try.underlying26 Try.sizeOf3 Try.zeroValue3 rfl rfl (.cons rfl .nil) (RVs.cons (RV_int.2 rfl) RVs.nil) rfl rfl fun z3 j6 z4 hs o17 i5 hxt hfl => ?_)
   have hfr := hfr.stp hs
   obtain ⟨j1, j3, h⟩ := bsome h
   refine EL_do .plain rfl (D_call (g := z3) (vs := [.int .i64 (1), .int .i64 (120), z4]) en50 (.cons rfl (.cons rfl (.cons rfl .nil))) (wk50 i5 j3) fun l5 t5 v6 hs hr => ?_)
   have hfr := hfr.ext hs
   subst hr
   refine EL_p (.bool (!j1)) (P_not rfl) rfl ?_
   refine EL_nil (thn_n ?_)
   rcases csome h with ⟨u0, h⟩ | ⟨u0, h⟩
   ·refine E_ct u0 rfl ?_
    refine E_seq (E_region (EL_at (.int .i64 (3)) rfl rfl ?_))
    refine EL_nil (thn_n (E_ret (thn_r ?_)))
    obtain rfl := sinj h
    exact end1 rfl rfl (show _ = .int .i64 (3) from rfl) ⟨_, hfr, rfl⟩
   ·refine E_cf u0 rfl ?_
    exact E_skip (thn_n (i3 () _ _ ⟨l5, hfr⟩ h))
  ·rintro _ x5 x6 ⟨y6, hfr⟩ h
   refine E_seq (E_region (EL_at (.int .i64 (0)) rfl rfl ?_))
   refine EL_nil (thn_n (E_ret ?_))
   obtain rfl := sinj h
   exact end1 rfl rfl (show _ = .int .i64 (0) from rfl) ⟨_, hfr, rfl⟩
theorem v86_0 {iO : Nat} {gI : Gh} {wI : World} {x0 : List FaultDamage} {up0 : Value} (rp0 : RV gI.m wI x0 up0) {r : List FaultDamage} (h : f86 x0 = some r) : FnG Try.prog 86 #[up0] gI wI (fun g w v => OM iO g w 37 r v) := by
 unfold f86 at h
 refine fnG_of_E Try.func86 rfl (Nat.le_of_ble_eq_true rfl) fun g0 hm hfr => ?_
 have rp0 : RV g0.m wI x0 up0 := hm ▸ rp0
 show E _ 8 none _ _ _ _ _
 refine E_seq (E_region (EL_at (.slice none 0 0) rfl rfl (EL_nil (thn_n ?_))))
 refine E_seq (E_seq (E_region (EL_mw up0 rfl rfl ?_)))
 obtain ⟨a, c, hv, hc, hrow⟩ := RV_list rp0
 refine EL_p (.bool a.isNone) (P_slnil Try.underlying47 (show ev _ _ = _ from hv)) rfl (EL_nil (thn_n ?_))
 cases a with
 | none =>
  have hx : x0 = [] := by
   cases x0 with
   | nil => rfl
   | cons y ys => obtain ⟨b, off, hb, _⟩ := hrow (by simp); cases hb
  subst hx
  have hr : r = [] := by unfold apnd at h; split at h <;> simp at h; exact h
  subst hr
  refine E_cond_true rfl (E_seq (E_region ?_))
  refine EL_at (.slice none 0 0) rfl rfl (EL_nil (thn_n ?_))
  obtain ⟨gh, hxh, homh⟩ := OM.handn (i := iO) (t := 37) (α := FaultDamage) hfr; exact E_ret (thn_r (end1 rfl rfl (show _ = .slice none 0 0 from rfl) ⟨gh, hxh, homh⟩))
 | some a =>
  refine E_cond_false rfl (E_skip (thn_n ?_))
  refine E_seq (E_region (EL_do .plain rfl (D_buildSlice (g := g0) 1 (xs := ([] : List FaultDamage)) (vs := []) Try.underlying47 Try.sizeOf37 Try.zeroValue37 rfl rfl .nil RVs.nil rfl rfl fun g1 w1 v1 hs o1 r1 hxt hfl => ?_)))
  have hfr := hfr.stp hs
  have rp0 := rp0.stp hs
  refine EL_mw up0 rfl rfl ?_
  refine EL_do .plain rfl (D_append (g := g1) (i := 1) Try.underlying47 info_37 rfl rfl o1 r1 rfl rp0 h fun g2 w2 v2 hs o2 r2 _ => ?_)
  have hfr := hfr.stp hs
  refine EL_at v2 rfl rfl (EL_nil (thn_n ?_))
  obtain ⟨gh, hxh, homh⟩ := OM.hand (i := iO) plain_FaultDamage hfr o2 r2; exact E_ret (end1 rfl rfl (show _ = v2 from rfl) ⟨gh, hxh, homh⟩)
def f64 (x0 : List SeamPart) (x1 : List SeamPart) (x2 : Int) : Option ((List Int) × Int) :=
 (f110 x0 x1).bind fun y2 =>
 jn (σ := (List Int)) (fun d3 =>
  (mks 8 (0 : Int) ((w64 ((((y2.1).more).length : Int) + (1 : Int))))).bind fun vF =>
  (mks 8 (0 : Int) ((w64 ((((y2.1).more).length : Int) + (1 : Int))))).bind fun xF =>
  Option.bind (α := (List Int) × (List Int)) (
   lp (σ := (List Int) × (List Int) × Int) (fun kH (y6, c7, o0) =>
    jn (σ := Unit) (fun _ =>
     Option.bind (α := (List Int) × (List Int)) (
      jn (σ := Unit) (fun _ =>
       (idx y6 o0).bind fun cL =>
       lp (σ := (List Int) × (List Int) × Int) (fun lH (j3, z4, u0) =>
        jn (σ := Unit) (fun _ =>
         Option.bind (α := (List Int) × (List Int)) (
          jn (σ := Unit) (fun _ =>
           (f113 (y2.1) o0 u0).bind fun o7 =>
           Option.bind (α := Bool) (
            bif o7.2 then
             (f111 (o7.1)).bind fun kB =>
             some ((decide (kB ≤ x2)))
            else
             some (false)
            ) fun m8 =>
           bif m8 then
            (idx j3 u0).bind fun lB =>
            (idx j3 o0).bind fun dL =>
            (idx z4 o0).bind fun eL =>
            some ((List.set j3 (Int.toNat o0) ((w64 (lB + (1 : Int))))), (List.set z4 (Int.toNat o0) u0))
           else
            some (j3, z4)
           ) fun mH =>
          Option.bind (α := Bool) (
           (idx j3 u0).bind fun t5 =>
           bif (decide (t5 < (0 : Int))) then
            some (true)
           else
            (idx j3 o0).bind fun u7 =>
            bif (decide (u7 ≥ (0 : Int))) then
             (idx j3 u0).bind fun y8 =>
             (idx j3 o0).bind fun o9 =>
             some ((decide ((w64 (y8 + (1 : Int))) ≥ o9)))
            else
             some (false)
           ) fun n8 =>
          bif n8 then
           some (j3, z4)
          else
           mH ()
          ) fun (a9, d9) =>
         lH (a9, d9, (w64 (u0 + (1 : Int))))
         ) fun nH =>
        bif (decide (u0 ≤ (((y2.1).more).length : Int))) then
         nH ()
        else
         some (j3, z4)
        ) big ((List.set y6 (Int.toNat o0) ((-1 : Int))), c7, (w64 (o0 + (1 : Int))))
       ) fun oH =>
      (f112 (y2.1) o0).bind fun pH =>
      (f111 pH).bind fun oF =>
      bif (decide (oF ≤ x2)) then
       some (y6, c7)
      else
       oH ()
      ) fun (e9, i9) =>
     kH (e9, i9, (w64 (o0 - (1 : Int))))
     ) fun qH =>
    bif (decide (o0 ≥ (0 : Int))) then
     qH ()
    else
     some (y6, c7)
    ) big (vF, xF, (((y2.1).more).length : Int))
   ) fun (y9, x5) =>
  jn (σ := (List Int)) (fun xD =>
   Option.bind (α := (List Int)) (
    (idx x5 (0 : Int)).bind fun pF =>
    lp (σ := (List Int) × Int) (fun sH (t8, i5) =>
     jn (σ := Unit) (fun _ =>
      Option.bind (α := (List Int)) (
       (apnd 8 t8 (([i5] : List Int))).bind fun tH =>
       some (tH)
       ) fun v8 =>
      (idx x5 i5).bind fun mB =>
      sH (v8, mB)
      ) fun uH =>
     bif (decide (i5 > (0 : Int))) then
      uH ()
     else
      some (t8)
     ) big (xD, pF)
    ) fun t9 =>
   some (t9, (0 : Int))
   ) fun vH =>
  (idx y9 (0 : Int)).bind fun qF =>
  bif (decide (qF < (0 : Int))) then
   some ([], (7 : Int))
  else
   vH (d3)
  ) fun sM =>
 bif (y2.2 != (0 : Int)) then
  some ([], y2.2)
 else
  (f107 ((0 : Int)) ((2000000 : Int)) (([x2] : List Int))).bind fun xH =>
  bif (!xH) then
   some ([], (3 : Int))
  else
   sM ([])
theorem en64 : Enters Try.prog 64 := enters_of Try.func64 (by kernel_rfl) rfl
theorem wk64 {gI : Gh} {wI : World} {x0 : List SeamPart} {x1 : List SeamPart} {x2 : Int} {up0 : Value} (rp0 : RV gI.m wI x0 up0) {up1 : Value} (rp1 : RV gI.m wI x1 up1) {r : (List Int) × Int} (h : f64 x0 x1 x2 = some r) : Fn Try.prog 64 #[up0, up1, .int .i64 (x2)] gI wI (fun m w v => ∃ y0 y1, v = .tuple #[y0, y1] ∧ RV m w (r.1) y0 ∧ y1 = .int .i64 (r.2)) := by
 unfold f64 at h
 refine fn_of_E Try.func64 rfl (Nat.le_of_ble_eq_true rfl) fun g0 hm hfr => ?_
 have rp0 : RV g0.m wI x0 up0 := hm ▸ rp0
 have rp1 : RV g0.m wI x1 up1 := hm ▸ rp1
 show E _ 130 none _ _ _ _ _
 refine E_seq (E_region (EL_at (.slice none 0 0) rfl rfl ?_))
 refine EL_at (.int .i64 (0)) rfl rfl ?_
 refine EL_nil (thn_n (E_seq (E_region (EL_mw up0 rfl rfl ?_))))
 refine EL_mw up1 rfl rfl ?_
 obtain ⟨y2, hy2, h⟩ := bsome h
 refine EL_do .plain rfl (D_call (g := g0) (vs := [up0, up1]) en110 (.cons rfl (.cons rfl .nil)) (wk110 rp0 rp1 hy2) fun g1 w1_ v1 hs hr => ?_)
 have hfr := hfr.ext hs
 obtain ⟨jG, yP, rfl, kG, rfl⟩ := hr
 refine EL_mw (.tuple #[jG, .int .i64 (y2.2)]) rfl rfl ?_
 refine EL_p jG (P_extract rfl rfl) rfl ?_
 refine EL_p (.int .i64 (y2.2)) (P_extract rfl rfl) rfl ?_
 refine EL_do .plain rfl (D_allocOc (g := g1) 2008 (⟨[], [], []⟩ : SeamPair) Try.zeroValue209 (fun m w => ⟨_, (rep_two rep_nil (rep_two rep_nil rep_nil)), rfl⟩) fun g3 w3 p3 hs b3 cb => ?_)
 have hfr := hfr.stp hs
 have kG := kG.stp hs
 have zP : OSF 2008 60800 0 g3 w3 137 209 ([] : List Span) p3 := cb.osf (by rfl)
 have bQ : OSF 2008 60801 1 g3 w3 137 209 ([] : List Span) p3 := cb.osf (by rfl)
 have cQ : OSF 2008 60802 2 g3 w3 137 209 ([] : List Span) p3 := cb.osf (by rfl)
 clear cb
 refine EL_do .plain rfl (D_storeOc (g := g3) (v := jG) Try.sizeOf209 rfl b3 rfl kG fun g4 w4 hs b4 cb => ?_)
 clear cb
 have hfr := hfr.stp hs
 refine EL_at (.int .i64 (y2.2)) rfl rfl ?_
 refine EL_nil (thn_n (E_joinC h (fun (s : (List Int)) e w => ∃ (g : Gh) (v6 : Value), Fr gI wI g w ∧ e 2 = .int .i64 (x2) ∧ e 6 = v6 ∧ RV g.m w (s : List Int) v6 ∧ OS 1006 g w 3 (s : List Int) v6 ∧ e 8 = p3 ∧ OB 2008 g w 209 (y2.1 : SeamPair) p3) (fun X10 sM uM h => ?_) ?_))
 ·refine E_block ?_
  refine E_seq (E_region (EL_mw (.int .i64 (y2.2)) rfl rfl ?_))
  refine EL_in (.bool ((y2.2 != (0 : Int)))) rfl rfl rfl rfl ?_
  refine EL_at (.bool ((y2.2 != (0 : Int)))) rfl rfl ?_
  refine EL_nil (thn_n ?_)
  rcases csome h with ⟨lG, h⟩ | ⟨lG, h⟩
  ·refine E_ct lG rfl ?_
   refine E_seq (E_region (EL_mw (.int .i64 (y2.2)) rfl rfl ?_))
   refine EL_at (.slice none 0 0) rfl rfl ?_
   refine EL_at (.int .i64 (y2.2)) rfl rfl ?_
   refine EL_nil (thn_n (E_ret (blk_r ?_)))
   refine thn_r ?_
   obtain rfl := sinj h
   exact end2 rfl rfl (show _ = .slice none 0 0 from rfl) (show _ = .int .i64 (y2.2) from rfl) ⟨_, hfr, _, _, rfl, RV_nil, rfl⟩
  ·refine E_cf lG rfl ?_
   refine E_seq (E_region (EL_mw (.int .i64 (x2)) rfl rfl ?_))
   refine EL_do .plain rfl (D_buildSlice (g := g4) 3029 (xs := ([x2] : List Int)) (vs := [.int .i64 (x2)]) Try.underlying26 Try.sizeOf3 Try.zeroValue3 rfl rfl (.cons rfl .nil) (RVs.cons (RV_int.2 rfl) RVs.nil) rfl rfl fun cN gQ dN hs o12 eN hxt hfl => ?_)
   have hfr := hfr.stp hs
   have b4 := b4.stp hs rfl
   obtain ⟨xH, vM, h⟩ := bsome h
   refine EL_do .plain rfl (D_call (g := cN) (vs := [.int .i64 (0), .int .i64 (2000000), dN]) en107 (.cons rfl (.cons rfl (.cons rfl .nil))) (wk107 eN vM) fun gN dQ iQ hs hr => ?_)
   have hfr := hfr.ext hs
   have b4 := b4.ext hs
   subst hr
   refine EL_p (.bool (!xH)) (P_not rfl) rfl ?_
   refine EL_at (.bool (!xH)) rfl rfl ?_
   refine EL_nil (thn_n ?_)
   rcases csome h with ⟨mG, h⟩ | ⟨mG, h⟩
   ·refine E_ct mG rfl ?_
    refine E_seq (E_region (EL_at (.slice none 0 0) rfl rfl ?_))
    refine EL_at (.int .i64 (3)) rfl rfl ?_
    refine EL_nil (thn_n (E_ret (blk_r ?_)))
    refine thn_r ?_
    obtain rfl := sinj h
    exact end2 rfl rfl (show _ = .slice none 0 0 from rfl) (show _ = .int .i64 (3) from rfl) ⟨_, hfr, _, _, rfl, RV_nil, rfl⟩
   ·refine E_cf mG rfl ?_
    exact E_skip (blk_n (thn_n (uM ([]) _ _ ⟨gN, (.slice none 0 0), hfr, rfl, rfl, RV_nil, OS.nil, rfl, b4⟩ h)))
 ·rintro d3 eQ jQ ⟨tM, j1, hfr, gL, iL, rF, sF, yH, oA⟩ h
  refine E_seq (E_region (EL_p (fPtr p3 2) (P_fieldAddr at_209_2 yH (OB.ptr oA)) rfl ?_))
  refine EL_do .plain rfl (D_loadF (g := tM) part_SeamPair_2.1 Try.isAgg207 Try.sizeOf207 rfl oA fun kQ iN => ?_)
  refine EL_p (.int .i64 (((y2.1).more).length : Int)) (P_len Try.underlying207 rfl iN) rfl ?_
  refine EL_at (.int .i64 (((y2.1).more).length : Int)) rfl rfl ?_
  refine EL_nil (thn_n (E_seq ?_))
  obtain ⟨vF, xM, h⟩ := bsome h
  obtain ⟨xF, yM, h⟩ := bsome h
  refine E_drawL (g := tM) (n := 8) [(2, (fun v g w => OM 9037 g w 3 vF v)), (5, (fun v g w => OM 9040 g w 3 xF v))] [0, 1, 2, 3, 4, 5, 6, 7] rfl mixed (by kernel_rfl) (⟨fun _ => up_om, fun _ => up_om, trivial⟩) ?_
  refine L_p (.int .i64 (((y2.1).more).length : Int)) rfl rfl (P_move rfl) ?_
  refine L_p (.int .i64 ((w64 ((((y2.1).more).length : Int) + (1 : Int))))) rfl rfl (P_int rfl rfl rfl) ?_
  refine L_do (φ := fun v g w => OM 9037 g w 3 vF v) rfl rfl .plain (fun g w hd => D_makeSliceX (g := g) 9037 (0 : Int) rfl Try.underlying26 info_3 rfl (fun _ _ => rfl) rfl rfl xM fun g' w' v hs b => ⟨g', hs, b⟩) (fun i3 hv => ?_)
  clear hv
  refine L_p (.int .i64 (((y2.1).more).length : Int)) rfl rfl (P_move rfl) ?_
  refine L_p (.int .i64 ((w64 ((((y2.1).more).length : Int) + (1 : Int))))) rfl rfl (P_int rfl rfl rfl) ?_
  refine L_do (φ := fun v g w => OM 9040 g w 3 xF v) rfl rfl .plain (fun g w hd => D_makeSliceX (g := g) 9040 (0 : Int) rfl Try.underlying26 info_3 rfl (fun _ _ => rfl) rfl rfl yM fun g' w' v hs b => ⟨g', hs, b⟩) (fun u3 hv => ?_)
  clear hv
  refine L_p i3 rfl rfl (P_assign rfl) ?_
  refine L_p u3 rfl rfl (P_assign rfl) ?_
  refine L_nil fun jN lQ hall => ?_
  have hs := hall.1
  have hfr := hfr.ext hs
  have rF := rF.ext hs
  have sF := sF.ext hs
  have oA := oA.ext hs
  have b37 := (word_all (A := fun g w => OM 9037 g w 3 vF i3) 2 rfl hall)
  have b38 := (word_all (A := fun g w => OM 9040 g w 3 xF u3) 5 rfl hall)
  clear hs hall
  refine EL_nil (thn_n ?_)
  obtain ⟨⟨y9, x5⟩, hx, h⟩ := bsome h
  refine E_join (fun e w => ∃ (g : Gh) , Fr gI wI g w ∧ e 6 = j1 ∧ RV g.m w (d3 : List Int) j1 ∧ OS 1006 g w 3 (d3 : List Int) j1 ∧ e 10 = i3 ∧ OM 9037 g w 3 (y9 : List Int) i3 ∧ e 11 = u3 ∧ OM 9040 g w 3 (x5 : List Int) u3) (fun Q' hQ => ?_) (fun kN gO hR => ?_)
  ·replace h := hx
   clear hx
   refine E_seq (E_region (EL_mw (.int .i64 (((y2.1).more).length : Int)) rfl rfl ?_))
   refine EL_at (.int .i64 (((y2.1).more).length : Int)) rfl rfl ?_
   refine EL_nil (thn_n (E_block ?_))
   refine E_lp h (fun (s : (List Int) × (List Int) × Int) e w => ∃ (g : Gh) , Fr gI wI g w ∧ e 2 = .int .i64 (x2) ∧ e 6 = j1 ∧ RV g.m w (d3 : List Int) j1 ∧ OS 1006 g w 3 (d3 : List Int) j1 ∧ e 8 = p3 ∧ OB 2008 g w 209 (y2.1 : SeamPair) p3 ∧ e 9 = .int .i64 ((((y2.1).more).length : Int)) ∧ e 10 = i3 ∧ OM 9037 g w 3 (s.1 : List Int) i3 ∧ e 11 = u3 ∧ OM 9040 g w 3 (s.2.1 : List Int) u3 ∧ e 12 = .int .i64 (s.2.2)) ⟨jN, hfr, gL, iL, rF, sF, yH, oA, rfl, rfl, b37, rfl, b38, rfl⟩ (fun X1929 kH eK => ?_)
   rintro ⟨y6, c7, o0⟩ lN iO ⟨zH, hfr, pI, yD, zD, aE, qI, rI, sI, nB, oB, tB, vB, xB⟩ h
   refine E_joinC h (fun (s : Unit) e w => ∃ (g : Gh) , Fr gI wI g w ∧ e 2 = .int .i64 (x2) ∧ e 6 = j1 ∧ RV g.m w (d3 : List Int) j1 ∧ OS 1006 g w 3 (d3 : List Int) j1 ∧ e 8 = p3 ∧ OB 2008 g w 209 (y2.1 : SeamPair) p3 ∧ e 9 = .int .i64 ((((y2.1).more).length : Int)) ∧ e 10 = i3 ∧ OM 9037 g w 3 (y6 : List Int) i3 ∧ e 11 = u3 ∧ OM 9040 g w 3 (c7 : List Int) u3 ∧ e 12 = .int .i64 (o0)) (fun X1932 qH lK h => ?_) ?_
   ·refine E_seq (E_region (EL_mv xB rfl ?_))
    refine EL_in (.bool ((decide (o0 ≥ (0 : Int))))) rfl rfl rfl rfl ?_
    refine EL_nil (thn_n ?_)
    rcases csome h with ⟨yB, h⟩ | ⟨yB, h⟩
    ·refine E_ct yB rfl ?_
     exact E_skip (thn_n (lK () _ _ ⟨zH, hfr, pI, yD, zD, aE, qI, rI, sI, nB, oB, tB, vB, xB⟩ h))
    ·refine E_cf yB rfl ?_
     refine E_exit ?_
     refine thn_e ?_
     refine thn_e ?_
     refine blk_hit ?_
     obtain ⟨rfl, rfl⟩ := pairs2 h
     exact hQ _ _ ⟨zH, hfr, yD, zD, aE, nB, oB, tB, vB⟩
   ·rintro _ mN jO ⟨aI, hfr, qA, bE, v7, c8, rA, d7, cE, zB, e7, aC, g7, z9⟩ h
    obtain ⟨⟨e9, i9⟩, hx, h⟩ := bsome h
    refine E_join (fun e w => ∃ (g : Gh) , Fr gI wI g w ∧ e 2 = .int .i64 (x2) ∧ e 6 = j1 ∧ RV g.m w (d3 : List Int) j1 ∧ OS 1006 g w 3 (d3 : List Int) j1 ∧ e 8 = p3 ∧ OB 2008 g w 209 (y2.1 : SeamPair) p3 ∧ e 9 = .int .i64 ((((y2.1).more).length : Int)) ∧ e 10 = i3 ∧ OM 9037 g w 3 (e9 : List Int) i3 ∧ e 11 = u3 ∧ OM 9040 g w 3 (i9 : List Int) u3 ∧ e 12 = .int .i64 (o0)) (fun Q' hQ => ?_) (fun nN kO hR => ?_)
    ·replace h := hx
     clear hx
     refine E_block ?_
     refine E_joinC h (fun (s : Unit) e w => ∃ (g : Gh) , Fr gI wI g w ∧ e 2 = .int .i64 (x2) ∧ e 6 = j1 ∧ RV g.m w (d3 : List Int) j1 ∧ OS 1006 g w 3 (d3 : List Int) j1 ∧ e 8 = p3 ∧ OB 2008 g w 209 (y2.1 : SeamPair) p3 ∧ e 9 = .int .i64 ((((y2.1).more).length : Int)) ∧ e 10 = i3 ∧ OM 9037 g w 3 (y6 : List Int) i3 ∧ e 11 = u3 ∧ OM 9040 g w 3 (c7 : List Int) u3 ∧ e 12 = .int .i64 (o0)) (fun X2882 oH mK h => ?_) ?_
     ·refine E_seq (E_region (EL_do .plain rfl (D_loadO (g := aI) Try.isAgg209 Try.sizeOf209 rA d7 fun jL kL => ?_)))
      refine EL_mv z9 rfl ?_
      obtain ⟨pH, nK, h⟩ := bsome h
      refine EL_do .plain rfl (D_call (g := aI) (vs := [jL, .int .i64 (o0)]) en112 (.cons rfl (.cons rfl .nil)) (wk112 kL nK) fun lL oN mL hs hr => ?_)
      have hfr := hfr.ext hs
      have v7 := v7.ext hs
      have c8 := c8.ext hs
      have d7 := d7.ext hs
      have e7 := e7.ext hs
      have g7 := g7.ext hs
      have nL := hr
      obtain ⟨oF, oK, h⟩ := bsome h
      refine EL_do .plain rfl (D_call (g := lL) (vs := [mL]) en111 (.cons rfl .nil) (wk111 nL oK) fun bI pN lO hs hr => ?_)
      have hfr := hfr.ext hs
      have v7 := v7.ext hs
      have c8 := c8.ext hs
      have d7 := d7.ext hs
      have e7 := e7.ext hs
      have g7 := g7.ext hs
      subst hr
      refine EL_mv qA rfl ?_
      refine EL_in (.bool ((decide (oF ≤ x2)))) rfl rfl rfl rfl ?_
      refine EL_nil (thn_n ?_)
      rcases csome h with ⟨cC, h⟩ | ⟨cC, h⟩
      ·refine E_ct cC rfl ?_
       refine E_exit ?_
       refine thn_e ?_
       refine blk_hit ?_
       obtain ⟨rfl, rfl⟩ := pairs2 h
       exact hQ _ _ ⟨bI, hfr, qA, bE, v7, c8, rA, d7, cE, zB, e7, aC, g7, z9⟩
      ·refine E_cf cC rfl ?_
       exact E_skip (thn_n (mK () _ _ ⟨bI, hfr, qA, bE, v7, c8, rA, d7, cE, zB, e7, aC, g7, z9⟩ h))
     ·rintro _ qN mO ⟨oL, hfr, tI, uI, sA, uA, vI, xA, xI, dC, eC, nG, bA, gA⟩ h
      refine E_seq (E_region (EL_mv dC rfl ?_))
      refine EL_mv gA rfl ?_
      obtain ⟨cL, yF, h⟩ := bsome h
      refine EL_p (ePtr i3 o0 1) (P_indexAddrM (α := Int) Try.underlying26 Try.sizeOf3 rfl eC rfl yF) rfl ?_
      refine EL_do .plain rfl (D_storeM (g := oL) (α := Int) (a' := ((-1 : Int))) Try.sizeOf3 rfl eC yF rfl (RV_int.2 rfl) fun pL nO hs b2891 => ?_)
      have hfr := hfr.stp hs
      have sA := sA.stp hs
      have uA := uA.stp hs rfl
      have xA := xA.stp hs rfl
      have bA := bA.stp hs rfl
      refine EL_nil (thn_n (E_seq (E_region (EL_mv gA rfl ?_))))
      refine EL_in (.int .i64 ((w64 (o0 + (1 : Int))))) rfl rfl rfl rfl ?_
      refine EL_at (.int .i64 ((w64 (o0 + (1 : Int))))) rfl rfl ?_
      refine EL_nil (thn_n (E_block ?_))
      refine E_lp h (fun (s : (List Int) × (List Int) × Int) e w => ∃ (g : Gh) , Fr gI wI g w ∧ e 2 = .int .i64 (x2) ∧ e 6 = j1 ∧ RV g.m w (d3 : List Int) j1 ∧ OS 1006 g w 3 (d3 : List Int) j1 ∧ e 8 = p3 ∧ OB 2008 g w 209 (y2.1 : SeamPair) p3 ∧ e 9 = .int .i64 ((((y2.1).more).length : Int)) ∧ e 10 = i3 ∧ OM 9037 g w 3 (s.1 : List Int) i3 ∧ e 11 = u3 ∧ OM 9040 g w 3 (s.2.1 : List Int) u3 ∧ e 12 = .int .i64 (o0) ∧ e 13 = .int .i64 (s.2.2)) ⟨pL, hfr, tI, uI, sA, uA, vI, xA, xI, dC, b2891, nG, bA, gA, rfl⟩ (fun X2892 lH pK => ?_)
      rintro ⟨j3, z4, u0⟩ rN oO ⟨cI, hfr, dE, eE, gE, iE, jE, kE, yA, iC, jC, kC, lC, mC, qC⟩ h
      refine E_joinC h (fun (s : Unit) e w => ∃ (g : Gh) , Fr gI wI g w ∧ e 2 = .int .i64 (x2) ∧ e 6 = j1 ∧ RV g.m w (d3 : List Int) j1 ∧ OS 1006 g w 3 (d3 : List Int) j1 ∧ e 8 = p3 ∧ OB 2008 g w 209 (y2.1 : SeamPair) p3 ∧ e 9 = .int .i64 ((((y2.1).more).length : Int)) ∧ e 10 = i3 ∧ OM 9037 g w 3 (j3 : List Int) i3 ∧ e 11 = u3 ∧ OM 9040 g w 3 (z4 : List Int) u3 ∧ e 12 = .int .i64 (o0) ∧ e 13 = .int .i64 (u0)) (fun X2895 nH qK h => ?_) ?_
      ·refine E_seq (E_region (EL_mv qC rfl ?_))
       refine EL_mv yA rfl ?_
       refine EL_p (.bool ((decide (u0 ≤ (((y2.1).more).length : Int))))) (P_int rfl rfl rfl) rfl ?_
       refine EL_nil (thn_n ?_)
       rcases csome h with ⟨rC, h⟩ | ⟨rC, h⟩
       ·refine E_ct rC rfl ?_
        exact E_skip (thn_n (qK () _ _ ⟨cI, hfr, dE, eE, gE, iE, jE, kE, yA, iC, jC, kC, lC, mC, qC⟩ h))
       ·refine E_cf rC rfl ?_
        refine E_exit ?_
        refine thn_e ?_
        refine thn_e ?_
        refine blk_hit ?_
        refine blk_n ?_
        obtain ⟨rfl, rfl⟩ := pairs2 h
        exact hQ _ _ ⟨cI, hfr, dE, eE, gE, iE, jE, kE, yA, iC, jC, kC, lC, mC⟩
      ·rintro _ sN pO ⟨tF, hfr, zA, aB, i6, j6, bB, x6, cB, l5, z2, iA, q5, i7, a7⟩ h
       obtain ⟨⟨a9, d9⟩, hx, h⟩ := bsome h
       refine E_join (fun e w => ∃ (g : Gh) , Fr gI wI g w ∧ e 2 = .int .i64 (x2) ∧ e 6 = j1 ∧ RV g.m w (d3 : List Int) j1 ∧ OS 1006 g w 3 (d3 : List Int) j1 ∧ e 8 = p3 ∧ OB 2008 g w 209 (y2.1 : SeamPair) p3 ∧ e 9 = .int .i64 ((((y2.1).more).length : Int)) ∧ e 10 = i3 ∧ OM 9037 g w 3 (a9 : List Int) i3 ∧ e 11 = u3 ∧ OM 9040 g w 3 (d9 : List Int) u3 ∧ e 12 = .int .i64 (o0) ∧ e 13 = .int .i64 (u0)) (fun Q' hQ => ?_) (fun tN qO hR => ?_)
       ·replace h := hx
        clear hx
        refine E_block ?_
        refine E_joinC h (fun (s : Unit) e w => ∃ (g : Gh) , Fr gI wI g w ∧ e 2 = .int .i64 (x2) ∧ e 6 = j1 ∧ RV g.m w (d3 : List Int) j1 ∧ OS 1006 g w 3 (d3 : List Int) j1 ∧ e 8 = p3 ∧ OB 2008 g w 209 (y2.1 : SeamPair) p3 ∧ e 9 = .int .i64 ((((y2.1).more).length : Int)) ∧ e 10 = i3 ∧ OM 9037 g w 3 (j3 : List Int) i3 ∧ e 11 = u3 ∧ OM 9040 g w 3 (z4 : List Int) u3 ∧ e 12 = .int .i64 (o0) ∧ e 13 = .int .i64 (u0)) (fun X3577 mH sK h => ?_) ?_
        ·obtain ⟨n8, hx, h⟩ := bsome h
         refine E_join (fun e w => ∃ (g : Gh) , Fr gI wI g w ∧ e 2 = .int .i64 (x2) ∧ e 6 = j1 ∧ RV g.m w (d3 : List Int) j1 ∧ OS 1006 g w 3 (d3 : List Int) j1 ∧ e 8 = p3 ∧ OB 2008 g w 209 (y2.1 : SeamPair) p3 ∧ e 9 = .int .i64 ((((y2.1).more).length : Int)) ∧ e 10 = i3 ∧ OM 9037 g w 3 (j3 : List Int) i3 ∧ e 11 = u3 ∧ OM 9040 g w 3 (z4 : List Int) u3 ∧ e 12 = .int .i64 (o0) ∧ e 13 = .int .i64 (u0) ∧ e 85 = .bool (n8)) (fun Q' hQ => ?_) (fun uN rO hR => ?_)
         ·replace h := hx
          clear hx
          obtain ⟨t5, pA, h⟩ := bsome h
          refine L_loadM (x := .tmp 64) Try.isAgg3 Try.sizeOf3 z2 pA fun sO qL tC => ?_
          obtain rfl := RV_int.1 qL
          rcases csome h with ⟨o3, h⟩ | ⟨o3, h⟩
          ·refine E_drawL (g := tF) (n := 24) [] [0, 1, 2, 3, 4, 5, 6, 7, 8, 9, 10, 11, 12, 13, 14, 15, 16, 17, 18, 19, 20, 21, 22, 23] rfl mixed (by kernel_rfl) trivial ?_
           refine L_p i3 rfl rfl (P_move l5) ?_
           refine L_p (.int .i64 (u0)) rfl rfl (P_move a7) ?_
           refine L_p (ePtr i3 u0 1) rfl rfl (P_indexAddrM (α := Int) Try.underlying26 Try.sizeOf3 rfl z2 rfl pA) ?_
           refine L_ld (c := .int .i64 (t5)) rfl rfl .plain (fun _ _ h => ⟨h.ch, fun b hb _ => h.below.block b hb⟩) tC rfl ?_
           refine L_p (.bool ((decide (t5 < (0 : Int))))) rfl rfl (P_int rfl rfl rfl) ?_
           refine L_p (.bool ((decide (t5 < (0 : Int))))) rfl rfl (P_move rfl) ?_
           iterate 6 refine L_s rfl rfl rfl o3 rfl ?_
           refine L_dead (fun _ => rfl) 10 rfl ?_
           refine L_s rfl rfl rfl o3 rfl ?_
           refine L_p (.bool true) rfl rfl (P_pick (b := (decide (t5 < (0 : Int)))) rfl (pick_t o3 rfl)) ?_
           refine L_nl fun rL tO hs => ?_
           have hfr := hfr.ext hs
           have i6 := i6.ext hs
           have j6 := j6.ext hs
           have x6 := x6.ext hs
           have z2 := z2.ext hs
           have q5 := q5.ext hs
           clear hs
           refine EL_nil ?_
           obtain rfl := sinj h
           exact hQ _ _ ⟨rL, hfr, zA, aB, i6, j6, bB, x6, cB, l5, z2, iA, q5, i7, a7, rfl⟩
          ·obtain ⟨u7, uC, h⟩ := bsome h
           refine L_loadM (x := .tmp 70) Try.isAgg3 Try.sizeOf3 z2 uC fun uO tL zF => ?_
           obtain rfl := RV_int.1 tL
           rcases csome h with ⟨z3, h⟩ | ⟨z3, h⟩
           ·obtain ⟨y8, aG, h⟩ := bsome h
            refine L_loadM (x := .tmp 76) Try.isAgg3 Try.sizeOf3 z2 aG fun vO uL tK => ?_
            obtain rfl := RV_int.1 uL
            obtain ⟨o9, bG, h⟩ := bsome h
            refine L_loadM (x := .tmp 81) Try.isAgg3 Try.sizeOf3 z2 bG fun xO vL uK => ?_
            obtain rfl := RV_int.1 vL
            refine E_drawL (g := tF) (n := 24) [] [0, 1, 2, 3, 4, 5, 6, 7, 8, 9, 10, 11, 12, 13, 14, 15, 16, 17, 18, 19, 20, 21, 22, 23] rfl mixed (by kernel_rfl) trivial ?_
            refine L_p i3 rfl rfl (P_move l5) ?_
            refine L_p (.int .i64 (u0)) rfl rfl (P_move a7) ?_
            refine L_p (ePtr i3 u0 1) rfl rfl (P_indexAddrM (α := Int) Try.underlying26 Try.sizeOf3 rfl z2 rfl pA) ?_
            refine L_ld (c := .int .i64 (t5)) rfl rfl .plain (fun _ _ h => ⟨h.ch, fun b hb _ => h.below.block b hb⟩) tC rfl ?_
            refine L_p (.bool ((decide (t5 < (0 : Int))))) rfl rfl (P_int rfl rfl rfl) ?_
            refine L_p (.bool ((decide (t5 < (0 : Int))))) rfl rfl (P_move rfl) ?_
            refine L_y i3 rfl rfl rfl rfl o3 (P_move l5) ?_
            refine L_y (.int .i64 (o0)) rfl rfl rfl rfl o3 (P_move i7) ?_
            refine L_y (ePtr i3 o0 1) rfl rfl rfl rfl o3 (P_indexAddrM (α := Int) Try.underlying26 Try.sizeOf3 rfl z2 rfl uC) ?_
            refine L_ld (c := .int .i64 (u7)) rfl rfl (.yes2 rfl rfl o3) (fun _ _ h => ⟨h.ch, fun b hb _ => h.below.block b hb⟩) zF rfl ?_
            refine L_y (.bool ((decide (u7 ≥ (0 : Int))))) rfl rfl rfl rfl o3 (P_int rfl rfl rfl) ?_
            refine L_y (.bool ((decide (u7 ≥ (0 : Int))))) rfl rfl rfl rfl o3 (P_move rfl) ?_
            refine L_y i3 rfl rfl rfl rfl z3 (P_move l5) ?_
            refine L_y (.int .i64 (u0)) rfl rfl rfl rfl z3 (P_move a7) ?_
            refine L_y (ePtr i3 u0 1) rfl rfl rfl rfl z3 (P_indexAddrM (α := Int) Try.underlying26 Try.sizeOf3 rfl z2 rfl aG) ?_
            refine L_ld (c := .int .i64 (y8)) rfl rfl (.yes2 rfl rfl z3) (fun _ _ h => ⟨h.ch, fun b hb _ => h.below.block b hb⟩) tK rfl ?_
            refine L_y (.int .i64 ((w64 (y8 + (1 : Int))))) rfl rfl rfl rfl z3 (P_int rfl rfl rfl) ?_
            refine L_y i3 rfl rfl rfl rfl z3 (P_move l5) ?_
            refine L_y (.int .i64 (o0)) rfl rfl rfl rfl z3 (P_move i7) ?_
            refine L_y (ePtr i3 o0 1) rfl rfl rfl rfl z3 (P_indexAddrM (α := Int) Try.underlying26 Try.sizeOf3 rfl z2 rfl bG) ?_
            refine L_ld (c := .int .i64 (o9)) rfl rfl (.yes2 rfl rfl z3) (fun _ _ h => ⟨h.ch, fun b hb _ => h.below.block b hb⟩) uK rfl ?_
            refine L_y (.bool ((decide ((w64 (y8 + (1 : Int))) ≥ o9)))) rfl rfl rfl rfl z3 (P_int rfl rfl rfl) ?_
            refine L_y (.bool ((decide ((w64 (y8 + (1 : Int))) ≥ o9)))) rfl rfl rfl rfl o3 (P_pick (b := (decide (u7 ≥ (0 : Int)))) rfl (pick_t z3 rfl)) ?_
            refine L_p (.bool ((decide ((w64 (y8 + (1 : Int))) ≥ o9)))) rfl rfl (P_pick (b := (decide (t5 < (0 : Int)))) rfl (pick_f o3 rfl)) ?_
            refine L_nl fun xL yO hs => ?_
            have hfr := hfr.ext hs
            have i6 := i6.ext hs
            have j6 := j6.ext hs
            have x6 := x6.ext hs
            have z2 := z2.ext hs
            have q5 := q5.ext hs
            clear hs
            refine EL_nil ?_
            obtain rfl := sinj h
            exact hQ _ _ ⟨xL, hfr, zA, aB, i6, j6, bB, x6, cB, l5, z2, iA, q5, i7, a7, rfl⟩
           ·refine E_drawL (g := tF) (n := 24) [] [0, 1, 2, 3, 4, 5, 6, 7, 8, 9, 10, 11, 12, 13, 14, 15, 16, 17, 18, 19, 20, 21, 22, 23] rfl mixed (by kernel_rfl) trivial ?_
            refine L_p i3 rfl rfl (P_move l5) ?_
            refine L_p (.int .i64 (u0)) rfl rfl (P_move a7) ?_
            refine L_p (ePtr i3 u0 1) rfl rfl (P_indexAddrM (α := Int) Try.underlying26 Try.sizeOf3 rfl z2 rfl pA) ?_
            refine L_ld (c := .int .i64 (t5)) rfl rfl .plain (fun _ _ h => ⟨h.ch, fun b hb _ => h.below.block b hb⟩) tC rfl ?_
            refine L_p (.bool ((decide (t5 < (0 : Int))))) rfl rfl (P_int rfl rfl rfl) ?_
            refine L_p (.bool ((decide (t5 < (0 : Int))))) rfl rfl (P_move rfl) ?_
            refine L_y i3 rfl rfl rfl rfl o3 (P_move l5) ?_
            refine L_y (.int .i64 (o0)) rfl rfl rfl rfl o3 (P_move i7) ?_
            refine L_y (ePtr i3 o0 1) rfl rfl rfl rfl o3 (P_indexAddrM (α := Int) Try.underlying26 Try.sizeOf3 rfl z2 rfl uC) ?_
            refine L_ld (c := .int .i64 (u7)) rfl rfl (.yes2 rfl rfl o3) (fun _ _ h => ⟨h.ch, fun b hb _ => h.below.block b hb⟩) zF rfl ?_
            refine L_y (.bool ((decide (u7 ≥ (0 : Int))))) rfl rfl rfl rfl o3 (P_int rfl rfl rfl) ?_
            refine L_y (.bool ((decide (u7 ≥ (0 : Int))))) rfl rfl rfl rfl o3 (P_move rfl) ?_
            iterate 10 refine L_s rfl rfl rfl z3 rfl ?_
            refine L_y (.bool false) rfl rfl rfl rfl o3 (P_pick (b := (decide (u7 ≥ (0 : Int)))) rfl (pick_f z3 rfl)) ?_
            refine L_p (.bool false) rfl rfl (P_pick (b := (decide (t5 < (0 : Int)))) rfl (pick_f o3 rfl)) ?_
            refine L_nl fun yL zO hs => ?_
            have hfr := hfr.ext hs
            have i6 := i6.ext hs
            have j6 := j6.ext hs
            have x6 := x6.ext hs
            have z2 := z2.ext hs
            have q5 := q5.ext hs
            clear hs
            refine EL_nil ?_
            obtain rfl := sinj h
            exact hQ _ _ ⟨yL, hfr, zA, aB, i6, j6, bB, x6, cB, l5, z2, iA, q5, i7, a7, rfl⟩
         ·clear hx
          obtain ⟨dI, hfr, lE, mE, nE, oE, rE, sE, tE, vC, xC, yC, aD, bD, cD, eD⟩ := hR
          rcases csome h with ⟨gD, h⟩ | ⟨gD, h⟩
          ·refine E_cond_true (Eq.trans (show ev _ _ = .bool (n8) from eD) (congrArg Value.bool gD)) ?_
           refine E_exit ?_
           refine thn_e ?_
           refine blk_hit ?_
           obtain ⟨rfl, rfl⟩ := pairs2 h
           exact hQ _ _ ⟨dI, hfr, lE, mE, nE, oE, rE, sE, tE, vC, xC, yC, aD, bD, cD⟩
          ·refine E_cond_false (Eq.trans (show ev _ _ = .bool (n8) from eD) (congrArg Value.bool gD)) ?_
           exact E_skip (thn_n (sK () _ _ ⟨dI, hfr, lE, mE, nE, oE, rE, sE, tE, vC, xC, yC, aD, bD, cD⟩ h))
        ·rintro _ vN aP ⟨iI, hfr, dB, uE, e8, g8, eB, j7, vE, iD, m7, jD, n7, jA, kA⟩ h
         refine E_seq (E_region (EL_do .plain rfl (D_loadO (g := iI) Try.isAgg209 Try.sizeOf209 eB j7 fun zL aM => ?_)))
         refine EL_mv jA rfl ?_
         refine EL_mv kA rfl ?_
         obtain ⟨o7, vK, h⟩ := bsome h
         refine EL_do .plain rfl (D_call (g := iI) (vs := [zL, .int .i64 (o0), .int .i64 (u0)]) en113 (.cons rfl (.cons rfl (.cons rfl .nil))) (wk113 aM vK) fun jI xN bP hs hr => ?_)
         have hfr := hfr.ext hs
         have e8 := e8.ext hs
         have g8 := g8.ext hs
         have j7 := j7.ext hs
         have m7 := m7.ext hs
         have n7 := n7.ext hs
         obtain ⟨x8, zM, rfl, yI, rfl⟩ := hr
         refine EL_mw (.tuple #[x8, .bool (o7.2)]) rfl rfl ?_
         refine EL_p x8 (P_extract rfl rfl) rfl ?_
         refine EL_p (.bool (o7.2)) (P_extract rfl rfl) rfl ?_
         refine EL_at x8 rfl rfl ?_
         refine EL_at (.bool (o7.2)) rfl rfl ?_
         refine EL_nil (thn_n ?_)
         obtain ⟨m8, hx, h⟩ := bsome h
         refine E_join (fun e w => ∃ (g : Gh) , Fr gI wI g w ∧ e 2 = .int .i64 (x2) ∧ e 6 = j1 ∧ RV g.m w (d3 : List Int) j1 ∧ OS 1006 g w 3 (d3 : List Int) j1 ∧ e 8 = p3 ∧ OB 2008 g w 209 (y2.1 : SeamPair) p3 ∧ e 9 = .int .i64 ((((y2.1).more).length : Int)) ∧ e 10 = i3 ∧ OM 9037 g w 3 (j3 : List Int) i3 ∧ e 11 = u3 ∧ OM 9040 g w 3 (z4 : List Int) u3 ∧ e 12 = .int .i64 (o0) ∧ e 13 = .int .i64 (u0) ∧ e 99 = .bool (m8)) (fun Q' hQ => ?_) (fun yN cP hR => ?_)
         ·replace h := hx
          clear hx
          refine E_region (EL_mw (.bool (o7.2)) rfl rfl ?_)
          refine EL_mw (.bool (o7.2)) rfl rfl ?_
          rcases csome h with ⟨b7, h⟩ | ⟨b7, h⟩
          ·refine EL_y x8 (P_move rfl) rfl rfl b7 rfl ?_
           obtain ⟨kB, xK, h⟩ := bsome h
           refine EL_do (.yes2 rfl rfl b7) rfl (D_call (g := jI) (vs := [x8]) en111 (.cons rfl .nil) (wk111 yI xK) fun bM zN dP hs hr => ?_)
           have hfr := hfr.ext hs
           have e8 := e8.ext hs
           have g8 := g8.ext hs
           have j7 := j7.ext hs
           have m7 := m7.ext hs
           have n7 := n7.ext hs
           subst hr
           refine EL_y (.int .i64 (x2)) (P_move dB) rfl rfl b7 rfl ?_
           refine EL_y (.bool ((decide (kB ≤ x2)))) (P_int rfl rfl rfl) rfl rfl b7 rfl ?_
           refine EL_p (.bool ((decide (kB ≤ x2)))) (P_pick (b := o7.2) rfl (pick_t b7 rfl)) rfl ?_
           refine EL_nil ?_
           obtain rfl := sinj h
           exact hQ _ _ ⟨bM, hfr, dB, uE, e8, g8, eB, j7, vE, iD, m7, jD, n7, jA, kA, rfl⟩
          ·refine EL_s rfl rfl b7 rfl rfl ?_
           iterate 3 refine EL_s rfl rfl b7 rfl rfl ?_
           refine EL_p (.bool false) (P_pick (b := o7.2) rfl (pick_f b7 rfl)) rfl ?_
           refine EL_nil ?_
           obtain rfl := sinj h
           exact hQ _ _ ⟨jI, hfr, dB, uE, e8, g8, eB, j7, vE, iD, m7, jD, n7, jA, kA, rfl⟩
         ·clear hx
          obtain ⟨uF, hfr, xE, yE, i8, k8, zE, l8, cF, k9, o8, lA, q8, l9, n9, kD⟩ := hR
          rcases csome h with ⟨lD, h⟩ | ⟨lD, h⟩
          ·refine E_cond_true (Eq.trans (show ev _ _ = .bool (m8) from kD) (congrArg Value.bool lD)) ?_
           refine E_region (EL_mv k9 rfl ?_)
           refine EL_mv l9 rfl ?_
           refine EL_mv lA rfl ?_
           refine EL_mv l9 rfl ?_
           refine EL_mv k9 rfl ?_
           refine EL_mv n9 rfl ?_
           obtain ⟨lB, cG, h⟩ := bsome h
           refine EL_p (ePtr i3 u0 1) (P_indexAddrM (α := Int) Try.underlying26 Try.sizeOf3 rfl o8 rfl cG) rfl ?_
           refine EL_do .plain rfl (D_loadM (g := uF) Try.isAgg3 Try.sizeOf3 rfl o8 cG fun eP cM => ?_)
           obtain rfl := RV_int.1 cM
           refine EL_in (.int .i64 ((w64 (lB + (1 : Int))))) rfl rfl rfl rfl ?_
           refine EL_mv n9 rfl ?_
           obtain ⟨dL, dG, h⟩ := bsome h
           refine EL_p (ePtr i3 o0 1) (P_indexAddrM (α := Int) Try.underlying26 Try.sizeOf3 rfl o8 rfl dG) rfl ?_
           refine EL_do .plain rfl (D_storeM (g := uF) (α := Int) (a' := ((w64 (lB + (1 : Int))))) Try.sizeOf3 rfl o8 dG rfl (RV_int.2 rfl) fun dM gP hs b3813 => ?_)
           have hfr := hfr.stp hs
           have i8 := i8.stp hs
           have k8 := k8.stp hs rfl
           have l8 := l8.stp hs rfl
           have q8 := q8.stp hs rfl
           obtain ⟨eL, eG, h⟩ := bsome h
           refine EL_p (ePtr u3 o0 1) (P_indexAddrM (α := Int) Try.underlying26 Try.sizeOf3 rfl q8 rfl eG) rfl ?_
           refine EL_do .plain rfl (D_storeM (g := dM) (α := Int) (a' := u0) Try.sizeOf3 rfl q8 eG rfl (RV_int.2 rfl) fun eM iP hs b3815 => ?_)
           have hfr := hfr.stp hs
           have i8 := i8.stp hs
           have k8 := k8.stp hs rfl
           have l8 := l8.stp hs rfl
           have b3813 := b3813.stp hs rfl
           refine EL_nil (blk_n ?_)
           obtain ⟨rfl, rfl⟩ := pairs2 h
           exact hQ _ _ ⟨eM, hfr, xE, yE, i8, k8, zE, l8, cF, k9, b3813, lA, b3815, l9, n9⟩
          ·refine E_cond_false (Eq.trans (show ev _ _ = .bool (m8) from kD) (congrArg Value.bool lD)) ?_
           refine E_skip (blk_n ?_)
           obtain ⟨rfl, rfl⟩ := pairs2 h
           exact hQ _ _ ⟨uF, hfr, xE, yE, i8, k8, zE, l8, cF, k9, o8, lA, q8, l9, n9⟩
       ·clear hx
        obtain ⟨gM, hfr, zI, aJ, bJ, cJ, dJ, eJ, gJ, oG, pG, qG, rG, sG, tG⟩ := hR
        refine E_region (EL_mv tG rfl ?_)
        refine EL_in (.int .i64 ((w64 (u0 + (1 : Int))))) rfl rfl rfl rfl ?_
        refine EL_at (.int .i64 ((w64 (u0 + (1 : Int))))) rfl rfl ?_
        exact EL_nil (thn_n (pK (a9, d9, (w64 (u0 + (1 : Int)))) _ _ ⟨gM, hfr, zI, aJ, bJ, cJ, dJ, eJ, gJ, oG, pG, qG, rG, sG, rfl⟩ h))
    ·clear hx
     obtain ⟨iM, hfr, iJ, jJ, kJ, lJ, mJ, nJ, oJ, uG, vG, xG, yG, zG⟩ := hR
     refine E_region (EL_mv zG rfl ?_)
     refine EL_in (.int .i64 ((w64 (o0 - (1 : Int))))) rfl rfl rfl rfl ?_
     refine EL_at (.int .i64 ((w64 (o0 - (1 : Int))))) rfl rfl ?_
     exact EL_nil (thn_n (eK (e9, i9, (w64 (o0 - (1 : Int)))) _ _ ⟨iM, hfr, iJ, jJ, kJ, lJ, mJ, nJ, oJ, uG, vG, xG, yG, rfl⟩ h))
  ·clear hx
   obtain ⟨kI, hfr, pJ, qJ, rJ, aH, mD, bH, cH⟩ := hR
   refine E_joinC h (fun (s : (List Int)) e w => ∃ (g : Gh) (v6 : Value), Fr gI wI g w ∧ e 6 = v6 ∧ RV g.m w (s : List Int) v6 ∧ OS 1006 g w 3 (s : List Int) v6 ∧ e 11 = u3 ∧ OM 9040 g w 3 (x5 : List Int) u3) (fun X3822 vH yK h => ?_) ?_
   ·refine E_seq (E_region (EL_mv aH rfl ?_))
    obtain ⟨qF, gG, h⟩ := bsome h
    refine EL_p (ePtr i3 (0 : Int) 1) (P_indexAddrM (α := Int) Try.underlying26 Try.sizeOf3 rfl mD rfl gG) rfl ?_
    refine EL_do .plain rfl (D_loadM (g := kI) Try.isAgg3 Try.sizeOf3 rfl mD gG fun jP jM => ?_)
    obtain rfl := RV_int.1 jM
    refine EL_in (.bool ((decide (qF < (0 : Int))))) rfl rfl rfl rfl ?_
    refine EL_nil (thn_n ?_)
    rcases csome h with ⟨nD, h⟩ | ⟨nD, h⟩
    ·refine E_ct nD rfl ?_
     refine E_seq (E_region (EL_at (.slice none 0 0) rfl rfl ?_))
     refine EL_at (.int .i64 (7)) rfl rfl ?_
     refine EL_nil (thn_n (E_ret (thn_r ?_)))
     obtain rfl := sinj h
     exact end2 rfl rfl (show _ = .slice none 0 0 from rfl) (show _ = .int .i64 (7) from rfl) ⟨_, hfr, _, _, rfl, RV_nil, rfl⟩
    ·refine E_cf nD rfl ?_
     exact E_skip (thn_n (yK (d3) _ _ ⟨kI, (j1), hfr, pJ, qJ, rJ, bH, cH⟩ h))
   ·rintro xD aO kP ⟨lI, sJ, hfr, tJ, uJ, vJ, oD, mA⟩ h
    obtain ⟨t9, hx, h⟩ := bsome h
    refine E_join (fun e w => ∃ (g : Gh) (v6 : Value), Fr gI wI g w ∧ e 6 = v6 ∧ RV g.m w (t9 : List Int) v6 ∧ OS 1006 g w 3 (t9 : List Int) v6) (fun Q' hQ => ?_) (fun bO lP hR => ?_)
    ·replace h := hx
     clear hx
     refine E_seq (E_region (EL_mv oD rfl ?_))
     obtain ⟨pF, hG, h⟩ := bsome h
     refine EL_p (ePtr u3 (0 : Int) 1) (P_indexAddrM (α := Int) Try.underlying26 Try.sizeOf3 rfl mA rfl hG) rfl ?_
     refine EL_do .plain rfl (D_loadM (g := lI) Try.isAgg3 Try.sizeOf3 rfl mA hG fun mP kM => ?_)
     obtain rfl := RV_int.1 kM
     refine EL_at (.int .i64 (pF)) rfl rfl ?_
     refine EL_nil (thn_n (E_block ?_))
     refine E_lp h (fun (s : (List Int) × Int) e w => ∃ (g : Gh) (v6 : Value), Fr gI wI g w ∧ e 6 = v6 ∧ RV g.m w (s.1 : List Int) v6 ∧ OS 1006 g w 3 (s.1 : List Int) v6 ∧ e 11 = u3 ∧ OM 9040 g w 3 (x5 : List Int) u3 ∧ e 16 = .int .i64 (s.2)) ⟨lI, (sJ), hfr, tJ, uJ, vJ, oD, mA, rfl⟩ (fun X3846 sH zK => ?_)
     rintro ⟨t8, i5⟩ cO nP ⟨mI, u9, hfr, dF, eF, iF, dH, gH, sD⟩ h
     refine E_joinC h (fun (s : Unit) e w => ∃ (g : Gh) , Fr gI wI g w ∧ e 6 = u9 ∧ RV g.m w (t8 : List Int) u9 ∧ OS 1006 g w 3 (t8 : List Int) u9 ∧ e 11 = u3 ∧ OM 9040 g w 3 (x5 : List Int) u3 ∧ e 16 = .int .i64 (i5)) (fun X3849 uH aL h => ?_) ?_
     ·refine E_seq (E_region (EL_mv sD rfl ?_))
      refine EL_in (.bool ((decide (i5 > (0 : Int))))) rfl rfl rfl rfl ?_
      refine EL_nil (thn_n ?_)
      rcases csome h with ⟨tD, h⟩ | ⟨tD, h⟩
      ·refine E_ct tD rfl ?_
       exact E_skip (thn_n (aL () _ _ ⟨mI, hfr, dF, eF, iF, dH, gH, sD⟩ h))
      ·refine E_cf tD rfl ?_
       refine E_exit ?_
       refine thn_e ?_
       refine thn_e ?_
       refine blk_hit ?_
       obtain rfl := sinj h
       exact hQ _ _ ⟨mI, (u9), hfr, dF, eF, iF⟩
     ·rintro _ dO oP ⟨mM, hfr, xJ, iB, jB, iH, r8, uD⟩ h
      obtain ⟨v8, hx, h⟩ := bsome h
      refine E_join (fun e w => ∃ (g : Gh) (v6 : Value), Fr gI wI g w ∧ e 6 = v6 ∧ RV g.m w (v8 : List Int) v6 ∧ OS 1006 g w 3 (v8 : List Int) v6 ∧ e 11 = u3 ∧ OM 9040 g w 3 (x5 : List Int) u3 ∧ e 16 = .int .i64 (i5)) (fun Q' hQ => ?_) (fun eO pP hR => ?_)
      ·replace h := hx
       clear hx
       refine E_block ?_
       refine E_region (EL_mv xJ rfl ?_)
       refine EL_mv uD rfl ?_
       refine EL_do .plain rfl (D_buildSlice (g := mM) 3127 (xs := ([i5] : List Int)) (vs := [.int .i64 (i5)]) Try.underlying26 Try.sizeOf3 Try.zeroValue3 rfl rfl (.cons rfl .nil) (RVs.cons (RV_int.2 rfl) RVs.nil) rfl rfl fun nM sP tP hs o3855 oM hxt hfl => ?_)
       have hfr := hfr.stp hs
       have iB := iB.stp hs
       have jB := jB.stp hs rfl
       have r8 := r8.stp hs rfl
       obtain ⟨tH, bL, h⟩ := bsome h
       refine EL_do .plain rfl (D_append (g := nM) (i := 1006) Try.underlying26 info_3 rfl rfl jB iB rfl oM bL fun pM uP nI hs o3856 qM _ => ?_)
       have hfr := hfr.stp hs
       have r8 := r8.stp hs rfl
       refine EL_at nI rfl rfl ?_
       refine EL_nil (blk_n ?_)
       obtain rfl := sinj h
       exact hQ _ _ ⟨pM, (nI), hfr, rfl, qM, o3856, iH, r8, uD⟩
      ·clear hx
       obtain ⟨oI, yJ, hfr, zJ, aK, bK, vD, nA, jH⟩ := hR
       refine E_region (EL_mv vD rfl ?_)
       refine EL_mv jH rfl ?_
       obtain ⟨mB, iG, h⟩ := bsome h
       refine EL_p (ePtr u3 i5 1) (P_indexAddrM (α := Int) Try.underlying26 Try.sizeOf3 rfl nA rfl iG) rfl ?_
       refine EL_do .plain rfl (D_loadM (g := oI) Try.isAgg3 Try.sizeOf3 rfl nA iG fun vP rM => ?_)
       obtain rfl := RV_int.1 rM
       refine EL_at (.int .i64 (mB)) rfl rfl ?_
       exact EL_nil (thn_n (zK (v8, mB) _ _ ⟨oI, (yJ), hfr, zJ, aK, bK, vD, nA, rfl⟩ h))
    ·clear hx
     obtain ⟨xP, nF, hfr, cK, dK, bN⟩ := hR
     refine E_seq (E_region (EL_mv cK rfl ?_))
     refine EL_at nF rfl rfl ?_
     refine EL_at (.int .i64 (0)) rfl rfl ?_
     refine EL_nil (thn_n (E_ret ?_))
     obtain rfl := sinj h
     exact end2 rfl rfl (show _ = nF from rfl) (show _ = .int .i64 (0) from rfl) ⟨_, hfr, _, _, rfl, dK, rfl⟩
def f65 (x0 : List SeamPart) (x1 : List SeamPart) (x2 : List Int) (x3 : Int) : Option (Int × Int × Int) :=
 (f114 x0 x1 x2).bind fun y2 =>
 jn (σ := Unit) (fun _ =>
  jn (σ := Unit) (fun _ =>
   some ((0 : Int), (0 : Int), (7 : Int))
   ) fun j7 =>
  lp (σ := Int) (fun m7 o0 =>
   bif (decide (o0 < ((y2.2.1).length : Int))) then
    jn (σ := Unit) (fun _ =>
     m7 ((w64 (o0 + (1 : Int))))
     ) fun n7 =>
    (idx (y2.2.1) o0).bind fun y63 =>
    (f115 y63).bind fun y71 =>
    bif (decide (y71 > x3)) then
     (f115 y63).bind fun t5 =>
     some (o0, t5, (0 : Int))
    else
     n7 ()
   else
    j7 ()
   ) big ((0 : Int))
  ) fun o7 =>
 bif (y2.2.2 != (0 : Int)) then
  some ((0 : Int), (0 : Int), y2.2.2)
 else
  (f107 ((0 : Int)) ((2000000 : Int)) (([x3] : List Int))).bind fun x5 =>
  bif (!x5) then
   some ((0 : Int), (0 : Int), (3 : Int))
  else
   o7 ()
theorem en65 : Enters Try.prog 65 := enters_of Try.func65 (by kernel_rfl) rfl
theorem wk65 {gI : Gh} {wI : World} {x0 : List SeamPart} {x1 : List SeamPart} {x2 : List Int} {x3 : Int} {up0 : Value} (rp0 : RV gI.m wI x0 up0) {up1 : Value} (rp1 : RV gI.m wI x1 up1) {up2 : Value} (rp2 : RV gI.m wI x2 up2) {r : Int × Int × Int} (h : f65 x0 x1 x2 x3 = some r) : Fn Try.prog 65 #[up0, up1, up2, .int .i64 (x3)] gI wI (fun m w v => ∃ y0 y1 y2, v = .tuple #[y0, y1, y2] ∧ y0 = .int .i64 (r.1) ∧ y1 = .int .i64 (r.2.1) ∧ y2 = .int .i64 (r.2.2)) := by
 unfold f65 at h
 refine fn_of_E Try.func65 rfl (Nat.le_of_ble_eq_true rfl) fun g0 hm hfr => ?_
 have rp0 : RV g0.m wI x0 up0 := hm ▸ rp0
 have rp1 : RV g0.m wI x1 up1 := hm ▸ rp1
 have rp2 : RV g0.m wI x2 up2 := hm ▸ rp2
 show E _ 47 none _ _ _ _ _
 refine E_seq (E_region ?_)
 iterate 3 refine EL_at (.int .i64 (0)) rfl rfl ?_
 refine EL_nil (thn_n (E_seq (E_region (EL_mw up0 rfl rfl ?_))))
 refine EL_mw up1 rfl rfl ?_
 refine EL_mw up2 rfl rfl ?_
 obtain ⟨y2, hy2, h⟩ := bsome h
 refine EL_do .plain rfl (D_call (g := g0) (vs := [up0, up1, up2]) en114 (.cons rfl (.cons rfl (.cons rfl .nil))) (wk114 rp0 rp1 rp2 hy2) fun g1 w1_ v1 hs hr => ?_)
 have hfr := hfr.ext hs
 obtain ⟨u3, j1, k9, rfl, z3, z2, rfl⟩ := hr
 refine EL_mw (.tuple #[u3, j1, .int .i64 (y2.2.2)]) rfl rfl ?_
 refine EL_p u3 (P_extract rfl rfl) rfl ?_
 refine EL_p j1 (P_extract rfl rfl) rfl ?_
 refine EL_p (.int .i64 (y2.2.2)) (P_extract rfl rfl) rfl ?_
 refine EL_do .plain rfl (D_allocOc (g := g1) 2011 (⟨[], [], []⟩ : SeamPair) Try.zeroValue209 (fun m w => ⟨_, (rep_two rep_nil (rep_two rep_nil rep_nil)), rfl⟩) fun g3 w3 p3 hs b3 cb => ?_)
 have hfr := hfr.stp hs
 have z3 := z3.stp hs
 have z2 := z2.stp hs
 have l9 : OSF 2011 61100 0 g3 w3 137 209 ([] : List Span) p3 := cb.osf (by rfl)
 have n9 : OSF 2011 61101 1 g3 w3 137 209 ([] : List Span) p3 := cb.osf (by rfl)
 have o9 : OSF 2011 61102 2 g3 w3 137 209 ([] : List Span) p3 := cb.osf (by rfl)
 clear cb
 refine EL_do .plain rfl (D_storeOc (g := g3) (v := u3) Try.sizeOf209 rfl b3 rfl z3 fun g4 w4 hs b4 cb => ?_)
 clear cb
 have hfr := hfr.stp hs
 have z2 := z2.stp hs
 refine EL_at j1 rfl rfl ?_
 refine EL_at (.int .i64 (y2.2.2)) rfl rfl ?_
 refine EL_nil (thn_n (E_joinC h (fun (s : Unit) e w => ∃ (g : Gh) , Fr gI wI g w ∧ e 3 = .int .i64 (x3) ∧ e 12 = j1 ∧ RV g.m w (y2.2.1 : List Span) j1) (fun X10 o7 v7 h => ?_) ?_))
 ·refine E_block ?_
  refine E_seq (E_region (EL_mw (.int .i64 (y2.2.2)) rfl rfl ?_))
  refine EL_in (.bool ((y2.2.2 != (0 : Int)))) rfl rfl rfl rfl ?_
  refine EL_at (.bool ((y2.2.2 != (0 : Int)))) rfl rfl ?_
  refine EL_nil (thn_n ?_)
  rcases csome h with ⟨z4, h⟩ | ⟨z4, h⟩
  ·refine E_ct z4 rfl ?_
   refine E_seq (E_region (EL_mw (.int .i64 (y2.2.2)) rfl rfl ?_))
   refine EL_at (.int .i64 (0)) rfl rfl ?_
   refine EL_at (.int .i64 (0)) rfl rfl ?_
   refine EL_at (.int .i64 (y2.2.2)) rfl rfl ?_
   refine EL_nil (thn_n (E_ret (blk_r ?_)))
   refine thn_r ?_
   obtain rfl := sinj h
   exact end3 rfl rfl (show _ = .int .i64 (0) from rfl) (show _ = .int .i64 (0) from rfl) (show _ = .int .i64 (y2.2.2) from rfl) ⟨_, hfr, _, _, _, rfl, rfl, rfl, rfl⟩
  ·refine E_cf z4 rfl ?_
   refine E_seq (E_region (EL_mw (.int .i64 (x3)) rfl rfl ?_))
   refine EL_do .plain rfl (D_buildSlice (g := g4) 3029 (xs := ([x3] : List Int)) (vs := [.int .i64 (x3)]) Try.underlying26 Try.sizeOf3 Try.zeroValue3 rfl rfl (.cons rfl .nil) (RVs.cons (RV_int.2 rfl) RVs.nil) rfl rfl fun m8 jA n8 hs o12 o8 hxt hfl => ?_)
   have hfr := hfr.stp hs
   have z2 := z2.stp hs
   obtain ⟨x5, c8, h⟩ := bsome h
   refine EL_do .plain rfl (D_call (g := m8) (vs := [.int .i64 (0), .int .i64 (2000000), n8]) en107 (.cons rfl (.cons rfl (.cons rfl .nil))) (wk107 o8 c8) fun q8 t9 kA hs hr => ?_)
   have hfr := hfr.ext hs
   have z2 := z2.ext hs
   subst hr
   refine EL_p (.bool (!x5)) (P_not rfl) rfl ?_
   refine EL_at (.bool (!x5)) rfl rfl ?_
   refine EL_nil (thn_n ?_)
   rcases csome h with ⟨i5, h⟩ | ⟨i5, h⟩
   ·refine E_ct i5 rfl ?_
    refine E_seq (E_region (EL_at (.int .i64 (0)) rfl rfl ?_))
    refine EL_at (.int .i64 (0)) rfl rfl ?_
    refine EL_at (.int .i64 (3)) rfl rfl ?_
    refine EL_nil (thn_n (E_ret (blk_r ?_)))
    refine thn_r ?_
    obtain rfl := sinj h
    exact end3 rfl rfl (show _ = .int .i64 (0) from rfl) (show _ = .int .i64 (0) from rfl) (show _ = .int .i64 (3) from rfl) ⟨_, hfr, _, _, _, rfl, rfl, rfl, rfl⟩
   ·refine E_cf i5 rfl ?_
    exact E_skip (blk_n (thn_n (v7 () _ _ ⟨q8, hfr, rfl, rfl, z2⟩ h)))
 ·rintro _ u9 lA ⟨r8, hfr, g7, j6, i3⟩ h
  refine E_joinC h (fun (s : Unit) e w => ∃ (g : Gh) , Fr gI wI g w) (fun X46 j7 e8 h => ?_) ?_
  ·refine E_seq (E_region (EL_mv j6 rfl ?_))
   refine EL_p (.int .i64 ((y2.2.1).length : Int)) (P_len Try.underlying207 rfl i3) rfl ?_
   refine EL_mw (.int .i64 (0)) rfl rfl ?_
   refine EL_nil (thn_n (E_block ?_))
   refine E_lp h (fun (s : Int) e w => ∃ (g : Gh) , Fr gI wI g w ∧ e 3 = .int .i64 (x3) ∧ e 32 = j1 ∧ RV g.m w (y2.2.1 : List Span) j1 ∧ e 33 = .int .i64 (((y2.2.1).length : Int)) ∧ e 34 = .int .i64 (s)) ⟨r8, hfr, g7, rfl, i3, rfl, rfl⟩ (fun X47 m7 g8 => ?_)
   rintro o0 y9 mA ⟨v6, hfr, i6, j3, u0, o3, d3⟩ h
   refine E_seq (E_region (EL_in (.bool ((decide (o0 < ((y2.2.1).length : Int))))) d3 o3 rfl rfl ?_))
   refine EL_nil (thn_n (E_seq ?_))
   rcases csome h with ⟨l5, h⟩ | ⟨l5, h⟩
   ·refine E_ct l5 rfl ?_
    refine E_skip (thn_n (E_joinC h (fun (s : Unit) e w => ∃ (g : Gh) , Fr gI wI g w ∧ e 3 = .int .i64 (x3) ∧ e 32 = j1 ∧ RV g.m w (y2.2.1 : List Span) j1 ∧ e 33 = .int .i64 (((y2.2.1).length : Int)) ∧ e 34 = .int .i64 (o0)) (fun X62 n7 i8 h => ?_) ?_))
    ·refine E_block ?_
     refine E_seq (E_region (EL_mv d3 rfl ?_))
     obtain ⟨y63, x6, h⟩ := bsome h
     refine EL_p (ePtr j1 o0 2) (P_indexAddr (α := Span) Try.underlying207 Try.sizeOf137 j3 u0 d3 x6) rfl ?_
     have t8 := PT_idx u0 x6
     refine EL_do .plain rfl (D_load (g := v6) Try.isAgg137 Try.sizeOf137 rfl t8 fun v8 y6 => ?_)
     refine EL_do .plain rfl (D_allocOc (g := v6) 2014 (⟨0, 0⟩ : Span) Try.zeroValue137 (fun m w => ⟨_, (rep_two rep_int rep_int), rfl⟩) fun x8 nA oA hs b67 cb => ?_)
     have hfr := hfr.stp hs
     have u0 := u0.stp hs
     have y6 := y6.stp hs
     clear cb
     refine EL_at (.int .i64 (o0)) rfl rfl ?_
     refine EL_do .plain rfl (D_storeOc (g := x8) (v := v8) Try.sizeOf137 rfl b67 rfl y6 fun u7 pA hs b68 cb => ?_)
     clear cb
     have hfr := hfr.stp hs
     have u0 := u0.stp hs
     refine EL_nil (thn_n (E_seq (E_region (EL_do .plain rfl (D_loadO (g := u7) Try.isAgg137 Try.sizeOf137 rfl b68 fun y8 a9 => ?_)))))
     obtain ⟨y71, k8, h⟩ := bsome h
     refine EL_do .plain rfl (D_call (g := u7) (vs := [y8]) en115 (.cons rfl .nil) (wk115 a9 k8) fun a7 z9 qA hs hr => ?_)
     have hfr := hfr.ext hs
     have u0 := u0.ext hs
     have b68 := b68.ext hs
     subst hr
     refine EL_mv i6 rfl ?_
     refine EL_in (.bool ((decide (y71 > x3)))) rfl rfl rfl rfl ?_
     refine EL_nil (thn_n ?_)
     rcases csome h with ⟨q5, h⟩ | ⟨q5, h⟩
     ·refine E_ct q5 rfl ?_
      refine E_seq (E_region (EL_mw (.int .i64 (o0)) rfl rfl ?_))
      refine EL_do .plain rfl (D_loadO (g := a7) Try.isAgg137 Try.sizeOf137 rfl b68 fun d9 e9 => ?_)
      obtain ⟨t5, l8, h⟩ := bsome h
      refine EL_do .plain rfl (D_call (g := a7) (vs := [d9]) en115 (.cons rfl .nil) (wk115 e9 l8) fun rA bA sA hs hr => ?_)
      have hfr := hfr.ext hs
      subst hr
      refine EL_at (.int .i64 (o0)) rfl rfl ?_
      refine EL_at (.int .i64 (t5)) rfl rfl ?_
      refine EL_at (.int .i64 (0)) rfl rfl ?_
      refine EL_nil (thn_n (E_ret (blk_r ?_)))
      refine thn_r ?_
      refine thn_r ?_
      refine blk_r ?_
      refine thn_r ?_
      obtain rfl := sinj h
      exact end3 rfl rfl (show _ = .int .i64 (o0) from rfl) (show _ = .int .i64 (t5) from rfl) (show _ = .int .i64 (0) from rfl) ⟨_, hfr, _, _, _, rfl, rfl, rfl, rfl⟩
     ·refine E_cf q5 rfl ?_
      exact E_skip (blk_n (thn_n (i8 () _ _ ⟨a7, hfr, i6, j3, u0, o3, d3⟩ h)))
    ·rintro _ gA uA ⟨i9, hfr, i7, b7, c7, d7, e7⟩ h
     refine E_region (EL_in (.int .i64 ((w64 (o0 + (1 : Int))))) e7 rfl rfl rfl ?_)
     refine EL_mw (.int .i64 ((w64 (o0 + (1 : Int))))) rfl rfl ?_
     exact EL_nil (thn_n (g8 ((w64 (o0 + (1 : Int)))) _ _ ⟨i9, hfr, i7, b7, c7, d7, rfl⟩ h))
   ·refine E_cf l5 rfl ?_
    refine E_exit ?_
    refine thn_e ?_
    refine thn_e ?_
    refine blk_hit ?_
    exact thn_n (e8 () _ _ ⟨v6, hfr⟩ h)
  ·rintro _ iA xA ⟨yA, hfr⟩ h
   refine E_seq (E_region (EL_at (.int .i64 (0)) rfl rfl ?_))
   refine EL_at (.int .i64 (0)) rfl rfl ?_
   refine EL_at (.int .i64 (7)) rfl rfl ?_
   refine EL_nil (thn_n (E_ret ?_))
   obtain rfl := sinj h
   exact end3 rfl rfl (show _ = .int .i64 (0) from rfl) (show _ = .int .i64 (0) from rfl) (show _ = .int .i64 (7) from rfl) ⟨_, hfr, _, _, _, rfl, rfl, rfl, rfl⟩
def f24  : Option (Bool) :=
 (f63 ((100 : Int)) ((110 : Int))).bind fun y2 =>
 (f63 ((50 : Int)) ((50 : Int))).bind fun y5 =>
 (f63 ((90 : Int)) ((100 : Int))).bind fun y9 =>
 (f64 (([(⟨(2 : Int), y2⟩ : SeamPart), (⟨(1 : Int), y5⟩ : SeamPart)] : List SeamPart)) (([(⟨(3 : Int), y9⟩ : SeamPart)] : List SeamPart)) ((40 : Int))).bind fun j1 =>
 (f65 (([(⟨(2 : Int), y2⟩ : SeamPart), (⟨(1 : Int), y5⟩ : SeamPart)] : List SeamPart)) (([(⟨(3 : Int), y9⟩ : SeamPart)] : List SeamPart)) ([]) ((30 : Int))).bind fun o0 =>
 Option.bind (α := Bool) (
  bif (j1.2 == (0 : Int)) then
   bif (o0.2.2 == (0 : Int)) then
    (f19 (j1.1) (([(3 : Int)] : List Int))).bind fun z3 =>
    bif z3 then
     bif (o0.1 == (2 : Int)) then
      some ((o0.2.1 == (40 : Int)))
     else
      some (false)
    else
     some (false)
   else
    some (false)
  else
   some (false)
  ) fun u3 =>
 some (u3)
theorem en24 : Enters Try.prog 24 := enters_of Try.func24 (by kernel_rfl) rfl
theorem wk24 {gI : Gh} {wI : World}   {r : Bool} (h : f24  = some r) : Fn Try.prog 24 #[] gI wI (fun _ _ v => v = .bool (r)) := by
 unfold f24 at h
 refine fn_of_E Try.func24 rfl (Nat.le_of_ble_eq_true rfl) fun g0 hm hfr => ?_
 show E _ 48 none _ _ _ _ _
 refine E_seq (E_region (EL_at (.bool false) rfl rfl ?_))
 refine EL_nil (thn_n (E_seq (E_region ?_)))
 obtain ⟨y2, hy2, h⟩ := bsome h
 refine EL_do .plain rfl (D_call (g := g0) (vs := [.int .i64 (100), .int .i64 (110)]) en63 (.cons rfl (.cons rfl .nil)) (wk63  hy2) fun g1 w1_ v1 hs hr => ?_)
 have hfr := hfr.ext hs
 have r1 := hr
 have r3 : RV g1.m _ (⟨(2 : Int), y2⟩ : SeamPart) (.agg (setCh [[.int .i64 0], [.int .i64 0, .int .i64 0]] [(0, .int .i64 (2)), (1, v1)]).flatten.toArray) := RV_build rfl (rep_pair (rfl) (rep_last (RV.cells r1)))
 generalize hv3 : (Value.agg (setCh [[.int .i64 0], [.int .i64 0, .int .i64 0]] [(0, .int .i64 (2)), (1, v1)]).flatten.toArray) = v3 at r3
 refine EL_p v3 (hv3 ▸ P_build (vs := [(0, .int .i64 (2)), (1, v1)]) [[.int .i64 0], [.int .i64 0, .int .i64 0]] lay_140 rfl rfl (.cons rfl (.cons rfl .nil)) ⟨⟨_, rfl, rfl⟩, ⟨⟨_, rfl, cells_size r1⟩, trivial⟩⟩) rfl ?_
 obtain ⟨y5, hy5, h⟩ := bsome h
 refine EL_do .plain rfl (D_call (g := g1) (vs := [.int .i64 (50), .int .i64 (50)]) en63 (.cons rfl (.cons rfl .nil)) (wk63  hy5) fun g4 w4_ v4 hs hr => ?_)
 have hfr := hfr.ext hs
 have r3 := r3.ext hs
 have r4 := hr
 have r6 : RV g4.m _ (⟨(1 : Int), y5⟩ : SeamPart) (.agg (setCh [[.int .i64 0], [.int .i64 0, .int .i64 0]] [(0, .int .i64 (1)), (1, v4)]).flatten.toArray) := RV_build rfl (rep_pair (rfl) (rep_last (RV.cells r4)))
 generalize b7 : (Value.agg (setCh [[.int .i64 0], [.int .i64 0, .int .i64 0]] [(0, .int .i64 (1)), (1, v4)]).flatten.toArray) = v6 at r6
 refine EL_p v6 (b7 ▸ P_build (vs := [(0, .int .i64 (1)), (1, v4)]) [[.int .i64 0], [.int .i64 0, .int .i64 0]] lay_140 rfl rfl (.cons rfl (.cons rfl .nil)) ⟨⟨_, rfl, rfl⟩, ⟨⟨_, rfl, cells_size r4⟩, trivial⟩⟩) rfl ?_
 refine EL_do .plain rfl (D_buildSlice (g := g4) 3012 (xs := ([(⟨(2 : Int), y2⟩ : SeamPart), (⟨(1 : Int), y5⟩ : SeamPart)] : List SeamPart)) (vs := [v3, v6]) Try.underlying141 Try.sizeOf140 Try.zeroValue140 rfl rfl (.cons rfl (.cons rfl .nil)) (RVs.cons r3 (RVs.cons r6 RVs.nil)) rfl rfl fun g7 w7 v7 hs o7 r7 hxt hfl => ?_)
 have hfr := hfr.stp hs
 obtain ⟨y9, c7, h⟩ := bsome h
 refine EL_do .plain rfl (D_call (g := g7) (vs := [.int .i64 (90), .int .i64 (100)]) en63 (.cons rfl (.cons rfl .nil)) (wk63  c7) fun g8 w8_ v8 hs hr => ?_)
 have hfr := hfr.ext hs
 have r7 := r7.ext hs
 have r8 := hr
 have x5 : RV g8.m _ (⟨(3 : Int), y9⟩ : SeamPart) (.agg (setCh [[.int .i64 0], [.int .i64 0, .int .i64 0]] [(0, .int .i64 (3)), (1, v8)]).flatten.toArray) := RV_build rfl (rep_pair (rfl) (rep_last (RV.cells r8)))
 generalize j6 : (Value.agg (setCh [[.int .i64 0], [.int .i64 0, .int .i64 0]] [(0, .int .i64 (3)), (1, v8)]).flatten.toArray) = i6 at x5
 refine EL_p i6 (j6 ▸ P_build (vs := [(0, .int .i64 (3)), (1, v8)]) [[.int .i64 0], [.int .i64 0, .int .i64 0]] lay_140 rfl rfl (.cons rfl (.cons rfl .nil)) ⟨⟨_, rfl, rfl⟩, ⟨⟨_, rfl, cells_size r8⟩, trivial⟩⟩) rfl ?_
 refine EL_do .plain rfl (D_buildSlice (g := g8) 3015 (xs := ([(⟨(3 : Int), y9⟩ : SeamPart)] : List SeamPart)) (vs := [i6]) Try.underlying141 Try.sizeOf140 Try.zeroValue140 rfl rfl (.cons rfl .nil) (RVs.cons x5 RVs.nil) rfl rfl fun d7 n8 z4 hs o11 i5 hxt hfl => ?_)
 have hfr := hfr.stp hs
 have r7 := r7.stp hs
 refine EL_at v7 rfl rfl ?_
 refine EL_at z4 rfl rfl ?_
 refine EL_nil (thn_n (E_seq (E_region (EL_mw v7 rfl rfl ?_))))
 refine EL_mw z4 rfl rfl ?_
 obtain ⟨j1, x6, h⟩ := bsome h
 refine EL_do .plain rfl (D_call (g := d7) (vs := [v7, z4, .int .i64 (40)]) en64 (.cons rfl (.cons rfl (.cons rfl .nil))) (wk64 r7 i5 x6) fun e7 i8 o8 hs hr => ?_)
 have hfr := hfr.ext hs
 have r7 := r7.ext hs
 have i5 := i5.ext hs
 obtain ⟨j3, n7, rfl, o3, rfl⟩ := hr
 refine EL_mw (.tuple #[j3, .int .i64 (j1.2)]) rfl rfl ?_
 refine EL_p j3 (P_extract rfl rfl) rfl ?_
 refine EL_p (.int .i64 (j1.2)) (P_extract rfl rfl) rfl ?_
 refine EL_at j3 rfl rfl ?_
 refine EL_at (.int .i64 (j1.2)) rfl rfl ?_
 refine EL_nil (thn_n (E_seq (E_region (EL_mw v7 rfl rfl ?_))))
 refine EL_mw z4 rfl rfl ?_
 obtain ⟨o0, y6, h⟩ := bsome h
 refine EL_do .plain rfl (D_call (g := e7) (vs := [v7, z4, .slice none 0 0, .int .i64 (30)]) en65 (.cons rfl (.cons rfl (.cons rfl (.cons rfl .nil)))) (wk65 r7 i5 RV_nil y6) fun l5 k8 q8 hs hr => ?_)
 have hfr := hfr.ext hs
 have o3 := o3.ext hs
 obtain ⟨u7, c8, e8, rfl, rfl, rfl, rfl⟩ := hr
 refine EL_mw (.tuple #[.int .i64 (o0.1), .int .i64 (o0.2.1), .int .i64 (o0.2.2)]) rfl rfl ?_
 refine EL_p (.int .i64 (o0.1)) (P_extract rfl rfl) rfl ?_
 refine EL_p (.int .i64 (o0.2.1)) (P_extract rfl rfl) rfl ?_
 refine EL_p (.int .i64 (o0.2.2)) (P_extract rfl rfl) rfl ?_
 refine EL_at (.int .i64 (o0.1)) rfl rfl ?_
 refine EL_at (.int .i64 (o0.2.1)) rfl rfl ?_
 refine EL_at (.int .i64 (o0.2.2)) rfl rfl ?_
 refine EL_nil (thn_n ?_)
 obtain ⟨u3, hx, h⟩ := bsome h
 refine E_join (fun e w => ∃ (g : Gh) , Fr gI wI g w ∧ e 0 = .bool (u3)) (fun Q' hQ => ?_) (fun l8 t8 hR => ?_)
 ·replace h := hx
  clear hx
  refine E_region (EL_mw (.int .i64 (j1.2)) rfl rfl ?_)
  refine EL_in (.bool ((j1.2 == (0 : Int)))) rfl rfl rfl rfl ?_
  refine EL_mw (.bool ((j1.2 == (0 : Int)))) rfl rfl ?_
  rcases csome h with ⟨z2, h⟩ | ⟨z2, h⟩
  ·refine EL_y (.int .i64 (o0.2.2)) (P_move rfl) rfl rfl z2 rfl ?_
   refine EL_y (.bool ((o0.2.2 == (0 : Int)))) (P_int rfl rfl rfl) rfl rfl z2 rfl ?_
   refine EL_p (.bool ((o0.2.2 == (0 : Int)))) (P_pick (b := (j1.2 == (0 : Int))) rfl (pick_t z2 rfl)) rfl ?_
   refine EL_mw (.bool ((o0.2.2 == (0 : Int)))) rfl rfl ?_
   rcases csome h with ⟨u0, h⟩ | ⟨u0, h⟩
   ·refine EL_y j3 (P_move rfl) rfl rfl u0 rfl ?_
    refine EL_do (.yes2 rfl rfl u0) rfl (D_buildSlice (g := l5) 3037 (xs := ([(3 : Int)] : List Int)) (vs := [.int .i64 (3)]) Try.underlying26 Try.sizeOf3 Try.zeroValue3 rfl rfl (.cons rfl .nil) (RVs.cons (RV_int.2 rfl) RVs.nil) rfl rfl fun i7 x8 j7 hs o25 m7 hxt hfl => ?_)
    have hfr := hfr.stp hs
    have o3 := o3.stp hs
    obtain ⟨z3, a7, h⟩ := bsome h
    refine EL_do (.yes2 rfl rfl u0) rfl (D_call (g := i7) (vs := [j3, j7]) en19 (.cons rfl (.cons rfl .nil)) (wk19 o3 m7 a7) fun q5 m8 y8 hs hr => ?_)
    have hfr := hfr.ext hs
    subst hr
    refine EL_p (.bool (z3)) (P_pick (b := (o0.2.2 == (0 : Int))) rfl (pick_t u0 rfl)) rfl ?_
    refine EL_mw (.bool (z3)) rfl rfl ?_
    rcases csome h with ⟨d3, h⟩ | ⟨d3, h⟩
    ·refine EL_y (.int .i64 (o0.1)) (P_move rfl) rfl rfl d3 rfl ?_
     refine EL_y (.bool ((o0.1 == (2 : Int)))) (P_int rfl rfl rfl) rfl rfl d3 rfl ?_
     refine EL_p (.bool ((o0.1 == (2 : Int)))) (P_pick (b := z3) rfl (pick_t d3 rfl)) rfl ?_
     refine EL_mw (.bool ((o0.1 == (2 : Int)))) rfl rfl ?_
     rcases csome h with ⟨i3, h⟩ | ⟨i3, h⟩
     ·refine EL_y (.int .i64 (o0.2.1)) (P_move rfl) rfl rfl i3 rfl ?_
      refine EL_y (.bool ((o0.2.1 == (40 : Int)))) (P_int rfl rfl rfl) rfl rfl i3 rfl ?_
      refine EL_p (.bool ((o0.2.1 == (40 : Int)))) (P_pick (b := (o0.1 == (2 : Int))) rfl (pick_t i3 rfl)) rfl ?_
      refine EL_at (.bool ((o0.2.1 == (40 : Int)))) rfl rfl ?_
      refine EL_nil ?_
      obtain rfl := sinj h
      exact hQ _ _ ⟨q5, hfr, rfl⟩
     ·refine EL_s rfl rfl i3 rfl rfl ?_
      refine EL_s rfl rfl i3 rfl rfl ?_
      refine EL_p (.bool false) (P_pick (b := (o0.1 == (2 : Int))) rfl (pick_f i3 rfl)) rfl ?_
      refine EL_at (.bool false) rfl rfl ?_
      refine EL_nil ?_
      obtain rfl := sinj h
      exact hQ _ _ ⟨q5, hfr, rfl⟩
    ·refine EL_s rfl rfl d3 rfl rfl ?_
     refine EL_s rfl rfl d3 rfl rfl ?_
     refine EL_p (.bool false) (P_pick (b := z3) rfl (pick_f d3 rfl)) rfl ?_
     refine EL_dead 4 rfl ?_
     refine EL_at (.bool false) rfl rfl ?_
     refine EL_nil ?_
     obtain rfl := sinj h
     exact hQ _ _ ⟨q5, hfr, rfl⟩
   ·refine EL_s rfl rfl u0 rfl rfl ?_
    refine EL_s rfl rfl u0 rfl rfl ?_
    refine EL_s rfl rfl u0 rfl rfl ?_
    refine EL_p (.bool false) (P_pick (b := (o0.2.2 == (0 : Int))) rfl (pick_f u0 rfl)) rfl ?_
    refine EL_dead 8 rfl ?_
    refine EL_at (.bool false) rfl rfl ?_
    refine EL_nil ?_
    obtain rfl := sinj h
    exact hQ _ _ ⟨l5, hfr, rfl⟩
  ·refine EL_s rfl rfl z2 rfl rfl ?_
   refine EL_s rfl rfl z2 rfl rfl ?_
   refine EL_p (.bool false) (P_pick (b := (j1.2 == (0 : Int))) rfl (pick_f z2 rfl)) rfl ?_
   refine EL_dead 13 rfl ?_
   refine EL_at (.bool false) rfl rfl ?_
   refine EL_nil ?_
   obtain rfl := sinj h
   exact hQ _ _ ⟨l5, hfr, rfl⟩
 ·clear hx
  obtain ⟨a9, hfr, t5⟩ := hR
  refine E_ret ?_
  obtain rfl := sinj h
  exact end1 rfl rfl (show _ = .bool (u3) from t5) ⟨_, hfr, rfl⟩
theorem v27_0 {iO : Nat} {gI : Gh} {wI : World} {x0 : TieHarness} {x1 : Design} {up0 : Value} (rp0 : RV gI.m wI x0 up0) {up1 : Value} (rp1 : RV gI.m wI x1 up1) {r : (List Str) × Int} (h : f27 x0 x1 = some r) : FnG Try.prog 27 #[up0, up1] gI wI (fun g w v => ∃ y0 y1, v = .tuple #[y0, y1] ∧ OM iO g w 9 (r.1) y0 ∧ y1 = .int .i64 (r.2)) := by
 unfold f27 at h
 refine fnG_of_E Try.func27 rfl (Nat.le_of_ble_eq_true rfl) fun g0 hm hfr => ?_
 have rp0 : RV g0.m wI x0 up0 := hm ▸ rp0
 have rp1 : RV g0.m wI x1 up1 := hm ▸ rp1
 show E _ 43 none _ _ _ _ _
 refine E_seq (E_region (EL_do .plain rfl (D_box (g := g0) rfl rp0 fun g1 w1 p1 hs q1 => ?_)))
 have hfr := hfr.ext hs
 have rp1 := rp1.ext hs
 refine EL_do .plain rfl (D_box (g := g1) rfl rp1 fun g2 w2 p2 hs q2 => ?_)
 have hfr := hfr.ext hs
 have q1 := q1.ext hs
 refine EL_at (.slice none 0 0) rfl rfl ?_
 refine EL_at (.int .i64 (0)) rfl rfl ?_
 refine EL_nil (thn_n (E_joinC h (fun (s : (List Str)) e w => ∃ (g : Gh) (v4 : Value), Fr gI wI g w ∧ e 2 = p1 ∧ PT g.m w (x0 : TieHarness) p1 ∧ e 3 = p2 ∧ PT g.m w (x1 : Design) p2 ∧ e 4 = v4 ∧ RV g.m w (s : List Str) v4 ∧ OS 1004 g w 9 (s : List Str) v4) (fun X7 k7 hk7 h => ?_) ?_))
 ·refine E_seq (E_region (EL_do .plain rfl (D_load (g := g2) Try.isAgg28 Try.sizeOf28 rfl q1 fun v8 r8 => ?_)))
  obtain ⟨z3, kA, h⟩ := bsome h
  refine EL_do .plain rfl (D_call (g := g2) (vs := [v8]) en69 (.cons rfl .nil) (wk69 r8 kA) fun g9 w9_ v9 hs hr => ?_)
  have hfr := hfr.ext hs
  have q1 := q1.ext hs
  have q2 := q2.ext hs
  subst hr
  refine EL_at (.int .i64 (z3)) rfl rfl ?_
  refine EL_nil (thn_n (E_seq (E_region (EL_mw (.int .i64 (z3)) rfl rfl ?_))))
  refine EL_in (.bool ((z3 != (0 : Int)))) rfl rfl rfl rfl ?_
  refine EL_nil (thn_n ?_)
  rcases csome h with ⟨v6, h⟩ | ⟨v6, h⟩
  ·refine E_ct v6 rfl ?_
   refine E_seq (E_region (EL_mw (.int .i64 (z3)) rfl rfl ?_))
   refine EL_at (.slice none 0 0) rfl rfl ?_
   refine EL_at (.int .i64 (z3)) rfl rfl ?_
   refine EL_nil (thn_n (E_ret (thn_r ?_)))
   obtain rfl := sinj h
   obtain ⟨gh, hxh, homh⟩ := OM.handn (i := iO) (t := 9) (α := Str) hfr
   exact end2 rfl rfl (show _ = .slice none 0 0 from rfl) (show _ = .int .i64 (z3) from rfl) ⟨gh, hxh, _, _, rfl, homh, rfl⟩
  ·refine E_cf v6 rfl ?_
   exact E_skip (thn_n (hk7 ([]) _ _ ⟨g9, (.slice none 0 0), hfr, rfl, q1, rfl, q2, rfl, RV_nil, OS.nil⟩ h))
 ·rintro g8 oB cC ⟨u9, i8, hfr, b7, j3, z4, z2, k8, i5, l5⟩ h
  refine E_joinC h (fun (s : (List Str)) e w => ∃ (g : Gh) (v4 : Value), Fr gI wI g w ∧ e 2 = p1 ∧ PT g.m w (x0 : TieHarness) p1 ∧ e 3 = p2 ∧ PT g.m w (x1 : Design) p2 ∧ e 4 = v4 ∧ RV g.m w (s : List Str) v4 ∧ OS 1004 g w 9 (s : List Str) v4) (fun X22 dC lA h => ?_) ?_
  ·refine E_seq (E_region (EL_do .plain rfl (D_load (g := u9) Try.isAgg30 Try.sizeOf30 z4 z2 fun rA sA => ?_)))
   obtain ⟨o3, mA, h⟩ := bsome h
   refine EL_do .plain rfl (D_call (g := u9) (vs := [rA]) en66 (.cons rfl .nil) (wk66 sA mA) fun j7 tB eC hs hr => ?_)
   have hfr := hfr.ext hs
   have j3 := j3.ext hs
   have z2 := z2.ext hs
   have i5 := i5.ext hs
   have l5 := l5.ext hs
   subst hr
   refine EL_at (.int .i64 (o3)) rfl rfl ?_
   refine EL_nil (thn_n (E_block ?_))
   refine E_seq (E_region (EL_mw (.int .i64 (o3)) rfl rfl ?_))
   refine EL_in (.bool ((o3 != (0 : Int)))) rfl rfl rfl rfl ?_
   refine EL_at (.bool ((o3 != (0 : Int)))) rfl rfl ?_
   refine EL_nil (thn_n ?_)
   rcases csome h with ⟨x6, h⟩ | ⟨x6, h⟩
   ·refine E_ct x6 rfl ?_
    refine E_seq (E_region (EL_mw (.int .i64 (o3)) rfl rfl ?_))
    refine EL_at (.slice none 0 0) rfl rfl ?_
    refine EL_at (.int .i64 (o3)) rfl rfl ?_
    refine EL_nil (thn_n (E_ret (blk_r ?_)))
    refine thn_r ?_
    obtain rfl := sinj h
    obtain ⟨gh, hxh, homh⟩ := OM.handn (i := iO) (t := 9) (α := Str) hfr
    exact end2 rfl rfl (show _ = .slice none 0 0 from rfl) (show _ = .int .i64 (o3) from rfl) ⟨gh, hxh, _, _, rfl, homh, rfl⟩
   ·refine E_cf x6 rfl ?_
    refine E_seq (E_region (EL_p (fPtr p2 0) (P_fieldAddr at_30_0 z4 (PT.ptr z2)) rfl ?_))
    have uA := PT_field (part_Design_0).1 z2
    refine EL_do .plain rfl (D_load (g := j7) Try.isAgg3 Try.sizeOf3 rfl uA fun iC xA => ?_)
    obtain rfl := RV_int.1 xA
    refine EL_p (fPtr p1 0) (P_fieldAddr at_28_0 b7 (PT.ptr j3)) rfl ?_
    have yA := PT_field (part_TieHarness_0).1 j3
    refine EL_do .plain rfl (D_load (g := j7) Try.isAgg3 Try.sizeOf3 rfl yA fun jC zA => ?_)
    obtain rfl := RV_int.1 zA
    refine EL_in (.bool (((x1).Hooks != (x0).Hooks))) rfl rfl rfl rfl ?_
    refine EL_at (.bool (((x1).Hooks != (x0).Hooks))) rfl rfl ?_
    refine EL_nil (thn_n ?_)
    rcases csome h with ⟨y6, h⟩ | ⟨y6, h⟩
    ·refine E_ct y6 rfl ?_
     refine E_seq (E_region (EL_at (.slice none 0 0) rfl rfl ?_))
     refine EL_at (.int .i64 (4)) rfl rfl ?_
     refine EL_nil (thn_n (E_ret (blk_r ?_)))
     refine thn_r ?_
     obtain rfl := sinj h
     obtain ⟨gh, hxh, homh⟩ := OM.handn (i := iO) (t := 9) (α := Str) hfr
     exact end2 rfl rfl (show _ = .slice none 0 0 from rfl) (show _ = .int .i64 (4) from rfl) ⟨gh, hxh, _, _, rfl, homh, rfl⟩
    ·refine E_cf y6 rfl ?_
     exact E_skip (blk_n (thn_n (lA (g8) _ _ ⟨j7, (i8), hfr, b7, j3, z4, z2, k8, i5, l5⟩ h)))
  ·rintro mB vB kC ⟨y9, l8, hfr, m8, n8, o8, c7, q8, t8, x8⟩ h
   obtain ⟨d7, hx, h⟩ := bsome h
   refine E_join (fun e w => ∃ (g : Gh) (v4 : Value), Fr gI wI g w ∧ e 4 = v4 ∧ RV g.m w (d7 : List Str) v4 ∧ OS 1004 g w 9 (d7 : List Str) v4) (fun Q' hQ => ?_) (fun xB lC hR => ?_)
   ·replace h := hx
    clear hx
    refine E_seq (E_region (EL_p (fPtr p2 1) (P_fieldAddr at_30_1 o8 (PT.ptr c7)) rfl ?_))
    have aB := PT_field (part_Design_1).1 c7
    refine EL_do .plain rfl (D_load (g := y9) Try.isAgg26 Try.sizeOf26 rfl aB fun t5 z9 => ?_)
    refine EL_p (.int .i64 (((x1).Rows).length : Int)) (P_len Try.underlying26 rfl z9) rfl ?_
    refine EL_mw (.int .i64 (0)) rfl rfl ?_
    refine EL_nil (thn_n (E_block ?_))
    refine E_lp h (fun (s : (List Str) × Int) e w => ∃ (g : Gh) (v4 : Value), Fr gI wI g w ∧ e 2 = p1 ∧ PT g.m w (x0 : TieHarness) p1 ∧ e 4 = v4 ∧ RV g.m w (s.1 : List Str) v4 ∧ OS 1004 g w 9 (s.1 : List Str) v4 ∧ e 28 = t5 ∧ RV g.m w ((x1).Rows : List Int) t5 ∧ e 29 = .int .i64 ((((x1).Rows).length : Int)) ∧ e 30 = .int .i64 (s.2)) ⟨y9, (l8), hfr, m8, n8, q8, t8, x8, rfl, z9, rfl, rfl⟩ (fun X61 mC nA => ?_)
    rintro ⟨nB, j1⟩ yB qC ⟨x5, y8, hfr, e7, u0, g7, d3, i3, i6, o0, j6, u3⟩ h
    refine E_seq (E_region (EL_p (.bool ((decide (j1 < (((x1).Rows).length : Int))))) (P_int u3 j6 rfl) rfl ?_))
    refine EL_nil (thn_n (E_seq ?_))
    rcases csome h with ⟨a7, h⟩ | ⟨a7, h⟩
    ·refine E_ct a7 rfl ?_
     refine E_skip (thn_n ?_)
     obtain ⟨q5, hx, h⟩ := bsome h
     refine E_join (fun e w => ∃ (g : Gh) (v4 : Value), Fr gI wI g w ∧ e 2 = p1 ∧ PT g.m w (x0 : TieHarness) p1 ∧ e 4 = v4 ∧ RV g.m w (q5 : List Str) v4 ∧ OS 1004 g w 9 (q5 : List Str) v4 ∧ e 28 = t5 ∧ RV g.m w ((x1).Rows : List Int) t5 ∧ e 29 = .int .i64 ((((x1).Rows).length : Int)) ∧ e 30 = .int .i64 (j1)) (fun Q' hQ => ?_) (fun zB rC hR => ?_)
     ·replace h := hx
      clear hx
      refine E_block ?_
      refine E_seq (E_region ?_)
      obtain ⟨m7, n7, h⟩ := bsome h
      refine EL_p (ePtr t5 j1 1) (P_indexAddr (α := Int) Try.underlying26 Try.sizeOf3 i6 o0 u3 n7) rfl ?_
      have bB := PT_idx o0 n7
      refine EL_do .plain rfl (D_load (g := x5) Try.isAgg3 Try.sizeOf3 rfl bB fun tC cB => ?_)
      obtain rfl := RV_int.1 cB
      refine EL_at (.int .i64 (m7)) rfl rfl ?_
      refine EL_nil (thn_n (E_region (EL_mv g7 rfl ?_)))
      refine EL_do .plain rfl (D_load (g := x5) Try.isAgg28 Try.sizeOf28 e7 u0 fun o7 bA => ?_)
      have gA : RV x5.m _ (⟨x0⟩ : TieTieHarness) (.agg (setCh [[.int .i64 0, .slice none 0 0]] [(0, o7)]).flatten.toArray) := RV_build rfl (rep_last (RV.cells bA))
      generalize oA : (Value.agg (setCh [[.int .i64 0, .slice none 0 0]] [(0, o7)]).flatten.toArray) = iA at gA
      refine EL_p iA (oA ▸ P_build (vs := [(0, o7)]) [[.int .i64 0, .slice none 0 0]] lay_155 rfl rfl (.cons rfl .nil) ⟨⟨_, rfl, cells_size bA⟩, trivial⟩) rfl ?_
      refine EL_mw (.int .i64 (m7)) rfl rfl ?_
      obtain ⟨y81, pA, h⟩ := bsome h
      refine EL_do .plain rfl (D_call (g := x5) (vs := [iA, .int .i64 (m7)]) en70 (.cons rfl (.cons rfl .nil)) (wk70 gA pA) fun dB aC uC hs hr => ?_)
      have hfr := hfr.ext hs
      have u0 := u0.ext hs
      have d3 := d3.ext hs
      have i3 := i3.ext hs
      have o0 := o0.ext hs
      subst hr
      refine EL_do .plain rfl (D_buildSlice (g := dB) 3039 (xs := ([y81] : List Str)) (vs := [Str.v (y81)]) Try.underlying38 Try.sizeOf9 Try.zeroValue9 rfl rfl (.cons rfl .nil) (RVs.cons (RV_str.2 rfl) RVs.nil) rfl rfl fun eB vC xC hs o82 iB hxt hfl => ?_)
      have hfr := hfr.stp hs
      have u0 := u0.stp hs
      have d3 := d3.stp hs
      have i3 := i3.stp hs rfl
      have o0 := o0.stp hs
      obtain ⟨y84, qA, h⟩ := bsome h
      refine EL_do .plain rfl (D_append (g := eB) (i := 1004) Try.underlying38 info_9 rfl rfl i3 d3 rfl iB qA fun jB yC jA hs o83 kB _ => ?_)
      have hfr := hfr.stp hs
      have u0 := u0.stp hs
      have o0 := o0.stp hs
      refine EL_at jA rfl rfl ?_
      refine EL_nil (blk_n ?_)
      obtain rfl := sinj h
      exact hQ _ _ ⟨jB, (jA), hfr, e7, u0, rfl, kB, o83, i6, o0, j6, u3⟩
     ·clear hx
      obtain ⟨lB, a9, hfr, d9, e9, i9, k9, l9, u7, v7, c8, e8⟩ := hR
      refine E_region (EL_in (.int .i64 ((w64 (j1 + (1 : Int))))) e8 rfl rfl rfl ?_)
      refine EL_mw (.int .i64 ((w64 (j1 + (1 : Int))))) rfl rfl ?_
      exact EL_nil (thn_n (nA (q5, (w64 (j1 + (1 : Int)))) _ _ ⟨lB, (a9), hfr, d9, e9, i9, k9, l9, u7, v7, c8, rfl⟩ h))
    ·refine E_cf a7 rfl ?_
     refine E_exit ?_
     refine thn_e ?_
     refine thn_e ?_
     refine blk_hit ?_
     obtain rfl := sinj h
     exact hQ _ _ ⟨x5, (y8), hfr, g7, d3, i3⟩
   ·clear hx
    obtain ⟨aD, i7, hfr, n9, o9, t9⟩ := hR
    refine E_seq (E_region (EL_mv n9 rfl ?_))
    refine EL_at i7 rfl rfl ?_
    refine EL_at (.int .i64 (0)) rfl rfl ?_
    refine EL_nil (thn_n (E_ret ?_))
    obtain rfl := sinj h
    obtain ⟨gh, hxh, homh⟩ := OM.hand (i := iO) plain_str hfr t9 o9
    exact end2 rfl rfl (show _ = i7 from rfl) (show _ = .int .i64 (0) from rfl) ⟨gh, hxh, _, _, rfl, homh, rfl⟩
def f42 (x0 : FaultFaultLoom) (x1 : List FaultDamage) : Option ((List Str)) :=
 (f54 ((((x0).FaultLoom).Design).Rows)).bind fun y8 =>
 (f86 x1).bind fun y11 =>
 (f87 y11 ((fun a0 a1 => f88 a0 a1))).bind fun d7 =>
 Option.bind (α := (List Int) × (List (Int × Bool))) (
  lp (σ := (List Int) × (List (Int × Bool)) × Int) (fun kD (x8, a9, j1) =>
   bif (decide (j1 < ((d7).length : Int))) then
    Option.bind (α := (List Int) × (List (Int × Bool))) (
     (idx d7 j1).bind fun y55 =>
     (fchg ((y55).Kind) x0 y55 x8 a9).bind fun eB =>
     some (eB.1, eB.2)
     ) fun (o7, u7) =>
    kD (o7, u7, (w64 (j1 + (1 : Int))))
   else
    some (x8, a9)
   ) big (y8, ([] : List (Int × Bool)), (0 : Int))
  ) fun (c8, t5) =>
 (f27 (((x0).FaultLoom).Harness) ((⟨(((x0).FaultLoom).Design).Hooks, c8⟩ : Design))).bind fun x5 =>
 Option.bind (α := (List Str)) (
  lp (σ := (List Str) × Int) (fun iB (o3, o0) =>
   bif (decide (o0 < ((x5.1).length : Int))) then
    Option.bind (α := (List Str)) (
     (idx o3 o0).bind fun g8 =>
     Option.bind (α := (List UInt8)) (
      lp (σ := (List UInt8) × (List (Int × Bool))) (fun jB (u3, j7) =>
       bif j7.isEmpty then
        some (u3)
       else pickAll j7 fun i6 rm160 =>
        (idx u3 i6.1).bind fun uD =>
        jB ((List.set u3 (Int.toNat i6.1) ((46 : UInt8))), rm160)
       ) big ((g8).b, t5)
      ) fun x6 =>
     (idx o3 o0).bind fun y165 =>
     some ((List.set o3 (Int.toNat o0) ((⟨x6⟩ : Str))))
     ) fun e7 =>
    iB (e7, (w64 (o0 + (1 : Int))))
   else
    some (o3)
   ) big (x5.1, (0 : Int))
  ) fun i8 =>
 some (i8)
theorem en42 : Enters Try.prog 42 := enters_of Try.func42 (by kernel_rfl) rfl
theorem wk42 {gI : Gh} {wI : World} {x0 : FaultFaultLoom} {x1 : List FaultDamage} {up0 : Value} (rp0 : RV gI.m wI x0 up0) {up1 : Value} (rp1 : RV gI.m wI x1 up1) {r : (List Str)} (h : f42 x0 x1 = some r) : Fn Try.prog 42 #[up0, up1] gI wI (fun m w v => RV m w (r) v) := by
 unfold f42 at h
 refine fn_of_E Try.func42 rfl (Nat.le_of_ble_eq_true rfl) fun g0 hm hfr => ?_
 have rp0 : RV g0.m wI x0 up0 := hm ▸ rp0
 have rp1 : RV g0.m wI x1 up1 := hm ▸ rp1
 show E _ 79 none _ _ _ _ _
 refine E_seq (E_region (EL_do .plain rfl (D_box (g := g0) rfl rp0 fun g1 w1 p1 hs q1 => ?_)))
 have hfr := hfr.ext hs
 have rp1 := rp1.ext hs
 refine EL_at (.slice none 0 0) rfl rfl ?_
 have b2 : OA 4004 g1 w1 9 ([] : List Str) (.slice none 0 0) := OA.nil
 refine EL_nil (thn_n (E_seq (E_region (EL_p (fPtr p1 0) (P_fieldAddr at_104_0 rfl (PT.ptr q1)) rfl ?_))))
 have q3 := PT_field (part_FaultFaultLoom_0).1 q1
 refine EL_p (fPtr (fPtr p1 0) 2) (P_fieldAddr at_32_1 rfl (PT.ptr q3)) rfl ?_
 have q4 := PT_field (part_FaultLoom_1).1 q3
 refine EL_p (fPtr (fPtr (fPtr p1 0) 2) 1) (P_fieldAddr at_30_1 rfl (PT.ptr q4)) rfl ?_
 have q5 := PT_field (part_Design_1).1 q4
 refine EL_do .plain rfl (D_load (g := g1) Try.isAgg26 Try.sizeOf26 rfl q5 fun v6 r6 => ?_)
 obtain ⟨y8, nE, h⟩ := bsome h
 refine EL_do .plain rfl (D_callG (g := g1) (vs := [v6]) en54 (.cons rfl .nil) (v54_0 (iO := 9018) r6 nE) fun g7 w7_ v7 hs hr => ?_)
 have hfr := hfr.ext hs
 have rp1 := rp1.ext hs
 have q1 := q1.ext hs
 have hm7 := hr
 refine EL_do .plain rfl (D_makeMap (g := g7) (Value.int .i64) Bool 8019 fun g9 w9 v9 hs m9 => ?_)
 have hfr := hfr.stp hs
 have rp1 := rp1.stp hs
 have q1 := q1.stp hs
 have hm7 := hm7.stp hs rfl
 refine EL_at v7 rfl rfl ?_
 refine EL_at v9 rfl rfl ?_
 refine EL_nil (thn_n (E_seq (E_region (EL_mw up1 rfl rfl ?_))))
 obtain ⟨y11, vD, h⟩ := bsome h
 refine EL_do .plain rfl (D_callG (g := g9) (vs := [up1]) en86 (.cons rfl .nil) (v86_0 (iO := 9021) rp1 vD) fun oE xF j6 hs hr => ?_)
 have hfr := hfr.ext hs
 have q1 := q1.ext hs
 have hm7 := hm7.ext hs
 have m9 := m9.ext hs
 have hm10 := hr
 refine EL_at j6 rfl rfl ?_
 refine EL_nil (thn_n (E_seq (E_region (EL_mw j6 rfl rfl ?_))))
 obtain ⟨d7, xD, h⟩ := bsome h
 refine EL_do .plain rfl (D_callM (g := oE) (i := 9021) (vs := [j6, .func (.func 88) #[] #[]]) en87 (.cons rfl (.cons rfl .nil)) (wk87 hm10 ⟨88, #[], #[], rfl, en88, fun g' w' hch a0 a1 b0 b1 r hu0 hu1 hr => by exact Fn.mono (wk88 hu0 hu1  hr) fun _ _ _ h => RV_int.2 h⟩ xD) fun rE yF sG hs hr => ?_)
 obtain ⟨hrv, b12⟩ := hr
 have hfr := hfr.stp hs
 have q1 := q1.stp hs
 have hm7 := hm7.stp hs rfl
 have m9 := m9.stp hs rfl
 subst hrv
 refine EL_nil (thn_n (E_seq (E_region (EL_do .plain rfl (D_callG (g := rE) (vs := []) en90 .nil (wk90 (i := 8800)) fun sE tG n9 hs m14 => ?_)))))
 have hfr := hfr.ext hs
 have b12 := b12.ext hs
 have q1 := q1.ext hs
 have hm7 := hm7.ext hs
 have m9 := m9.ext hs
 refine EL_at n9 rfl rfl ?_
 refine EL_nil (thn_n ?_)
 obtain ⟨⟨c8, t5⟩, hx, h⟩ := bsome h
 refine E_join (fun e w => ∃ (g : Gh) , Fr gI wI g w ∧ e 2 = p1 ∧ PT g.m w (x0 : FaultFaultLoom) p1 ∧ e 5 = v7 ∧ OM 9018 g w 3 (c8 : List Int) v7 ∧ e 6 = v9 ∧ MP (Value.int .i64) 8019 g w (t5 : List (Int × Bool)) v9) (fun Q' hQ => ?_) (fun zF uG hR => ?_)
 ·replace h := hx
  clear hx
  refine E_seq (E_region (EL_mw j6 rfl rfl ?_))
  refine EL_p (.int .i64 ((d7).length : Int)) (P_lenM Try.underlying47 rfl b12) rfl ?_
  refine EL_mw (.int .i64 (0)) rfl rfl ?_
  refine EL_nil (thn_n (E_block ?_))
  refine E_lp h (fun (s : (List Int) × (List (Int × Bool)) × Int) e w => ∃ (g : Gh) , Fr gI wI g w ∧ e 1 = j6 ∧ OM 9021 g w 37 (d7 : List FaultDamage) j6 ∧ e 2 = p1 ∧ PT g.m w (x0 : FaultFaultLoom) p1 ∧ e 5 = v7 ∧ OM 9018 g w 3 (s.1 : List Int) v7 ∧ e 6 = v9 ∧ MP (Value.int .i64) 8019 g w (s.2.1 : List (Int × Bool)) v9 ∧ e 7 = n9 ∧ MP (Value.int .i64) 8800 g w chgM n9 ∧ e 25 = j6 ∧ e 26 = .int .i64 (((d7).length : Int)) ∧ e 27 = .int .i64 (s.2.2)) ⟨sE, hfr, rfl, b12, rfl, q1, rfl, hm7, rfl, m9, rfl, m14, rfl, rfl, rfl⟩ (fun X41 kD yD => ?_)
  rintro ⟨x8, a9, j1⟩ aG vG ⟨kB, hfr, lC, z2, d9, d3, e9, y6, i9, a7, nA, i3, o9, t9, k8⟩ h
  refine E_seq (E_region (EL_in (.bool ((decide (j1 < ((d7).length : Int))))) k8 t9 rfl rfl ?_))
  refine EL_nil (thn_n (E_seq ?_))
  rcases csome h with ⟨kA, h⟩ | ⟨kA, h⟩
  ·refine E_ct kA rfl ?_
   refine E_skip (thn_n ?_)
   obtain ⟨⟨o7, u7⟩, hx, h⟩ := bsome h
   refine E_join (fun e w => ∃ (g : Gh) , Fr gI wI g w ∧ e 1 = j6 ∧ OM 9021 g w 37 (d7 : List FaultDamage) j6 ∧ e 2 = p1 ∧ PT g.m w (x0 : FaultFaultLoom) p1 ∧ e 5 = v7 ∧ OM 9018 g w 3 (o7 : List Int) v7 ∧ e 6 = v9 ∧ MP (Value.int .i64) 8019 g w (u7 : List (Int × Bool)) v9 ∧ e 7 = n9 ∧ MP (Value.int .i64) 8800 g w chgM n9 ∧ e 25 = j6 ∧ e 26 = .int .i64 (((d7).length : Int)) ∧ e 27 = .int .i64 (j1)) (fun Q' hQ => ?_) (fun bG xG hR => ?_)
   ·replace h := hx
    clear hx
    refine E_block ?_
    refine E_seq (E_region ?_)
    obtain ⟨y55, lB, h⟩ := bsome h
    refine EL_p (ePtr j6 j1 5) (P_indexAddrM (α := FaultDamage) Try.underlying47 Try.sizeOf37 o9 z2 k8 lB) rfl ?_
    refine EL_do .plain rfl (D_loadM (g := kB) Try.isAgg37 Try.sizeOf37 rfl z2 lB fun tE mB => ?_)
    refine EL_do .plain rfl (D_allocOc (g := kB) 2009 (⟨0, 0, 0, 0, false⟩ : FaultDamage) Try.zeroValue37 (fun m w => ⟨_, (rep_two rep_int (rep_two rep_int (rep_two rep_int (rep_two rep_int rep_bool)))), rfl⟩) fun uE yG vE hs b57 cb => ?_)
    have hfr := hfr.stp hs
    have z2 := z2.stp hs rfl
    have d3 := d3.stp hs
    have y6 := y6.stp hs rfl
    have a7 := a7.stp hs rfl
    have i3 := i3.stp hs rfl
    have mB := mB.stp hs
    clear cb
    refine EL_do .plain rfl (D_storeOc (g := uE) (v := tE) Try.sizeOf37 rfl b57 rfl mB fun u9 zG hs b58 cb => ?_)
    clear cb
    have hfr := hfr.stp hs
    have z2 := z2.stp hs rfl
    have d3 := d3.stp hs
    have y6 := y6.stp hs rfl
    have a7 := a7.stp hs rfl
    have i3 := i3.stp hs rfl
    refine EL_nil (thn_n (E_region (EL_mv nA rfl ?_)))
    refine EL_p (fPtr vE 0) (P_fieldAddr at_37_0 rfl (OB.ptr b58)) rfl ?_
    refine EL_do .plain rfl (D_loadF (g := u9) part_FaultDamage_0.1 Try.isAgg35 Try.sizeOf35 rfl b58 fun aH xE => ?_)
    obtain rfl := RV_int.1 xE
    refine EL_do .plain rfl (D_lookup (g := u9) (z0 := fv0) Try.underlying185 key_35 Try.zeroValue188 (fun _ _ => RV_fv.2 rfl) rfl i3 rfl fun bH yE => ?_)
    have zD := RV_fv.1 yE
    refine EL_do .plain rfl (D_load (g := u9) Try.isAgg104 Try.sizeOf104 d9 d3 fun v62 zE => ?_)
    refine EL_do .plain rfl (D_loadO (g := u9) Try.isAgg37 Try.sizeOf37 rfl b58 fun cH cF => ?_)
    refine EL_mv e9 rfl ?_
    refine EL_mv i9 rfl ?_
    obtain ⟨eB, aE, h⟩ := bsome h
    refine EL_do .plain rfl (D_chg (g := u9) (i := 9018) (j := 8019) aE (show _ = _ from zD) rfl rfl rfl rfl zE cF y6 a7 rfl rfl fun dH gH bE cG iH hs hs2 mr65 mb65 => ?_)
    have hfr := hfr.stp hs
    have z2 := z2.stp hs rfl
    have d3 := d3.stp hs
    have i3 := i3.stp hs rfl
    have hfr := hfr.stp hs2
    have z2 := z2.stp hs2 rfl
    have d3 := d3.stp hs2
    have i3 := i3.stp hs2 rfl
    refine EL_nil (blk_n ?_)
    obtain ⟨rfl, rfl⟩ := pairs2 h
    exact hQ _ _ ⟨bE, hfr, lC, z2, d9, d3, e9, mr65, i9, mb65, nA, i3, o9, t9, k8⟩
   ·clear hx
    obtain ⟨dF, hfr, mC, qC, rC, tC, uC, vC, xC, yC, aD, bD, nB, oB, tB⟩ := hR
    refine E_region (EL_in (.int .i64 ((w64 (j1 + (1 : Int))))) tB rfl rfl rfl ?_)
    refine EL_mw (.int .i64 ((w64 (j1 + (1 : Int))))) rfl rfl ?_
    exact EL_nil (thn_n (yD (o7, u7, (w64 (j1 + (1 : Int)))) _ _ ⟨dF, hfr, mC, qC, rC, tC, uC, vC, xC, yC, aD, bD, nB, oB, rfl⟩ h))
  ·refine E_cf kA rfl ?_
   refine E_exit ?_
   refine thn_e ?_
   refine thn_e ?_
   refine blk_hit ?_
   obtain ⟨rfl, rfl⟩ := pairs2 h
   exact hQ _ _ ⟨kB, hfr, d9, d3, e9, y6, i9, a7⟩
 ·clear hx
  obtain ⟨lD, hfr, oA, e8, cD, eD, gD, i7⟩ := hR
  refine E_seq (E_region (EL_p (fPtr p1 0) (P_fieldAddr at_104_0 oA (PT.ptr e8)) rfl ?_))
  have mD := PT_field (part_FaultFaultLoom_0).1 e8
  refine EL_p (fPtr (fPtr p1 0) 0) (P_fieldAddr at_32_0 rfl (PT.ptr mD)) rfl ?_
  have eF := PT_field (part_FaultLoom_0).1 mD
  refine EL_do .plain rfl (D_load (g := lD) Try.isAgg28 Try.sizeOf28 rfl eF fun iF vB => ?_)
  refine EL_p (fPtr p1 0) (P_fieldAddr at_104_0 oA (PT.ptr e8)) rfl ?_
  have nD := PT_field (part_FaultFaultLoom_0).1 e8
  refine EL_p (fPtr (fPtr p1 0) 2) (P_fieldAddr at_32_1 rfl (PT.ptr nD)) rfl ?_
  have oD := PT_field (part_FaultLoom_1).1 nD
  refine EL_p (fPtr (fPtr (fPtr p1 0) 2) 0) (P_fieldAddr at_30_0 rfl (PT.ptr oD)) rfl ?_
  have nF := PT_field (part_Design_0).1 oD
  refine EL_do .plain rfl (D_load (g := lD) Try.isAgg3 Try.sizeOf3 rfl nF fun jH oF => ?_)
  obtain rfl := RV_int.1 oF
  refine EL_mv cD rfl ?_
  obtain ⟨gp77, hs, rp77⟩ := OM.pub eD
  have hfr := hfr.stp hs
  have i7 := i7.stp hs rfl
  have vB := vB.stp hs
  have sD : RV gp77.m _ (⟨(((x0).FaultLoom).Design).Hooks, c8⟩ : Design) (.agg (setCh [[.int .i64 0], [.slice none 0 0]] [(0, .int .i64 ((((x0).FaultLoom).Design).Hooks)), (1, v7)]).flatten.toArray) := RV_build rfl (rep_pair (rfl) (rep_last (RV.cells rp77)))
  generalize cE : (Value.agg (setCh [[.int .i64 0], [.slice none 0 0]] [(0, .int .i64 ((((x0).FaultLoom).Design).Hooks)), (1, v7)]).flatten.toArray) = tD at sD
  refine EL_p tD (cE ▸ P_build (vs := [(0, .int .i64 ((((x0).FaultLoom).Design).Hooks)), (1, v7)]) [[.int .i64 0], [.slice none 0 0]] lay_30 rfl rfl (.cons rfl (.cons rfl .nil)) ⟨⟨_, rfl, rfl⟩, ⟨⟨_, rfl, cells_size rp77⟩, trivial⟩⟩) rfl ?_
  obtain ⟨x5, dE, h⟩ := bsome h
  refine EL_do .plain rfl (D_callG (g := gp77) (vs := [iF, tD]) en27 (.cons rfl (.cons rfl .nil)) (v27_0 (iO := 9051) vB sD dE) fun pF dG kH hs hr => ?_)
  have hfr := hfr.ext hs
  have i7 := i7.ext hs
  obtain ⟨u0, qF, rfl, hm78, rfl⟩ := hr
  refine EL_mw (.tuple #[u0, .int .i64 (x5.2)]) rfl rfl ?_
  refine EL_p u0 (P_extract rfl rfl) rfl ?_
  refine EL_p (.int .i64 (x5.2)) (P_extract rfl rfl) rfl ?_
  refine EL_at u0 rfl rfl ?_
  refine EL_nil (thn_n ?_)
  obtain ⟨i8, hx, h⟩ := bsome h
  refine E_join (fun e w => ∃ (g : Gh) , Fr gI wI g w ∧ e 4 = u0 ∧ OM 9051 g w 9 (i8 : List Str) u0) (fun Q' hQ => ?_) (fun rF eG hR => ?_)
  ·replace h := hx
   clear hx
   refine E_seq (E_region (EL_mw u0 rfl rfl ?_))
   refine EL_p (.int .i64 ((x5.1).length : Int)) (P_lenM Try.underlying38 rfl hm78) rfl ?_
   refine EL_mw (.int .i64 (0)) rfl rfl ?_
   refine EL_nil (thn_n (E_block ?_))
   refine E_lp h (fun (s : (List Str) × Int) e w => ∃ (g : Gh) , Fr gI wI g w ∧ e 4 = u0 ∧ OM 9051 g w 9 (s.1 : List Str) u0 ∧ e 6 = v9 ∧ MP (Value.int .i64) 8019 g w (t5 : List (Int × Bool)) v9 ∧ e 54 = u0 ∧ e 55 = .int .i64 (((x5.1).length : Int)) ∧ e 56 = .int .i64 (s.2)) ⟨pF, hfr, rfl, hm78, gD, i7, rfl, rfl, rfl⟩ (fun X124 iB iD => ?_)
   rintro ⟨o3, o0⟩ sF gG ⟨lA, hfr, y9, j3, z9, z3, m8, n8, b7⟩ h
   refine E_seq (E_region (EL_in (.bool ((decide (o0 < ((x5.1).length : Int))))) b7 n8 rfl rfl ?_))
   refine EL_nil (thn_n (E_seq ?_))
   rcases csome h with ⟨k9, h⟩ | ⟨k9, h⟩
   ·refine E_ct k9 rfl ?_
    refine E_skip (thn_n ?_)
    obtain ⟨e7, hx, h⟩ := bsome h
    refine E_join (fun e w => ∃ (g : Gh) , Fr gI wI g w ∧ e 4 = u0 ∧ OM 9051 g w 9 (e7 : List Str) u0 ∧ e 6 = v9 ∧ MP (Value.int .i64) 8019 g w (t5 : List (Int × Bool)) v9 ∧ e 54 = u0 ∧ e 55 = .int .i64 (((x5.1).length : Int)) ∧ e 56 = .int .i64 (o0)) (fun Q' hQ => ?_) (fun tF hG hR => ?_)
    ·replace h := hx
     clear hx
     refine E_block ?_
     refine E_seq (E_region (EL_mv b7 rfl ?_))
     obtain ⟨g8, pA, h⟩ := bsome h
     refine EL_p (ePtr u0 o0 1) (P_indexAddrM (α := Str) Try.underlying38 Try.sizeOf9 m8 j3 b7 pA) rfl ?_
     refine EL_do .plain rfl (D_loadM (g := lA) Try.isAgg9 Try.sizeOf9 rfl j3 pA fun iG eE => ?_)
     obtain rfl := RV_str.1 eE
     refine EL_at (.int .i64 (o0)) rfl rfl ?_
     refine EL_at (Str.v (g8)) rfl rfl ?_
     refine EL_nil (thn_n (E_seq (E_region (EL_mw (Str.v (g8)) rfl rfl ?_))))
     refine EL_do .plain rfl (D_convSB (g := lA) (s := g8) 9062 Try.underlying9 Try.underlying22 Try.underlying5 rfl fun gE jG m7 hs m149 => ?_)
     have hfr := hfr.stp hs
     have j3 := j3.stp hs rfl
     have z3 := z3.stp hs rfl
     refine EL_at m7 rfl rfl ?_
     refine EL_nil (thn_n ?_)
     obtain ⟨x6, hx, h⟩ := bsome h
     refine E_join (fun e w => ∃ (g : Gh) , Fr gI wI g w ∧ e 4 = u0 ∧ OM 9051 g w 9 (o3 : List Str) u0 ∧ e 6 = v9 ∧ MP (Value.int .i64) 8019 g w (t5 : List (Int × Bool)) v9 ∧ e 10 = .int .i64 (o0) ∧ e 12 = m7 ∧ OM 9062 g w 5 (x6 : List UInt8) m7 ∧ e 54 = u0 ∧ e 55 = .int .i64 (((x5.1).length : Int)) ∧ e 56 = .int .i64 (o0)) (fun Q' hQ => ?_) (fun uF kG hR => ?_)
     ·replace h := hx
      clear hx
      refine E_seq (E_region (EL_mv z9 rfl ?_))
      refine EL_do .plain rfl (D_rangeM (g := gE) 7564 Try.underlying117 rfl z3 fun iE lG xB hs b157 => ?_)
      have hfr := hfr.stp hs
      have j3 := j3.stp hs rfl
      have z3 := z3.stp hs rfl
      have m149 := m149.stp hs rfl
      refine EL_nil (thn_n (E_block ?_))
      refine E_lp h (fun (s : (List UInt8) × (List (Int × Bool))) e w => ∃ (g : Gh) , Fr gI wI g w ∧ e 4 = u0 ∧ OM 9051 g w 9 (o3 : List Str) u0 ∧ e 6 = v9 ∧ MP (Value.int .i64) 8019 g w (t5 : List (Int × Bool)) v9 ∧ e 10 = .int .i64 (o0) ∧ e 12 = m7 ∧ OM 9062 g w 5 (s.1 : List UInt8) m7 ∧ e 54 = u0 ∧ e 55 = .int .i64 (((x5.1).length : Int)) ∧ e 56 = .int .i64 (o0) ∧ e 64 = xB ∧ MI (Value.int .i64) 7564 8019 g w (s.2 : List (Int × Bool)) none xB) ⟨iE, hfr, y9, j3, z9, z3, rfl, rfl, m149, m8, n8, b7, rfl, b157.dropc⟩ (fun X158 jB jD => ?_)
      rintro ⟨u3, j7⟩ vF mG ⟨mA, hfr, bA, z4, gA, i5, o8, n7, l5, q8, r8, t8, c7, v8⟩ h
      refine E_seq (E_region ?_)
      rcases csome h with ⟨l9, h⟩ | ⟨l9, h⟩
      ·refine EL_do .plain rfl (D_nextM_f (g := mA) c7 v8 l9 ?_)
       refine EL_p (.bool false) (P_extract rfl rfl) rfl ?_
       refine EL_nil (thn_n (E_seq (E_cond_false (by rw [show ev _ _ = _ from rfl]; exact congrArg Value.bool rfl) ?_)))
       refine E_exit ?_
       refine thn_e ?_
       refine thn_e ?_
       refine blk_hit ?_
       obtain rfl := sinj h
       exact hQ _ _ ⟨mA, hfr, bA, z4, gA, i5, o8, n7, l5, q8, r8, t8⟩
      ·refine EL_do .plain rfl (D_nextM_t (g := mA) c7 v8 rfl l9 fun i6 rm160 u160 yB nG hmem hs b160 ru160 => ?_)
       replace h := pickAll_h h _ hmem
       clear hmem
       obtain rfl := RV_bool.1 ru160
       have hfr := hfr.stp hs
       have z4 := z4.stp hs rfl
       have i5 := i5.stp hs rfl
       have l5 := l5.stp hs rfl
       refine EL_p (.bool true) (P_extract rfl rfl) rfl ?_
       refine EL_nil (thn_n (E_seq (E_cond_true (by rw [show ev _ _ = _ from rfl]; exact congrArg Value.bool rfl) ?_)))
       refine E_skip (thn_n (E_block ?_))
       refine E_seq (E_region (EL_do .plain rfl (D_entry (g := yB) c7 b160 fun oG jE => ?_)))
       obtain rfl := RV_bool.1 jE
       refine EL_p (.int .i64 (i6.1)) (P_extract rfl rfl) rfl ?_
       refine EL_at (.int .i64 (i6.1)) rfl rfl ?_
       refine EL_nil (thn_n (E_region (EL_mv n7 rfl ?_)))
       refine EL_mw (.int .i64 (i6.1)) rfl rfl ?_
       obtain ⟨uD, qA, h⟩ := bsome h
       refine EL_p (ePtr m7 i6.1 1) (P_indexAddrM (α := UInt8) Try.underlying22 Try.sizeOf5 rfl l5 rfl qA) rfl ?_
       refine EL_do .plain rfl (D_storeM (g := yB) (α := UInt8) (a' := ((46 : UInt8))) Try.sizeOf5 rfl l5 qA rfl (RV_u8.2 rfl) fun kE pG hs b163 => ?_)
       have hfr := hfr.stp hs
       have z4 := z4.stp hs rfl
       have i5 := i5.stp hs rfl
       have b160 := b160.stp hs rfl
       exact EL_nil (blk_n (thn_n (jD ((List.set u3 (Int.toNat i6.1) ((46 : UInt8))), rm160) _ _ ⟨kE, hfr, bA, z4, gA, i5, o8, n7, b163, q8, r8, t8, c7, b160.dropc⟩ h)))
     ·clear hx
      obtain ⟨zB, hfr, iA, jA, aC, l8, sA, uA, xA, yA, zA, aB⟩ := hR
      refine E_region (EL_mv iA rfl ?_)
      refine EL_mv sA rfl ?_
      refine EL_mv uA rfl ?_
      refine EL_do .plain rfl (D_convBS (g := zB) Try.underlying22 Try.underlying9 Try.underlying5 rfl xA ?_)
      obtain ⟨y165, rA, h⟩ := bsome h
      refine EL_p (ePtr u0 o0 1) (P_indexAddrM (α := Str) Try.underlying38 Try.sizeOf9 rfl jA rfl rA) rfl ?_
      refine EL_do .plain rfl (D_storeM (g := zB) (α := Str) (a' := ((⟨x6⟩ : Str))) Try.sizeOf9 rfl jA rA rfl (RV_str.2 rfl) fun lE qG hs b166 => ?_)
      have hfr := hfr.stp hs
      have l8 := l8.stp hs rfl
      refine EL_nil (blk_n ?_)
      obtain rfl := sinj h
      exact hQ _ _ ⟨lE, hfr, iA, b166, aC, l8, yA, zA, aB⟩
    ·clear hx
     obtain ⟨mE, hfr, cC, dC, eC, iC, bB, cB, dB⟩ := hR
     refine E_region (EL_in (.int .i64 ((w64 (o0 + (1 : Int))))) dB rfl rfl rfl ?_)
     refine EL_mw (.int .i64 ((w64 (o0 + (1 : Int))))) rfl rfl ?_
     exact EL_nil (thn_n (iD (e7, (w64 (o0 + (1 : Int)))) _ _ ⟨mE, hfr, cC, dC, eC, iC, bB, cB, rfl⟩ h))
   ·refine E_cf k9 rfl ?_
    refine E_exit ?_
    refine thn_e ?_
    refine thn_e ?_
    refine blk_hit ?_
    obtain rfl := sinj h
    exact hQ _ _ ⟨lA, hfr, y9, j3⟩
  ·clear hx
   obtain ⟨rG, hfr, jC, kC⟩ := hR
   refine E_seq (E_region (EL_mv jC rfl ?_))
   refine EL_at u0 rfl rfl ?_
   refine EL_nil (thn_n (E_ret ?_))
   obtain ⟨gp169, hs, rp169⟩ := OM.pub kC
   have hfr := hfr.stp hs
   obtain rfl := sinj h
   exact end1 rfl rfl (show _ = u0 from rfl) ⟨_, hfr, rp169⟩
def f52 (x0 : FaultFaultLoom) (σ : Type) (cons : Cons σ (FaultDamage × (List Str))) (s0 : σ) : Option σ :=
 (f42 x0 ([])).bind fun y5 =>
 ((fun σ cons s => f96 x0 σ cons s) (Nat × σ) (guardC fun i5 j3 =>
  (f42 x0 (([j3] : List FaultDamage))).bind fun y44 =>
  Option.bind (α := σ × Bool) (
   (f97 y44 y5).bind fun y55 =>
   bif (!y55) then
    (cons i5 (j3, y44)).bind fun (yb59, ys59) =>
    some (ys59, (!yb59))
   else
    some (i5, false)
   ) fun (cs_61, s26_61) =>
  bif s26_61 then
   some (false, ((1 : Nat), (cs_61)))
  else
   some (true, ((0 : Nat), (cs_61)))
  ) (0, (s0))).bind fun (o3, l5) =>
 bif Nat.beq o3 0 then
  some l5
 else
  some l5
theorem en52 : Enters Try.prog 52 := enters_of Try.func52 (by kernel_rfl) rfl
theorem wk52 {σ : Type} {cons : Cons σ (FaultDamage × (List Str))} {s0 r : σ} {gI : Gh} {wI : World} {x0 : FaultFaultLoom} {up0 : Value} (rp0 : RV gI.m wI x0 up0) (h : f52 x0 σ cons s0 = some r) : IterC Try.prog (RA2 (α := FaultDamage) (β := (List Str))) 52 #[up0] #[] gI wI cons s0 r := by
 unfold f52 at h
 refine iterD_of_E Try.func52 rfl (Nat.le_of_ble_eq_true rfl) fun l B J g0 hm hAb hRo hfr => ?_
 have hmk : MkF g0 wI [] := MkF.start
 have rp0 : RV g0.m wI x0 up0 := hm ▸ rp0
 show E _ 27 none _ _ (envAt #[up0, .func (.yield l) #[] #[]]) _ _
 refine E_seq (E_region (EL_do .plain rfl (D_box (g := g0) rfl rp0 fun g1 w1 p1 hs q1 => ?_)))
 have hfr := hfr.ext_ hAb hs
 have hmk := hmk.ext hs
 refine EL_do .plain rfl (D_box (g := g1) (a := (⟨(.func (.yield l) #[] #[]), rfl⟩ : Fv)) rfl (RV_fv.2 rfl) fun g2 w2 p2 hs q2 => ?_)
 have hfr := hfr.ext_ hAb hs
 have hmk := hmk.ext hs
 have q1 := q1.ext hs
 refine EL_nil (thn_n (E_seq (E_region (EL_do .plain rfl (D_load (g := g2) Try.isAgg104 Try.sizeOf104 rfl q1 fun v3 r3 => ?_)))))
 obtain ⟨y5, hy5, h⟩ := bsome h
 refine EL_do .plain rfl (D_call (g := g2) (vs := [v3, .slice none 0 0]) en42 (.cons rfl (.cons rfl .nil)) (wk42 r3 RV_nil hy5) fun g4 w4_ v4 hs hr => ?_)
 have hfr := hfr.ext_ hAb hs
 have hmk := hmk.ext hs
 have q1 := q1.ext hs
 have q2 := q2.ext hs
 have r4 := hr
 refine EL_do .plain rfl (D_allocOc (g := g4) 2004 ([] : List Str) Try.zeroValue38 (fun m w => ⟨_, rep_nil, rfl⟩) fun g6 w6 p6 hs b6 cb => ?_)
 have hfr := hfr.stp_ hAb hs rfl
 have hmk := hmk.stp hs
 have q1 := q1.stp hs
 have q2 := q2.stp hs
 have r4 := r4.stp hs
 have y9 : OSF 2004 60400 0 g6 w6 9 38 ([] : List Str) p6 := cb.osf (by rfl)
 clear cb
 refine EL_do .plain rfl (D_storeOc (g := g6) (v := v4) Try.sizeOf38 rfl b6 rfl r4 fun g7 w7 hs b7 cb => ?_)
 clear cb
 have hfr := hfr.stp_ hAb hs rfl
 have hmk := hmk.stp hs
 have q1 := q1.stp hs
 have q2 := q2.stp hs
 refine EL_nil (thn_n (E_seq (E_region (EL_do .plain rfl (D_load (g := g7) Try.isAgg104 Try.sizeOf104 rfl q1 fun v8 r8 => ?_)))))
 refine EL_p ((.func (.func 96) #[v8] #[])) (P_makeFunc (capf_1_0 (show ev _ _ = v8 from rfl))) rfl ?_
 refine EL_nil (thn_n (E_block ?_))
 have hB0 := hfr.hB
 have hmk0 := hmk
 obtain ⟨⟨o3, l5⟩, hφ, h⟩ := bsome h
 refine E_rangeFunc (σ := (Nat × σ)) (s0 := (0, (s0))) 10 rfl (fun s => s.1) [.ret] (fun (s : Nat × σ) (g : Gh) (w : World) => FrY gI wI B J (s.2) g w ∧ MkF g w [] ∧ PT g.m w (x0 : FaultFaultLoom) p1 ∧ PT g.m w (⟨(.func (.yield l) #[] #[]), rfl⟩ : Fv) p2 ∧ OB 2004 g w 38 (y5 : List Str) p6) rfl (show ItV Try.prog (RA1 (α := FaultDamage)) (fun σ cons s => f96 x0 σ cons s) ((.func (.func 96) #[v8] #[])) g7.m w7 from ⟨96, #[v8], #[], rfl, en96, fun g' w' hch σ cons s s' h => wk96 (r8.ch hch)  h⟩) hφ (fun _ _ _ h => (guardC_h h).1) rfl ra1_size rfl (fun _ _ _ _ _ hx hR => by obtain ⟨hfr, hmk, z2, z3, z4⟩ := hR; exact ⟨hfr.ist_ hAb hx hB0, hmk.ist hx, z2.ist hx, z3.ist hx, z4.ist hx⟩) (fun _ _ _ _ _ hx hR => by obtain ⟨hfr, hmk, z2, z3, z4⟩ := hR; exact ⟨hfr.stp_ hAb hx rfl, hmk.stp hx, z2.stp hx, z3.stp hx, z4.stp hx rfl⟩) ⟨hfr, hmk, q1, q2, b7⟩ (fun _ h => by cases h) ?_ ?_
 ·intro o7 i7 s x b s2 a7 m7 vs hsz h hR hrec_0 c7 hrd
  obtain ⟨hs0, h⟩ := guardC_h h
  obtain ⟨st, i5⟩ := s
  obtain ⟨hfr, hmk, u0, j1, d3⟩ := hR
  obtain ⟨j3, hxe⟩ : ∃ y, y = x := ⟨x, rfl⟩
  subst hxe
  obtain ⟨j7, rfl, u3⟩ := ra1_get hrd
  have o0 := RFr.refl a7 m7
  refine E_region (EL_do .plain rfl (D_allocOc (g := a7) 2005 (⟨0, 0, 0, 0, false⟩ : FaultDamage) Try.zeroValue37 (fun m w => ⟨_, (rep_two rep_int (rep_two rep_int (rep_two rep_int (rep_two rep_int rep_bool)))), rfl⟩) fun e8 iA jA hs b37 cb => ?_))
  have hfr := hfr.stp_ hAb hs rfl
  have hmk := hmk.stp hs
  have o0 := o0.stp hs
  have hrec_0 := hrec_0.stp hs rfl
  have u0 := u0.stp hs
  have j1 := j1.stp hs
  have d3 := d3.stp hs rfl
  have u3 := u3.stp hs
  clear cb
  refine EL_do .plain rfl (D_storeOc (g := e8) (v := j7) Try.sizeOf37 rfl b37 rfl u3 fun d7 kA hs b38 cb => ?_)
  clear cb
  have hfr := hfr.stp_ hAb hs rfl
  have hmk := hmk.stp hs
  have o0 := o0.stp hs
  have hrec_0 := hrec_0.stp hs rfl
  have u0 := u0.stp hs
  have j1 := j1.stp hs
  have d3 := d3.stp hs rfl
  refine EL_nil (thn_n ?_)
  obtain ⟨g8, hbr, hs, hrN⟩ := begin_round hrec_0 c7
  refine ⟨g8, hbr, ?_⟩
  have hfr := hfr.stp_ hAb hs rfl
  have hmk := hmk.stp hs
  have o0 := o0.stp hs
  have u0 := u0.stp hs
  have j1 := j1.stp hs
  have d3 := d3.stp hs rfl
  have b38 := b38.stp hs rfl
  have hrec_0 := hrN
  clear hbr hs hrN
  refine E_block ?_
  refine E_seq (E_region (EL_do .plain rfl (D_load (g := d7) Try.isAgg104 Try.sizeOf104 rfl u0 fun i8 e7 => ?_)))
  refine EL_do .plain rfl (D_loadO (g := d7) Try.isAgg37 Try.sizeOf37 rfl b38 fun k8 l8 => ?_)
  refine EL_do .plain rfl (D_buildSlice (g := d7) 3014 (xs := ([j3] : List FaultDamage)) (vs := [k8]) Try.underlying47 Try.sizeOf37 Try.zeroValue37 rfl rfl (.cons rfl .nil) (RVs.cons l8 RVs.nil) rfl rfl fun m8 lA n8 hs o42 o8 hxt hfl => ?_)
  have hfr := hfr.stp_ hAb hs rfl
  have hmk := hmk.stp hs
  have o0 := o0.stp hs
  have hrec_0 := hrec_0.stp hs rfl
  have u0 := u0.stp hs
  have j1 := j1.stp hs
  have d3 := d3.stp hs rfl
  have b38 := b38.stp hs rfl
  have e7 := e7.stp hs
  obtain ⟨y44, u7, h⟩ := bsome h
  refine EL_do .plain rfl (D_call (g := m8) (vs := [i8, n8]) en42 (.cons rfl (.cons rfl .nil)) (wk42 e7 o8 u7) fun n7 z9 x5 hs hr => ?_)
  have hfr := hfr.ext_ hAb hs
  have hmk := hmk.ext hs
  have o0 := o0.ext hs
  have hrec_0 := hrec_0.ext hs
  have u0 := u0.ext hs
  have j1 := j1.ext hs
  have d3 := d3.ext hs
  have b38 := b38.ext hs
  have i6 := hr
  refine EL_at x5 rfl rfl ?_
  refine EL_nil (thn_n ?_)
  obtain ⟨⟨cs_61, s26_61⟩, hx, h⟩ := bsome h
  refine E_join (fun e w => ∃ (g : Gh) , FrY gI wI B J (cs_61) g w ∧ MkF g w [] ∧ RFr a7 m7 g w ∧ HB 10 g w o7 (.loop { i7 with state := .busy }) ∧ e 2 = p1 ∧ PT g.m w (x0 : FaultFaultLoom) p1 ∧ e 3 = p2 ∧ PT g.m w (⟨(.func (.yield l) #[] #[]), rfl⟩ : Fv) p2 ∧ e 4 = p6 ∧ OB 2004 g w 38 (y5 : List Str) p6 ∧ e 10 = (.func (.func 96) #[v8] #[]) ∧ e 26 = .bool (s26_61)) (fun Q' hQ => ?_) (fun bA mA hR => ?_)
  ·replace h := hx
   clear hx
   refine E_region (EL_mw x5 rfl rfl ?_)
   refine EL_do .plain rfl (D_loadO (g := n7) Try.isAgg38 Try.sizeOf38 rfl d3 fun q8 t8 => ?_)
   obtain ⟨y55, v7, h⟩ := bsome h
   refine EL_do .plain rfl (D_call (g := n7) (vs := [x5, q8]) en97 (.cons rfl (.cons rfl .nil)) (wk97 i6 t8 v7) fun j6 gA nA hs hr => ?_)
   have hfr := hfr.ext_ hAb hs
   have hmk := hmk.ext hs
   have o0 := o0.ext hs
   have hrec_0 := hrec_0.ext hs
   have u0 := u0.ext hs
   have j1 := j1.ext hs
   have d3 := d3.ext hs
   have b38 := b38.ext hs
   have i6 := i6.ext hs
   subst hr
   refine EL_p (.bool (!y55)) (P_not rfl) rfl ?_
   refine EL_mw (.bool (!y55)) rfl rfl ?_
   rcases csome h with ⟨i3, h⟩ | ⟨i3, h⟩
   ·refine EL_do (.yes2 rfl rfl i3) rfl (D_load (α := Fv) (g := j6) Try.isAgg193 Try.sizeOf193 rfl j1 fun oA x8 => ?_)
    obtain rfl := RV_fv.1 x8
    refine EL_do (.yes2 rfl rfl i3) rfl (D_loadO (g := j6) Try.isAgg37 Try.sizeOf37 rfl b38 fun pA y8 => ?_)
    refine EL_y x5 (P_move rfl) rfl rfl i3 rfl ?_
    obtain ⟨a9, c8, h⟩ := bsome h
    obtain ⟨yb59, ys59⟩ := a9
    refine EL_do (.yes2 rfl rfl i3) rfl (D_yield (g := j6) (x := (j3, y44)) rfl (.cons rfl (.cons rfl .nil)) hRo hfr c8 ⟨_, _, rfl, y8, i6⟩ fun d9 qA hs hfrY => ?_)
    have hmk := hmk.stp hs
    have o0 := o0.stp hs
    have hrec_0 := hrec_0.stp hs rfl
    have u0 := u0.stp hs
    have j1 := j1.stp hs
    have d3 := d3.stp hs rfl
    have hfr := hfrY
    clear hfrY
    refine EL_y (.bool (!yb59)) (P_not rfl) rfl rfl i3 rfl ?_
    refine EL_p (.bool (!yb59)) (P_pick (b := (!y55)) rfl (pick_t i3 rfl)) rfl ?_
    refine EL_nil ?_
    obtain ⟨rfl, rfl⟩ := pairs2 h
    exact hQ _ _ ⟨d9, hfr, hmk, o0, hrec_0, rfl, u0, rfl, j1, rfl, d3, rfl, rfl⟩
   ·refine EL_s rfl rfl i3 rfl rfl ?_
    iterate 4 refine EL_s rfl rfl i3 rfl rfl ?_
    refine EL_p (.bool false) (P_pick (b := (!y55)) rfl (pick_f i3 rfl)) rfl ?_
    refine EL_nil ?_
    obtain ⟨rfl, rfl⟩ := pairs2 h
    exact hQ _ _ ⟨j6, hfr, hmk, o0, hrec_0, rfl, u0, rfl, j1, rfl, d3, rfl, rfl⟩
  ·clear hx
   obtain ⟨rA, hfr, hmk, o0, hrec_0, i9, v6, k9, x6, l9, y6, e9, q5⟩ := hR
   rcases csome h with ⟨t5, h⟩ | ⟨t5, h⟩
   ·refine E_cond_true (Eq.trans (show ev _ _ = .bool (s26_61) from q5) (congrArg Value.bool t5)) ?_
    refine E_ret (blk_r ?_)
    obtain ⟨rfl, rfl⟩ := pairs2 h
    exact ⟨_, o0, ⟨hfr, hmk, v6, x6, y6⟩, hrec_0, rfl, 0, rfl, rfl⟩
   ·refine E_cond_false (Eq.trans (show ev _ _ = .bool (s26_61) from q5) (congrArg Value.bool t5)) ?_
    refine E_skip (blk_n ?_)
    obtain ⟨rfl, rfl⟩ := pairs2 h
    exact ⟨_, o0, ⟨hfr, hmk, v6, x6, y6⟩, hrec_0, rfl, rfl⟩
 ·intro sA uA ds65 hsz hR hds
  obtain ⟨hfr, hmk, n9, o9, t9⟩ := hR
  obtain ⟨D, hdse, hD, hDb⟩ := hds.1 rfl
  subst hdse
  replace hmk := MkF.push hmk0 hmk hD hDb
  clear hD hDb hds
  revert hmk
  generalize ({ target := .collected D, args := #[] } :: [] : List Deferred) = u9
  intro hmk
  refine ⟨fun hs => ?_, fun k c hs hc => ?_⟩
  ·have hs : o3 = 0 := hs
   subst hs
   replace h := cond_t h rfl
   refine blk_n (endM (.inl rfl) hmk fun xA yA hs => ?_)
   have hfr := hfr.stp_ hAb hs rfl
   obtain rfl := sinj h
   exact end0n rfl rfl (FrY.done hfr)
  ·have hs : o3 = k + 1 := hs
   match k, hs, hc with
   | 0, hs, hc =>
    subst hs
    obtain rfl := sinj hc
    replace h := cond_f h rfl
    refine E_ret (blk_r ?_)
    refine endM (.inr rfl) hmk fun zA aB hs => ?_
    have hfr := hfr.stp_ hAb hs rfl
    obtain rfl := sinj h
    exact end0 rfl rfl (FrY.done hfr)
   | n + 1, _, hc => exact absurd hc (by simp)
def f58 (x0 : FaultLoom) (x1 : FaultDamage) (x2 : FaultDamage) : Option (Int × Int × Int) :=
 jn (σ := Int × Int × Int) (fun (d7, e7, g7) =>
  jn (σ := Int × Int × Int) (fun (t8, v8, x8) =>
   some ((0 : Int), (0 : Int), (7 : Int))
   ) fun qA =>
  (f42 ((⟨x0⟩ : FaultFaultLoom)) (([x1] : List FaultDamage))).bind fun c7 =>
  (f42 ((⟨x0⟩ : FaultFaultLoom)) (([x2] : List FaultDamage))).bind fun y98 =>
  (f60 c7 y98).bind fun x6 =>
  (x6 (Nat × Int × Int × Int) (guardC fun (y8, a9, d9) (d3, i3) =>
   some (false, ((1 : Nat), (d3, i3, (0 : Int))))
   ) (0, (d7, e7, g7))).bind fun (l5, (q5, t5, x5)) =>
  bif Nat.beq l5 0 then
   qA (q5, t5, x5)
  else
   some (q5, t5, x5)
  ) fun rA =>
 (f85 x0 (([x1, x2] : List FaultDamage))).bind fun y6 =>
 bif (y6 != (0 : Int)) then
  some ((0 : Int), (0 : Int), y6)
 else
  rA ((0 : Int), (0 : Int), (0 : Int))
theorem en58 : Enters Try.prog 58 := enters_of Try.func58 (by kernel_rfl) rfl
theorem wk58 {gI : Gh} {wI : World} {x0 : FaultLoom} {x1 : FaultDamage} {x2 : FaultDamage} {up0 : Value} (rp0 : RV gI.m wI x0 up0) {up1 : Value} (rp1 : RV gI.m wI x1 up1) {up2 : Value} (rp2 : RV gI.m wI x2 up2) {r : Int × Int × Int} (h : f58 x0 x1 x2 = some r) : Fn Try.prog 58 #[up0, up1, up2] gI wI (fun m w v => ∃ y0 y1 y2, v = .tuple #[y0, y1, y2] ∧ y0 = .int .i64 (r.1) ∧ y1 = .int .i64 (r.2.1) ∧ y2 = .int .i64 (r.2.2)) := by
 unfold f58 at h
 refine fnD_of_E Try.func58 rfl (Nat.le_of_ble_eq_true rfl) fun g0 hm hfr => ?_
 have hmk : MkF g0 wI [] := MkF.start
 have rp0 : RV g0.m wI x0 up0 := hm ▸ rp0
 have rp1 : RV g0.m wI x1 up1 := hm ▸ rp1
 have rp2 : RV g0.m wI x2 up2 := hm ▸ rp2
 show E _ 35 none _ _ _ _ _
 refine E_seq (E_region (EL_do .plain rfl (D_box (g := g0) rfl rp0 fun g1 w1 p1 hs q1 => ?_)))
 have hfr := hfr.ext hs
 have hmk := hmk.ext hs
 have rp1 := rp1.ext hs
 have rp2 := rp2.ext hs
 refine EL_do .plain rfl (D_box (g := g1) rfl rp1 fun g2 w2 p2 hs q2 => ?_)
 have hfr := hfr.ext hs
 have hmk := hmk.ext hs
 have rp2 := rp2.ext hs
 have q1 := q1.ext hs
 refine EL_do .plain rfl (D_box (g := g2) rfl rp2 fun g3 w3 p3 hs q3 => ?_)
 have hfr := hfr.ext hs
 have hmk := hmk.ext hs
 have q1 := q1.ext hs
 have q2 := q2.ext hs
 refine EL_do .plain rfl (D_allocOc (g := g3) 2006 (0 : Int) Try.zeroValue3 (fun m w => ⟨_, rep_int, rfl⟩) fun g4 w4 p4 hs b4 cb => ?_)
 have hfr := hfr.stp hs
 have hmk := hmk.stp hs
 have q1 := q1.stp hs
 have q2 := q2.stp hs
 have q3 := q3.stp hs
 clear cb
 refine EL_do .plain rfl (D_allocOc (g := g4) 2007 (0 : Int) Try.zeroValue3 (fun m w => ⟨_, rep_int, rfl⟩) fun g5 w5 p5 hs b5 cb => ?_)
 have hfr := hfr.stp hs
 have hmk := hmk.stp hs
 have q1 := q1.stp hs
 have q2 := q2.stp hs
 have q3 := q3.stp hs
 have b4 := b4.stp hs rfl
 clear cb
 refine EL_do .plain rfl (D_allocOc (g := g5) 2008 (0 : Int) Try.zeroValue39 (fun m w => ⟨_, rep_int, rfl⟩) fun g6 w6 p6 hs b6 cb => ?_)
 have hfr := hfr.stp hs
 have hmk := hmk.stp hs
 have q1 := q1.stp hs
 have q2 := q2.stp hs
 have q3 := q3.stp hs
 have b4 := b4.stp hs rfl
 have b5 := b5.stp hs rfl
 clear cb
 refine EL_nil (thn_n (E_joinCD h (fun (s : Int × Int × Int) e ds w => ∃ (g : Gh) , Fr gI wI g w ∧ MkF g w ds ∧ e 3 = p1 ∧ PT g.m w (x0 : FaultLoom) p1 ∧ e 4 = p2 ∧ PT g.m w (x1 : FaultDamage) p2 ∧ e 5 = p3 ∧ PT g.m w (x2 : FaultDamage) p3 ∧ e 6 = p4 ∧ OB 2006 g w 3 (s.1 : Int) p4 ∧ e 7 = p5 ∧ OB 2007 g w 3 (s.2.1 : Int) p5 ∧ e 8 = p6 ∧ OB 2008 g w 39 (s.2.2 : Int) p6) (fun X21 rA iB h => ?_) ?_))
 ·refine E_seq (E_region (EL_do .plain rfl (D_load (g := g6) Try.isAgg32 Try.sizeOf32 rfl q1 fun tC e9 => ?_)))
  refine EL_do .plain rfl (D_load (g := g6) Try.isAgg37 Try.sizeOf37 rfl q2 fun uC vC => ?_)
  refine EL_do .plain rfl (D_load (g := g6) Try.isAgg37 Try.sizeOf37 rfl q3 fun xC yC => ?_)
  refine EL_do .plain rfl (D_buildSlice (g := g6) 3015 (xs := ([x1, x2] : List FaultDamage)) (vs := [uC, xC]) Try.underlying47 Try.sizeOf37 Try.zeroValue37 rfl rfl (.cons rfl (.cons rfl .nil)) (RVs.cons vC (RVs.cons yC RVs.nil)) rfl rfl fun aD tE bD hs o25 cD hxt hfl => ?_)
  have hfr := hfr.stp hs
  have hmk := hmk.stp hs
  have q1 := q1.stp hs
  have q2 := q2.stp hs
  have q3 := q3.stp hs
  have b4 := b4.stp hs rfl
  have b5 := b5.stp hs rfl
  have b6 := b6.stp hs rfl
  have e9 := e9.stp hs
  obtain ⟨y6, jB, h⟩ := bsome h
  refine EL_do .plain rfl (D_call (g := aD) (vs := [tC, bD]) en85 (.cons rfl (.cons rfl .nil)) (wk85 e9 cD jB) fun sA sD uE hs hr => ?_)
  have hfr := hfr.ext hs
  have hmk := hmk.ext hs
  have q1 := q1.ext hs
  have q2 := q2.ext hs
  have q3 := q3.ext hs
  have b4 := b4.ext hs
  have b5 := b5.ext hs
  have b6 := b6.ext hs
  subst hr
  refine EL_at (.int .i64 (y6)) rfl rfl ?_
  refine EL_nil (thn_n (E_seq (E_region (EL_mw (.int .i64 (y6)) rfl rfl ?_))))
  refine EL_in (.bool ((y6 != (0 : Int)))) rfl rfl rfl rfl ?_
  refine EL_nil (thn_n ?_)
  rcases csome h with ⟨g8, h⟩ | ⟨g8, h⟩
  ·refine E_ct g8 rfl ?_
   refine E_seq (E_region (EL_mw (.int .i64 (y6)) rfl rfl ?_))
   refine EL_do .plain rfl (D_storeOc (g := sA) (v := .int .i64 (0)) Try.sizeOf3 rfl b4 rfl (RV_int.2 rfl) fun eD vE hs b29 cb => ?_)
   clear cb
   have hfr := hfr.stp hs
   have hmk := hmk.stp hs
   have b5 := b5.stp hs rfl
   have b6 := b6.stp hs rfl
   refine EL_do .plain rfl (D_storeOc (g := eD) (v := .int .i64 (0)) Try.sizeOf3 rfl b5 rfl (RV_int.2 rfl) fun gD xE hs b30 cb => ?_)
   clear cb
   have hfr := hfr.stp hs
   have hmk := hmk.stp hs
   have b29 := b29.stp hs rfl
   have b6 := b6.stp hs rfl
   refine EL_do .plain rfl (D_storeOc (g := gD) (v := .int .i64 (y6)) Try.sizeOf39 rfl b6 rfl (RV_int.2 rfl) fun yE zE hs b31 cb => ?_)
   clear cb
   have hfr := hfr.stp hs
   have hmk := hmk.stp hs
   have b29 := b29.stp hs rfl
   have b30 := b30.stp hs rfl
   refine EL_nil (thn_n (E_ret (thn_r ?_)))
   refine endM (.inr rfl) hmk fun cF dF hs => ?_
   have hfr := hfr.stp hs
   have b29 := b29.stp hs rfl
   have b30 := b30.stp hs rfl
   have b31 := b31.stp hs rfl
   obtain rfl := sinj h
   obtain ⟨ad33, cv33, hp33, kB, cr33⟩ := ob_read Try.isAgg3 Try.sizeOf3 b29
   obtain rfl := RV_int.1 cr33
   obtain ⟨ad34, cv34, hp34, lB, cr34⟩ := ob_read Try.isAgg3 Try.sizeOf3 b30
   obtain rfl := RV_int.1 cr34
   obtain ⟨ad35, cv35, hp35, mB, cr35⟩ := ob_read Try.isAgg39 Try.sizeOf39 b31
   obtain rfl := RV_int.1 cr35
   exact endm_ccc rfl rfl ((show _ = p4 from rfl).trans hp33) kB ((show _ = p5 from rfl).trans hp34) lB ((show _ = p6 from rfl).trans hp35) mB ⟨_, hfr, _, _, _, rfl, rfl, rfl, rfl⟩
  ·refine E_cf g8 rfl ?_
   exact E_skip (thn_n (iB ((0 : Int), (0 : Int), (0 : Int)) _ _ _ ⟨sA, hfr, hmk, rfl, q1, rfl, q2, rfl, q3, rfl, b4, rfl, b5, rfl, b6⟩ h))
 ·rintro ⟨d7, e7, g7⟩ tD i8 eF ⟨i9, hfr, hmk, k8, l8, z9, bA, gA, iA, i7, j7, m7, n7, o7, u7⟩ h
  refine E_joinCD h (fun (s : Int × Int × Int) e ds w => ∃ (g : Gh) , Fr gI wI g w ∧ MkF g w ds ∧ e 6 = p4 ∧ OB 2006 g w 3 (s.1 : Int) p4 ∧ e 7 = p5 ∧ OB 2007 g w 3 (s.2.1 : Int) p5 ∧ e 8 = p6 ∧ OB 2008 g w 39 (s.2.2 : Int) p6) (fun X86 qA nB h => ?_) ?_
  ·refine E_seq (L_load (x := .tmp 3) Try.isAgg32 Try.sizeOf32 l8 fun m8 uA oB => ?_)
   have xA : RV i9.m _ (⟨x0⟩ : FaultFaultLoom) (.agg (setCh [[.int .i64 0, .slice none 0 0, .int .i64 0, .slice none 0 0]] [(0, m8)]).flatten.toArray) := RV_build rfl (rep_last (RV.cells uA))
   generalize tB : (Value.agg (setCh [[.int .i64 0, .slice none 0 0, .int .i64 0, .slice none 0 0]] [(0, m8)]).flatten.toArray) = yA at xA
   refine L_load (x := .tmp 4) Try.isAgg37 Try.sizeOf37 bA fun zA iD vB => ?_
   obtain ⟨c7, xB, h⟩ := bsome h
   refine L_load (x := .tmp 3) Try.isAgg32 Try.sizeOf32 l8 fun n8 aB yB => ?_
   have bB : RV i9.m _ (⟨x0⟩ : FaultFaultLoom) (.agg (setCh [[.int .i64 0, .slice none 0 0, .int .i64 0, .slice none 0 0]] [(0, n8)]).flatten.toArray) := RV_build rfl (rep_last (RV.cells aB))
   generalize zB : (Value.agg (setCh [[.int .i64 0, .slice none 0 0, .int .i64 0, .slice none 0 0]] [(0, n8)]).flatten.toArray) = cB at bB
   refine L_load (x := .tmp 5) Try.isAgg37 Try.sizeOf37 iA fun dB jD aC => ?_
   obtain ⟨y98, cC, h⟩ := bsome h
   obtain ⟨x6, jA, h⟩ := bsome h
   refine E_drawL (g := i9) (n := 11) [(3, (fun v g w => RV g.m w ([x1] : List FaultDamage) v ∧ OS 3023 g w 37 ([x1] : List FaultDamage) v ∧ FullV v)), (4, (fun v g w => RV g.m w c7 v)), (8, (fun v g w => RV g.m w ([x2] : List FaultDamage) v ∧ OS 3028 g w 37 ([x2] : List FaultDamage) v ∧ FullV v)), (9, (fun v g w => RV g.m w y98 v)), (10, (fun v g w => ItV Try.prog (RA2 (α := Int) (β := Int)) x6 v g.m w))] [0, 1, 2, 3, 4, 5, 6, 7, 8, 9, 10] rfl mixed (by kernel_rfl) (⟨fun _ => up_and up_rv (up_and up_os (up_eq _)), fun _ => up_rv, fun _ => up_and up_rv (up_and up_os (up_eq _)), fun _ => up_rv, fun _ => up_itv, trivial⟩) ?_
   refine L_ld (c := m8) rfl rfl .plain (fun _ _ h => h.ch) oB k8 ?_
   refine L_p yA rfl rfl (tB ▸ P_build (vs := [(0, m8)]) [[.int .i64 0, .slice none 0 0, .int .i64 0, .slice none 0 0]] lay_104 rfl rfl (.cons rfl .nil) ⟨⟨_, rfl, cells_size uA⟩, trivial⟩) ?_
   refine L_ld (c := zA) rfl rfl .plain (fun _ _ h => h.ch) vB z9 ?_
   refine L_do (φ := fun v g w => RV g.m w ([x1] : List FaultDamage) v ∧ OS 3023 g w 37 ([x1] : List FaultDamage) v ∧ FullV v) rfl rfl .plain (fun g w hd => D_buildSlice (g := g) 3023 (xs := ([x1] : List FaultDamage)) (vs := [zA]) Try.underlying47 Try.sizeOf37 Try.zeroValue37 rfl rfl (.cons rfl .nil) (RVs.cons (iD.ext hd.1) RVs.nil) rfl rfl fun g' w' v hs o r hxt hfl => ⟨g', hxt, r, o, hfl⟩) (fun u3 hv => ?_)
   clear hv
   refine L_do (φ := fun v g w => RV g.m w c7 v) rfl rfl .plain (fun g w hd => D_call (g := g) (vs := [yA, u3]) en42 (.cons rfl (.cons rfl .nil)) (wk42 (xA.ext hd.1) (word (A := fun g w => RV g.m w ([x1] : List FaultDamage) u3 ∧ OS 3023 g w 37 ([x1] : List FaultDamage) u3 ∧ FullV u3) 3 rfl rfl (deps_of hd)).1 xB) fun g' w' v hs hr => ⟨g', hs, hr⟩) (fun k9 hv => ?_)
   obtain ⟨_, _, _, rq91⟩ := hv
   refine L_ld (c := n8) rfl rfl .plain (fun _ _ h => h.ch) yB k8 ?_
   refine L_p cB rfl rfl (zB ▸ P_build (vs := [(0, n8)]) [[.int .i64 0, .slice none 0 0, .int .i64 0, .slice none 0 0]] lay_104 rfl rfl (.cons rfl .nil) ⟨⟨_, rfl, cells_size aB⟩, trivial⟩) ?_
   refine L_ld (c := dB) rfl rfl .plain (fun _ _ h => h.ch) aC gA ?_
   refine L_do (φ := fun v g w => RV g.m w ([x2] : List FaultDamage) v ∧ OS 3028 g w 37 ([x2] : List FaultDamage) v ∧ FullV v) rfl rfl .plain (fun g w hd => D_buildSlice (g := g) 3028 (xs := ([x2] : List FaultDamage)) (vs := [dB]) Try.underlying47 Try.sizeOf37 Try.zeroValue37 rfl rfl (.cons rfl .nil) (RVs.cons (jD.ext hd.1) RVs.nil) rfl rfl fun g' w' v hs o r hxt hfl => ⟨g', hxt, r, o, hfl⟩) (fun i5 hv => ?_)
   clear hv
   refine L_do (φ := fun v g w => RV g.m w y98 v) rfl rfl .plain (fun g w hd => D_call (g := g) (vs := [cB, i5]) en42 (.cons rfl (.cons rfl .nil)) (wk42 (bB.ext hd.1) (word (A := fun g w => RV g.m w ([x2] : List FaultDamage) i5 ∧ OS 3028 g w 37 ([x2] : List FaultDamage) i5 ∧ FullV i5) 8 rfl rfl (deps_of hd)).1 cC) fun g' w' v hs hr => ⟨g', hs, hr⟩) (fun l9 hv => ?_)
   obtain ⟨_, _, _, rq97⟩ := hv
   refine L_do (φ := fun v g w => ItV Try.prog (RA2 (α := Int) (β := Int)) x6 v g.m w) rfl rfl .plain (fun g w hd => D_call (g := g) (vs := [k9, l9]) en60 (.cons rfl (.cons rfl .nil)) (wk60 (word (A := fun g w => RV g.m w c7 k9) 4 rfl rfl (deps_of hd)) (word (A := fun g w => RV g.m w y98 l9) 9 rfl rfl (deps_of hd)) jA) fun g' w' v hs hr => ⟨g', hs, hr⟩) (fun eB hv => ?_)
   clear hv
   refine L_nil fun uD vD hall => ?_
   have hs := hall.1
   have hfr := hfr.ext hs
   have hmk := hmk.ext hs
   have j7 := j7.ext hs
   have n7 := n7.ext hs
   have u7 := u7.ext hs
   have xD := (word_all (A := fun g w => RV g.m w ([x1] : List FaultDamage) u3 ∧ OS 3023 g w 37 ([x1] : List FaultDamage) u3 ∧ FullV u3) 3 rfl hall).1
   have o111 := (word_all (A := fun g w => RV g.m w ([x1] : List FaultDamage) u3 ∧ OS 3023 g w 37 ([x1] : List FaultDamage) u3 ∧ FullV u3) 3 rfl hall).2.1
   have yD := (word_all (A := fun g w => RV g.m w c7 k9) 4 rfl hall)
   have zD := (word_all (A := fun g w => RV g.m w ([x2] : List FaultDamage) i5 ∧ OS 3028 g w 37 ([x2] : List FaultDamage) i5 ∧ FullV i5) 8 rfl hall).1
   have o116 := (word_all (A := fun g w => RV g.m w ([x2] : List FaultDamage) i5 ∧ OS 3028 g w 37 ([x2] : List FaultDamage) i5 ∧ FullV i5) 8 rfl hall).2.1
   have aE := (word_all (A := fun g w => RV g.m w y98 l9) 9 rfl hall)
   have n9 := (word_all (A := fun g w => ItV Try.prog (RA2 (α := Int) (β := Int)) x6 eB g.m w) 10 rfl hall)
   clear hs hall
   refine EL_nil (thn_n (E_block ?_))
   have hB0 := hfr.size
   have hmk0 := hmk
   obtain ⟨⟨l5, ⟨q5, t5, x5⟩⟩, hφ, h⟩ := bsome h
   refine E_rangeFunc (σ := (Nat × Int × Int × Int)) (s0 := (0, (d7, e7, g7))) 10 rfl (fun s => s.1) [.ret] (fun (s : Nat × Int × Int × Int) (g : Gh) (w : World) => Fr gI wI g w ∧ MkF g w i8 ∧ OB 2006 g w 3 (s.2.1 : Int) p4 ∧ OB 2007 g w 3 (s.2.2.1 : Int) p5 ∧ OB 2008 g w 39 (s.2.2.2 : Int) p6 ∧ ItV Try.prog (RA2 (α := Int) (β := Int)) x6 eB g.m w) rfl n9 hφ (fun _ _ _ h => (guardC_h h).1) rfl ra2_size rfl (fun _ _ _ _ _ hx hR => by obtain ⟨hfr, hmk, z2, z3, z4, z5⟩ := hR; exact ⟨hfr.ist hx hB0, hmk.ist hx, z2.ist hx, z3.ist hx, z4.ist hx, z5.ist hx⟩) (fun _ _ _ _ _ hx hR => by obtain ⟨hfr, hmk, z2, z3, z4, z5⟩ := hR; exact ⟨hfr.stp hx, hmk.stp hx, z2.stp hx rfl, z3.stp hx rfl, z4.stp hx rfl, z5.stp hx⟩) ⟨hfr, hmk, j7, n7, u7, n9⟩ (fun _ h => by cases h) ?_ ?_
   ·intro nD kD s x b s2 o9 dC vs hsz h hR hrec_0 o8 hrd
    obtain ⟨hs0, h⟩ := guardC_h h
    obtain ⟨st, ⟨y8, a9, d9⟩⟩ := s
    obtain ⟨hfr, hmk, a7, j3, j1, o0⟩ := hR
    obtain ⟨d3, i3⟩ := x
    obtain ⟨t9, u9, rfl, q8, r8⟩ := ra2_get hrd
    obtain rfl : t9 = .int .i64 (d3) := RV_int.1 q8
    obtain rfl : u9 = .int .i64 (i3) := RV_int.1 r8
    have u0 := RFr.refl o9 dC
    refine E_seq (E_region (EL_at (.int .i64 (d3)) rfl rfl ?_))
    refine EL_nil (thn_n (E_region (EL_at (.int .i64 (i3)) rfl rfl ?_)))
    refine EL_nil (thn_n ?_)
    obtain ⟨eC, hbr, hs, hrN⟩ := begin_round hrec_0 o8
    refine ⟨eC, hbr, ?_⟩
    have hfr := hfr.stp hs
    have hmk := hmk.stp hs
    have u0 := u0.stp hs
    have a7 := a7.stp hs rfl
    have j3 := j3.stp hs rfl
    have j1 := j1.stp hs rfl
    have o0 := o0.stp hs
    have hrec_0 := hrN
    clear hbr hs hrN
    refine E_block ?_
    refine E_seq (E_region (EL_mw (.int .i64 (d3)) rfl rfl ?_))
    refine EL_mw (.int .i64 (i3)) rfl rfl ?_
    refine EL_do .plain rfl (D_storeOc (g := o9) (v := .int .i64 (d3)) Try.sizeOf3 i7 a7 rfl (RV_int.2 rfl) fun iC bE hs b126 cb => ?_)
    clear cb
    have hfr := hfr.stp hs
    have hmk := hmk.stp hs
    have u0 := u0.stp hs
    have hrec_0 := hrec_0.stp hs rfl
    have j3 := j3.stp hs rfl
    have j1 := j1.stp hs rfl
    have o0 := o0.stp hs
    refine EL_do .plain rfl (D_storeOc (g := iC) (v := .int .i64 (i3)) Try.sizeOf3 m7 j3 rfl (RV_int.2 rfl) fun jC cE hs b127 cb => ?_)
    clear cb
    have hfr := hfr.stp hs
    have hmk := hmk.stp hs
    have u0 := u0.stp hs
    have hrec_0 := hrec_0.stp hs rfl
    have b126 := b126.stp hs rfl
    have j1 := j1.stp hs rfl
    have o0 := o0.stp hs
    refine EL_do .plain rfl (D_storeOc (g := jC) (v := .int .i64 (0)) Try.sizeOf39 o7 j1 rfl (RV_int.2 rfl) fun dE eE hs b128 cb => ?_)
    clear cb
    have hfr := hfr.stp hs
    have hmk := hmk.stp hs
    have u0 := u0.stp hs
    have hrec_0 := hrec_0.stp hs rfl
    have b126 := b126.stp hs rfl
    have b127 := b127.stp hs rfl
    have o0 := o0.stp hs
    refine EL_nil (thn_n (E_ret (blk_r ?_)))
    obtain ⟨rfl, rfl⟩ := pairs2 h
    exact ⟨_, u0, ⟨hfr, hmk, b126, b127, b128, o0⟩, hrec_0, rfl, 0, rfl, rfl⟩
   ·intro kC gE ds130 hsz hR hds
    obtain ⟨hfr, hmk, i6, j6, v6, rC⟩ := hR
    obtain ⟨D, hdse, hD, hDb⟩ := hds.1 rfl
    subst hdse
    replace hmk := MkF.push hmk0 hmk hD hDb
    clear hD hDb hds
    revert hmk
    generalize ({ target := .collected D, args := #[] } :: i8 : List Deferred) = lD
    intro hmk
    refine ⟨fun hs => ?_, fun k c hs hc => ?_⟩
    ·have hs : l5 = 0 := hs
     subst hs
     replace h := cond_t h rfl
     exact blk_n (thn_n (nB (q5, t5, x5) _ _ _ ⟨kC, hfr, hmk, i7, i6, m7, j6, o7, v6⟩ h))
    ·have hs : l5 = k + 1 := hs
     match k, hs, hc with
     | 0, hs, hc =>
      subst hs
      obtain rfl := sinj hc
      replace h := cond_f h rfl
      refine E_ret (blk_r ?_)
      refine thn_r ?_
      refine endM (.inr rfl) hmk fun iE jE hs => ?_
      have hfr := hfr.stp hs
      have i6 := i6.stp hs rfl
      have j6 := j6.stp hs rfl
      have v6 := v6.stp hs rfl
      obtain rfl := sinj h
      obtain ⟨ad132, cv132, hp132, kA, cr132⟩ := ob_read Try.isAgg3 Try.sizeOf3 i6
      obtain rfl := RV_int.1 cr132
      obtain ⟨ad133, cv133, hp133, lA, cr133⟩ := ob_read Try.isAgg3 Try.sizeOf3 j6
      obtain rfl := RV_int.1 cr133
      obtain ⟨ad134, cv134, hp134, mA, cr134⟩ := ob_read Try.isAgg39 Try.sizeOf39 v6
      obtain rfl := RV_int.1 cr134
      exact endm_ccc rfl rfl ((show _ = p4 from i7).trans hp132) kA ((show _ = p5 from m7).trans hp133) lA ((show _ = p6 from o7).trans hp134) mA ⟨_, hfr, _, _, _, rfl, rfl, rfl, rfl⟩
     | n + 1, _, hc => exact absurd hc (by simp)
  ·rintro ⟨t8, v8, x8⟩ oD mD kE ⟨lC, hfr, hmk, v7, y9, c8, b7, e8, o3⟩ h
   refine E_seq (E_region (EL_do .plain rfl (D_storeOc (g := lC) (v := .int .i64 (0)) Try.sizeOf3 v7 y9 rfl (RV_int.2 rfl) fun mC lE hs b136 cb => ?_)))
   clear cb
   have hfr := hfr.stp hs
   have hmk := hmk.stp hs
   have b7 := b7.stp hs rfl
   have o3 := o3.stp hs rfl
   refine EL_do .plain rfl (D_storeOc (g := mC) (v := .int .i64 (0)) Try.sizeOf3 c8 b7 rfl (RV_int.2 rfl) fun qC mE hs b137 cb => ?_)
   clear cb
   have hfr := hfr.stp hs
   have hmk := hmk.stp hs
   have b136 := b136.stp hs rfl
   have o3 := o3.stp hs rfl
   refine EL_do .plain rfl (D_storeOc (g := qC) (v := .int .i64 (7)) Try.sizeOf39 e8 o3 rfl (RV_int.2 rfl) fun nE oE hs b138 cb => ?_)
   clear cb
   have hfr := hfr.stp hs
   have hmk := hmk.stp hs
   have b136 := b136.stp hs rfl
   have b137 := b137.stp hs rfl
   refine EL_nil (thn_n (E_ret (endM (.inr rfl) hmk fun rE sE hs => ?_)))
   have hfr := hfr.stp hs
   have b136 := b136.stp hs rfl
   have b137 := b137.stp hs rfl
   have b138 := b138.stp hs rfl
   obtain rfl := sinj h
   obtain ⟨ad140, cv140, hp140, nA, cr140⟩ := ob_read Try.isAgg3 Try.sizeOf3 b136
   obtain rfl := RV_int.1 cr140
   obtain ⟨ad141, cv141, hp141, oA, cr141⟩ := ob_read Try.isAgg3 Try.sizeOf3 b137
   obtain rfl := RV_int.1 cr141
   obtain ⟨ad142, cv142, hp142, pA, cr142⟩ := ob_read Try.isAgg39 Try.sizeOf39 b138
   obtain rfl := RV_int.1 cr142
   exact endm_ccc rfl rfl ((show _ = p4 from v7).trans hp140) nA ((show _ = p5 from c8).trans hp141) oA ((show _ = p6 from e8).trans hp142) pA ⟨_, hfr, _, _, _, rfl, rfl, rfl, rfl⟩
def f13 (x0 : FaultLoom) (x1 : List FaultDamage) (x2 : Int) : Option ((List Str) × Int) :=
 jn (σ := (List Str)) (fun i6 =>
  (f42 ((⟨x0⟩ : FaultFaultLoom)) x1).bind fun o3 =>
  Option.bind (α := (List Str)) (
   lp (σ := (List Str) × Int) (fun t8 (z3, o0) =>
    bif (decide (o0 < x2)) then
     Option.bind (α := (List Str)) (
      (rem64 o0 ((o3).length : Int)).bind fun y44 =>
      (idx o3 y44).bind fun j6 =>
      (apnd 16 z3 (([j6] : List Str))).bind fun x8 =>
      some (x8)
      ) fun j1 =>
     t8 (j1, (w64 (o0 + (1 : Int))))
    else
     some (z3)
    ) big (i6, (0 : Int))
   ) fun z2 =>
  some (z2, (0 : Int))
  ) fun k6 =>
 (f41 x0 x1 x2).bind fun y9 =>
 bif (y9 != (0 : Int)) then
  some ([], y9)
 else
  k6 ([])
theorem en13 : Enters Try.prog 13 := enters_of Try.func13 (by kernel_rfl) rfl
theorem wk13 {gI : Gh} {wI : World} {x0 : FaultLoom} {x1 : List FaultDamage} {x2 : Int} {up0 : Value} (rp0 : RV gI.m wI x0 up0) {up1 : Value} (rp1 : RV gI.m wI x1 up1) {r : (List Str) × Int} (h : f13 x0 x1 x2 = some r) : Fn Try.prog 13 #[up0, up1, .int .i64 (x2)] gI wI (fun m w v => ∃ y0 y1, v = .tuple #[y0, y1] ∧ RV m w (r.1) y0 ∧ y1 = .int .i64 (r.2)) := by
 unfold f13 at h
 refine fn_of_E Try.func13 rfl (Nat.le_of_ble_eq_true rfl) fun g0 hm hfr => ?_
 have rp0 : RV g0.m wI x0 up0 := hm ▸ rp0
 have rp1 : RV g0.m wI x1 up1 := hm ▸ rp1
 show E _ 38 none _ _ _ _ _
 refine E_seq (E_region (EL_do .plain rfl (D_box (g := g0) rfl rp0 fun g1 w1 p1 hs q1 => ?_)))
 have hfr := hfr.ext hs
 have rp1 := rp1.ext hs
 refine EL_at (.slice none 0 0) rfl rfl ?_
 refine EL_at (.int .i64 (0)) rfl rfl ?_
 refine EL_nil (thn_n (E_joinC h (fun (s : (List Str)) e w => ∃ (g : Gh) (v6 : Value), Fr gI wI g w ∧ e 1 = up1 ∧ RV g.m w (x1 : List FaultDamage) up1 ∧ e 2 = .int .i64 (x2) ∧ e 3 = p1 ∧ PT g.m w (x0 : FaultLoom) p1 ∧ e 6 = v6 ∧ RV g.m w (s : List Str) v6 ∧ OS 1006 g w 9 (s : List Str) v6) (fun X6 k6 hk6 h => ?_) ?_))
 ·refine E_seq (E_region (EL_do .plain rfl (D_load (g := g1) Try.isAgg32 Try.sizeOf32 rfl q1 fun v7 r7 => ?_)))
  refine EL_mw up1 rfl rfl ?_
  refine EL_mw (.int .i64 (x2)) rfl rfl ?_
  obtain ⟨y9, t9, h⟩ := bsome h
  refine EL_do .plain rfl (D_call (g := g1) (vs := [v7, up1, .int .i64 (x2)]) en41 (.cons rfl (.cons rfl (.cons rfl .nil))) (wk41 r7 rp1 t9) fun g8 w8_ v8 hs hr => ?_)
  have hfr := hfr.ext hs
  have rp1 := rp1.ext hs
  have q1 := q1.ext hs
  subst hr
  refine EL_at (.int .i64 (y9)) rfl rfl ?_
  refine EL_nil (thn_n (E_seq (E_region (EL_mw (.int .i64 (y9)) rfl rfl ?_))))
  refine EL_in (.bool ((y9 != (0 : Int)))) rfl rfl rfl rfl ?_
  refine EL_nil (thn_n ?_)
  rcases csome h with ⟨t5, h⟩ | ⟨t5, h⟩
  ·refine E_ct t5 rfl ?_
   refine E_seq (E_region (EL_mw (.int .i64 (y9)) rfl rfl ?_))
   refine EL_at (.slice none 0 0) rfl rfl ?_
   refine EL_at (.int .i64 (y9)) rfl rfl ?_
   refine EL_nil (thn_n (E_ret (thn_r ?_)))
   obtain rfl := sinj h
   exact end2 rfl rfl (show _ = .slice none 0 0 from rfl) (show _ = .int .i64 (y9) from rfl) ⟨_, hfr, _, _, rfl, RV_nil, rfl⟩
  ·refine E_cf t5 rfl ?_
   exact E_skip (thn_n (hk6 ([]) _ _ ⟨g8, (.slice none 0 0), hfr, rfl, rp1, rfl, rfl, q1, rfl, RV_nil, OS.nil⟩ h))
 ·rintro i6 oA uA ⟨a7, i7, hfr, j7, m7, n7, o7, u7, c8, z4, i5⟩ h
  refine E_seq (E_region (EL_do .plain rfl (D_load (g := a7) Try.isAgg32 Try.sizeOf32 o7 u7 fun b7 y8 => ?_)))
  have a9 : RV a7.m _ (⟨x0⟩ : FaultFaultLoom) (.agg (setCh [[.int .i64 0, .slice none 0 0, .int .i64 0, .slice none 0 0]] [(0, b7)]).flatten.toArray) := RV_build rfl (rep_last (RV.cells y8))
  generalize i9 : (Value.agg (setCh [[.int .i64 0, .slice none 0 0, .int .i64 0, .slice none 0 0]] [(0, b7)]).flatten.toArray) = d9 at a9
  refine EL_p d9 (i9 ▸ P_build (vs := [(0, b7)]) [[.int .i64 0, .slice none 0 0, .int .i64 0, .slice none 0 0]] lay_104 rfl rfl (.cons rfl .nil) ⟨⟨_, rfl, cells_size y8⟩, trivial⟩) rfl ?_
  refine EL_mv j7 rfl ?_
  obtain ⟨o3, k9, h⟩ := bsome h
  refine EL_do .plain rfl (D_call (g := a7) (vs := [d9, up1]) en42 (.cons rfl (.cons rfl .nil)) (wk42 a9 m7 k9) fun u9 pA u3 hs hr => ?_)
  have hfr := hfr.ext hs
  have z4 := z4.ext hs
  have i5 := i5.ext hs
  have z9 := hr
  refine EL_at u3 rfl rfl ?_
  refine EL_nil (thn_n ?_)
  obtain ⟨z2, hx, h⟩ := bsome h
  refine E_join (fun e w => ∃ (g : Gh) (v6 : Value), Fr gI wI g w ∧ e 6 = v6 ∧ RV g.m w (z2 : List Str) v6 ∧ OS 1006 g w 9 (z2 : List Str) v6) (fun Q' hQ => ?_) (fun qA xA hR => ?_)
  ·replace h := hx
   clear hx
   refine E_seq (E_region (EL_mv n7 rfl ?_))
   refine EL_mw (.int .i64 (0)) rfl rfl ?_
   refine EL_nil (thn_n (E_block ?_))
   refine E_lp h (fun (s : (List Str) × Int) e w => ∃ (g : Gh) (v6 : Value), Fr gI wI g w ∧ e 6 = v6 ∧ RV g.m w (s.1 : List Str) v6 ∧ OS 1006 g w 9 (s.1 : List Str) v6 ∧ e 9 = u3 ∧ RV g.m w (o3 : List Str) u3 ∧ e 22 = .int .i64 (x2) ∧ e 23 = .int .i64 (s.2)) ⟨u9, (i7), hfr, c8, z4, i5, rfl, z9, rfl, rfl⟩ (fun X34 t8 l9 => ?_)
   rintro ⟨z3, o0⟩ rA yA ⟨c7, e8, hfr, x6, d3, i3, l5, u0, q5, j3⟩ h
   refine E_seq (E_region (EL_in (.bool ((decide (o0 < x2)))) j3 q5 rfl rfl ?_))
   refine EL_nil (thn_n (E_seq ?_))
   rcases csome h with ⟨x5, h⟩ | ⟨x5, h⟩
   ·refine E_ct x5 rfl ?_
    refine E_skip (thn_n ?_)
    obtain ⟨j1, hx, h⟩ := bsome h
    refine E_join (fun e w => ∃ (g : Gh) (v6 : Value), Fr gI wI g w ∧ e 6 = v6 ∧ RV g.m w (j1 : List Str) v6 ∧ OS 1006 g w 9 (j1 : List Str) v6 ∧ e 9 = u3 ∧ RV g.m w (o3 : List Str) u3 ∧ e 22 = .int .i64 (x2) ∧ e 23 = .int .i64 (o0)) (fun Q' hQ => ?_) (fun sA zA hR => ?_)
    ·replace h := hx
     clear hx
     refine E_block ?_
     refine E_seq (E_region (EL_mv j3 rfl ?_))
     refine EL_at (.int .i64 (o0)) rfl rfl ?_
     refine EL_nil (thn_n (E_region (EL_mv x6 rfl ?_)))
     refine EL_mv l5 rfl ?_
     refine EL_mw (.int .i64 (o0)) rfl rfl ?_
     refine EL_mv l5 rfl ?_
     refine EL_p (.int .i64 ((o3).length : Int)) (P_len Try.underlying38 rfl u0) rfl ?_
     obtain ⟨y44, n9, h⟩ := bsome h
     refine EL_p (.int .i64 (y44)) (P_int rfl rfl (congrArg (Option.map (Value.int .i64)) n9)) rfl ?_
     obtain ⟨j6, d7, h⟩ := bsome h
     refine EL_p (ePtr u3 y44 1) (P_indexAddr (α := Str) Try.underlying38 Try.sizeOf9 rfl u0 rfl d7) rfl ?_
     have bA := PT_idx u0 d7
     refine EL_do .plain rfl (D_load (g := c7) Try.isAgg9 Try.sizeOf9 rfl bA fun aB gA => ?_)
     obtain rfl := RV_str.1 gA
     refine EL_do .plain rfl (D_buildSlice (g := c7) 3034 (xs := ([j6] : List Str)) (vs := [Str.v (j6)]) Try.underlying38 Try.sizeOf9 Try.zeroValue9 rfl rfl (.cons rfl .nil) (RVs.cons (RV_str.2 rfl) RVs.nil) rfl rfl fun iA bB cB hs o48 jA hxt hfl => ?_)
     have hfr := hfr.stp hs
     have d3 := d3.stp hs
     have i3 := i3.stp hs rfl
     have u0 := u0.stp hs
     obtain ⟨x8, o9, h⟩ := bsome h
     refine EL_do .plain rfl (D_append (g := iA) (i := 1006) Try.underlying38 info_9 rfl rfl i3 d3 rfl jA o9 fun kA dB e9 hs o49 lA _ => ?_)
     have hfr := hfr.stp hs
     have u0 := u0.stp hs
     refine EL_at e9 rfl rfl ?_
     refine EL_nil (blk_n ?_)
     obtain rfl := sinj h
     exact hQ _ _ ⟨kA, (e9), hfr, rfl, lA, o49, l5, u0, q5, j3⟩
    ·clear hx
     obtain ⟨mA, i8, hfr, k8, l8, m8, n8, o8, e7, g7⟩ := hR
     refine E_region (EL_in (.int .i64 ((w64 (o0 + (1 : Int))))) g7 rfl rfl rfl ?_)
     refine EL_mw (.int .i64 ((w64 (o0 + (1 : Int))))) rfl rfl ?_
     exact EL_nil (thn_n (l9 (j1, (w64 (o0 + (1 : Int)))) _ _ ⟨mA, (i8), hfr, k8, l8, m8, n8, o8, e7, rfl⟩ h))
   ·refine E_cf x5 rfl ?_
    refine E_exit ?_
    refine thn_e ?_
    refine thn_e ?_
    refine blk_hit ?_
    obtain rfl := sinj h
    exact hQ _ _ ⟨c7, (e8), hfr, x6, d3, i3⟩
  ·clear hx
   obtain ⟨eB, y6, hfr, q8, r8, nA⟩ := hR
   refine E_seq (E_region (EL_mv q8 rfl ?_))
   refine EL_at y6 rfl rfl ?_
   refine EL_at (.int .i64 (0)) rfl rfl ?_
   refine EL_nil (thn_n (E_ret ?_))
   obtain rfl := sinj h
   exact end2 rfl rfl (show _ = y6 from rfl) (show _ = .int .i64 (0) from rfl) ⟨_, hfr, _, _, rfl, r8, rfl⟩
def f17 (x0 : FaultLoom) (x1 : List FaultSight) : Option ((List FaultDamage) × Bool × Int) :=
 jn (σ := (List FaultDamage)) (fun i6 =>
  Option.bind (α := (List FaultDamage)) (
   ((fun σ cons s => f52 ((⟨x0⟩ : FaultFaultLoom)) σ cons s) ((List FaultDamage)) (fun j6 (v6, v7) =>
    (f53 v7 x1).bind fun oA =>
    bif oA then
     (apnd 40 j6 (([v6] : List FaultDamage))).bind fun i7 =>
     some (true, (i7))
    else
     some (true, (j6))
    ) (i6)).bind fun d7 =>
   some (d7)
   ) fun j3 =>
  (f42 ((⟨x0⟩ : FaultFaultLoom)) ([])).bind fun i5 =>
  (f53 i5 x1).bind fun l5 =>
  some (j3, l5, (0 : Int))
  ) fun pA =>
 (f51 x0).bind fun o3 =>
 bif (o3 != (0 : Int)) then
  some ([], false, o3)
 else
  bif (decide (((x1).length : Int) > (60 : Int))) then
   some ([], false, (5 : Int))
  else
   (f46 x1 ((fun a0 => f49 a0 x0))).bind fun k8 =>
   bif k8 then
    some ([], false, (2 : Int))
   else
    pA (([] : List FaultDamage))
theorem en17 : Enters Try.prog 17 := enters_of Try.func17 (by kernel_rfl) rfl
theorem wk17 {gI : Gh} {wI : World} {x0 : FaultLoom} {x1 : List FaultSight} {up0 : Value} (rp0 : RV gI.m wI x0 up0) {up1 : Value} (rp1 : RV gI.m wI x1 up1) {r : (List FaultDamage) × Bool × Int} (h : f17 x0 x1 = some r) : Fn Try.prog 17 #[up0, up1] gI wI (fun m w v => ∃ y0 y1 y2, v = .tuple #[y0, y1, y2] ∧ RV m w (r.1) y0 ∧ y1 = .bool (r.2.1) ∧ y2 = .int .i64 (r.2.2)) := by
 unfold f17 at h
 refine fnD_of_E Try.func17 rfl (Nat.le_of_ble_eq_true rfl) fun g0 hm hfr => ?_
 have hmk : MkF g0 wI [] := MkF.start
 have rp0 : RV g0.m wI x0 up0 := hm ▸ rp0
 have rp1 : RV g0.m wI x1 up1 := hm ▸ rp1
 show E _ 44 none _ _ _ _ _
 refine E_seq (E_region (EL_do .plain rfl (D_box (g := g0) rfl rp0 fun g1 w1 p1 hs q1 => ?_)))
 have hfr := hfr.ext hs
 have hmk := hmk.ext hs
 have rp1 := rp1.ext hs
 refine EL_do .plain rfl (D_box (g := g1) rfl rp1 fun g2 w2 p2 hs q2 => ?_)
 have hfr := hfr.ext hs
 have hmk := hmk.ext hs
 have q1 := q1.ext hs
 refine EL_do .plain rfl (D_allocOc (g := g2) 2004 ([] : List FaultDamage) Try.zeroValue47 (fun m w => ⟨_, rep_nil, rfl⟩) fun g3 w3 p3 hs b3 cb => ?_)
 have hfr := hfr.stp hs
 have hmk := hmk.stp hs
 have q1 := q1.stp hs
 have q2 := q2.stp hs
 have q5 : OSF 2004 60400 0 g3 w3 37 47 ([] : List FaultDamage) p3 := cb.osf (by rfl)
 clear cb
 refine EL_at (.bool false) rfl rfl ?_
 refine EL_at (.int .i64 (0)) rfl rfl ?_
 refine EL_nil (thn_n (E_seq (E_region (EL_p ((.func (.func 49) #[] #[p1])) (P_makeFunc (capf_0_1 (show ev _ _ = p1 from rfl))) rfl ?_))))
 refine EL_at ((.func (.func 49) #[] #[p1])) rfl rfl ?_
 refine EL_nil (thn_n (E_joinCD h (fun (s : (List FaultDamage)) e ds w => ∃ (g : Gh) , Fr gI wI g w ∧ MkF g w ds ∧ e 2 = p1 ∧ PT g.m w (x0 : FaultLoom) p1 ∧ e 3 = p2 ∧ PT g.m w (x1 : List FaultSight) p2 ∧ e 4 = p3 ∧ OB 2004 g w 47 (s : List FaultDamage) p3 ∧ OSF 2004 60400 0 g w 37 47 (s) p3) (fun X23 pA yA h => ?_) ?_))
 ·refine E_seq (E_region (EL_do .plain rfl (D_load (g := g3) Try.isAgg32 Try.sizeOf32 rfl q1 fun dC eC => ?_)))
  obtain ⟨o3, zA, h⟩ := bsome h
  refine EL_do .plain rfl (D_call (g := g3) (vs := [dC]) en51 (.cons rfl .nil) (wk51 eC zA) fun e7 oD kE hs hr => ?_)
  have hfr := hfr.ext hs
  have hmk := hmk.ext hs
  have q1 := q1.ext hs
  have q2 := q2.ext hs
  have q5 := q5.ext hs
  have b3 := b3.ext hs
  subst hr
  refine EL_at (.int .i64 (o3)) rfl rfl ?_
  refine EL_nil (thn_n (E_block ?_))
  refine E_seq (E_region (EL_mw (.int .i64 (o3)) rfl rfl ?_))
  refine EL_in (.bool ((o3 != (0 : Int)))) rfl rfl rfl rfl ?_
  refine EL_at (.bool ((o3 != (0 : Int)))) rfl rfl ?_
  refine EL_nil (thn_n ?_)
  rcases csome h with ⟨j7, h⟩ | ⟨j7, h⟩
  ·refine E_ct j7 rfl ?_
   refine E_seq (E_region (EL_mw (.int .i64 (o3)) rfl rfl ?_))
   refine EL_do .plain rfl (D_storeOc (g := e7) (v := .slice none 0 0) Try.sizeOf47 rfl b3 rfl RV_nil fun iC jC hs b28 cb => ?_)
   have jD : OSF 2004 60400 0 iC jC 37 47 ([] : List FaultDamage) p3 := cb.osfr (rfl) OS.nil
   clear cb
   have hfr := hfr.stp hs
   have hmk := hmk.stp hs
   refine EL_at (.bool false) rfl rfl ?_
   refine EL_at (.int .i64 (o3)) rfl rfl ?_
   refine EL_nil (thn_n (E_ret (blk_r ?_)))
   refine thn_r ?_
   refine endM (.inr rfl) hmk fun lE mE hs => ?_
   have hfr := hfr.stp hs
   have b28 := b28.stp hs rfl
   obtain rfl := sinj h
   obtain ⟨ad30, cv30, hp30, aB, cr30⟩ := ob_read Try.isAgg47 Try.sizeOf47 b28
   exact endm_ctt rfl rfl ((show _ = p3 from rfl).trans hp30) aB (show _ = .bool false from rfl) (show _ = .int .i64 (o3) from rfl) ⟨_, hfr, _, _, _, rfl, cr30, rfl, rfl⟩
  ·refine E_cf j7 rfl ?_
   refine E_seq (E_region (EL_do .plain rfl (D_load (g := e7) Try.isAgg49 Try.sizeOf49 rfl q2 fun nE kC => ?_)))
   refine EL_p (.int .i64 ((x1).length : Int)) (P_len Try.underlying49 rfl kC) rfl ?_
   refine EL_in (.bool ((decide (((x1).length : Int) > (60 : Int))))) rfl rfl rfl rfl ?_
   refine EL_at (.bool ((decide (((x1).length : Int) > (60 : Int))))) rfl rfl ?_
   refine EL_nil (thn_n ?_)
   rcases csome h with ⟨m7, h⟩ | ⟨m7, h⟩
   ·refine E_ct m7 rfl ?_
    refine E_seq (E_region (EL_do .plain rfl (D_storeOc (g := e7) (v := .slice none 0 0) Try.sizeOf47 rfl b3 rfl RV_nil fun lC mC hs b33 cb => ?_)))
    have kD : OSF 2004 60400 0 lC mC 37 47 ([] : List FaultDamage) p3 := cb.osfr (rfl) OS.nil
    clear cb
    have hfr := hfr.stp hs
    have hmk := hmk.stp hs
    refine EL_at (.bool false) rfl rfl ?_
    refine EL_at (.int .i64 (5)) rfl rfl ?_
    refine EL_nil (thn_n (E_ret (blk_r ?_)))
    refine thn_r ?_
    refine endM (.inr rfl) hmk fun oE rE hs => ?_
    have hfr := hfr.stp hs
    have b33 := b33.stp hs rfl
    obtain rfl := sinj h
    obtain ⟨ad35, cv35, hp35, bB, cr35⟩ := ob_read Try.isAgg47 Try.sizeOf47 b33
    exact endm_ctt rfl rfl ((show _ = p3 from rfl).trans hp35) bB (show _ = .bool false from rfl) (show _ = .int .i64 (5) from rfl) ⟨_, hfr, _, _, _, rfl, cr35, rfl, rfl⟩
   ·refine E_cf m7 rfl ?_
    refine E_seq (E_region (EL_do .plain rfl (D_load (g := e7) Try.isAgg49 Try.sizeOf49 rfl q2 fun qC rC => ?_)))
    refine EL_mw ((.func (.func 49) #[] #[p1])) rfl rfl ?_
    obtain ⟨k8, cB, h⟩ := bsome h
    refine EL_do .plain rfl (D_call (g := e7) (vs := [qC, (.func (.func 49) #[] #[p1])]) en46 (.cons rfl (.cons rfl .nil)) (wk46 rC ⟨49, #[], #[p1], rfl, en49, fun g' w' hch a0 b0 r hu0 hr => by exact Fn.mono (wk49 hu0 (q1.ch hch) hr) fun _ _ _ h => RV_bool.2 h⟩ cB) fun qA sD sE hs hr => ?_)
    have hfr := hfr.ext hs
    have hmk := hmk.ext hs
    have q1 := q1.ext hs
    have q2 := q2.ext hs
    have q5 := q5.ext hs
    have b3 := b3.ext hs
    subst hr
    refine EL_at (.bool (k8)) rfl rfl ?_
    refine EL_nil (thn_n ?_)
    rcases csome h with ⟨n7, h⟩ | ⟨n7, h⟩
    ·refine E_ct n7 rfl ?_
     refine E_seq (E_region (EL_do .plain rfl (D_storeOc (g := qA) (v := .slice none 0 0) Try.sizeOf47 rfl b3 rfl RV_nil fun tC uC hs b40 cb => ?_)))
     have lD : OSF 2004 60400 0 tC uC 37 47 ([] : List FaultDamage) p3 := cb.osfr (rfl) OS.nil
     clear cb
     have hfr := hfr.stp hs
     have hmk := hmk.stp hs
     refine EL_at (.bool false) rfl rfl ?_
     refine EL_at (.int .i64 (2)) rfl rfl ?_
     refine EL_nil (thn_n (E_ret (blk_r ?_)))
     refine thn_r ?_
     refine endM (.inr rfl) hmk fun tE uE hs => ?_
     have hfr := hfr.stp hs
     have b40 := b40.stp hs rfl
     obtain rfl := sinj h
     obtain ⟨ad42, cv42, hp42, dB, cr42⟩ := ob_read Try.isAgg47 Try.sizeOf47 b40
     exact endm_ctt rfl rfl ((show _ = p3 from rfl).trans hp42) dB (show _ = .bool false from rfl) (show _ = .int .i64 (2) from rfl) ⟨_, hfr, _, _, _, rfl, cr42, rfl, rfl⟩
    ·refine E_cf n7 rfl ?_
     exact E_skip (blk_n (thn_n (yA (([] : List FaultDamage)) _ _ _ ⟨qA, hfr, hmk, rfl, q1, rfl, q2, rfl, b3, q5⟩ h)))
 ·rintro i6 tD c8 vC ⟨l8, hfr, hmk, e8, g8, i8, u9, x6, y9, u4_0_43⟩ h
  obtain ⟨j3, hx, h⟩ := bsome h
  refine E_joinD (fun e ds w => ∃ (g : Gh) , Fr gI wI g w ∧ MkF g w ds ∧ e 2 = p1 ∧ PT g.m w (x0 : FaultLoom) p1 ∧ e 3 = p2 ∧ PT g.m w (x1 : List FaultSight) p2 ∧ e 4 = p3 ∧ OB 2004 g w 47 (j3 : List FaultDamage) p3 ∧ OSF 2004 60400 0 g w 37 47 (j3) p3) (fun Q' hQ => ?_) (fun mD xC uD hR => ?_)
  ·replace h := hx
   clear hx
   refine E_seq (E_region (EL_do .plain rfl (D_load (g := l8) Try.isAgg32 Try.sizeOf32 e8 g8 fun m8 rA => ?_)))
   have sA : RV l8.m _ (⟨x0⟩ : FaultFaultLoom) (.agg (setCh [[.int .i64 0, .slice none 0 0, .int .i64 0, .slice none 0 0]] [(0, m8)]).flatten.toArray) := RV_build rfl (rep_last (RV.cells rA))
   generalize eB : (Value.agg (setCh [[.int .i64 0, .slice none 0 0, .int .i64 0, .slice none 0 0]] [(0, m8)]).flatten.toArray) = g7 at sA
   refine EL_p g7 (eB ▸ P_build (vs := [(0, m8)]) [[.int .i64 0, .slice none 0 0, .int .i64 0, .slice none 0 0]] lay_104 rfl rfl (.cons rfl .nil) ⟨⟨_, rfl, cells_size rA⟩, trivial⟩) rfl ?_
   refine EL_p ((.func (.func 52) #[g7] #[])) (P_makeFunc (capf_1_0 (show ev _ _ = g7 from rfl))) rfl ?_
   refine EL_nil (thn_n (E_block ?_))
   have hB0 := hfr.size
   have hmk0 := hmk
   obtain ⟨d7, hφ, h⟩ := bsome h
   refine E_rangeFunc (σ := ((List FaultDamage))) (s0 := (i6)) 10 rfl (fun _ => 0) [] (fun (s : (List FaultDamage)) (g : Gh) (w : World) => Fr gI wI g w ∧ MkF g w c8 ∧ PT g.m w (x0 : FaultLoom) p1 ∧ PT g.m w (x1 : List FaultSight) p2 ∧ OB 2004 g w 47 (s : List FaultDamage) p3 ∧ OSF 2004 60400 0 g w 37 47 (s) p3) rfl (show ItV Try.prog (RA2 (α := FaultDamage) (β := (List Str))) (fun σ cons s => f52 ((⟨x0⟩ : FaultFaultLoom)) σ cons s) ((.func (.func 52) #[g7] #[])) l8.m vC from ⟨52, #[g7], #[], rfl, en52, fun g' w' hch σ cons s s' h => wk52 (sA.ch hch)  h⟩) hφ (fun _ _ _ _ => rfl) rfl ra2_size rfl (fun _ _ _ _ _ hx hR => by obtain ⟨hfr, hmk, z2, z3, z4, z5⟩ := hR; exact ⟨hfr.ist hx hB0, hmk.ist hx, z2.ist hx, z3.ist hx, z4.ist hx, z5.ist hx⟩) (fun _ _ _ _ _ hx hR => by obtain ⟨hfr, hmk, z2, z3, z4, z5⟩ := hR; exact ⟨hfr.stp hx, hmk.stp hx, z2.stp hx, z3.stp hx, z4.stp hx rfl, z5.stp hx rfl⟩) ⟨hfr, hmk, g8, u9, y9, u4_0_43⟩ (fun _ h => by cases h) ?_ ?_
   ·intro vD nD s x b s2 uA yC vs hsz h hR hrec_0 n8 hrd
    obtain ⟨j6, hse⟩ : ∃ y, y = s := ⟨s, rfl⟩
    subst hse
    obtain ⟨hfr, hmk, u0, o0, d3, u4_0_93⟩ := hR
    obtain ⟨v6, v7⟩ := x
    obtain ⟨z9, y6, rfl, t5, i3⟩ := ra2_get hrd
    have j1 := RFr.refl uA yC
    refine E_seq (E_region (EL_do .plain rfl (D_allocOc (g := uA) 2009 (⟨0, 0, 0, 0, false⟩ : FaultDamage) Try.zeroValue37 (fun m w => ⟨_, (rep_two rep_int (rep_two rep_int (rep_two rep_int (rep_two rep_int rep_bool)))), rfl⟩) fun aD vE xE hs b94 cb => ?_)))
    have hfr := hfr.stp hs
    have hmk := hmk.stp hs
    have j1 := j1.stp hs
    have hrec_0 := hrec_0.stp hs rfl
    have u0 := u0.stp hs
    have o0 := o0.stp hs
    have u4_0_93 := u4_0_93.stp hs rfl
    have d3 := d3.stp hs rfl
    have t5 := t5.stp hs
    have i3 := i3.stp hs
    clear cb
    refine EL_do .plain rfl (D_storeOc (g := aD) (v := z9) Try.sizeOf37 rfl b94 rfl t5 fun xA yE hs b95 cb => ?_)
    clear cb
    have hfr := hfr.stp hs
    have hmk := hmk.stp hs
    have j1 := j1.stp hs
    have hrec_0 := hrec_0.stp hs rfl
    have u0 := u0.stp hs
    have o0 := o0.stp hs
    have u4_0_93 := u4_0_93.stp hs rfl
    have d3 := d3.stp hs rfl
    have i3 := i3.stp hs
    refine EL_nil (thn_n (E_region (EL_at y6 rfl rfl ?_)))
    refine EL_nil (thn_n ?_)
    obtain ⟨bD, hbr, hs, hrN⟩ := begin_round hrec_0 n8
    refine ⟨bD, hbr, ?_⟩
    have hfr := hfr.stp hs
    have hmk := hmk.stp hs
    have j1 := j1.stp hs
    have u0 := u0.stp hs
    have o0 := o0.stp hs
    have u4_0_93 := u4_0_93.stp hs rfl
    have d3 := d3.stp hs rfl
    have i3 := i3.stp hs
    have b95 := b95.stp hs rfl
    have hrec_0 := hrN
    clear hbr hs hrN
    refine E_block ?_
    refine E_seq (E_region (EL_mw y6 rfl rfl ?_))
    refine EL_do .plain rfl (D_load (g := xA) Try.isAgg49 Try.sizeOf49 i8 o0 fun cD eD => ?_)
    obtain ⟨oA, iB, h⟩ := bsome h
    refine EL_do .plain rfl (D_call (g := xA) (vs := [y6, cD]) en53 (.cons rfl (.cons rfl .nil)) (wk53 i3 eD iB) fun o8 xD zE hs hr => ?_)
    have hfr := hfr.ext hs
    have hmk := hmk.ext hs
    have j1 := j1.ext hs
    have hrec_0 := hrec_0.ext hs
    have u0 := u0.ext hs
    have o0 := o0.ext hs
    have u4_0_93 := u4_0_93.ext hs
    have d3 := d3.ext hs
    have b95 := b95.ext hs
    subst hr
    refine EL_nil (thn_n ?_)
    rcases csome h with ⟨a7, h⟩ | ⟨a7, h⟩
    ·refine E_ct a7 rfl ?_
     refine E_region (EL_do .plain rfl (D_loadOS (g := o8) Try.isAgg47 Try.sizeOf47 x6 d3 u4_0_93 fun yD o7 o101 => ?_))
     refine EL_do .plain rfl (D_loadO (g := o8) Try.isAgg37 Try.sizeOf37 rfl b95 fun jB kB => ?_)
     refine EL_do .plain rfl (D_buildSlice (g := o8) 3036 (xs := ([v6] : List FaultDamage)) (vs := [jB]) Try.underlying47 Try.sizeOf37 Try.zeroValue37 rfl rfl (.cons rfl .nil) (RVs.cons kB RVs.nil) rfl rfl fun lB zD aE hs o103 mB hxt hfl => ?_)
     have hfr := hfr.stp hs
     have hmk := hmk.stp hs
     have j1 := j1.stp hs
     have hrec_0 := hrec_0.stp hs rfl
     have u0 := u0.stp hs
     have o0 := o0.stp hs
     have d3 := d3.stp hs rfl
     have o7 := o7.stp hs
     have o101 := o101.stp hs rfl
     obtain ⟨i7, bA, h⟩ := bsome h
     refine EL_do .plain rfl (D_append (g := lB) (i := 60400) Try.underlying47 info_37 rfl rfl o101 o7 rfl mB bA fun nB bE oB hs o104 q8 _ => ?_)
     have hfr := hfr.stp hs
     have hmk := hmk.stp hs
     have j1 := j1.stp hs
     have hrec_0 := hrec_0.stp hs rfl
     have u0 := u0.stp hs
     have o0 := o0.stp hs
     have d3 := d3.stp hs rfl
     refine EL_do .plain rfl (D_storeOc (g := nB) (v := oB) Try.sizeOf47 x6 d3 rfl q8 fun tB vB hs b106 cb => ?_)
     have r8 : OSF 2004 60400 0 tB vB 37 47 (i7 : List FaultDamage) p3 := cb.osfr (rv_cells1 q8) (o104.stp hs rfl)
     clear cb
     have hfr := hfr.stp hs
     have hmk := hmk.stp hs
     have j1 := j1.stp hs
     have hrec_0 := hrec_0.stp hs rfl
     have u0 := u0.stp hs
     have o0 := o0.stp hs
     refine EL_nil (blk_n ?_)
     obtain ⟨rfl, rfl⟩ := pairs2 h
     exact ⟨_, j1, ⟨hfr, hmk, u0, o0, b106, r8⟩, hrec_0, rfl, rfl⟩
    ·refine E_cf a7 rfl ?_
     refine E_skip (blk_n ?_)
     obtain ⟨rfl, rfl⟩ := pairs2 h
     exact ⟨_, j1, ⟨hfr, hmk, u0, o0, d3, u4_0_93⟩, hrec_0, rfl, rfl⟩
   ·intro xB cE ds108 hsz hR hds
    obtain ⟨hfr, hmk, t8, v8, x8, u4_0_108⟩ := hR
    obtain ⟨D, hdse, hD, hDb⟩ := hds.1 rfl
    subst hdse
    replace hmk := MkF.push hmk0 hmk hD hDb
    clear hD hDb hds
    revert hmk
    generalize ({ target := .collected D, args := #[] } :: c8 : List Deferred) = gD
    intro hmk
    refine ⟨fun _ => ?_, fun k c hs _ => absurd hs (Nat.succ_ne_zero k).symm⟩
    refine blk_n ?_
    obtain rfl := sinj h
    exact hQ _ _ _ ⟨xB, hfr, hmk, e8, t8, i8, v8, x6, x8, u4_0_108⟩
  ·clear hx
   obtain ⟨y8, hfr, hmk, a9, d9, e9, i9, x5, u3, u4_0_109⟩ := hR
   refine E_seq (L_loadOS (x := .tmp 4) Try.isAgg47 Try.sizeOf47 u3 u4_0_109 fun k9 b7 o110 gA => ?_)
   refine L_load (x := .tmp 2) Try.isAgg32 Try.sizeOf32 d9 fun c7 l9 iA => ?_
   have n9 : RV y8.m _ (⟨x0⟩ : FaultFaultLoom) (.agg (setCh [[.int .i64 0, .slice none 0 0, .int .i64 0, .slice none 0 0]] [(0, c7)]).flatten.toArray) := RV_build rfl (rep_last (RV.cells l9))
   generalize jA : (Value.agg (setCh [[.int .i64 0, .slice none 0 0, .int .i64 0, .slice none 0 0]] [(0, c7)]).flatten.toArray) = o9 at n9
   obtain ⟨i5, kA, h⟩ := bsome h
   refine L_load (x := .tmp 3) Try.isAgg49 Try.sizeOf49 i9 fun t9 yB lA => ?_
   obtain ⟨l5, mA, h⟩ := bsome h
   refine E_drawL (g := y8) (n := 6) [(3, (fun v g w => RV g.m w i5 v)), (5, (fun v g w => v = .bool (l5)))] [0, 1, 2, 3, 4, 5] rfl mixed (by kernel_rfl) (⟨fun _ => up_rv, fun _ => up_eq _, trivial⟩) ?_
   refine L_ld (c := k9) rfl rfl .plain (fun _ _ h => ⟨h.ch, fun b hb _ => h.below.block b hb⟩) gA x5 ?_
   refine L_ld (c := c7) rfl rfl .plain (fun _ _ h => h.ch) iA a9 ?_
   refine L_p o9 rfl rfl (jA ▸ P_build (vs := [(0, c7)]) [[.int .i64 0, .slice none 0 0, .int .i64 0, .slice none 0 0]] lay_104 rfl rfl (.cons rfl .nil) ⟨⟨_, rfl, cells_size l9⟩, trivial⟩) ?_
   refine L_do (φ := fun v g w => RV g.m w i5 v) rfl rfl .plain (fun g w hd => D_call (g := g) (vs := [o9, .slice none 0 0]) en42 (.cons rfl (.cons rfl .nil)) (wk42 (n9.ext hd.1) RV_nil kA) fun g' w' v hs hr => ⟨g', hs, hr⟩) (fun u7 hv => ?_)
   obtain ⟨_, _, _, rq113⟩ := hv
   refine L_ld (c := t9) rfl rfl .plain (fun _ _ h => h.ch) lA e9 ?_
   refine L_do (φ := fun v g w => v = .bool (l5)) rfl rfl .plain (fun g w hd => D_call (g := g) (vs := [u7, t9]) en53 (.cons rfl (.cons rfl .nil)) (wk53 (word (A := fun g w => RV g.m w i5 u7) 3 rfl rfl (deps_of hd)) (yB.ext hd.1) mA) fun g' w' v hs hr => ⟨g', hs, hr⟩) (fun dE hv => ?_)
   obtain ⟨_, _, _, rfl⟩ := hv
   refine L_nil fun zB eE hall => ?_
   have hs := hall.1
   have hfr := hfr.ext hs
   have hmk := hmk.ext hs
   have u3 := u3.ext hs
   have b7 := b7.ext hs
   have o110 := o110.ext hs
   have gE := (word_all (A := fun g w => RV g.m w i5 u7) 3 rfl hall)
   clear hs hall
   refine EL_do .plain rfl (D_storeOc (g := zB) (v := k9) Try.sizeOf47 x5 u3 rfl b7 fun aC cC hs b128 cb => ?_)
   have iD : OSF 2004 60400 0 aC cC 37 47 (j3 : List FaultDamage) p3 := cb.osfr (rv_cells1 b7) (o110.stp hs rfl)
   clear cb
   have hfr := hfr.stp hs
   have hmk := hmk.stp hs
   refine EL_at (.bool (l5)) rfl rfl ?_
   refine EL_at (.int .i64 (0)) rfl rfl ?_
   refine EL_nil (thn_n (E_ret (endM (.inr rfl) hmk fun iE jE hs => ?_)))
   have hfr := hfr.stp hs
   have b128 := b128.stp hs rfl
   obtain rfl := sinj h
   obtain ⟨ad130, cv130, hp130, nA, cr130⟩ := ob_read Try.isAgg47 Try.sizeOf47 b128
   exact endm_ctt rfl rfl ((show _ = p3 from x5).trans hp130) nA (show _ = .bool (l5) from rfl) (show _ = .int .i64 (0) from rfl) ⟨_, hfr, _, _, _, rfl, cr130, rfl, rfl⟩
def f20  : Option (Bool) :=
 (f17 ((⟨(⟨(4 : Int), ([(0 : Int), (1 : Int), (2 : Int), (3 : Int), (2 : Int), (1 : Int)] : List Int)⟩ : TieHarness), (⟨(4 : Int), ([(1 : Int), (6 : Int)] : List Int)⟩ : Design)⟩ : FaultLoom)) (([(⟨(1 : Int), (4 : Int), false⟩ : FaultSight)] : List FaultSight))).bind fun u0 =>
 (f58 ((⟨(⟨(4 : Int), ([(0 : Int), (1 : Int), (2 : Int), (3 : Int), (2 : Int), (1 : Int)] : List Int)⟩ : TieHarness), (⟨(4 : Int), ([(1 : Int), (6 : Int)] : List Int)⟩ : Design)⟩ : FaultLoom)) ((⟨(1 : Int), (1 : Int), (2 : Int), 0, false⟩ : FaultDamage)) ((⟨(5 : Int), 0, 0, (4 : Int), false⟩ : FaultDamage))).bind fun o0 =>
 Option.bind (α := Bool) (
  bif (u0.2.2 == (0 : Int)) then
   bif (o0.2.2 == (0 : Int)) then
    bif (((u0.1).length : Int) == (5 : Int)) then
     bif (!u0.2.1) then
      bif (o0.1 == (1 : Int)) then
       some ((o0.2.1 == (2 : Int)))
      else
       some (false)
     else
      some (false)
    else
     some (false)
   else
    some (false)
  else
   some (false)
  ) fun u3 =>
 some (u3)
theorem en20 : Enters Try.prog 20 := enters_of Try.func20 (by kernel_rfl) rfl
theorem wk20 {gI : Gh} {wI : World}   {r : Bool} (h : f20  = some r) : Fn Try.prog 20 #[] gI wI (fun _ _ v => v = .bool (r)) := by
 unfold f20 at h
 refine fn_of_E Try.func20 rfl (Nat.le_of_ble_eq_true rfl) fun g0 hm hfr => ?_
 show E _ 52 none _ _ _ _ _
 refine E_seq (E_region (EL_at (.bool false) rfl rfl ?_))
 refine EL_nil (thn_n (E_seq (E_region (EL_do .plain rfl (D_buildSlice (g := g0) 3008 (xs := ([(0 : Int), (1 : Int), (2 : Int), (3 : Int), (2 : Int), (1 : Int)] : List Int)) (vs := [.int .i64 (0), .int .i64 (1), .int .i64 (2), .int .i64 (3), .int .i64 (2), .int .i64 (1)]) Try.underlying26 Try.sizeOf3 Try.zeroValue3 rfl rfl (.cons rfl (.cons rfl (.cons rfl (.cons rfl (.cons rfl (.cons rfl .nil)))))) (RVs.cons (RV_int.2 rfl) (RVs.cons (RV_int.2 rfl) (RVs.cons (RV_int.2 rfl) (RVs.cons (RV_int.2 rfl) (RVs.cons (RV_int.2 rfl) (RVs.cons (RV_int.2 rfl) RVs.nil)))))) rfl rfl fun g1 w1 v1 hs o1 r1 hxt hfl => ?_)))))
 have hfr := hfr.stp hs
 have r2 : RV g1.m _ (⟨(4 : Int), ([(0 : Int), (1 : Int), (2 : Int), (3 : Int), (2 : Int), (1 : Int)] : List Int)⟩ : TieHarness) (.agg (setCh [[.int .i64 0], [.slice none 0 0]] [(0, .int .i64 (4)), (1, v1)]).flatten.toArray) := RV_build rfl (rep_pair (rfl) (rep_last (RV.cells r1)))
 generalize hv2 : (Value.agg (setCh [[.int .i64 0], [.slice none 0 0]] [(0, .int .i64 (4)), (1, v1)]).flatten.toArray) = v2 at r2
 refine EL_p v2 (hv2 ▸ P_build (vs := [(0, .int .i64 (4)), (1, v1)]) [[.int .i64 0], [.slice none 0 0]] lay_28 rfl rfl (.cons rfl (.cons rfl .nil)) ⟨⟨_, rfl, rfl⟩, ⟨⟨_, rfl, cells_size r1⟩, trivial⟩⟩) rfl ?_
 refine EL_do .plain rfl (D_buildSlice (g := g1) 3010 (xs := ([(1 : Int), (6 : Int)] : List Int)) (vs := [.int .i64 (1), .int .i64 (6)]) Try.underlying26 Try.sizeOf3 Try.zeroValue3 rfl rfl (.cons rfl (.cons rfl .nil)) (RVs.cons (RV_int.2 rfl) (RVs.cons (RV_int.2 rfl) RVs.nil)) rfl rfl fun g3 w3 v3 hs o3 r3 hxt hfl => ?_)
 have hfr := hfr.stp hs
 have r2 := r2.stp hs
 have r4 : RV g3.m _ (⟨(4 : Int), ([(1 : Int), (6 : Int)] : List Int)⟩ : Design) (.agg (setCh [[.int .i64 0], [.slice none 0 0]] [(0, .int .i64 (4)), (1, v3)]).flatten.toArray) := RV_build rfl (rep_pair (rfl) (rep_last (RV.cells r3)))
 generalize d7 : (Value.agg (setCh [[.int .i64 0], [.slice none 0 0]] [(0, .int .i64 (4)), (1, v3)]).flatten.toArray) = v4 at r4
 refine EL_p v4 (d7 ▸ P_build (vs := [(0, .int .i64 (4)), (1, v3)]) [[.int .i64 0], [.slice none 0 0]] lay_30 rfl rfl (.cons rfl (.cons rfl .nil)) ⟨⟨_, rfl, rfl⟩, ⟨⟨_, rfl, cells_size r3⟩, trivial⟩⟩) rfl ?_
 have r5 : RV g3.m _ (⟨(⟨(4 : Int), ([(0 : Int), (1 : Int), (2 : Int), (3 : Int), (2 : Int), (1 : Int)] : List Int)⟩ : TieHarness), (⟨(4 : Int), ([(1 : Int), (6 : Int)] : List Int)⟩ : Design)⟩ : FaultLoom) (.agg (setCh [[.int .i64 0, .slice none 0 0], [.int .i64 0, .slice none 0 0]] [(0, v2), (1, v4)]).flatten.toArray) := RV_build rfl (rep_pair (RV.cells r2) (rep_last (RV.cells r4)))
 generalize e7 : (Value.agg (setCh [[.int .i64 0, .slice none 0 0], [.int .i64 0, .slice none 0 0]] [(0, v2), (1, v4)]).flatten.toArray) = v5 at r5
 refine EL_p v5 (e7 ▸ P_build (vs := [(0, v2), (1, v4)]) [[.int .i64 0, .slice none 0 0], [.int .i64 0, .slice none 0 0]] lay_32 rfl rfl (.cons rfl (.cons rfl .nil)) ⟨⟨_, rfl, cells_size r2⟩, ⟨⟨_, rfl, cells_size r4⟩, trivial⟩⟩) rfl ?_
 refine EL_do .plain rfl (D_allocOc (g := g3) 2001 (⟨⟨0, []⟩, ⟨0, []⟩⟩ : FaultLoom) Try.zeroValue32 (fun m w => ⟨_, (rep_two (rep_two rep_int rep_nil) (rep_two rep_int rep_nil)), rfl⟩) fun g6 w6 p6 hs b6 cb => ?_)
 have hfr := hfr.stp hs
 have r5 := r5.stp hs
 have k8 : OSF 2001 60101 1 g6 w6 3 32 ([] : List Int) p6 := cb.osf (by rfl)
 have l8 : OSF 2001 60103 3 g6 w6 3 32 ([] : List Int) p6 := cb.osf (by rfl)
 clear cb
 refine EL_do .plain rfl (D_storeOc (g := g6) (v := v5) Try.sizeOf32 rfl b6 rfl r5 fun g7 w7 hs b7 cb => ?_)
 clear cb
 have hfr := hfr.stp hs
 refine EL_nil (thn_n (E_seq (E_region (EL_do .plain rfl (D_loadO (g := g7) Try.isAgg32 Try.sizeOf32 rfl b7 fun v8 r8 => ?_)))))
 have r9 : RV g7.m w7 (⟨(1 : Int), (4 : Int), false⟩ : FaultSight) (.agg (setCh [[.int .i64 0], [.int .i64 0], [.bool false]] [(0, .int .i64 (1)), (1, .int .i64 (4))]).flatten.toArray) := RV_build rfl (rep_pair (rfl) (rep_pair (rfl) (rep_last (rep_bool))))
 generalize i7 : (Value.agg (setCh [[.int .i64 0], [.int .i64 0], [.bool false]] [(0, .int .i64 (1)), (1, .int .i64 (4))]).flatten.toArray) = v9 at r9
 refine EL_p v9 (i7 ▸ P_build (vs := [(0, .int .i64 (1)), (1, .int .i64 (4))]) [[.int .i64 0], [.int .i64 0], [.bool false]] lay_51 rfl rfl (.cons rfl (.cons rfl .nil)) ⟨⟨_, rfl, rfl⟩, ⟨⟨_, rfl, rfl⟩, trivial⟩⟩) rfl ?_
 refine EL_do .plain rfl (D_buildSlice (g := g7) 3016 (xs := ([(⟨(1 : Int), (4 : Int), false⟩ : FaultSight)] : List FaultSight)) (vs := [v9]) Try.underlying49 Try.sizeOf51 Try.zeroValue51 rfl rfl (.cons rfl .nil) (RVs.cons r9 RVs.nil) rfl rfl fun j7 o8 m7 hs o10 n7 hxt hfl => ?_)
 have hfr := hfr.stp hs
 have b7 := b7.stp hs rfl
 have r8 := r8.stp hs
 obtain ⟨u0, x6, h⟩ := bsome h
 refine EL_do .plain rfl (D_call (g := j7) (vs := [v8, m7]) en17 (.cons rfl (.cons rfl .nil)) (wk17 r8 n7 x6) fun l5 q5 q8 hs hr => ?_)
 have hfr := hfr.ext hs
 have b7 := b7.ext hs
 obtain ⟨z3, v7, c8, rfl, i5, rfl, rfl⟩ := hr
 refine EL_mw (.tuple #[z3, .bool (u0.2.1), .int .i64 (u0.2.2)]) rfl rfl ?_
 refine EL_p z3 (P_extract rfl rfl) rfl ?_
 refine EL_p (.bool (u0.2.1)) (P_extract rfl rfl) rfl ?_
 refine EL_p (.int .i64 (u0.2.2)) (P_extract rfl rfl) rfl ?_
 refine EL_at z3 rfl rfl ?_
 refine EL_at (.bool (u0.2.1)) rfl rfl ?_
 refine EL_at (.int .i64 (u0.2.2)) rfl rfl ?_
 refine EL_nil (thn_n (E_seq (E_region (EL_do .plain rfl (D_loadO (g := l5) Try.isAgg32 Try.sizeOf32 rfl b7 fun o7 u7 => ?_)))))
 have x5 : RV l5.m q5 (⟨(1 : Int), (1 : Int), (2 : Int), 0, false⟩ : FaultDamage) (.agg (setCh [[.int .i64 0], [.int .i64 0], [.int .i64 0], [.int .i64 0], [.bool false]] [(0, .int .i64 (1)), (1, .int .i64 (1)), (2, .int .i64 (2))]).flatten.toArray) := RV_build rfl (rep_pair (rfl) (rep_pair (rfl) (rep_pair (rfl) (rep_pair (rep_int) (rep_last (rep_bool))))))
 generalize y6 : (Value.agg (setCh [[.int .i64 0], [.int .i64 0], [.int .i64 0], [.int .i64 0], [.bool false]] [(0, .int .i64 (1)), (1, .int .i64 (1)), (2, .int .i64 (2))]).flatten.toArray) = i6 at x5
 refine EL_p i6 (y6 ▸ P_build (vs := [(0, .int .i64 (1)), (1, .int .i64 (1)), (2, .int .i64 (2))]) [[.int .i64 0], [.int .i64 0], [.int .i64 0], [.int .i64 0], [.bool false]] lay_37 rfl rfl (.cons rfl (.cons rfl (.cons rfl .nil))) ⟨⟨_, rfl, rfl⟩, ⟨⟨_, rfl, rfl⟩, ⟨⟨_, rfl, rfl⟩, trivial⟩⟩⟩) rfl ?_
 have j6 : RV l5.m q5 (⟨(5 : Int), 0, 0, (4 : Int), false⟩ : FaultDamage) (.agg (setCh [[.int .i64 0], [.int .i64 0], [.int .i64 0], [.int .i64 0], [.bool false]] [(0, .int .i64 (5)), (3, .int .i64 (4))]).flatten.toArray) := RV_build rfl (rep_pair (rfl) (rep_pair (rep_int) (rep_pair (rep_int) (rep_pair (rfl) (rep_last (rep_bool))))))
 generalize a7 : (Value.agg (setCh [[.int .i64 0], [.int .i64 0], [.int .i64 0], [.int .i64 0], [.bool false]] [(0, .int .i64 (5)), (3, .int .i64 (4))]).flatten.toArray) = v6 at j6
 refine EL_p v6 (a7 ▸ P_build (vs := [(0, .int .i64 (5)), (3, .int .i64 (4))]) [[.int .i64 0], [.int .i64 0], [.int .i64 0], [.int .i64 0], [.bool false]] lay_37 rfl rfl (.cons rfl (.cons rfl .nil)) ⟨⟨_, rfl, rfl⟩, ⟨⟨_, rfl, rfl⟩, trivial⟩⟩) rfl ?_
 obtain ⟨o0, c7, h⟩ := bsome h
 refine EL_do .plain rfl (D_call (g := l5) (vs := [o7, i6, v6]) en58 (.cons rfl (.cons rfl (.cons rfl .nil))) (wk58 u7 x5 j6 c7) fun z4 m8 t8 hs hr => ?_)
 have hfr := hfr.ext hs
 have i5 := i5.ext hs
 obtain ⟨e8, g8, i8, rfl, rfl, rfl, rfl⟩ := hr
 refine EL_mw (.tuple #[.int .i64 (o0.1), .int .i64 (o0.2.1), .int .i64 (o0.2.2)]) rfl rfl ?_
 refine EL_p (.int .i64 (o0.1)) (P_extract rfl rfl) rfl ?_
 refine EL_p (.int .i64 (o0.2.1)) (P_extract rfl rfl) rfl ?_
 refine EL_p (.int .i64 (o0.2.2)) (P_extract rfl rfl) rfl ?_
 refine EL_at (.int .i64 (o0.1)) rfl rfl ?_
 refine EL_at (.int .i64 (o0.2.1)) rfl rfl ?_
 refine EL_at (.int .i64 (o0.2.2)) rfl rfl ?_
 refine EL_nil (thn_n ?_)
 obtain ⟨u3, hx, h⟩ := bsome h
 refine E_join (fun e w => ∃ (g : Gh) , Fr gI wI g w ∧ e 0 = .bool (u3)) (fun Q' hQ => ?_) (fun n8 x8 hR => ?_)
 ·replace h := hx
  clear hx
  refine E_region (EL_mw (.int .i64 (u0.2.2)) rfl rfl ?_)
  refine EL_in (.bool ((u0.2.2 == (0 : Int)))) rfl rfl rfl rfl ?_
  refine EL_mw (.bool ((u0.2.2 == (0 : Int)))) rfl rfl ?_
  rcases csome h with ⟨z2, h⟩ | ⟨z2, h⟩
  ·refine EL_y (.int .i64 (o0.2.2)) (P_move rfl) rfl rfl z2 rfl ?_
   refine EL_y (.bool ((o0.2.2 == (0 : Int)))) (P_int rfl rfl rfl) rfl rfl z2 rfl ?_
   refine EL_p (.bool ((o0.2.2 == (0 : Int)))) (P_pick (b := (u0.2.2 == (0 : Int))) rfl (pick_t z2 rfl)) rfl ?_
   refine EL_mw (.bool ((o0.2.2 == (0 : Int)))) rfl rfl ?_
   rcases csome h with ⟨j1, h⟩ | ⟨j1, h⟩
   ·refine EL_y z3 (P_move rfl) rfl rfl j1 rfl ?_
    refine EL_y (.int .i64 ((u0.1).length : Int)) (P_len Try.underlying47 rfl i5) rfl rfl j1 rfl ?_
    refine EL_y (.bool ((((u0.1).length : Int) == (5 : Int)))) (P_int rfl rfl rfl) rfl rfl j1 rfl ?_
    refine EL_p (.bool ((((u0.1).length : Int) == (5 : Int)))) (P_pick (b := (o0.2.2 == (0 : Int))) rfl (pick_t j1 rfl)) rfl ?_
    refine EL_mw (.bool ((((u0.1).length : Int) == (5 : Int)))) rfl rfl ?_
    rcases csome h with ⟨d3, h⟩ | ⟨d3, h⟩
    ·refine EL_y (.bool (u0.2.1)) (P_move rfl) rfl rfl d3 rfl ?_
     refine EL_y (.bool (!u0.2.1)) (P_not rfl) rfl rfl d3 rfl ?_
     refine EL_p (.bool (!u0.2.1)) (P_pick (b := (((u0.1).length : Int) == (5 : Int))) rfl (pick_t d3 rfl)) rfl ?_
     refine EL_mw (.bool (!u0.2.1)) rfl rfl ?_
     rcases csome h with ⟨i3, h⟩ | ⟨i3, h⟩
     ·refine EL_y (.int .i64 (o0.1)) (P_move rfl) rfl rfl i3 rfl ?_
      refine EL_y (.bool ((o0.1 == (1 : Int)))) (P_int rfl rfl rfl) rfl rfl i3 rfl ?_
      refine EL_p (.bool ((o0.1 == (1 : Int)))) (P_pick (b := (!u0.2.1)) rfl (pick_t i3 rfl)) rfl ?_
      refine EL_mw (.bool ((o0.1 == (1 : Int)))) rfl rfl ?_
      rcases csome h with ⟨j3, h⟩ | ⟨j3, h⟩
      ·refine EL_y (.int .i64 (o0.2.1)) (P_move rfl) rfl rfl j3 rfl ?_
       refine EL_y (.bool ((o0.2.1 == (2 : Int)))) (P_int rfl rfl rfl) rfl rfl j3 rfl ?_
       refine EL_p (.bool ((o0.2.1 == (2 : Int)))) (P_pick (b := (o0.1 == (1 : Int))) rfl (pick_t j3 rfl)) rfl ?_
       refine EL_at (.bool ((o0.2.1 == (2 : Int)))) rfl rfl ?_
       refine EL_nil ?_
       obtain rfl := sinj h
       exact hQ _ _ ⟨z4, hfr, rfl⟩
      ·refine EL_s rfl rfl j3 rfl rfl ?_
       refine EL_s rfl rfl j3 rfl rfl ?_
       refine EL_p (.bool false) (P_pick (b := (o0.1 == (1 : Int))) rfl (pick_f j3 rfl)) rfl ?_
       refine EL_at (.bool false) rfl rfl ?_
       refine EL_nil ?_
       obtain rfl := sinj h
       exact hQ _ _ ⟨z4, hfr, rfl⟩
     ·refine EL_s rfl rfl i3 rfl rfl ?_
      refine EL_s rfl rfl i3 rfl rfl ?_
      refine EL_p (.bool false) (P_pick (b := (!u0.2.1)) rfl (pick_f i3 rfl)) rfl ?_
      refine EL_dead 4 rfl ?_
      refine EL_at (.bool false) rfl rfl ?_
      refine EL_nil ?_
      obtain rfl := sinj h
      exact hQ _ _ ⟨z4, hfr, rfl⟩
    ·refine EL_s rfl rfl d3 rfl rfl ?_
     refine EL_s rfl rfl d3 rfl rfl ?_
     refine EL_p (.bool false) (P_pick (b := (((u0.1).length : Int) == (5 : Int))) rfl (pick_f d3 rfl)) rfl ?_
     refine EL_dead 8 rfl ?_
     refine EL_at (.bool false) rfl rfl ?_
     refine EL_nil ?_
     obtain rfl := sinj h
     exact hQ _ _ ⟨z4, hfr, rfl⟩
   ·refine EL_s rfl rfl j1 rfl rfl ?_
    refine EL_s rfl rfl j1 rfl rfl ?_
    refine EL_s rfl rfl j1 rfl rfl ?_
    refine EL_p (.bool false) (P_pick (b := (o0.2.2 == (0 : Int))) rfl (pick_f j1 rfl)) rfl ?_
    refine EL_dead 12 rfl ?_
    refine EL_at (.bool false) rfl rfl ?_
    refine EL_nil ?_
    obtain rfl := sinj h
    exact hQ _ _ ⟨z4, hfr, rfl⟩
  ·refine EL_s rfl rfl z2 rfl rfl ?_
   refine EL_s rfl rfl z2 rfl rfl ?_
   refine EL_p (.bool false) (P_pick (b := (u0.2.2 == (0 : Int))) rfl (pick_f z2 rfl)) rfl ?_
   refine EL_dead 17 rfl ?_
   refine EL_at (.bool false) rfl rfl ?_
   refine EL_nil ?_
   obtain rfl := sinj h
   exact hQ _ _ ⟨z4, hfr, rfl⟩
 ·clear hx
  obtain ⟨y8, hfr, t5⟩ := hR
  refine E_ret ?_
  obtain rfl := sinj h
  exact end1 rfl rfl (show _ = .bool (u3) from t5) ⟨_, hfr, rfl⟩
def f22 (x0 : FaultLoom) (x1 : List FaultDamage) (x2 : Int) : Option ((List FaultSight) × Int) :=
 (f13 x0 x1 x2).bind fun y5 =>
 jn (σ := (List FaultSight)) (fun j6 =>
  (f13 x0 ([]) x2).bind fun x6 =>
  Option.bind (α := (List FaultSight)) (
   (f60 (y5.1) (x6.1)).bind fun k8 =>
   (k8 ((List FaultSight)) (fun y6 (o0, u0) =>
    (idx (y5.1) o0).bind fun d7 =>
    (idx (d7).b u0).bind fun j1 =>
    (apnd 24 y6 (([(⟨o0, u0, (j1 == (120 : UInt8))⟩ : FaultSight)] : List FaultSight))).bind fun e7 =>
    some (true, (e7))
    ) (j6)).bind fun a7 =>
   some (a7)
   ) fun u3 =>
  some (u3, (0 : Int))
  ) fun gA =>
 bif (y5.2 != (0 : Int)) then
  some ([], y5.2)
 else
  gA (([] : List FaultSight))
theorem en22 : Enters Try.prog 22 := enters_of Try.func22 (by kernel_rfl) rfl
theorem wk22 {gI : Gh} {wI : World} {x0 : FaultLoom} {x1 : List FaultDamage} {x2 : Int} {up0 : Value} (rp0 : RV gI.m wI x0 up0) {up1 : Value} (rp1 : RV gI.m wI x1 up1) {r : (List FaultSight) × Int} (h : f22 x0 x1 x2 = some r) : Fn Try.prog 22 #[up0, up1, .int .i64 (x2)] gI wI (fun m w v => ∃ y0 y1, v = .tuple #[y0, y1] ∧ RV m w (r.1) y0 ∧ y1 = .int .i64 (r.2)) := by
 unfold f22 at h
 refine fnD_of_E Try.func22 rfl (Nat.le_of_ble_eq_true rfl) fun g0 hm hfr => ?_
 have hmk : MkF g0 wI [] := MkF.start
 have rp0 : RV g0.m wI x0 up0 := hm ▸ rp0
 have rp1 : RV g0.m wI x1 up1 := hm ▸ rp1
 show E _ 48 none _ _ _ _ _
 refine E_seq (E_region (EL_do .plain rfl (D_box (g := g0) rfl rp0 fun g1 w1 p1 hs q1 => ?_)))
 have hfr := hfr.ext hs
 have hmk := hmk.ext hs
 have rp1 := rp1.ext hs
 refine EL_do .plain rfl (D_allocOc (g := g1) 2006 ([] : List FaultSight) Try.zeroValue49 (fun m w => ⟨_, rep_nil, rfl⟩) fun g2 w2 p2 hs b2 cb => ?_)
 have hfr := hfr.stp hs
 have hmk := hmk.stp hs
 have rp1 := rp1.stp hs
 have q1 := q1.stp hs
 have l5 : OSF 2006 60600 0 g2 w2 51 49 ([] : List FaultSight) p2 := cb.osf (by rfl)
 clear cb
 refine EL_at (.int .i64 (0)) rfl rfl ?_
 refine EL_nil (thn_n (E_seq (E_region (EL_do .plain rfl (D_load (g := g2) Try.isAgg32 Try.sizeOf32 rfl q1 fun v3 r3 => ?_)))))
 refine EL_mw up1 rfl rfl ?_
 refine EL_mw (.int .i64 (x2)) rfl rfl ?_
 obtain ⟨y5, hy5, h⟩ := bsome h
 refine EL_do .plain rfl (D_call (g := g2) (vs := [v3, up1, .int .i64 (x2)]) en13 (.cons rfl (.cons rfl (.cons rfl .nil))) (wk13 r3 rp1 hy5) fun g4 w4_ v4 hs hr => ?_)
 have hfr := hfr.ext hs
 have hmk := hmk.ext hs
 have q1 := q1.ext hs
 have l5 := l5.ext hs
 have b2 := b2.ext hs
 obtain ⟨i7, kC, rfl, j7, rfl⟩ := hr
 refine EL_mw (.tuple #[i7, .int .i64 (y5.2)]) rfl rfl ?_
 refine EL_p i7 (P_extract rfl rfl) rfl ?_
 refine EL_p (.int .i64 (y5.2)) (P_extract rfl rfl) rfl ?_
 refine EL_do .plain rfl (D_allocOc (g := g4) 2008 ([] : List Str) Try.zeroValue38 (fun m w => ⟨_, rep_nil, rfl⟩) fun g6 w6 p6 hs b6 cb => ?_)
 have hfr := hfr.stp hs
 have hmk := hmk.stp hs
 have q1 := q1.stp hs
 have l5 := l5.stp hs rfl
 have b2 := b2.stp hs rfl
 have j7 := j7.stp hs
 have lC : OSF 2008 60800 0 g6 w6 9 38 ([] : List Str) p6 := cb.osf (by rfl)
 clear cb
 refine EL_do .plain rfl (D_storeOc (g := g6) (v := i7) Try.sizeOf38 rfl b6 rfl j7 fun g7 w7 hs b7 cb => ?_)
 clear cb
 have hfr := hfr.stp hs
 have hmk := hmk.stp hs
 have q1 := q1.stp hs
 have l5 := l5.stp hs rfl
 have b2 := b2.stp hs rfl
 refine EL_at (.int .i64 (y5.2)) rfl rfl ?_
 refine EL_nil (thn_n (E_joinCD h (fun (s : (List FaultSight)) e ds w => ∃ (g : Gh) , Fr gI wI g w ∧ MkF g w ds ∧ e 2 = .int .i64 (x2) ∧ e 3 = p1 ∧ PT g.m w (x0 : FaultLoom) p1 ∧ e 6 = p2 ∧ OB 2006 g w 49 (s : List FaultSight) p2 ∧ OSF 2006 60600 0 g w 51 49 (s) p2 ∧ e 8 = p6 ∧ OB 2008 g w 38 (y5.1 : List Str) p6) (fun X12 gA lA h => ?_) ?_))
 ·refine E_seq (E_region (EL_mw (.int .i64 (y5.2)) rfl rfl ?_))
  refine EL_in (.bool ((y5.2 != (0 : Int)))) rfl rfl rfl rfl ?_
  refine EL_nil (thn_n ?_)
  rcases csome h with ⟨m7, h⟩ | ⟨m7, h⟩
  ·refine E_ct m7 rfl ?_
   refine E_seq (E_region (EL_mw (.int .i64 (y5.2)) rfl rfl ?_))
   refine EL_do .plain rfl (D_storeOc (g := g7) (v := .slice none 0 0) Try.sizeOf49 rfl b2 rfl RV_nil fun kB lB hs b14 cb => ?_)
   have dC : OSF 2006 60600 0 kB lB 51 49 ([] : List FaultSight) p2 := cb.osfr (rfl) OS.nil
   clear cb
   have hfr := hfr.stp hs
   have hmk := hmk.stp hs
   refine EL_at (.int .i64 (y5.2)) rfl rfl ?_
   refine EL_nil (thn_n (E_ret (thn_r ?_)))
   refine endM (.inr rfl) hmk fun cD w15 hs => ?_
   have hfr := hfr.stp hs
   have b14 := b14.stp hs rfl
   obtain rfl := sinj h
   obtain ⟨ad16, cv16, hp16, mA, cr16⟩ := ob_read Try.isAgg49 Try.sizeOf49 b14
   exact endm_ct rfl rfl ((show _ = p2 from rfl).trans hp16) mA (show _ = .int .i64 (y5.2) from rfl) ⟨_, hfr, _, _, rfl, cr16, rfl⟩
  ·refine E_cf m7 rfl ?_
   exact E_skip (thn_n (lA (([] : List FaultSight)) _ _ _ ⟨g7, hfr, hmk, rfl, rfl, q1, rfl, b2, l5, rfl, b7⟩ h))
 ·rintro j6 mC u7 eD ⟨iA, hfr, hmk, e9, i9, k9, v6, q5, u6_0_17, v7, i5⟩ h
  refine E_seq (E_region (EL_do .plain rfl (D_load (g := iA) Try.isAgg32 Try.sizeOf32 i9 k9 fun mB nB => ?_)))
  refine EL_mv e9 rfl ?_
  obtain ⟨x6, nA, h⟩ := bsome h
  refine EL_do .plain rfl (D_call (g := iA) (vs := [mB, .slice none 0 0, .int .i64 (x2)]) en13 (.cons rfl (.cons rfl (.cons rfl .nil))) (wk13 nB RV_nil nA) fun jA qC gD hs hr => ?_)
  have hfr := hfr.ext hs
  have hmk := hmk.ext hs
  have u6_0_17 := u6_0_17.ext hs
  have q5 := q5.ext hs
  have i5 := i5.ext hs
  obtain ⟨t5, eC, rfl, l9, rfl⟩ := hr
  refine EL_mw (.tuple #[t5, .int .i64 (x6.2)]) rfl rfl ?_
  refine EL_p t5 (P_extract rfl rfl) rfl ?_
  refine EL_p (.int .i64 (x6.2)) (P_extract rfl rfl) rfl ?_
  refine EL_at t5 rfl rfl ?_
  refine EL_at (.int .i64 (x6.2)) rfl rfl ?_
  refine EL_nil (thn_n ?_)
  obtain ⟨u3, hx, h⟩ := bsome h
  refine E_joinD (fun e ds w => ∃ (g : Gh) , Fr gI wI g w ∧ MkF g w ds ∧ e 6 = p2 ∧ OB 2006 g w 49 (u3 : List FaultSight) p2 ∧ OSF 2006 60600 0 g w 51 49 (u3) p2) (fun Q' hQ => ?_) (fun iC oB rC hR => ?_)
  ·replace h := hx
   clear hx
   refine E_seq (E_region (EL_do .plain rfl (D_loadO (g := jA) Try.isAgg38 Try.sizeOf38 v7 i5 fun tB vB => ?_)))
   refine EL_mw t5 rfl rfl ?_
   obtain ⟨k8, oA, h⟩ := bsome h
   refine EL_do .plain rfl (D_call (g := jA) (vs := [tB, t5]) en60 (.cons rfl (.cons rfl .nil)) (wk60 vB l9 oA) fun iD tC xB hs hr => ?_)
   have hfr := hfr.ext hs
   have hmk := hmk.ext hs
   have u6_0_17 := u6_0_17.ext hs
   have q5 := q5.ext hs
   have i5 := i5.ext hs
   have kA := hr
   refine EL_nil (thn_n (E_block ?_))
   have hB0 := hfr.size
   have hmk0 := hmk
   obtain ⟨a7, hφ, h⟩ := bsome h
   refine E_rangeFunc (σ := ((List FaultSight))) (s0 := (j6)) 10 rfl (fun _ => 0) [] (fun (s : (List FaultSight)) (g : Gh) (w : World) => Fr gI wI g w ∧ MkF g w u7 ∧ OB 2006 g w 49 (s : List FaultSight) p2 ∧ OSF 2006 60600 0 g w 51 49 (s) p2 ∧ OB 2008 g w 38 (y5.1 : List Str) p6 ∧ ItV Try.prog (RA2 (α := Int) (β := Int)) k8 xB g.m w) rfl kA hφ (fun _ _ _ _ => rfl) rfl ra2_size rfl (fun _ _ _ _ _ hx hR => by obtain ⟨hfr, hmk, z2, z3, z4, z5⟩ := hR; exact ⟨hfr.ist hx hB0, hmk.ist hx, z2.ist hx, z3.ist hx, z4.ist hx, z5.ist hx⟩) (fun _ _ _ _ _ hx hR => by obtain ⟨hfr, hmk, z2, z3, z4, z5⟩ := hR; exact ⟨hfr.stp hx, hmk.stp hx, z2.stp hx rfl, z3.stp hx rfl, z4.stp hx rfl, z5.stp hx⟩) ⟨hfr, hmk, q5, u6_0_17, i5, kA⟩ (fun _ h => by cases h) ?_ ?_
   ·intro jC yB s x b s2 n7 pA vs hsz h hR hrec_0 e8 hrd
    obtain ⟨y6, hse⟩ : ∃ y, y = s := ⟨s, rfl⟩
    subst hse
    obtain ⟨hfr, hmk, j3, u6_0_129, i3, d3⟩ := hR
    obtain ⟨o0, u0⟩ := x
    obtain ⟨l8, m8, rfl, g8, i8⟩ := ra2_get hrd
    obtain rfl : l8 = .int .i64 (o0) := RV_int.1 g8
    obtain rfl : m8 = .int .i64 (u0) := RV_int.1 i8
    have o3 := RFr.refl n7 pA
    refine E_seq (E_region (EL_at (.int .i64 (o0)) rfl rfl ?_))
    refine EL_nil (thn_n (E_region (EL_at (.int .i64 (u0)) rfl rfl ?_)))
    refine EL_nil (thn_n ?_)
    obtain ⟨n8, hbr, hs, hrN⟩ := begin_round hrec_0 e8
    refine ⟨n8, hbr, ?_⟩
    have hfr := hfr.stp hs
    have hmk := hmk.stp hs
    have o3 := o3.stp hs
    have u6_0_129 := u6_0_129.stp hs rfl
    have j3 := j3.stp hs rfl
    have i3 := i3.stp hs rfl
    have d3 := d3.stp hs
    have hrec_0 := hrN
    clear hbr hs hrN
    refine E_block ?_
    refine L_loadOS (x := .tmp 6) Try.isAgg49 Try.sizeOf49 j3 u6_0_129 fun qA o7 o131 n9 => ?_
    refine L_loadO0 (x := .tmp 8) Try.isAgg38 Try.sizeOf38 i3 fun o8 q8 o9 => ?_
    obtain ⟨d7, c8, h⟩ := bsome h
    have rA := PT_idx q8 c8
    refine L_load (x := .tmp 39) Try.isAgg9 Try.sizeOf9 rA fun uC sA t9 => ?_
    obtain rfl := RV_str.1 sA
    obtain ⟨j1, u9, h⟩ := bsome h
    have r8 : RV n7.m n8 (⟨o0, u0, (j1 == (120 : UInt8))⟩ : FaultSight) (.agg (setCh [[.int .i64 0], [.int .i64 0], [.bool false]] [(0, .int .i64 (o0)), (1, .int .i64 (u0)), (2, .bool ((j1 == (120 : UInt8))))]).flatten.toArray) := RV_build rfl (rep_pair (rfl) (rep_pair (rfl) (rep_last (rfl))))
    generalize y9 : (Value.agg (setCh [[.int .i64 0], [.int .i64 0], [.bool false]] [(0, .int .i64 (o0)), (1, .int .i64 (u0)), (2, .bool ((j1 == (120 : UInt8))))]).flatten.toArray) = t8 at r8
    refine E_drawL (g := n7) (n := 12) [(11, (fun v g w => RV g.m w ([(⟨o0, u0, (j1 == (120 : UInt8))⟩ : FaultSight)] : List FaultSight) v ∧ OS 3045 g w 51 ([(⟨o0, u0, (j1 == (120 : UInt8))⟩ : FaultSight)] : List FaultSight) v ∧ FullV v))] [0, 1, 2, 3, 4, 5, 6, 7, 8, 9, 10, 11] rfl mixed (by kernel_rfl) (⟨fun _ => up_and up_rv (up_and up_os (up_eq _)), trivial⟩) ?_
    refine L_ld (c := qA) rfl rfl .plain (fun _ _ h => ⟨h.ch, fun b hb _ => h.below.block b hb⟩) n9 v6 ?_
    refine L_p (.int .i64 (o0)) rfl rfl (P_move rfl) ?_
    refine L_p (.int .i64 (u0)) rfl rfl (P_move rfl) ?_
    refine L_ld (c := o8) rfl rfl .plain (fun _ _ h => ⟨h.ch, fun b hb _ => h.below.block b hb⟩) o9 v7 ?_
    refine L_p (.int .i64 (o0)) rfl rfl (P_move rfl) ?_
    refine L_p (ePtr o8 o0 1) rfl rfl (P_indexAddr (α := Str) Try.underlying38 Try.sizeOf9 rfl q8 rfl c8) ?_
    refine L_ld (c := Str.v (d7)) rfl rfl .plain (fun _ _ h => h.ch) t9 rfl ?_
    refine L_p (.int .i64 (u0)) rfl rfl (P_move rfl) ?_
    refine L_p (.int .u8 (UInt8.toNat (j1))) rfl rfl (P_indexS Try.underlying9 rfl rfl u9) ?_
    refine L_p (.bool ((j1 == (120 : UInt8)))) rfl rfl (P_u8 rfl rfl rfl) ?_
    refine L_p t8 rfl rfl (y9 ▸ P_build (vs := [(0, .int .i64 (o0)), (1, .int .i64 (u0)), (2, .bool ((j1 == (120 : UInt8))))]) [[.int .i64 0], [.int .i64 0], [.bool false]] lay_51 rfl rfl (.cons rfl (.cons rfl (.cons rfl .nil))) ⟨⟨_, rfl, rfl⟩, ⟨⟨_, rfl, rfl⟩, ⟨⟨_, rfl, rfl⟩, trivial⟩⟩⟩) ?_
    refine L_do (φ := fun v g w => RV g.m w ([(⟨o0, u0, (j1 == (120 : UInt8))⟩ : FaultSight)] : List FaultSight) v ∧ OS 3045 g w 51 ([(⟨o0, u0, (j1 == (120 : UInt8))⟩ : FaultSight)] : List FaultSight) v ∧ FullV v) rfl rfl .plain (fun g w hd => D_buildSlice (g := g) 3045 (xs := ([(⟨o0, u0, (j1 == (120 : UInt8))⟩ : FaultSight)] : List FaultSight)) (vs := [t8]) Try.underlying49 Try.sizeOf51 Try.zeroValue51 rfl rfl (.cons rfl .nil) (RVs.cons (r8.ext hd.1) RVs.nil) rfl rfl fun g' w' v hs o r hxt hfl => ⟨g', hxt, r, o, hfl⟩) (fun x5 hv => ?_)
    clear hv
    refine L_nil fun uA vC hall => ?_
    have hs := hall.1
    have hfr := hfr.ext hs
    have hmk := hmk.ext hs
    have o3 := o3.ext hs
    have hrec_0 := hrec_0.ext hs
    have j3 := j3.ext hs
    have i3 := i3.ext hs
    have d3 := d3.ext hs
    have o7 := o7.ext hs
    have o131 := o131.ext hs
    have xA := (word_all (A := fun g w => RV g.m w ([(⟨o0, u0, (j1 == (120 : UInt8))⟩ : FaultSight)] : List FaultSight) x5 ∧ OS 3045 g w 51 ([(⟨o0, u0, (j1 == (120 : UInt8))⟩ : FaultSight)] : List FaultSight) x5 ∧ FullV x5) 11 rfl hall).1
    have o158 := (word_all (A := fun g w => RV g.m w ([(⟨o0, u0, (j1 == (120 : UInt8))⟩ : FaultSight)] : List FaultSight) x5 ∧ OS 3045 g w 51 ([(⟨o0, u0, (j1 == (120 : UInt8))⟩ : FaultSight)] : List FaultSight) x5 ∧ FullV x5) 11 rfl hall).2.1
    clear hs hall
    obtain ⟨e7, z9, h⟩ := bsome h
    refine EL_do .plain rfl (D_append (g := uA) (i := 60600) Try.underlying49 info_51 rfl rfl o131 o7 rfl xA z9 fun yA xC zA hs o159 v8 _ => ?_)
    have hfr := hfr.stp hs
    have hmk := hmk.stp hs
    have o3 := o3.stp hs
    have hrec_0 := hrec_0.stp hs rfl
    have j3 := j3.stp hs rfl
    have i3 := i3.stp hs rfl
    have d3 := d3.stp hs
    refine EL_do .plain rfl (D_storeOc (g := yA) (v := zA) Try.sizeOf49 v6 j3 rfl v8 fun aB bB hs b161 cb => ?_)
    have x8 : OSF 2006 60600 0 aB bB 51 49 (e7 : List FaultSight) p2 := cb.osfr (rv_cells1 v8) (o159.stp hs rfl)
    clear cb
    have hfr := hfr.stp hs
    have hmk := hmk.stp hs
    have o3 := o3.stp hs
    have hrec_0 := hrec_0.stp hs rfl
    have i3 := i3.stp hs rfl
    have d3 := d3.stp hs
    refine EL_nil (blk_n ?_)
    obtain ⟨rfl, rfl⟩ := pairs2 h
    exact ⟨_, o3, ⟨hfr, hmk, b161, x8, i3, d3⟩, hrec_0, rfl, rfl⟩
   ·intro cB yC ds163 hsz hR hds
    obtain ⟨hfr, hmk, y8, u6_0_163, zB, jB⟩ := hR
    obtain ⟨D, hdse, hD, hDb⟩ := hds.1 rfl
    subst hdse
    replace hmk := MkF.push hmk0 hmk hD hDb
    clear hD hDb hds
    revert hmk
    generalize ({ target := .collected D, args := #[] } :: u7 : List Deferred) = aC
    intro hmk
    refine ⟨fun _ => ?_, fun k c hs _ => absurd hs (Nat.succ_ne_zero k).symm⟩
    refine blk_n ?_
    obtain rfl := sinj h
    exact hQ _ _ _ ⟨cB, hfr, hmk, v6, y8, u6_0_163⟩
  ·clear hx
   obtain ⟨a9, hfr, hmk, i6, c7, u6_0_164⟩ := hR
   refine E_seq (E_region (EL_do .plain rfl (D_loadOS (g := a9) Try.isAgg49 Try.sizeOf49 i6 c7 u6_0_164 fun dB d9 o165 => ?_)))
   refine EL_do .plain rfl (D_storeOc (g := a9) (v := dB) Try.sizeOf49 i6 c7 rfl d9 fun eB iB hs b166 cb => ?_)
   have cC : OSF 2006 60600 0 eB iB 51 49 (u3 : List FaultSight) p2 := cb.osfr (rv_cells1 d9) (o165.stp hs rfl)
   clear cb
   have hfr := hfr.stp hs
   have hmk := hmk.stp hs
   refine EL_at (.int .i64 (0)) rfl rfl ?_
   refine EL_nil (thn_n (E_ret (endM (.inr rfl) hmk fun aD bD hs => ?_)))
   have hfr := hfr.stp hs
   have b166 := b166.stp hs rfl
   obtain rfl := sinj h
   obtain ⟨ad168, cv168, hp168, bA, cr168⟩ := ob_read Try.isAgg49 Try.sizeOf49 b166
   exact endm_ct rfl rfl ((show _ = p2 from i6).trans hp168) bA (show _ = .int .i64 (0) from rfl) ⟨_, hfr, _, _, rfl, cr168, rfl⟩
end Go.Proofs.Ytdkgoipaohacgaa
