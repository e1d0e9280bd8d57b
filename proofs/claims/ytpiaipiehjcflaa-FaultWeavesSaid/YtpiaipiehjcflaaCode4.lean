import Derived.Test.YtpiaipiehjcflaaCode3
set_option maxRecDepth 8000
set_option maxHeartbeats 4000000
namespace Go.Proofs.Ytpiaipiehjcflaa
open Go.RowKit
/-- griffe/fault.Can -/
def f32 (x0 : FaultLoom) (x1 : List FaultSight) : Option ((List FaultDamage) × Bool × Int) :=
 jn (σ := (List FaultDamage)) (fun o3 =>
  Option.bind (α := (List FaultDamage)) (
   ((fun σ cons s => f64 ((⟨x0⟩ : FaultFaultLoom)) σ cons s) ((List FaultDamage)) (fun m4_92 (q3, c5) =>
    (f65 c5 x1).bind fun y98 =>
    bif y98 then
     (apnd 40 m4_92 (([q3] : List FaultDamage))).bind fun y104 =>
     some (true, (y104))
    else
     some (true, (m4_92))
    ) (o3)).bind fun i4 =>
   some (i4)
   ) fun j1 =>
  (f55 ((⟨x0⟩ : FaultFaultLoom)) ([])).bind fun i2 =>
  (f65 i2 x1).bind fun j2 =>
  some (j1, j2, (0 : Int))
  ) fun b7 =>
 (f50 x0).bind fun z1 =>
 bif (z1 != (0 : Int)) then
  some ([], false, z1)
 else
  bif (decide (((x1).length : Int) > (60 : Int))) then
   some ([], false, (5 : Int))
  else
   (f63 x1 ((fun a0 => f61 a0 x0))).bind fun m5 =>
   bif m5 then
    some ([], false, (2 : Int))
   else
    b7 (([] : List FaultDamage))
theorem en32 : Enters Try.prog 32 := enters_of Try.func32 (by kernel_rfl) rfl
theorem wk32 {gI : Gh} {wI : World} {x0 : FaultLoom} {x1 : List FaultSight} {up0 : Value} (rp0 : RV gI.m wI x0 up0) {up1 : Value} (rp1 : RV gI.m wI x1 up1) {r : (List FaultDamage) × Bool × Int} (h : f32 x0 x1 = some r) : Fn Try.prog 32 #[up0, up1] gI wI (fun m w v => ∃ y0 y1 y2, v = .tuple #[y0, y1, y2] ∧ RV m w (r.1) y0 ∧ y1 = .bool (r.2.1) ∧ y2 = .int .i64 (r.2.2)) := by
 unfold f32 at h
 refine fnD_of_E Try.func32 rfl (Nat.le_of_ble_eq_true rfl) fun g0 hm hfr => ?_
 have hmk : MkF g0 wI [] := MkF.start
 have rp0 : RV g0.m wI x0 up0 := hm ▸ rp0
 have rp1 : RV g0.m wI x1 up1 := hm ▸ rp1
 show E _ 44 none _ _ _ _ _
 refine E_seq (E_region (EL_do .plain rfl (D_box (g := g0) rfl rp0 fun g1 w1 p1 hs q1 => ?_)))
 have hfr := hfr.ext hs
 have hmk := hmk.ext hs
 have rp1 := rp1.ext hs
 refine EL_do .plain rfl (D_box (g := g1) rfl rp1 fun g2 w2 p2 hs q2 => ?_)
 have hfr := hfr.ext hs
 have hmk := hmk.ext hs
 have q1 := q1.ext hs
 refine EL_do .plain rfl (D_allocOc (g := g2) 2004 ([] : List FaultDamage) Try.zeroValue29 (fun m w => ⟨_, rep_nil, rfl⟩) fun g3 w3 p3 hs b3 cb => ?_)
 have hfr := hfr.stp hs
 have hmk := hmk.stp hs
 have q1 := q1.stp hs
 have q2 := q2.stp hs
 have d3 : OSF 2004 60400 0 g3 w3 62 29 ([] : List FaultDamage) p3 := cb.osf (by rfl)
 clear cb
 refine EL_at (.bool false) rfl rfl ?_
 refine EL_at (.int .i64 (0)) rfl rfl ?_
 refine EL_nil (thn_n (E_seq (E_region (EL_pur (v := (.func (.func 61) #[] #[p1])) (P_makeFunc (capf_0_1 (show ev _ _ = p1 from rfl))) .plain rfl ?_))))
 refine EL_at ((.func (.func 61) #[] #[p1])) rfl rfl ?_
 refine EL_nil (thn_n (E_joinCD h (fun (s : (List FaultDamage)) e ds w => ∃ (g : Gh) , Fr gI wI g w ∧ MkF g w ds ∧ e 2 = p1 ∧ PT g.m w (x0 : FaultLoom) p1 ∧ e 3 = p2 ∧ PT g.m w (x1 : List FaultSight) p2 ∧ e 4 = p3 ∧ OB 2004 g w 29 (s : List FaultDamage) p3 ∧ OSF 2004 60400 0 g w 62 29 (s) p3) (fun X23 b7 j7 h => ?_) ?_))
 ·refine E_seq (E_region (EL_do .plain rfl (D_load (g := g3) Try.isAgg28 Try.sizeOf28 rfl q1 fun j8 k8 => ?_)))
  obtain ⟨z1, l7, h⟩ := bsome h
  refine EL_do .plain rfl (D_call (g := g3) (vs := [j8]) en50 (.cons rfl .nil) (wk50 k8 l7) fun j4 n9 eA hs hr => ?_)
  have hfr := hfr.ext hs
  have hmk := hmk.ext hs
  have q1 := q1.ext hs
  have q2 := q2.ext hs
  have d3 := d3.ext hs
  have b3 := b3.ext hs
  subst hr
  refine EL_at (.int .i64 (z1)) rfl rfl ?_
  refine EL_nil (thn_n (E_block ?_))
  refine E_seq (E_region (EL_mw (.int .i64 (z1)) rfl rfl ?_))
  refine EL_in (.bool ((z1 != (0 : Int)))) rfl rfl rfl rfl ?_
  refine EL_at (.bool ((z1 != (0 : Int)))) rfl rfl ?_
  refine EL_nil (thn_n ?_)
  rcases csome h with ⟨n4, h⟩ | ⟨n4, h⟩
  ·refine E_ct n4 rfl ?_
   refine E_seq (E_region (EL_mw (.int .i64 (z1)) rfl rfl ?_))
   refine EL_do .plain rfl (D_storeOc (g := j4) (v := .slice none 0 0) Try.sizeOf29 rfl b3 rfl RV_nil fun l8 m8 hs b28 cb => ?_)
   have i9 : OSF 2004 60400 0 l8 m8 62 29 ([] : List FaultDamage) p3 := cb.osfr (rfl) OS.nil
   clear cb
   have hfr := hfr.stp hs
   have hmk := hmk.stp hs
   refine EL_at (.bool false) rfl rfl ?_
   refine EL_at (.int .i64 (z1)) rfl rfl ?_
   refine EL_nil (thn_n (E_ret (blk_r ?_)))
   refine thn_r ?_
   refine endM (.inr rfl) hmk fun gA iA hs => ?_
   have hfr := hfr.stp hs
   have b28 := b28.stp hs rfl
   obtain rfl := sinj h
   obtain ⟨ad30, cv30, hp30, m7, cr30⟩ := ob_read Try.isAgg29 Try.sizeOf29 b28
   exact endm_ctt rfl rfl ((show _ = p3 from rfl).trans hp30) m7 (show _ = .bool false from rfl) (show _ = .int .i64 (z1) from rfl) ⟨_, hfr, _, _, _, rfl, cr30, rfl, rfl⟩
  ·refine E_cf n4 rfl ?_
   refine E_seq (E_region (EL_do .plain rfl (D_load (g := j4) Try.isAgg39 Try.sizeOf39 rfl q2 fun jA n8 => ?_)))
   refine EL_pur (v := .int .i64 ((x1).length : Int)) (P_len Try.underlying39 rfl n8) .plain rfl ?_
   refine EL_in (.bool ((decide (((x1).length : Int) > (60 : Int))))) rfl rfl rfl rfl ?_
   refine EL_at (.bool ((decide (((x1).length : Int) > (60 : Int))))) rfl rfl ?_
   refine EL_nil (thn_n ?_)
   rcases csome h with ⟨o4, h⟩ | ⟨o4, h⟩
   ·refine E_ct o4 rfl ?_
    refine E_seq (E_region (EL_do .plain rfl (D_storeOc (g := j4) (v := .slice none 0 0) Try.sizeOf29 rfl b3 rfl RV_nil fun o8 p8 hs b33 cb => ?_)))
    have j9 : OSF 2004 60400 0 o8 p8 62 29 ([] : List FaultDamage) p3 := cb.osfr (rfl) OS.nil
    clear cb
    have hfr := hfr.stp hs
    have hmk := hmk.stp hs
    refine EL_at (.bool false) rfl rfl ?_
    refine EL_at (.int .i64 (5)) rfl rfl ?_
    refine EL_nil (thn_n (E_ret (blk_r ?_)))
    refine thn_r ?_
    refine endM (.inr rfl) hmk fun kA lA hs => ?_
    have hfr := hfr.stp hs
    have b33 := b33.stp hs rfl
    obtain rfl := sinj h
    obtain ⟨ad35, cv35, hp35, n7, cr35⟩ := ob_read Try.isAgg29 Try.sizeOf29 b33
    exact endm_ctt rfl rfl ((show _ = p3 from rfl).trans hp35) n7 (show _ = .bool false from rfl) (show _ = .int .i64 (5) from rfl) ⟨_, hfr, _, _, _, rfl, cr35, rfl, rfl⟩
   ·refine E_cf o4 rfl ?_
    refine E_seq (E_region (EL_do .plain rfl (D_load (g := j4) Try.isAgg39 Try.sizeOf39 rfl q2 fun q8 r8 => ?_)))
    refine EL_mw ((.func (.func 61) #[] #[p1])) rfl rfl ?_
    obtain ⟨m5, o7, h⟩ := bsome h
    refine EL_do .plain rfl (D_call (g := j4) (vs := [q8, (.func (.func 61) #[] #[p1])]) en63 (.cons rfl (.cons rfl .nil)) (wk63 r8 ⟨61, #[], #[p1], rfl, en61, fun g' w' hch a0 b0 r hu0 hr => by exact Fn.mono (wk61 hu0 (q1.ch hch) hr) fun _ _ _ h => RV_bool.2 h⟩ o7) fun c7 o9 mA hs hr => ?_)
    have hfr := hfr.ext hs
    have hmk := hmk.ext hs
    have q1 := q1.ext hs
    have q2 := q2.ext hs
    have d3 := d3.ext hs
    have b3 := b3.ext hs
    subst hr
    refine EL_at (.bool (m5)) rfl rfl ?_
    refine EL_nil (thn_n ?_)
    rcases csome h with ⟨p4, h⟩ | ⟨p4, h⟩
    ·refine E_ct p4 rfl ?_
     refine E_seq (E_region (EL_do .plain rfl (D_storeOc (g := c7) (v := .slice none 0 0) Try.sizeOf29 rfl b3 rfl RV_nil fun t8 v8 hs b40 cb => ?_)))
     have k9 : OSF 2004 60400 0 t8 v8 62 29 ([] : List FaultDamage) p3 := cb.osfr (rfl) OS.nil
     clear cb
     have hfr := hfr.stp hs
     have hmk := hmk.stp hs
     refine EL_at (.bool false) rfl rfl ?_
     refine EL_at (.int .i64 (2)) rfl rfl ?_
     refine EL_nil (thn_n (E_ret (blk_r ?_)))
     refine thn_r ?_
     refine endM (.inr rfl) hmk fun nA oA hs => ?_
     have hfr := hfr.stp hs
     have b40 := b40.stp hs rfl
     obtain rfl := sinj h
     obtain ⟨ad42, cv42, hp42, p7, cr42⟩ := ob_read Try.isAgg29 Try.sizeOf29 b40
     exact endm_ctt rfl rfl ((show _ = p3 from rfl).trans hp42) p7 (show _ = .bool false from rfl) (show _ = .int .i64 (2) from rfl) ⟨_, hfr, _, _, _, rfl, cr42, rfl, rfl⟩
    ·refine E_cf p4 rfl ?_
     exact E_skip (blk_n (thn_n (j7 (([] : List FaultDamage)) _ _ _ ⟨c7, hfr, hmk, rfl, q1, rfl, q2, rfl, b3, d3⟩ h)))
 ·rintro o3 p9 d5 x8 ⟨n5, hfr, hmk, i5, j5, l5, o6, s3, p6, u4_0_43⟩ h
  obtain ⟨j1, hx, h⟩ := bsome h
  refine E_joinD (fun e ds w => ∃ (g : Gh) , Fr gI wI g w ∧ MkF g w ds ∧ e 2 = p1 ∧ PT g.m w (x0 : FaultLoom) p1 ∧ e 3 = p2 ∧ PT g.m w (x1 : List FaultSight) p2 ∧ e 4 = p3 ∧ OB 2004 g w 29 (j1 : List FaultDamage) p3 ∧ OSF 2004 60400 0 g w 62 29 (j1) p3) (fun Q' hQ => ?_) (fun l9 y8 q9 hR => ?_)
  ·replace h := hx
   clear hx
   refine E_seq (E_region (EL_do .plain rfl (D_load (g := n5) Try.isAgg28 Try.sizeOf28 i5 j5 fun o5 d7 => ?_)))
   have e7 : RV n5.m _ (⟨x0⟩ : FaultFaultLoom) (.agg (setCh [[.int .i64 0, .slice none 0 0, .int .i64 0, .slice none 0 0]] [(0, o5)]).flatten.toArray) := RV_build rfl (rep_last (RV.cells d7))
   generalize q7 : (Value.agg (setCh [[.int .i64 0, .slice none 0 0, .int .i64 0, .slice none 0 0]] [(0, o5)]).flatten.toArray) = m4 at e7
   refine EL_pur (v := m4) (q7 ▸ P_build (vs := [(0, o5)]) [[.int .i64 0, .slice none 0 0, .int .i64 0, .slice none 0 0]] lay_98 rfl rfl (.cons rfl .nil) ⟨⟨_, rfl, cells_size d7⟩, trivial⟩) .plain rfl ?_
   refine EL_pur (v := (.func (.func 64) #[m4] #[])) (P_makeFunc (capf_1_0 (show ev _ _ = m4 from rfl))) .plain rfl ?_
   refine EL_nil (thn_n (E_block ?_))
   have hB0 := hfr.size
   have hmk0 := hmk
   obtain ⟨i4, hφ, h⟩ := bsome h
   refine E_rangeFunc (σ := ((List FaultDamage))) (s0 := (o3)) 10 rfl (fun _ => 0) [] (fun (s : (List FaultDamage)) (g : Gh) (w : World) => Fr gI wI g w ∧ MkF g w d5 ∧ PT g.m w (x0 : FaultLoom) p1 ∧ PT g.m w (x1 : List FaultSight) p2 ∧ OB 2004 g w 29 (s : List FaultDamage) p3 ∧ OSF 2004 60400 0 g w 62 29 (s) p3) rfl (show ItV Try.prog (RA2 (α := FaultDamage) (β := (List Str))) (fun σ cons s => f64 ((⟨x0⟩ : FaultFaultLoom)) σ cons s) ((.func (.func 64) #[m4] #[])) n5.m x8 from ⟨64, #[m4], #[], rfl, en64, fun g' w' hch σ cons s s' h => wk64 (e7.ch hch)  h⟩) hφ (fun _ _ _ _ => rfl) rfl ra2_size rfl (fun _ _ _ _ _ hx hR => by obtain ⟨hfr, hmk, z2, z3, z4, z5⟩ := hR; exact ⟨hfr.ist hx hB0, hmk.ist hx, z2.ist hx, z3.ist hx, z4.ist hx, z5.ist hx⟩) (fun _ _ _ _ _ hx hR => by obtain ⟨hfr, hmk, z2, z3, z4, z5⟩ := hR; exact ⟨hfr.stp hx, hmk.stp hx, z2.stp hx, z3.stp hx, z4.stp hx rfl, z5.stp hx rfl⟩) ⟨hfr, hmk, j5, o6, p6, u4_0_43⟩ (fun _ h => by cases h) ?_ ?_
   ·intro r9 m9 s x b s2 g7 z8 vs hsz h hR hrec_0 p5 hrd
    obtain ⟨m4_92, hse⟩ : ∃ y, y = s := ⟨s, rfl⟩
    subst hse
    obtain ⟨hfr, hmk, n0, j0, u0, u4_0_92⟩ := hR
    obtain ⟨q3, c5⟩ := x
    obtain ⟨q6, u3, rfl, i3, i1⟩ := ra2_get hrd
    have o0 := RFr.refl g7 z8
    refine E_seq (E_region (EL_do .plain rfl (D_allocOc (g := g7) 2009 (⟨0, 0, 0, 0, false⟩ : FaultDamage) Try.zeroValue62 (fun m w => ⟨_, (rep_two rep_int (rep_two rep_int (rep_two rep_int (rep_two rep_int rep_bool)))), rfl⟩) fun a9 pA qA hs b93 cb => ?_)))
    have hfr := hfr.stp hs
    have hmk := hmk.stp hs
    have o0 := o0.stp hs
    have hrec_0 := hrec_0.stp hs rfl
    have n0 := n0.stp hs
    have j0 := j0.stp hs
    have u4_0_92 := u4_0_92.stp hs rfl
    have u0 := u0.stp hs rfl
    have i3 := i3.stp hs
    have i1 := i1.stp hs
    clear cb
    refine EL_do .plain rfl (D_storeOc (g := a9) (v := q6) Try.sizeOf62 rfl b93 rfl i3 fun i7 rA hs b94 cb => ?_)
    clear cb
    have hfr := hfr.stp hs
    have hmk := hmk.stp hs
    have o0 := o0.stp hs
    have hrec_0 := hrec_0.stp hs rfl
    have n0 := n0.stp hs
    have j0 := j0.stp hs
    have u4_0_92 := u4_0_92.stp hs rfl
    have u0 := u0.stp hs rfl
    have i1 := i1.stp hs
    refine EL_nil (thn_n (E_region (EL_at u3 rfl rfl ?_)))
    refine EL_nil (thn_n ?_)
    obtain ⟨b9, hbr, hs, hrN⟩ := begin_round hrec_0 p5
    refine ⟨b9, hbr, ?_⟩
    have hfr := hfr.stp hs
    have hmk := hmk.stp hs
    have o0 := o0.stp hs
    have n0 := n0.stp hs
    have j0 := j0.stp hs
    have u4_0_92 := u4_0_92.stp hs rfl
    have u0 := u0.stp hs rfl
    have i1 := i1.stp hs
    have b94 := b94.stp hs rfl
    have hrec_0 := hrN
    clear hbr hs hrN
    refine E_block ?_
    refine E_seq (E_region (EL_mw u3 rfl rfl ?_))
    refine EL_do .plain rfl (D_load (g := i7) Try.isAgg39 Try.sizeOf39 l5 j0 fun c9 d9 => ?_)
    obtain ⟨y98, r7, h⟩ := bsome h
    refine EL_do .plain rfl (D_call (g := i7) (vs := [u3, c9]) en65 (.cons rfl (.cons rfl .nil)) (wk65 i1 d9 r7) fun q5 s9 sA hs hr => ?_)
    have hfr := hfr.ext hs
    have hmk := hmk.ext hs
    have o0 := o0.ext hs
    have hrec_0 := hrec_0.ext hs
    have n0 := n0.ext hs
    have j0 := j0.ext hs
    have u4_0_92 := u4_0_92.ext hs
    have u0 := u0.ext hs
    have b94 := b94.ext hs
    subst hr
    refine EL_nil (thn_n ?_)
    rcases csome h with ⟨q4, h⟩ | ⟨q4, h⟩
    ·refine E_ct q4 rfl ?_
     refine E_region (EL_do .plain rfl (D_loadOS (g := q5) Try.isAgg29 Try.sizeOf29 s3 u0 u4_0_92 fun t9 u4 o100 => ?_))
     refine EL_do .plain rfl (D_loadO (g := q5) Try.isAgg62 Try.sizeOf62 rfl b94 fun t7 u7 => ?_)
     refine EL_do .plain rfl (D_buildSlice (g := q5) 3036 (xs := ([q3] : List FaultDamage)) (vs := [t7]) Try.underlying29 Try.sizeOf62 Try.zeroValue62 rfl rfl (.cons rfl .nil) (RVs.cons u7 RVs.nil) rfl rfl fun v7 u9 v9 hs o102 x7 hxt hfl => ?_)
     have hfr := hfr.stp hs
     have hmk := hmk.stp hs
     have o0 := o0.stp hs
     have hrec_0 := hrec_0.stp hs rfl
     have n0 := n0.stp hs
     have j0 := j0.stp hs
     have u0 := u0.stp hs rfl
     have u4 := u4.stp hs
     have o100 := o100.stp hs rfl
     obtain ⟨y104, r6, h⟩ := bsome h
     refine EL_do .plain rfl (D_append (g := v7) (i := 60400) Try.underlying29 info_62 rfl rfl o100 u4 rfl x7 r6 fun y7 x9 z7 hs o103 t5 _ => ?_)
     have hfr := hfr.stp hs
     have hmk := hmk.stp hs
     have o0 := o0.stp hs
     have hrec_0 := hrec_0.stp hs rfl
     have n0 := n0.stp hs
     have j0 := j0.stp hs
     have u0 := u0.stp hs rfl
     refine EL_do .plain rfl (D_storeOc (g := y7) (v := z7) Try.sizeOf29 s3 u0 rfl t5 fun a8 b8 hs b105 cb => ?_)
     have u5 : OSF 2004 60400 0 a8 b8 62 29 (y104 : List FaultDamage) p3 := cb.osfr (rv_cells1 t5) (o103.stp hs rfl)
     clear cb
     have hfr := hfr.stp hs
     have hmk := hmk.stp hs
     have o0 := o0.stp hs
     have hrec_0 := hrec_0.stp hs rfl
     have n0 := n0.stp hs
     have j0 := j0.stp hs
     refine EL_nil (blk_n ?_)
     obtain ⟨rfl, rfl⟩ := pairs2 h
     exact ⟨_, o0, ⟨hfr, hmk, n0, j0, b105, u5⟩, hrec_0, rfl, rfl⟩
    ·refine E_cf q4 rfl ?_
     refine E_skip (blk_n ?_)
     obtain ⟨rfl, rfl⟩ := pairs2 h
     exact ⟨_, o0, ⟨hfr, hmk, n0, j0, u0, u4_0_92⟩, hrec_0, rfl, rfl⟩
   ·intro c8 y9 ds107 hsz hR hds
    obtain ⟨hfr, hmk, x5, y5, a6, u4_0_107⟩ := hR
    obtain ⟨D, hdse, hD, hDb⟩ := hds.1 rfl
    subst hdse
    replace hmk := MkF.push hmk0 hmk hD hDb
    clear hD hDb hds
    revert hmk
    generalize ({ target := .collected D, args := #[] } :: d5 : List Deferred) = e9
    intro hmk
    refine ⟨fun _ => ?_, fun k c hs _ => absurd hs (Nat.succ_ne_zero k).symm⟩
    refine blk_n ?_
    obtain rfl := sinj h
    exact hQ _ _ _ ⟨c8, hfr, hmk, i5, x5, l5, y5, s3, a6, u4_0_107⟩
  ·clear hx
   obtain ⟨b6, hfr, hmk, c6, d6, e6, i6, j3, d2, u4_0_108⟩ := hR
   refine E_seq (L_loadOS (x := .tmp 4) Try.isAgg29 Try.sizeOf29 d2 u4_0_108 fun j6 c4 o109 t6 => ?_)
   refine L_load (x := .tmp 2) Try.isAgg28 Try.sizeOf28 d6 fun d4 k6 u6 => ?_
   have l6 : RV b6.m _ (⟨x0⟩ : FaultFaultLoom) (.agg (setCh [[.int .i64 0, .slice none 0 0, .int .i64 0, .slice none 0 0]] [(0, d4)]).flatten.toArray) := RV_build rfl (rep_last (RV.cells k6))
   generalize v6 : (Value.agg (setCh [[.int .i64 0, .slice none 0 0, .int .i64 0, .slice none 0 0]] [(0, d4)]).flatten.toArray) = m6 at l6
   obtain ⟨i2, x6, h⟩ := bsome h
   refine L_load (x := .tmp 3) Try.isAgg39 Try.sizeOf39 i6 fun n6 d8 y6 => ?_
   obtain ⟨j2, z6, h⟩ := bsome h
   refine E_drawL (g := b6) (n := 6) [(3, (fun v g w => RV g.m w i2 v)), (5, (fun v g w => v = .bool (j2)))] [0, 1, 2, 3, 4, 5] rfl mixed (by kernel_rfl) (⟨fun _ => up_rv, fun _ => up_eq _, trivial⟩) ?_
   refine L_ld (c := j6) rfl rfl .plain (fun _ _ h => ⟨h.ch, fun b hb _ => h.below.block b hb⟩) t6 j3 ?_
   refine L_ld (c := d4) rfl rfl .plain (fun _ _ h => h.ch) u6 c6 ?_
   refine L_pur (c := m6) rfl rfl .plain (fun _ _ hd => v6 ▸ P_build (vs := [(0, d4)]) [[.int .i64 0, .slice none 0 0, .int .i64 0, .slice none 0 0]] lay_98 rfl rfl (.cons rfl .nil) ⟨⟨_, rfl, cells_size k6⟩, trivial⟩) ?_
   refine L_do (φ := fun v g w => RV g.m w i2 v) rfl rfl .plain (fun g w hd => D_call (g := g) (vs := [m6, .slice none 0 0]) en55 (.cons rfl (.cons rfl .nil)) (wk55 (l6.ext hd.1) RV_nil x6) fun g' w' v hs hr => ⟨g', hs, hr⟩) (fun x4 hv => ?_)
   obtain ⟨_, _, _, rq112⟩ := hv
   refine L_ld (c := n6) rfl rfl .plain (fun _ _ h => h.ch) y6 e6 ?_
   refine L_do (φ := fun v g w => v = .bool (j2)) rfl rfl .plain (fun g w hd => D_call (g := g) (vs := [x4, n6]) en65 (.cons rfl (.cons rfl .nil)) (wk65 (word (A := fun g w => RV g.m w i2 x4) 3 rfl rfl (deps_of hd)) (d8.ext hd.1) z6) fun g' w' v hs hr => ⟨g', hs, hr⟩) (fun z9 hv => ?_)
   obtain ⟨_, _, _, rfl⟩ := hv
   refine L_nil fun e8 aA hall => ?_
   have hs := hall.1
   have hfr := hfr.ext hs
   have hmk := hmk.ext hs
   have d2 := d2.ext hs
   have c4 := c4.ext hs
   have o109 := o109.ext hs
   have bA := (word_all (A := fun g w => RV g.m w i2 x4) 3 rfl hall)
   clear hs hall
   refine EL_do .plain rfl (D_storeOc (g := e8) (v := j6) Try.sizeOf29 j3 d2 rfl c4 fun g8 i8 hs b127 cb => ?_)
   have g9 : OSF 2004 60400 0 g8 i8 62 29 (j1 : List FaultDamage) p3 := cb.osfr (rv_cells1 c4) (o109.stp hs rfl)
   clear cb
   have hfr := hfr.stp hs
   have hmk := hmk.stp hs
   refine EL_at (.bool (j2)) rfl rfl ?_
   refine EL_at (.int .i64 (0)) rfl rfl ?_
   refine EL_nil (thn_n (E_ret (endM (.inr rfl) hmk fun cA dA hs => ?_)))
   have hfr := hfr.stp hs
   have b127 := b127.stp hs rfl
   obtain rfl := sinj h
   obtain ⟨ad129, cv129, hp129, a7, cr129⟩ := ob_read Try.isAgg29 Try.sizeOf29 b127
   exact endm_ctt rfl rfl ((show _ = p3 from j3).trans hp129) a7 (show _ = .bool (j2) from rfl) (show _ = .int .i64 (0) from rfl) ⟨_, hfr, _, _, _, rfl, cr129, rfl, rfl⟩
/-- griffe/fault.Tell -/
def f37 (x0 : FaultLoom) (x1 : FaultDamage) (x2 : FaultDamage) : Option (Int × Int × Int) :=
 jn (σ := Int × Int × Int) (fun (o4, q4, u4) =>
  jn (σ := Int × Int × Int) (fun (_i6, _j6, _k6) =>
   some ((0 : Int), (0 : Int), (7 : Int))
   ) fun n7 =>
  (f55 ((⟨x0⟩ : FaultFaultLoom)) (([x1] : List FaultDamage))).bind fun j4 =>
  (f55 ((⟨x0⟩ : FaultFaultLoom)) (([x2] : List FaultDamage))).bind fun m4 =>
  (f56 j4 m4).bind fun n4 =>
  (n4 (Nat × Int × Int × Int) (guardC fun (_l6, _m6, _n6) (u0, i1) =>
   some (false, ((1 : Nat), (u0, i1, (0 : Int))))
   ) (0, (o4, q4, u4))).bind fun (j2, (d3, i3, j3)) =>
  bif Nat.beq j2 0 then
   n7 (d3, i3, j3)
  else
   some (d3, i3, j3)
  ) fun o7 =>
 (f18 x0 (([x1, x2] : List FaultDamage))).bind fun c4 =>
 bif (c4 != (0 : Int)) then
  some ((0 : Int), (0 : Int), c4)
 else
  o7 ((0 : Int), (0 : Int), (0 : Int))
theorem en37 : Enters Try.prog 37 := enters_of Try.func37 (by kernel_rfl) rfl
theorem wk37 {gI : Gh} {wI : World} {x0 : FaultLoom} {x1 : FaultDamage} {x2 : FaultDamage} {up0 : Value} (rp0 : RV gI.m wI x0 up0) {up1 : Value} (rp1 : RV gI.m wI x1 up1) {up2 : Value} (rp2 : RV gI.m wI x2 up2) {r : Int × Int × Int} (h : f37 x0 x1 x2 = some r) : Fn Try.prog 37 #[up0, up1, up2] gI wI (fun _m _w v => ∃ y0 y1 y2, v = .tuple #[y0, y1, y2] ∧ y0 = .int .i64 (r.1) ∧ y1 = .int .i64 (r.2.1) ∧ y2 = .int .i64 (r.2.2)) := by
 unfold f37 at h
 refine fnD_of_E Try.func37 rfl (Nat.le_of_ble_eq_true rfl) fun g0 hm hfr => ?_
 have hmk : MkF g0 wI [] := MkF.start
 have rp0 : RV g0.m wI x0 up0 := hm ▸ rp0
 have rp1 : RV g0.m wI x1 up1 := hm ▸ rp1
 have rp2 : RV g0.m wI x2 up2 := hm ▸ rp2
 show E _ 35 none _ _ _ _ _
 refine E_seq (E_region (EL_do .plain rfl (D_box (g := g0) rfl rp0 fun g1 w1 p1 hs q1 => ?_)))
 have hfr := hfr.ext hs
 have hmk := hmk.ext hs
 have rp1 := rp1.ext hs
 have rp2 := rp2.ext hs
 refine EL_do .plain rfl (D_box (g := g1) rfl rp1 fun g2 w2 p2 hs q2 => ?_)
 have hfr := hfr.ext hs
 have hmk := hmk.ext hs
 have rp2 := rp2.ext hs
 have q1 := q1.ext hs
 refine EL_do .plain rfl (D_box (g := g2) rfl rp2 fun g3 w3 p3 hs q3 => ?_)
 have hfr := hfr.ext hs
 have hmk := hmk.ext hs
 have q1 := q1.ext hs
 have q2 := q2.ext hs
 refine EL_do .plain rfl (D_allocOc (g := g3) 2006 (0 : Int) Try.zeroValue3 (fun m w => ⟨_, rep_int, rfl⟩) fun g4 w4 p4 hs b4 cb => ?_)
 have hfr := hfr.stp hs
 have hmk := hmk.stp hs
 have q1 := q1.stp hs
 have q2 := q2.stp hs
 have q3 := q3.stp hs
 clear cb
 refine EL_do .plain rfl (D_allocOc (g := g4) 2007 (0 : Int) Try.zeroValue3 (fun m w => ⟨_, rep_int, rfl⟩) fun g5 w5 p5 hs b5 cb => ?_)
 have hfr := hfr.stp hs
 have hmk := hmk.stp hs
 have q1 := q1.stp hs
 have q2 := q2.stp hs
 have q3 := q3.stp hs
 have b4 := b4.stp hs rfl
 clear cb
 refine EL_do .plain rfl (D_allocOc (g := g5) 2008 (0 : Int) Try.zeroValue34 (fun m w => ⟨_, rep_int, rfl⟩) fun g6 w6 p6 hs b6 cb => ?_)
 have hfr := hfr.stp hs
 have hmk := hmk.stp hs
 have q1 := q1.stp hs
 have q2 := q2.stp hs
 have q3 := q3.stp hs
 have b4 := b4.stp hs rfl
 have b5 := b5.stp hs rfl
 clear cb
 refine EL_nil (thn_n (E_joinCD h (fun (s : Int × Int × Int) e ds w => ∃ (g : Gh) , Fr gI wI g w ∧ MkF g w ds ∧ e 3 = p1 ∧ PT g.m w (x0 : FaultLoom) p1 ∧ e 4 = p2 ∧ PT g.m w (x1 : FaultDamage) p2 ∧ e 5 = p3 ∧ PT g.m w (x2 : FaultDamage) p3 ∧ e 6 = p4 ∧ OB 2006 g w 3 (s.1 : Int) p4 ∧ e 7 = p5 ∧ OB 2007 g w 3 (s.2.1 : Int) p5 ∧ e 8 = p6 ∧ OB 2008 g w 34 (s.2.2 : Int) p6) (fun X21 o7 b8 h => ?_) ?_))
 ·refine E_seq (E_region (EL_do .plain rfl (D_load (g := g6) Try.isAgg28 Try.sizeOf28 rfl q1 fun e9 o6 => ?_)))
  refine EL_do .plain rfl (D_load (g := g6) Try.isAgg62 Try.sizeOf62 rfl q2 fun g9 i9 => ?_)
  refine EL_do .plain rfl (D_load (g := g6) Try.isAgg62 Try.sizeOf62 rfl q3 fun j9 k9 => ?_)
  refine EL_do .plain rfl (D_buildSlice (g := g6) 3015 (xs := ([x1, x2] : List FaultDamage)) (vs := [g9, j9]) Try.underlying29 Try.sizeOf62 Try.zeroValue62 rfl rfl (.cons rfl (.cons rfl .nil)) (RVs.cons i9 (RVs.cons k9 RVs.nil)) rfl rfl fun l9 xA m9 hs o25 n9 hxt hfl => ?_)
  have hfr := hfr.stp hs
  have hmk := hmk.stp hs
  have q1 := q1.stp hs
  have q2 := q2.stp hs
  have q3 := q3.stp hs
  have b4 := b4.stp hs rfl
  have b5 := b5.stp hs rfl
  have b6 := b6.stp hs rfl
  have o6 := o6.stp hs
  obtain ⟨c4, c8, h⟩ := bsome h
  refine EL_do .plain rfl (D_call (g := l9) (vs := [e9, m9]) en18 (.cons rfl (.cons rfl .nil)) (wk18 o6 n9 c8) fun p7 y9 yA hs hr => ?_)
  have hfr := hfr.ext hs
  have hmk := hmk.ext hs
  have q1 := q1.ext hs
  have q2 := q2.ext hs
  have q3 := q3.ext hs
  have b4 := b4.ext hs
  have b5 := b5.ext hs
  have b6 := b6.ext hs
  subst hr
  refine EL_at (.int .i64 (c4)) rfl rfl ?_
  refine EL_nil (thn_n (E_seq (E_region (EL_mw (.int .i64 (c4)) rfl rfl ?_))))
  refine EL_in (.bool ((c4 != (0 : Int)))) rfl rfl rfl rfl ?_
  refine EL_nil (thn_n ?_)
  rcases csome h with ⟨q5, h⟩ | ⟨q5, h⟩
  ·refine E_ct q5 rfl ?_
   refine E_seq (E_region (EL_mw (.int .i64 (c4)) rfl rfl ?_))
   refine EL_do .plain rfl (D_storeOc (g := p7) (v := .int .i64 (0)) Try.sizeOf3 rfl b4 rfl (RV_int.2 rfl) fun o9 zA hs b29 cb => ?_)
   clear cb
   have hfr := hfr.stp hs
   have hmk := hmk.stp hs
   have b5 := b5.stp hs rfl
   have b6 := b6.stp hs rfl
   refine EL_do .plain rfl (D_storeOc (g := o9) (v := .int .i64 (0)) Try.sizeOf3 rfl b5 rfl (RV_int.2 rfl) fun p9 aB hs b30 cb => ?_)
   clear cb
   have hfr := hfr.stp hs
   have hmk := hmk.stp hs
   have b29 := b29.stp hs rfl
   have b6 := b6.stp hs rfl
   refine EL_do .plain rfl (D_storeOc (g := p9) (v := .int .i64 (c4)) Try.sizeOf34 rfl b6 rfl (RV_int.2 rfl) fun bB cB hs b31 cb => ?_)
   clear cb
   have hfr := hfr.stp hs
   have hmk := hmk.stp hs
   have b29 := b29.stp hs rfl
   have b30 := b30.stp hs rfl
   refine EL_nil (thn_n (E_ret (thn_r ?_)))
   refine endM (.inr rfl) hmk fun dB eB hs => ?_
   have hfr := hfr.stp hs
   have b29 := b29.stp hs rfl
   have b30 := b30.stp hs rfl
   have b31 := b31.stp hs rfl
   obtain rfl := sinj h
   obtain ⟨ad33, cv33, hp33, d8, cr33⟩ := ob_read Try.isAgg3 Try.sizeOf3 b29
   obtain rfl := RV_int.1 cr33
   obtain ⟨ad34, cv34, hp34, e8, cr34⟩ := ob_read Try.isAgg3 Try.sizeOf3 b30
   obtain rfl := RV_int.1 cr34
   obtain ⟨ad35, cv35, hp35, g8, cr35⟩ := ob_read Try.isAgg34 Try.sizeOf34 b31
   obtain rfl := RV_int.1 cr35
   exact endm_ccc rfl rfl ((show _ = p4 from rfl).trans hp33) d8 ((show _ = p5 from rfl).trans hp34) e8 ((show _ = p6 from rfl).trans hp35) g8 ⟨_, hfr, _, _, _, rfl, rfl, rfl, rfl⟩
  ·refine E_cf q5 rfl ?_
   exact E_skip (thn_n (b8 ((0 : Int), (0 : Int), (0 : Int)) _ _ _ ⟨p7, hfr, hmk, rfl, q1, rfl, q2, rfl, q3, rfl, b4, rfl, b5, rfl, b6⟩ h))
 ·rintro ⟨o4, q4, u4⟩ z9 t5 iB ⟨q6, hfr, hmk, u5, x5, a7, b7, c7, d7, x4, c5, d5, i5, j5, l5⟩ h
  refine E_joinCD h (fun (s : Int × Int × Int) e ds w => ∃ (g : Gh) , Fr gI wI g w ∧ MkF g w ds ∧ e 6 = p4 ∧ OB 2006 g w 3 (s.1 : Int) p4 ∧ e 7 = p5 ∧ OB 2007 g w 3 (s.2.1 : Int) p5 ∧ e 8 = p6 ∧ OB 2008 g w 34 (s.2.2 : Int) p6) (fun X85 n7 i8 h => ?_) ?_
  ·refine E_seq (L_load (x := .tmp 3) Try.isAgg28 Try.sizeOf28 x5 fun y5 q7 j8 => ?_)
   have r7 : RV q6.m _ (⟨x0⟩ : FaultFaultLoom) (.agg (setCh [[.int .i64 0, .slice none 0 0, .int .i64 0, .slice none 0 0]] [(0, y5)]).flatten.toArray) := RV_build rfl (rep_last (RV.cells q7))
   generalize k8 : (Value.agg (setCh [[.int .i64 0, .slice none 0 0, .int .i64 0, .slice none 0 0]] [(0, y5)]).flatten.toArray) = t7 at r7
   refine L_load (x := .tmp 4) Try.isAgg62 Try.sizeOf62 b7 fun u7 q9 l8 => ?_
   obtain ⟨j4, m8, h⟩ := bsome h
   refine L_load (x := .tmp 3) Try.isAgg28 Try.sizeOf28 x5 fun a6 v7 n8 => ?_
   have x7 : RV q6.m _ (⟨x0⟩ : FaultFaultLoom) (.agg (setCh [[.int .i64 0, .slice none 0 0, .int .i64 0, .slice none 0 0]] [(0, a6)]).flatten.toArray) := RV_build rfl (rep_last (RV.cells v7))
   generalize o8 : (Value.agg (setCh [[.int .i64 0, .slice none 0 0, .int .i64 0, .slice none 0 0]] [(0, a6)]).flatten.toArray) = y7 at x7
   refine L_load (x := .tmp 5) Try.isAgg62 Try.sizeOf62 d7 fun z7 r9 p8 => ?_
   obtain ⟨m4, q8, h⟩ := bsome h
   obtain ⟨n4, r8, h⟩ := bsome h
   refine E_drawL (g := q6) (n := 11) [(3, (fun v g w => RV g.m w ([x1] : List FaultDamage) v ∧ OS 3023 g w 62 ([x1] : List FaultDamage) v ∧ FullV v)), (4, (fun v g w => RV g.m w j4 v)), (8, (fun v g w => RV g.m w ([x2] : List FaultDamage) v ∧ OS 3028 g w 62 ([x2] : List FaultDamage) v ∧ FullV v)), (9, (fun v g w => RV g.m w m4 v)), (10, (fun v g w => ItV Try.prog (RA2 (α := Int) (β := Int)) n4 v g.m w))] [0, 1, 2, 3, 4, 5, 6, 7, 8, 9, 10] rfl mixed (by kernel_rfl) (⟨fun _ => up_and up_rv (up_and up_os (up_eq _)), fun _ => up_rv, fun _ => up_and up_rv (up_and up_os (up_eq _)), fun _ => up_rv, fun _ => up_itv, trivial⟩) ?_
   refine L_ld (c := y5) rfl rfl .plain (fun _ _ h => h.ch) j8 u5 ?_
   refine L_pur (c := t7) rfl rfl .plain (fun _ _ hd => k8 ▸ P_build (vs := [(0, y5)]) [[.int .i64 0, .slice none 0 0, .int .i64 0, .slice none 0 0]] lay_98 rfl rfl (.cons rfl .nil) ⟨⟨_, rfl, cells_size q7⟩, trivial⟩) ?_
   refine L_ld (c := u7) rfl rfl .plain (fun _ _ h => h.ch) l8 a7 ?_
   refine L_do (φ := fun v g w => RV g.m w ([x1] : List FaultDamage) v ∧ OS 3023 g w 62 ([x1] : List FaultDamage) v ∧ FullV v) rfl rfl .plain (fun g w hd => D_buildSlice (g := g) 3023 (xs := ([x1] : List FaultDamage)) (vs := [u7]) Try.underlying29 Try.sizeOf62 Try.zeroValue62 rfl rfl (.cons rfl .nil) (RVs.cons (q9.ext hd.1) RVs.nil) rfl rfl fun g' w' v hs o r hxt hfl => ⟨g', hxt, r, o, hfl⟩) (fun d2 hv => ?_)
   clear hv
   refine L_do (φ := fun v g w => RV g.m w j4 v) rfl rfl .plain (fun g w hd => D_call (g := g) (vs := [t7, d2]) en55 (.cons rfl (.cons rfl .nil)) (wk55 (r7.ext hd.1) (word (A := fun g w => RV g.m w ([x1] : List FaultDamage) d2 ∧ OS 3023 g w 62 ([x1] : List FaultDamage) d2 ∧ FullV d2) 3 rfl rfl (deps_of hd)).1 m8) fun g' w' v hs hr => ⟨g', hs, hr⟩) (fun r6 hv => ?_)
   obtain ⟨_, _, _, rq90⟩ := hv
   refine L_ld (c := a6) rfl rfl .plain (fun _ _ h => h.ch) n8 u5 ?_
   refine L_pur (c := y7) rfl rfl .plain (fun _ _ hd => o8 ▸ P_build (vs := [(0, a6)]) [[.int .i64 0, .slice none 0 0, .int .i64 0, .slice none 0 0]] lay_98 rfl rfl (.cons rfl .nil) ⟨⟨_, rfl, cells_size v7⟩, trivial⟩) ?_
   refine L_ld (c := z7) rfl rfl .plain (fun _ _ h => h.ch) p8 c7 ?_
   refine L_do (φ := fun v g w => RV g.m w ([x2] : List FaultDamage) v ∧ OS 3028 g w 62 ([x2] : List FaultDamage) v ∧ FullV v) rfl rfl .plain (fun g w hd => D_buildSlice (g := g) 3028 (xs := ([x2] : List FaultDamage)) (vs := [z7]) Try.underlying29 Try.sizeOf62 Try.zeroValue62 rfl rfl (.cons rfl .nil) (RVs.cons (r9.ext hd.1) RVs.nil) rfl rfl fun g' w' v hs o r hxt hfl => ⟨g', hxt, r, o, hfl⟩) (fun i2 hv => ?_)
   clear hv
   refine L_do (φ := fun v g w => RV g.m w m4 v) rfl rfl .plain (fun g w hd => D_call (g := g) (vs := [y7, i2]) en55 (.cons rfl (.cons rfl .nil)) (wk55 (x7.ext hd.1) (word (A := fun g w => RV g.m w ([x2] : List FaultDamage) i2 ∧ OS 3028 g w 62 ([x2] : List FaultDamage) i2 ∧ FullV i2) 8 rfl rfl (deps_of hd)).1 q8) fun g' w' v hs hr => ⟨g', hs, hr⟩) (fun t6 hv => ?_)
   obtain ⟨_, _, _, rq96⟩ := hv
   refine L_do (φ := fun v g w => ItV Try.prog (RA2 (α := Int) (β := Int)) n4 v g.m w) rfl rfl .plain (fun g w hd => D_call (g := g) (vs := [r6, t6]) en56 (.cons rfl (.cons rfl .nil)) (wk56 (word (A := fun g w => RV g.m w j4 r6) 4 rfl rfl (deps_of hd)) (word (A := fun g w => RV g.m w m4 t6) 9 rfl rfl (deps_of hd)) r8) fun g' w' v hs hr => ⟨g', hs, hr⟩) (fun a8 hv => ?_)
   clear hv
   refine L_nil fun aA bA hall => ?_
   have hs := hall.1
   have hfr := hfr.ext hs
   have hmk := hmk.ext hs
   have c5 := c5.ext hs
   have i5 := i5.ext hs
   have l5 := l5.ext hs
   have cA := (word_all (A := fun g w => RV g.m w ([x1] : List FaultDamage) d2 ∧ OS 3023 g w 62 ([x1] : List FaultDamage) d2 ∧ FullV d2) 3 rfl hall).1
   have o110 := (word_all (A := fun g w => RV g.m w ([x1] : List FaultDamage) d2 ∧ OS 3023 g w 62 ([x1] : List FaultDamage) d2 ∧ FullV d2) 3 rfl hall).2.1
   have dA := (word_all (A := fun g w => RV g.m w j4 r6) 4 rfl hall)
   have eA := (word_all (A := fun g w => RV g.m w ([x2] : List FaultDamage) i2 ∧ OS 3028 g w 62 ([x2] : List FaultDamage) i2 ∧ FullV i2) 8 rfl hall).1
   have o115 := (word_all (A := fun g w => RV g.m w ([x2] : List FaultDamage) i2 ∧ OS 3028 g w 62 ([x2] : List FaultDamage) i2 ∧ FullV i2) 8 rfl hall).2.1
   have gA := (word_all (A := fun g w => RV g.m w m4 t6) 9 rfl hall)
   have u6 := (word_all (A := fun g w => ItV Try.prog (RA2 (α := Int) (β := Int)) n4 a8 g.m w) 10 rfl hall)
   clear hs hall
   refine EL_nil (thn_n (E_block ?_))
   have hB0 := hfr.size
   have hmk0 := hmk
   obtain ⟨⟨j2, ⟨d3, i3, j3⟩⟩, hφ, h⟩ := bsome h
   refine E_rangeFunc (σ := (Nat × Int × Int × Int)) (s0 := (0, (o4, q4, u4))) 10 rfl (fun s => s.1) [.ret] (fun (s : Nat × Int × Int × Int) (g : Gh) (w : World) => Fr gI wI g w ∧ MkF g w t5 ∧ OB 2006 g w 3 (s.2.1 : Int) p4 ∧ OB 2007 g w 3 (s.2.2.1 : Int) p5 ∧ OB 2008 g w 34 (s.2.2.2 : Int) p6 ∧ ItV Try.prog (RA2 (α := Int) (β := Int)) n4 a8 g.m w) rfl u6 hφ (fun _ _ _ h => (guardC_h h).1) rfl ra2_size rfl (fun _ _ _ _ _ hx hR => by obtain ⟨hfr, hmk, z2, z3, z4, z5⟩ := hR; exact ⟨hfr.ist hx hB0, hmk.ist hx, z2.ist hx, z3.ist hx, z4.ist hx, z5.ist hx⟩) (fun _ _ _ _ _ hx hR => by obtain ⟨hfr, hmk, z2, z3, z4, z5⟩ := hR; exact ⟨hfr.stp hx, hmk.stp hx, z2.stp hx rfl, z3.stp hx rfl, z4.stp hx rfl, z5.stp hx⟩) ⟨hfr, hmk, c5, i5, l5, u6⟩ (fun _ h => by cases h) ?_ ?_
   ·intro v9 s9 s x b s2 v6 t8 vs hsz h hR hrec_0 c6 hrd
    obtain ⟨hs0, h⟩ := guardC_h h
    obtain ⟨st, ⟨l6, m6, n6⟩⟩ := s
    obtain ⟨hfr, hmk, d4, j1, o0, j0⟩ := hR
    obtain ⟨u0, i1⟩ := x
    obtain ⟨x6, y6, rfl, d6, e6⟩ := ra2_get hrd
    obtain rfl : x6 = .int .i64 (u0) := RV_int.1 d6
    obtain rfl : y6 = .int .i64 (i1) := RV_int.1 e6
    have n0 := RFr.refl v6 t8
    refine E_seq (E_region (EL_at (.int .i64 (u0)) rfl rfl ?_))
    refine EL_nil (thn_n (E_region (EL_at (.int .i64 (i1)) rfl rfl ?_)))
    refine EL_nil (thn_n ?_)
    obtain ⟨v8, hbr, hs, hrN⟩ := begin_round hrec_0 c6
    refine ⟨v8, hbr, ?_⟩
    have hfr := hfr.stp hs
    have hmk := hmk.stp hs
    have n0 := n0.stp hs
    have d4 := d4.stp hs rfl
    have j1 := j1.stp hs rfl
    have o0 := o0.stp hs rfl
    have j0 := j0.stp hs
    have hrec_0 := hrN
    clear hbr hs hrN
    refine E_block ?_
    refine E_seq (E_region (EL_mw (.int .i64 (u0)) rfl rfl ?_))
    refine EL_mw (.int .i64 (i1)) rfl rfl ?_
    refine EL_do .plain rfl (D_storeOc (g := v6) (v := .int .i64 (u0)) Try.sizeOf3 x4 d4 rfl (RV_int.2 rfl) fun x8 iA hs b125 cb => ?_)
    clear cb
    have hfr := hfr.stp hs
    have hmk := hmk.stp hs
    have n0 := n0.stp hs
    have hrec_0 := hrec_0.stp hs rfl
    have j1 := j1.stp hs rfl
    have o0 := o0.stp hs rfl
    have j0 := j0.stp hs
    refine EL_do .plain rfl (D_storeOc (g := x8) (v := .int .i64 (i1)) Try.sizeOf3 d5 j1 rfl (RV_int.2 rfl) fun y8 jA hs b126 cb => ?_)
    clear cb
    have hfr := hfr.stp hs
    have hmk := hmk.stp hs
    have n0 := n0.stp hs
    have hrec_0 := hrec_0.stp hs rfl
    have b125 := b125.stp hs rfl
    have o0 := o0.stp hs rfl
    have j0 := j0.stp hs
    refine EL_do .plain rfl (D_storeOc (g := y8) (v := .int .i64 (0)) Try.sizeOf34 j5 o0 rfl (RV_int.2 rfl) fun kA lA hs b127 cb => ?_)
    clear cb
    have hfr := hfr.stp hs
    have hmk := hmk.stp hs
    have n0 := n0.stp hs
    have hrec_0 := hrec_0.stp hs rfl
    have b125 := b125.stp hs rfl
    have b126 := b126.stp hs rfl
    have j0 := j0.stp hs
    refine EL_nil (thn_n (E_ret (blk_r ?_)))
    obtain ⟨rfl, rfl⟩ := pairs2 h
    exact ⟨_, n0, ⟨hfr, hmk, b125, b126, b127, j0⟩, hrec_0, rfl, 0, rfl, rfl⟩
   ·intro z8 mA ds129 hsz hR hds
    obtain ⟨hfr, hmk, o3, s3, u3, d9⟩ := hR
    obtain ⟨D, hdse, hD, hDb⟩ := hds.1 rfl
    subst hdse
    replace hmk := MkF.push hmk0 hmk hD hDb
    clear hD hDb hds
    revert hmk
    generalize ({ target := .collected D, args := #[] } :: t5 : List Deferred) = t9
    intro hmk
    refine ⟨fun hs => ?_, fun k c hs hc => ?_⟩
    ·have hs : j2 = 0 := hs
     subst hs
     replace h := cond_t h rfl
     exact blk_n (thn_n (i8 (d3, i3, j3) _ _ _ ⟨z8, hfr, hmk, x4, o3, d5, s3, j5, u3⟩ h))
    ·have hs : j2 = k + 1 := hs
     match k, hs, hc with
     | 0, hs, hc =>
      subst hs
      obtain rfl := sinj hc
      replace h := cond_f h rfl
      refine E_ret (blk_r ?_)
      refine thn_r ?_
      refine endM (.inr rfl) hmk fun nA oA hs => ?_
      have hfr := hfr.stp hs
      have o3 := o3.stp hs rfl
      have s3 := s3.stp hs rfl
      have u3 := u3.stp hs rfl
      obtain rfl := sinj h
      obtain ⟨ad131, cv131, hp131, e7, cr131⟩ := ob_read Try.isAgg3 Try.sizeOf3 o3
      obtain rfl := RV_int.1 cr131
      obtain ⟨ad132, cv132, hp132, g7, cr132⟩ := ob_read Try.isAgg3 Try.sizeOf3 s3
      obtain rfl := RV_int.1 cr132
      obtain ⟨ad133, cv133, hp133, i7, cr133⟩ := ob_read Try.isAgg34 Try.sizeOf34 u3
      obtain rfl := RV_int.1 cr133
      exact endm_ccc rfl rfl ((show _ = p4 from x4).trans hp131) e7 ((show _ = p5 from d5).trans hp132) g7 ((show _ = p6 from j5).trans hp133) i7 ⟨_, hfr, _, _, _, rfl, rfl, rfl, rfl⟩
     | n + 1, _, hc => exact absurd hc (by simp)
  ·rintro ⟨i6, j6, k6⟩ x9 u9 pA ⟨a9, hfr, hmk, m5, z6, n5, i4, o5, z1⟩ h
   refine E_seq (E_region (EL_do .plain rfl (D_storeOc (g := a9) (v := .int .i64 (0)) Try.sizeOf3 m5 z6 rfl (RV_int.2 rfl) fun b9 qA hs b135 cb => ?_)))
   clear cb
   have hfr := hfr.stp hs
   have hmk := hmk.stp hs
   have i4 := i4.stp hs rfl
   have z1 := z1.stp hs rfl
   refine EL_do .plain rfl (D_storeOc (g := b9) (v := .int .i64 (0)) Try.sizeOf3 n5 i4 rfl (RV_int.2 rfl) fun c9 rA hs b136 cb => ?_)
   clear cb
   have hfr := hfr.stp hs
   have hmk := hmk.stp hs
   have b135 := b135.stp hs rfl
   have z1 := z1.stp hs rfl
   refine EL_do .plain rfl (D_storeOc (g := c9) (v := .int .i64 (7)) Try.sizeOf34 o5 z1 rfl (RV_int.2 rfl) fun sA tA hs b137 cb => ?_)
   clear cb
   have hfr := hfr.stp hs
   have hmk := hmk.stp hs
   have b135 := b135.stp hs rfl
   have b136 := b136.stp hs rfl
   refine EL_nil (thn_n (E_ret (endM (.inr rfl) hmk fun uA vA hs => ?_)))
   have hfr := hfr.stp hs
   have b135 := b135.stp hs rfl
   have b136 := b136.stp hs rfl
   have b137 := b137.stp hs rfl
   obtain rfl := sinj h
   obtain ⟨ad139, cv139, hp139, j7, cr139⟩ := ob_read Try.isAgg3 Try.sizeOf3 b135
   obtain rfl := RV_int.1 cr139
   obtain ⟨ad140, cv140, hp140, l7, cr140⟩ := ob_read Try.isAgg3 Try.sizeOf3 b136
   obtain rfl := RV_int.1 cr140
   obtain ⟨ad141, cv141, hp141, m7, cr141⟩ := ob_read Try.isAgg34 Try.sizeOf34 b137
   obtain rfl := RV_int.1 cr141
   exact endm_ccc rfl rfl ((show _ = p4 from m5).trans hp139) j7 ((show _ = p5 from n5).trans hp140) l7 ((show _ = p6 from o5).trans hp141) m7 ⟨_, hfr, _, _, _, rfl, rfl, rfl, rfl⟩
/-- griffe/fault.Apart -/
def f38 (x0 : FaultLoom) (x1 : List FaultDamage) : Option (Int × Int) :=
 jn (σ := Int) (fun a7 =>
  (f68 ((⟨x0⟩ : FaultFaultLoom)) x1).bind fun u0 =>
  Option.bind (α := Int) (
   lp (σ := Int × Int) (fun y7 (m5, j0) =>
    bif (decide (j0 < ((u0).length : Int))) then
     Option.bind (α := Int) (
      (idx u0 j0).bind fun n5 =>
      (cut u0 0 j0).bind fun j1 =>
      lp (σ := Int × Int) (fun a8 (s3, o0) =>
       bif (decide (o0 < ((j1).length : Int))) then
        Option.bind (α := Int) (
         (idx j1 o0).bind fun b8 =>
         (f56 n5 b8).bind fun r6 =>
         (r6 (Nat × Int) (guardC fun u3 (i1, _i6) =>
          some (false, ((1 : Nat), ((max64 u3 (w64 (i1 + (1 : Int)))))))
          ) (0, (s3))).bind fun (c4, o5) =>
         bif Nat.beq c4 0 then
          some (o5)
         else
          some (o5)
         ) fun d4 =>
        a8 (d4, (w64 (o0 + (1 : Int))))
       else
        some (s3)
       ) big (m5, (0 : Int))
      ) fun i4 =>
     y7 (i4, (w64 (j0 + (1 : Int))))
    else
     some (m5)
    ) big (a7, (0 : Int))
   ) fun j4 =>
  some (j4, (0 : Int))
  ) fun l9 =>
 (f18 x0 x1).bind fun m4 =>
 bif (m4 != (0 : Int)) then
  some ((0 : Int), m4)
 else
  l9 ((0 : Int))
theorem en38 : Enters Try.prog 38 := enters_of Try.func38 (by kernel_rfl) rfl
theorem wk38 {gI : Gh} {wI : World} {x0 : FaultLoom} {x1 : List FaultDamage} {up0 : Value} (rp0 : RV gI.m wI x0 up0) {up1 : Value} (rp1 : RV gI.m wI x1 up1) {r : Int × Int} (h : f38 x0 x1 = some r) : Fn Try.prog 38 #[up0, up1] gI wI (fun _m _w v => ∃ y0 y1, v = .tuple #[y0, y1] ∧ y0 = .int .i64 (r.1) ∧ y1 = .int .i64 (r.2)) := by
 unfold f38 at h
 refine fnD_of_E Try.func38 rfl (Nat.le_of_ble_eq_true rfl) fun g0 hm hfr => ?_
 have hmk : MkF g0 wI [] := MkF.start
 have rp0 : RV g0.m wI x0 up0 := hm ▸ rp0
 have rp1 : RV g0.m wI x1 up1 := hm ▸ rp1
 show E _ 50 none _ _ _ _ _
 refine E_seq (E_region (EL_do .plain rfl (D_box (g := g0) rfl rp0 fun g1 w1 p1 hs q1 => ?_)))
 have hfr := hfr.ext hs
 have hmk := hmk.ext hs
 have rp1 := rp1.ext hs
 refine EL_do .plain rfl (D_allocOc (g := g1) 2004 (0 : Int) Try.zeroValue3 (fun m w => ⟨_, rep_int, rfl⟩) fun g2 w2 p2 hs b2 cb => ?_)
 have hfr := hfr.stp hs
 have hmk := hmk.stp hs
 have rp1 := rp1.stp hs
 have q1 := q1.stp hs
 clear cb
 refine EL_at (.int .i64 (0)) rfl rfl ?_
 refine EL_nil (thn_n (E_joinCD h (fun (s : Int) e ds w => ∃ (g : Gh) , Fr gI wI g w ∧ MkF g w ds ∧ e 1 = up1 ∧ RV g.m w (x1 : List FaultDamage) up1 ∧ e 2 = p1 ∧ PT g.m w (x0 : FaultLoom) p1 ∧ e 4 = p2 ∧ OB 2004 g w 3 (s : Int) p2) (fun X10 l9 q9 h => ?_) ?_))
 ·refine E_seq (E_region (EL_do .plain rfl (D_load (g := g2) Try.isAgg28 Try.sizeOf28 rfl q1 fun kA lA => ?_)))
  refine EL_mw up1 rfl rfl ?_
  obtain ⟨m4, r9, h⟩ := bsome h
  refine EL_do .plain rfl (D_call (g := g2) (vs := [kA, up1]) en18 (.cons rfl (.cons rfl .nil)) (wk18 lA rp1 r9) fun m9 cB yB hs hr => ?_)
  have hfr := hfr.ext hs
  have hmk := hmk.ext hs
  have rp1 := rp1.ext hs
  have q1 := q1.ext hs
  have b2 := b2.ext hs
  subst hr
  refine EL_at (.int .i64 (m4)) rfl rfl ?_
  refine EL_nil (thn_n (E_seq (E_region (EL_mw (.int .i64 (m4)) rfl rfl ?_))))
  refine EL_in (.bool ((m4 != (0 : Int)))) rfl rfl rfl rfl ?_
  refine EL_nil (thn_n ?_)
  rcases csome h with ⟨t6, h⟩ | ⟨t6, h⟩
  ·refine E_ct t6 rfl ?_
   refine E_seq (E_region (EL_mw (.int .i64 (m4)) rfl rfl ?_))
   refine EL_do .plain rfl (D_storeOc (g := m9) (v := .int .i64 (0)) Try.sizeOf3 rfl b2 rfl (RV_int.2 rfl) fun zB aC hs b15 cb => ?_)
   clear cb
   have hfr := hfr.stp hs
   have hmk := hmk.stp hs
   refine EL_at (.int .i64 (m4)) rfl rfl ?_
   refine EL_nil (thn_n (E_ret (thn_r ?_)))
   refine endM (.inr rfl) hmk fun bC cC hs => ?_
   have hfr := hfr.stp hs
   have b15 := b15.stp hs rfl
   obtain rfl := sinj h
   obtain ⟨ad17, cv17, hp17, s9, cr17⟩ := ob_read Try.isAgg3 Try.sizeOf3 b15
   obtain rfl := RV_int.1 cr17
   exact endm_ct rfl rfl ((show _ = p2 from rfl).trans hp17) s9 (show _ = .int .i64 (m4) from rfl) ⟨_, hfr, _, _, rfl, rfl, rfl⟩
  ·refine E_cf t6 rfl ?_
   exact E_skip (thn_n (q9 ((0 : Int)) _ _ _ ⟨m9, hfr, hmk, rfl, rp1, rfl, q1, rfl, b2⟩ h))
 ·rintro a7 dB tA dC ⟨c8, hfr, hmk, a9, b9, c9, d9, e9, c6⟩ h
  refine E_seq (E_region (EL_do .plain rfl (D_load (g := c8) Try.isAgg28 Try.sizeOf28 c9 d9 fun d8 n9 => ?_)))
  have o9 : RV c8.m _ (⟨x0⟩ : FaultFaultLoom) (.agg (setCh [[.int .i64 0, .slice none 0 0, .int .i64 0, .slice none 0 0]] [(0, d8)]).flatten.toArray) := RV_build rfl (rep_last (RV.cells n9))
  generalize t9 : (Value.agg (setCh [[.int .i64 0, .slice none 0 0, .int .i64 0, .slice none 0 0]] [(0, d8)]).flatten.toArray) = p9 at o9
  refine EL_pur (v := p9) (t9 ▸ P_build (vs := [(0, d8)]) [[.int .i64 0, .slice none 0 0, .int .i64 0, .slice none 0 0]] lay_98 rfl rfl (.cons rfl .nil) ⟨⟨_, rfl, cells_size n9⟩, trivial⟩) .plain rfl ?_
  refine EL_mv a9 rfl ?_
  obtain ⟨u0, u9, h⟩ := bsome h
  refine EL_do .plain rfl (D_call (g := c8) (vs := [p9, up1]) en68 (.cons rfl (.cons rfl .nil)) (wk68 o9 b9 u9) fun mA eB n0 hs hr => ?_)
  have hfr := hfr.ext hs
  have hmk := hmk.ext hs
  have c6 := c6.ext hs
  have e8 := hr
  refine EL_at n0 rfl rfl ?_
  refine EL_nil (thn_n ?_)
  obtain ⟨j4, hx, h⟩ := bsome h
  refine E_joinD (fun e ds w => ∃ (g : Gh) , Fr gI wI g w ∧ MkF g w ds ∧ e 4 = p2 ∧ OB 2004 g w 3 (j4 : Int) p2) (fun Q' hQ => ?_) (fun uA nA iB hR => ?_)
  ·replace h := hx
   clear hx
   refine E_seq (E_region (EL_mw n0 rfl rfl ?_))
   refine EL_pur (v := .int .i64 ((u0).length : Int)) (P_len Try.underlying78 rfl e8) .plain rfl ?_
   refine EL_mw (.int .i64 (0)) rfl rfl ?_
   refine EL_nil (thn_n (E_block ?_))
   refine E_lpD h (fun (s : Int × Int) e ds w => ∃ (g : Gh) , Fr gI wI g w ∧ MkF g w ds ∧ e 4 = p2 ∧ OB 2004 g w 3 (s.1 : Int) p2 ∧ e 7 = n0 ∧ RV g.m w (u0 : List (List Str)) n0 ∧ e 23 = n0 ∧ RV g.m w (u0 : List (List Str)) n0 ∧ e 24 = .int .i64 (((u0).length : Int)) ∧ e 25 = .int .i64 (s.2)) ⟨mA, hfr, hmk, e9, c6, rfl, e8, rfl, e8, rfl, rfl⟩ (fun X105 y7 g9 => ?_)
   rintro ⟨m5, j0⟩ vA oA jB ⟨u6, hfr, hmk, j6, k6, l6, p5, x5, x4, y5, j3⟩ h
   refine E_seq (E_region (EL_in (.bool ((decide (j0 < ((u0).length : Int))))) j3 y5 rfl rfl ?_))
   refine EL_nil (thn_n (E_seq ?_))
   rcases csome h with ⟨d6, h⟩ | ⟨d6, h⟩
   ·refine E_ct d6 rfl ?_
    refine E_skip (thn_n ?_)
    obtain ⟨i4, hx, h⟩ := bsome h
    refine E_joinD (fun e ds w => ∃ (g : Gh) , Fr gI wI g w ∧ MkF g w ds ∧ e 4 = p2 ∧ OB 2004 g w 3 (i4 : Int) p2 ∧ e 7 = n0 ∧ RV g.m w (u0 : List (List Str)) n0 ∧ e 23 = n0 ∧ RV g.m w (u0 : List (List Str)) n0 ∧ e 24 = .int .i64 (((u0).length : Int)) ∧ e 25 = .int .i64 (j0)) (fun Q' hQ => ?_) (fun xA pA kB hR => ?_)
    ·replace h := hx
     clear hx
     refine E_block ?_
     refine E_seq (E_region (EL_mv j3 rfl ?_))
     obtain ⟨n5, b7, h⟩ := bsome h
     refine EL_pur (v := ePtr n0 j0 1) (P_indexAddr (α := List Str) Try.underlying78 Try.sizeOf36 x5 x4 j3 b7) .plain rfl ?_
     have v9 := PT_idx x4 b7
     refine EL_do .plain rfl (D_load (g := u6) Try.isAgg36 Try.sizeOf36 rfl v9 fun q3 x9 => ?_)
     refine EL_at (.int .i64 (j0)) rfl rfl ?_
     refine EL_at q3 rfl rfl ?_
     refine EL_nil (thn_n (E_seq (E_region (EL_mv l6 rfl ?_))))
     refine EL_mw (.int .i64 (j0)) rfl rfl ?_
     obtain ⟨j1, c7, h⟩ := bsome h
     have g8 := RV_cut p5 c7
     refine EL_pur (v := (cutV n0 (Int.toNat 0) (Int.toNat j0) 1)) (P_slice Try.underlying78 Try.sizeOf36 rfl p5 rfl rfl c7) .plain rfl ?_
     refine EL_pur (v := .int .i64 ((j1).length : Int)) (P_len Try.underlying78 rfl g8) .plain rfl ?_
     refine EL_mw (.int .i64 (0)) rfl rfl ?_
     refine EL_nil (thn_n (E_block ?_))
     refine E_lpD h (fun (s : Int × Int) e ds w => ∃ (g : Gh) , Fr gI wI g w ∧ MkF g w ds ∧ e 4 = p2 ∧ OB 2004 g w 3 (s.1 : Int) p2 ∧ e 7 = n0 ∧ RV g.m w (u0 : List (List Str)) n0 ∧ e 9 = q3 ∧ RV g.m w (n5 : List Str) q3 ∧ e 23 = n0 ∧ RV g.m w (u0 : List (List Str)) n0 ∧ e 24 = .int .i64 (((u0).length : Int)) ∧ e 25 = .int .i64 (j0) ∧ e 32 = (cutV n0 (Int.toNat 0) (Int.toNat j0) 1) ∧ RV g.m w (j1 : List (List Str)) (cutV n0 (Int.toNat 0) (Int.toNat j0) 1) ∧ e 33 = .int .i64 (((j1).length : Int)) ∧ e 34 = .int .i64 (s.2)) ⟨u6, hfr, hmk, j6, k6, l6, p5, rfl, x9, x5, x4, y5, j3, rfl, g8, rfl, rfl⟩ (fun X152 a8 i9 => ?_)
     rintro ⟨s3, o0⟩ yA m6 lB ⟨v6, hfr, hmk, q2, n4, q5, o4, t5, p4, c5, o3, d5, i5, j5, z1, l5, p3⟩ h
     refine E_seq (E_region (EL_in (.bool ((decide (o0 < ((j1).length : Int))))) p3 l5 rfl rfl ?_))
     refine EL_nil (thn_n (E_seq ?_))
     rcases csome h with ⟨e6, h⟩ | ⟨e6, h⟩
     ·refine E_ct e6 rfl ?_
      refine E_skip (thn_n ?_)
      obtain ⟨d4, hx, h⟩ := bsome h
      refine E_joinD (fun e ds w => ∃ (g : Gh) , Fr gI wI g w ∧ MkF g w ds ∧ e 4 = p2 ∧ OB 2004 g w 3 (d4 : Int) p2 ∧ e 7 = n0 ∧ RV g.m w (u0 : List (List Str)) n0 ∧ e 9 = q3 ∧ RV g.m w (n5 : List Str) q3 ∧ e 23 = n0 ∧ RV g.m w (u0 : List (List Str)) n0 ∧ e 24 = .int .i64 (((u0).length : Int)) ∧ e 25 = .int .i64 (j0) ∧ e 32 = (cutV n0 (Int.toNat 0) (Int.toNat j0) 1) ∧ RV g.m w (j1 : List (List Str)) (cutV n0 (Int.toNat 0) (Int.toNat j0) 1) ∧ e 33 = .int .i64 (((j1).length : Int)) ∧ e 34 = .int .i64 (o0)) (fun Q' hQ => ?_) (fun zA qA mB hR => ?_)
      ·replace h := hx
       clear hx
       refine E_block ?_
       refine E_seq (E_region ?_)
       obtain ⟨b8, d7, h⟩ := bsome h
       refine EL_pur (v := ePtr ((cutV n0 (Int.toNat 0) (Int.toNat j0) 1)) o0 1) (P_indexAddr (α := List Str) Try.underlying78 Try.sizeOf36 j5 z1 p3 d7) .plain rfl ?_
       have y9 := PT_idx z1 d7
       refine EL_do .plain rfl (D_load (g := v6) Try.isAgg36 Try.sizeOf36 rfl y9 fun x6 z9 => ?_)
       refine EL_at x6 rfl rfl ?_
       refine EL_nil (thn_n (E_seq (E_region (EL_mv t5 rfl ?_))))
       refine EL_mw x6 rfl rfl ?_
       obtain ⟨r6, j9, h⟩ := bsome h
       refine EL_do .plain rfl (D_call (g := v6) (vs := [q3, x6]) en56 (.cons rfl (.cons rfl .nil)) (wk56 p4 z9 j9) fun nB aB aA hs hr => ?_)
       have hfr := hfr.ext hs
       have hmk := hmk.ext hs
       have n4 := n4.ext hs
       have o4 := o4.ext hs
       have p4 := p4.ext hs
       have o3 := o3.ext hs
       have z1 := z1.ext hs
       have i8 := hr
       refine EL_nil (thn_n (E_block ?_))
       have hB0 := hfr.size
       have hmk0 := hmk
       obtain ⟨⟨c4, o5⟩, hφ, h⟩ := bsome h
       refine E_rangeFunc (σ := (Nat × Int)) (s0 := (0, (s3))) 10 rfl (fun s => s.1) [.exit 4] (fun (s : Nat × Int) (g : Gh) (w : World) => Fr gI wI g w ∧ MkF g w m6 ∧ OB 2004 g w 3 (s.2 : Int) p2 ∧ RV g.m w (u0 : List (List Str)) n0 ∧ RV g.m w (n5 : List Str) q3 ∧ RV g.m w (u0 : List (List Str)) n0 ∧ RV g.m w (j1 : List (List Str)) (cutV n0 (Int.toNat 0) (Int.toNat j0) 1) ∧ ItV Try.prog (RA2 (α := Int) (β := Int)) r6 aA g.m w) rfl i8 hφ (fun _ _ _ h => (guardC_h h).1) rfl ra2_size rfl (fun _ _ _ _ _ hx hR => by obtain ⟨hfr, hmk, z2, z3, z4, z5, z6, z7⟩ := hR; exact ⟨hfr.ist hx hB0, hmk.ist hx, z2.ist hx, z3.ist hx, z4.ist hx, z5.ist hx, z6.ist hx, z7.ist hx⟩) (fun _ _ _ _ _ hx hR => by obtain ⟨hfr, hmk, z2, z3, z4, z5, z6, z7⟩ := hR; exact ⟨hfr.stp hx, hmk.stp hx, z2.stp hx rfl, z3.stp hx, z4.stp hx, z5.stp hx, z6.stp hx, z7.stp hx⟩) ⟨hfr, hmk, n4, o4, p4, o3, z1, i8⟩ (fun _ h => by cases h) ?_ ?_
       ·intro bB rA s x b s2 y6 bA vs hsz h hR hrec_0 e7 hrd
        obtain ⟨hs0, h⟩ := guardC_h h
        obtain ⟨st, u3⟩ := s
        obtain ⟨hfr, hmk, q4, d3, i3, d2, i2, j2⟩ := hR
        obtain ⟨i1, i6⟩ := x
        obtain ⟨j8, k8, rfl, g7, i7⟩ := ra2_get hrd
        obtain rfl : j8 = .int .i64 (i1) := RV_int.1 g7
        obtain rfl : k8 = .int .i64 (i6) := RV_int.1 i7
        have u4 := RFr.refl y6 bA
        refine E_region (EL_at (.int .i64 (i1)) rfl rfl ?_)
        refine EL_nil (thn_n ?_)
        obtain ⟨cA, hbr, hs, hrN⟩ := begin_round hrec_0 e7
        refine ⟨cA, hbr, ?_⟩
        have hfr := hfr.stp hs
        have hmk := hmk.stp hs
        have u4 := u4.stp hs
        have q4 := q4.stp hs rfl
        have d3 := d3.stp hs
        have i3 := i3.stp hs
        have d2 := d2.stp hs
        have i2 := i2.stp hs
        have j2 := j2.stp hs
        have hrec_0 := hrN
        clear hbr hs hrN
        refine E_block ?_
        refine E_seq (E_region (EL_do .plain rfl (D_loadO (g := y6) Try.isAgg3 Try.sizeOf3 q2 q4 fun oB dA => ?_)))
        obtain rfl := RV_int.1 dA
        refine EL_mw (.int .i64 (i1)) rfl rfl ?_
        refine EL_in (.int .i64 ((w64 (i1 + (1 : Int))))) rfl rfl rfl rfl ?_
        refine EL_pur (v := .int .i64 (max64 u3 (w64 (i1 + (1 : Int))))) (P_max rfl rfl) .plain rfl ?_
        refine EL_do .plain rfl (D_storeOc (g := y6) (v := .int .i64 (max64 u3 (w64 (i1 + (1 : Int))))) Try.sizeOf3 q2 q4 rfl (RV_int.2 rfl) fun pB qB hs b182 cb => ?_)
        clear cb
        have hfr := hfr.stp hs
        have hmk := hmk.stp hs
        have u4 := u4.stp hs
        have hrec_0 := hrec_0.stp hs rfl
        have d3 := d3.stp hs
        have i3 := i3.stp hs
        have d2 := d2.stp hs
        have i2 := i2.stp hs
        have j2 := j2.stp hs
        refine EL_nil (thn_n (E_exit ?_))
        refine blk_miss rfl ?_
        obtain ⟨rfl, rfl⟩ := pairs2 h
        exact ⟨_, u4, ⟨hfr, hmk, b182, d3, i3, d2, i2, j2⟩, hrec_0, rfl, 0, rfl, rfl⟩
       ·intro l8 rB ds184 hsz hR hds
        obtain ⟨hfr, hmk, n6, o6, p6, a6, b6, jA⟩ := hR
        obtain ⟨D, hdse, hD, hDb⟩ := hds.1 rfl
        subst hdse
        replace hmk := MkF.push hmk0 hmk hD hDb
        clear hD hDb hds
        revert hmk
        generalize ({ target := .collected D, args := #[] } :: m6 : List Deferred) = sA
        intro hmk
        refine ⟨fun hs => ?_, fun k c hs hc => ?_⟩
        ·have hs : c4 = 0 := hs
         subst hs
         replace h := cond_t h rfl
         refine blk_n (blk_n ?_)
         obtain rfl := sinj h
         exact hQ _ _ _ ⟨l8, hfr, hmk, q2, n6, q5, o6, t5, p6, c5, a6, d5, i5, j5, b6, l5, p3⟩
        ·have hs : c4 = k + 1 := hs
         match k, hs, hc with
         | 0, hs, hc =>
          subst hs
          obtain rfl := sinj hc
          replace h := cond_f h rfl
          refine E_exit ?_
          refine blk_hit ?_
          refine blk_n ?_
          obtain rfl := sinj h
          exact hQ _ _ _ ⟨l8, hfr, hmk, q2, n6, q5, o6, t5, p6, c5, a6, d5, i5, j5, b6, l5, p3⟩
         | n + 1, _, hc => exact absurd hc (by simp)
      ·clear hx
       obtain ⟨eA, hfr, hmk, m8, n8, o8, p8, q8, r8, j7, l7, m7, n7, o7, p7, q7, r7⟩ := hR
       refine E_region (EL_in (.int .i64 ((w64 (o0 + (1 : Int))))) r7 rfl rfl rfl ?_)
       refine EL_mw (.int .i64 ((w64 (o0 + (1 : Int))))) rfl rfl ?_
       exact EL_nil (thn_n (i9 (d4, (w64 (o0 + (1 : Int)))) _ _ _ ⟨eA, hfr, hmk, m8, n8, o8, p8, q8, r8, j7, l7, m7, n7, o7, p7, q7, rfl⟩ h))
     ·refine E_cf e6 rfl ?_
      refine E_exit ?_
      refine thn_e ?_
      refine thn_e ?_
      refine blk_hit ?_
      refine blk_n ?_
      obtain rfl := sinj h
      exact hQ _ _ _ ⟨v6, hfr, hmk, q2, n4, q5, o4, c5, o3, d5, i5⟩
    ·clear hx
     obtain ⟨gA, hfr, hmk, t8, v8, x8, y8, t7, u7, v7, x7⟩ := hR
     refine E_region (EL_in (.int .i64 ((w64 (j0 + (1 : Int))))) x7 rfl rfl rfl ?_)
     refine EL_mw (.int .i64 ((w64 (j0 + (1 : Int))))) rfl rfl ?_
     exact EL_nil (thn_n (g9 (i4, (w64 (j0 + (1 : Int)))) _ _ _ ⟨gA, hfr, hmk, t8, v8, x8, y8, t7, u7, v7, rfl⟩ h))
   ·refine E_cf d6 rfl ?_
    refine E_exit ?_
    refine thn_e ?_
    refine thn_e ?_
    refine blk_hit ?_
    obtain rfl := sinj h
    exact hQ _ _ _ ⟨u6, hfr, hmk, j6, k6⟩
  ·clear hx
   obtain ⟨z8, hfr, hmk, u5, q6⟩ := hR
   refine E_seq (E_region (EL_do .plain rfl (D_loadO (g := z8) Try.isAgg3 Try.sizeOf3 u5 q6 fun sB iA => ?_)))
   obtain rfl := RV_int.1 iA
   refine EL_do .plain rfl (D_storeOc (g := z8) (v := .int .i64 (j4)) Try.sizeOf3 u5 q6 rfl (RV_int.2 rfl) fun tB uB hs b189 cb => ?_)
   clear cb
   have hfr := hfr.stp hs
   have hmk := hmk.stp hs
   refine EL_at (.int .i64 (0)) rfl rfl ?_
   refine EL_nil (thn_n (E_ret (endM (.inr rfl) hmk fun vB xB hs => ?_)))
   have hfr := hfr.stp hs
   have b189 := b189.stp hs rfl
   obtain rfl := sinj h
   obtain ⟨ad191, cv191, hp191, k9, cr191⟩ := ob_read Try.isAgg3 Try.sizeOf3 b189
   obtain rfl := RV_int.1 cr191
   exact endm_ct rfl rfl ((show _ = p2 from u5).trans hp191) k9 (show _ = .int .i64 (0) from rfl) ⟨_, hfr, _, _, rfl, rfl, rfl⟩
/-- griffe/fault.Groups -/
def f39 (x0 : FaultLoom) (x1 : List FaultDamage) : Option ((List (List Int)) × Int) :=
 jn (σ := (List (List Int))) (fun j5 =>
  (f68 ((⟨x0⟩ : FaultFaultLoom)) x1).bind fun s2 =>
  Option.bind (α := (List (List Int))) (
   lp (σ := (List (List Int)) × Int) (fun o7 (z2, n0) =>
    bif (decide (n0 < ((s2).length : Int))) then
     Option.bind (α := (List (List Int))) (
      (idx s2 n0).bind fun p7 =>
      (f69 z2 ((fun a0 => f70 a0 s2 p7))).bind fun u3 =>
      Option.bind (α := (List (List Int)) × Int) (
       bif (decide (u3 < (0 : Int))) then
        (apnd 24 z2 ([([] : List Int)] : List (List Int))).bind fun u5 =>
        some (u5, ((z2).length : Int))
       else
        some (z2, u3)
       ) fun (o3, q2) =>
      (idx o3 q2).bind fun x5 =>
      (apnd 8 x5 (([n0] : List Int))).bind fun y5 =>
      some ((List.set o3 (Int.toNat q2) y5))
      ) fun p3 =>
     o7 (p3, (w64 (n0 + (1 : Int))))
    else
     some (z2)
    ) big (j5, (0 : Int))
   ) fun z3 =>
  some (z3, (0 : Int))
  ) fun k7 =>
 (f18 x0 x1).bind fun q3 =>
 bif (q3 != (0 : Int)) then
  some ([], q3)
 else
  k7 (([] : List (List Int)))
theorem en39 : Enters Try.prog 39 := enters_of Try.func39 (by kernel_rfl) rfl
theorem wk39 {gI : Gh} {wI : World} {x0 : FaultLoom} {x1 : List FaultDamage} {up0 : Value} (rp0 : RV gI.m wI x0 up0) {up1 : Value} (rp1 : RV gI.m wI x1 up1) {r : (List (List Int)) × Int} (h : f39 x0 x1 = some r) : Fn Try.prog 39 #[up0, up1] gI wI (fun m w v => ∃ y0 y1, v = .tuple #[y0, y1] ∧ RV m w (r.1) y0 ∧ y1 = .int .i64 (r.2)) := by
 unfold f39 at h
 refine fn_of_E Try.func39 rfl (Nat.le_of_ble_eq_true rfl) fun g0 hm hfr => ?_
 have rp0 : RV g0.m wI x0 up0 := hm ▸ rp0
 have rp1 : RV g0.m wI x1 up1 := hm ▸ rp1
 show E _ 50 none _ _ _ _ _
 refine E_seq (E_region (EL_do .plain rfl (D_box (g := g0) rfl rp0 fun g1 w1 p1 hs q1 => ?_)))
 have hfr := hfr.ext hs
 have rp1 := rp1.ext hs
 refine EL_at (.slice none 0 0) rfl rfl ?_
 have b2 : RO 9004 g1 w1 22 [] (.slice none 0 0) := RO.nil
 have c2 : Pool (RS (α := Int) 3) 9504 g1 w1 [] [] none := Pool.nil
 refine EL_at (.int .i64 (0)) rfl rfl ?_
 refine EL_nil (thn_n (E_joinC h (fun (s : (List (List Int))) e w => ∃ (g : Gh) (v4 : Value), Fr gI wI g w ∧ e 1 = up1 ∧ RV g.m w (x1 : List FaultDamage) up1 ∧ e 2 = p1 ∧ PT g.m w (x0 : FaultLoom) p1 ∧ e 4 = v4 ∧ NS (RS (α := Int) 3) 9004 9504 g w 22 (s : List (List Int)) v4) (fun X7 k7 i8 h => ?_) ?_))
 ·refine E_seq (E_region (EL_do .plain rfl (D_load (g := g1) Try.isAgg28 Try.sizeOf28 rfl q1 fun v8 r8 => ?_)))
  refine EL_mw up1 rfl rfl ?_
  obtain ⟨q3, x7, h⟩ := bsome h
  refine EL_do .plain rfl (D_call (g := g1) (vs := [v8, up1]) en18 (.cons rfl (.cons rfl .nil)) (wk18 r8 rp1 x7) fun g9 w9_ v9 hs hr => ?_)
  have hfr := hfr.ext hs
  have rp1 := rp1.ext hs
  have q1 := q1.ext hs
  have b2 := b2.ext hs
  have c2 := c2.ext (rowS _) hs
  subst hr
  refine EL_at (.int .i64 (q3)) rfl rfl ?_
  refine EL_nil (thn_n (E_seq (E_region (EL_mw (.int .i64 (q3)) rfl rfl ?_))))
  refine EL_in (.bool ((q3 != (0 : Int)))) rfl rfl rfl rfl ?_
  refine EL_nil (thn_n ?_)
  rcases csome h with ⟨z4, h⟩ | ⟨z4, h⟩
  ·refine E_ct z4 rfl ?_
   refine E_seq (E_region (EL_mw (.int .i64 (q3)) rfl rfl ?_))
   refine EL_at (.slice none 0 0) rfl rfl ?_
   refine EL_at (.int .i64 (q3)) rfl rfl ?_
   refine EL_nil (thn_n (E_ret (thn_r ?_)))
   obtain rfl := sinj h
   exact end2 rfl rfl (show _ = .slice none 0 0 from rfl) (show _ = .int .i64 (q3) from rfl) ⟨_, hfr, _, _, rfl, RV_nil, rfl⟩
  ·refine E_cf z4 rfl ?_
   exact E_skip (thn_n (i8 (([] : List (List Int))) _ _ ⟨g9, (.slice none 0 0), hfr, rfl, rp1, rfl, q1, rfl, ⟨_, b2, c2⟩⟩ h))
 ·rintro j5 e9 gA ⟨z5, b7, hfr, c7, d7, e7, g7, i7, ⟨x8, i2, j2⟩⟩ h
  refine E_seq (E_region (EL_do .plain rfl (D_load (g := z5) Try.isAgg28 Try.sizeOf28 e7 g7 fun a6 q7 => ?_)))
  have r7 : RV z5.m _ (⟨x0⟩ : FaultFaultLoom) (.agg (setCh [[.int .i64 0, .slice none 0 0, .int .i64 0, .slice none 0 0]] [(0, a6)]).flatten.toArray) := RV_build rfl (rep_last (RV.cells q7))
  generalize y7 : (Value.agg (setCh [[.int .i64 0, .slice none 0 0, .int .i64 0, .slice none 0 0]] [(0, a6)]).flatten.toArray) = t7 at r7
  refine EL_pur (v := t7) (y7 ▸ P_build (vs := [(0, a6)]) [[.int .i64 0, .slice none 0 0, .int .i64 0, .slice none 0 0]] lay_98 rfl rfl (.cons rfl .nil) ⟨⟨_, rfl, cells_size q7⟩, trivial⟩) .plain rfl ?_
  refine EL_mv c7 rfl ?_
  obtain ⟨s2, z7, h⟩ := bsome h
  refine EL_do .plain rfl (D_call (g := z5) (vs := [t7, up1]) en68 (.cons rfl (.cons rfl .nil)) (wk68 r7 d7 z7) fun j8 i9 k8 hs hr => ?_)
  have hfr := hfr.ext hs
  have i2 := i2.ext hs
  have j2 := j2.ext (rowS _) hs
  have b6 := hr
  refine EL_do .plain rfl (D_allocOc (g := j8) 2007 ([] : List (List Str)) Try.zeroValue78 (fun m w => ⟨_, rep_nil, rfl⟩) fun u7 l8 d3 hs b17 cb => ?_)
  have hfr := hfr.stp hs
  have i2 := i2.stp hs rfl
  have j2 := j2.stp (rowS _) hs rfl
  have b6 := b6.stp hs
  have y8 : OSF 2007 60700 0 u7 l8 36 78 ([] : List (List Str)) d3 := cb.osf (by rfl)
  clear cb
  refine EL_do .plain rfl (D_storeOc (g := u7) (v := k8) Try.sizeOf78 rfl b17 rfl b6 fun iA jA hs b18 cb => ?_)
  clear cb
  have hfr := hfr.stp hs
  have i2 := i2.stp hs rfl
  have j2 := j2.stp (rowS _) hs rfl
  obtain ⟨gp18, hs, qp18⟩ := OB.pub b18
  have hfr := hfr.stp hs
  have i2 := i2.stp hs rfl
  have j2 := j2.stp (rowS _) hs rfl
  refine EL_nil (thn_n ?_)
  obtain ⟨z3, hx, h⟩ := bsome h
  refine E_join (fun e w => ∃ (g : Gh) (v4 : Value), Fr gI wI g w ∧ e 4 = v4 ∧ NS (RS (α := Int) 3) 9004 9504 g w 22 (z3 : List (List Int)) v4) (fun Q' hQ => ?_) (fun z8 j9 hR => ?_)
  ·replace h := hx
   clear hx
   refine E_seq (E_region (EL_do .plain rfl (D_load (g := gp18) Try.isAgg78 Try.sizeOf78 rfl qp18 fun c4 v7 => ?_)))
   refine EL_pur (v := .int .i64 ((s2).length : Int)) (P_len Try.underlying78 rfl v7) .plain rfl ?_
   refine EL_mw (.int .i64 (0)) rfl rfl ?_
   refine EL_nil (thn_n (E_block ?_))
   refine E_lp h (fun (s : (List (List Int)) × Int) e w => ∃ (g : Gh) (v4 : Value), Fr gI wI g w ∧ e 4 = v4 ∧ NS (RS (α := Int) 3) 9004 9504 g w 22 (s.1 : List (List Int)) v4 ∧ e 7 = d3 ∧ PT g.m w (s2 : List (List Str)) d3 ∧ e 21 = c4 ∧ RV g.m w (s2 : List (List Str)) c4 ∧ e 22 = .int .i64 (((s2).length : Int)) ∧ e 23 = .int .i64 (s.2)) ⟨gp18, (b7), hfr, i7, ⟨_, i2, j2⟩, rfl, qp18, rfl, v7, rfl, rfl⟩ (fun X71 o7 a8 => ?_)
   rintro ⟨z2, n0⟩ k9 kA ⟨c6, p4, hfr, s3, ⟨a9, i1, j1⟩, q4, o0, d4, j0, i4, i3⟩ h
   refine E_seq (E_region (EL_in (.bool ((decide (n0 < ((s2).length : Int))))) i3 i4 rfl rfl ?_))
   refine EL_nil (thn_n (E_seq ?_))
   rcases csome h with ⟨c5, h⟩ | ⟨c5, h⟩
   ·refine E_ct c5 rfl ?_
    refine E_skip (thn_n ?_)
    obtain ⟨p3, hx, h⟩ := bsome h
    refine E_join (fun e w => ∃ (g : Gh) (v4 : Value), Fr gI wI g w ∧ e 4 = v4 ∧ NS (RS (α := Int) 3) 9004 9504 g w 22 (p3 : List (List Int)) v4 ∧ e 7 = d3 ∧ PT g.m w (s2 : List (List Str)) d3 ∧ e 21 = c4 ∧ RV g.m w (s2 : List (List Str)) c4 ∧ e 22 = .int .i64 (((s2).length : Int)) ∧ e 23 = .int .i64 (n0)) (fun Q' hQ => ?_) (fun b9 l9 hR => ?_)
    ·replace h := hx
     clear hx
     refine E_block ?_
     refine E_seq (E_region (EL_mv i3 rfl ?_))
     obtain ⟨p7, d6, h⟩ := bsome h
     refine EL_pur (v := ePtr c4 n0 1) (P_indexAddr (α := List Str) Try.underlying78 Try.sizeOf36 d4 j0 i3 d6) .plain rfl ?_
     have m8 := PT_idx j0 d6
     refine EL_do .plain rfl (D_load (g := c6) Try.isAgg36 Try.sizeOf36 rfl m8 fun n8 e6 => ?_)
     refine EL_do .plain rfl (D_allocOc (g := c6) 2009 ([] : List Str) Try.zeroValue36 (fun m w => ⟨_, rep_nil, rfl⟩) fun i6 b8 j4 hs b100 cb => ?_)
     have hfr := hfr.stp hs
     have i1 := i1.stp hs rfl
     have j1 := j1.stp (rowS _) hs rfl
     have o0 := o0.stp hs
     have j0 := j0.stp hs
     have e6 := e6.stp hs
     have o8 : OSF 2009 60900 0 i6 b8 9 36 ([] : List Str) j4 := cb.osf (by rfl)
     clear cb
     refine EL_at (.int .i64 (n0)) rfl rfl ?_
     refine EL_do .plain rfl (D_storeOc (g := i6) (v := n8) Try.sizeOf36 rfl b100 rfl e6 fun m9 c8 hs b101 cb => ?_)
     clear cb
     have hfr := hfr.stp hs
     have i1 := i1.stp hs rfl
     have j1 := j1.stp (rowS _) hs rfl
     have o0 := o0.stp hs
     have j0 := j0.stp hs
     obtain ⟨gp101, hs, qp101⟩ := OB.pub b101
     have hfr := hfr.stp hs
     have i1 := i1.stp hs rfl
     have j1 := j1.stp (rowS _) hs rfl
     have o0 := o0.stp hs
     have j0 := j0.stp hs
     refine EL_nil (thn_n (E_seq (E_region (EL_mv s3 rfl ?_))))
     refine EL_pur (v := (.func (.func 70) #[] #[d3, j4])) (P_makeFunc (capf_0_2 (show ev _ _ = d3 from q4) (show ev _ _ = j4 from rfl))) .plain rfl ?_
     obtain ⟨u3, j7, h⟩ := bsome h
     refine EL_do .plain rfl (D_callN (g := gp101) (R := (RS (α := Int) 3)) (vs := [p4, (.func (.func 70) #[] #[d3, j4])]) (fun h => h.2) ⟨_, i1, j1⟩ en69 (.cons rfl (.cons rfl .nil)) (fun g1 hchN hrN => wk69 hrN (FnV1.ch (g := gp101) (w := c8) ⟨70, #[], #[d3, j4], rfl, en70, fun g' w' hch a0 b0 r hu0 hr => by exact Fn.mono (wk70 hu0 (o0.ch hch) (qp101.ch hch) hr) fun _ _ _ h => RV_bool.2 h⟩ hchN) j7) fun j6 c9 _ n9 hs hr => ?_)
     have hfr := hfr.ext hs
     have i1 := i1.ext hs
     have j1 := j1.ext (rowS _) hs
     have o0 := o0.ext hs
     have j0 := j0.ext hs
     subst hr
     refine EL_at (.int .i64 (u3)) rfl rfl ?_
     refine EL_nil (thn_n ?_)
     obtain ⟨⟨o3, q2⟩, hx, h⟩ := bsome h
     refine E_join (fun e w => ∃ (g : Gh) (v4 : Value), Fr gI wI g w ∧ e 4 = v4 ∧ NS (RS (α := Int) 3) 9004 9504 g w 22 (o3 : List (List Int)) v4 ∧ e 7 = d3 ∧ PT g.m w (s2 : List (List Str)) d3 ∧ e 8 = .int .i64 (n0) ∧ e 10 = .int .i64 (q2) ∧ e 21 = c4 ∧ RV g.m w (s2 : List (List Str)) c4 ∧ e 22 = .int .i64 (((s2).length : Int)) ∧ e 23 = .int .i64 (n0)) (fun Q' hQ => ?_) (fun d9 o9 hR => ?_)
     ·replace h := hx
      clear hx
      refine E_seq (E_region (EL_mw (.int .i64 (u3)) rfl rfl ?_))
      refine EL_in (.bool ((decide (u3 < (0 : Int))))) rfl rfl rfl rfl ?_
      refine EL_nil (thn_n ?_)
      rcases csome h with ⟨u4, h⟩ | ⟨u4, h⟩
      ·refine E_ct u4 rfl ?_
       refine E_seq (E_region (EL_mv s3 rfl ?_))
       refine EL_pur (v := .int .i64 ((z2).length : Int)) (P_lenN Try.underlying71 rfl i1 j1) .plain rfl ?_
       refine EL_at (.int .i64 ((z2).length : Int)) rfl rfl ?_
       refine EL_nil (thn_n (E_region (EL_mv s3 rfl ?_)))
       refine EL_do .plain rfl (D_buildSlice (g := j6) 3036 (xs := ([⟨.slice none 0 0, rfl⟩] : List Fv)) (vs := [.slice none 0 0]) Try.underlying71 Try.sizeOf22 Try.zeroValue22 rfl rfl (.cons rfl .nil) (RVs.cons (RV_fv.2 rfl) RVs.nil) rfl rfl fun d8 p9 q9 hs o109 e8 hxt hfl => ?_)
       have hfr := hfr.stp hs
       have i1 := i1.stp hs rfl
       have j1 := j1.stp (rowS _) hs rfl
       have o0 := o0.stp hs
       have j0 := j0.stp hs
       obtain ⟨u5, l7, h⟩ := bsome h
       refine EL_do .plain rfl (D_appendN (g := d8) (R := (RS (α := Int) 3)) (i := 9004) (j := 9504) (j' := 4037) (rowS _) ⟨.slice none 0 0, rfl⟩ Try.underlying71 info_22 rfl rfl ⟨_, i1, j1⟩ rfl e8 ⟨OS.nil, RV_nil⟩ l7 rfl rfl rfl rfl fun r9 s9 k6 ga110 hs hs2 bb110 => ?_)
       have hfr := hfr.stp hs
       have o0 := o0.stp hs
       have j0 := j0.stp hs
       have hfr := hfr.stp hs2
       have o0 := o0.stp hs2
       have j0 := j0.stp hs2
       obtain ⟨t9, b110, c110⟩ := bb110
       clear hs hs2
       refine EL_at k6 rfl rfl ?_
       refine EL_nil ?_
       obtain ⟨rfl, rfl⟩ := pairs2 h
       exact hQ _ _ ⟨ga110, (k6), hfr, rfl, ⟨_, b110, c110⟩, q4, o0, rfl, rfl, d4, j0, i4, i3⟩
      ·refine E_cf u4 rfl ?_
       refine E_skip ?_
       obtain ⟨rfl, rfl⟩ := pairs2 h
       exact hQ _ _ ⟨j6, (p4), hfr, s3, ⟨_, i1, j1⟩, q4, o0, rfl, rfl, d4, j0, i4, i3⟩
     ·clear hx
      obtain ⟨l6, m4, hfr, n4, ⟨p8, z1, j3⟩, m6, d2, n6, o4, l5, u0, m5, n5⟩ := hR
      refine E_region (EL_mv n4 rfl ?_)
      refine EL_mv o4 rfl ?_
      refine EL_mv n4 rfl ?_
      refine EL_mv o4 rfl ?_
      obtain ⟨x5, m7, h⟩ := bsome h
      obtain ⟨u9, hri114, hrn114, hxn114⟩ := Pool.idx j3 m7
      refine EL_pur (v := ePtr m4 q2 1) (P_indexAddrM (α := Fv) Try.underlying71 Try.sizeOf22 rfl (RO.toM z1) rfl hri114) .plain rfl ?_
      refine EL_do .plain rfl (D_loadM (g := l6) (α := Fv) Try.isAgg22 Try.sizeOf22 rfl (RO.toM z1) hri114 fun x9 o6 => ?_)
      obtain rfl := RV_fv.1 o6
      have o6 := (j3.2.1 _ _ _ (by simp) hrn114 hxn114).2
      refine EL_mv n6 rfl ?_
      refine EL_do .plain rfl (D_buildSlice (g := l6) 3045 (xs := ([n0] : List Int)) (vs := [.int .i64 (n0)]) Try.underlying22 Try.sizeOf3 Try.zeroValue3 rfl rfl (.cons rfl .nil) (RVs.cons (RV_int.2 rfl) RVs.nil) rfl rfl fun y9 z9 aA hs o116 d5 hxt hfl => ?_)
      have hfr := hfr.stp hs
      have z1 := z1.stp hs rfl
      have j3 := j3.stp (rowS _) hs rfl
      have d2 := d2.stp hs
      have u0 := u0.stp hs
      obtain ⟨y5, n7, h⟩ := bsome h
      obtain ⟨ga117, _, hs, hw117, ck117⟩ := Pool.take (rowS _) j3 hrn114 hxn114 4046
      have hfr := hfr.stp hs
      have z1 := z1.stp hs rfl
      have d2 := d2.stp hs
      have u0 := u0.stp hs
      have d5 := d5.stp hs
      refine EL_do .plain rfl (D_append (g := ga117) (i := 4046) Try.underlying22 info_3 rfl rfl hw117.1 hw117.2 rfl d5 n7 fun bA cA p6 hs o117 i5 _ => ?_)
      have hfr := hfr.stp hs
      have z1 := z1.stp hs rfl
      have ck117 := ck117.stp (rowS _) hs rfl
      have d2 := d2.stp hs
      have u0 := u0.stp hs
      obtain ⟨gb117, _, hs, cp117⟩ := Pool.put (rowS _) ck117 ⟨p6, one_row i5⟩ ⟨o117, i5⟩ rfl
      have hfr := hfr.stp hs
      have z1 := z1.stp hs rfl
      have d2 := d2.stp hs
      have u0 := u0.stp hs
      refine EL_pur (v := ePtr m4 q2 1) (P_indexAddrM (α := Fv) Try.underlying71 Try.sizeOf22 rfl (RO.toM z1) rfl hri114) .plain rfl ?_
      refine EL_do .plain rfl (D_storeRO (g := gb117) ⟨p6, one_row i5⟩ Try.sizeOf22 rfl z1 hri114 rfl fun dA hs b119 => ?_)
      have hfr := hfr.stp hs
      have cp117 := cp117.stp (rowS _) hs rfl
      have d2 := d2.stp hs
      have u0 := u0.stp hs
      refine EL_nil (blk_n ?_)
      obtain rfl := sinj h
      exact hQ _ _ ⟨gb117, (m4), hfr, n4, ⟨_, b119, cp117⟩, m6, d2, l5, u0, m5, n5⟩
    ·clear hx
     obtain ⟨g8, q6, hfr, r6, ⟨q8, t6, u6⟩, v6, x6, o5, p5, q5, t5⟩ := hR
     refine E_region (EL_in (.int .i64 ((w64 (n0 + (1 : Int))))) t5 rfl rfl rfl ?_)
     refine EL_mw (.int .i64 ((w64 (n0 + (1 : Int))))) rfl rfl ?_
     exact EL_nil (thn_n (a8 (p3, (w64 (n0 + (1 : Int)))) _ _ ⟨g8, (q6), hfr, r6, ⟨_, t6, u6⟩, v6, x6, o5, p5, q5, rfl⟩ h))
   ·refine E_cf c5 rfl ?_
    refine E_exit ?_
    refine thn_e ?_
    refine thn_e ?_
    refine blk_hit ?_
    obtain rfl := sinj h
    exact hQ _ _ ⟨c6, (p4), hfr, s3, ⟨_, i1, j1⟩⟩
  ·clear hx
   obtain ⟨eA, x4, hfr, y6, ⟨t8, z6, a7⟩⟩ := hR
   refine E_seq (E_region (EL_mv y6 rfl ?_))
   refine EL_at x4 rfl rfl ?_
   refine EL_at (.int .i64 (0)) rfl rfl ?_
   refine EL_nil (thn_n (E_ret ?_))
   obtain ⟨gp122, hs, rp122⟩ := NS.pub (R := (RS (α := Int) 3)) (fun h => h.2) ⟨_, z6, a7⟩
   have hfr := hfr.stp hs
   obtain rfl := sinj h
   exact end2 rfl rfl (show _ = x4 from rfl) (show _ = .int .i64 (0) from rfl) ⟨_, hfr, _, _, rfl, rp122, rfl⟩
/-- griffe/fault.Look -/
def f41 (x0 : FaultLoom) (x1 : List FaultDamage) (x2 : Int) : Option (Int × Int × Int × Int) :=
 jn (σ := Int × Int) (fun (q6, r6) =>
  jn (σ := Int × Int) (fun (y7, z7) =>
   (f68 ((⟨x0⟩ : FaultFaultLoom)) x1).bind fun u0 =>
   Option.bind (α := Int × Int × Int) (
    lp (σ := Int × Int × Int × Int) (fun q9 (p5, q5, t5, j0) =>
     bif (decide (j0 < (min64 x2 ((((x0).Design).Rows).length : Int)))) then
      Option.bind (α := Int × Int × Int) (
       lp (σ := Int × Int × Int × Int) (fun r9 (i2, j2, z1, o0) =>
        bif (decide (o0 < ((((x0).Harness).Warps).length : Int))) then
         Option.bind (α := Int × Int × Int) (
          Option.bind (α := Int) (
           lp (σ := Int × Int) (fun s9 (d2, i1) =>
            bif (decide (i1 < ((u0).length : Int))) then
             Option.bind (α := Int) (
              (idx u0 i1).bind fun t9 =>
              (idx t9 j0).bind fun u9 =>
              (idx (u9).b o0).bind fun t6 =>
              bif (t6 == (120 : UInt8)) then
               some ((w64 (d2 + (1 : Int))))
              else
               some (d2)
              ) fun d3 =>
             s9 (d3, (w64 (i1 + (1 : Int))))
            else
             some (d2)
            ) big ((0 : Int), (0 : Int))
           ) fun n0 =>
          bif (decide ((max64 n0 (w64 (((u0).length : Int) - n0))) < z1)) then
           some (j0, o0, (max64 n0 (w64 (((u0).length : Int) - n0))))
          else
           some (i2, j2, z1)
          ) fun (u3, z3, c4) =>
         r9 (u3, z3, c4, (w64 (o0 + (1 : Int))))
        else
         some (i2, j2, z1)
        ) big (p5, q5, t5, (0 : Int))
       ) fun (d4, i4, j4) =>
      q9 (d4, i4, j4, (w64 (j0 + (1 : Int))))
     else
      some (p5, q5, t5)
     ) big (y7, z7, (w64 (((x1).length : Int) + (1 : Int))), (0 : Int))
    ) fun (q2, s2, z2) =>
   some (q2, s2, z2, (0 : Int))
   ) fun qB =>
  bif (((x1).length : Int) == (0 : Int)) then
   some ((0 : Int), (0 : Int), (0 : Int), (7 : Int))
  else
   qB (q6, r6)
  ) fun k6 =>
 (f54 x0 x1 x2).bind fun y9 =>
 bif (y9 != (0 : Int)) then
  some ((0 : Int), (0 : Int), (0 : Int), y9)
 else
  k6 ((0 : Int), (0 : Int))
theorem en41 : Enters Try.prog 41 := enters_of Try.func41 (by kernel_rfl) rfl
theorem wk41 {gI : Gh} {wI : World} {x0 : FaultLoom} {x1 : List FaultDamage} {x2 : Int} {up0 : Value} (rp0 : RV gI.m wI x0 up0) {up1 : Value} (rp1 : RV gI.m wI x1 up1) {r : Int × Int × Int × Int} (h : f41 x0 x1 x2 = some r) : Fn Try.prog 41 #[up0, up1, .int .i64 (x2)] gI wI (fun _m _w v => ∃ y0 y1 y2 y3, v = .tuple #[y0, y1, y2, y3] ∧ y0 = .int .i64 (r.1) ∧ y1 = .int .i64 (r.2.1) ∧ y2 = .int .i64 (r.2.2.1) ∧ y3 = .int .i64 (r.2.2.2)) := by
 unfold f41 at h
 refine fn_of_E Try.func41 rfl (Nat.le_of_ble_eq_true rfl) fun g0 hm hfr => ?_
 have rp0 : RV g0.m wI x0 up0 := hm ▸ rp0
 have rp1 : RV g0.m wI x1 up1 := hm ▸ rp1
 show E _ 84 none _ _ _ _ _
 refine E_seq (E_region (EL_do .plain rfl (D_box (g := g0) rfl rp0 fun g1 w1 p1 hs q1 => ?_)))
 have hfr := hfr.ext hs
 have rp1 := rp1.ext hs
 refine EL_at (.int .i64 (0)) rfl rfl ?_
 refine EL_at (.int .i64 (0)) rfl rfl ?_
 refine EL_at (.int .i64 (0)) rfl rfl ?_
 refine EL_at (.int .i64 (0)) rfl rfl ?_
 refine EL_nil (thn_n (E_joinC h (fun (s : Int × Int) e w => ∃ (g : Gh) , Fr gI wI g w ∧ e 1 = up1 ∧ RV g.m w (x1 : List FaultDamage) up1 ∧ e 2 = .int .i64 (x2) ∧ e 3 = p1 ∧ PT g.m w (x0 : FaultLoom) p1 ∧ e 6 = .int .i64 (s.1) ∧ e 7 = .int .i64 (s.2)) (fun X6 k6 hk6 h => ?_) ?_))
 ·refine E_seq (E_region (EL_do .plain rfl (D_load (g := g1) Try.isAgg28 Try.sizeOf28 rfl q1 fun v7 r7 => ?_)))
  refine EL_mw up1 rfl rfl ?_
  refine EL_mw (.int .i64 (x2)) rfl rfl ?_
  obtain ⟨y9, mC, h⟩ := bsome h
  refine EL_do .plain rfl (D_call (g := g1) (vs := [v7, up1, .int .i64 (x2)]) en54 (.cons rfl (.cons rfl (.cons rfl .nil))) (wk54 r7 rp1 mC) fun g8 w8_ v8 hs hr => ?_)
  have hfr := hfr.ext hs
  have rp1 := rp1.ext hs
  have q1 := q1.ext hs
  subst hr
  refine EL_at (.int .i64 (y9)) rfl rfl ?_
  refine EL_nil (thn_n (E_seq (E_region (EL_mw (.int .i64 (y9)) rfl rfl ?_))))
  refine EL_in (.bool ((y9 != (0 : Int)))) rfl rfl rfl rfl ?_
  refine EL_nil (thn_n ?_)
  rcases csome h with ⟨q7, h⟩ | ⟨q7, h⟩
  ·refine E_ct q7 rfl ?_
   refine E_seq (E_region (EL_mw (.int .i64 (y9)) rfl rfl ?_))
   refine EL_at (.int .i64 (0)) rfl rfl ?_
   refine EL_at (.int .i64 (0)) rfl rfl ?_
   refine EL_at (.int .i64 (0)) rfl rfl ?_
   refine EL_at (.int .i64 (y9)) rfl rfl ?_
   refine EL_nil (thn_n (E_ret (thn_r ?_)))
   obtain rfl := sinj h
   exact end4 rfl rfl (show _ = .int .i64 (0) from rfl) (show _ = .int .i64 (0) from rfl) (show _ = .int .i64 (0) from rfl) (show _ = .int .i64 (y9) from rfl) ⟨_, hfr, _, _, _, _, rfl, rfl, rfl, rfl, rfl⟩
  ·refine E_cf q7 rfl ?_
   exact E_skip (thn_n (hk6 ((0 : Int), (0 : Int)) _ _ ⟨g8, hfr, rfl, rp1, rfl, rfl, q1, rfl, rfl⟩ h))
 ·rintro ⟨q6, r6⟩ yC pD ⟨nC, hfr, a8, b8, bB, cB, dB, eB, iB⟩ h
  refine E_joinC h (fun (s : Int × Int) e w => ∃ (g : Gh) , Fr gI wI g w ∧ e 1 = up1 ∧ RV g.m w (x1 : List FaultDamage) up1 ∧ e 2 = .int .i64 (x2) ∧ e 3 = p1 ∧ PT g.m w (x0 : FaultLoom) p1 ∧ e 6 = .int .i64 (s.1) ∧ e 7 = .int .i64 (s.2)) (fun X13 qB vB h => ?_) ?_
  ·refine E_seq (E_region (EL_mv a8 rfl ?_))
   refine EL_pur (v := .int .i64 ((x1).length : Int)) (P_len Try.underlying29 rfl b8) .plain rfl ?_
   refine EL_in (.bool ((((x1).length : Int) == (0 : Int)))) rfl rfl rfl rfl ?_
   refine EL_nil (thn_n ?_)
   rcases csome h with ⟨t7, h⟩ | ⟨t7, h⟩
   ·refine E_ct t7 rfl ?_
    refine E_seq (E_region (EL_at (.int .i64 (0)) rfl rfl ?_))
    refine EL_at (.int .i64 (0)) rfl rfl ?_
    refine EL_at (.int .i64 (0)) rfl rfl ?_
    refine EL_at (.int .i64 (7)) rfl rfl ?_
    refine EL_nil (thn_n (E_ret (thn_r ?_)))
    obtain rfl := sinj h
    exact end4 rfl rfl (show _ = .int .i64 (0) from rfl) (show _ = .int .i64 (0) from rfl) (show _ = .int .i64 (0) from rfl) (show _ = .int .i64 (7) from rfl) ⟨_, hfr, _, _, _, _, rfl, rfl, rfl, rfl, rfl⟩
   ·refine E_cf t7 rfl ?_
    exact E_skip (thn_n (vB (q6, r6) _ _ ⟨nC, hfr, a8, b8, bB, cB, dB, eB, iB⟩ h))
  ·rintro ⟨y7, z7⟩ zC qD ⟨v9, hfr, c8, o5, jB, u6, i3, kB, lB⟩ h
   refine E_seq (E_region (EL_do .plain rfl (D_load (g := v9) Try.isAgg28 Try.sizeOf28 u6 i3 fun x9 rB => ?_)))
   have sB : RV v9.m _ (⟨x0⟩ : FaultFaultLoom) (.agg (setCh [[.int .i64 0, .slice none 0 0, .int .i64 0, .slice none 0 0]] [(0, x9)]).flatten.toArray) := RV_build rfl (rep_last (RV.cells rB))
   generalize xB : (Value.agg (setCh [[.int .i64 0, .slice none 0 0, .int .i64 0, .slice none 0 0]] [(0, x9)]).flatten.toArray) = tB at sB
   refine EL_pur (v := tB) (xB ▸ P_build (vs := [(0, x9)]) [[.int .i64 0, .slice none 0 0, .int .i64 0, .slice none 0 0]] lay_98 rfl rfl (.cons rfl .nil) ⟨⟨_, rfl, cells_size rB⟩, trivial⟩) .plain rfl ?_
   refine EL_mv c8 rfl ?_
   obtain ⟨u0, yB, h⟩ := bsome h
   refine EL_do .plain rfl (D_call (g := v9) (vs := [tB, up1]) en68 (.cons rfl (.cons rfl .nil)) (wk68 sB o5 yB) fun uB aD j1 hs hr => ?_)
   have hfr := hfr.ext hs
   have o5 := o5.ext hs
   have i3 := i3.ext hs
   have oC := hr
   refine EL_at j1 rfl rfl ?_
   refine EL_nil (thn_n (E_seq (E_region (EL_mv c8 rfl ?_))))
   refine EL_pur (v := .int .i64 ((x1).length : Int)) (P_len Try.underlying29 rfl o5) .plain rfl ?_
   refine EL_in (.int .i64 ((w64 (((x1).length : Int) + (1 : Int))))) rfl rfl rfl rfl ?_
   refine EL_at (.int .i64 ((w64 (((x1).length : Int) + (1 : Int))))) rfl rfl ?_
   refine EL_nil (thn_n ?_)
   obtain ⟨⟨q2, s2, z2⟩, hx, h⟩ := bsome h
   refine E_join (fun e w => ∃ (g : Gh) , Fr gI wI g w ∧ e 6 = .int .i64 (q2) ∧ e 7 = .int .i64 (s2) ∧ e 8 = .int .i64 (z2)) (fun Q' hQ => ?_) (fun pC bD hR => ?_)
   ·replace h := hx
    clear hx
    refine E_seq (E_region (EL_mv jB rfl ?_))
    refine EL_pur (v := fPtr p1 2) (P_fieldAddr at_28_1 u6 (PT.ptr i3)) .plain rfl ?_
    have z9 := PT_field (part_FaultLoom_1).1 i3
    refine EL_pur (v := fPtr (fPtr p1 2) 1) (P_fieldAddr at_26_1 rfl (PT.ptr z9)) .plain rfl ?_
    have zB := PT_field (part_Design_1).1 z9
    refine EL_do .plain rfl (D_load (g := uB) Try.isAgg22 Try.sizeOf22 rfl zB fun cD aC => ?_)
    refine EL_pur (v := .int .i64 ((((x0).Design).Rows).length : Int)) (P_len Try.underlying22 rfl aC) .plain rfl ?_
    refine EL_pur (v := .int .i64 (min64 x2 ((((x0).Design).Rows).length : Int))) (P_min rfl rfl) .plain rfl ?_
    refine EL_mw (.int .i64 (0)) rfl rfl ?_
    refine EL_nil (thn_n (E_block ?_))
    refine E_lp h (fun (s : Int × Int × Int × Int) e w => ∃ (g : Gh) , Fr gI wI g w ∧ e 3 = p1 ∧ PT g.m w (x0 : FaultLoom) p1 ∧ e 6 = .int .i64 (s.1) ∧ e 7 = .int .i64 (s.2.1) ∧ e 8 = .int .i64 (s.2.2.1) ∧ e 11 = j1 ∧ RV g.m w (u0 : List (List Str)) j1 ∧ e 40 = .int .i64 ((min64 x2 ((((x0).Design).Rows).length : Int))) ∧ e 41 = .int .i64 (s.2.2.2)) ⟨uB, hfr, u6, i3, kB, lB, rfl, rfl, oC, rfl, rfl⟩ (fun X212 q9 mB => ?_)
    rintro ⟨p5, q5, t5, j0⟩ qC dD ⟨u7, hfr, b7, u5, c7, d7, e7, i8, j8, d6, m4⟩ h
    refine E_seq (E_region (EL_pur (v := .bool ((decide (j0 < (min64 x2 ((((x0).Design).Rows).length : Int)))))) (P_int m4 d6 rfl) .plain rfl ?_))
    refine EL_nil (thn_n (E_seq ?_))
    rcases csome h with ⟨v6, h⟩ | ⟨v6, h⟩
    ·refine E_ct v6 rfl ?_
     refine E_skip (thn_n ?_)
     obtain ⟨⟨d4, i4, j4⟩, hx, h⟩ := bsome h
     refine E_join (fun e w => ∃ (g : Gh) , Fr gI wI g w ∧ e 3 = p1 ∧ PT g.m w (x0 : FaultLoom) p1 ∧ e 6 = .int .i64 (d4) ∧ e 7 = .int .i64 (i4) ∧ e 8 = .int .i64 (j4) ∧ e 11 = j1 ∧ RV g.m w (u0 : List (List Str)) j1 ∧ e 40 = .int .i64 ((min64 x2 ((((x0).Design).Rows).length : Int))) ∧ e 41 = .int .i64 (j0)) (fun Q' hQ => ?_) (fun rC eD hR => ?_)
     ·replace h := hx
      clear hx
      refine E_block ?_
      refine E_seq (E_region (EL_mv m4 rfl ?_))
      refine EL_at (.int .i64 (j0)) rfl rfl ?_
      refine EL_nil (thn_n (E_seq (E_region (EL_pur (v := fPtr p1 0) (P_fieldAddr at_28_0 b7 (PT.ptr u5)) .plain rfl ?_))))
      have aA := PT_field (part_FaultLoom_0).1 u5
      refine EL_pur (v := fPtr (fPtr p1 0) 1) (P_fieldAddr at_24_1 rfl (PT.ptr aA)) .plain rfl ?_
      have bC := PT_field (part_TieHarness_1).1 aA
      refine EL_do .plain rfl (D_load (g := u7) Try.isAgg22 Try.sizeOf22 rfl bC fun gD cC => ?_)
      refine EL_pur (v := .int .i64 ((((x0).Harness).Warps).length : Int)) (P_len Try.underlying22 rfl cC) .plain rfl ?_
      refine EL_mw (.int .i64 (0)) rfl rfl ?_
      refine EL_nil (thn_n (E_block ?_))
      refine E_lp h (fun (s : Int × Int × Int × Int) e w => ∃ (g : Gh) , Fr gI wI g w ∧ e 3 = p1 ∧ PT g.m w (x0 : FaultLoom) p1 ∧ e 6 = .int .i64 (s.1) ∧ e 7 = .int .i64 (s.2.1) ∧ e 8 = .int .i64 (s.2.2.1) ∧ e 11 = j1 ∧ RV g.m w (u0 : List (List Str)) j1 ∧ e 12 = .int .i64 (j0) ∧ e 40 = .int .i64 ((min64 x2 ((((x0).Design).Rows).length : Int))) ∧ e 41 = .int .i64 (j0) ∧ e 47 = .int .i64 (((((x0).Harness).Warps).length : Int)) ∧ e 48 = .int .i64 (s.2.2.2)) ⟨u7, hfr, b7, u5, c7, d7, e7, i8, j8, rfl, d6, m4, rfl, rfl⟩ (fun X309 r9 nB => ?_)
      rintro ⟨i2, j2, z1, o0⟩ sC iD ⟨bA, hfr, g7, i7, j7, l7, m7, n4, j3, k8, e6, i6, j6, o4⟩ h
      refine E_seq (E_region (EL_pur (v := .bool ((decide (o0 < ((((x0).Harness).Warps).length : Int))))) (P_int o4 j6 rfl) .plain rfl ?_))
      refine EL_nil (thn_n (E_seq ?_))
      rcases csome h with ⟨x6, h⟩ | ⟨x6, h⟩
      ·refine E_ct x6 rfl ?_
       refine E_skip (thn_n ?_)
       obtain ⟨⟨u3, z3, c4⟩, hx, h⟩ := bsome h
       refine E_join (fun e w => ∃ (g : Gh) , Fr gI wI g w ∧ e 3 = p1 ∧ PT g.m w (x0 : FaultLoom) p1 ∧ e 6 = .int .i64 (u3) ∧ e 7 = .int .i64 (z3) ∧ e 8 = .int .i64 (c4) ∧ e 11 = j1 ∧ RV g.m w (u0 : List (List Str)) j1 ∧ e 12 = .int .i64 (j0) ∧ e 40 = .int .i64 ((min64 x2 ((((x0).Design).Rows).length : Int))) ∧ e 41 = .int .i64 (j0) ∧ e 47 = .int .i64 (((((x0).Harness).Warps).length : Int)) ∧ e 48 = .int .i64 (o0)) (fun Q' hQ => ?_) (fun tC jD hR => ?_)
       ·replace h := hx
        clear hx
        refine E_block ?_
        refine E_seq (E_region (EL_mv o4 rfl ?_))
        refine EL_at (.int .i64 (o0)) rfl rfl ?_
        refine EL_nil (thn_n (E_seq (E_region (EL_at (.int .i64 (0)) rfl rfl ?_))))
        refine EL_nil (thn_n ?_)
        obtain ⟨n0, hx, h⟩ := bsome h
        refine E_join (fun e w => ∃ (g : Gh) , Fr gI wI g w ∧ e 3 = p1 ∧ PT g.m w (x0 : FaultLoom) p1 ∧ e 6 = .int .i64 (i2) ∧ e 7 = .int .i64 (j2) ∧ e 8 = .int .i64 (z1) ∧ e 11 = j1 ∧ RV g.m w (u0 : List (List Str)) j1 ∧ e 12 = .int .i64 (j0) ∧ e 13 = .int .i64 (o0) ∧ e 14 = .int .i64 (n0) ∧ e 40 = .int .i64 ((min64 x2 ((((x0).Design).Rows).length : Int))) ∧ e 41 = .int .i64 (j0) ∧ e 47 = .int .i64 (((((x0).Harness).Warps).length : Int)) ∧ e 48 = .int .i64 (o0)) (fun Q' hQ => ?_) (fun uC kD hR => ?_)
        ·replace h := hx
         clear hx
         refine E_seq (E_region (EL_mv n4 rfl ?_))
         refine EL_pur (v := .int .i64 ((u0).length : Int)) (P_len Try.underlying78 rfl j3) .plain rfl ?_
         refine EL_mw (.int .i64 (0)) rfl rfl ?_
         refine EL_nil (thn_n (E_block ?_))
         refine E_lp h (fun (s : Int × Int) e w => ∃ (g : Gh) , Fr gI wI g w ∧ e 3 = p1 ∧ PT g.m w (x0 : FaultLoom) p1 ∧ e 6 = .int .i64 (i2) ∧ e 7 = .int .i64 (j2) ∧ e 8 = .int .i64 (z1) ∧ e 11 = j1 ∧ RV g.m w (u0 : List (List Str)) j1 ∧ e 12 = .int .i64 (j0) ∧ e 13 = .int .i64 (o0) ∧ e 14 = .int .i64 (s.1) ∧ e 40 = .int .i64 ((min64 x2 ((((x0).Design).Rows).length : Int))) ∧ e 41 = .int .i64 (j0) ∧ e 47 = .int .i64 (((((x0).Harness).Warps).length : Int)) ∧ e 48 = .int .i64 (o0) ∧ e 51 = j1 ∧ RV g.m w (u0 : List (List Str)) j1 ∧ e 52 = .int .i64 (((u0).length : Int)) ∧ e 53 = .int .i64 (s.2)) ⟨bA, hfr, g7, i7, j7, l7, m7, n4, j3, k8, rfl, rfl, e6, i6, j6, o4, rfl, j3, rfl, rfl⟩ (fun X374 s9 oB => ?_)
         rintro ⟨d2, i1⟩ vC lD ⟨x5, hfr, y5, z5, a6, b6, c6, p4, q4, o3, p3, u4, x4, z4, c5, d5, i5, q3, j5, s3⟩ h
         refine E_seq (E_region (EL_in (.bool ((decide (i1 < ((u0).length : Int))))) s3 j5 rfl rfl ?_))
         refine EL_nil (thn_n (E_seq ?_))
         rcases csome h with ⟨y6, h⟩ | ⟨y6, h⟩
         ·refine E_ct y6 rfl ?_
          refine E_skip (thn_n ?_)
          obtain ⟨d3, hx, h⟩ := bsome h
          refine E_join (fun e w => ∃ (g : Gh) , Fr gI wI g w ∧ e 3 = p1 ∧ PT g.m w (x0 : FaultLoom) p1 ∧ e 6 = .int .i64 (i2) ∧ e 7 = .int .i64 (j2) ∧ e 8 = .int .i64 (z1) ∧ e 11 = j1 ∧ RV g.m w (u0 : List (List Str)) j1 ∧ e 12 = .int .i64 (j0) ∧ e 13 = .int .i64 (o0) ∧ e 14 = .int .i64 (d3) ∧ e 40 = .int .i64 ((min64 x2 ((((x0).Design).Rows).length : Int))) ∧ e 41 = .int .i64 (j0) ∧ e 47 = .int .i64 (((((x0).Harness).Warps).length : Int)) ∧ e 48 = .int .i64 (o0) ∧ e 51 = j1 ∧ RV g.m w (u0 : List (List Str)) j1 ∧ e 52 = .int .i64 (((u0).length : Int)) ∧ e 53 = .int .i64 (i1)) (fun Q' hQ => ?_) (fun xC mD hR => ?_)
          ·replace h := hx
           clear hx
           refine E_block ?_
           refine E_seq (E_region ?_)
           obtain ⟨t9, d8, h⟩ := bsome h
           refine EL_pur (v := ePtr j1 i1 1) (P_indexAddr (α := List Str) Try.underlying78 Try.sizeOf36 i5 q3 s3 d8) .plain rfl ?_
           have dC := PT_idx q3 d8
           refine EL_do .plain rfl (D_load (g := x5) Try.isAgg36 Try.sizeOf36 rfl dC fun x7 cA => ?_)
           refine EL_at x7 rfl rfl ?_
           refine EL_nil (thn_n (E_seq (E_region (EL_mw x7 rfl rfl ?_))))
           refine EL_mv o3 rfl ?_
           obtain ⟨u9, e8, h⟩ := bsome h
           refine EL_pur (v := ePtr x7 j0 1) (P_indexAddr (α := Str) Try.underlying36 Try.sizeOf9 rfl cA rfl e8) .plain rfl ?_
           have eC := PT_idx cA e8
           refine EL_do .plain rfl (D_load (g := x5) Try.isAgg9 Try.sizeOf9 rfl eC fun nD iC => ?_)
           obtain rfl := RV_str.1 iC
           refine EL_mv p3 rfl ?_
           obtain ⟨t6, pB, h⟩ := bsome h
           refine EL_pur (v := .int .u8 (UInt8.toNat (t6))) (P_indexS Try.underlying9 rfl rfl pB) .plain rfl ?_
           refine EL_pur (v := .bool ((t6 == (120 : UInt8)))) (P_u8 rfl rfl rfl) .plain rfl ?_
           refine EL_nil (thn_n ?_)
           rcases csome h with ⟨z6, h⟩ | ⟨z6, h⟩
           ·refine E_ct z6 rfl ?_
            refine E_region (EL_mv u4 rfl ?_)
            refine EL_in (.int .i64 ((w64 (d2 + (1 : Int))))) rfl rfl rfl rfl ?_
            refine EL_at (.int .i64 ((w64 (d2 + (1 : Int))))) rfl rfl ?_
            refine EL_nil (blk_n ?_)
            obtain rfl := sinj h
            exact hQ _ _ ⟨x5, hfr, y5, z5, a6, b6, c6, p4, q4, o3, p3, rfl, x4, z4, c5, d5, i5, q3, j5, s3⟩
           ·refine E_cf z6 rfl ?_
            refine E_skip (blk_n ?_)
            obtain rfl := sinj h
            exact hQ _ _ ⟨x5, hfr, y5, z5, a6, b6, c6, p4, q4, o3, p3, u4, x4, z4, c5, d5, i5, q3, j5, s3⟩
          ·clear hx
           obtain ⟨jC, hfr, dA, eA, gA, iA, jA, l8, m8, n8, o8, p8, q8, r8, t8, x8, y8, z8, a9, b9⟩ := hR
           refine E_region (EL_in (.int .i64 ((w64 (i1 + (1 : Int))))) b9 rfl rfl rfl ?_)
           refine EL_mw (.int .i64 ((w64 (i1 + (1 : Int))))) rfl rfl ?_
           exact EL_nil (thn_n (oB (d3, (w64 (i1 + (1 : Int)))) _ _ ⟨jC, hfr, dA, eA, gA, iA, jA, l8, m8, n8, o8, p8, q8, r8, t8, x8, y8, z8, a9, rfl⟩ h))
         ·refine E_cf y6 rfl ?_
          refine E_exit ?_
          refine thn_e ?_
          refine thn_e ?_
          refine blk_hit ?_
          obtain rfl := sinj h
          exact hQ _ _ ⟨x5, hfr, y5, z5, a6, b6, c6, p4, q4, o3, p3, u4, x4, z4, c5, d5⟩
        ·clear hx
         obtain ⟨kA, hfr, n7, o7, lA, mA, p7, l5, m5, n5, c9, l6, m6, n6, o6, p6⟩ := hR
         refine E_seq (E_region (EL_mv l6 rfl ?_))
         refine EL_mv l5 rfl ?_
         refine EL_pur (v := .int .i64 ((u0).length : Int)) (P_len Try.underlying78 rfl m5) .plain rfl ?_
         refine EL_mv l6 rfl ?_
         refine EL_in (.int .i64 ((w64 (((u0).length : Int) - n0)))) rfl rfl rfl rfl ?_
         refine EL_pur (v := .int .i64 (max64 n0 (w64 (((u0).length : Int) - n0)))) (P_max rfl rfl) .plain rfl ?_
         refine EL_at (.int .i64 (max64 n0 (w64 (((u0).length : Int) - n0)))) rfl rfl ?_
         refine EL_nil (thn_n (E_seq (E_region (EL_mw (.int .i64 (max64 n0 (w64 (((u0).length : Int) - n0)))) rfl rfl ?_))))
         refine EL_mv p7 rfl ?_
         refine EL_pur (v := .bool ((decide ((max64 n0 (w64 (((u0).length : Int) - n0))) < z1)))) (P_int rfl rfl rfl) .plain rfl ?_
         refine EL_nil (thn_n ?_)
         rcases csome h with ⟨a7, h⟩ | ⟨a7, h⟩
         ·refine E_ct a7 rfl ?_
          refine E_region (EL_mv n5 rfl ?_)
          refine EL_mv c9 rfl ?_
          refine EL_mw (.int .i64 (max64 n0 (w64 (((u0).length : Int) - n0)))) rfl rfl ?_
          refine EL_at (.int .i64 (j0)) rfl rfl ?_
          refine EL_at (.int .i64 (o0)) rfl rfl ?_
          refine EL_at (.int .i64 (max64 n0 (w64 (((u0).length : Int) - n0)))) rfl rfl ?_
          refine EL_nil (blk_n ?_)
          obtain ⟨rfl, rfl, rfl⟩ := pairs3 h
          exact hQ _ _ ⟨kA, hfr, n7, o7, rfl, rfl, rfl, l5, m5, n5, m6, n6, o6, p6⟩
         ·refine E_cf a7 rfl ?_
          refine E_skip (blk_n ?_)
          obtain ⟨rfl, rfl, rfl⟩ := pairs3 h
          exact hQ _ _ ⟨kA, hfr, n7, o7, lA, mA, p7, l5, m5, n5, m6, n6, o6, p6⟩
       ·clear hx
        obtain ⟨kC, hfr, nA, oA, pA, qA, rA, d9, e9, g9, i9, j9, k9, l9⟩ := hR
        refine E_region (EL_in (.int .i64 ((w64 (o0 + (1 : Int))))) l9 rfl rfl rfl ?_)
        refine EL_mw (.int .i64 ((w64 (o0 + (1 : Int))))) rfl rfl ?_
        exact EL_nil (thn_n (nB (u3, z3, c4, (w64 (o0 + (1 : Int)))) _ _ ⟨kC, hfr, nA, oA, pA, qA, rA, d9, e9, g9, i9, j9, k9, rfl⟩ h))
      ·refine E_cf x6 rfl ?_
       refine E_exit ?_
       refine thn_e ?_
       refine thn_e ?_
       refine blk_hit ?_
       refine blk_n ?_
       obtain ⟨rfl, rfl, rfl⟩ := pairs3 h
       exact hQ _ _ ⟨bA, hfr, g7, i7, j7, l7, m7, n4, j3, e6, i6⟩
     ·clear hx
      obtain ⟨lC, hfr, sA, tA, uA, vA, xA, m9, n9, o9, p9⟩ := hR
      refine E_region (EL_in (.int .i64 ((w64 (j0 + (1 : Int))))) p9 rfl rfl rfl ?_)
      refine EL_mw (.int .i64 ((w64 (j0 + (1 : Int))))) rfl rfl ?_
      exact EL_nil (thn_n (mB (d4, i4, j4, (w64 (j0 + (1 : Int)))) _ _ ⟨lC, hfr, sA, tA, uA, vA, xA, m9, n9, o9, rfl⟩ h))
    ·refine E_cf v6 rfl ?_
     refine E_exit ?_
     refine thn_e ?_
     refine thn_e ?_
     refine blk_hit ?_
     obtain ⟨rfl, rfl, rfl⟩ := pairs3 h
     exact hQ _ _ ⟨u7, hfr, c7, d7, e7⟩
   ·clear hx
    obtain ⟨oD, hfr, yA, zA, aB⟩ := hR
    refine E_seq (E_region (EL_mv yA rfl ?_))
    refine EL_mv zA rfl ?_
    refine EL_mv aB rfl ?_
    refine EL_at (.int .i64 (q2)) rfl rfl ?_
    refine EL_at (.int .i64 (s2)) rfl rfl ?_
    refine EL_at (.int .i64 (z2)) rfl rfl ?_
    refine EL_at (.int .i64 (0)) rfl rfl ?_
    refine EL_nil (thn_n (E_ret ?_))
    obtain rfl := sinj h
    exact end4 rfl rfl (show _ = .int .i64 (q2) from rfl) (show _ = .int .i64 (s2) from rfl) (show _ = .int .i64 (z2) from rfl) (show _ = .int .i64 (0) from rfl) ⟨_, hfr, _, _, _, _, rfl, rfl, rfl, rfl, rfl⟩
/-- griffe/griffelaw05.known -/
def f15  : Option (Bool) :=
 (f49).bind fun y11 =>
 (f19 y11 (([(⟨(3 : Int), 0, 0, 0, false⟩ : FaultDamage)] : List FaultDamage)) ((3 : Int))).bind fun j3 =>
 (f49).bind fun z9 =>
 (f20 z9 (([(⟨(1 : Int), 0, (2 : Int), 0, false⟩ : FaultDamage)] : List FaultDamage)) ((2 : Int))).bind fun p3 =>
 (f49).bind fun y23 =>
 (f32 y23 (([(⟨(1 : Int), (4 : Int), false⟩ : FaultSight)] : List FaultSight))).bind fun i1 =>
 (f49).bind fun q6 =>
 (f37 q6 ((⟨(1 : Int), (1 : Int), (2 : Int), 0, false⟩ : FaultDamage)) ((⟨(5 : Int), 0, 0, (4 : Int), false⟩ : FaultDamage))).bind fun u0 =>
 (f49).bind fun r6 =>
 (f37 r6 ((⟨(1 : Int), (1 : Int), (2 : Int), 0, false⟩ : FaultDamage)) ((⟨(2 : Int), 0, (2 : Int), 0, false⟩ : FaultDamage))).bind fun d3 =>
 jn (σ := Unit) (fun (_ : Unit) =>
  (f49).bind fun n7 =>
  (f38 n7 (i1.1)).bind fun z2 =>
  (f49).bind fun o7 =>
  (f39 o7 (i1.1)).bind fun i3 =>
  (f49).bind fun p7 =>
  (f41 p7 (i1.1) ((2 : Int))).bind fun j0 =>
  Option.bind (α := Bool) (
   bif (z2.2 == (0 : Int)) then
    bif (i3.2 == (0 : Int)) then
     bif (j0.2.2.2 == (0 : Int)) then
      (idx (j3.1) (0 : Int)).bind fun u4 =>
      bif ((u4).b == ((⟨[46, 46, 46, 120, 46, 46]⟩ : Str)).b) then
       (idx (j3.1) (1 : Int)).bind fun x4 =>
       bif ((x4).b == ((⟨[46, 120, 120, 46, 120, 120]⟩ : Str)).b) then
        (idx (j3.1) (2 : Int)).bind fun z4 =>
        (idx (j3.1) (0 : Int)).bind fun c5 =>
        bif ((z4).b == (c5).b) then
         (idx (p3.1) (1 : Int)).bind fun q5 =>
         bif (decide (q5 = (⟨0, (4 : Int), true⟩ : FaultSight))) then
          bif (!i1.2.1) then
           (idx (i1.1) (0 : Int)).bind fun t5 =>
           bif (decide (t5 = (⟨(1 : Int), (1 : Int), (2 : Int), 0, false⟩ : FaultDamage))) then
            (idx (i1.1) (1 : Int)).bind fun u5 =>
            bif (decide (u5 = (⟨(2 : Int), 0, (2 : Int), 0, false⟩ : FaultDamage))) then
             (idx (i1.1) (4 : Int)).bind fun x5 =>
             bif (decide (x5 = (⟨(5 : Int), 0, 0, (4 : Int), false⟩ : FaultDamage))) then
              bif (u0.1 == (1 : Int)) then
               bif (u0.2.1 == (2 : Int)) then
                bif (z2.1 == (2 : Int)) then
                 bif (((i3.1).length : Int) == (3 : Int)) then
                  bif (j0.1 == (0 : Int)) then
                   bif (j0.2.1 == (0 : Int)) then
                    some ((j0.2.2.1 == (3 : Int)))
                   else
                    none
                  else
                   none
                 else
                  none
                else
                 none
               else
                none
              else
               none
             else
              none
            else
             none
           else
            none
          else
           none
         else
          none
        else
         none
       else
        none
      else
       none
     else
      none
    else
     none
   else
    none
   ) fun d5 =>
  some (d5)
  ) fun q7 =>
 Option.bind (α := Bool) (
  bif (j3.2 != (0 : Int)) then
   none
  else
   bif (p3.2 != (0 : Int)) then
    none
   else
    bif (i1.2.2 != (0 : Int)) then
     none
    else
     bif (u0.2.2 != (0 : Int)) then
      none
     else
      bif (d3.2.2 != (7 : Int)) then
       none
      else
       bif (((j3.1).length : Int) != (3 : Int)) then
        none
       else
        bif (((p3.1).length : Int) != (2 : Int)) then
         none
        else
         some ((((i1.1).length : Int) != (5 : Int)))
  ) fun u3 =>
 bif u3 then
  some (false)
 else
  q7 ()
theorem en15 : Enters Try.prog 15 := enters_of Try.func15 (by kernel_rfl) rfl
theorem wk15 {gI : Gh} {wI : World}   {r : Bool} (h : f15  = some r) : Fn Try.prog 15 #[] gI wI (fun _ _ v => v = .bool (r)) := by
 unfold f15 at h
 refine fn_of_E Try.func15 rfl (Nat.le_of_ble_eq_true rfl) fun g0 hm hfr => ?_
 show E _ 211 none _ _ _ _ _
 refine E_seq (E_region (EL_at (.bool false) rfl rfl ?_))
 refine EL_nil (thn_n (E_seq (E_region ?_)))
 have r1 : RV g0.m wI (⟨(1 : Int), (1 : Int), (2 : Int), 0, false⟩ : FaultDamage) (.agg (setCh [[.int .i64 0], [.int .i64 0], [.int .i64 0], [.int .i64 0], [.bool false]] [(0, .int .i64 (1)), (1, .int .i64 (1)), (2, .int .i64 (2))]).flatten.toArray) := RV_build rfl (rep_pair (rfl) (rep_pair (rfl) (rep_pair (rfl) (rep_pair (rep_int) (rep_last (rep_bool))))))
 generalize hv1 : (Value.agg (setCh [[.int .i64 0], [.int .i64 0], [.int .i64 0], [.int .i64 0], [.bool false]] [(0, .int .i64 (1)), (1, .int .i64 (1)), (2, .int .i64 (2))]).flatten.toArray) = v1 at r1
 refine EL_pur (v := v1) (hv1 ▸ P_build (vs := [(0, .int .i64 (1)), (1, .int .i64 (1)), (2, .int .i64 (2))]) [[.int .i64 0], [.int .i64 0], [.int .i64 0], [.int .i64 0], [.bool false]] lay_62 rfl rfl (.cons rfl (.cons rfl (.cons rfl .nil))) ⟨⟨_, rfl, rfl⟩, ⟨⟨_, rfl, rfl⟩, ⟨⟨_, rfl, rfl⟩, trivial⟩⟩⟩) .plain rfl ?_
 have r2 : RV g0.m wI (⟨(5 : Int), 0, 0, (4 : Int), false⟩ : FaultDamage) (.agg (setCh [[.int .i64 0], [.int .i64 0], [.int .i64 0], [.int .i64 0], [.bool false]] [(0, .int .i64 (5)), (3, .int .i64 (4))]).flatten.toArray) := RV_build rfl (rep_pair (rfl) (rep_pair (rep_int) (rep_pair (rep_int) (rep_pair (rfl) (rep_last (rep_bool))))))
 generalize hv2 : (Value.agg (setCh [[.int .i64 0], [.int .i64 0], [.int .i64 0], [.int .i64 0], [.bool false]] [(0, .int .i64 (5)), (3, .int .i64 (4))]).flatten.toArray) = v2 at r2
 refine EL_pur (v := v2) (hv2 ▸ P_build (vs := [(0, .int .i64 (5)), (3, .int .i64 (4))]) [[.int .i64 0], [.int .i64 0], [.int .i64 0], [.int .i64 0], [.bool false]] lay_62 rfl rfl (.cons rfl (.cons rfl .nil)) ⟨⟨_, rfl, rfl⟩, ⟨⟨_, rfl, rfl⟩, trivial⟩⟩) .plain rfl ?_
 have r3 : RV g0.m wI (⟨(2 : Int), 0, (2 : Int), 0, false⟩ : FaultDamage) (.agg (setCh [[.int .i64 0], [.int .i64 0], [.int .i64 0], [.int .i64 0], [.bool false]] [(0, .int .i64 (2)), (2, .int .i64 (2))]).flatten.toArray) := RV_build rfl (rep_pair (rfl) (rep_pair (rep_int) (rep_pair (rfl) (rep_pair (rep_int) (rep_last (rep_bool))))))
 generalize hv3 : (Value.agg (setCh [[.int .i64 0], [.int .i64 0], [.int .i64 0], [.int .i64 0], [.bool false]] [(0, .int .i64 (2)), (2, .int .i64 (2))]).flatten.toArray) = v3 at r3
 refine EL_pur (v := v3) (hv3 ▸ P_build (vs := [(0, .int .i64 (2)), (2, .int .i64 (2))]) [[.int .i64 0], [.int .i64 0], [.int .i64 0], [.int .i64 0], [.bool false]] lay_62 rfl rfl (.cons rfl (.cons rfl .nil)) ⟨⟨_, rfl, rfl⟩, ⟨⟨_, rfl, rfl⟩, trivial⟩⟩) .plain rfl ?_
 refine EL_do .plain rfl (D_allocOc (g := g0) 2001 (⟨0, 0, 0, 0, false⟩ : FaultDamage) Try.zeroValue62 (fun m w => ⟨_, (rep_two rep_int (rep_two rep_int (rep_two rep_int (rep_two rep_int rep_bool)))), rfl⟩) fun g4 w4 p4 hs b4 cb => ?_)
 have hfr := hfr.stp hs
 have r1 := r1.stp hs
 have r2 := r2.stp hs
 have r3 := r3.stp hs
 clear cb
 refine EL_do .plain rfl (D_allocOc (g := g4) 2002 (⟨0, 0, 0, 0, false⟩ : FaultDamage) Try.zeroValue62 (fun m w => ⟨_, (rep_two rep_int (rep_two rep_int (rep_two rep_int (rep_two rep_int rep_bool)))), rfl⟩) fun g5 w5 p5 hs b5 cb => ?_)
 have hfr := hfr.stp hs
 have r1 := r1.stp hs
 have r2 := r2.stp hs
 have r3 := r3.stp hs
 have b4 := b4.stp hs rfl
 clear cb
 refine EL_do .plain rfl (D_allocOc (g := g5) 2003 (⟨0, 0, 0, 0, false⟩ : FaultDamage) Try.zeroValue62 (fun m w => ⟨_, (rep_two rep_int (rep_two rep_int (rep_two rep_int (rep_two rep_int rep_bool)))), rfl⟩) fun g6 w6 p6 hs b6 cb => ?_)
 have hfr := hfr.stp hs
 have r1 := r1.stp hs
 have r2 := r2.stp hs
 have r3 := r3.stp hs
 have b4 := b4.stp hs rfl
 have b5 := b5.stp hs rfl
 clear cb
 refine EL_do .plain rfl (D_storeOc (g := g6) (v := v1) Try.sizeOf62 rfl b4 rfl r1 fun g7 w7 hs b7 cb => ?_)
 clear cb
 have hfr := hfr.stp hs
 have r2 := r2.stp hs
 have r3 := r3.stp hs
 have b5 := b5.stp hs rfl
 have b6 := b6.stp hs rfl
 refine EL_do .plain rfl (D_storeOc (g := g7) (v := v2) Try.sizeOf62 rfl b5 rfl r2 fun g8 w8 hs b8 cb => ?_)
 clear cb
 have hfr := hfr.stp hs
 have r3 := r3.stp hs
 have b7 := b7.stp hs rfl
 have b6 := b6.stp hs rfl
 refine EL_do .plain rfl (D_storeOc (g := g8) (v := v3) Try.sizeOf62 rfl b6 rfl r3 fun g9 w9 hs b9 cb => ?_)
 clear cb
 have hfr := hfr.stp hs
 have b7 := b7.stp hs rfl
 have b8 := b8.stp hs rfl
 refine EL_nil (thn_n (E_seq (E_region ?_)))
 obtain ⟨y11, pA, h⟩ := bsome h
 refine EL_do .plain rfl (D_call (g := g9) (vs := []) en49 .nil (wk49  pA) fun aA qA jD hs hr => ?_)
 have hfr := hfr.ext hs
 have b7 := b7.ext hs
 have b8 := b8.ext hs
 have b9 := b9.ext hs
 have r7 := hr
 have bA : RV aA.m qA (⟨(3 : Int), 0, 0, 0, false⟩ : FaultDamage) (.agg (setCh [[.int .i64 0], [.int .i64 0], [.int .i64 0], [.int .i64 0], [.bool false]] [(0, .int .i64 (3))]).flatten.toArray) := RV_build rfl (rep_pair (rfl) (rep_pair (rep_int) (rep_pair (rep_int) (rep_pair (rep_int) (rep_last (rep_bool))))))
 generalize rA : (Value.agg (setCh [[.int .i64 0], [.int .i64 0], [.int .i64 0], [.int .i64 0], [.bool false]] [(0, .int .i64 (3))]).flatten.toArray) = cA at bA
 refine EL_pur (v := cA) (rA ▸ P_build (vs := [(0, .int .i64 (3))]) [[.int .i64 0], [.int .i64 0], [.int .i64 0], [.int .i64 0], [.bool false]] lay_62 rfl rfl (.cons rfl .nil) ⟨⟨_, rfl, rfl⟩, trivial⟩) .plain rfl ?_
 refine EL_do .plain rfl (D_buildSlice (g := aA) 3031 (xs := ([(⟨(3 : Int), 0, 0, 0, false⟩ : FaultDamage)] : List FaultDamage)) (vs := [cA]) Try.underlying29 Try.sizeOf62 Try.zeroValue62 rfl rfl (.cons rfl .nil) (RVs.cons bA RVs.nil) rfl rfl fun kD tF lD hs o13 mD hxt hfl => ?_)
 have hfr := hfr.stp hs
 have b7 := b7.stp hs rfl
 have b8 := b8.stp hs rfl
 have b9 := b9.stp hs rfl
 have r7 := r7.stp hs
 obtain ⟨j3, sA, h⟩ := bsome h
 refine EL_do .plain rfl (D_call (g := kD) (vs := [jD, lD, .int .i64 (3)]) en19 (.cons rfl (.cons rfl (.cons rfl .nil))) (wk19 r7 mD sA) fun nD bF uF hs hr => ?_)
 have hfr := hfr.ext hs
 have b7 := b7.ext hs
 have b8 := b8.ext hs
 have b9 := b9.ext hs
 obtain ⟨i2, oE, rfl, j1, rfl⟩ := hr
 refine EL_mw (.tuple #[i2, .int .i64 (j3.2)]) rfl rfl ?_
 refine EL_pur (v := i2) (P_extract rfl rfl) .plain rfl ?_
 refine EL_pur (v := .int .i64 (j3.2)) (P_extract rfl rfl) .plain rfl ?_
 refine EL_at i2 rfl rfl ?_
 refine EL_at (.int .i64 (j3.2)) rfl rfl ?_
 refine EL_nil (thn_n (E_seq (E_region ?_)))
 obtain ⟨z9, tA, h⟩ := bsome h
 refine EL_do .plain rfl (D_call (g := nD) (vs := []) en49 .nil (wk49  tA) fun dA uA oD hs hr => ?_)
 have hfr := hfr.ext hs
 have b7 := b7.ext hs
 have b8 := b8.ext hs
 have b9 := b9.ext hs
 have j1 := j1.ext hs
 have t7 := hr
 have eA : RV dA.m uA (⟨(1 : Int), 0, (2 : Int), 0, false⟩ : FaultDamage) (.agg (setCh [[.int .i64 0], [.int .i64 0], [.int .i64 0], [.int .i64 0], [.bool false]] [(0, .int .i64 (1)), (2, .int .i64 (2))]).flatten.toArray) := RV_build rfl (rep_pair (rfl) (rep_pair (rep_int) (rep_pair (rfl) (rep_pair (rep_int) (rep_last (rep_bool))))))
 generalize vA : (Value.agg (setCh [[.int .i64 0], [.int .i64 0], [.int .i64 0], [.int .i64 0], [.bool false]] [(0, .int .i64 (1)), (2, .int .i64 (2))]).flatten.toArray) = gA at eA
 refine EL_pur (v := gA) (vA ▸ P_build (vs := [(0, .int .i64 (1)), (2, .int .i64 (2))]) [[.int .i64 0], [.int .i64 0], [.int .i64 0], [.int .i64 0], [.bool false]] lay_62 rfl rfl (.cons rfl (.cons rfl .nil)) ⟨⟨_, rfl, rfl⟩, ⟨⟨_, rfl, rfl⟩, trivial⟩⟩) .plain rfl ?_
 refine EL_do .plain rfl (D_buildSlice (g := dA) 3038 (xs := ([(⟨(1 : Int), 0, (2 : Int), 0, false⟩ : FaultDamage)] : List FaultDamage)) (vs := [gA]) Try.underlying29 Try.sizeOf62 Try.zeroValue62 rfl rfl (.cons rfl .nil) (RVs.cons eA RVs.nil) rfl rfl fun pD vF qD hs o19 rD hxt hfl => ?_)
 have hfr := hfr.stp hs
 have b7 := b7.stp hs rfl
 have b8 := b8.stp hs rfl
 have b9 := b9.stp hs rfl
 have j1 := j1.stp hs
 have t7 := t7.stp hs
 obtain ⟨p3, xA, h⟩ := bsome h
 refine EL_do .plain rfl (D_call (g := pD) (vs := [oD, qD, .int .i64 (2)]) en20 (.cons rfl (.cons rfl (.cons rfl .nil))) (wk20 t7 rD xA) fun sD cF xF hs hr => ?_)
 have hfr := hfr.ext hs
 have b7 := b7.ext hs
 have b8 := b8.ext hs
 have b9 := b9.ext hs
 have j1 := j1.ext hs
 obtain ⟨q3, pE, rfl, o3, rfl⟩ := hr
 refine EL_mw (.tuple #[q3, .int .i64 (p3.2)]) rfl rfl ?_
 refine EL_pur (v := q3) (P_extract rfl rfl) .plain rfl ?_
 refine EL_pur (v := .int .i64 (p3.2)) (P_extract rfl rfl) .plain rfl ?_
 refine EL_at q3 rfl rfl ?_
 refine EL_at (.int .i64 (p3.2)) rfl rfl ?_
 refine EL_nil (thn_n (E_seq (E_region ?_)))
 obtain ⟨y23, yA, h⟩ := bsome h
 refine EL_do .plain rfl (D_call (g := sD) (vs := []) en49 .nil (wk49  yA) fun iA zA tD hs hr => ?_)
 have hfr := hfr.ext hs
 have b7 := b7.ext hs
 have b8 := b8.ext hs
 have b9 := b9.ext hs
 have j1 := j1.ext hs
 have o3 := o3.ext hs
 have u7 := hr
 have jA : RV iA.m zA (⟨(1 : Int), (4 : Int), false⟩ : FaultSight) (.agg (setCh [[.int .i64 0], [.int .i64 0], [.bool false]] [(0, .int .i64 (1)), (1, .int .i64 (4))]).flatten.toArray) := RV_build rfl (rep_pair (rfl) (rep_pair (rfl) (rep_last (rep_bool))))
 generalize aB : (Value.agg (setCh [[.int .i64 0], [.int .i64 0], [.bool false]] [(0, .int .i64 (1)), (1, .int .i64 (4))]).flatten.toArray) = kA at jA
 refine EL_pur (v := kA) (aB ▸ P_build (vs := [(0, .int .i64 (1)), (1, .int .i64 (4))]) [[.int .i64 0], [.int .i64 0], [.bool false]] lay_56 rfl rfl (.cons rfl (.cons rfl .nil)) ⟨⟨_, rfl, rfl⟩, ⟨⟨_, rfl, rfl⟩, trivial⟩⟩) .plain rfl ?_
 refine EL_do .plain rfl (D_buildSlice (g := iA) 3045 (xs := ([(⟨(1 : Int), (4 : Int), false⟩ : FaultSight)] : List FaultSight)) (vs := [kA]) Try.underlying39 Try.sizeOf56 Try.zeroValue56 rfl rfl (.cons rfl .nil) (RVs.cons jA RVs.nil) rfl rfl fun uD yF vD hs o25 xD hxt hfl => ?_)
 have hfr := hfr.stp hs
 have b7 := b7.stp hs rfl
 have b8 := b8.stp hs rfl
 have b9 := b9.stp hs rfl
 have j1 := j1.stp hs
 have o3 := o3.stp hs
 have u7 := u7.stp hs
 obtain ⟨i1, bB, h⟩ := bsome h
 refine EL_do .plain rfl (D_call (g := uD) (vs := [tD, vD]) en32 (.cons rfl (.cons rfl .nil)) (wk32 u7 xD bB) fun yD dF zF hs hr => ?_)
 have hfr := hfr.ext hs
 have b7 := b7.ext hs
 have b8 := b8.ext hs
 have b9 := b9.ext hs
 have j1 := j1.ext hs
 have o3 := o3.ext hs
 obtain ⟨z1, qE, rE, rfl, n4, rfl, rfl⟩ := hr
 refine EL_mw (.tuple #[z1, .bool (i1.2.1), .int .i64 (i1.2.2)]) rfl rfl ?_
 refine EL_pur (v := z1) (P_extract rfl rfl) .plain rfl ?_
 refine EL_pur (v := .bool (i1.2.1)) (P_extract rfl rfl) .plain rfl ?_
 refine EL_pur (v := .int .i64 (i1.2.2)) (P_extract rfl rfl) .plain rfl ?_
 refine EL_at z1 rfl rfl ?_
 refine EL_at (.bool (i1.2.1)) rfl rfl ?_
 refine EL_at (.int .i64 (i1.2.2)) rfl rfl ?_
 refine EL_nil (thn_n (E_seq ?_))
 obtain ⟨q6, cB, h⟩ := bsome h
 refine L_loadO0 (x := .tmp 1) Try.isAgg62 Try.sizeOf62 b7 fun lA zD dB => ?_
 refine L_loadO0 (x := .tmp 2) Try.isAgg62 Try.sizeOf62 b8 fun mA aE eB => ?_
 obtain ⟨u0, iB, h⟩ := bsome h
 refine E_drawL (g := yD) (n := 11) [(0, (fun v g w => RV g.m w q6 v)), (3, (fun v g w => ∃ y0 y1 y2 : Value, v = .tuple #[y0, y1, y2] ∧ y0 = .int .i64 (u0.1) ∧ y1 = .int .i64 (u0.2.1) ∧ y2 = .int .i64 (u0.2.2)))] [0, 1, 2, 3, 4, 5, 6, 7, 8, 9, 10] rfl mixed (by kernel_rfl) (⟨fun _ => up_rv, fun _ => (up_ex fun _ => (up_ex fun _ => (up_ex fun _ => (up_and (up_eq _) (up_and (up_eq _) (up_and (up_eq _) (up_eq _))))))), trivial⟩) ?_
 refine L_do (φ := fun v g w => RV g.m w q6 v) rfl rfl .plain (fun g w hd => D_call (g := g) (vs := []) en49 .nil (wk49  cB) fun g' w' v hs hr => ⟨g', hs, hr⟩) (fun v7 hv => ?_)
 obtain ⟨_, _, _, rq28⟩ := hv
 refine L_ld (c := lA) rfl rfl .plain (fun _ _ h => ⟨h.ch, fun b hb _ => h.below.block b hb⟩) dB rfl ?_
 refine L_ld (c := mA) rfl rfl .plain (fun _ _ h => ⟨h.ch, fun b hb _ => h.below.block b hb⟩) eB rfl ?_
 refine L_do (φ := fun v g w => ∃ y0 y1 y2 : Value, v = .tuple #[y0, y1, y2] ∧ y0 = .int .i64 (u0.1) ∧ y1 = .int .i64 (u0.2.1) ∧ y2 = .int .i64 (u0.2.2)) rfl rfl .plain (fun g w hd => D_call (g := g) (vs := [v7, lA, mA]) en37 (.cons rfl (.cons rfl (.cons rfl .nil))) (wk37 (word (A := fun g w => RV g.m w q6 v7) 0 rfl rfl (deps_of hd)) (zD.ext hd.1) (aE.ext hd.1) iB) fun g' w' v hs hr => ⟨g', hs, hr⟩) (fun aG hv => ?_)
 obtain ⟨_, _, _, _, _, _, rfl, rfl, rfl, rfl⟩ := hv
 refine L_pur (c := .tuple #[.int .i64 (u0.1), .int .i64 (u0.2.1), .int .i64 (u0.2.2)]) rfl rfl .plain (fun _ _ hd => P_move rfl) ?_
 refine L_pur (c := .int .i64 (u0.1)) rfl rfl .plain (fun _ _ hd => P_extract rfl rfl) ?_
 refine L_pur (c := .int .i64 (u0.2.1)) rfl rfl .plain (fun _ _ hd => P_extract rfl rfl) ?_
 refine L_pur (c := .int .i64 (u0.2.2)) rfl rfl .plain (fun _ _ hd => P_extract rfl rfl) ?_
 refine L_pur (c := .int .i64 (u0.1)) rfl rfl .plain (fun _ _ hd => P_assign rfl) ?_
 refine L_pur (c := .int .i64 (u0.2.1)) rfl rfl .plain (fun _ _ hd => P_assign rfl) ?_
 refine L_pur (c := .int .i64 (u0.2.2)) rfl rfl .plain (fun _ _ hd => P_assign rfl) ?_
 refine L_nil fun bE bG hall => ?_
 have hs := hall.1
 have hfr := hfr.ext hs
 have b7 := b7.ext hs
 have b8 := b8.ext hs
 have b9 := b9.ext hs
 have j1 := j1.ext hs
 have o3 := o3.ext hs
 have n4 := n4.ext hs
 have cG := (word_all (A := fun g w => RV g.m w q6 v7) 0 rfl hall)
 clear hs hall
 refine EL_nil (thn_n (E_seq ?_))
 obtain ⟨r6, jB, h⟩ := bsome h
 refine L_loadO0 (x := .tmp 1) Try.isAgg62 Try.sizeOf62 b7 fun nA cE kB => ?_
 refine L_loadO0 (x := .tmp 3) Try.isAgg62 Try.sizeOf62 b9 fun oA dE lB => ?_
 obtain ⟨d3, mB, h⟩ := bsome h
 refine E_drawL (g := bE) (n := 11) [(0, (fun v g w => RV g.m w r6 v)), (3, (fun v g w => ∃ y0 y1 y2 : Value, v = .tuple #[y0, y1, y2] ∧ y0 = .int .i64 (d3.1) ∧ y1 = .int .i64 (d3.2.1) ∧ y2 = .int .i64 (d3.2.2)))] [0, 1, 2, 3, 4, 5, 6, 7, 8, 9, 10] rfl mixed (by kernel_rfl) (⟨fun _ => up_rv, fun _ => (up_ex fun _ => (up_ex fun _ => (up_ex fun _ => (up_and (up_eq _) (up_and (up_eq _) (up_and (up_eq _) (up_eq _))))))), trivial⟩) ?_
 refine L_do (φ := fun v g w => RV g.m w r6 v) rfl rfl .plain (fun g w hd => D_call (g := g) (vs := []) en49 .nil (wk49  jB) fun g' w' v hs hr => ⟨g', hs, hr⟩) (fun x7 hv => ?_)
 obtain ⟨_, _, _, rq82⟩ := hv
 refine L_ld (c := nA) rfl rfl .plain (fun _ _ h => ⟨h.ch, fun b hb _ => h.below.block b hb⟩) kB rfl ?_
 refine L_ld (c := oA) rfl rfl .plain (fun _ _ h => ⟨h.ch, fun b hb _ => h.below.block b hb⟩) lB rfl ?_
 refine L_do (φ := fun v g w => ∃ y0 y1 y2 : Value, v = .tuple #[y0, y1, y2] ∧ y0 = .int .i64 (d3.1) ∧ y1 = .int .i64 (d3.2.1) ∧ y2 = .int .i64 (d3.2.2)) rfl rfl .plain (fun g w hd => D_call (g := g) (vs := [x7, nA, oA]) en37 (.cons rfl (.cons rfl (.cons rfl .nil))) (wk37 (word (A := fun g w => RV g.m w r6 x7) 0 rfl rfl (deps_of hd)) (cE.ext hd.1) (dE.ext hd.1) mB) fun g' w' v hs hr => ⟨g', hs, hr⟩) (fun dG hv => ?_)
 obtain ⟨_, _, _, _, _, _, rfl, rfl, rfl, rfl⟩ := hv
 refine L_pur (c := .tuple #[.int .i64 (d3.1), .int .i64 (d3.2.1), .int .i64 (d3.2.2)]) rfl rfl .plain (fun _ _ hd => P_move rfl) ?_
 refine L_pur (c := .int .i64 (d3.1)) rfl rfl .plain (fun _ _ hd => P_extract rfl rfl) ?_
 refine L_pur (c := .int .i64 (d3.2.1)) rfl rfl .plain (fun _ _ hd => P_extract rfl rfl) ?_
 refine L_pur (c := .int .i64 (d3.2.2)) rfl rfl .plain (fun _ _ hd => P_extract rfl rfl) ?_
 refine L_pur (c := .int .i64 (d3.1)) rfl rfl .plain (fun _ _ hd => P_assign rfl) ?_
 refine L_pur (c := .int .i64 (d3.2.1)) rfl rfl .plain (fun _ _ hd => P_assign rfl) ?_
 refine L_pur (c := .int .i64 (d3.2.2)) rfl rfl .plain (fun _ _ hd => P_assign rfl) ?_
 refine L_nil fun eE eG hall => ?_
 have hs := hall.1
 have hfr := hfr.ext hs
 have b7 := b7.ext hs
 have b8 := b8.ext hs
 have b9 := b9.ext hs
 have j1 := j1.ext hs
 have o3 := o3.ext hs
 have n4 := n4.ext hs
 have eF := (word_all (A := fun g w => RV g.m w r6 x7) 0 rfl hall)
 clear hs hall
 refine EL_nil (thn_n (E_joinC h (fun (s : Unit) e w => ∃ (g : Gh) , Fr gI wI g w ∧ e 1 = p4 ∧ OB 2001 g w 62 ((⟨(1 : Int), (1 : Int), (2 : Int), 0, false⟩ : FaultDamage) : FaultDamage) p4 ∧ e 2 = p5 ∧ OB 2002 g w 62 ((⟨(5 : Int), 0, 0, (4 : Int), false⟩ : FaultDamage) : FaultDamage) p5 ∧ e 3 = p6 ∧ OB 2003 g w 62 ((⟨(2 : Int), 0, (2 : Int), 0, false⟩ : FaultDamage) : FaultDamage) p6 ∧ e 4 = i2 ∧ RV g.m w (j3.1 : List Str) i2 ∧ e 6 = q3 ∧ RV g.m w (p3.1 : List FaultSight) q3 ∧ e 8 = z1 ∧ RV g.m w (i1.1 : List FaultDamage) z1 ∧ e 9 = .bool (i1.2.1) ∧ e 11 = .int .i64 (u0.1) ∧ e 12 = .int .i64 (u0.2.1)) (fun X163 q7 a9 h => ?_) ?_))
 ·obtain ⟨u3, hx, h⟩ := bsome h
  refine E_join (fun e w => ∃ (g : Gh) , Fr gI wI g w ∧ e 1 = p4 ∧ OB 2001 g w 62 ((⟨(1 : Int), (1 : Int), (2 : Int), 0, false⟩ : FaultDamage) : FaultDamage) p4 ∧ e 2 = p5 ∧ OB 2002 g w 62 ((⟨(5 : Int), 0, 0, (4 : Int), false⟩ : FaultDamage) : FaultDamage) p5 ∧ e 3 = p6 ∧ OB 2003 g w 62 ((⟨(2 : Int), 0, (2 : Int), 0, false⟩ : FaultDamage) : FaultDamage) p6 ∧ e 4 = i2 ∧ RV g.m w (j3.1 : List Str) i2 ∧ e 6 = q3 ∧ RV g.m w (p3.1 : List FaultSight) q3 ∧ e 8 = z1 ∧ RV g.m w (i1.1 : List FaultDamage) z1 ∧ e 9 = .bool (i1.2.1) ∧ e 11 = .int .i64 (u0.1) ∧ e 12 = .int .i64 (u0.2.1) ∧ e 98 = .bool (u3)) (fun Q' hQ => ?_) (fun sE gF hR => ?_)
  ·replace h := hx
   clear hx
   refine E_region (EL_mw (.int .i64 (j3.2)) rfl rfl ?_)
   refine EL_in (.bool ((j3.2 != (0 : Int)))) rfl rfl rfl rfl ?_
   refine EL_mw (.bool ((j3.2 != (0 : Int)))) rfl rfl ?_
   rcases csome h with ⟨y5, h⟩ | ⟨y5, h⟩
   ·cases h
   ·refine EL_pur (v := .int .i64 (p3.2)) (P_move rfl) (.yes2 rfl rfl y5) rfl ?_
    refine EL_pur (v := .bool ((p3.2 != (0 : Int)))) (P_int rfl rfl rfl) (.yes2 rfl rfl y5) rfl ?_
    refine EL_pur (v := .bool ((p3.2 != (0 : Int)))) (P_pick (b := (j3.2 != (0 : Int))) rfl (pick_f y5 rfl)) .plain rfl ?_
    refine EL_mw (.bool ((p3.2 != (0 : Int)))) rfl rfl ?_
    rcases csome h with ⟨z5, h⟩ | ⟨z5, h⟩
    ·cases h
    ·refine EL_pur (v := .int .i64 (i1.2.2)) (P_move rfl) (.yes2 rfl rfl z5) rfl ?_
     refine EL_pur (v := .bool ((i1.2.2 != (0 : Int)))) (P_int rfl rfl rfl) (.yes2 rfl rfl z5) rfl ?_
     refine EL_pur (v := .bool ((i1.2.2 != (0 : Int)))) (P_pick (b := (p3.2 != (0 : Int))) rfl (pick_f z5 rfl)) .plain rfl ?_
     refine EL_mw (.bool ((i1.2.2 != (0 : Int)))) rfl rfl ?_
     rcases csome h with ⟨a6, h⟩ | ⟨a6, h⟩
     ·cases h
     ·refine EL_pur (v := .int .i64 (u0.2.2)) (P_move rfl) (.yes2 rfl rfl a6) rfl ?_
      refine EL_pur (v := .bool ((u0.2.2 != (0 : Int)))) (P_int rfl rfl rfl) (.yes2 rfl rfl a6) rfl ?_
      refine EL_pur (v := .bool ((u0.2.2 != (0 : Int)))) (P_pick (b := (i1.2.2 != (0 : Int))) rfl (pick_f a6 rfl)) .plain rfl ?_
      refine EL_mw (.bool ((u0.2.2 != (0 : Int)))) rfl rfl ?_
      rcases csome h with ⟨c6, h⟩ | ⟨c6, h⟩
      ·cases h
      ·refine EL_pur (v := .int .i64 (d3.2.2)) (P_move rfl) (.yes2 rfl rfl c6) rfl ?_
       refine EL_pur (v := .bool ((d3.2.2 != (7 : Int)))) (P_int rfl rfl rfl) (.yes2 rfl rfl c6) rfl ?_
       refine EL_pur (v := .bool ((d3.2.2 != (7 : Int)))) (P_pick (b := (u0.2.2 != (0 : Int))) rfl (pick_f c6 rfl)) .plain rfl ?_
       refine EL_mw (.bool ((d3.2.2 != (7 : Int)))) rfl rfl ?_
       rcases csome h with ⟨i5, h⟩ | ⟨i5, h⟩
       ·cases h
       ·refine EL_pur (v := i2) (P_move rfl) (.yes2 rfl rfl i5) rfl ?_
        refine EL_pur (v := .int .i64 ((j3.1).length : Int)) (P_len Try.underlying36 rfl j1) (.yes2 rfl rfl i5) rfl ?_
        refine EL_pur (v := .bool ((((j3.1).length : Int) != (3 : Int)))) (P_int rfl rfl rfl) (.yes2 rfl rfl i5) rfl ?_
        refine EL_pur (v := .bool ((((j3.1).length : Int) != (3 : Int)))) (P_pick (b := (d3.2.2 != (7 : Int))) rfl (pick_f i5 rfl)) .plain rfl ?_
        refine EL_mw (.bool ((((j3.1).length : Int) != (3 : Int)))) rfl rfl ?_
        rcases csome h with ⟨j5, h⟩ | ⟨j5, h⟩
        ·cases h
        ·refine EL_pur (v := q3) (P_move rfl) (.yes2 rfl rfl j5) rfl ?_
         refine EL_pur (v := .int .i64 ((p3.1).length : Int)) (P_len Try.underlying39 rfl o3) (.yes2 rfl rfl j5) rfl ?_
         refine EL_pur (v := .bool ((((p3.1).length : Int) != (2 : Int)))) (P_int rfl rfl rfl) (.yes2 rfl rfl j5) rfl ?_
         refine EL_pur (v := .bool ((((p3.1).length : Int) != (2 : Int)))) (P_pick (b := (((j3.1).length : Int) != (3 : Int))) rfl (pick_f j5 rfl)) .plain rfl ?_
         refine EL_mw (.bool ((((p3.1).length : Int) != (2 : Int)))) rfl rfl ?_
         rcases csome h with ⟨l5, h⟩ | ⟨l5, h⟩
         ·cases h
         ·refine EL_pur (v := z1) (P_move rfl) (.yes2 rfl rfl l5) rfl ?_
          refine EL_pur (v := .int .i64 ((i1.1).length : Int)) (P_len Try.underlying29 rfl n4) (.yes2 rfl rfl l5) rfl ?_
          refine EL_pur (v := .bool ((((i1.1).length : Int) != (5 : Int)))) (P_int rfl rfl rfl) (.yes2 rfl rfl l5) rfl ?_
          refine EL_pur (v := .bool ((((i1.1).length : Int) != (5 : Int)))) (P_pick (b := (((p3.1).length : Int) != (2 : Int))) rfl (pick_f l5 rfl)) .plain rfl ?_
          refine EL_nil ?_
          obtain rfl := sinj h
          exact hQ _ _ ⟨eE, hfr, rfl, b7, rfl, b8, rfl, b9, rfl, j1, rfl, o3, rfl, n4, rfl, rfl, rfl, rfl⟩
  ·clear hx
   obtain ⟨nB, hfr, y7, z7, a8, c8, d8, e8, i8, j8, k8, l8, m8, n8, o8, i7, j7, t6⟩ := hR
   rcases csome h with ⟨u6, h⟩ | ⟨u6, h⟩
   ·refine E_cond_true (Eq.trans (show ev _ _ = .bool (u3) from t6) (congrArg Value.bool u6)) ?_
    refine E_seq (E_region (EL_at (.bool false) rfl rfl ?_))
    refine EL_nil (thn_n (E_ret (thn_r ?_)))
    obtain rfl := sinj h
    exact end1 rfl rfl (show _ = .bool false from rfl) ⟨_, hfr, rfl⟩
   ·refine E_cond_false (Eq.trans (show ev _ _ = .bool (u3) from t6) (congrArg Value.bool u6)) ?_
    exact E_skip (thn_n (a9 () _ _ ⟨nB, hfr, y7, z7, a8, c8, d8, e8, i8, j8, k8, l8, m8, n8, o8, i7, j7⟩ h))
 ·rintro _ tE iF ⟨oB, hfr, p8, j2, q8, q2, r8, s2, m5, o0, t8, d2, z3, n0, v8, l7, m7⟩ h
  refine E_seq (E_region ?_)
  obtain ⟨n7, c9, h⟩ := bsome h
  refine EL_do .plain rfl (D_call (g := oB) (vs := []) en49 .nil (wk49  c9) fun pB uE qB hs hr => ?_)
  have hfr := hfr.ext hs
  have j2 := j2.ext hs
  have q2 := q2.ext hs
  have s2 := s2.ext hs
  have o0 := o0.ext hs
  have d2 := d2.ext hs
  have n0 := n0.ext hs
  have rB := hr
  refine EL_mv z3 rfl ?_
  obtain ⟨z2, d9, h⟩ := bsome h
  refine EL_do .plain rfl (D_call (g := pB) (vs := [qB, z1]) en38 (.cons rfl (.cons rfl .nil)) (wk38 rB n0 d9) fun sB vE jF hs hr => ?_)
  have hfr := hfr.ext hs
  have j2 := j2.ext hs
  have q2 := q2.ext hs
  have s2 := s2.ext hs
  have o0 := o0.ext hs
  have d2 := d2.ext hs
  have n0 := n0.ext hs
  obtain ⟨gE, iE, rfl, rfl, rfl⟩ := hr
  refine EL_mw (.tuple #[.int .i64 (z2.1), .int .i64 (z2.2)]) rfl rfl ?_
  refine EL_pur (v := .int .i64 (z2.1)) (P_extract rfl rfl) .plain rfl ?_
  refine EL_pur (v := .int .i64 (z2.2)) (P_extract rfl rfl) .plain rfl ?_
  refine EL_at (.int .i64 (z2.1)) rfl rfl ?_
  refine EL_at (.int .i64 (z2.2)) rfl rfl ?_
  refine EL_nil (thn_n (E_seq (E_region ?_)))
  obtain ⟨o7, e9, h⟩ := bsome h
  refine EL_do .plain rfl (D_call (g := sB) (vs := []) en49 .nil (wk49  e9) fun tB xE uB hs hr => ?_)
  have hfr := hfr.ext hs
  have j2 := j2.ext hs
  have q2 := q2.ext hs
  have s2 := s2.ext hs
  have o0 := o0.ext hs
  have d2 := d2.ext hs
  have n0 := n0.ext hs
  have vB := hr
  refine EL_mv z3 rfl ?_
  obtain ⟨i3, i9, h⟩ := bsome h
  refine EL_do .plain rfl (D_call (g := tB) (vs := [uB, z1]) en39 (.cons rfl (.cons rfl .nil)) (wk39 vB n0 i9) fun xB yE kF hs hr => ?_)
  have hfr := hfr.ext hs
  have j2 := j2.ext hs
  have q2 := q2.ext hs
  have s2 := s2.ext hs
  have o0 := o0.ext hs
  have d2 := d2.ext hs
  have n0 := n0.ext hs
  obtain ⟨n5, jE, rfl, m4, rfl⟩ := hr
  refine EL_mw (.tuple #[n5, .int .i64 (i3.2)]) rfl rfl ?_
  refine EL_pur (v := n5) (P_extract rfl rfl) .plain rfl ?_
  refine EL_pur (v := .int .i64 (i3.2)) (P_extract rfl rfl) .plain rfl ?_
  refine EL_at n5 rfl rfl ?_
  refine EL_at (.int .i64 (i3.2)) rfl rfl ?_
  refine EL_nil (thn_n (E_seq (E_region ?_)))
  obtain ⟨p7, j9, h⟩ := bsome h
  refine EL_do .plain rfl (D_call (g := xB) (vs := []) en49 .nil (wk49  j9) fun yB zE zB hs hr => ?_)
  have hfr := hfr.ext hs
  have j2 := j2.ext hs
  have q2 := q2.ext hs
  have s2 := s2.ext hs
  have o0 := o0.ext hs
  have d2 := d2.ext hs
  have n0 := n0.ext hs
  have m4 := m4.ext hs
  have aC := hr
  refine EL_mv z3 rfl ?_
  obtain ⟨j0, k9, h⟩ := bsome h
  refine EL_do .plain rfl (D_call (g := yB) (vs := [zB, z1, .int .i64 (2)]) en41 (.cons rfl (.cons rfl (.cons rfl .nil))) (wk41 aC n0 k9) fun x8 l9 lF hs hr => ?_)
  have hfr := hfr.ext hs
  have j2 := j2.ext hs
  have q2 := q2.ext hs
  have s2 := s2.ext hs
  have o0 := o0.ext hs
  have d2 := d2.ext hs
  have n0 := n0.ext hs
  have m4 := m4.ext hs
  obtain ⟨kE, lE, mE, nE, rfl, rfl, rfl, rfl, rfl⟩ := hr
  refine EL_mw (.tuple #[.int .i64 (j0.1), .int .i64 (j0.2.1), .int .i64 (j0.2.2.1), .int .i64 (j0.2.2.2)]) rfl rfl ?_
  refine EL_pur (v := .int .i64 (j0.1)) (P_extract rfl rfl) .plain rfl ?_
  refine EL_pur (v := .int .i64 (j0.2.1)) (P_extract rfl rfl) .plain rfl ?_
  refine EL_pur (v := .int .i64 (j0.2.2.1)) (P_extract rfl rfl) .plain rfl ?_
  refine EL_pur (v := .int .i64 (j0.2.2.2)) (P_extract rfl rfl) .plain rfl ?_
  refine EL_at (.int .i64 (j0.1)) rfl rfl ?_
  refine EL_at (.int .i64 (j0.2.1)) rfl rfl ?_
  refine EL_at (.int .i64 (j0.2.2.1)) rfl rfl ?_
  refine EL_at (.int .i64 (j0.2.2.2)) rfl rfl ?_
  refine EL_nil (thn_n ?_)
  obtain ⟨d5, hx, h⟩ := bsome h
  refine E_join (fun e w => ∃ (g : Gh) , Fr gI wI g w ∧ e 0 = .bool (d5)) (fun Q' hQ => ?_) (fun aF mF hR => ?_)
  ·replace h := hx
   clear hx
   rcases csome h with ⟨d6, h⟩ | ⟨d6, h⟩
   ·rcases csome h with ⟨e6, h⟩ | ⟨e6, h⟩
    ·rcases csome h with ⟨o4, h⟩ | ⟨o4, h⟩
     ·obtain ⟨u4, v6, h⟩ := bsome h
      have bC := PT_idx o0 v6
      refine L_load (x := .tmp 131) Try.isAgg9 Try.sizeOf9 bC fun nF cC m9 => ?_
      obtain rfl := RV_str.1 cC
      rcases csome h with ⟨q4, h⟩ | ⟨q4, h⟩
      ·obtain ⟨x4, x6, h⟩ := bsome h
       have dC := PT_idx o0 x6
       refine L_load (x := .tmp 137) Try.isAgg9 Try.sizeOf9 dC fun oF eC n9 => ?_
       obtain rfl := RV_str.1 eC
       rcases csome h with ⟨s3, h⟩ | ⟨s3, h⟩
       ·obtain ⟨z4, y6, h⟩ := bsome h
        have iC := PT_idx o0 y6
        refine L_load (x := .tmp 143) Try.isAgg9 Try.sizeOf9 iC fun pF jC o9 => ?_
        obtain rfl := RV_str.1 jC
        obtain ⟨c5, z6, h⟩ := bsome h
        have kC := PT_idx o0 z6
        refine L_load (x := .tmp 146) Try.isAgg9 Try.sizeOf9 kC fun qF lC p9 => ?_
        obtain rfl := RV_str.1 lC
        rcases csome h with ⟨c4, h⟩ | ⟨c4, h⟩
        ·obtain ⟨q5, a7, h⟩ := bsome h
         have mC := PT_idx d2 a7
         refine L_load (x := .tmp 152) Try.isAgg56 Try.sizeOf56 mC fun nC oC q9 => ?_
         have y8 : RV x8.m l9 (⟨0, (4 : Int), true⟩ : FaultSight) (.agg (setCh [[.int .i64 0], [.int .i64 0], [.bool false]] [(1, .int .i64 (4)), (2, .bool true)]).flatten.toArray) := RV_build rfl (rep_pair (rep_int) (rep_pair (rfl) (rep_last (rfl))))
         generalize r9 : (Value.agg (setCh [[.int .i64 0], [.int .i64 0], [.bool false]] [(1, .int .i64 (4)), (2, .bool true)]).flatten.toArray) = pC at y8
         rcases csome h with ⟨i6, h⟩ | ⟨i6, h⟩
         ·rcases csome h with ⟨d4, h⟩ | ⟨d4, h⟩
          ·obtain ⟨t5, c7, h⟩ := bsome h
           have qC := PT_idx n0 c7
           refine L_load (x := .tmp 163) Try.isAgg62 Try.sizeOf62 qC fun rC sC s9 => ?_
           refine L_loadO0 (x := .tmp 1) Try.isAgg62 Try.sizeOf62 j2 fun tC uC t9 => ?_
           rcases csome h with ⟨i4, h⟩ | ⟨i4, h⟩
           ·obtain ⟨u5, d7, h⟩ := bsome h
            have vC := PT_idx n0 d7
            refine L_load (x := .tmp 170) Try.isAgg62 Try.sizeOf62 vC fun xC yC u9 => ?_
            refine L_loadO0 (x := .tmp 3) Try.isAgg62 Try.sizeOf62 s2 fun zC aD v9 => ?_
            rcases csome h with ⟨j4, h⟩ | ⟨j4, h⟩
            ·obtain ⟨x5, e7, h⟩ := bsome h
             have bD := PT_idx n0 e7
             refine L_load (x := .tmp 177) Try.isAgg62 Try.sizeOf62 bD fun cD dD x9 => ?_
             refine L_loadO0 (x := .tmp 2) Try.isAgg62 Try.sizeOf62 q2 fun eD gD y9 => ?_
             rcases csome h with ⟨j6, h⟩ | ⟨j6, h⟩
             ·rcases csome h with ⟨k6, h⟩ | ⟨k6, h⟩
              ·rcases csome h with ⟨l6, h⟩ | ⟨l6, h⟩
               ·rcases csome h with ⟨o5, h⟩ | ⟨o5, h⟩
                ·rcases csome h with ⟨m6, h⟩ | ⟨m6, h⟩
                 ·rcases csome h with ⟨n6, h⟩ | ⟨n6, h⟩
                  ·rcases csome h with ⟨o6, h⟩ | ⟨o6, h⟩
                   ·refine E_drawL (g := x8) (n := 93) [] [0, 1, 2, 3, 4, 5, 6, 7, 8, 9, 10, 11, 12, 13, 14, 15, 16, 17, 18, 19, 20, 21, 22, 23, 24, 25, 26, 27, 28, 29, 30, 31, 32, 33, 34, 35, 36, 37, 38, 39, 40, 41, 42, 43, 44, 45, 46, 47, 48, 49, 50, 51, 52, 53, 54, 55, 56, 57, 58, 59, 60, 61, 62, 63, 64, 65, 66, 67, 68, 69, 70, 71, 72, 73, 74, 75, 76, 77, 78, 79, 80, 81, 82, 83, 84, 85, 86, 87, 88, 89, 90, 91, 92] rfl mixed (by kernel_rfl) trivial ?_
                    refine L_pur (c := .int .i64 (z2.2)) rfl rfl .plain (fun _ _ hd => P_move rfl) ?_
                    refine L_pur (c := .bool ((z2.2 == (0 : Int)))) rfl rfl .plain (fun _ _ hd => P_int rfl rfl rfl) ?_
                    refine L_pur (c := .bool ((z2.2 == (0 : Int)))) rfl rfl .plain (fun _ _ hd => P_move rfl) ?_
                    refine L_pur (c := .int .i64 (i3.2)) rfl rfl (.yes2 rfl rfl d6) (fun _ _ hd => P_move rfl) ?_
                    refine L_pur (c := .bool ((i3.2 == (0 : Int)))) rfl rfl (.yes2 rfl rfl d6) (fun _ _ hd => P_int rfl rfl rfl) ?_
                    refine L_pur (c := .bool ((i3.2 == (0 : Int)))) rfl rfl .plain (fun _ _ hd => P_pick (b := (z2.2 == (0 : Int))) rfl (pick_t d6 rfl)) ?_
                    refine L_pur (c := .bool ((i3.2 == (0 : Int)))) rfl rfl .plain (fun _ _ hd => P_move rfl) ?_
                    refine L_pur (c := .int .i64 (j0.2.2.2)) rfl rfl (.yes2 rfl rfl e6) (fun _ _ hd => P_move rfl) ?_
                    refine L_pur (c := .bool ((j0.2.2.2 == (0 : Int)))) rfl rfl (.yes2 rfl rfl e6) (fun _ _ hd => P_int rfl rfl rfl) ?_
                    refine L_pur (c := .bool ((j0.2.2.2 == (0 : Int)))) rfl rfl .plain (fun _ _ hd => P_pick (b := (i3.2 == (0 : Int))) rfl (pick_t e6 rfl)) ?_
                    refine L_pur (c := .bool ((j0.2.2.2 == (0 : Int)))) rfl rfl .plain (fun _ _ hd => P_move rfl) ?_
                    refine L_pur (c := i2) rfl rfl (.yes2 rfl rfl o4) (fun _ _ hd => P_move m5) ?_
                    refine L_pur (c := ePtr i2 (0 : Int) 1) rfl rfl (.yes2 rfl rfl o4) (fun _ _ hd => P_indexAddr (α := Str) Try.underlying36 Try.sizeOf9 rfl o0 rfl v6) ?_
                    refine L_ld (c := Str.v (u4)) rfl rfl (.yes2 rfl rfl o4) (fun _ _ h => h.ch) m9 rfl ?_
                    refine L_pur (c := .bool (((u4).b == ((⟨[46, 46, 46, 120, 46, 46]⟩ : Str)).b))) rfl rfl (.yes2 rfl rfl o4) (fun _ _ hd => P_str rfl rfl rfl) ?_
                    refine L_pur (c := .bool (((u4).b == ((⟨[46, 46, 46, 120, 46, 46]⟩ : Str)).b))) rfl rfl .plain (fun _ _ hd => P_pick (b := (j0.2.2.2 == (0 : Int))) rfl (pick_t o4 rfl)) ?_
                    refine L_pur (c := .bool (((u4).b == ((⟨[46, 46, 46, 120, 46, 46]⟩ : Str)).b))) rfl rfl .plain (fun _ _ hd => P_move rfl) ?_
                    refine L_pur (c := i2) rfl rfl (.yes2 rfl rfl q4) (fun _ _ hd => P_move m5) ?_
                    refine L_pur (c := ePtr i2 (1 : Int) 1) rfl rfl (.yes2 rfl rfl q4) (fun _ _ hd => P_indexAddr (α := Str) Try.underlying36 Try.sizeOf9 rfl o0 rfl x6) ?_
                    refine L_ld (c := Str.v (x4)) rfl rfl (.yes2 rfl rfl q4) (fun _ _ h => h.ch) n9 rfl ?_
                    refine L_pur (c := .bool (((x4).b == ((⟨[46, 120, 120, 46, 120, 120]⟩ : Str)).b))) rfl rfl (.yes2 rfl rfl q4) (fun _ _ hd => P_str rfl rfl rfl) ?_
                    refine L_pur (c := .bool (((x4).b == ((⟨[46, 120, 120, 46, 120, 120]⟩ : Str)).b))) rfl rfl .plain (fun _ _ hd => P_pick (b := ((u4).b == ((⟨[46, 46, 46, 120, 46, 46]⟩ : Str)).b)) rfl (pick_t q4 rfl)) ?_
                    refine L_pur (c := .bool (((x4).b == ((⟨[46, 120, 120, 46, 120, 120]⟩ : Str)).b))) rfl rfl .plain (fun _ _ hd => P_move rfl) ?_
                    refine L_pur (c := i2) rfl rfl (.yes2 rfl rfl s3) (fun _ _ hd => P_move m5) ?_
                    refine L_pur (c := ePtr i2 (2 : Int) 1) rfl rfl (.yes2 rfl rfl s3) (fun _ _ hd => P_indexAddr (α := Str) Try.underlying36 Try.sizeOf9 rfl o0 rfl y6) ?_
                    refine L_ld (c := Str.v (z4)) rfl rfl (.yes2 rfl rfl s3) (fun _ _ h => h.ch) o9 rfl ?_
                    refine L_pur (c := i2) rfl rfl (.yes2 rfl rfl s3) (fun _ _ hd => P_move m5) ?_
                    refine L_pur (c := ePtr i2 (0 : Int) 1) rfl rfl (.yes2 rfl rfl s3) (fun _ _ hd => P_indexAddr (α := Str) Try.underlying36 Try.sizeOf9 rfl o0 rfl z6) ?_
                    refine L_ld (c := Str.v (c5)) rfl rfl (.yes2 rfl rfl s3) (fun _ _ h => h.ch) p9 rfl ?_
                    refine L_pur (c := .bool (((z4).b == (c5).b))) rfl rfl (.yes2 rfl rfl s3) (fun _ _ hd => P_str rfl rfl rfl) ?_
                    refine L_pur (c := .bool (((z4).b == (c5).b))) rfl rfl .plain (fun _ _ hd => P_pick (b := ((x4).b == ((⟨[46, 120, 120, 46, 120, 120]⟩ : Str)).b)) rfl (pick_t s3 rfl)) ?_
                    refine L_pur (c := .bool (((z4).b == (c5).b))) rfl rfl .plain (fun _ _ hd => P_move rfl) ?_
                    refine L_pur (c := q3) rfl rfl (.yes2 rfl rfl c4) (fun _ _ hd => P_move t8) ?_
                    refine L_pur (c := ePtr q3 (1 : Int) 3) rfl rfl (.yes2 rfl rfl c4) (fun _ _ hd => P_indexAddr (α := FaultSight) Try.underlying39 Try.sizeOf56 rfl d2 rfl a7) ?_
                    refine L_ld (c := nC) rfl rfl (.yes2 rfl rfl c4) (fun _ _ h => h.ch) q9 rfl ?_
                    refine L_pur (c := pC) rfl rfl (.yes2 rfl rfl c4) (fun _ _ hd => r9 ▸ P_build (vs := [(1, .int .i64 (4)), (2, .bool true)]) [[.int .i64 0], [.int .i64 0], [.bool false]] lay_56 rfl rfl (.cons rfl (.cons rfl .nil)) ⟨⟨_, rfl, rfl⟩, ⟨⟨_, rfl, rfl⟩, trivial⟩⟩) ?_
                    refine L_pur (c := .bool ((decide (q5 = (⟨0, (4 : Int), true⟩ : FaultSight))))) rfl rfl (.yes2 rfl rfl c4) (fun _ _ hd => P_seq seq_56 rfl eg_56 rfl rfl oC y8) ?_
                    refine L_pur (c := .bool ((decide (q5 = (⟨0, (4 : Int), true⟩ : FaultSight))))) rfl rfl .plain (fun _ _ hd => P_pick (b := ((z4).b == (c5).b)) rfl (pick_t c4 rfl)) ?_
                    refine L_pur (c := .bool ((decide (q5 = (⟨0, (4 : Int), true⟩ : FaultSight))))) rfl rfl .plain (fun _ _ hd => P_move rfl) ?_
                    refine L_pur (c := .bool (i1.2.1)) rfl rfl (.yes2 rfl rfl i6) (fun _ _ hd => P_move v8) ?_
                    refine L_pur (c := .bool (!i1.2.1)) rfl rfl (.yes2 rfl rfl i6) (fun _ _ hd => P_not rfl) ?_
                    refine L_pur (c := .bool (!i1.2.1)) rfl rfl .plain (fun _ _ hd => P_pick (b := (decide (q5 = (⟨0, (4 : Int), true⟩ : FaultSight)))) rfl (pick_t i6 rfl)) ?_
                    refine L_pur (c := .bool (!i1.2.1)) rfl rfl .plain (fun _ _ hd => P_move rfl) ?_
                    refine L_pur (c := z1) rfl rfl (.yes2 rfl rfl d4) (fun _ _ hd => P_move z3) ?_
                    refine L_pur (c := ePtr z1 (0 : Int) 5) rfl rfl (.yes2 rfl rfl d4) (fun _ _ hd => P_indexAddr (α := FaultDamage) Try.underlying29 Try.sizeOf62 rfl n0 rfl c7) ?_
                    refine L_ld (c := rC) rfl rfl (.yes2 rfl rfl d4) (fun _ _ h => h.ch) s9 rfl ?_
                    refine L_ld (c := tC) rfl rfl (.yes2 rfl rfl d4) (fun _ _ h => ⟨h.ch, fun b hb _ => h.below.block b hb⟩) t9 p8 ?_
                    refine L_pur (c := .bool ((decide (t5 = (⟨(1 : Int), (1 : Int), (2 : Int), 0, false⟩ : FaultDamage))))) rfl rfl (.yes2 rfl rfl d4) (fun _ _ hd => P_seq seq_62 rfl eg_62 rfl rfl sC uC) ?_
                    refine L_pur (c := .bool ((decide (t5 = (⟨(1 : Int), (1 : Int), (2 : Int), 0, false⟩ : FaultDamage))))) rfl rfl .plain (fun _ _ hd => P_pick (b := (!i1.2.1)) rfl (pick_t d4 rfl)) ?_
                    refine L_pur (c := .bool ((decide (t5 = (⟨(1 : Int), (1 : Int), (2 : Int), 0, false⟩ : FaultDamage))))) rfl rfl .plain (fun _ _ hd => P_move rfl) ?_
                    refine L_pur (c := z1) rfl rfl (.yes2 rfl rfl i4) (fun _ _ hd => P_move z3) ?_
                    refine L_pur (c := ePtr z1 (1 : Int) 5) rfl rfl (.yes2 rfl rfl i4) (fun _ _ hd => P_indexAddr (α := FaultDamage) Try.underlying29 Try.sizeOf62 rfl n0 rfl d7) ?_
                    refine L_ld (c := xC) rfl rfl (.yes2 rfl rfl i4) (fun _ _ h => h.ch) u9 rfl ?_
                    refine L_ld (c := zC) rfl rfl (.yes2 rfl rfl i4) (fun _ _ h => ⟨h.ch, fun b hb _ => h.below.block b hb⟩) v9 r8 ?_
                    refine L_pur (c := .bool ((decide (u5 = (⟨(2 : Int), 0, (2 : Int), 0, false⟩ : FaultDamage))))) rfl rfl (.yes2 rfl rfl i4) (fun _ _ hd => P_seq seq_62 rfl eg_62 rfl rfl yC aD) ?_
                    refine L_pur (c := .bool ((decide (u5 = (⟨(2 : Int), 0, (2 : Int), 0, false⟩ : FaultDamage))))) rfl rfl .plain (fun _ _ hd => P_pick (b := (decide (t5 = (⟨(1 : Int), (1 : Int), (2 : Int), 0, false⟩ : FaultDamage)))) rfl (pick_t i4 rfl)) ?_
                    refine L_pur (c := .bool ((decide (u5 = (⟨(2 : Int), 0, (2 : Int), 0, false⟩ : FaultDamage))))) rfl rfl .plain (fun _ _ hd => P_move rfl) ?_
                    refine L_pur (c := z1) rfl rfl (.yes2 rfl rfl j4) (fun _ _ hd => P_move z3) ?_
                    refine L_pur (c := ePtr z1 (4 : Int) 5) rfl rfl (.yes2 rfl rfl j4) (fun _ _ hd => P_indexAddr (α := FaultDamage) Try.underlying29 Try.sizeOf62 rfl n0 rfl e7) ?_
                    refine L_ld (c := cD) rfl rfl (.yes2 rfl rfl j4) (fun _ _ h => h.ch) x9 rfl ?_
                    refine L_ld (c := eD) rfl rfl (.yes2 rfl rfl j4) (fun _ _ h => ⟨h.ch, fun b hb _ => h.below.block b hb⟩) y9 q8 ?_
                    refine L_pur (c := .bool ((decide (x5 = (⟨(5 : Int), 0, 0, (4 : Int), false⟩ : FaultDamage))))) rfl rfl (.yes2 rfl rfl j4) (fun _ _ hd => P_seq seq_62 rfl eg_62 rfl rfl dD gD) ?_
                    refine L_pur (c := .bool ((decide (x5 = (⟨(5 : Int), 0, 0, (4 : Int), false⟩ : FaultDamage))))) rfl rfl .plain (fun _ _ hd => P_pick (b := (decide (u5 = (⟨(2 : Int), 0, (2 : Int), 0, false⟩ : FaultDamage)))) rfl (pick_t j4 rfl)) ?_
                    refine L_pur (c := .bool ((decide (x5 = (⟨(5 : Int), 0, 0, (4 : Int), false⟩ : FaultDamage))))) rfl rfl .plain (fun _ _ hd => P_move rfl) ?_
                    refine L_pur (c := .int .i64 (u0.1)) rfl rfl (.yes2 rfl rfl j6) (fun _ _ hd => P_move l7) ?_
                    refine L_pur (c := .bool ((u0.1 == (1 : Int)))) rfl rfl (.yes2 rfl rfl j6) (fun _ _ hd => P_int rfl rfl rfl) ?_
                    refine L_pur (c := .bool ((u0.1 == (1 : Int)))) rfl rfl .plain (fun _ _ hd => P_pick (b := (decide (x5 = (⟨(5 : Int), 0, 0, (4 : Int), false⟩ : FaultDamage)))) rfl (pick_t j6 rfl)) ?_
                    refine L_pur (c := .bool ((u0.1 == (1 : Int)))) rfl rfl .plain (fun _ _ hd => P_move rfl) ?_
                    refine L_pur (c := .int .i64 (u0.2.1)) rfl rfl (.yes2 rfl rfl k6) (fun _ _ hd => P_move m7) ?_
                    refine L_pur (c := .bool ((u0.2.1 == (2 : Int)))) rfl rfl (.yes2 rfl rfl k6) (fun _ _ hd => P_int rfl rfl rfl) ?_
                    refine L_pur (c := .bool ((u0.2.1 == (2 : Int)))) rfl rfl .plain (fun _ _ hd => P_pick (b := (u0.1 == (1 : Int))) rfl (pick_t k6 rfl)) ?_
                    refine L_pur (c := .bool ((u0.2.1 == (2 : Int)))) rfl rfl .plain (fun _ _ hd => P_move rfl) ?_
                    refine L_pur (c := .int .i64 (z2.1)) rfl rfl (.yes2 rfl rfl l6) (fun _ _ hd => P_move rfl) ?_
                    refine L_pur (c := .bool ((z2.1 == (2 : Int)))) rfl rfl (.yes2 rfl rfl l6) (fun _ _ hd => P_int rfl rfl rfl) ?_
                    refine L_pur (c := .bool ((z2.1 == (2 : Int)))) rfl rfl .plain (fun _ _ hd => P_pick (b := (u0.2.1 == (2 : Int))) rfl (pick_t l6 rfl)) ?_
                    refine L_pur (c := .bool ((z2.1 == (2 : Int)))) rfl rfl .plain (fun _ _ hd => P_move rfl) ?_
                    refine L_pur (c := n5) rfl rfl (.yes2 rfl rfl o5) (fun _ _ hd => P_move rfl) ?_
                    refine L_pur (c := .int .i64 ((i3.1).length : Int)) rfl rfl (.yes2 rfl rfl o5) (fun _ _ hd => P_len Try.underlying71 rfl m4) ?_
                    refine L_pur (c := .bool ((((i3.1).length : Int) == (3 : Int)))) rfl rfl (.yes2 rfl rfl o5) (fun _ _ hd => P_int rfl rfl rfl) ?_
                    refine L_pur (c := .bool ((((i3.1).length : Int) == (3 : Int)))) rfl rfl .plain (fun _ _ hd => P_pick (b := (z2.1 == (2 : Int))) rfl (pick_t o5 rfl)) ?_
                    refine L_pur (c := .bool ((((i3.1).length : Int) == (3 : Int)))) rfl rfl .plain (fun _ _ hd => P_move rfl) ?_
                    refine L_pur (c := .int .i64 (j0.1)) rfl rfl (.yes2 rfl rfl m6) (fun _ _ hd => P_move rfl) ?_
                    refine L_pur (c := .bool ((j0.1 == (0 : Int)))) rfl rfl (.yes2 rfl rfl m6) (fun _ _ hd => P_int rfl rfl rfl) ?_
                    refine L_pur (c := .bool ((j0.1 == (0 : Int)))) rfl rfl .plain (fun _ _ hd => P_pick (b := (((i3.1).length : Int) == (3 : Int))) rfl (pick_t m6 rfl)) ?_
                    refine L_pur (c := .bool ((j0.1 == (0 : Int)))) rfl rfl .plain (fun _ _ hd => P_move rfl) ?_
                    refine L_pur (c := .int .i64 (j0.2.1)) rfl rfl (.yes2 rfl rfl n6) (fun _ _ hd => P_move rfl) ?_
                    refine L_pur (c := .bool ((j0.2.1 == (0 : Int)))) rfl rfl (.yes2 rfl rfl n6) (fun _ _ hd => P_int rfl rfl rfl) ?_
                    refine L_pur (c := .bool ((j0.2.1 == (0 : Int)))) rfl rfl .plain (fun _ _ hd => P_pick (b := (j0.1 == (0 : Int))) rfl (pick_t n6 rfl)) ?_
                    refine L_pur (c := .bool ((j0.2.1 == (0 : Int)))) rfl rfl .plain (fun _ _ hd => P_move rfl) ?_
                    refine L_pur (c := .int .i64 (j0.2.2.1)) rfl rfl (.yes2 rfl rfl o6) (fun _ _ hd => P_move rfl) ?_
                    refine L_pur (c := .bool ((j0.2.2.1 == (3 : Int)))) rfl rfl (.yes2 rfl rfl o6) (fun _ _ hd => P_int rfl rfl rfl) ?_
                    refine L_pur (c := .bool ((j0.2.2.1 == (3 : Int)))) rfl rfl .plain (fun _ _ hd => P_pick (b := (j0.2.1 == (0 : Int))) rfl (pick_t o6 rfl)) ?_
                    refine L_pur (c := .bool ((j0.2.2.1 == (3 : Int)))) rfl rfl .plain (fun _ _ hd => P_assign rfl) ?_
                    refine L_nil fun iD rF hall => ?_
                    have hs := hall.1
                    have hfr := hfr.ext hs
                    clear hs hall
                    refine EL_nil ?_
                    obtain rfl := sinj h
                    exact hQ _ _ ⟨iD, hfr, rfl⟩
                   ·cases h
                  ·cases h
                 ·cases h
                ·cases h
               ·cases h
              ·cases h
             ·cases h
            ·cases h
           ·cases h
          ·cases h
         ·cases h
        ·cases h
       ·cases h
      ·cases h
     ·cases h
    ·cases h
   ·cases h
  ·clear hx
   obtain ⟨sF, hfr, z8⟩ := hR
   refine E_ret ?_
   obtain rfl := sinj h
   exact end1 rfl rfl (show _ = .bool (d5) from z8) ⟨_, hfr, rfl⟩
/-- griffe/griffelaw05.FaultWeaves -/
def f3 (x0 : FaultLoom) (x1 : List FaultDamage) (x2 : Int) : Option (Bool) :=
 jn (σ := Unit) (fun (_ : Unit) =>
  (f16 x0).bind fun t6 =>
  (f17 x1).bind fun u6 =>
  (f18 t6 u6).bind fun b6 =>
  (f19 t6 u6 x2).bind fun y0 =>
  (f20 t6 u6 x2).bind fun j0 =>
  jn (σ := Unit) (fun (_ : Unit) =>
   (f23 x0 x1).bind fun i3 =>
   jn (σ := Unit) (fun (_ : Unit) =>
    Option.bind (α := Int) (
     Option.bind (α := Bool) (
      bif (i3 == (0 : Int)) then
       (f24 x2 ((1 : Int)) ((120 : Int))).bind fun y98 =>
       some ((!y98))
      else
       some (false)
      ) fun q3 =>
     bif q3 then
      some ((3 : Int))
     else
      some (i3)
     ) fun n0 =>
    jn (σ := Unit) (fun (_ : Unit) =>
     (f26 x0 x1).bind fun u4 =>
     (f25 u4 x2).bind fun c4 =>
     (f26 x0 ([])).bind fun x4 =>
     (f25 x4 x2).bind fun z4 =>
     Option.bind (α := Bool) (
      bif (y0.2 == (0 : Int)) then
       (f27 (y0.1) c4).bind fun c5 =>
       bif c5 then
        bif (j0.2 == (0 : Int)) then
         (f29 c4 z4).bind fun r8 =>
         (f28 (j0.1) r8).bind fun d5 =>
         bif d5 then
          (f15).bind fun m6 =>
          some (m6)
         else
          some (false)
        else
         some (false)
       else
        some (false)
      else
       some (false)
      ) fun i4 =>
     some (i4)
     ) fun t8 =>
    bif (n0 != (0 : Int)) then
     Option.bind (α := Bool) (
      bif (y0.2 == n0) then
       bif (j0.2 == n0) then
        bif ((w64 (((y0.1).length : Int) + ((j0.1).length : Int))) == (0 : Int)) then
         (f15).bind fun n6 =>
         some (n6)
        else
         some (false)
       else
        some (false)
      else
       some (false)
      ) fun j4 =>
     some (j4)
    else
     t8 ()
    ) fun bB =>
   bif (b6 != i3) then
    some (false)
   else
    bB ()
   ) fun cB =>
  Option.bind (α := Bool) (
   (f21 t6 x0).bind fun c6 =>
   bif (!c6) then
    some (true)
   else
    (f22 u6 x1).bind fun a8 =>
    some ((!a8))
   ) fun s3 =>
  bif s3 then
   some (false)
  else
   cB ()
  ) fun dB =>
 Option.bind (α := Bool) (
  (f14 x0).bind fun v6 =>
  bif v6 then
   some (true)
  else
   some ((decide (((x1).length : Int) > (110 : Int))))
  ) fun u3 =>
 bif u3 then
  (f15).bind fun b8 =>
  some (b8)
 else
  dB ()
theorem wk3 {gI : Gh} {wI : World} {x0 : FaultLoom} {x1 : List FaultDamage} {x2 : Int} {up0 : Value} (rp0 : RV gI.m wI x0 up0) {up1 : Value} (rp1 : RV gI.m wI x1 up1) {r : Bool} (h : f3 x0 x1 x2 = some r) : Fn Try.prog 3 #[up0, up1, .int .i64 (x2)] gI wI (fun _ _ v => v = .bool (r)) := by
 unfold f3 at h
 refine fn_of_E Try.func3 rfl (Nat.le_of_ble_eq_true rfl) fun g0 hm hfr => ?_
 have rp0 : RV g0.m wI x0 up0 := hm ▸ rp0
 have rp1 : RV g0.m wI x1 up1 := hm ▸ rp1
 show E _ 120 none _ _ _ _ _
 refine E_seq (E_region (EL_do .plain rfl (D_box (g := g0) rfl rp0 fun g1 w1 p1 hs q1 => ?_)))
 have hfr := hfr.ext hs
 have rp1 := rp1.ext hs
 refine EL_at (.bool false) rfl rfl ?_
 refine EL_nil (thn_n (E_joinC h (fun (s : Unit) e w => ∃ (g : Gh) , Fr gI wI g w ∧ e 1 = up1 ∧ RV g.m w (x1 : List FaultDamage) up1 ∧ e 2 = .int .i64 (x2) ∧ e 3 = p1 ∧ PT g.m w (x0 : FaultLoom) p1) (fun X14 dB tB h => ?_) ?_))
 ·obtain ⟨u3, hx, h⟩ := bsome h
  refine E_join (fun e w => ∃ (g : Gh) , Fr gI wI g w ∧ e 1 = up1 ∧ RV g.m w (x1 : List FaultDamage) up1 ∧ e 2 = .int .i64 (x2) ∧ e 3 = p1 ∧ PT g.m w (x0 : FaultLoom) p1 ∧ e 23 = .bool (u3)) (fun Q' hQ => ?_) (fun jE sF hR => ?_)
  ·replace h := hx
   clear hx
   refine E_region (EL_do .plain rfl (D_load (g := g1) Try.isAgg28 Try.sizeOf28 rfl q1 fun tC uC => ?_))
   obtain ⟨v6, uB, h⟩ := bsome h
   refine EL_do .plain rfl (D_call (g := g1) (vs := [tC]) en14 (.cons rfl .nil) (wk14 uC uB) fun eB kE tF hs hr => ?_)
   have hfr := hfr.ext hs
   have rp1 := rp1.ext hs
   have q1 := q1.ext hs
   subst hr
   refine EL_mw (.bool (v6)) rfl rfl ?_
   rcases csome h with ⟨j3, h⟩ | ⟨j3, h⟩
   ·refine EL_skip (.no2 rfl rfl j3 rfl) rfl ?_
    refine EL_skip (.no2 rfl rfl j3 rfl) rfl ?_
    refine EL_skip (.no2 rfl rfl j3 rfl) rfl ?_
    refine EL_pur (v := .bool true) (P_pick (b := v6) rfl (pick_t j3 rfl)) .plain rfl ?_
    refine EL_nil ?_
    obtain rfl := sinj h
    exact hQ _ _ ⟨eB, hfr, rfl, rp1, rfl, rfl, q1, rfl⟩
   ·refine EL_pur (v := up1) (P_move rfl) (.yes2 rfl rfl j3) rfl ?_
    refine EL_pur (v := .int .i64 ((x1).length : Int)) (P_len Try.underlying29 rfl rp1) (.yes2 rfl rfl j3) rfl ?_
    refine EL_pur (v := .bool ((decide (((x1).length : Int) > (110 : Int))))) (P_int rfl rfl rfl) (.yes2 rfl rfl j3) rfl ?_
    refine EL_pur (v := .bool ((decide (((x1).length : Int) > (110 : Int))))) (P_pick (b := v6) rfl (pick_f j3 rfl)) .plain rfl ?_
    refine EL_nil ?_
    obtain rfl := sinj h
    exact hQ _ _ ⟨eB, hfr, rfl, rp1, rfl, rfl, q1, rfl⟩
  ·clear hx
   obtain ⟨iB, hfr, z9, aA, bA, cA, dA, x6⟩ := hR
   rcases csome h with ⟨r7, h⟩ | ⟨r7, h⟩
   ·refine E_cond_true (Eq.trans (show ev _ _ = .bool (u3) from x6) (congrArg Value.bool r7)) ?_
    refine E_seq (E_region ?_)
    obtain ⟨b8, vB, h⟩ := bsome h
    refine EL_do .plain rfl (D_call (g := iB) (vs := []) en15 .nil (wk15  vB) fun uF lE vF hs hr => ?_)
    have hfr := hfr.ext hs
    subst hr
    refine EL_at (.bool (b8)) rfl rfl ?_
    refine EL_nil (thn_n (E_ret (thn_r ?_)))
    obtain rfl := sinj h
    exact end1 rfl rfl (show _ = .bool (b8) from rfl) ⟨_, hfr, rfl⟩
   ·refine E_cond_false (Eq.trans (show ev _ _ = .bool (u3) from x6) (congrArg Value.bool r7)) ?_
    exact E_skip (thn_n (tB () _ _ ⟨iB, hfr, z9, aA, bA, cA, dA⟩ h))
 ·rintro _ mE xF ⟨jB, hfr, l5, o0, m5, n5, u0⟩ h
  refine E_seq (E_region (EL_do .plain rfl (D_load (g := jB) Try.isAgg28 Try.sizeOf28 n5 u0 fun vC xC => ?_)))
  obtain ⟨t6, xB, h⟩ := bsome h
  refine EL_do .plain rfl (D_call (g := jB) (vs := [vC]) en16 (.cons rfl .nil) (wk16 xC xB) fun yC nE zC hs hr => ?_)
  have hfr := hfr.ext hs
  have o0 := o0.ext hs
  have u0 := u0.ext hs
  have y6 := hr
  refine EL_mv l5 rfl ?_
  obtain ⟨u6, yB, h⟩ := bsome h
  refine EL_do .plain rfl (D_call (g := yC) (vs := [up1]) en17 (.cons rfl .nil) (wk17 o0 yB) fun aD oE m4 hs hr => ?_)
  have hfr := hfr.ext hs
  have o0 := o0.ext hs
  have u0 := u0.ext hs
  have y6 := y6.ext hs
  have j2 := hr
  refine EL_do .plain rfl (D_allocOc (g := aD) 2007 (⟨⟨0, []⟩, ⟨0, []⟩⟩ : FaultLoom) Try.zeroValue28 (fun m w => ⟨_, (rep_two (rep_two rep_int rep_nil) (rep_two rep_int rep_nil)), rfl⟩) fun v8 kB lB hs b33 cb => ?_)
  have hfr := hfr.stp hs
  have o0 := o0.stp hs
  have u0 := u0.stp hs
  have y6 := y6.stp hs
  have j2 := j2.stp hs
  have tD : OSF 2007 60701 1 v8 kB 3 28 ([] : List Int) lB := cb.osf (by rfl)
  have uD : OSF 2007 60703 3 v8 kB 3 28 ([] : List Int) lB := cb.osf (by rfl)
  clear cb
  refine EL_do .plain rfl (D_storeOc (g := v8) (v := zC) Try.sizeOf28 rfl b33 rfl y6 fun mB yF hs b34 cb => ?_)
  clear cb
  have hfr := hfr.stp hs
  have o0 := o0.stp hs
  have u0 := u0.stp hs
  have j2 := j2.stp hs
  refine EL_at m4 rfl rfl ?_
  refine EL_nil (thn_n (E_seq (E_region (EL_do .plain rfl (D_loadO (g := mB) Try.isAgg28 Try.sizeOf28 rfl b34 fun bD cD => ?_)))))
  refine EL_mw m4 rfl rfl ?_
  obtain ⟨b6, zB, h⟩ := bsome h
  refine EL_do .plain rfl (D_call (g := mB) (vs := [bD, m4]) en18 (.cons rfl (.cons rfl .nil)) (wk18 cD j2 zB) fun nB pE zF hs hr => ?_)
  have hfr := hfr.ext hs
  have o0 := o0.ext hs
  have u0 := u0.ext hs
  have j2 := j2.ext hs
  have b34 := b34.ext hs
  subst hr
  refine EL_at (.int .i64 (b6)) rfl rfl ?_
  refine EL_nil (thn_n (E_seq (E_region (EL_do .plain rfl (D_loadO (g := nB) Try.isAgg28 Try.sizeOf28 rfl b34 fun dD eD => ?_)))))
  refine EL_mw m4 rfl rfl ?_
  refine EL_mv m5 rfl ?_
  obtain ⟨y0, aC, h⟩ := bsome h
  refine EL_do .plain rfl (D_call (g := nB) (vs := [dD, m4, .int .i64 (x2)]) en19 (.cons rfl (.cons rfl (.cons rfl .nil))) (wk19 eD j2 aC) fun oB qE aG hs hr => ?_)
  have hfr := hfr.ext hs
  have o0 := o0.ext hs
  have u0 := u0.ext hs
  have j2 := j2.ext hs
  have b34 := b34.ext hs
  obtain ⟨i1, vD, rfl, d3, rfl⟩ := hr
  refine EL_mw (.tuple #[i1, .int .i64 (y0.2)]) rfl rfl ?_
  refine EL_pur (v := i1) (P_extract rfl rfl) .plain rfl ?_
  refine EL_pur (v := .int .i64 (y0.2)) (P_extract rfl rfl) .plain rfl ?_
  refine EL_at i1 rfl rfl ?_
  refine EL_at (.int .i64 (y0.2)) rfl rfl ?_
  refine EL_nil (thn_n (E_seq (E_region (EL_do .plain rfl (D_loadO (g := oB) Try.isAgg28 Try.sizeOf28 rfl b34 fun gD iD => ?_)))))
  refine EL_mw m4 rfl rfl ?_
  refine EL_mv m5 rfl ?_
  obtain ⟨j0, bC, h⟩ := bsome h
  refine EL_do .plain rfl (D_call (g := oB) (vs := [gD, m4, .int .i64 (x2)]) en20 (.cons rfl (.cons rfl (.cons rfl .nil))) (wk20 iD j2 bC) fun x8 rE bG hs hr => ?_)
  have hfr := hfr.ext hs
  have o0 := o0.ext hs
  have u0 := u0.ext hs
  have j2 := j2.ext hs
  have b34 := b34.ext hs
  have d3 := d3.ext hs
  obtain ⟨j1, xD, rfl, z3, rfl⟩ := hr
  refine EL_mw (.tuple #[j1, .int .i64 (j0.2)]) rfl rfl ?_
  refine EL_pur (v := j1) (P_extract rfl rfl) .plain rfl ?_
  refine EL_pur (v := .int .i64 (j0.2)) (P_extract rfl rfl) .plain rfl ?_
  refine EL_at j1 rfl rfl ?_
  refine EL_at (.int .i64 (j0.2)) rfl rfl ?_
  refine EL_nil (thn_n (E_joinC h (fun (s : Unit) e w => ∃ (g : Gh) , Fr gI wI g w ∧ e 1 = up1 ∧ RV g.m w (x1 : List FaultDamage) up1 ∧ e 2 = .int .i64 (x2) ∧ e 3 = p1 ∧ PT g.m w (x0 : FaultLoom) p1 ∧ e 9 = .int .i64 (b6) ∧ e 10 = i1 ∧ RV g.m w (y0.1 : List Str) i1 ∧ e 11 = .int .i64 (y0.2) ∧ e 12 = j1 ∧ RV g.m w (j0.1 : List FaultSight) j1 ∧ e 13 = .int .i64 (j0.2)) (fun X60 cB cC h => ?_) ?_))
  ·obtain ⟨s3, hx, h⟩ := bsome h
   refine E_join (fun e w => ∃ (g : Gh) , Fr gI wI g w ∧ e 1 = up1 ∧ RV g.m w (x1 : List FaultDamage) up1 ∧ e 2 = .int .i64 (x2) ∧ e 3 = p1 ∧ PT g.m w (x0 : FaultLoom) p1 ∧ e 9 = .int .i64 (b6) ∧ e 10 = i1 ∧ RV g.m w (y0.1 : List Str) i1 ∧ e 11 = .int .i64 (y0.2) ∧ e 12 = j1 ∧ RV g.m w (j0.1 : List FaultSight) j1 ∧ e 13 = .int .i64 (j0.2) ∧ e 55 = .bool (s3)) (fun Q' hQ => ?_) (fun sE cG hR => ?_)
   ·replace h := hx
    clear hx
    refine E_region (EL_do .plain rfl (D_loadO (g := x8) Try.isAgg28 Try.sizeOf28 rfl b34 fun jD kD => ?_))
    refine EL_do .plain rfl (D_load (g := x8) Try.isAgg28 Try.sizeOf28 n5 u0 fun lD mD => ?_)
    obtain ⟨c6, dC, h⟩ := bsome h
    refine EL_do .plain rfl (D_call (g := x8) (vs := [jD, lD]) en21 (.cons rfl (.cons rfl .nil)) (wk21 kD mD dC) fun pB tE dG hs hr => ?_)
    have hfr := hfr.ext hs
    have o0 := o0.ext hs
    have u0 := u0.ext hs
    have j2 := j2.ext hs
    have d3 := d3.ext hs
    have z3 := z3.ext hs
    subst hr
    refine EL_pur (v := .bool (!c6)) (P_not rfl) .plain rfl ?_
    refine EL_mw (.bool (!c6)) rfl rfl ?_
    rcases csome h with ⟨z2, h⟩ | ⟨z2, h⟩
    ·refine EL_skip (.no2 rfl rfl z2 rfl) rfl ?_
     refine EL_skip (.no2 rfl rfl z2 rfl) rfl ?_
     refine EL_skip (.no2 rfl rfl z2 rfl) rfl ?_
     refine EL_skip (.no2 rfl rfl z2 rfl) rfl ?_
     refine EL_pur (v := .bool true) (P_pick (b := (!c6)) rfl (pick_t z2 rfl)) .plain rfl ?_
     refine EL_nil ?_
     obtain rfl := sinj h
     exact hQ _ _ ⟨pB, hfr, l5, o0, m5, n5, u0, rfl, rfl, d3, rfl, rfl, z3, rfl, rfl⟩
    ·refine EL_pur (v := m4) (P_move rfl) (.yes2 rfl rfl z2) rfl ?_
     refine EL_pur (v := up1) (P_move l5) (.yes2 rfl rfl z2) rfl ?_
     obtain ⟨a8, eC, h⟩ := bsome h
     refine EL_do (.yes2 rfl rfl z2) rfl (D_call (g := pB) (vs := [m4, up1]) en22 (.cons rfl (.cons rfl .nil)) (wk22 j2 o0 eC) fun nD uE eG hs hr => ?_)
     have hfr := hfr.ext hs
     have o0 := o0.ext hs
     have u0 := u0.ext hs
     have d3 := d3.ext hs
     have z3 := z3.ext hs
     subst hr
     refine EL_pur (v := .bool (!a8)) (P_not rfl) (.yes2 rfl rfl z2) rfl ?_
     refine EL_pur (v := .bool (!a8)) (P_pick (b := (!c6)) rfl (pick_f z2 rfl)) .plain rfl ?_
     refine EL_nil ?_
     obtain rfl := sinj h
     exact hQ _ _ ⟨nD, hfr, l5, o0, m5, n5, u0, rfl, rfl, d3, rfl, rfl, z3, rfl, rfl⟩
   ·clear hx
    obtain ⟨oD, hfr, eA, gA, iA, jA, kA, lA, y8, z8, a9, b9, c9, d9, z6⟩ := hR
    rcases csome h with ⟨t7, h⟩ | ⟨t7, h⟩
    ·refine E_cond_true (Eq.trans (show ev _ _ = .bool (s3) from z6) (congrArg Value.bool t7)) ?_
     refine E_seq (E_region (EL_at (.bool false) rfl rfl ?_))
     refine EL_nil (thn_n (E_ret (thn_r ?_)))
     obtain rfl := sinj h
     exact end1 rfl rfl (show _ = .bool false from rfl) ⟨_, hfr, rfl⟩
    ·refine E_cond_false (Eq.trans (show ev _ _ = .bool (s3) from z6) (congrArg Value.bool t7)) ?_
     exact E_skip (thn_n (cC () _ _ ⟨oD, hfr, eA, gA, iA, jA, kA, lA, y8, z8, a9, b9, c9, d9⟩ h))
  ·rintro _ vE gG ⟨qB, hfr, c8, o5, mA, d8, p5, nA, e9, u5, g9, i9, x5, j9⟩ h
   refine E_seq (E_region (EL_do .plain rfl (D_load (g := qB) Try.isAgg28 Try.sizeOf28 d8 p5 fun pD qD => ?_)))
   refine EL_mv c8 rfl ?_
   obtain ⟨i3, iC, h⟩ := bsome h
   refine EL_do .plain rfl (D_call (g := qB) (vs := [pD, up1]) en23 (.cons rfl (.cons rfl .nil)) (wk23 qD o5 iC) fun rD xE hG hs hr => ?_)
   have hfr := hfr.ext hs
   have o5 := o5.ext hs
   have p5 := p5.ext hs
   have u5 := u5.ext hs
   have x5 := x5.ext hs
   subst hr
   refine EL_at (.int .i64 (i3)) rfl rfl ?_
   refine EL_nil (thn_n (E_joinC h (fun (s : Unit) e w => ∃ (g : Gh) , Fr gI wI g w ∧ e 1 = up1 ∧ RV g.m w (x1 : List FaultDamage) up1 ∧ e 2 = .int .i64 (x2) ∧ e 3 = p1 ∧ PT g.m w (x0 : FaultLoom) p1 ∧ e 10 = i1 ∧ RV g.m w (y0.1 : List Str) i1 ∧ e 11 = .int .i64 (y0.2) ∧ e 12 = j1 ∧ RV g.m w (j0.1 : List FaultSight) j1 ∧ e 13 = .int .i64 (j0.2) ∧ e 14 = .int .i64 (i3)) (fun X82 bB jC h => ?_) ?_))
   ·refine E_seq (E_region (EL_mv nA rfl ?_))
    refine EL_mw (.int .i64 (i3)) rfl rfl ?_
    refine EL_in (.bool ((b6 != i3))) rfl rfl rfl rfl ?_
    refine EL_nil (thn_n ?_)
    rcases csome h with ⟨u7, h⟩ | ⟨u7, h⟩
    ·refine E_ct u7 rfl ?_
     refine E_seq (E_region (EL_at (.bool false) rfl rfl ?_))
     refine EL_nil (thn_n (E_ret (thn_r ?_)))
     obtain rfl := sinj h
     exact end1 rfl rfl (show _ = .bool false from rfl) ⟨_, hfr, rfl⟩
    ·refine E_cf u7 rfl ?_
     exact E_skip (thn_n (jC () _ _ ⟨rD, hfr, c8, o5, mA, d8, p5, e9, u5, g9, i9, x5, j9, rfl⟩ h))
   ·rintro _ yE iG ⟨rB, hfr, e8, q5, o6, g8, t5, a7, n4, b7, c7, o4, d7, y5⟩ h
    obtain ⟨n0, hx, h⟩ := bsome h
    refine E_join (fun e w => ∃ (g : Gh) , Fr gI wI g w ∧ e 1 = up1 ∧ RV g.m w (x1 : List FaultDamage) up1 ∧ e 2 = .int .i64 (x2) ∧ e 3 = p1 ∧ PT g.m w (x0 : FaultLoom) p1 ∧ e 10 = i1 ∧ RV g.m w (y0.1 : List Str) i1 ∧ e 11 = .int .i64 (y0.2) ∧ e 12 = j1 ∧ RV g.m w (j0.1 : List FaultSight) j1 ∧ e 13 = .int .i64 (j0.2) ∧ e 14 = .int .i64 (n0)) (fun Q' hQ => ?_) (fun yD zE hR => ?_)
    ·replace h := hx
     clear hx
     obtain ⟨q3, hx, h⟩ := bsome h
     refine E_join (fun e w => ∃ (g : Gh) , Fr gI wI g w ∧ e 1 = up1 ∧ RV g.m w (x1 : List FaultDamage) up1 ∧ e 2 = .int .i64 (x2) ∧ e 3 = p1 ∧ PT g.m w (x0 : FaultLoom) p1 ∧ e 10 = i1 ∧ RV g.m w (y0.1 : List Str) i1 ∧ e 11 = .int .i64 (y0.2) ∧ e 12 = j1 ∧ RV g.m w (j0.1 : List FaultSight) j1 ∧ e 13 = .int .i64 (j0.2) ∧ e 14 = .int .i64 (i3) ∧ e 68 = .bool (q3)) (fun Q' hQ => ?_) (fun aF jG hR => ?_)
     ·replace h := hx
      clear hx
      refine E_region (EL_mv y5 rfl ?_)
      refine EL_in (.bool ((i3 == (0 : Int)))) rfl rfl rfl rfl ?_
      refine EL_mw (.bool ((i3 == (0 : Int)))) rfl rfl ?_
      rcases csome h with ⟨o3, h⟩ | ⟨o3, h⟩
      ·refine EL_pur (v := .int .i64 (x2)) (P_move o6) (.yes2 rfl rfl o3) rfl ?_
       obtain ⟨y98, kC, h⟩ := bsome h
       refine EL_do (.yes2 rfl rfl o3) rfl (D_call (g := rB) (vs := [.int .i64 (x2), .int .i64 (1), .int .i64 (120)]) en24 (.cons rfl (.cons rfl (.cons rfl .nil))) (wk24  kC) fun sD bF kG hs hr => ?_)
       have hfr := hfr.ext hs
       have q5 := q5.ext hs
       have t5 := t5.ext hs
       have n4 := n4.ext hs
       have o4 := o4.ext hs
       subst hr
       refine EL_pur (v := .bool (!y98)) (P_not rfl) (.yes2 rfl rfl o3) rfl ?_
       refine EL_pur (v := .bool (!y98)) (P_pick (b := (i3 == (0 : Int))) rfl (pick_t o3 rfl)) .plain rfl ?_
       refine EL_nil ?_
       obtain rfl := sinj h
       exact hQ _ _ ⟨sD, hfr, e8, q5, o6, g8, t5, a7, n4, b7, c7, o4, d7, y5, rfl⟩
      ·refine EL_skip (.no2 rfl rfl o3 rfl) rfl ?_
       refine EL_skip (.no2 rfl rfl o3 rfl) rfl ?_
       refine EL_skip (.no2 rfl rfl o3 rfl) rfl ?_
       refine EL_pur (v := .bool false) (P_pick (b := (i3 == (0 : Int))) rfl (pick_f o3 rfl)) .plain rfl ?_
       refine EL_nil ?_
       obtain rfl := sinj h
       exact hQ _ _ ⟨rB, hfr, e8, q5, o6, g8, t5, a7, n4, b7, c7, o4, d7, y5, rfl⟩
     ·clear hx
      obtain ⟨sB, hfr, i8, j8, k8, l8, m8, e7, g7, i7, j7, l7, m7, k9, n7⟩ := hR
      rcases csome h with ⟨p6, h⟩ | ⟨p6, h⟩
      ·refine E_cond_true (Eq.trans (show ev _ _ = .bool (q3) from n7) (congrArg Value.bool p6)) ?_
       refine E_region (EL_at (.int .i64 (3)) rfl rfl ?_)
       refine EL_nil ?_
       obtain rfl := sinj h
       exact hQ _ _ ⟨sB, hfr, i8, j8, k8, l8, m8, e7, g7, i7, j7, l7, m7, rfl⟩
      ·refine E_cond_false (Eq.trans (show ev _ _ = .bool (q3) from n7) (congrArg Value.bool p6)) ?_
       refine E_skip ?_
       obtain rfl := sinj h
       exact hQ _ _ ⟨sB, hfr, i8, j8, k8, l8, m8, e7, g7, i7, j7, l7, m7, k9⟩
    ·clear hx
     obtain ⟨z5, hfr, l9, m9, n9, o9, p9, d6, e6, i6, j6, k6, l6, i5⟩ := hR
     refine E_joinC h (fun (s : Unit) e w => ∃ (g : Gh) , Fr gI wI g w ∧ e 1 = up1 ∧ RV g.m w (x1 : List FaultDamage) up1 ∧ e 2 = .int .i64 (x2) ∧ e 3 = p1 ∧ PT g.m w (x0 : FaultLoom) p1 ∧ e 10 = i1 ∧ RV g.m w (y0.1 : List Str) i1 ∧ e 11 = .int .i64 (y0.2) ∧ e 12 = j1 ∧ RV g.m w (j0.1 : List FaultSight) j1 ∧ e 13 = .int .i64 (j0.2)) (fun X114 t8 oA h => ?_) ?_
     ·refine E_seq (E_region (EL_mv i5 rfl ?_))
      refine EL_in (.bool ((n0 != (0 : Int)))) rfl rfl rfl rfl ?_
      refine EL_nil (thn_n ?_)
      rcases csome h with ⟨q6, h⟩ | ⟨q6, h⟩
      ·refine E_ct q6 rfl ?_
       obtain ⟨j4, hx, h⟩ := bsome h
       refine E_join (fun e w => ∃ (g : Gh) , Fr gI wI g w ∧ e 6 = .bool (j4)) (fun Q' hQ => ?_) (fun zD cF hR => ?_)
       ·replace h := hx
        clear hx
        refine E_region (EL_mv i6 rfl ?_)
        refine EL_mv i5 rfl ?_
        refine EL_in (.bool ((y0.2 == n0))) rfl rfl rfl rfl ?_
        refine EL_mw (.bool ((y0.2 == n0))) rfl rfl ?_
        rcases csome h with ⟨q2, h⟩ | ⟨q2, h⟩
        ·refine EL_pur (v := .int .i64 (j0.2)) (P_move l6) (.yes2 rfl rfl q2) rfl ?_
         refine EL_pur (v := .int .i64 (n0)) (P_move i5) (.yes2 rfl rfl q2) rfl ?_
         refine EL_pur (v := .bool ((j0.2 == n0))) (P_int rfl rfl rfl) (.yes2 rfl rfl q2) rfl ?_
         refine EL_pur (v := .bool ((j0.2 == n0))) (P_pick (b := (y0.2 == n0)) rfl (pick_t q2 rfl)) .plain rfl ?_
         refine EL_mw (.bool ((j0.2 == n0))) rfl rfl ?_
         rcases csome h with ⟨z1, h⟩ | ⟨z1, h⟩
         ·refine EL_pur (v := i1) (P_move d6) (.yes2 rfl rfl z1) rfl ?_
          refine EL_pur (v := .int .i64 ((y0.1).length : Int)) (P_len Try.underlying36 rfl e6) (.yes2 rfl rfl z1) rfl ?_
          refine EL_pur (v := j1) (P_move j6) (.yes2 rfl rfl z1) rfl ?_
          refine EL_pur (v := .int .i64 ((j0.1).length : Int)) (P_len Try.underlying39 rfl k6) (.yes2 rfl rfl z1) rfl ?_
          refine EL_pur (v := .int .i64 ((w64 (((y0.1).length : Int) + ((j0.1).length : Int))))) (P_int rfl rfl rfl) (.yes2 rfl rfl z1) rfl ?_
          refine EL_pur (v := .bool (((w64 (((y0.1).length : Int) + ((j0.1).length : Int))) == (0 : Int)))) (P_int rfl rfl rfl) (.yes2 rfl rfl z1) rfl ?_
          refine EL_pur (v := .bool (((w64 (((y0.1).length : Int) + ((j0.1).length : Int))) == (0 : Int)))) (P_pick (b := (j0.2 == n0)) rfl (pick_t z1 rfl)) .plain rfl ?_
          refine EL_pur (v := .bool (((w64 (((y0.1).length : Int) + ((j0.1).length : Int))) == (0 : Int)))) (P_move rfl) .plain rfl ?_
          rcases csome h with ⟨p4, h⟩ | ⟨p4, h⟩
          ·obtain ⟨n6, pA, h⟩ := bsome h
           refine EL_do (.yes2 rfl rfl p4) rfl (D_call (g := z5) (vs := []) en15 .nil (wk15  pA) fun lC aE dF hs hr => ?_)
           have hfr := hfr.ext hs
           subst hr
           refine EL_pur (v := .bool (n6)) (P_pick (b := ((w64 (((y0.1).length : Int) + ((j0.1).length : Int))) == (0 : Int))) rfl (pick_t p4 rfl)) .plain rfl ?_
           refine EL_at (.bool (n6)) rfl rfl ?_
           refine EL_nil ?_
           obtain rfl := sinj h
           exact hQ _ _ ⟨lC, hfr, rfl⟩
          ·refine EL_skip (.no2 rfl rfl p4 rfl) rfl ?_
           refine EL_pur (v := .bool false) (P_pick (b := ((w64 (((y0.1).length : Int) + ((j0.1).length : Int))) == (0 : Int))) rfl (pick_f p4 rfl)) .plain rfl ?_
           refine EL_at (.bool false) rfl rfl ?_
           refine EL_nil ?_
           obtain rfl := sinj h
           exact hQ _ _ ⟨z5, hfr, rfl⟩
         ·refine EL_skip (.no2 rfl rfl z1 rfl) rfl ?_
          refine EL_skip (.no2 rfl rfl z1 rfl) rfl ?_
          refine EL_skip (.no2 rfl rfl z1 rfl) rfl ?_
          refine EL_skip (.no2 rfl rfl z1 rfl) rfl ?_
          refine EL_skip (.no2 rfl rfl z1 rfl) rfl ?_
          refine EL_skip (.no2 rfl rfl z1 rfl) rfl ?_
          refine EL_pur (v := .bool false) (P_pick (b := (j0.2 == n0)) rfl (pick_f z1 rfl)) .plain rfl ?_
          refine EL_dead 3 rfl ?_
          refine EL_at (.bool false) rfl rfl ?_
          refine EL_nil ?_
          obtain rfl := sinj h
          exact hQ _ _ ⟨z5, hfr, rfl⟩
        ·refine EL_skip (.no2 rfl rfl q2 rfl) rfl ?_
         refine EL_skip (.no2 rfl rfl q2 rfl) rfl ?_
         refine EL_skip (.no2 rfl rfl q2 rfl) rfl ?_
         refine EL_pur (v := .bool false) (P_pick (b := (y0.2 == n0)) rfl (pick_f q2 rfl)) .plain rfl ?_
         refine EL_dead 11 rfl ?_
         refine EL_at (.bool false) rfl rfl ?_
         refine EL_nil ?_
         obtain rfl := sinj h
         exact hQ _ _ ⟨z5, hfr, rfl⟩
       ·clear hx
        obtain ⟨eF, hfr, q9⟩ := hR
        refine E_ret (thn_r ?_)
        obtain rfl := sinj h
        exact end1 rfl rfl (show _ = .bool (j4) from q9) ⟨_, hfr, rfl⟩
      ·refine E_cf q6 rfl ?_
       exact E_skip (thn_n (oA () _ _ ⟨z5, hfr, l9, m9, n9, o9, p9, d6, e6, i6, j6, k6, l6⟩ h))
     ·rintro _ bE gF ⟨mC, hfr, r9, s9, o7, p7, q7, n8, j5, o8, p8, i2, q8⟩ h
      refine E_seq (L_load (x := .tmp 3) Try.isAgg28 Try.sizeOf28 q7 fun t9 nC qA => ?_)
      obtain ⟨u4, rA, h⟩ := bsome h
      obtain ⟨c4, sA, h⟩ := bsome h
      refine L_load (x := .tmp 3) Try.isAgg28 Try.sizeOf28 q7 fun u9 oC tA => ?_
      obtain ⟨x4, uA, h⟩ := bsome h
      obtain ⟨z4, vA, h⟩ := bsome h
      refine E_drawL (g := mC) (n := 11) [(2, (fun v g w => RV g.m w u4 v)), (4, (fun v g w => RV g.m w c4 v)), (6, (fun v g w => RV g.m w x4 v)), (8, (fun v g w => RV g.m w z4 v))] [0, 1, 2, 3, 4, 5, 6, 7, 8, 9, 10] rfl mixed (by kernel_rfl) (⟨fun _ => up_rv, fun _ => up_rv, fun _ => up_rv, fun _ => up_rv, trivial⟩) ?_
      refine L_ld (c := t9) rfl rfl .plain (fun _ _ h => h.ch) qA p7 ?_
      refine L_pur (c := up1) rfl rfl .plain (fun _ _ hd => P_move r9) ?_
      refine L_do (φ := fun v g w => RV g.m w u4 v) rfl rfl .plain (fun g w hd => D_call (g := g) (vs := [t9, up1]) en26 (.cons rfl (.cons rfl .nil)) (wk26 (nC.ext hd.1) (s9.ext hd.1) rA) fun g' w' v hs hr => ⟨g', hs, hr⟩) (fun v7 hv => ?_)
      obtain ⟨_, _, _, rq129⟩ := hv
      refine L_pur (c := .int .i64 (x2)) rfl rfl .plain (fun _ _ hd => P_move o7) ?_
      refine L_do (φ := fun v g w => RV g.m w c4 v) rfl rfl .plain (fun g w hd => D_call (g := g) (vs := [v7, .int .i64 (x2)]) en25 (.cons rfl (.cons rfl .nil)) (wk25 (word (A := fun g w => RV g.m w u4 v7) 2 rfl rfl (deps_of hd)) sA) fun g' w' v hs hr => ⟨g', hs, hr⟩) (fun d4 hv => ?_)
      obtain ⟨_, _, _, rq131⟩ := hv
      refine L_ld (c := u9) rfl rfl .plain (fun _ _ h => h.ch) tA p7 ?_
      refine L_do (φ := fun v g w => RV g.m w x4 v) rfl rfl .plain (fun g w hd => D_call (g := g) (vs := [u9, .slice none 0 0]) en26 (.cons rfl (.cons rfl .nil)) (wk26 (oC.ext hd.1) RV_nil uA) fun g' w' v hs hr => ⟨g', hs, hr⟩) (fun x7 hv => ?_)
      obtain ⟨_, _, _, rq134⟩ := hv
      refine L_pur (c := .int .i64 (x2)) rfl rfl .plain (fun _ _ hd => P_move o7) ?_
      refine L_do (φ := fun v g w => RV g.m w z4 v) rfl rfl .plain (fun g w hd => D_call (g := g) (vs := [x7, .int .i64 (x2)]) en25 (.cons rfl (.cons rfl .nil)) (wk25 (word (A := fun g w => RV g.m w x4 x7) 6 rfl rfl (deps_of hd)) vA) fun g' w' v hs hr => ⟨g', hs, hr⟩) (fun a6 hv => ?_)
      obtain ⟨_, _, _, rq136⟩ := hv
      refine L_pur (c := d4) rfl rfl .plain (fun _ _ hd => P_assign rfl) ?_
      refine L_pur (c := a6) rfl rfl .plain (fun _ _ hd => P_assign rfl) ?_
      refine L_nil fun v9 iF hall => ?_
      have hs := hall.1
      have hfr := hfr.ext hs
      have j5 := j5.ext hs
      have i2 := i2.ext hs
      have jF := (word_all (A := fun g w => RV g.m w u4 v7) 2 rfl hall)
      have kF := (word_all (A := fun g w => RV g.m w c4 d4) 4 rfl hall)
      have lF := (word_all (A := fun g w => RV g.m w x4 x7) 6 rfl hall)
      have mF := (word_all (A := fun g w => RV g.m w z4 a6) 8 rfl hall)
      have r6 := (word_all (A := fun g w => RV g.m w c4 d4) 4 rfl hall)
      have y7 := (word_all (A := fun g w => RV g.m w z4 a6) 8 rfl hall)
      clear hs hall
      refine EL_nil (thn_n ?_)
      obtain ⟨i4, hx, h⟩ := bsome h
      refine E_join (fun e w => ∃ (g : Gh) , Fr gI wI g w ∧ e 6 = .bool (i4)) (fun Q' hQ => ?_) (fun cE nF hR => ?_)
      ·replace h := hx
       clear hx
       refine E_region (EL_mv o8 rfl ?_)
       refine EL_in (.bool ((y0.2 == (0 : Int)))) rfl rfl rfl rfl ?_
       refine EL_mw (.bool ((y0.2 == (0 : Int)))) rfl rfl ?_
       rcases csome h with ⟨s2, h⟩ | ⟨s2, h⟩
       ·refine EL_pur (v := i1) (P_move n8) (.yes2 rfl rfl s2) rfl ?_
        refine EL_pur (v := d4) (P_move rfl) (.yes2 rfl rfl s2) rfl ?_
        obtain ⟨c5, xA, h⟩ := bsome h
        refine EL_do (.yes2 rfl rfl s2) rfl (D_call (g := v9) (vs := [i1, d4]) en27 (.cons rfl (.cons rfl .nil)) (wk27 j5 r6 xA) fun z7 dE oF hs hr => ?_)
        have hfr := hfr.ext hs
        have i2 := i2.ext hs
        have r6 := r6.ext hs
        have y7 := y7.ext hs
        subst hr
        refine EL_pur (v := .bool (c5)) (P_pick (b := (y0.2 == (0 : Int))) rfl (pick_t s2 rfl)) .plain rfl ?_
        refine EL_mw (.bool (c5)) rfl rfl ?_
        rcases csome h with ⟨p3, h⟩ | ⟨p3, h⟩
        ·refine EL_pur (v := .int .i64 (j0.2)) (P_move q8) (.yes2 rfl rfl p3) rfl ?_
         refine EL_pur (v := .bool ((j0.2 == (0 : Int)))) (P_int rfl rfl rfl) (.yes2 rfl rfl p3) rfl ?_
         refine EL_pur (v := .bool ((j0.2 == (0 : Int)))) (P_pick (b := c5) rfl (pick_t p3 rfl)) .plain rfl ?_
         refine EL_mw (.bool ((j0.2 == (0 : Int)))) rfl rfl ?_
         rcases csome h with ⟨d2, h⟩ | ⟨d2, h⟩
         ·refine EL_pur (v := j1) (P_move p8) (.yes2 rfl rfl d2) rfl ?_
          refine EL_pur (v := d4) (P_move rfl) (.yes2 rfl rfl d2) rfl ?_
          refine EL_pur (v := a6) (P_move rfl) (.yes2 rfl rfl d2) rfl ?_
          obtain ⟨r8, yA, h⟩ := bsome h
          refine EL_do (.yes2 rfl rfl d2) rfl (D_call (g := z7) (vs := [d4, a6]) en29 (.cons rfl (.cons rfl .nil)) (wk29 r6 y7 yA) fun pC eE qC hs hr => ?_)
          have hfr := hfr.ext hs
          have i2 := i2.ext hs
          have rC := hr
          obtain ⟨d5, zA, h⟩ := bsome h
          refine EL_do (.yes2 rfl rfl d2) rfl (D_call (g := pC) (vs := [j1, qC]) en28 (.cons rfl (.cons rfl .nil)) (wk28 i2 rC zA) fun x9 gE pF hs hr => ?_)
          have hfr := hfr.ext hs
          subst hr
          refine EL_pur (v := .bool (d5)) (P_pick (b := (j0.2 == (0 : Int))) rfl (pick_t d2 rfl)) .plain rfl ?_
          refine EL_mw (.bool (d5)) rfl rfl ?_
          rcases csome h with ⟨q4, h⟩ | ⟨q4, h⟩
          ·obtain ⟨m6, aB, h⟩ := bsome h
           refine EL_do (.yes2 rfl rfl q4) rfl (D_call (g := x9) (vs := []) en15 .nil (wk15  aB) fun sC iE qF hs hr => ?_)
           have hfr := hfr.ext hs
           subst hr
           refine EL_pur (v := .bool (m6)) (P_pick (b := d5) rfl (pick_t q4 rfl)) .plain rfl ?_
           refine EL_at (.bool (m6)) rfl rfl ?_
           refine EL_nil ?_
           obtain rfl := sinj h
           exact hQ _ _ ⟨sC, hfr, rfl⟩
          ·refine EL_skip (.no2 rfl rfl q4 rfl) rfl ?_
           refine EL_pur (v := .bool false) (P_pick (b := d5) rfl (pick_f q4 rfl)) .plain rfl ?_
           refine EL_at (.bool false) rfl rfl ?_
           refine EL_nil ?_
           obtain rfl := sinj h
           exact hQ _ _ ⟨x9, hfr, rfl⟩
         ·refine EL_skip (.no2 rfl rfl d2 rfl) rfl ?_
          refine EL_skip (.no2 rfl rfl d2 rfl) rfl ?_
          refine EL_skip (.no2 rfl rfl d2 rfl) rfl ?_
          refine EL_skip (.no2 rfl rfl d2 rfl) rfl ?_
          refine EL_skip (.no2 rfl rfl d2 rfl) rfl ?_
          refine EL_pur (v := .bool false) (P_pick (b := (j0.2 == (0 : Int))) rfl (pick_f d2 rfl)) .plain rfl ?_
          refine EL_dead 3 rfl ?_
          refine EL_at (.bool false) rfl rfl ?_
          refine EL_nil ?_
          obtain rfl := sinj h
          exact hQ _ _ ⟨z7, hfr, rfl⟩
        ·refine EL_skip (.no2 rfl rfl p3 rfl) rfl ?_
         refine EL_skip (.no2 rfl rfl p3 rfl) rfl ?_
         refine EL_pur (v := .bool false) (P_pick (b := c5) rfl (pick_f p3 rfl)) .plain rfl ?_
         refine EL_dead 10 rfl ?_
         refine EL_at (.bool false) rfl rfl ?_
         refine EL_nil ?_
         obtain rfl := sinj h
         exact hQ _ _ ⟨z7, hfr, rfl⟩
       ·refine EL_skip (.no2 rfl rfl s2 rfl) rfl ?_
        refine EL_skip (.no2 rfl rfl s2 rfl) rfl ?_
        refine EL_skip (.no2 rfl rfl s2 rfl) rfl ?_
        refine EL_pur (v := .bool false) (P_pick (b := (y0.2 == (0 : Int))) rfl (pick_f s2 rfl)) .plain rfl ?_
        refine EL_dead 14 rfl ?_
        refine EL_at (.bool false) rfl rfl ?_
        refine EL_nil ?_
        obtain rfl := sinj h
        exact hQ _ _ ⟨v9, hfr, rfl⟩
      ·clear hx
       obtain ⟨rF, hfr, y9⟩ := hR
       refine E_ret ?_
       obtain rfl := sinj h
       exact end1 rfl rfl (show _ = .bool (i4) from y9) ⟨_, hfr, rfl⟩
/-- griffe/griffelaw05.FaultTells -/
def f5 (x0 : FaultLoom) (x1 : Pair) : Option (Bool) :=
 jn (σ := Unit) (fun (_ : Unit) =>
  (f16 x0).bind fun u5 =>
  (f37 u5 ((x1).A) ((x1).B)).bind fun j0 =>
  jn (σ := Unit) (fun (_ : Unit) =>
   (f23 x0 (([(x1).A, (x1).B] : List FaultDamage))).bind fun z3 =>
   jn (σ := Int) (fun d2 =>
    Option.bind (α := Bool) (
     bif (j0.2.2 == d2) then
      bif (j0.1 == (0 : Int)) then
       bif (j0.2.1 == (0 : Int)) then
        (f15).bind fun d4 =>
        some (d4)
       else
        some (false)
      else
       some (false)
     else
      some (false)
     ) fun j3 =>
    some (j3)
    ) fun c5 =>
   bif (z3 == (0 : Int)) then
    (f36 x0 ((x1).A)).bind fun s3 =>
    (f36 x0 ((x1).B)).bind fun y157 =>
    (f29 s3 y157).bind fun j1 =>
    jn (σ := Unit) (fun (_ : Unit) =>
     c5 ((7 : Int))
     ) fun x5 =>
    bif (decide (((j1).length : Int) > (0 : Int))) then
     Option.bind (α := Bool) (
      bif (j0.2.2 == (0 : Int)) then
       (idx j1 (0 : Int)).bind fun z2 =>
       bif (j0.1 == (z2).Pick) then
        (idx j1 (0 : Int)).bind fun d3 =>
        bif (j0.2.1 == (d3).Warp) then
         (f15).bind fun i4 =>
         some (i4)
        else
         some (false)
       else
        some (false)
      else
       some (false)
      ) fun o3 =>
     some (o3)
    else
     x5 ()
   else
    c5 (z3)
   ) fun j7 =>
  (f21 u5 x0).bind fun y5 =>
  bif (!y5) then
   some (false)
  else
   j7 ()
  ) fun k9 =>
 (f14 x0).bind fun l7 =>
 bif l7 then
  (f15).bind fun m5 =>
  some (m5)
 else
  k9 ()
end Go.Proofs.Ytpiaipiehjcflaa
