import Derived.Test.YtpiaipiehjcflaaCode3
set_option maxRecDepth 8000
set_option maxHeartbeats 4000000
namespace Go.Proofs.Ytpiaipiehjcflaa
open Go.RowKit
/-- griffe/fault.Can -/
def f32 (x0 : FaultLoom) (x1 : List FaultSight) : Option ((List FaultDamage) × Bool × Int) :=
 jn (σ := (List FaultDamage)) (fun i3 =>
  Option.bind (α := (List FaultDamage)) (
   ((fun σ cons s => f64 ((⟨x0⟩ : FaultFaultLoom)) σ cons s) ((List FaultDamage)) (fun j3 (m3, s4) =>
    (f65 s4 x1).bind fun v6 =>
    bif v6 then
     (apnd 40 j3 (([m3] : List FaultDamage))).bind fun i4 =>
     some (true, (i4))
    else
     some (true, (j3))
    ) (i3)).bind fun c4 =>
   some (c4)
   ) fun j1 =>
  (f55 ((⟨x0⟩ : FaultFaultLoom)) ([])).bind fun d2 =>
  (f65 d2 x1).bind fun i2 =>
  some (j1, i2, (0 : Int))
  ) fun x6 =>
 (f50 x0).bind fun m1 =>
 bif (m1 != (0 : Int)) then
  some ([], false, m1)
 else
  bif (decide (((x1).length : Int) > (60 : Int))) then
   some ([], false, (5 : Int))
  else
   (f63 x1 ((fun a0 => f61 a0 x0))).bind fun e5 =>
   bif e5 then
    some ([], false, (2 : Int))
   else
    x6 (([] : List FaultDamage))
theorem en32 : Enters Try.prog 32 := enters_of Try.func32 (by kernel_rfl) rfl
theorem wk32 {gI : Gh} {wI : World} {x0 : FaultLoom} {x1 : List FaultSight} {up0 : Value} (rp0 : RV gI.m wI x0 up0) {up1 : Value} (rp1 : RV gI.m wI x1 up1) {r : (List FaultDamage) × Bool × Int} (h : f32 x0 x1 = some r) : Fn Try.prog 32 #[up0, up1] gI wI (fun m w v => ∃ y0 y1 y2, v = .tuple #[y0, y1, y2] ∧ RV m w (r.1) y0 ∧ y1 = .bool (r.2.1) ∧ y2 = .int .i64 (r.2.2)) := by
 unfold f32 at h
 refine fnD_of_E Try.func32 rfl (Nat.le_of_ble_eq_true rfl) fun g0 hm hfr => ?_
 have hmk : MkF g0 wI [] := MkF.start
 have rp0 : RV g0.m wI x0 up0 := hm ▸ rp0
 have rp1 : RV g0.m wI x1 up1 := hm ▸ rp1
 show E _ 44 none _ _ _ _ _
 refine E_seq (E_region (EL_do .plain rfl (D_box (g := g0) rfl rp0 fun g1 w1 p1 hs q1 => ?_)))
 have hfr := hfr.ext hs
 have hmk := hmk.ext hs
 have rp1 := rp1.ext hs
 refine EL_do .plain rfl (D_box (g := g1) rfl rp1 fun g2 w2 p2 hs q2 => ?_)
 have hfr := hfr.ext hs
 have hmk := hmk.ext hs
 have q1 := q1.ext hs
 refine EL_do .plain rfl (D_allocOc (g := g2) 2004 ([] : List FaultDamage) Try.zeroValue29 (fun m w => ⟨_, rep_nil, rfl⟩) fun g3 w3 p3 hs b3 cb => ?_)
 have hfr := hfr.stp hs
 have hmk := hmk.stp hs
 have q1 := q1.stp hs
 have q2 := q2.stp hs
 have j2 : OSF 2004 60400 0 g3 w3 62 29 ([] : List FaultDamage) p3 := cb.osf (by rfl)
 clear cb
 refine EL_at (.bool false) rfl rfl ?_
 refine EL_at (.int .i64 (0)) rfl rfl ?_
 refine EL_nil (thn_n (E_seq (E_region (EL_pur (v := (.func (.func 61) #[] #[p1])) (P_makeFunc (capf_0_1 (show ev _ _ = p1 from rfl))) .plain rfl ?_))))
 refine EL_at ((.func (.func 61) #[] #[p1])) rfl rfl ?_
 refine EL_nil (thn_n (E_joinCD h (fun (s : (List FaultDamage)) e ds w => ∃ (g : Gh) , Fr gI wI g w ∧ MkF g w ds ∧ e 2 = p1 ∧ PT g.m w (x0 : FaultLoom) p1 ∧ e 3 = p2 ∧ PT g.m w (x1 : List FaultSight) p2 ∧ e 4 = p3 ∧ OB 2004 g w 29 (s : List FaultDamage) p3 ∧ OSF 2004 60400 0 g w 62 29 (s) p3) (fun X23 x6 d7 h => ?_) ?_))
 ·refine E_seq (E_region (EL_do .plain rfl (D_load (g := g3) Try.isAgg28 Try.sizeOf28 rfl q1 fun d8 e8 => ?_)))
  obtain ⟨m1, e7, h⟩ := bsome h
  refine EL_do .plain rfl (D_call (g := g3) (vs := [d8]) en50 (.cons rfl .nil) (wk50 e8 e7) fun d4 j9 y9 hs hr => ?_)
  have hfr := hfr.ext hs
  have hmk := hmk.ext hs
  have q1 := q1.ext hs
  have q2 := q2.ext hs
  have j2 := j2.ext hs
  have b3 := b3.ext hs
  subst hr
  refine EL_at (.int .i64 (m1)) rfl rfl ?_
  refine EL_nil (thn_n (E_block ?_))
  refine E_seq (E_region (EL_mw (.int .i64 (m1)) rfl rfl ?_))
  refine EL_in (.bool ((m1 != (0 : Int)))) rfl rfl rfl rfl ?_
  refine EL_at (.bool ((m1 != (0 : Int)))) rfl rfl ?_
  refine EL_nil (thn_n ?_)
  rcases csome h with ⟨j4, h⟩ | ⟨j4, h⟩
  ·refine E_ct j4 rfl ?_
   refine E_seq (E_region (EL_mw (.int .i64 (m1)) rfl rfl ?_))
   refine EL_do .plain rfl (D_storeOc (g := d4) (v := .slice none 0 0) Try.sizeOf29 rfl b3 rfl RV_nil fun g8 i8 hs b28 cb => ?_)
   have c9 : OSF 2004 60400 0 g8 i8 62 29 ([] : List FaultDamage) p3 := cb.osfr (rfl) OS.nil
   clear cb
   have hfr := hfr.stp hs
   have hmk := hmk.stp hs
   refine EL_at (.bool false) rfl rfl ?_
   refine EL_at (.int .i64 (m1)) rfl rfl ?_
   refine EL_nil (thn_n (E_ret (blk_r ?_)))
   refine thn_r ?_
   refine endM (.inr rfl) hmk fun z9 aA hs => ?_
   have hfr := hfr.stp hs
   have b28 := b28.stp hs rfl
   obtain rfl := sinj h
   obtain ⟨ad30, cv30, hp30, g7, cr30⟩ := ob_read Try.isAgg29 Try.sizeOf29 b28
   exact endm_ctt rfl rfl ((show _ = p3 from rfl).trans hp30) g7 (show _ = .bool false from rfl) (show _ = .int .i64 (m1) from rfl) ⟨_, hfr, _, _, _, rfl, cr30, rfl, rfl⟩
  ·refine E_cf j4 rfl ?_
   refine E_seq (E_region (EL_do .plain rfl (D_load (g := d4) Try.isAgg39 Try.sizeOf39 rfl q2 fun bA j8 => ?_)))
   refine EL_pur (v := .int .i64 ((x1).length : Int)) (P_len Try.underlying39 rfl j8) .plain rfl ?_
   refine EL_in (.bool ((decide (((x1).length : Int) > (60 : Int))))) rfl rfl rfl rfl ?_
   refine EL_at (.bool ((decide (((x1).length : Int) > (60 : Int))))) rfl rfl ?_
   refine EL_nil (thn_n ?_)
   rcases csome h with ⟨m4, h⟩ | ⟨m4, h⟩
   ·refine E_ct m4 rfl ?_
    refine E_seq (E_region (EL_do .plain rfl (D_storeOc (g := d4) (v := .slice none 0 0) Try.sizeOf29 rfl b3 rfl RV_nil fun k8 l8 hs b33 cb => ?_)))
    have d9 : OSF 2004 60400 0 k8 l8 62 29 ([] : List FaultDamage) p3 := cb.osfr (rfl) OS.nil
    clear cb
    have hfr := hfr.stp hs
    have hmk := hmk.stp hs
    refine EL_at (.bool false) rfl rfl ?_
    refine EL_at (.int .i64 (5)) rfl rfl ?_
    refine EL_nil (thn_n (E_ret (blk_r ?_)))
    refine thn_r ?_
    refine endM (.inr rfl) hmk fun cA dA hs => ?_
    have hfr := hfr.stp hs
    have b33 := b33.stp hs rfl
    obtain rfl := sinj h
    obtain ⟨ad35, cv35, hp35, i7, cr35⟩ := ob_read Try.isAgg29 Try.sizeOf29 b33
    exact endm_ctt rfl rfl ((show _ = p3 from rfl).trans hp35) i7 (show _ = .bool false from rfl) (show _ = .int .i64 (5) from rfl) ⟨_, hfr, _, _, _, rfl, cr35, rfl, rfl⟩
   ·refine E_cf m4 rfl ?_
    refine E_seq (E_region (EL_do .plain rfl (D_load (g := d4) Try.isAgg39 Try.sizeOf39 rfl q2 fun m8 n8 => ?_)))
    refine EL_mw ((.func (.func 61) #[] #[p1])) rfl rfl ?_
    obtain ⟨e5, j7, h⟩ := bsome h
    refine EL_do .plain rfl (D_call (g := d4) (vs := [m8, (.func (.func 61) #[] #[p1])]) en63 (.cons rfl (.cons rfl .nil)) (wk63 n8 ⟨61, #[], #[p1], rfl, en61, fun g' w' hch a0 b0 r hu0 hr => by exact Fn.mono (wk61 hu0 (q1.ch hch) hr) fun _ _ _ h => RV_bool.2 h⟩ j7) fun y6 k9 eA hs hr => ?_)
    have hfr := hfr.ext hs
    have hmk := hmk.ext hs
    have q1 := q1.ext hs
    have q2 := q2.ext hs
    have j2 := j2.ext hs
    have b3 := b3.ext hs
    subst hr
    refine EL_at (.bool (e5)) rfl rfl ?_
    refine EL_nil (thn_n ?_)
    rcases csome h with ⟨n4, h⟩ | ⟨n4, h⟩
    ·refine E_ct n4 rfl ?_
     refine E_seq (E_region (EL_do .plain rfl (D_storeOc (g := y6) (v := .slice none 0 0) Try.sizeOf29 rfl b3 rfl RV_nil fun o8 p8 hs b40 cb => ?_)))
     have e9 : OSF 2004 60400 0 o8 p8 62 29 ([] : List FaultDamage) p3 := cb.osfr (rfl) OS.nil
     clear cb
     have hfr := hfr.stp hs
     have hmk := hmk.stp hs
     refine EL_at (.bool false) rfl rfl ?_
     refine EL_at (.int .i64 (2)) rfl rfl ?_
     refine EL_nil (thn_n (E_ret (blk_r ?_)))
     refine thn_r ?_
     refine endM (.inr rfl) hmk fun gA iA hs => ?_
     have hfr := hfr.stp hs
     have b40 := b40.stp hs rfl
     obtain rfl := sinj h
     obtain ⟨ad42, cv42, hp42, l7, cr42⟩ := ob_read Try.isAgg29 Try.sizeOf29 b40
     exact endm_ctt rfl rfl ((show _ = p3 from rfl).trans hp42) l7 (show _ = .bool false from rfl) (show _ = .int .i64 (2) from rfl) ⟨_, hfr, _, _, _, rfl, cr42, rfl, rfl⟩
    ·refine E_cf n4 rfl ?_
     exact E_skip (blk_n (thn_n (d7 (([] : List FaultDamage)) _ _ _ ⟨y6, hfr, hmk, rfl, q1, rfl, q2, rfl, b3, j2⟩ h)))
 ·rintro i3 l9 u4 q8 ⟨i5, hfr, hmk, x4, c5, d5, k6, o3, l6, u4_0_43⟩ h
  obtain ⟨j1, hx, h⟩ := bsome h
  refine E_joinD (fun e ds w => ∃ (g : Gh) , Fr gI wI g w ∧ MkF g w ds ∧ e 2 = p1 ∧ PT g.m w (x0 : FaultLoom) p1 ∧ e 3 = p2 ∧ PT g.m w (x1 : List FaultSight) p2 ∧ e 4 = p3 ∧ OB 2004 g w 29 (j1 : List FaultDamage) p3 ∧ OSF 2004 60400 0 g w 62 29 (j1) p3) (fun Q' hQ => ?_) (fun g9 r8 m7 hR => ?_)
  ·replace h := hx
   clear hx
   refine E_seq (E_region (EL_do .plain rfl (D_load (g := i5) Try.isAgg28 Try.sizeOf28 x4 c5 fun j5 z6 => ?_)))
   have a7 : RV i5.m _ (⟨x0⟩ : FaultFaultLoom) (.agg (setCh [[.int .i64 0, .slice none 0 0, .int .i64 0, .slice none 0 0]] [(0, j5)]).flatten.toArray) := RV_build rfl (rep_last (RV.cells z6))
   generalize n7 : (Value.agg (setCh [[.int .i64 0, .slice none 0 0, .int .i64 0, .slice none 0 0]] [(0, j5)]).flatten.toArray) = e4 at a7
   refine EL_pur (v := e4) (n7 ▸ P_build (vs := [(0, j5)]) [[.int .i64 0, .slice none 0 0, .int .i64 0, .slice none 0 0]] lay_98 rfl rfl (.cons rfl .nil) ⟨⟨_, rfl, cells_size z6⟩, trivial⟩) .plain rfl ?_
   refine EL_pur (v := (.func (.func 64) #[e4] #[])) (P_makeFunc (capf_1_0 (show ev _ _ = e4 from rfl))) .plain rfl ?_
   refine EL_nil (thn_n (E_block ?_))
   have hB0 := hfr.size
   have hmk0 := hmk
   obtain ⟨c4, hφ, h⟩ := bsome h
   refine E_rangeFunc (σ := ((List FaultDamage))) (s0 := (i3)) 10 rfl (fun _ => 0) [] (fun (s : (List FaultDamage)) (g : Gh) (w : World) => Fr gI wI g w ∧ MkF g w u4 ∧ PT g.m w (x0 : FaultLoom) p1 ∧ PT g.m w (x1 : List FaultSight) p2 ∧ OB 2004 g w 29 (s : List FaultDamage) p3 ∧ OSF 2004 60400 0 g w 62 29 (s) p3) rfl (show ItV Try.prog (RA2 (α := FaultDamage) (β := (List Str))) (fun σ cons s => f64 ((⟨x0⟩ : FaultFaultLoom)) σ cons s) ((.func (.func 64) #[e4] #[])) i5.m q8 from ⟨64, #[e4], #[], rfl, en64, fun g' w' hch σ cons s s' h => wk64 (a7.ch hch)  h⟩) hφ (fun _ _ _ _ => rfl) rfl ra2_size rfl (fun _ _ _ _ _ hx hR => by obtain ⟨hfr, hmk, z2, z3, z4, z5⟩ := hR; exact ⟨hfr.ist hx hB0, hmk.ist hx, z2.ist hx, z3.ist hx, z4.ist hx, z5.ist hx⟩) (fun _ _ _ _ _ hx hR => by obtain ⟨hfr, hmk, z2, z3, z4, z5⟩ := hR; exact ⟨hfr.stp hx, hmk.stp hx, z2.stp hx, z3.stp hx, z4.stp hx rfl, z5.stp hx rfl⟩) ⟨hfr, hmk, c5, k6, l6, u4_0_43⟩ (fun _ h => by cases h) ?_ ?_
   ·intro m9 i9 s x b s2 b7 t8 vs hsz h hR hrec_0 l5 hrd
    obtain ⟨j3, hse⟩ : ∃ y, y = s := ⟨s, rfl⟩
    subst hse
    obtain ⟨hfr, hmk, n0, j0, u0, u4_0_92⟩ := hR
    obtain ⟨m3, s4⟩ := x
    obtain ⟨m6, q3, rfl, m2, i1⟩ := ra2_get hrd
    have o0 := RFr.refl b7 t8
    refine E_seq (E_region (EL_do .plain rfl (D_allocOc (g := b7) 2009 (⟨0, 0, 0, 0, false⟩ : FaultDamage) Try.zeroValue62 (fun m w => ⟨_, (rep_two rep_int (rep_two rep_int (rep_two rep_int (rep_two rep_int rep_bool)))), rfl⟩) fun v8 jA kA hs b93 cb => ?_)))
    have hfr := hfr.stp hs
    have hmk := hmk.stp hs
    have o0 := o0.stp hs
    have hrec_0 := hrec_0.stp hs rfl
    have n0 := n0.stp hs
    have j0 := j0.stp hs
    have u4_0_92 := u4_0_92.stp hs rfl
    have u0 := u0.stp hs rfl
    have m2 := m2.stp hs
    have i1 := i1.stp hs
    clear cb
    refine EL_do .plain rfl (D_storeOc (g := v8) (v := m6) Try.sizeOf62 rfl b93 rfl m2 fun c7 lA hs b94 cb => ?_)
    clear cb
    have hfr := hfr.stp hs
    have hmk := hmk.stp hs
    have o0 := o0.stp hs
    have hrec_0 := hrec_0.stp hs rfl
    have n0 := n0.stp hs
    have j0 := j0.stp hs
    have u4_0_92 := u4_0_92.stp hs rfl
    have u0 := u0.stp hs rfl
    have i1 := i1.stp hs
    refine EL_nil (thn_n (E_region (EL_at q3 rfl rfl ?_)))
    refine EL_nil (thn_n ?_)
    obtain ⟨x8, hbr, hs, hrN⟩ := begin_round hrec_0 l5
    refine ⟨x8, hbr, ?_⟩
    have hfr := hfr.stp hs
    have hmk := hmk.stp hs
    have o0 := o0.stp hs
    have n0 := n0.stp hs
    have j0 := j0.stp hs
    have u4_0_92 := u4_0_92.stp hs rfl
    have u0 := u0.stp hs rfl
    have i1 := i1.stp hs
    have b94 := b94.stp hs rfl
    have hrec_0 := hrN
    clear hbr hs hrN
    refine E_block ?_
    refine E_seq (E_region (EL_mw q3 rfl rfl ?_))
    refine EL_do .plain rfl (D_load (g := c7) Try.isAgg39 Try.sizeOf39 d5 j0 fun y8 z8 => ?_)
    obtain ⟨v6, o7, h⟩ := bsome h
    refine EL_do .plain rfl (D_call (g := c7) (vs := [q3, y8]) en65 (.cons rfl (.cons rfl .nil)) (wk65 i1 z8 o7) fun m5 n9 mA hs hr => ?_)
    have hfr := hfr.ext hs
    have hmk := hmk.ext hs
    have o0 := o0.ext hs
    have hrec_0 := hrec_0.ext hs
    have n0 := n0.ext hs
    have j0 := j0.ext hs
    have u4_0_92 := u4_0_92.ext hs
    have u0 := u0.ext hs
    have b94 := b94.ext hs
    subst hr
    refine EL_nil (thn_n ?_)
    rcases csome h with ⟨o4, h⟩ | ⟨o4, h⟩
    ·refine E_ct o4 rfl ?_
     refine E_region (EL_do .plain rfl (D_loadOS (g := m5) Try.isAgg29 Try.sizeOf29 o3 u0 u4_0_92 fun o9 p4 o100 => ?_))
     refine EL_do .plain rfl (D_loadO (g := m5) Try.isAgg62 Try.sizeOf62 rfl b94 fun p7 q7 => ?_)
     refine EL_do .plain rfl (D_buildSlice (g := m5) 3036 (xs := ([m3] : List FaultDamage)) (vs := [p7]) Try.underlying29 Try.sizeOf62 Try.zeroValue62 rfl rfl (.cons rfl .nil) (RVs.cons q7 RVs.nil) rfl rfl fun r7 p9 q9 hs o102 s7 hxt hfl => ?_)
     have hfr := hfr.stp hs
     have hmk := hmk.stp hs
     have o0 := o0.stp hs
     have hrec_0 := hrec_0.stp hs rfl
     have n0 := n0.stp hs
     have j0 := j0.stp hs
     have u0 := u0.stp hs rfl
     have p4 := p4.stp hs
     have o100 := o100.stp hs rfl
     obtain ⟨i4, n6, h⟩ := bsome h
     refine EL_do .plain rfl (D_append (g := r7) (i := 60400) Try.underlying29 info_62 rfl rfl o100 p4 rfl s7 n6 fun t7 r9 u7 hs o103 n5 _ => ?_)
     have hfr := hfr.stp hs
     have hmk := hmk.stp hs
     have o0 := o0.stp hs
     have hrec_0 := hrec_0.stp hs rfl
     have n0 := n0.stp hs
     have j0 := j0.stp hs
     have u0 := u0.stp hs rfl
     refine EL_do .plain rfl (D_storeOc (g := t7) (v := u7) Try.sizeOf29 o3 u0 rfl n5 fun v7 x7 hs b105 cb => ?_)
     have o5 : OSF 2004 60400 0 v7 x7 62 29 (i4 : List FaultDamage) p3 := cb.osfr (rv_cells1 n5) (o103.stp hs rfl)
     clear cb
     have hfr := hfr.stp hs
     have hmk := hmk.stp hs
     have o0 := o0.stp hs
     have hrec_0 := hrec_0.stp hs rfl
     have n0 := n0.stp hs
     have j0 := j0.stp hs
     refine EL_nil (blk_n ?_)
     obtain ⟨rfl, rfl⟩ := pairs2 h
     exact ⟨_, o0, ⟨hfr, hmk, n0, j0, b105, o5⟩, hrec_0, rfl, rfl⟩
    ·refine E_cf o4 rfl ?_
     refine E_skip (blk_n ?_)
     obtain ⟨rfl, rfl⟩ := pairs2 h
     exact ⟨_, o0, ⟨hfr, hmk, n0, j0, u0, u4_0_92⟩, hrec_0, rfl, rfl⟩
   ·intro y7 s9 ds107 hsz hR hds
    obtain ⟨hfr, hmk, p5, q5, t5, u4_0_107⟩ := hR
    obtain ⟨D, hdse, hD, hDb⟩ := hds.1 rfl
    subst hdse
    replace hmk := MkF.push hmk0 hmk hD hDb
    clear hD hDb hds
    revert hmk
    generalize ({ target := .collected D, args := #[] } :: u4 : List Deferred) = a9
    intro hmk
    refine ⟨fun _ => ?_, fun k c hs _ => absurd hs (Nat.succ_ne_zero k).symm⟩
    refine blk_n ?_
    obtain rfl := sinj h
    exact hQ _ _ _ ⟨y7, hfr, hmk, x4, p5, d5, q5, o3, t5, u4_0_107⟩
  ·clear hx
   obtain ⟨u5, hfr, hmk, x5, y5, a6, b6, d3, z1, u4_0_108⟩ := hR
   refine E_seq (L_loadOS (x := .tmp 4) Try.isAgg29 Try.sizeOf29 z1 u4_0_108 fun c6 s3 o109 o6 => ?_)
   refine L_load (x := .tmp 2) Try.isAgg28 Try.sizeOf28 y5 fun u3 d6 p6 => ?_
   have e6 : RV u5.m _ (⟨x0⟩ : FaultFaultLoom) (.agg (setCh [[.int .i64 0, .slice none 0 0, .int .i64 0, .slice none 0 0]] [(0, u3)]).flatten.toArray) := RV_build rfl (rep_last (RV.cells d6))
   generalize q6 : (Value.agg (setCh [[.int .i64 0, .slice none 0 0, .int .i64 0, .slice none 0 0]] [(0, u3)]).flatten.toArray) = i6 at e6
   obtain ⟨d2, r6, h⟩ := bsome h
   refine L_load (x := .tmp 3) Try.isAgg39 Try.sizeOf39 b6 fun j6 z7 s6 => ?_
   obtain ⟨i2, t6, h⟩ := bsome h
   refine E_drawL (g := u5) (n := 6) [(3, (fun v g w => RV g.m w d2 v)), (5, (fun v g w => v = .bool (i2)))] [0, 1, 2, 3, 4, 5] rfl mixed (by kernel_rfl) (⟨fun _ => up_rv, fun _ => up_eq _, trivial⟩) ?_
   refine L_ld (c := c6) rfl rfl .plain (fun _ _ h => ⟨h.ch, fun b hb _ => h.below.block b hb⟩) o6 d3 ?_
   refine L_ld (c := u3) rfl rfl .plain (fun _ _ h => h.ch) p6 x5 ?_
   refine L_pur (c := i6) rfl rfl .plain (fun _ _ hd => q6 ▸ P_build (vs := [(0, u3)]) [[.int .i64 0, .slice none 0 0, .int .i64 0, .slice none 0 0]] lay_98 rfl rfl (.cons rfl .nil) ⟨⟨_, rfl, cells_size d6⟩, trivial⟩) ?_
   refine L_do (φ := fun v g w => RV g.m w d2 v) rfl rfl .plain (fun g w hd => D_call (g := g) (vs := [i6, .slice none 0 0]) en55 (.cons rfl (.cons rfl .nil)) (wk55 (e6.ext hd.1) RV_nil r6) fun g' w' v hs hr => ⟨g', hs, hr⟩) (fun q4 hv => ?_)
   obtain ⟨_, _, _, rq112⟩ := hv
   refine L_ld (c := j6) rfl rfl .plain (fun _ _ h => h.ch) s6 a6 ?_
   refine L_do (φ := fun v g w => v = .bool (i2)) rfl rfl .plain (fun g w hd => D_call (g := g) (vs := [q4, j6]) en65 (.cons rfl (.cons rfl .nil)) (wk65 (word (A := fun g w => RV g.m w d2 q4) 3 rfl rfl (deps_of hd)) (z7.ext hd.1) t6) fun g' w' v hs hr => ⟨g', hs, hr⟩) (fun t9 hv => ?_)
   obtain ⟨_, _, _, rfl⟩ := hv
   refine L_nil fun a8 u9 hall => ?_
   have hs := hall.1
   have hfr := hfr.ext hs
   have hmk := hmk.ext hs
   have z1 := z1.ext hs
   have s3 := s3.ext hs
   have o109 := o109.ext hs
   have v9 := (word_all (A := fun g w => RV g.m w d2 q4) 3 rfl hall)
   clear hs hall
   refine EL_do .plain rfl (D_storeOc (g := a8) (v := c6) Try.sizeOf29 d3 z1 rfl s3 fun b8 c8 hs b127 cb => ?_)
   have b9 : OSF 2004 60400 0 b8 c8 62 29 (j1 : List FaultDamage) p3 := cb.osfr (rv_cells1 s3) (o109.stp hs rfl)
   clear cb
   have hfr := hfr.stp hs
   have hmk := hmk.stp hs
   refine EL_at (.bool (i2)) rfl rfl ?_
   refine EL_at (.int .i64 (0)) rfl rfl ?_
   refine EL_nil (thn_n (E_ret (endM (.inr rfl) hmk fun x9 m7 hs => ?_)))
   have hfr := hfr.stp hs
   have b127 := b127.stp hs rfl
   obtain rfl := sinj h
   obtain ⟨ad129, cv129, hp129, u6, cr129⟩ := ob_read Try.isAgg29 Try.sizeOf29 b127
   exact endm_ctt rfl rfl ((show _ = p3 from d3).trans hp129) u6 (show _ = .bool (i2) from rfl) (show _ = .int .i64 (0) from rfl) ⟨_, hfr, _, _, _, rfl, cr129, rfl, rfl⟩
/-- griffe/fault.Tell -/
def f37 (x0 : FaultLoom) (x1 : FaultDamage) (x2 : FaultDamage) : Option (Int × Int × Int) :=
 jn (σ := Int × Int × Int) (fun (i4, j4, m4) =>
  jn (σ := Int × Int × Int) (fun (_x5, _y5, _a6) =>
   some ((0 : Int), (0 : Int), (7 : Int))
   ) fun d7 =>
  (f55 ((⟨x0⟩ : FaultFaultLoom)) (([x1] : List FaultDamage))).bind fun c4 =>
  (f55 ((⟨x0⟩ : FaultFaultLoom)) (([x2] : List FaultDamage))).bind fun d4 =>
  (f56 c4 d4).bind fun e4 =>
  (e4 (Nat × Int × Int × Int) (guardC fun (_c6, _d6, _e6) (u0, i1) =>
   some (false, ((1 : Nat), (u0, i1, (0 : Int))))
   ) (0, (i4, j4, m4))).bind fun (i2, (j2, m2, d3)) =>
  bif Nat.beq i2 0 then
   d7 (j2, m2, d3)
  else
   some (j2, m2, d3)
  ) fun e7 =>
 (f18 x0 (([x1, x2] : List FaultDamage))).bind fun o3 =>
 bif (o3 != (0 : Int)) then
  some ((0 : Int), (0 : Int), o3)
 else
  e7 ((0 : Int), (0 : Int), (0 : Int))
theorem en37 : Enters Try.prog 37 := enters_of Try.func37 (by kernel_rfl) rfl
theorem wk37 {gI : Gh} {wI : World} {x0 : FaultLoom} {x1 : FaultDamage} {x2 : FaultDamage} {up0 : Value} (rp0 : RV gI.m wI x0 up0) {up1 : Value} (rp1 : RV gI.m wI x1 up1) {up2 : Value} (rp2 : RV gI.m wI x2 up2) {r : Int × Int × Int} (h : f37 x0 x1 x2 = some r) : Fn Try.prog 37 #[up0, up1, up2] gI wI (fun _m _w v => ∃ y0 y1 y2, v = .tuple #[y0, y1, y2] ∧ y0 = .int .i64 (r.1) ∧ y1 = .int .i64 (r.2.1) ∧ y2 = .int .i64 (r.2.2)) := by
 unfold f37 at h
 refine fnD_of_E Try.func37 rfl (Nat.le_of_ble_eq_true rfl) fun g0 hm hfr => ?_
 have hmk : MkF g0 wI [] := MkF.start
 have rp0 : RV g0.m wI x0 up0 := hm ▸ rp0
 have rp1 : RV g0.m wI x1 up1 := hm ▸ rp1
 have rp2 : RV g0.m wI x2 up2 := hm ▸ rp2
 show E _ 35 none _ _ _ _ _
 refine E_seq (E_region (EL_do .plain rfl (D_box (g := g0) rfl rp0 fun g1 w1 p1 hs q1 => ?_)))
 have hfr := hfr.ext hs
 have hmk := hmk.ext hs
 have rp1 := rp1.ext hs
 have rp2 := rp2.ext hs
 refine EL_do .plain rfl (D_box (g := g1) rfl rp1 fun g2 w2 p2 hs q2 => ?_)
 have hfr := hfr.ext hs
 have hmk := hmk.ext hs
 have rp2 := rp2.ext hs
 have q1 := q1.ext hs
 refine EL_do .plain rfl (D_box (g := g2) rfl rp2 fun g3 w3 p3 hs q3 => ?_)
 have hfr := hfr.ext hs
 have hmk := hmk.ext hs
 have q1 := q1.ext hs
 have q2 := q2.ext hs
 refine EL_do .plain rfl (D_allocOc (g := g3) 2006 (0 : Int) Try.zeroValue3 (fun m w => ⟨_, rep_int, rfl⟩) fun g4 w4 p4 hs b4 cb => ?_)
 have hfr := hfr.stp hs
 have hmk := hmk.stp hs
 have q1 := q1.stp hs
 have q2 := q2.stp hs
 have q3 := q3.stp hs
 clear cb
 refine EL_do .plain rfl (D_allocOc (g := g4) 2007 (0 : Int) Try.zeroValue3 (fun m w => ⟨_, rep_int, rfl⟩) fun g5 w5 p5 hs b5 cb => ?_)
 have hfr := hfr.stp hs
 have hmk := hmk.stp hs
 have q1 := q1.stp hs
 have q2 := q2.stp hs
 have q3 := q3.stp hs
 have b4 := b4.stp hs rfl
 clear cb
 refine EL_do .plain rfl (D_allocOc (g := g5) 2008 (0 : Int) Try.zeroValue34 (fun m w => ⟨_, rep_int, rfl⟩) fun g6 w6 p6 hs b6 cb => ?_)
 have hfr := hfr.stp hs
 have hmk := hmk.stp hs
 have q1 := q1.stp hs
 have q2 := q2.stp hs
 have q3 := q3.stp hs
 have b4 := b4.stp hs rfl
 have b5 := b5.stp hs rfl
 clear cb
 refine EL_nil (thn_n (E_joinCD h (fun (s : Int × Int × Int) e ds w => ∃ (g : Gh) , Fr gI wI g w ∧ MkF g w ds ∧ e 3 = p1 ∧ PT g.m w (x0 : FaultLoom) p1 ∧ e 4 = p2 ∧ PT g.m w (x1 : FaultDamage) p2 ∧ e 5 = p3 ∧ PT g.m w (x2 : FaultDamage) p3 ∧ e 6 = p4 ∧ OB 2006 g w 3 (s.1 : Int) p4 ∧ e 7 = p5 ∧ OB 2007 g w 3 (s.2.1 : Int) p5 ∧ e 8 = p6 ∧ OB 2008 g w 34 (s.2.2 : Int) p6) (fun X21 e7 s7 h => ?_) ?_))
 ·refine E_seq (E_region (EL_do .plain rfl (D_load (g := g6) Try.isAgg28 Try.sizeOf28 rfl q1 fun v8 i6 => ?_)))
  refine EL_do .plain rfl (D_load (g := g6) Try.isAgg62 Try.sizeOf62 rfl q2 fun x8 y8 => ?_)
  refine EL_do .plain rfl (D_load (g := g6) Try.isAgg62 Try.sizeOf62 rfl q3 fun z8 a9 => ?_)
  refine EL_do .plain rfl (D_buildSlice (g := g6) 3015 (xs := ([x1, x2] : List FaultDamage)) (vs := [x8, z8]) Try.underlying29 Try.sizeOf62 Try.zeroValue62 rfl rfl (.cons rfl (.cons rfl .nil)) (RVs.cons y8 (RVs.cons a9 RVs.nil)) rfl rfl fun b9 oA c9 hs o25 d9 hxt hfl => ?_)
  have hfr := hfr.stp hs
  have hmk := hmk.stp hs
  have q1 := q1.stp hs
  have q2 := q2.stp hs
  have q3 := q3.stp hs
  have b4 := b4.stp hs rfl
  have b5 := b5.stp hs rfl
  have b6 := b6.stp hs rfl
  have i6 := i6.stp hs
  obtain ⟨o3, t7, h⟩ := bsome h
  refine EL_do .plain rfl (D_call (g := b9) (vs := [v8, c9]) en18 (.cons rfl (.cons rfl .nil)) (wk18 i6 d9 t7) fun g7 p9 pA hs hr => ?_)
  have hfr := hfr.ext hs
  have hmk := hmk.ext hs
  have q1 := q1.ext hs
  have q2 := q2.ext hs
  have q3 := q3.ext hs
  have b4 := b4.ext hs
  have b5 := b5.ext hs
  have b6 := b6.ext hs
  subst hr
  refine EL_at (.int .i64 (o3)) rfl rfl ?_
  refine EL_nil (thn_n (E_seq (E_region (EL_mw (.int .i64 (o3)) rfl rfl ?_))))
  refine EL_in (.bool ((o3 != (0 : Int)))) rfl rfl rfl rfl ?_
  refine EL_nil (thn_n ?_)
  rcases csome h with ⟨i5, h⟩ | ⟨i5, h⟩
  ·refine E_ct i5 rfl ?_
   refine E_seq (E_region (EL_mw (.int .i64 (o3)) rfl rfl ?_))
   refine EL_do .plain rfl (D_storeOc (g := g7) (v := .int .i64 (0)) Try.sizeOf3 rfl b4 rfl (RV_int.2 rfl) fun e9 qA hs b29 cb => ?_)
   clear cb
   have hfr := hfr.stp hs
   have hmk := hmk.stp hs
   have b5 := b5.stp hs rfl
   have b6 := b6.stp hs rfl
   refine EL_do .plain rfl (D_storeOc (g := e9) (v := .int .i64 (0)) Try.sizeOf3 rfl b5 rfl (RV_int.2 rfl) fun g9 rA hs b30 cb => ?_)
   clear cb
   have hfr := hfr.stp hs
   have hmk := hmk.stp hs
   have b29 := b29.stp hs rfl
   have b6 := b6.stp hs rfl
   refine EL_do .plain rfl (D_storeOc (g := g9) (v := .int .i64 (o3)) Try.sizeOf34 rfl b6 rfl (RV_int.2 rfl) fun sA tA hs b31 cb => ?_)
   clear cb
   have hfr := hfr.stp hs
   have hmk := hmk.stp hs
   have b29 := b29.stp hs rfl
   have b30 := b30.stp hs rfl
   refine EL_nil (thn_n (E_ret (thn_r ?_)))
   refine endM (.inr rfl) hmk fun uA vA hs => ?_
   have hfr := hfr.stp hs
   have b29 := b29.stp hs rfl
   have b30 := b30.stp hs rfl
   have b31 := b31.stp hs rfl
   obtain rfl := sinj h
   obtain ⟨ad33, cv33, hp33, u7, cr33⟩ := ob_read Try.isAgg3 Try.sizeOf3 b29
   obtain rfl := RV_int.1 cr33
   obtain ⟨ad34, cv34, hp34, v7, cr34⟩ := ob_read Try.isAgg3 Try.sizeOf3 b30
   obtain rfl := RV_int.1 cr34
   obtain ⟨ad35, cv35, hp35, x7, cr35⟩ := ob_read Try.isAgg34 Try.sizeOf34 b31
   obtain rfl := RV_int.1 cr35
   exact endm_ccc rfl rfl ((show _ = p4 from rfl).trans hp33) u7 ((show _ = p5 from rfl).trans hp34) v7 ((show _ = p6 from rfl).trans hp35) x7 ⟨_, hfr, _, _, _, rfl, rfl, rfl, rfl⟩
  ·refine E_cf i5 rfl ?_
   exact E_skip (thn_n (s7 ((0 : Int), (0 : Int), (0 : Int)) _ _ _ ⟨g7, hfr, hmk, rfl, q1, rfl, q2, rfl, q3, rfl, b4, rfl, b5, rfl, b6⟩ h))
 ·rintro ⟨i4, j4, m4⟩ q9 j5 xA ⟨j6, hfr, hmk, l5, m5, s6, t6, u6, v6, n4, o4, q4, s4, u4, x4⟩ h
  refine E_joinCD h (fun (s : Int × Int × Int) e ds w => ∃ (g : Gh) , Fr gI wI g w ∧ MkF g w ds ∧ e 6 = p4 ∧ OB 2006 g w 3 (s.1 : Int) p4 ∧ e 7 = p5 ∧ OB 2007 g w 3 (s.2.1 : Int) p5 ∧ e 8 = p6 ∧ OB 2008 g w 34 (s.2.2 : Int) p6) (fun X85 d7 y7 h => ?_) ?_
  ·refine E_seq (L_load (x := .tmp 3) Try.isAgg28 Try.sizeOf28 m5 fun n5 i7 z7 => ?_)
   have j7 : RV j6.m _ (⟨x0⟩ : FaultFaultLoom) (.agg (setCh [[.int .i64 0, .slice none 0 0, .int .i64 0, .slice none 0 0]] [(0, n5)]).flatten.toArray) := RV_build rfl (rep_last (RV.cells i7))
   generalize a8 : (Value.agg (setCh [[.int .i64 0, .slice none 0 0, .int .i64 0, .slice none 0 0]] [(0, n5)]).flatten.toArray) = l7 at j7
   refine L_load (x := .tmp 4) Try.isAgg62 Try.sizeOf62 t6 fun m7 i9 b8 => ?_
   obtain ⟨c4, c8, h⟩ := bsome h
   refine L_load (x := .tmp 3) Try.isAgg28 Try.sizeOf28 m5 fun o5 n7 d8 => ?_
   have o7 : RV j6.m _ (⟨x0⟩ : FaultFaultLoom) (.agg (setCh [[.int .i64 0, .slice none 0 0, .int .i64 0, .slice none 0 0]] [(0, o5)]).flatten.toArray) := RV_build rfl (rep_last (RV.cells n7))
   generalize e8 : (Value.agg (setCh [[.int .i64 0, .slice none 0 0, .int .i64 0, .slice none 0 0]] [(0, o5)]).flatten.toArray) = p7 at o7
   refine L_load (x := .tmp 5) Try.isAgg62 Try.sizeOf62 v6 fun q7 j9 g8 => ?_
   obtain ⟨d4, i8, h⟩ := bsome h
   obtain ⟨e4, j8, h⟩ := bsome h
   refine E_drawL (g := j6) (n := 11) [(3, (fun v g w => RV g.m w ([x1] : List FaultDamage) v ∧ OS 3023 g w 62 ([x1] : List FaultDamage) v ∧ FullV v)), (4, (fun v g w => RV g.m w c4 v)), (8, (fun v g w => RV g.m w ([x2] : List FaultDamage) v ∧ OS 3028 g w 62 ([x2] : List FaultDamage) v ∧ FullV v)), (9, (fun v g w => RV g.m w d4 v)), (10, (fun v g w => ItV Try.prog (RA2 (α := Int) (β := Int)) e4 v g.m w))] [0, 1, 2, 3, 4, 5, 6, 7, 8, 9, 10] rfl mixed (by kernel_rfl) (⟨fun _ => up_and up_rv (up_and up_os (up_eq _)), fun _ => up_rv, fun _ => up_and up_rv (up_and up_os (up_eq _)), fun _ => up_rv, fun _ => up_itv, trivial⟩) ?_
   refine L_ld (c := n5) rfl rfl .plain (fun _ _ h => h.ch) z7 l5 ?_
   refine L_pur (c := l7) rfl rfl .plain (fun _ _ hd => a8 ▸ P_build (vs := [(0, n5)]) [[.int .i64 0, .slice none 0 0, .int .i64 0, .slice none 0 0]] lay_98 rfl rfl (.cons rfl .nil) ⟨⟨_, rfl, cells_size i7⟩, trivial⟩) ?_
   refine L_ld (c := m7) rfl rfl .plain (fun _ _ h => h.ch) b8 s6 ?_
   refine L_do (φ := fun v g w => RV g.m w ([x1] : List FaultDamage) v ∧ OS 3023 g w 62 ([x1] : List FaultDamage) v ∧ FullV v) rfl rfl .plain (fun g w hd => D_buildSlice (g := g) 3023 (xs := ([x1] : List FaultDamage)) (vs := [m7]) Try.underlying29 Try.sizeOf62 Try.zeroValue62 rfl rfl (.cons rfl .nil) (RVs.cons (i9.ext hd.1) RVs.nil) rfl rfl fun g' w' v hs o r hxt hfl => ⟨g', hxt, r, o, hfl⟩) (fun z1 hv => ?_)
   clear hv
   refine L_do (φ := fun v g w => RV g.m w c4 v) rfl rfl .plain (fun g w hd => D_call (g := g) (vs := [l7, z1]) en55 (.cons rfl (.cons rfl .nil)) (wk55 (j7.ext hd.1) (word (A := fun g w => RV g.m w ([x1] : List FaultDamage) z1 ∧ OS 3023 g w 62 ([x1] : List FaultDamage) z1 ∧ FullV z1) 3 rfl rfl (deps_of hd)).1 c8) fun g' w' v hs hr => ⟨g', hs, hr⟩) (fun k6 hv => ?_)
   obtain ⟨_, _, _, rq90⟩ := hv
   refine L_ld (c := o5) rfl rfl .plain (fun _ _ h => h.ch) d8 l5 ?_
   refine L_pur (c := p7) rfl rfl .plain (fun _ _ hd => e8 ▸ P_build (vs := [(0, o5)]) [[.int .i64 0, .slice none 0 0, .int .i64 0, .slice none 0 0]] lay_98 rfl rfl (.cons rfl .nil) ⟨⟨_, rfl, cells_size n7⟩, trivial⟩) ?_
   refine L_ld (c := q7) rfl rfl .plain (fun _ _ h => h.ch) g8 u6 ?_
   refine L_do (φ := fun v g w => RV g.m w ([x2] : List FaultDamage) v ∧ OS 3028 g w 62 ([x2] : List FaultDamage) v ∧ FullV v) rfl rfl .plain (fun g w hd => D_buildSlice (g := g) 3028 (xs := ([x2] : List FaultDamage)) (vs := [q7]) Try.underlying29 Try.sizeOf62 Try.zeroValue62 rfl rfl (.cons rfl .nil) (RVs.cons (j9.ext hd.1) RVs.nil) rfl rfl fun g' w' v hs o r hxt hfl => ⟨g', hxt, r, o, hfl⟩) (fun d2 hv => ?_)
   clear hv
   refine L_do (φ := fun v g w => RV g.m w d4 v) rfl rfl .plain (fun g w hd => D_call (g := g) (vs := [p7, d2]) en55 (.cons rfl (.cons rfl .nil)) (wk55 (o7.ext hd.1) (word (A := fun g w => RV g.m w ([x2] : List FaultDamage) d2 ∧ OS 3028 g w 62 ([x2] : List FaultDamage) d2 ∧ FullV d2) 8 rfl rfl (deps_of hd)).1 i8) fun g' w' v hs hr => ⟨g', hs, hr⟩) (fun l6 hv => ?_)
   obtain ⟨_, _, _, rq96⟩ := hv
   refine L_do (φ := fun v g w => ItV Try.prog (RA2 (α := Int) (β := Int)) e4 v g.m w) rfl rfl .plain (fun g w hd => D_call (g := g) (vs := [k6, l6]) en56 (.cons rfl (.cons rfl .nil)) (wk56 (word (A := fun g w => RV g.m w c4 k6) 4 rfl rfl (deps_of hd)) (word (A := fun g w => RV g.m w d4 l6) 9 rfl rfl (deps_of hd)) j8) fun g' w' v hs hr => ⟨g', hs, hr⟩) (fun r7 hv => ?_)
   clear hv
   refine L_nil fun r9 s9 hall => ?_
   have hs := hall.1
   have hfr := hfr.ext hs
   have hmk := hmk.ext hs
   have o4 := o4.ext hs
   have s4 := s4.ext hs
   have x4 := x4.ext hs
   have t9 := (word_all (A := fun g w => RV g.m w ([x1] : List FaultDamage) z1 ∧ OS 3023 g w 62 ([x1] : List FaultDamage) z1 ∧ FullV z1) 3 rfl hall).1
   have o110 := (word_all (A := fun g w => RV g.m w ([x1] : List FaultDamage) z1 ∧ OS 3023 g w 62 ([x1] : List FaultDamage) z1 ∧ FullV z1) 3 rfl hall).2.1
   have u9 := (word_all (A := fun g w => RV g.m w c4 k6) 4 rfl hall)
   have v9 := (word_all (A := fun g w => RV g.m w ([x2] : List FaultDamage) d2 ∧ OS 3028 g w 62 ([x2] : List FaultDamage) d2 ∧ FullV d2) 8 rfl hall).1
   have o115 := (word_all (A := fun g w => RV g.m w ([x2] : List FaultDamage) d2 ∧ OS 3028 g w 62 ([x2] : List FaultDamage) d2 ∧ FullV d2) 8 rfl hall).2.1
   have x9 := (word_all (A := fun g w => RV g.m w d4 l6) 9 rfl hall)
   have m6 := (word_all (A := fun g w => ItV Try.prog (RA2 (α := Int) (β := Int)) e4 r7 g.m w) 10 rfl hall)
   clear hs hall
   refine EL_nil (thn_n (E_block ?_))
   have hB0 := hfr.size
   have hmk0 := hmk
   obtain ⟨⟨i2, ⟨j2, m2, d3⟩⟩, hφ, h⟩ := bsome h
   refine E_rangeFunc (σ := (Nat × Int × Int × Int)) (s0 := (0, (i4, j4, m4))) 10 rfl (fun s => s.1) [.ret] (fun (s : Nat × Int × Int × Int) (g : Gh) (w : World) => Fr gI wI g w ∧ MkF g w j5 ∧ OB 2006 g w 3 (s.2.1 : Int) p4 ∧ OB 2007 g w 3 (s.2.2.1 : Int) p5 ∧ OB 2008 g w 34 (s.2.2.2 : Int) p6 ∧ ItV Try.prog (RA2 (α := Int) (β := Int)) e4 r7 g.m w) rfl m6 hφ (fun _ _ _ h => (guardC_h h).1) rfl ra2_size rfl (fun _ _ _ _ _ hx hR => by obtain ⟨hfr, hmk, z2, z3, z4, z5⟩ := hR; exact ⟨hfr.ist hx hB0, hmk.ist hx, z2.ist hx, z3.ist hx, z4.ist hx, z5.ist hx⟩) (fun _ _ _ _ _ hx hR => by obtain ⟨hfr, hmk, z2, z3, z4, z5⟩ := hR; exact ⟨hfr.stp hx, hmk.stp hx, z2.stp hx rfl, z3.stp hx rfl, z4.stp hx rfl, z5.stp hx⟩) ⟨hfr, hmk, o4, s4, x4, m6⟩ (fun _ h => by cases h) ?_ ?_
   ·intro n9 k9 s x b s2 n6 k8 vs hsz h hR hrec_0 q5 hrd
    obtain ⟨hs0, h⟩ := guardC_h h
    obtain ⟨st, ⟨c6, d6, e6⟩⟩ := s
    obtain ⟨hfr, hmk, s3, j1, o0, j0⟩ := hR
    obtain ⟨u0, i1⟩ := x
    obtain ⟨o6, q6, rfl, t5, u5⟩ := ra2_get hrd
    obtain rfl : o6 = .int .i64 (u0) := RV_int.1 t5
    obtain rfl : q6 = .int .i64 (i1) := RV_int.1 u5
    have n0 := RFr.refl n6 k8
    refine E_seq (E_region (EL_at (.int .i64 (u0)) rfl rfl ?_))
    refine EL_nil (thn_n (E_region (EL_at (.int .i64 (i1)) rfl rfl ?_)))
    refine EL_nil (thn_n ?_)
    obtain ⟨l8, hbr, hs, hrN⟩ := begin_round hrec_0 q5
    refine ⟨l8, hbr, ?_⟩
    have hfr := hfr.stp hs
    have hmk := hmk.stp hs
    have n0 := n0.stp hs
    have s3 := s3.stp hs rfl
    have j1 := j1.stp hs rfl
    have o0 := o0.stp hs rfl
    have j0 := j0.stp hs
    have hrec_0 := hrN
    clear hbr hs hrN
    refine E_block ?_
    refine E_seq (E_region (EL_mw (.int .i64 (u0)) rfl rfl ?_))
    refine EL_mw (.int .i64 (i1)) rfl rfl ?_
    refine EL_do .plain rfl (D_storeOc (g := n6) (v := .int .i64 (u0)) Try.sizeOf3 n4 s3 rfl (RV_int.2 rfl) fun m8 y9 hs b125 cb => ?_)
    clear cb
    have hfr := hfr.stp hs
    have hmk := hmk.stp hs
    have n0 := n0.stp hs
    have hrec_0 := hrec_0.stp hs rfl
    have j1 := j1.stp hs rfl
    have o0 := o0.stp hs rfl
    have j0 := j0.stp hs
    refine EL_do .plain rfl (D_storeOc (g := m8) (v := .int .i64 (i1)) Try.sizeOf3 q4 j1 rfl (RV_int.2 rfl) fun n8 z9 hs b126 cb => ?_)
    clear cb
    have hfr := hfr.stp hs
    have hmk := hmk.stp hs
    have n0 := n0.stp hs
    have hrec_0 := hrec_0.stp hs rfl
    have b125 := b125.stp hs rfl
    have o0 := o0.stp hs rfl
    have j0 := j0.stp hs
    refine EL_do .plain rfl (D_storeOc (g := n8) (v := .int .i64 (0)) Try.sizeOf34 u4 o0 rfl (RV_int.2 rfl) fun aA bA hs b127 cb => ?_)
    clear cb
    have hfr := hfr.stp hs
    have hmk := hmk.stp hs
    have n0 := n0.stp hs
    have hrec_0 := hrec_0.stp hs rfl
    have b125 := b125.stp hs rfl
    have b126 := b126.stp hs rfl
    have j0 := j0.stp hs
    refine EL_nil (thn_n (E_ret (blk_r ?_)))
    obtain ⟨rfl, rfl⟩ := pairs2 h
    exact ⟨_, n0, ⟨hfr, hmk, b125, b126, b127, j0⟩, hrec_0, rfl, 0, rfl, rfl⟩
   ·intro o8 cA ds129 hsz hR hds
    obtain ⟨hfr, hmk, i3, j3, m3, t8⟩ := hR
    obtain ⟨D, hdse, hD, hDb⟩ := hds.1 rfl
    subst hdse
    replace hmk := MkF.push hmk0 hmk hD hDb
    clear hD hDb hds
    revert hmk
    generalize ({ target := .collected D, args := #[] } :: j5 : List Deferred) = l9
    intro hmk
    refine ⟨fun hs => ?_, fun k c hs hc => ?_⟩
    ·have hs : i2 = 0 := hs
     subst hs
     replace h := cond_t h rfl
     exact blk_n (thn_n (y7 (j2, m2, d3) _ _ _ ⟨o8, hfr, hmk, n4, i3, q4, j3, u4, m3⟩ h))
    ·have hs : i2 = k + 1 := hs
     match k, hs, hc with
     | 0, hs, hc =>
      subst hs
      obtain rfl := sinj hc
      replace h := cond_f h rfl
      refine E_ret (blk_r ?_)
      refine thn_r ?_
      refine endM (.inr rfl) hmk fun dA eA hs => ?_
      have hfr := hfr.stp hs
      have i3 := i3.stp hs rfl
      have j3 := j3.stp hs rfl
      have m3 := m3.stp hs rfl
      obtain rfl := sinj h
      obtain ⟨ad131, cv131, hp131, x6, cr131⟩ := ob_read Try.isAgg3 Try.sizeOf3 i3
      obtain rfl := RV_int.1 cr131
      obtain ⟨ad132, cv132, hp132, y6, cr132⟩ := ob_read Try.isAgg3 Try.sizeOf3 j3
      obtain rfl := RV_int.1 cr132
      obtain ⟨ad133, cv133, hp133, z6, cr133⟩ := ob_read Try.isAgg34 Try.sizeOf34 m3
      obtain rfl := RV_int.1 cr133
      exact endm_ccc rfl rfl ((show _ = p4 from n4).trans hp131) x6 ((show _ = p5 from q4).trans hp132) y6 ((show _ = p6 from u4).trans hp133) z6 ⟨_, hfr, _, _, _, rfl, rfl, rfl, rfl⟩
     | n + 1, _, hc => exact absurd hc (by simp)
  ·rintro ⟨x5, y5, a6⟩ o9 m9 gA ⟨p8, hfr, hmk, c5, r6, d5, u3, e5, m1⟩ h
   refine E_seq (E_region (EL_do .plain rfl (D_storeOc (g := p8) (v := .int .i64 (0)) Try.sizeOf3 c5 r6 rfl (RV_int.2 rfl) fun q8 iA hs b135 cb => ?_)))
   clear cb
   have hfr := hfr.stp hs
   have hmk := hmk.stp hs
   have u3 := u3.stp hs rfl
   have m1 := m1.stp hs rfl
   refine EL_do .plain rfl (D_storeOc (g := q8) (v := .int .i64 (0)) Try.sizeOf3 d5 u3 rfl (RV_int.2 rfl) fun r8 jA hs b136 cb => ?_)
   clear cb
   have hfr := hfr.stp hs
   have hmk := hmk.stp hs
   have b135 := b135.stp hs rfl
   have m1 := m1.stp hs rfl
   refine EL_do .plain rfl (D_storeOc (g := r8) (v := .int .i64 (7)) Try.sizeOf34 e5 m1 rfl (RV_int.2 rfl) fun kA lA hs b137 cb => ?_)
   clear cb
   have hfr := hfr.stp hs
   have hmk := hmk.stp hs
   have b135 := b135.stp hs rfl
   have b136 := b136.stp hs rfl
   refine EL_nil (thn_n (E_ret (endM (.inr rfl) hmk fun mA nA hs => ?_)))
   have hfr := hfr.stp hs
   have b135 := b135.stp hs rfl
   have b136 := b136.stp hs rfl
   have b137 := b137.stp hs rfl
   obtain rfl := sinj h
   obtain ⟨ad139, cv139, hp139, a7, cr139⟩ := ob_read Try.isAgg3 Try.sizeOf3 b135
   obtain rfl := RV_int.1 cr139
   obtain ⟨ad140, cv140, hp140, b7, cr140⟩ := ob_read Try.isAgg3 Try.sizeOf3 b136
   obtain rfl := RV_int.1 cr140
   obtain ⟨ad141, cv141, hp141, c7, cr141⟩ := ob_read Try.isAgg34 Try.sizeOf34 b137
   obtain rfl := RV_int.1 cr141
   exact endm_ccc rfl rfl ((show _ = p4 from c5).trans hp139) a7 ((show _ = p5 from d5).trans hp140) b7 ((show _ = p6 from e5).trans hp141) c7 ⟨_, hfr, _, _, _, rfl, rfl, rfl, rfl⟩
/-- griffe/fault.Apart -/
def f38 (x0 : FaultLoom) (x1 : List FaultDamage) : Option (Int × Int) :=
 jn (σ := Int) (fun r6 =>
  (f68 ((⟨x0⟩ : FaultFaultLoom)) x1).bind fun u0 =>
  Option.bind (α := Int) (
   lp (σ := Int × Int) (fun p7 (c5, j0) =>
    bif (decide (j0 < ((u0).length : Int))) then
     Option.bind (α := Int) (
      (idx u0 j0).bind fun d5 =>
      (cut u0 0 j0).bind fun j1 =>
      lp (σ := Int × Int) (fun q7 (o3, o0) =>
       bif (decide (o0 < ((j1).length : Int))) then
        Option.bind (α := Int) (
         (idx j1 o0).bind fun r7 =>
         (f56 d5 r7).bind fun l6 =>
         (l6 (Nat × Int) (guardC fun p3 (i1, _y5) =>
          some (false, ((1 : Nat), ((max64 p3 (w64 (i1 + (1 : Int)))))))
          ) (0, (o3))).bind fun (q3, e5) =>
         bif Nat.beq q3 0 then
          some (e5)
         else
          some (e5)
         ) fun s3 =>
        q7 (s3, (w64 (o0 + (1 : Int))))
       else
        some (o3)
       ) big (c5, (0 : Int))
      ) fun u3 =>
     p7 (u3, (w64 (j0 + (1 : Int))))
    else
     some (c5)
    ) big (r6, (0 : Int))
   ) fun c4 =>
  some (c4, (0 : Int))
  ) fun b9 =>
 (f18 x0 x1).bind fun d4 =>
 bif (d4 != (0 : Int)) then
  some ((0 : Int), d4)
 else
  b9 ((0 : Int))
theorem en38 : Enters Try.prog 38 := enters_of Try.func38 (by kernel_rfl) rfl
theorem wk38 {gI : Gh} {wI : World} {x0 : FaultLoom} {x1 : List FaultDamage} {up0 : Value} (rp0 : RV gI.m wI x0 up0) {up1 : Value} (rp1 : RV gI.m wI x1 up1) {r : Int × Int} (h : f38 x0 x1 = some r) : Fn Try.prog 38 #[up0, up1] gI wI (fun _m _w v => ∃ y0 y1, v = .tuple #[y0, y1] ∧ y0 = .int .i64 (r.1) ∧ y1 = .int .i64 (r.2)) := by
 unfold f38 at h
 refine fnD_of_E Try.func38 rfl (Nat.le_of_ble_eq_true rfl) fun g0 hm hfr => ?_
 have hmk : MkF g0 wI [] := MkF.start
 have rp0 : RV g0.m wI x0 up0 := hm ▸ rp0
 have rp1 : RV g0.m wI x1 up1 := hm ▸ rp1
 show E _ 50 none _ _ _ _ _
 refine E_seq (E_region (EL_do .plain rfl (D_box (g := g0) rfl rp0 fun g1 w1 p1 hs q1 => ?_)))
 have hfr := hfr.ext hs
 have hmk := hmk.ext hs
 have rp1 := rp1.ext hs
 refine EL_do .plain rfl (D_allocOc (g := g1) 2004 (0 : Int) Try.zeroValue3 (fun m w => ⟨_, rep_int, rfl⟩) fun g2 w2 p2 hs b2 cb => ?_)
 have hfr := hfr.stp hs
 have hmk := hmk.stp hs
 have rp1 := rp1.stp hs
 have q1 := q1.stp hs
 clear cb
 refine EL_at (.int .i64 (0)) rfl rfl ?_
 refine EL_nil (thn_n (E_joinCD h (fun (s : Int) e ds w => ∃ (g : Gh) , Fr gI wI g w ∧ MkF g w ds ∧ e 1 = up1 ∧ RV g.m w (x1 : List FaultDamage) up1 ∧ e 2 = p1 ∧ PT g.m w (x0 : FaultLoom) p1 ∧ e 4 = p2 ∧ OB 2004 g w 3 (s : Int) p2) (fun X10 b9 i9 h => ?_) ?_))
 ·refine E_seq (E_region (EL_do .plain rfl (D_load (g := g2) Try.isAgg28 Try.sizeOf28 rfl q1 fun bA cA => ?_)))
  refine EL_mw up1 rfl rfl ?_
  obtain ⟨d4, j9, h⟩ := bsome h
  refine EL_do .plain rfl (D_call (g := g2) (vs := [bA, up1]) en18 (.cons rfl (.cons rfl .nil)) (wk18 cA rp1 j9) fun c9 uA oB hs hr => ?_)
  have hfr := hfr.ext hs
  have hmk := hmk.ext hs
  have rp1 := rp1.ext hs
  have q1 := q1.ext hs
  have b2 := b2.ext hs
  subst hr
  refine EL_at (.int .i64 (d4)) rfl rfl ?_
  refine EL_nil (thn_n (E_seq (E_region (EL_mw (.int .i64 (d4)) rfl rfl ?_))))
  refine EL_in (.bool ((d4 != (0 : Int)))) rfl rfl rfl rfl ?_
  refine EL_nil (thn_n ?_)
  rcases csome h with ⟨m6, h⟩ | ⟨m6, h⟩
  ·refine E_ct m6 rfl ?_
   refine E_seq (E_region (EL_mw (.int .i64 (d4)) rfl rfl ?_))
   refine EL_do .plain rfl (D_storeOc (g := c9) (v := .int .i64 (0)) Try.sizeOf3 rfl b2 rfl (RV_int.2 rfl) fun pB qB hs b15 cb => ?_)
   clear cb
   have hfr := hfr.stp hs
   have hmk := hmk.stp hs
   refine EL_at (.int .i64 (d4)) rfl rfl ?_
   refine EL_nil (thn_n (E_ret (thn_r ?_)))
   refine endM (.inr rfl) hmk fun rB sB hs => ?_
   have hfr := hfr.stp hs
   have b15 := b15.stp hs rfl
   obtain rfl := sinj h
   obtain ⟨ad17, cv17, hp17, k9, cr17⟩ := ob_read Try.isAgg3 Try.sizeOf3 b15
   obtain rfl := RV_int.1 cr17
   exact endm_ct rfl rfl ((show _ = p2 from rfl).trans hp17) k9 (show _ = .int .i64 (d4) from rfl) ⟨_, hfr, _, _, rfl, rfl, rfl⟩
  ·refine E_cf m6 rfl ?_
   exact E_skip (thn_n (i9 ((0 : Int)) _ _ _ ⟨c9, hfr, hmk, rfl, rp1, rfl, q1, rfl, b2⟩ h))
 ·rintro r6 vA mA tB ⟨s7, hfr, hmk, p8, q8, r8, t8, v8, t5⟩ h
  refine E_seq (E_region (EL_do .plain rfl (D_load (g := s7) Try.isAgg28 Try.sizeOf28 r8 t8 fun t7 d9 => ?_)))
  have e9 : RV s7.m _ (⟨x0⟩ : FaultFaultLoom) (.agg (setCh [[.int .i64 0, .slice none 0 0, .int .i64 0, .slice none 0 0]] [(0, t7)]).flatten.toArray) := RV_build rfl (rep_last (RV.cells d9))
  generalize l9 : (Value.agg (setCh [[.int .i64 0, .slice none 0 0, .int .i64 0, .slice none 0 0]] [(0, t7)]).flatten.toArray) = g9 at e9
  refine EL_pur (v := g9) (l9 ▸ P_build (vs := [(0, t7)]) [[.int .i64 0, .slice none 0 0, .int .i64 0, .slice none 0 0]] lay_98 rfl rfl (.cons rfl .nil) ⟨⟨_, rfl, cells_size d9⟩, trivial⟩) .plain rfl ?_
  refine EL_mv p8 rfl ?_
  obtain ⟨u0, m9, h⟩ := bsome h
  refine EL_do .plain rfl (D_call (g := s7) (vs := [g9, up1]) en68 (.cons rfl (.cons rfl .nil)) (wk68 e9 q8 m9) fun dA xA n0 hs hr => ?_)
  have hfr := hfr.ext hs
  have hmk := hmk.ext hs
  have t5 := t5.ext hs
  have u7 := hr
  refine EL_at n0 rfl rfl ?_
  refine EL_nil (thn_n ?_)
  obtain ⟨c4, hx, h⟩ := bsome h
  refine E_joinD (fun e ds w => ∃ (g : Gh) , Fr gI wI g w ∧ MkF g w ds ∧ e 4 = p2 ∧ OB 2004 g w 3 (c4 : Int) p2) (fun Q' hQ => ?_) (fun nA eA n9 hR => ?_)
  ·replace h := hx
   clear hx
   refine E_seq (E_region (EL_mw n0 rfl rfl ?_))
   refine EL_pur (v := .int .i64 ((u0).length : Int)) (P_len Try.underlying78 rfl u7) .plain rfl ?_
   refine EL_mw (.int .i64 (0)) rfl rfl ?_
   refine EL_nil (thn_n (E_block ?_))
   refine E_lpD h (fun (s : Int × Int) e ds w => ∃ (g : Gh) , Fr gI wI g w ∧ MkF g w ds ∧ e 4 = p2 ∧ OB 2004 g w 3 (s.1 : Int) p2 ∧ e 7 = n0 ∧ RV g.m w (u0 : List (List Str)) n0 ∧ e 23 = n0 ∧ RV g.m w (u0 : List (List Str)) n0 ∧ e 24 = .int .i64 (((u0).length : Int)) ∧ e 25 = .int .i64 (s.2)) ⟨dA, hfr, hmk, v8, t5, rfl, u7, rfl, u7, rfl, rfl⟩ (fun X105 p7 x8 => ?_)
   rintro ⟨c5, j0⟩ oA gA yA ⟨n6, hfr, hmk, a6, b6, c6, i5, n5, o4, o5, d3⟩ h
   refine E_seq (E_region (EL_in (.bool ((decide (j0 < ((u0).length : Int))))) d3 o5 rfl rfl ?_))
   refine EL_nil (thn_n (E_seq ?_))
   rcases csome h with ⟨u5, h⟩ | ⟨u5, h⟩
   ·refine E_ct u5 rfl ?_
    refine E_skip (thn_n ?_)
    obtain ⟨u3, hx, h⟩ := bsome h
    refine E_joinD (fun e ds w => ∃ (g : Gh) , Fr gI wI g w ∧ MkF g w ds ∧ e 4 = p2 ∧ OB 2004 g w 3 (u3 : Int) p2 ∧ e 7 = n0 ∧ RV g.m w (u0 : List (List Str)) n0 ∧ e 23 = n0 ∧ RV g.m w (u0 : List (List Str)) n0 ∧ e 24 = .int .i64 (((u0).length : Int)) ∧ e 25 = .int .i64 (j0)) (fun Q' hQ => ?_) (fun pA iA zA hR => ?_)
    ·replace h := hx
     clear hx
     refine E_block ?_
     refine E_seq (E_region (EL_mv d3 rfl ?_))
     obtain ⟨d5, s6, h⟩ := bsome h
     refine EL_pur (v := ePtr n0 j0 1) (P_indexAddr (α := List Str) Try.underlying78 Try.sizeOf36 n5 o4 d3 s6) .plain rfl ?_
     have o9 := PT_idx o4 s6
     refine EL_do .plain rfl (D_load (g := n6) Try.isAgg36 Try.sizeOf36 rfl o9 fun m3 p9 => ?_)
     refine EL_at (.int .i64 (j0)) rfl rfl ?_
     refine EL_at m3 rfl rfl ?_
     refine EL_nil (thn_n (E_seq (E_region (EL_mv c6 rfl ?_))))
     refine EL_mw (.int .i64 (j0)) rfl rfl ?_
     obtain ⟨j1, t6, h⟩ := bsome h
     have v7 := RV_cut i5 t6
     refine EL_pur (v := (cutV n0 (Int.toNat 0) (Int.toNat j0) 1)) (P_slice Try.underlying78 Try.sizeOf36 rfl i5 rfl rfl t6) .plain rfl ?_
     refine EL_pur (v := .int .i64 ((j1).length : Int)) (P_len Try.underlying78 rfl v7) .plain rfl ?_
     refine EL_mw (.int .i64 (0)) rfl rfl ?_
     refine EL_nil (thn_n (E_block ?_))
     refine E_lpD h (fun (s : Int × Int) e ds w => ∃ (g : Gh) , Fr gI wI g w ∧ MkF g w ds ∧ e 4 = p2 ∧ OB 2004 g w 3 (s.1 : Int) p2 ∧ e 7 = n0 ∧ RV g.m w (u0 : List (List Str)) n0 ∧ e 9 = m3 ∧ RV g.m w (d5 : List Str) m3 ∧ e 23 = n0 ∧ RV g.m w (u0 : List (List Str)) n0 ∧ e 24 = .int .i64 (((u0).length : Int)) ∧ e 25 = .int .i64 (j0) ∧ e 32 = (cutV n0 (Int.toNat 0) (Int.toNat j0) 1) ∧ RV g.m w (j1 : List (List Str)) (cutV n0 (Int.toNat 0) (Int.toNat j0) 1) ∧ e 33 = .int .i64 (((j1).length : Int)) ∧ e 34 = .int .i64 (s.2)) ⟨n6, hfr, hmk, a6, b6, c6, i5, rfl, p9, n5, o4, o5, d3, rfl, v7, rfl, rfl⟩ (fun X152 q7 y8 => ?_)
     rintro ⟨o3, o0⟩ qA d6 aB ⟨o6, hfr, hmk, j2, e4, j5, i4, l5, j4, p4, i3, q4, s4, u4, m1, x4, j3⟩ h
     refine E_seq (E_region (EL_in (.bool ((decide (o0 < ((j1).length : Int))))) j3 x4 rfl rfl ?_))
     refine EL_nil (thn_n (E_seq ?_))
     rcases csome h with ⟨x5, h⟩ | ⟨x5, h⟩
     ·refine E_ct x5 rfl ?_
      refine E_skip (thn_n ?_)
      obtain ⟨s3, hx, h⟩ := bsome h
      refine E_joinD (fun e ds w => ∃ (g : Gh) , Fr gI wI g w ∧ MkF g w ds ∧ e 4 = p2 ∧ OB 2004 g w 3 (s3 : Int) p2 ∧ e 7 = n0 ∧ RV g.m w (u0 : List (List Str)) n0 ∧ e 9 = m3 ∧ RV g.m w (d5 : List Str) m3 ∧ e 23 = n0 ∧ RV g.m w (u0 : List (List Str)) n0 ∧ e 24 = .int .i64 (((u0).length : Int)) ∧ e 25 = .int .i64 (j0) ∧ e 32 = (cutV n0 (Int.toNat 0) (Int.toNat j0) 1) ∧ RV g.m w (j1 : List (List Str)) (cutV n0 (Int.toNat 0) (Int.toNat j0) 1) ∧ e 33 = .int .i64 (((j1).length : Int)) ∧ e 34 = .int .i64 (o0)) (fun Q' hQ => ?_) (fun rA jA bB hR => ?_)
      ·replace h := hx
       clear hx
       refine E_block ?_
       refine E_seq (E_region ?_)
       obtain ⟨r7, u6, h⟩ := bsome h
       refine EL_pur (v := ePtr ((cutV n0 (Int.toNat 0) (Int.toNat j0) 1)) o0 1) (P_indexAddr (α := List Str) Try.underlying78 Try.sizeOf36 u4 m1 j3 u6) .plain rfl ?_
       have q9 := PT_idx m1 u6
       refine EL_do .plain rfl (D_load (g := o6) Try.isAgg36 Try.sizeOf36 rfl q9 fun p6 r9 => ?_)
       refine EL_at p6 rfl rfl ?_
       refine EL_nil (thn_n (E_seq (E_region (EL_mv l5 rfl ?_))))
       refine EL_mw p6 rfl rfl ?_
       obtain ⟨l6, z8, h⟩ := bsome h
       refine EL_do .plain rfl (D_call (g := o6) (vs := [m3, p6]) en56 (.cons rfl (.cons rfl .nil)) (wk56 j4 r9 z8) fun cB sA s9 hs hr => ?_)
       have hfr := hfr.ext hs
       have hmk := hmk.ext hs
       have e4 := e4.ext hs
       have i4 := i4.ext hs
       have j4 := j4.ext hs
       have i3 := i3.ext hs
       have m1 := m1.ext hs
       have x7 := hr
       refine EL_nil (thn_n (E_block ?_))
       have hB0 := hfr.size
       have hmk0 := hmk
       obtain ⟨⟨q3, e5⟩, hφ, h⟩ := bsome h
       refine E_rangeFunc (σ := (Nat × Int)) (s0 := (0, (o3))) 10 rfl (fun s => s.1) [.exit 4] (fun (s : Nat × Int) (g : Gh) (w : World) => Fr gI wI g w ∧ MkF g w d6 ∧ OB 2004 g w 3 (s.2 : Int) p2 ∧ RV g.m w (u0 : List (List Str)) n0 ∧ RV g.m w (d5 : List Str) m3 ∧ RV g.m w (u0 : List (List Str)) n0 ∧ RV g.m w (j1 : List (List Str)) (cutV n0 (Int.toNat 0) (Int.toNat j0) 1) ∧ ItV Try.prog (RA2 (α := Int) (β := Int)) l6 s9 g.m w) rfl x7 hφ (fun _ _ _ h => (guardC_h h).1) rfl ra2_size rfl (fun _ _ _ _ _ hx hR => by obtain ⟨hfr, hmk, z2, z3, z4, z5, z6, z7⟩ := hR; exact ⟨hfr.ist hx hB0, hmk.ist hx, z2.ist hx, z3.ist hx, z4.ist hx, z5.ist hx, z6.ist hx, z7.ist hx⟩) (fun _ _ _ _ _ hx hR => by obtain ⟨hfr, hmk, z2, z3, z4, z5, z6, z7⟩ := hR; exact ⟨hfr.stp hx, hmk.stp hx, z2.stp hx rfl, z3.stp hx, z4.stp hx, z5.stp hx, z6.stp hx, z7.stp hx⟩) ⟨hfr, hmk, e4, i4, j4, i3, m1, x7⟩ (fun _ h => by cases h) ?_ ?_
       ·intro tA kA s x b s2 q6 t9 vs hsz h hR hrec_0 v6 hrd
        obtain ⟨hs0, h⟩ := guardC_h h
        obtain ⟨st, p3⟩ := s
        obtain ⟨hfr, hmk, m4, m2, q2, z1, d2, i2⟩ := hR
        obtain ⟨i1, y5⟩ := x
        obtain ⟨y7, a8, rfl, x6, y6⟩ := ra2_get hrd
        obtain rfl : y7 = .int .i64 (i1) := RV_int.1 x6
        obtain rfl : a8 = .int .i64 (y5) := RV_int.1 y6
        have n4 := RFr.refl q6 t9
        refine E_region (EL_at (.int .i64 (i1)) rfl rfl ?_)
        refine EL_nil (thn_n ?_)
        obtain ⟨u9, hbr, hs, hrN⟩ := begin_round hrec_0 v6
        refine ⟨u9, hbr, ?_⟩
        have hfr := hfr.stp hs
        have hmk := hmk.stp hs
        have n4 := n4.stp hs
        have m4 := m4.stp hs rfl
        have m2 := m2.stp hs
        have q2 := q2.stp hs
        have z1 := z1.stp hs
        have d2 := d2.stp hs
        have i2 := i2.stp hs
        have hrec_0 := hrN
        clear hbr hs hrN
        refine E_block ?_
        refine E_seq (E_region (EL_do .plain rfl (D_loadO (g := q6) Try.isAgg3 Try.sizeOf3 j2 m4 fun dB v9 => ?_)))
        obtain rfl := RV_int.1 v9
        refine EL_mw (.int .i64 (i1)) rfl rfl ?_
        refine EL_in (.int .i64 ((w64 (i1 + (1 : Int))))) rfl rfl rfl rfl ?_
        refine EL_pur (v := .int .i64 (max64 p3 (w64 (i1 + (1 : Int))))) (P_max rfl rfl) .plain rfl ?_
        refine EL_do .plain rfl (D_storeOc (g := q6) (v := .int .i64 (max64 p3 (w64 (i1 + (1 : Int))))) Try.sizeOf3 j2 m4 rfl (RV_int.2 rfl) fun eB iB hs b182 cb => ?_)
        clear cb
        have hfr := hfr.stp hs
        have hmk := hmk.stp hs
        have n4 := n4.stp hs
        have hrec_0 := hrec_0.stp hs rfl
        have m2 := m2.stp hs
        have q2 := q2.stp hs
        have z1 := z1.stp hs
        have d2 := d2.stp hs
        have i2 := i2.stp hs
        refine EL_nil (thn_n (E_exit ?_))
        refine blk_miss rfl ?_
        obtain ⟨rfl, rfl⟩ := pairs2 h
        exact ⟨_, n4, ⟨hfr, hmk, b182, m2, q2, z1, d2, i2⟩, hrec_0, rfl, 0, rfl, rfl⟩
       ·intro b8 jB ds184 hsz hR hds
        obtain ⟨hfr, hmk, e6, i6, j6, p5, q5, aA⟩ := hR
        obtain ⟨D, hdse, hD, hDb⟩ := hds.1 rfl
        subst hdse
        replace hmk := MkF.push hmk0 hmk hD hDb
        clear hD hDb hds
        revert hmk
        generalize ({ target := .collected D, args := #[] } :: d6 : List Deferred) = lA
        intro hmk
        refine ⟨fun hs => ?_, fun k c hs hc => ?_⟩
        ·have hs : q3 = 0 := hs
         subst hs
         replace h := cond_t h rfl
         refine blk_n (blk_n ?_)
         obtain rfl := sinj h
         exact hQ _ _ _ ⟨b8, hfr, hmk, j2, e6, j5, i6, l5, j6, p4, p5, q4, s4, u4, q5, x4, j3⟩
        ·have hs : q3 = k + 1 := hs
         match k, hs, hc with
         | 0, hs, hc =>
          subst hs
          obtain rfl := sinj hc
          replace h := cond_f h rfl
          refine E_exit ?_
          refine blk_hit ?_
          refine blk_n ?_
          obtain rfl := sinj h
          exact hQ _ _ _ ⟨b8, hfr, hmk, j2, e6, j5, i6, l5, j6, p4, p5, q4, s4, u4, q5, x4, j3⟩
         | n + 1, _, hc => exact absurd hc (by simp)
      ·clear hx
       obtain ⟨x9, hfr, hmk, c8, d8, e8, g8, i8, j8, a7, b7, c7, d7, e7, g7, i7, j7⟩ := hR
       refine E_region (EL_in (.int .i64 ((w64 (o0 + (1 : Int))))) j7 rfl rfl rfl ?_)
       refine EL_mw (.int .i64 ((w64 (o0 + (1 : Int))))) rfl rfl ?_
       exact EL_nil (thn_n (y8 (s3, (w64 (o0 + (1 : Int)))) _ _ _ ⟨x9, hfr, hmk, c8, d8, e8, g8, i8, j8, a7, b7, c7, d7, e7, g7, i7, rfl⟩ h))
     ·refine E_cf x5 rfl ?_
      refine E_exit ?_
      refine thn_e ?_
      refine thn_e ?_
      refine blk_hit ?_
      refine blk_n ?_
      obtain rfl := sinj h
      exact hQ _ _ _ ⟨o6, hfr, hmk, j2, e4, j5, i4, p4, i3, q4, s4⟩
    ·clear hx
     obtain ⟨y9, hfr, hmk, k8, l8, m8, n8, l7, m7, n7, o7⟩ := hR
     refine E_region (EL_in (.int .i64 ((w64 (j0 + (1 : Int))))) o7 rfl rfl rfl ?_)
     refine EL_mw (.int .i64 ((w64 (j0 + (1 : Int))))) rfl rfl ?_
     exact EL_nil (thn_n (x8 (u3, (w64 (j0 + (1 : Int)))) _ _ _ ⟨y9, hfr, hmk, k8, l8, m8, n8, l7, m7, n7, rfl⟩ h))
   ·refine E_cf u5 rfl ?_
    refine E_exit ?_
    refine thn_e ?_
    refine thn_e ?_
    refine blk_hit ?_
    obtain rfl := sinj h
    exact hQ _ _ _ ⟨n6, hfr, hmk, a6, b6⟩
  ·clear hx
   obtain ⟨o8, hfr, hmk, m5, k6⟩ := hR
   refine E_seq (E_region (EL_do .plain rfl (D_loadO (g := o8) Try.isAgg3 Try.sizeOf3 m5 k6 fun kB z9 => ?_)))
   obtain rfl := RV_int.1 z9
   refine EL_do .plain rfl (D_storeOc (g := o8) (v := .int .i64 (c4)) Try.sizeOf3 m5 k6 rfl (RV_int.2 rfl) fun lB mB hs b189 cb => ?_)
   clear cb
   have hfr := hfr.stp hs
   have hmk := hmk.stp hs
   refine EL_at (.int .i64 (0)) rfl rfl ?_
   refine EL_nil (thn_n (E_ret (endM (.inr rfl) hmk fun nB n9 hs => ?_)))
   have hfr := hfr.stp hs
   have b189 := b189.stp hs rfl
   obtain rfl := sinj h
   obtain ⟨ad191, cv191, hp191, a9, cr191⟩ := ob_read Try.isAgg3 Try.sizeOf3 b189
   obtain rfl := RV_int.1 cr191
   exact endm_ct rfl rfl ((show _ = p2 from m5).trans hp191) a9 (show _ = .int .i64 (0) from rfl) ⟨_, hfr, _, _, rfl, rfl, rfl⟩
/-- griffe/fault.Groups -/
def f39 (x0 : FaultLoom) (x1 : List FaultDamage) : Option ((List (List Int)) × Int) :=
 jn (σ := (List (List Int))) (fun u4 =>
  (f68 ((⟨x0⟩ : FaultFaultLoom)) x1).bind fun m2 =>
  Option.bind (α := (List (List Int))) (
   lp (σ := (List (List Int)) × Int) (fun d7 (p2, n0) =>
    bif (decide (n0 < ((m2).length : Int))) then
     Option.bind (α := (List (List Int))) (
      (idx m2 n0).bind fun e7 =>
      (f69 p2 ((fun a0 => f70 a0 m2 e7))).bind fun o3 =>
      Option.bind (α := (List (List Int)) × Int) (
       bif (decide (o3 < (0 : Int))) then
        (apnd 24 p2 ([([] : List Int)] : List (List Int))).bind fun l5 =>
        some (l5, ((p2).length : Int))
       else
        some (p2, o3)
       ) fun (d3, j2) =>
      (idx d3 j2).bind fun m5 =>
      (apnd 8 m5 (([n0] : List Int))).bind fun n5 =>
      some ((List.set d3 (Int.toNat j2) n5))
      ) fun i3 =>
     d7 (i3, (w64 (n0 + (1 : Int))))
    else
     some (p2)
    ) big (u4, (0 : Int))
   ) fun p3 =>
  some (p3, (0 : Int))
  ) fun k7 =>
 (f18 x0 x1).bind fun j3 =>
 bif (j3 != (0 : Int)) then
  some ([], j3)
 else
  k7 (([] : List (List Int)))
theorem en39 : Enters Try.prog 39 := enters_of Try.func39 (by kernel_rfl) rfl
theorem wk39 {gI : Gh} {wI : World} {x0 : FaultLoom} {x1 : List FaultDamage} {up0 : Value} (rp0 : RV gI.m wI x0 up0) {up1 : Value} (rp1 : RV gI.m wI x1 up1) {r : (List (List Int)) × Int} (h : f39 x0 x1 = some r) : Fn Try.prog 39 #[up0, up1] gI wI (fun m w v => ∃ y0 y1, v = .tuple #[y0, y1] ∧ RV m w (r.1) y0 ∧ y1 = .int .i64 (r.2)) := by
 unfold f39 at h
 refine fn_of_E Try.func39 rfl (Nat.le_of_ble_eq_true rfl) fun g0 hm hfr => ?_
 have rp0 : RV g0.m wI x0 up0 := hm ▸ rp0
 have rp1 : RV g0.m wI x1 up1 := hm ▸ rp1
 show E _ 50 none _ _ _ _ _
 refine E_seq (E_region (EL_do .plain rfl (D_box (g := g0) rfl rp0 fun g1 w1 p1 hs q1 => ?_)))
 have hfr := hfr.ext hs
 have rp1 := rp1.ext hs
 refine EL_at (.slice none 0 0) rfl rfl ?_
 have b2 : RO 9004 g1 w1 22 [] (.slice none 0 0) := RO.nil
 have c2 : Pool (RS (α := Int) 3) 9504 g1 w1 [] [] none := Pool.nil
 refine EL_at (.int .i64 (0)) rfl rfl ?_
 refine EL_nil (thn_n (E_joinC h (fun (s : (List (List Int))) e w => ∃ (g : Gh) (v4 : Value), Fr gI wI g w ∧ e 1 = up1 ∧ RV g.m w (x1 : List FaultDamage) up1 ∧ e 2 = p1 ∧ PT g.m w (x0 : FaultLoom) p1 ∧ e 4 = v4 ∧ NS (RS (α := Int) 3) 9004 9504 g w 22 (s : List (List Int)) v4) (fun X7 k7 y7 h => ?_) ?_))
 ·refine E_seq (E_region (EL_do .plain rfl (D_load (g := g1) Try.isAgg28 Try.sizeOf28 rfl q1 fun v8 r8 => ?_)))
  refine EL_mw up1 rfl rfl ?_
  obtain ⟨j3, n7, h⟩ := bsome h
  refine EL_do .plain rfl (D_call (g := g1) (vs := [v8, up1]) en18 (.cons rfl (.cons rfl .nil)) (wk18 r8 rp1 n7) fun g9 w9_ v9 hs hr => ?_)
  have hfr := hfr.ext hs
  have rp1 := rp1.ext hs
  have q1 := q1.ext hs
  have b2 := b2.ext hs
  have c2 := c2.ext (rowS _) hs
  subst hr
  refine EL_at (.int .i64 (j3)) rfl rfl ?_
  refine EL_nil (thn_n (E_seq (E_region (EL_mw (.int .i64 (j3)) rfl rfl ?_))))
  refine EL_in (.bool ((j3 != (0 : Int)))) rfl rfl rfl rfl ?_
  refine EL_nil (thn_n ?_)
  rcases csome h with ⟨o4, h⟩ | ⟨o4, h⟩
  ·refine E_ct o4 rfl ?_
   refine E_seq (E_region (EL_mw (.int .i64 (j3)) rfl rfl ?_))
   refine EL_at (.slice none 0 0) rfl rfl ?_
   refine EL_at (.int .i64 (j3)) rfl rfl ?_
   refine EL_nil (thn_n (E_ret (thn_r ?_)))
   obtain rfl := sinj h
   exact end2 rfl rfl (show _ = .slice none 0 0 from rfl) (show _ = .int .i64 (j3) from rfl) ⟨_, hfr, _, _, rfl, RV_nil, rfl⟩
  ·refine E_cf o4 rfl ?_
   exact E_skip (thn_n (y7 (([] : List (List Int))) _ _ ⟨g9, (.slice none 0 0), hfr, rfl, rp1, rfl, q1, rfl, ⟨_, b2, c2⟩⟩ h))
 ·rintro u4 t8 t9 ⟨o5, s6, hfr, t6, u6, v6, x6, y6, ⟨k8, d2, i2⟩⟩ h
  refine E_seq (E_region (EL_do .plain rfl (D_load (g := o5) Try.isAgg28 Try.sizeOf28 v6 x6 fun p5 g7 => ?_)))
  have i7 : RV o5.m _ (⟨x0⟩ : FaultFaultLoom) (.agg (setCh [[.int .i64 0, .slice none 0 0, .int .i64 0, .slice none 0 0]] [(0, p5)]).flatten.toArray) := RV_build rfl (rep_last (RV.cells g7))
  generalize o7 : (Value.agg (setCh [[.int .i64 0, .slice none 0 0, .int .i64 0, .slice none 0 0]] [(0, p5)]).flatten.toArray) = j7 at i7
  refine EL_pur (v := j7) (o7 ▸ P_build (vs := [(0, p5)]) [[.int .i64 0, .slice none 0 0, .int .i64 0, .slice none 0 0]] lay_98 rfl rfl (.cons rfl .nil) ⟨⟨_, rfl, cells_size g7⟩, trivial⟩) .plain rfl ?_
  refine EL_mv t6 rfl ?_
  obtain ⟨m2, p7, h⟩ := bsome h
  refine EL_do .plain rfl (D_call (g := o5) (vs := [j7, up1]) en68 (.cons rfl (.cons rfl .nil)) (wk68 i7 u6 p7) fun z7 x8 a8 hs hr => ?_)
  have hfr := hfr.ext hs
  have d2 := d2.ext hs
  have i2 := i2.ext (rowS _) hs
  have q5 := hr
  refine EL_do .plain rfl (D_allocOc (g := z7) 2007 ([] : List (List Str)) Try.zeroValue78 (fun m w => ⟨_, rep_nil, rfl⟩) fun l7 b8 q2 hs b17 cb => ?_)
  have hfr := hfr.stp hs
  have d2 := d2.stp hs rfl
  have i2 := i2.stp (rowS _) hs rfl
  have q5 := q5.stp hs
  have l8 : OSF 2007 60700 0 l7 b8 36 78 ([] : List (List Str)) q2 := cb.osf (by rfl)
  clear cb
  refine EL_do .plain rfl (D_storeOc (g := l7) (v := a8) Try.sizeOf78 rfl b17 rfl q5 fun u9 x9 hs b18 cb => ?_)
  clear cb
  have hfr := hfr.stp hs
  have d2 := d2.stp hs rfl
  have i2 := i2.stp (rowS _) hs rfl
  obtain ⟨gp18, hs, qp18⟩ := OB.pub b18
  have hfr := hfr.stp hs
  have d2 := d2.stp hs rfl
  have i2 := i2.stp (rowS _) hs rfl
  refine EL_nil (thn_n ?_)
  obtain ⟨p3, hx, h⟩ := bsome h
  refine E_join (fun e w => ∃ (g : Gh) (v4 : Value), Fr gI wI g w ∧ e 4 = v4 ∧ NS (RS (α := Int) 3) 9004 9504 g w 22 (p3 : List (List Int)) v4) (fun Q' hQ => ?_) (fun m8 y8 hR => ?_)
  ·replace h := hx
   clear hx
   refine E_seq (E_region (EL_do .plain rfl (D_load (g := gp18) Try.isAgg78 Try.sizeOf78 rfl qp18 fun q3 m7 => ?_)))
   refine EL_pur (v := .int .i64 ((m2).length : Int)) (P_len Try.underlying78 rfl m7) .plain rfl ?_
   refine EL_mw (.int .i64 (0)) rfl rfl ?_
   refine EL_nil (thn_n (E_block ?_))
   refine E_lp h (fun (s : (List (List Int)) × Int) e w => ∃ (g : Gh) (v4 : Value), Fr gI wI g w ∧ e 4 = v4 ∧ NS (RS (α := Int) 3) 9004 9504 g w 22 (s.1 : List (List Int)) v4 ∧ e 7 = q2 ∧ PT g.m w (m2 : List (List Str)) q2 ∧ e 21 = q3 ∧ RV g.m w (m2 : List (List Str)) q3 ∧ e 22 = .int .i64 (((m2).length : Int)) ∧ e 23 = .int .i64 (s.2)) ⟨gp18, (s6), hfr, y6, ⟨_, d2, i2⟩, rfl, qp18, rfl, m7, rfl, rfl⟩ (fun X71 d7 q7 => ?_)
   rintro ⟨p2, n0⟩ z8 y9 ⟨t5, i4, hfr, m3, ⟨n8, i1, j1⟩, j4, o0, s3, j0, u3, s2⟩ h
   refine E_seq (E_region (EL_in (.bool ((decide (n0 < ((m2).length : Int))))) s2 u3 rfl rfl ?_))
   refine EL_nil (thn_n (E_seq ?_))
   rcases csome h with ⟨p4, h⟩ | ⟨p4, h⟩
   ·refine E_ct p4 rfl ?_
    refine E_skip (thn_n ?_)
    obtain ⟨i3, hx, h⟩ := bsome h
    refine E_join (fun e w => ∃ (g : Gh) (v4 : Value), Fr gI wI g w ∧ e 4 = v4 ∧ NS (RS (α := Int) 3) 9004 9504 g w 22 (i3 : List (List Int)) v4 ∧ e 7 = q2 ∧ PT g.m w (m2 : List (List Str)) q2 ∧ e 21 = q3 ∧ RV g.m w (m2 : List (List Str)) q3 ∧ e 22 = .int .i64 (((m2).length : Int)) ∧ e 23 = .int .i64 (n0)) (fun Q' hQ => ?_) (fun o8 a9 hR => ?_)
    ·replace h := hx
     clear hx
     refine E_block ?_
     refine E_seq (E_region (EL_mv s2 rfl ?_))
     obtain ⟨e7, u5, h⟩ := bsome h
     refine EL_pur (v := ePtr q3 n0 1) (P_indexAddr (α := List Str) Try.underlying78 Try.sizeOf36 s3 j0 s2 u5) .plain rfl ?_
     have c8 := PT_idx j0 u5
     refine EL_do .plain rfl (D_load (g := t5) Try.isAgg36 Try.sizeOf36 rfl c8 fun d8 x5 => ?_)
     refine EL_do .plain rfl (D_allocOc (g := t5) 2009 ([] : List Str) Try.zeroValue36 (fun m w => ⟨_, rep_nil, rfl⟩) fun y5 r7 z3 hs b100 cb => ?_)
     have hfr := hfr.stp hs
     have i1 := i1.stp hs rfl
     have j1 := j1.stp (rowS _) hs rfl
     have o0 := o0.stp hs
     have j0 := j0.stp hs
     have x5 := x5.stp hs
     have e8 : OSF 2009 60900 0 y5 r7 9 36 ([] : List Str) z3 := cb.osf (by rfl)
     clear cb
     refine EL_at (.int .i64 (n0)) rfl rfl ?_
     refine EL_do .plain rfl (D_storeOc (g := y5) (v := d8) Try.sizeOf36 rfl b100 rfl x5 fun b9 s7 hs b101 cb => ?_)
     clear cb
     have hfr := hfr.stp hs
     have i1 := i1.stp hs rfl
     have j1 := j1.stp (rowS _) hs rfl
     have o0 := o0.stp hs
     have j0 := j0.stp hs
     obtain ⟨gp101, hs, qp101⟩ := OB.pub b101
     have hfr := hfr.stp hs
     have i1 := i1.stp hs rfl
     have j1 := j1.stp (rowS _) hs rfl
     have o0 := o0.stp hs
     have j0 := j0.stp hs
     refine EL_nil (thn_n (E_seq (E_region (EL_mv m3 rfl ?_))))
     refine EL_pur (v := (.func (.func 70) #[] #[q2, z3])) (P_makeFunc (capf_0_2 (show ev _ _ = q2 from j4) (show ev _ _ = z3 from rfl))) .plain rfl ?_
     obtain ⟨o3, z6, h⟩ := bsome h
     refine EL_do .plain rfl (D_callN (g := gp101) (R := (RS (α := Int) 3)) (vs := [i4, (.func (.func 70) #[] #[q2, z3])]) (fun h => h.2) ⟨_, i1, j1⟩ en69 (.cons rfl (.cons rfl .nil)) (fun g1 hchN hrN => wk69 hrN (FnV1.ch (g := gp101) (w := s7) ⟨70, #[], #[q2, z3], rfl, en70, fun g' w' hch a0 b0 r hu0 hr => by exact Fn.mono (wk70 hu0 (o0.ch hch) (qp101.ch hch) hr) fun _ _ _ h => RV_bool.2 h⟩ hchN) z6) fun z5 p8 _ c9 hs hr => ?_)
     have hfr := hfr.ext hs
     have i1 := i1.ext hs
     have j1 := j1.ext (rowS _) hs
     have o0 := o0.ext hs
     have j0 := j0.ext hs
     subst hr
     refine EL_at (.int .i64 (o3)) rfl rfl ?_
     refine EL_nil (thn_n ?_)
     obtain ⟨⟨d3, j2⟩, hx, h⟩ := bsome h
     refine E_join (fun e w => ∃ (g : Gh) (v4 : Value), Fr gI wI g w ∧ e 4 = v4 ∧ NS (RS (α := Int) 3) 9004 9504 g w 22 (d3 : List (List Int)) v4 ∧ e 7 = q2 ∧ PT g.m w (m2 : List (List Str)) q2 ∧ e 8 = .int .i64 (n0) ∧ e 10 = .int .i64 (j2) ∧ e 21 = q3 ∧ RV g.m w (m2 : List (List Str)) q3 ∧ e 22 = .int .i64 (((m2).length : Int)) ∧ e 23 = .int .i64 (n0)) (fun Q' hQ => ?_) (fun q8 t7 hR => ?_)
     ·replace h := hx
      clear hx
      refine E_seq (E_region (EL_mw (.int .i64 (o3)) rfl rfl ?_))
      refine EL_in (.bool ((decide (o3 < (0 : Int))))) rfl rfl rfl rfl ?_
      refine EL_nil (thn_n ?_)
      rcases csome h with ⟨m4, h⟩ | ⟨m4, h⟩
      ·refine E_ct m4 rfl ?_
       refine E_seq (E_region (EL_mv m3 rfl ?_))
       refine EL_pur (v := .int .i64 ((p2).length : Int)) (P_lenN Try.underlying71 rfl i1 j1) .plain rfl ?_
       refine EL_at (.int .i64 ((p2).length : Int)) rfl rfl ?_
       refine EL_nil (thn_n (E_region (EL_mv m3 rfl ?_)))
       refine EL_do .plain rfl (D_buildSlice (g := z5) 3036 (xs := ([⟨.slice none 0 0, rfl⟩] : List Fv)) (vs := [.slice none 0 0]) Try.underlying71 Try.sizeOf22 Try.zeroValue22 rfl rfl (.cons rfl .nil) (RVs.cons (RV_fv.2 rfl) RVs.nil) rfl rfl fun u7 d9 e9 hs o109 v7 hxt hfl => ?_)
       have hfr := hfr.stp hs
       have i1 := i1.stp hs rfl
       have j1 := j1.stp (rowS _) hs rfl
       have o0 := o0.stp hs
       have j0 := j0.stp hs
       obtain ⟨l5, a7, h⟩ := bsome h
       refine EL_do .plain rfl (D_appendN (g := u7) (R := (RS (α := Int) 3)) (i := 9004) (j := 9504) (j' := 4037) (rowS _) ⟨.slice none 0 0, rfl⟩ Try.underlying71 info_22 rfl rfl ⟨_, i1, j1⟩ rfl v7 ⟨OS.nil, RV_nil⟩ a7 rfl rfl rfl rfl fun i9 j9 a6 ga110 hs hs2 bb110 => ?_)
       have hfr := hfr.stp hs
       have o0 := o0.stp hs
       have j0 := j0.stp hs
       have hfr := hfr.stp hs2
       have o0 := o0.stp hs2
       have j0 := j0.stp hs2
       obtain ⟨k9, b110, c110⟩ := bb110
       clear hs hs2
       refine EL_at a6 rfl rfl ?_
       refine EL_nil ?_
       obtain ⟨rfl, rfl⟩ := pairs2 h
       exact hQ _ _ ⟨ga110, (a6), hfr, rfl, ⟨_, b110, c110⟩, j4, o0, rfl, rfl, s3, j0, u3, s2⟩
      ·refine E_cf m4 rfl ?_
       refine E_skip ?_
       obtain ⟨rfl, rfl⟩ := pairs2 h
       exact hQ _ _ ⟨z5, (i4), hfr, m3, ⟨_, i1, j1⟩, j4, o0, rfl, rfl, s3, j0, u3, s2⟩
     ·clear hx
      obtain ⟨b6, c4, hfr, d4, ⟨g8, m1, z2⟩, c6, z1, d6, e4, x4, u0, z4, c5⟩ := hR
      refine E_region (EL_mv d4 rfl ?_)
      refine EL_mv e4 rfl ?_
      refine EL_mv d4 rfl ?_
      refine EL_mv e4 rfl ?_
      obtain ⟨m5, b7, h⟩ := bsome h
      obtain ⟨l9, hri114, hrn114, hxn114⟩ := Pool.idx z2 b7
      refine EL_pur (v := ePtr c4 j2 1) (P_indexAddrM (α := Fv) Try.underlying71 Try.sizeOf22 rfl (RO.toM m1) rfl hri114) .plain rfl ?_
      refine EL_do .plain rfl (D_loadM (g := b6) (α := Fv) Try.isAgg22 Try.sizeOf22 rfl (RO.toM m1) hri114 fun m9 e6 => ?_)
      obtain rfl := RV_fv.1 e6
      have e6 := (z2.2.1 _ _ _ (by simp) hrn114 hxn114).2
      refine EL_mv d6 rfl ?_
      refine EL_do .plain rfl (D_buildSlice (g := b6) 3045 (xs := ([n0] : List Int)) (vs := [.int .i64 (n0)]) Try.underlying22 Try.sizeOf3 Try.zeroValue3 rfl rfl (.cons rfl .nil) (RVs.cons (RV_int.2 rfl) RVs.nil) rfl rfl fun n9 o9 p9 hs o116 q4 hxt hfl => ?_)
      have hfr := hfr.stp hs
      have m1 := m1.stp hs rfl
      have z2 := z2.stp (rowS _) hs rfl
      have z1 := z1.stp hs
      have u0 := u0.stp hs
      obtain ⟨n5, c7, h⟩ := bsome h
      obtain ⟨ga117, _, hs, hw117, ck117⟩ := Pool.take (rowS _) z2 hrn114 hxn114 4046
      have hfr := hfr.stp hs
      have m1 := m1.stp hs rfl
      have z1 := z1.stp hs
      have u0 := u0.stp hs
      have q4 := q4.stp hs
      refine EL_do .plain rfl (D_append (g := ga117) (i := 4046) Try.underlying22 info_3 rfl rfl hw117.1 hw117.2 rfl q4 c7 fun q9 r9 i6 hs o117 s4 _ => ?_)
      have hfr := hfr.stp hs
      have m1 := m1.stp hs rfl
      have ck117 := ck117.stp (rowS _) hs rfl
      have z1 := z1.stp hs
      have u0 := u0.stp hs
      obtain ⟨gb117, _, hs, cp117⟩ := Pool.put (rowS _) ck117 ⟨i6, one_row s4⟩ ⟨o117, s4⟩ rfl
      have hfr := hfr.stp hs
      have m1 := m1.stp hs rfl
      have z1 := z1.stp hs
      have u0 := u0.stp hs
      refine EL_pur (v := ePtr c4 j2 1) (P_indexAddrM (α := Fv) Try.underlying71 Try.sizeOf22 rfl (RO.toM m1) rfl hri114) .plain rfl ?_
      refine EL_do .plain rfl (D_storeRO (g := gb117) ⟨i6, one_row s4⟩ Try.sizeOf22 rfl m1 hri114 rfl fun t7 hs b119 => ?_)
      have hfr := hfr.stp hs
      have cp117 := cp117.stp (rowS _) hs rfl
      have z1 := z1.stp hs
      have u0 := u0.stp hs
      refine EL_nil (blk_n ?_)
      obtain rfl := sinj h
      exact hQ _ _ ⟨gb117, (c4), hfr, d4, ⟨_, b119, cp117⟩, c6, z1, x4, u0, z4, c5⟩
    ·clear hx
     obtain ⟨x7, j6, hfr, k6, ⟨i8, l6, m6⟩, n6, o6, d5, e5, i5, j5⟩ := hR
     refine E_region (EL_in (.int .i64 ((w64 (n0 + (1 : Int))))) j5 rfl rfl rfl ?_)
     refine EL_mw (.int .i64 ((w64 (n0 + (1 : Int))))) rfl rfl ?_
     exact EL_nil (thn_n (q7 (i3, (w64 (n0 + (1 : Int)))) _ _ ⟨x7, (j6), hfr, k6, ⟨_, l6, m6⟩, n6, o6, d5, e5, i5, rfl⟩ h))
   ·refine E_cf p4 rfl ?_
    refine E_exit ?_
    refine thn_e ?_
    refine thn_e ?_
    refine blk_hit ?_
    obtain rfl := sinj h
    exact hQ _ _ ⟨t5, (i4), hfr, m3, ⟨_, i1, j1⟩⟩
  ·clear hx
   obtain ⟨s9, n4, hfr, p6, ⟨j8, q6, r6⟩⟩ := hR
   refine E_seq (E_region (EL_mv p6 rfl ?_))
   refine EL_at n4 rfl rfl ?_
   refine EL_at (.int .i64 (0)) rfl rfl ?_
   refine EL_nil (thn_n (E_ret ?_))
   obtain ⟨gp122, hs, rp122⟩ := NS.pub (R := (RS (α := Int) 3)) (fun h => h.2) ⟨_, q6, r6⟩
   have hfr := hfr.stp hs
   obtain rfl := sinj h
   exact end2 rfl rfl (show _ = n4 from rfl) (show _ = .int .i64 (0) from rfl) ⟨_, hfr, _, _, rfl, rp122, rfl⟩
/-- griffe/fault.Look -/
def f41 (x0 : FaultLoom) (x1 : List FaultDamage) (x2 : Int) : Option (Int × Int × Int × Int) :=
 jn (σ := Int × Int) (fun (i6, j6) =>
  jn (σ := Int × Int) (fun (m7, n7) =>
   (f68 ((⟨x0⟩ : FaultFaultLoom)) x1).bind fun u0 =>
   Option.bind (α := Int × Int × Int) (
    lp (σ := Int × Int × Int × Int) (fun g9 (e5, i5, j5, j0) =>
     bif (decide (j0 < (min64 x2 ((((x0).Design).Rows).length : Int)))) then
      Option.bind (α := Int × Int × Int) (
       lp (σ := Int × Int × Int × Int) (fun i9 (d2, i2, m1, o0) =>
        bif (decide (o0 < ((((x0).Harness).Warps).length : Int))) then
         Option.bind (α := Int × Int × Int) (
          Option.bind (α := Int) (
           lp (σ := Int × Int) (fun j9 (z1, i1) =>
            bif (decide (i1 < ((u0).length : Int))) then
             Option.bind (α := Int) (
              (idx u0 i1).bind fun k9 =>
              (idx k9 j0).bind fun l9 =>
              (idx (l9).b o0).bind fun l6 =>
              bif (l6 == (120 : UInt8)) then
               some ((w64 (z1 + (1 : Int))))
              else
               some (z1)
              ) fun q2 =>
             j9 (q2, (w64 (i1 + (1 : Int))))
            else
             some (z1)
            ) big ((0 : Int), (0 : Int))
           ) fun n0 =>
          bif (decide ((max64 n0 (w64 (((u0).length : Int) - n0))) < m1)) then
           some (j0, o0, (max64 n0 (w64 (((u0).length : Int) - n0))))
          else
           some (d2, i2, m1)
          ) fun (o3, p3, q3) =>
         i9 (o3, p3, q3, (w64 (o0 + (1 : Int))))
        else
         some (d2, i2, m1)
        ) big (e5, i5, j5, (0 : Int))
       ) fun (s3, u3, z3) =>
      g9 (s3, u3, z3, (w64 (j0 + (1 : Int))))
     else
      some (e5, i5, j5)
     ) big (m7, n7, (w64 (((x1).length : Int) + (1 : Int))), (0 : Int))
    ) fun (j2, m2, p2) =>
   some (j2, m2, p2, (0 : Int))
   ) fun eB =>
  bif (((x1).length : Int) == (0 : Int)) then
   some ((0 : Int), (0 : Int), (0 : Int), (7 : Int))
  else
   eB (i6, j6)
  ) fun k6 =>
 (f54 x0 x1 x2).bind fun y9 =>
 bif (y9 != (0 : Int)) then
  some ((0 : Int), (0 : Int), (0 : Int), y9)
 else
  k6 ((0 : Int), (0 : Int))
theorem en41 : Enters Try.prog 41 := enters_of Try.func41 (by kernel_rfl) rfl
theorem wk41 {gI : Gh} {wI : World} {x0 : FaultLoom} {x1 : List FaultDamage} {x2 : Int} {up0 : Value} (rp0 : RV gI.m wI x0 up0) {up1 : Value} (rp1 : RV gI.m wI x1 up1) {r : Int × Int × Int × Int} (h : f41 x0 x1 x2 = some r) : Fn Try.prog 41 #[up0, up1, .int .i64 (x2)] gI wI (fun _m _w v => ∃ y0 y1 y2 y3, v = .tuple #[y0, y1, y2, y3] ∧ y0 = .int .i64 (r.1) ∧ y1 = .int .i64 (r.2.1) ∧ y2 = .int .i64 (r.2.2.1) ∧ y3 = .int .i64 (r.2.2.2)) := by
 unfold f41 at h
 refine fn_of_E Try.func41 rfl (Nat.le_of_ble_eq_true rfl) fun g0 hm hfr => ?_
 have rp0 : RV g0.m wI x0 up0 := hm ▸ rp0
 have rp1 : RV g0.m wI x1 up1 := hm ▸ rp1
 show E _ 84 none _ _ _ _ _
 refine E_seq (E_region (EL_do .plain rfl (D_box (g := g0) rfl rp0 fun g1 w1 p1 hs q1 => ?_)))
 have hfr := hfr.ext hs
 have rp1 := rp1.ext hs
 refine EL_at (.int .i64 (0)) rfl rfl ?_
 refine EL_at (.int .i64 (0)) rfl rfl ?_
 refine EL_at (.int .i64 (0)) rfl rfl ?_
 refine EL_at (.int .i64 (0)) rfl rfl ?_
 refine EL_nil (thn_n (E_joinC h (fun (s : Int × Int) e w => ∃ (g : Gh) , Fr gI wI g w ∧ e 1 = up1 ∧ RV g.m w (x1 : List FaultDamage) up1 ∧ e 2 = .int .i64 (x2) ∧ e 3 = p1 ∧ PT g.m w (x0 : FaultLoom) p1 ∧ e 6 = .int .i64 (s.1) ∧ e 7 = .int .i64 (s.2)) (fun X6 k6 hk6 h => ?_) ?_))
 ·refine E_seq (E_region (EL_do .plain rfl (D_load (g := g1) Try.isAgg28 Try.sizeOf28 rfl q1 fun v7 r7 => ?_)))
  refine EL_mw up1 rfl rfl ?_
  refine EL_mw (.int .i64 (x2)) rfl rfl ?_
  obtain ⟨y9, aC, h⟩ := bsome h
  refine EL_do .plain rfl (D_call (g := g1) (vs := [v7, up1, .int .i64 (x2)]) en54 (.cons rfl (.cons rfl (.cons rfl .nil))) (wk54 r7 rp1 aC) fun g8 w8_ v8 hs hr => ?_)
  have hfr := hfr.ext hs
  have rp1 := rp1.ext hs
  have q1 := q1.ext hs
  subst hr
  refine EL_at (.int .i64 (y9)) rfl rfl ?_
  refine EL_nil (thn_n (E_seq (E_region (EL_mw (.int .i64 (y9)) rfl rfl ?_))))
  refine EL_in (.bool ((y9 != (0 : Int)))) rfl rfl rfl rfl ?_
  refine EL_nil (thn_n ?_)
  rcases csome h with ⟨g7, h⟩ | ⟨g7, h⟩
  ·refine E_ct g7 rfl ?_
   refine E_seq (E_region (EL_mw (.int .i64 (y9)) rfl rfl ?_))
   refine EL_at (.int .i64 (0)) rfl rfl ?_
   refine EL_at (.int .i64 (0)) rfl rfl ?_
   refine EL_at (.int .i64 (0)) rfl rfl ?_
   refine EL_at (.int .i64 (y9)) rfl rfl ?_
   refine EL_nil (thn_n (E_ret (thn_r ?_)))
   obtain rfl := sinj h
   exact end4 rfl rfl (show _ = .int .i64 (0) from rfl) (show _ = .int .i64 (0) from rfl) (show _ = .int .i64 (0) from rfl) (show _ = .int .i64 (y9) from rfl) ⟨_, hfr, _, _, _, _, rfl, rfl, rfl, rfl, rfl⟩
  ·refine E_cf g7 rfl ?_
   exact E_skip (thn_n (hk6 ((0 : Int), (0 : Int)) _ _ ⟨g8, hfr, rfl, rp1, rfl, rfl, q1, rfl, rfl⟩ h))
 ·rintro ⟨i6, j6⟩ oC eD ⟨bC, hfr, o7, p7, rA, sA, tA, uA, vA⟩ h
  refine E_joinC h (fun (s : Int × Int) e w => ∃ (g : Gh) , Fr gI wI g w ∧ e 1 = up1 ∧ RV g.m w (x1 : List FaultDamage) up1 ∧ e 2 = .int .i64 (x2) ∧ e 3 = p1 ∧ PT g.m w (x0 : FaultLoom) p1 ∧ e 6 = .int .i64 (s.1) ∧ e 7 = .int .i64 (s.2)) (fun X13 eB mB h => ?_) ?_
  ·refine E_seq (E_region (EL_mv o7 rfl ?_))
   refine EL_pur (v := .int .i64 ((x1).length : Int)) (P_len Try.underlying29 rfl p7) .plain rfl ?_
   refine EL_in (.bool ((((x1).length : Int) == (0 : Int)))) rfl rfl rfl rfl ?_
   refine EL_nil (thn_n ?_)
   rcases csome h with ⟨i7, h⟩ | ⟨i7, h⟩
   ·refine E_ct i7 rfl ?_
    refine E_seq (E_region (EL_at (.int .i64 (0)) rfl rfl ?_))
    refine EL_at (.int .i64 (0)) rfl rfl ?_
    refine EL_at (.int .i64 (0)) rfl rfl ?_
    refine EL_at (.int .i64 (7)) rfl rfl ?_
    refine EL_nil (thn_n (E_ret (thn_r ?_)))
    obtain rfl := sinj h
    exact end4 rfl rfl (show _ = .int .i64 (0) from rfl) (show _ = .int .i64 (0) from rfl) (show _ = .int .i64 (0) from rfl) (show _ = .int .i64 (7) from rfl) ⟨_, hfr, _, _, _, _, rfl, rfl, rfl, rfl, rfl⟩
   ·refine E_cf i7 rfl ?_
    exact E_skip (thn_n (mB (i6, j6) _ _ ⟨bC, hfr, o7, p7, rA, sA, tA, uA, vA⟩ h))
  ·rintro ⟨m7, n7⟩ pC gD ⟨m9, hfr, q7, d5, xA, m6, s2, yA, zA⟩ h
   refine E_seq (E_region (EL_do .plain rfl (D_load (g := m9) Try.isAgg28 Try.sizeOf28 m6 s2 fun n9 iB => ?_)))
   have jB : RV m9.m _ (⟨x0⟩ : FaultFaultLoom) (.agg (setCh [[.int .i64 0, .slice none 0 0, .int .i64 0, .slice none 0 0]] [(0, n9)]).flatten.toArray) := RV_build rfl (rep_last (RV.cells iB))
   generalize nB : (Value.agg (setCh [[.int .i64 0, .slice none 0 0, .int .i64 0, .slice none 0 0]] [(0, n9)]).flatten.toArray) = kB at jB
   refine EL_pur (v := kB) (nB ▸ P_build (vs := [(0, n9)]) [[.int .i64 0, .slice none 0 0, .int .i64 0, .slice none 0 0]] lay_98 rfl rfl (.cons rfl .nil) ⟨⟨_, rfl, cells_size iB⟩, trivial⟩) .plain rfl ?_
   refine EL_mv q7 rfl ?_
   obtain ⟨u0, oB, h⟩ := bsome h
   refine EL_do .plain rfl (D_call (g := m9) (vs := [kB, up1]) en68 (.cons rfl (.cons rfl .nil)) (wk68 jB d5 oB) fun lB qC j1 hs hr => ?_)
   have hfr := hfr.ext hs
   have d5 := d5.ext hs
   have s2 := s2.ext hs
   have cC := hr
   refine EL_at j1 rfl rfl ?_
   refine EL_nil (thn_n (E_seq (E_region (EL_mv q7 rfl ?_))))
   refine EL_pur (v := .int .i64 ((x1).length : Int)) (P_len Try.underlying29 rfl d5) .plain rfl ?_
   refine EL_in (.int .i64 ((w64 (((x1).length : Int) + (1 : Int))))) rfl rfl rfl rfl ?_
   refine EL_at (.int .i64 ((w64 (((x1).length : Int) + (1 : Int))))) rfl rfl ?_
   refine EL_nil (thn_n ?_)
   obtain ⟨⟨j2, m2, p2⟩, hx, h⟩ := bsome h
   refine E_join (fun e w => ∃ (g : Gh) , Fr gI wI g w ∧ e 6 = .int .i64 (j2) ∧ e 7 = .int .i64 (m2) ∧ e 8 = .int .i64 (p2)) (fun Q' hQ => ?_) (fun dC rC hR => ?_)
   ·replace h := hx
    clear hx
    refine E_seq (E_region (EL_mv xA rfl ?_))
    refine EL_pur (v := fPtr p1 2) (P_fieldAddr at_28_1 m6 (PT.ptr s2)) .plain rfl ?_
    have o9 := PT_field (part_FaultLoom_1).1 s2
    refine EL_pur (v := fPtr (fPtr p1 2) 1) (P_fieldAddr at_26_1 rfl (PT.ptr o9)) .plain rfl ?_
    have pB := PT_field (part_Design_1).1 o9
    refine EL_do .plain rfl (D_load (g := lB) Try.isAgg22 Try.sizeOf22 rfl pB fun sC qB => ?_)
    refine EL_pur (v := .int .i64 ((((x0).Design).Rows).length : Int)) (P_len Try.underlying22 rfl qB) .plain rfl ?_
    refine EL_pur (v := .int .i64 (min64 x2 ((((x0).Design).Rows).length : Int))) (P_min rfl rfl) .plain rfl ?_
    refine EL_mw (.int .i64 (0)) rfl rfl ?_
    refine EL_nil (thn_n (E_block ?_))
    refine E_lp h (fun (s : Int × Int × Int × Int) e w => ∃ (g : Gh) , Fr gI wI g w ∧ e 3 = p1 ∧ PT g.m w (x0 : FaultLoom) p1 ∧ e 6 = .int .i64 (s.1) ∧ e 7 = .int .i64 (s.2.1) ∧ e 8 = .int .i64 (s.2.2.1) ∧ e 11 = j1 ∧ RV g.m w (u0 : List (List Str)) j1 ∧ e 40 = .int .i64 ((min64 x2 ((((x0).Design).Rows).length : Int))) ∧ e 41 = .int .i64 (s.2.2.2)) ⟨lB, hfr, m6, s2, yA, zA, rfl, rfl, cC, rfl, rfl⟩ (fun X212 g9 aB => ?_)
    rintro ⟨e5, i5, j5, j0⟩ eC tC ⟨j7, hfr, s6, l5, t6, u6, v6, u7, x7, u5, c4⟩ h
    refine E_seq (E_region (EL_pur (v := .bool ((decide (j0 < (min64 x2 ((((x0).Design).Rows).length : Int)))))) (P_int c4 u5 rfl) .plain rfl ?_))
    refine EL_nil (thn_n (E_seq ?_))
    rcases csome h with ⟨n6, h⟩ | ⟨n6, h⟩
    ·refine E_ct n6 rfl ?_
     refine E_skip (thn_n ?_)
     obtain ⟨⟨s3, u3, z3⟩, hx, h⟩ := bsome h
     refine E_join (fun e w => ∃ (g : Gh) , Fr gI wI g w ∧ e 3 = p1 ∧ PT g.m w (x0 : FaultLoom) p1 ∧ e 6 = .int .i64 (s3) ∧ e 7 = .int .i64 (u3) ∧ e 8 = .int .i64 (z3) ∧ e 11 = j1 ∧ RV g.m w (u0 : List (List Str)) j1 ∧ e 40 = .int .i64 ((min64 x2 ((((x0).Design).Rows).length : Int))) ∧ e 41 = .int .i64 (j0)) (fun Q' hQ => ?_) (fun iC uC hR => ?_)
     ·replace h := hx
      clear hx
      refine E_block ?_
      refine E_seq (E_region (EL_mv c4 rfl ?_))
      refine EL_at (.int .i64 (j0)) rfl rfl ?_
      refine EL_nil (thn_n (E_seq (E_region (EL_pur (v := fPtr p1 0) (P_fieldAddr at_28_0 s6 (PT.ptr l5)) .plain rfl ?_))))
      have p9 := PT_field (part_FaultLoom_0).1 l5
      refine EL_pur (v := fPtr (fPtr p1 0) 1) (P_fieldAddr at_24_1 rfl (PT.ptr p9)) .plain rfl ?_
      have rB := PT_field (part_TieHarness_1).1 p9
      refine EL_do .plain rfl (D_load (g := j7) Try.isAgg22 Try.sizeOf22 rfl rB fun vC sB => ?_)
      refine EL_pur (v := .int .i64 ((((x0).Harness).Warps).length : Int)) (P_len Try.underlying22 rfl sB) .plain rfl ?_
      refine EL_mw (.int .i64 (0)) rfl rfl ?_
      refine EL_nil (thn_n (E_block ?_))
      refine E_lp h (fun (s : Int × Int × Int × Int) e w => ∃ (g : Gh) , Fr gI wI g w ∧ e 3 = p1 ∧ PT g.m w (x0 : FaultLoom) p1 ∧ e 6 = .int .i64 (s.1) ∧ e 7 = .int .i64 (s.2.1) ∧ e 8 = .int .i64 (s.2.2.1) ∧ e 11 = j1 ∧ RV g.m w (u0 : List (List Str)) j1 ∧ e 12 = .int .i64 (j0) ∧ e 40 = .int .i64 ((min64 x2 ((((x0).Design).Rows).length : Int))) ∧ e 41 = .int .i64 (j0) ∧ e 47 = .int .i64 (((((x0).Harness).Warps).length : Int)) ∧ e 48 = .int .i64 (s.2.2.2)) ⟨j7, hfr, s6, l5, t6, u6, v6, u7, x7, rfl, u5, c4, rfl, rfl⟩ (fun X309 i9 bB => ?_)
      rintro ⟨d2, i2, m1, o0⟩ jC xC ⟨q9, hfr, x6, y6, z6, a7, b7, d4, z2, y7, x5, y5, z5, e4⟩ h
      refine E_seq (E_region (EL_pur (v := .bool ((decide (o0 < ((((x0).Harness).Warps).length : Int))))) (P_int e4 z5 rfl) .plain rfl ?_))
      refine EL_nil (thn_n (E_seq ?_))
      rcases csome h with ⟨o6, h⟩ | ⟨o6, h⟩
      ·refine E_ct o6 rfl ?_
       refine E_skip (thn_n ?_)
       obtain ⟨⟨o3, p3, q3⟩, hx, h⟩ := bsome h
       refine E_join (fun e w => ∃ (g : Gh) , Fr gI wI g w ∧ e 3 = p1 ∧ PT g.m w (x0 : FaultLoom) p1 ∧ e 6 = .int .i64 (o3) ∧ e 7 = .int .i64 (p3) ∧ e 8 = .int .i64 (q3) ∧ e 11 = j1 ∧ RV g.m w (u0 : List (List Str)) j1 ∧ e 12 = .int .i64 (j0) ∧ e 40 = .int .i64 ((min64 x2 ((((x0).Design).Rows).length : Int))) ∧ e 41 = .int .i64 (j0) ∧ e 47 = .int .i64 (((((x0).Harness).Warps).length : Int)) ∧ e 48 = .int .i64 (o0)) (fun Q' hQ => ?_) (fun kC yC hR => ?_)
       ·replace h := hx
        clear hx
        refine E_block ?_
        refine E_seq (E_region (EL_mv e4 rfl ?_))
        refine EL_at (.int .i64 (o0)) rfl rfl ?_
        refine EL_nil (thn_n (E_seq (E_region (EL_at (.int .i64 (0)) rfl rfl ?_))))
        refine EL_nil (thn_n ?_)
        obtain ⟨n0, hx, h⟩ := bsome h
        refine E_join (fun e w => ∃ (g : Gh) , Fr gI wI g w ∧ e 3 = p1 ∧ PT g.m w (x0 : FaultLoom) p1 ∧ e 6 = .int .i64 (d2) ∧ e 7 = .int .i64 (i2) ∧ e 8 = .int .i64 (m1) ∧ e 11 = j1 ∧ RV g.m w (u0 : List (List Str)) j1 ∧ e 12 = .int .i64 (j0) ∧ e 13 = .int .i64 (o0) ∧ e 14 = .int .i64 (n0) ∧ e 40 = .int .i64 ((min64 x2 ((((x0).Design).Rows).length : Int))) ∧ e 41 = .int .i64 (j0) ∧ e 47 = .int .i64 (((((x0).Harness).Warps).length : Int)) ∧ e 48 = .int .i64 (o0)) (fun Q' hQ => ?_) (fun lC zC hR => ?_)
        ·replace h := hx
         clear hx
         refine E_seq (E_region (EL_mv d4 rfl ?_))
         refine EL_pur (v := .int .i64 ((u0).length : Int)) (P_len Try.underlying78 rfl z2) .plain rfl ?_
         refine EL_mw (.int .i64 (0)) rfl rfl ?_
         refine EL_nil (thn_n (E_block ?_))
         refine E_lp h (fun (s : Int × Int) e w => ∃ (g : Gh) , Fr gI wI g w ∧ e 3 = p1 ∧ PT g.m w (x0 : FaultLoom) p1 ∧ e 6 = .int .i64 (d2) ∧ e 7 = .int .i64 (i2) ∧ e 8 = .int .i64 (m1) ∧ e 11 = j1 ∧ RV g.m w (u0 : List (List Str)) j1 ∧ e 12 = .int .i64 (j0) ∧ e 13 = .int .i64 (o0) ∧ e 14 = .int .i64 (s.1) ∧ e 40 = .int .i64 ((min64 x2 ((((x0).Design).Rows).length : Int))) ∧ e 41 = .int .i64 (j0) ∧ e 47 = .int .i64 (((((x0).Harness).Warps).length : Int)) ∧ e 48 = .int .i64 (o0) ∧ e 51 = j1 ∧ RV g.m w (u0 : List (List Str)) j1 ∧ e 52 = .int .i64 (((u0).length : Int)) ∧ e 53 = .int .i64 (s.2)) ⟨q9, hfr, x6, y6, z6, a7, b7, d4, z2, y7, rfl, rfl, x5, y5, z5, e4, rfl, z2, rfl, rfl⟩ (fun X374 j9 cB => ?_)
         rintro ⟨z1, i1⟩ mC aD ⟨m5, hfr, n5, o5, p5, q5, t5, i4, j4, d3, i3, m4, n4, o4, p4, q4, s4, j3, u4, m3⟩ h
         refine E_seq (E_region (EL_in (.bool ((decide (i1 < ((u0).length : Int))))) m3 u4 rfl rfl ?_))
         refine EL_nil (thn_n (E_seq ?_))
         rcases csome h with ⟨p6, h⟩ | ⟨p6, h⟩
         ·refine E_ct p6 rfl ?_
          refine E_skip (thn_n ?_)
          obtain ⟨q2, hx, h⟩ := bsome h
          refine E_join (fun e w => ∃ (g : Gh) , Fr gI wI g w ∧ e 3 = p1 ∧ PT g.m w (x0 : FaultLoom) p1 ∧ e 6 = .int .i64 (d2) ∧ e 7 = .int .i64 (i2) ∧ e 8 = .int .i64 (m1) ∧ e 11 = j1 ∧ RV g.m w (u0 : List (List Str)) j1 ∧ e 12 = .int .i64 (j0) ∧ e 13 = .int .i64 (o0) ∧ e 14 = .int .i64 (q2) ∧ e 40 = .int .i64 ((min64 x2 ((((x0).Design).Rows).length : Int))) ∧ e 41 = .int .i64 (j0) ∧ e 47 = .int .i64 (((((x0).Harness).Warps).length : Int)) ∧ e 48 = .int .i64 (o0) ∧ e 51 = j1 ∧ RV g.m w (u0 : List (List Str)) j1 ∧ e 52 = .int .i64 (((u0).length : Int)) ∧ e 53 = .int .i64 (i1)) (fun Q' hQ => ?_) (fun nC bD hR => ?_)
          ·replace h := hx
           clear hx
           refine E_block ?_
           refine E_seq (E_region ?_)
           obtain ⟨k9, s7, h⟩ := bsome h
           refine EL_pur (v := ePtr j1 i1 1) (P_indexAddr (α := List Str) Try.underlying78 Try.sizeOf36 s4 j3 m3 s7) .plain rfl ?_
           have tB := PT_idx j3 s7
           refine EL_do .plain rfl (D_load (g := m5) Try.isAgg36 Try.sizeOf36 rfl tB fun l7 r9 => ?_)
           refine EL_at l7 rfl rfl ?_
           refine EL_nil (thn_n (E_seq (E_region (EL_mw l7 rfl rfl ?_))))
           refine EL_mv d3 rfl ?_
           obtain ⟨l9, t7, h⟩ := bsome h
           refine EL_pur (v := ePtr l7 j0 1) (P_indexAddr (α := Str) Try.underlying36 Try.sizeOf9 rfl r9 rfl t7) .plain rfl ?_
           have uB := PT_idx r9 t7
           refine EL_do .plain rfl (D_load (g := m5) Try.isAgg9 Try.sizeOf9 rfl uB fun cD vB => ?_)
           obtain rfl := RV_str.1 vB
           refine EL_mv i3 rfl ?_
           obtain ⟨l6, dB, h⟩ := bsome h
           refine EL_pur (v := .int .u8 (UInt8.toNat (l6))) (P_indexS Try.underlying9 rfl rfl dB) .plain rfl ?_
           refine EL_pur (v := .bool ((l6 == (120 : UInt8)))) (P_u8 rfl rfl rfl) .plain rfl ?_
           refine EL_nil (thn_n ?_)
           rcases csome h with ⟨q6, h⟩ | ⟨q6, h⟩
           ·refine E_ct q6 rfl ?_
            refine E_region (EL_mv m4 rfl ?_)
            refine EL_in (.int .i64 ((w64 (z1 + (1 : Int))))) rfl rfl rfl rfl ?_
            refine EL_at (.int .i64 ((w64 (z1 + (1 : Int))))) rfl rfl ?_
            refine EL_nil (blk_n ?_)
            obtain rfl := sinj h
            exact hQ _ _ ⟨m5, hfr, n5, o5, p5, q5, t5, i4, j4, d3, i3, rfl, n4, o4, p4, q4, s4, j3, u4, m3⟩
           ·refine E_cf q6 rfl ?_
            refine E_skip (blk_n ?_)
            obtain rfl := sinj h
            exact hQ _ _ ⟨m5, hfr, n5, o5, p5, q5, t5, i4, j4, d3, i3, m4, n4, o4, p4, q4, s4, j3, u4, m3⟩
          ·clear hx
           obtain ⟨xB, hfr, s9, t9, u9, v9, x9, z7, a8, b8, c8, d8, e8, i8, j8, k8, l8, m8, n8, o8⟩ := hR
           refine E_region (EL_in (.int .i64 ((w64 (i1 + (1 : Int))))) o8 rfl rfl rfl ?_)
           refine EL_mw (.int .i64 ((w64 (i1 + (1 : Int))))) rfl rfl ?_
           exact EL_nil (thn_n (cB (q2, (w64 (i1 + (1 : Int)))) _ _ ⟨xB, hfr, s9, t9, u9, v9, x9, z7, a8, b8, c8, d8, e8, i8, j8, k8, l8, m8, n8, rfl⟩ h))
         ·refine E_cf p6 rfl ?_
          refine E_exit ?_
          refine thn_e ?_
          refine thn_e ?_
          refine blk_hit ?_
          obtain rfl := sinj h
          exact hQ _ _ ⟨m5, hfr, n5, o5, p5, q5, t5, i4, j4, d3, i3, m4, n4, o4, p4, q4⟩
        ·clear hx
         obtain ⟨z9, hfr, c7, d7, aA, bA, e7, x4, z4, c5, p8, a6, b6, c6, d6, e6⟩ := hR
         refine E_seq (E_region (EL_mv a6 rfl ?_))
         refine EL_mv x4 rfl ?_
         refine EL_pur (v := .int .i64 ((u0).length : Int)) (P_len Try.underlying78 rfl z4) .plain rfl ?_
         refine EL_mv a6 rfl ?_
         refine EL_in (.int .i64 ((w64 (((u0).length : Int) - n0)))) rfl rfl rfl rfl ?_
         refine EL_pur (v := .int .i64 (max64 n0 (w64 (((u0).length : Int) - n0)))) (P_max rfl rfl) .plain rfl ?_
         refine EL_at (.int .i64 (max64 n0 (w64 (((u0).length : Int) - n0)))) rfl rfl ?_
         refine EL_nil (thn_n (E_seq (E_region (EL_mw (.int .i64 (max64 n0 (w64 (((u0).length : Int) - n0)))) rfl rfl ?_))))
         refine EL_mv e7 rfl ?_
         refine EL_pur (v := .bool ((decide ((max64 n0 (w64 (((u0).length : Int) - n0))) < m1)))) (P_int rfl rfl rfl) .plain rfl ?_
         refine EL_nil (thn_n ?_)
         rcases csome h with ⟨r6, h⟩ | ⟨r6, h⟩
         ·refine E_ct r6 rfl ?_
          refine E_region (EL_mv c5 rfl ?_)
          refine EL_mv p8 rfl ?_
          refine EL_mw (.int .i64 (max64 n0 (w64 (((u0).length : Int) - n0)))) rfl rfl ?_
          refine EL_at (.int .i64 (j0)) rfl rfl ?_
          refine EL_at (.int .i64 (o0)) rfl rfl ?_
          refine EL_at (.int .i64 (max64 n0 (w64 (((u0).length : Int) - n0)))) rfl rfl ?_
          refine EL_nil (blk_n ?_)
          obtain ⟨rfl, rfl, rfl⟩ := pairs3 h
          exact hQ _ _ ⟨z9, hfr, c7, d7, rfl, rfl, rfl, x4, z4, c5, b6, c6, d6, e6⟩
         ·refine E_cf r6 rfl ?_
          refine E_skip (blk_n ?_)
          obtain ⟨rfl, rfl, rfl⟩ := pairs3 h
          exact hQ _ _ ⟨z9, hfr, c7, d7, aA, bA, e7, x4, z4, c5, b6, c6, d6, e6⟩
       ·clear hx
        obtain ⟨yB, hfr, cA, dA, eA, gA, iA, q8, r8, t8, x8, y8, z8, a9⟩ := hR
        refine E_region (EL_in (.int .i64 ((w64 (o0 + (1 : Int))))) a9 rfl rfl rfl ?_)
        refine EL_mw (.int .i64 ((w64 (o0 + (1 : Int))))) rfl rfl ?_
        exact EL_nil (thn_n (bB (o3, p3, q3, (w64 (o0 + (1 : Int)))) _ _ ⟨yB, hfr, cA, dA, eA, gA, iA, q8, r8, t8, x8, y8, z8, rfl⟩ h))
      ·refine E_cf o6 rfl ?_
       refine E_exit ?_
       refine thn_e ?_
       refine thn_e ?_
       refine blk_hit ?_
       refine blk_n ?_
       obtain ⟨rfl, rfl, rfl⟩ := pairs3 h
       exact hQ _ _ ⟨q9, hfr, x6, y6, z6, a7, b7, d4, z2, x5, y5⟩
     ·clear hx
      obtain ⟨zB, hfr, jA, kA, lA, mA, nA, b9, c9, d9, e9⟩ := hR
      refine E_region (EL_in (.int .i64 ((w64 (j0 + (1 : Int))))) e9 rfl rfl rfl ?_)
      refine EL_mw (.int .i64 ((w64 (j0 + (1 : Int))))) rfl rfl ?_
      exact EL_nil (thn_n (aB (s3, u3, z3, (w64 (j0 + (1 : Int)))) _ _ ⟨zB, hfr, jA, kA, lA, mA, nA, b9, c9, d9, rfl⟩ h))
    ·refine E_cf n6 rfl ?_
     refine E_exit ?_
     refine thn_e ?_
     refine thn_e ?_
     refine blk_hit ?_
     obtain ⟨rfl, rfl, rfl⟩ := pairs3 h
     exact hQ _ _ ⟨j7, hfr, t6, u6, v6⟩
   ·clear hx
    obtain ⟨dD, hfr, oA, pA, qA⟩ := hR
    refine E_seq (E_region (EL_mv oA rfl ?_))
    refine EL_mv pA rfl ?_
    refine EL_mv qA rfl ?_
    refine EL_at (.int .i64 (j2)) rfl rfl ?_
    refine EL_at (.int .i64 (m2)) rfl rfl ?_
    refine EL_at (.int .i64 (p2)) rfl rfl ?_
    refine EL_at (.int .i64 (0)) rfl rfl ?_
    refine EL_nil (thn_n (E_ret ?_))
    obtain rfl := sinj h
    exact end4 rfl rfl (show _ = .int .i64 (j2) from rfl) (show _ = .int .i64 (m2) from rfl) (show _ = .int .i64 (p2) from rfl) (show _ = .int .i64 (0) from rfl) ⟨_, hfr, _, _, _, _, rfl, rfl, rfl, rfl, rfl⟩
/-- griffe/fault.All -/
def f47 (x0 : FaultLoom) : Option ((List FaultDamage) × Int) :=
 jn (σ := (List FaultDamage)) (fun j1 =>
  Option.bind (α := (List FaultDamage)) (
   ((fun σ cons s => f64 ((⟨x0⟩ : FaultFaultLoom)) σ cons s) ((List FaultDamage)) (fun m2_55 (m1, _s3) =>
    (apnd 40 m2_55 (([m1] : List FaultDamage))).bind fun y63 =>
    some (true, (y63))
    ) (j1)).bind fun q2 =>
   some (q2)
   ) fun o0 =>
  some (o0, (0 : Int))
  ) fun m4 =>
 (f50 x0).bind fun u0 =>
 bif (u0 != (0 : Int)) then
  some ([], u0)
 else
  m4 (([] : List FaultDamage))
theorem en47 : Enters Try.prog 47 := enters_of Try.func47 (by kernel_rfl) rfl
theorem wk47 {gI : Gh} {wI : World} {x0 : FaultLoom} {up0 : Value} (rp0 : RV gI.m wI x0 up0) {r : (List FaultDamage) × Int} (h : f47 x0 = some r) : Fn Try.prog 47 #[up0] gI wI (fun m w v => ∃ y0 y1, v = .tuple #[y0, y1] ∧ RV m w (r.1) y0 ∧ y1 = .int .i64 (r.2)) := by
 unfold f47 at h
 refine fnD_of_E Try.func47 rfl (Nat.le_of_ble_eq_true rfl) fun g0 hm hfr => ?_
 have hmk : MkF g0 wI [] := MkF.start
 have rp0 : RV g0.m wI x0 up0 := hm ▸ rp0
 show E _ 21 none _ _ _ _ _
 refine E_seq (E_region (EL_do .plain rfl (D_box (g := g0) rfl rp0 fun g1 w1 p1 hs q1 => ?_)))
 have hfr := hfr.ext hs
 have hmk := hmk.ext hs
 refine EL_do .plain rfl (D_allocOc (g := g1) 2002 ([] : List FaultDamage) Try.zeroValue29 (fun m w => ⟨_, rep_nil, rfl⟩) fun g2 w2 p2 hs b2 cb => ?_)
 have hfr := hfr.stp hs
 have hmk := hmk.stp hs
 have q1 := q1.stp hs
 have j2 : OSF 2002 60200 0 g2 w2 62 29 ([] : List FaultDamage) p2 := cb.osf (by rfl)
 clear cb
 refine EL_at (.int .i64 (0)) rfl rfl ?_
 refine EL_nil (thn_n (E_joinCD h (fun (s : (List FaultDamage)) e ds w => ∃ (g : Gh) , Fr gI wI g w ∧ MkF g w ds ∧ e 1 = p1 ∧ PT g.m w (x0 : FaultLoom) p1 ∧ e 2 = p2 ∧ OB 2002 g w 29 (s : List FaultDamage) p2 ∧ OSF 2002 60200 0 g w 62 29 (s) p2) (fun X10 m4 z4 h => ?_) ?_))
 ·refine E_seq (E_region (EL_do .plain rfl (D_load (g := g2) Try.isAgg28 Try.sizeOf28 rfl q1 fun l5 m5 => ?_)))
  obtain ⟨u0, c5, h⟩ := bsome h
  refine EL_do .plain rfl (D_call (g := g2) (vs := [l5]) en50 (.cons rfl .nil) (wk50 m5 c5) fun n4 t6 y6 hs hr => ?_)
  have hfr := hfr.ext hs
  have hmk := hmk.ext hs
  have q1 := q1.ext hs
  have j2 := j2.ext hs
  have b2 := b2.ext hs
  subst hr
  refine EL_at (.int .i64 (u0)) rfl rfl ?_
  refine EL_nil (thn_n (E_seq (E_region (EL_mw (.int .i64 (u0)) rfl rfl ?_))))
  refine EL_in (.bool ((u0 != (0 : Int)))) rfl rfl rfl rfl ?_
  refine EL_nil (thn_n ?_)
  rcases csome h with ⟨m2, h⟩ | ⟨m2, h⟩
  ·refine E_ct m2 rfl ?_
   refine E_seq (E_region (EL_mw (.int .i64 (u0)) rfl rfl ?_))
   refine EL_do .plain rfl (D_storeOc (g := n4) (v := .slice none 0 0) Try.sizeOf29 rfl b2 rfl RV_nil fun n5 o5 hs b15 cb => ?_)
   have n6 : OSF 2002 60200 0 n5 o5 62 29 ([] : List FaultDamage) p2 := cb.osfr (rfl) OS.nil
   clear cb
   have hfr := hfr.stp hs
   have hmk := hmk.stp hs
   refine EL_at (.int .i64 (u0)) rfl rfl ?_
   refine EL_nil (thn_n (E_ret (thn_r ?_)))
   refine endM (.inr rfl) hmk fun z6 a7 hs => ?_
   have hfr := hfr.stp hs
   have b15 := b15.stp hs rfl
   obtain rfl := sinj h
   obtain ⟨ad17, cv17, hp17, d5, cr17⟩ := ob_read Try.isAgg29 Try.sizeOf29 b15
   exact endm_ct rfl rfl ((show _ = p2 from rfl).trans hp17) d5 (show _ = .int .i64 (u0) from rfl) ⟨_, hfr, _, _, rfl, cr17, rfl⟩
  ·refine E_cf m2 rfl ?_
   exact E_skip (thn_n (z4 (([] : List FaultDamage)) _ _ _ ⟨n4, hfr, hmk, rfl, q1, rfl, b2, j2⟩ h))
 ·rintro j1 u6 d3 p5 ⟨j3, hfr, hmk, u3, c4, z1, d4, u2_0_18⟩ h
  obtain ⟨o0, hx, h⟩ := bsome h
  refine E_joinD (fun e ds w => ∃ (g : Gh) , Fr gI wI g w ∧ MkF g w ds ∧ e 2 = p2 ∧ OB 2002 g w 29 (o0 : List FaultDamage) p2 ∧ OSF 2002 60200 0 g w 62 29 (o0) p2) (fun Q' hQ => ?_) (fun v6 o6 q5 hR => ?_)
  ·replace h := hx
   clear hx
   refine E_seq (E_region (EL_do .plain rfl (D_load (g := j3) Try.isAgg28 Try.sizeOf28 u3 c4 fun m3 o4 => ?_)))
   have p4 : RV j3.m _ (⟨x0⟩ : FaultFaultLoom) (.agg (setCh [[.int .i64 0, .slice none 0 0, .int .i64 0, .slice none 0 0]] [(0, m3)]).flatten.toArray) := RV_build rfl (rep_last (RV.cells o4))
   generalize e5 : (Value.agg (setCh [[.int .i64 0, .slice none 0 0, .int .i64 0, .slice none 0 0]] [(0, m3)]).flatten.toArray) = i2 at p4
   refine EL_pur (v := i2) (e5 ▸ P_build (vs := [(0, m3)]) [[.int .i64 0, .slice none 0 0, .int .i64 0, .slice none 0 0]] lay_98 rfl rfl (.cons rfl .nil) ⟨⟨_, rfl, cells_size o4⟩, trivial⟩) .plain rfl ?_
   refine EL_pur (v := (.func (.func 64) #[i2] #[])) (P_makeFunc (capf_1_0 (show ev _ _ = i2 from rfl))) .plain rfl ?_
   refine EL_nil (thn_n (E_block ?_))
   have hB0 := hfr.size
   have hmk0 := hmk
   obtain ⟨q2, hφ, h⟩ := bsome h
   refine E_rangeFunc (σ := ((List FaultDamage))) (s0 := (j1)) 10 rfl (fun _ => 0) [] (fun (s : (List FaultDamage)) (g : Gh) (w : World) => Fr gI wI g w ∧ MkF g w d3 ∧ OB 2002 g w 29 (s : List FaultDamage) p2 ∧ OSF 2002 60200 0 g w 62 29 (s) p2) rfl (show ItV Try.prog (RA2 (α := FaultDamage) (β := (List Str))) (fun σ cons s => f64 ((⟨x0⟩ : FaultFaultLoom)) σ cons s) ((.func (.func 64) #[i2] #[])) j3.m p5 from ⟨64, #[i2], #[], rfl, en64, fun g' w' hch σ cons s s' h => wk64 (p4.ch hch)  h⟩) hφ (fun _ _ _ _ => rfl) rfl ra2_size rfl (fun _ _ _ _ _ hx hR => by obtain ⟨hfr, hmk, z2, z3⟩ := hR; exact ⟨hfr.ist hx hB0, hmk.ist hx, z2.ist hx, z3.ist hx⟩) (fun _ _ _ _ _ hx hR => by obtain ⟨hfr, hmk, z2, z3⟩ := hR; exact ⟨hfr.stp hx, hmk.stp hx, z2.stp hx rfl, z3.stp hx rfl⟩) ⟨hfr, hmk, d4, u2_0_18⟩ (fun _ h => by cases h) ?_ ?_
   ·intro x6 p6 s x b s2 q4 t5 vs hsz h hR hrec_0 o3 hrd
    obtain ⟨m2_55, hse⟩ : ∃ y, y = s := ⟨s, rfl⟩
    subst hse
    obtain ⟨hfr, hmk, n0, u2_0_55⟩ := hR
    obtain ⟨m1, s3⟩ := x
    obtain ⟨e4, q6, rfl, i1, u5⟩ := ra2_get hrd
    have j0 := RFr.refl q4 t5
    refine E_region (EL_do .plain rfl (D_allocOc (g := q4) 2005 (⟨0, 0, 0, 0, false⟩ : FaultDamage) Try.zeroValue62 (fun m w => ⟨_, (rep_two rep_int (rep_two rep_int (rep_two rep_int (rep_two rep_int rep_bool)))), rfl⟩) fun x5 b7 c7 hs b56 cb => ?_))
    have hfr := hfr.stp hs
    have hmk := hmk.stp hs
    have j0 := j0.stp hs
    have hrec_0 := hrec_0.stp hs rfl
    have u2_0_55 := u2_0_55.stp hs rfl
    have n0 := n0.stp hs rfl
    have i1 := i1.stp hs
    clear cb
    refine EL_do .plain rfl (D_storeOc (g := x5) (v := e4) Try.sizeOf62 rfl b56 rfl i1 fun p3 d7 hs b57 cb => ?_)
    clear cb
    have hfr := hfr.stp hs
    have hmk := hmk.stp hs
    have j0 := j0.stp hs
    have hrec_0 := hrec_0.stp hs rfl
    have u2_0_55 := u2_0_55.stp hs rfl
    have n0 := n0.stp hs rfl
    refine EL_nil (thn_n ?_)
    obtain ⟨y5, hbr, hs, hrN⟩ := begin_round hrec_0 o3
    refine ⟨y5, hbr, ?_⟩
    have hfr := hfr.stp hs
    have hmk := hmk.stp hs
    have j0 := j0.stp hs
    have u2_0_55 := u2_0_55.stp hs rfl
    have n0 := n0.stp hs rfl
    have b57 := b57.stp hs rfl
    have hrec_0 := hrN
    clear hbr hs hrN
    refine E_block ?_
    refine E_region (EL_do .plain rfl (D_loadOS (g := p3) Try.isAgg29 Try.sizeOf29 z1 n0 u2_0_55 fun e7 q3 o59 => ?_))
    refine EL_do .plain rfl (D_loadO (g := p3) Try.isAgg62 Try.sizeOf62 rfl b57 fun z5 a6 => ?_)
    refine EL_do .plain rfl (D_buildSlice (g := p3) 3018 (xs := ([m1] : List FaultDamage)) (vs := [z5]) Try.underlying29 Try.sizeOf62 Try.zeroValue62 rfl rfl (.cons rfl .nil) (RVs.cons a6 RVs.nil) rfl rfl fun b6 g7 i7 hs o61 c6 hxt hfl => ?_)
    have hfr := hfr.stp hs
    have hmk := hmk.stp hs
    have j0 := j0.stp hs
    have hrec_0 := hrec_0.stp hs rfl
    have n0 := n0.stp hs rfl
    have q3 := q3.stp hs
    have o59 := o59.stp hs rfl
    obtain ⟨y63, i5, h⟩ := bsome h
    refine EL_do .plain rfl (D_append (g := b6) (i := 60200) Try.underlying29 info_62 rfl rfl o59 q3 rfl c6 i5 fun d6 j7 e6 hs o62 s4 _ => ?_)
    have hfr := hfr.stp hs
    have hmk := hmk.stp hs
    have j0 := j0.stp hs
    have hrec_0 := hrec_0.stp hs rfl
    have n0 := n0.stp hs rfl
    refine EL_do .plain rfl (D_storeOc (g := d6) (v := e6) Try.sizeOf29 z1 n0 rfl s4 fun i6 w64 hs b64 cb => ?_)
    have i4 : OSF 2002 60200 0 i6 w64 62 29 (y63 : List FaultDamage) p2 := cb.osfr (rv_cells1 s4) (o62.stp hs rfl)
    clear cb
    have hfr := hfr.stp hs
    have hmk := hmk.stp hs
    have j0 := j0.stp hs
    have hrec_0 := hrec_0.stp hs rfl
    refine EL_nil (blk_n ?_)
    obtain ⟨rfl, rfl⟩ := pairs2 h
    exact ⟨_, j0, ⟨hfr, hmk, b64, i4⟩, hrec_0, rfl, rfl⟩
   ·intro j6 l7 ds66 hsz hR hds
    obtain ⟨hfr, hmk, j4, u2_0_66⟩ := hR
    obtain ⟨D, hdse, hD, hDb⟩ := hds.1 rfl
    subst hdse
    replace hmk := MkF.push hmk0 hmk hD hDb
    clear hD hDb hds
    revert hmk
    generalize ({ target := .collected D, args := #[] } :: d3 : List Deferred) = r6
    intro hmk
    refine ⟨fun _ => ?_, fun k c hs _ => absurd hs (Nat.succ_ne_zero k).symm⟩
    refine blk_n ?_
    obtain rfl := sinj h
    exact hQ _ _ _ ⟨j6, hfr, hmk, z1, j4, u2_0_66⟩
  ·clear hx
   obtain ⟨u4, hfr, hmk, d2, i3, u2_0_67⟩ := hR
   refine E_seq (E_region (EL_do .plain rfl (D_loadOS (g := u4) Try.isAgg29 Try.sizeOf29 d2 i3 u2_0_67 fun k6 x4 o68 => ?_)))
   refine EL_do .plain rfl (D_storeOc (g := u4) (v := k6) Try.sizeOf29 d2 i3 rfl x4 fun l6 m6 hs b69 cb => ?_)
   have s6 : OSF 2002 60200 0 l6 m6 62 29 (o0 : List FaultDamage) p2 := cb.osfr (rv_cells1 x4) (o68.stp hs rfl)
   clear cb
   have hfr := hfr.stp hs
   have hmk := hmk.stp hs
   refine EL_at (.int .i64 (0)) rfl rfl ?_
   refine EL_nil (thn_n (E_ret (endM (.inr rfl) hmk fun m7 q5 hs => ?_)))
   have hfr := hfr.stp hs
   have b69 := b69.stp hs rfl
   obtain rfl := sinj h
   obtain ⟨ad71, cv71, hp71, j5, cr71⟩ := ob_read Try.isAgg29 Try.sizeOf29 b69
   exact endm_ct rfl rfl ((show _ = p2 from d2).trans hp71) j5 (show _ = .int .i64 (0) from rfl) ⟨_, hfr, _, _, rfl, cr71, rfl⟩
/-- griffe/griffelaw05.known -/
def f15  : Option (Bool) :=
 (f49).bind fun y11 =>
 (f19 y11 (([(⟨(3 : Int), 0, 0, 0, false⟩ : FaultDamage)] : List FaultDamage)) ((3 : Int))).bind fun z2 =>
 (f49).bind fun p9 =>
 (f20 p9 (([(⟨(1 : Int), 0, (2 : Int), 0, false⟩ : FaultDamage)] : List FaultDamage)) ((2 : Int))).bind fun i3 =>
 (f49).bind fun y23 =>
 (f32 y23 (([(⟨(1 : Int), (4 : Int), false⟩ : FaultSight)] : List FaultSight))).bind fun i1 =>
 (f49).bind fun i6 =>
 (f37 i6 ((⟨(1 : Int), (1 : Int), (2 : Int), 0, false⟩ : FaultDamage)) ((⟨(5 : Int), 0, 0, (4 : Int), false⟩ : FaultDamage))).bind fun u0 =>
 (f49).bind fun j6 =>
 (f37 j6 ((⟨(1 : Int), (1 : Int), (2 : Int), 0, false⟩ : FaultDamage)) ((⟨(2 : Int), 0, (2 : Int), 0, false⟩ : FaultDamage))).bind fun q2 =>
 jn (σ := Unit) (fun (_ : Unit) =>
  (f49).bind fun a7 =>
  (f38 a7 (i1.1)).bind fun p2 =>
  (f49).bind fun c7 =>
  (f39 c7 (i1.1)).bind fun s2 =>
  (f49).bind fun d7 =>
  (f41 d7 (i1.1) ((2 : Int))).bind fun j0 =>
  Option.bind (α := Bool) (
   bif (p2.2 == (0 : Int)) then
    bif (s2.2 == (0 : Int)) then
     bif (j0.2.2.2 == (0 : Int)) then
      (idx (z2.1) (0 : Int)).bind fun j4 =>
      bif ((j4).b == ((⟨[46, 46, 46, 120, 46, 46]⟩ : Str)).b) then
       (idx (z2.1) (1 : Int)).bind fun m4 =>
       bif ((m4).b == ((⟨[46, 120, 120, 46, 120, 120]⟩ : Str)).b) then
        (idx (z2.1) (2 : Int)).bind fun n4 =>
        (idx (z2.1) (0 : Int)).bind fun o4 =>
        bif ((n4).b == (o4).b) then
         (idx (i3.1) (1 : Int)).bind fun e5 =>
         bif (decide (e5 = (⟨0, (4 : Int), true⟩ : FaultSight))) then
          bif (!i1.2.1) then
           (idx (i1.1) (0 : Int)).bind fun i5 =>
           bif (decide (i5 = (⟨(1 : Int), (1 : Int), (2 : Int), 0, false⟩ : FaultDamage))) then
            (idx (i1.1) (1 : Int)).bind fun j5 =>
            bif (decide (j5 = (⟨(2 : Int), 0, (2 : Int), 0, false⟩ : FaultDamage))) then
             (idx (i1.1) (4 : Int)).bind fun l5 =>
             bif (decide (l5 = (⟨(5 : Int), 0, 0, (4 : Int), false⟩ : FaultDamage))) then
              bif (u0.1 == (1 : Int)) then
               bif (u0.2.1 == (2 : Int)) then
                bif (p2.1 == (2 : Int)) then
                 bif (((s2.1).length : Int) == (3 : Int)) then
                  bif (j0.1 == (0 : Int)) then
                   bif (j0.2.1 == (0 : Int)) then
                    some ((j0.2.2.1 == (3 : Int)))
                   else
                    none
                  else
                   none
                 else
                  none
                else
                 none
               else
                none
              else
               none
             else
              none
            else
             none
           else
            none
          else
           none
         else
          none
        else
         none
       else
        none
      else
       none
     else
      none
    else
     none
   else
    none
   ) fun q4 =>
  some (q4)
  ) fun e7 =>
 Option.bind (α := Bool) (
  bif (z2.2 != (0 : Int)) then
   none
  else
   bif (i3.2 != (0 : Int)) then
    none
   else
    bif (i1.2.2 != (0 : Int)) then
     none
    else
     bif (u0.2.2 != (0 : Int)) then
      none
     else
      bif (q2.2.2 != (7 : Int)) then
       none
      else
       bif (((z2.1).length : Int) != (3 : Int)) then
        none
       else
        bif (((i3.1).length : Int) != (2 : Int)) then
         none
        else
         some ((((i1.1).length : Int) != (5 : Int)))
  ) fun o3 =>
 bif o3 then
  some (false)
 else
  e7 ()
theorem en15 : Enters Try.prog 15 := enters_of Try.func15 (by kernel_rfl) rfl
theorem wk15 {gI : Gh} {wI : World}   {r : Bool} (h : f15  = some r) : Fn Try.prog 15 #[] gI wI (fun _ _ v => v = .bool (r)) := by
 unfold f15 at h
 refine fn_of_E Try.func15 rfl (Nat.le_of_ble_eq_true rfl) fun g0 hm hfr => ?_
 show E _ 211 none _ _ _ _ _
 refine E_seq (E_region (EL_at (.bool false) rfl rfl ?_))
 refine EL_nil (thn_n (E_seq (E_region ?_)))
 have r1 : RV g0.m wI (⟨(1 : Int), (1 : Int), (2 : Int), 0, false⟩ : FaultDamage) (.agg (setCh [[.int .i64 0], [.int .i64 0], [.int .i64 0], [.int .i64 0], [.bool false]] [(0, .int .i64 (1)), (1, .int .i64 (1)), (2, .int .i64 (2))]).flatten.toArray) := RV_build rfl (rep_pair (rfl) (rep_pair (rfl) (rep_pair (rfl) (rep_pair (rep_int) (rep_last (rep_bool))))))
 generalize hv1 : (Value.agg (setCh [[.int .i64 0], [.int .i64 0], [.int .i64 0], [.int .i64 0], [.bool false]] [(0, .int .i64 (1)), (1, .int .i64 (1)), (2, .int .i64 (2))]).flatten.toArray) = v1 at r1
 refine EL_pur (v := v1) (hv1 ▸ P_build (vs := [(0, .int .i64 (1)), (1, .int .i64 (1)), (2, .int .i64 (2))]) [[.int .i64 0], [.int .i64 0], [.int .i64 0], [.int .i64 0], [.bool false]] lay_62 rfl rfl (.cons rfl (.cons rfl (.cons rfl .nil))) ⟨⟨_, rfl, rfl⟩, ⟨⟨_, rfl, rfl⟩, ⟨⟨_, rfl, rfl⟩, trivial⟩⟩⟩) .plain rfl ?_
 have r2 : RV g0.m wI (⟨(5 : Int), 0, 0, (4 : Int), false⟩ : FaultDamage) (.agg (setCh [[.int .i64 0], [.int .i64 0], [.int .i64 0], [.int .i64 0], [.bool false]] [(0, .int .i64 (5)), (3, .int .i64 (4))]).flatten.toArray) := RV_build rfl (rep_pair (rfl) (rep_pair (rep_int) (rep_pair (rep_int) (rep_pair (rfl) (rep_last (rep_bool))))))
 generalize hv2 : (Value.agg (setCh [[.int .i64 0], [.int .i64 0], [.int .i64 0], [.int .i64 0], [.bool false]] [(0, .int .i64 (5)), (3, .int .i64 (4))]).flatten.toArray) = v2 at r2
 refine EL_pur (v := v2) (hv2 ▸ P_build (vs := [(0, .int .i64 (5)), (3, .int .i64 (4))]) [[.int .i64 0], [.int .i64 0], [.int .i64 0], [.int .i64 0], [.bool false]] lay_62 rfl rfl (.cons rfl (.cons rfl .nil)) ⟨⟨_, rfl, rfl⟩, ⟨⟨_, rfl, rfl⟩, trivial⟩⟩) .plain rfl ?_
 have r3 : RV g0.m wI (⟨(2 : Int), 0, (2 : Int), 0, false⟩ : FaultDamage) (.agg (setCh [[.int .i64 0], [.int .i64 0], [.int .i64 0], [.int .i64 0], [.bool false]] [(0, .int .i64 (2)), (2, .int .i64 (2))]).flatten.toArray) := RV_build rfl (rep_pair (rfl) (rep_pair (rep_int) (rep_pair (rfl) (rep_pair (rep_int) (rep_last (rep_bool))))))
 generalize hv3 : (Value.agg (setCh [[.int .i64 0], [.int .i64 0], [.int .i64 0], [.int .i64 0], [.bool false]] [(0, .int .i64 (2)), (2, .int .i64 (2))]).flatten.toArray) = v3 at r3
 refine EL_pur (v := v3) (hv3 ▸ P_build (vs := [(0, .int .i64 (2)), (2, .int .i64 (2))]) [[.int .i64 0], [.int .i64 0], [.int .i64 0], [.int .i64 0], [.bool false]] lay_62 rfl rfl (.cons rfl (.cons rfl .nil)) ⟨⟨_, rfl, rfl⟩, ⟨⟨_, rfl, rfl⟩, trivial⟩⟩) .plain rfl ?_
 refine EL_do .plain rfl (D_allocOc (g := g0) 2001 (⟨0, 0, 0, 0, false⟩ : FaultDamage) Try.zeroValue62 (fun m w => ⟨_, (rep_two rep_int (rep_two rep_int (rep_two rep_int (rep_two rep_int rep_bool)))), rfl⟩) fun g4 w4 p4 hs b4 cb => ?_)
 have hfr := hfr.stp hs
 have r1 := r1.stp hs
 have r2 := r2.stp hs
 have r3 := r3.stp hs
 clear cb
 refine EL_do .plain rfl (D_allocOc (g := g4) 2002 (⟨0, 0, 0, 0, false⟩ : FaultDamage) Try.zeroValue62 (fun m w => ⟨_, (rep_two rep_int (rep_two rep_int (rep_two rep_int (rep_two rep_int rep_bool)))), rfl⟩) fun g5 w5 p5 hs b5 cb => ?_)
 have hfr := hfr.stp hs
 have r1 := r1.stp hs
 have r2 := r2.stp hs
 have r3 := r3.stp hs
 have b4 := b4.stp hs rfl
 clear cb
 refine EL_do .plain rfl (D_allocOc (g := g5) 2003 (⟨0, 0, 0, 0, false⟩ : FaultDamage) Try.zeroValue62 (fun m w => ⟨_, (rep_two rep_int (rep_two rep_int (rep_two rep_int (rep_two rep_int rep_bool)))), rfl⟩) fun g6 w6 p6 hs b6 cb => ?_)
 have hfr := hfr.stp hs
 have r1 := r1.stp hs
 have r2 := r2.stp hs
 have r3 := r3.stp hs
 have b4 := b4.stp hs rfl
 have b5 := b5.stp hs rfl
 clear cb
 refine EL_do .plain rfl (D_storeOc (g := g6) (v := v1) Try.sizeOf62 rfl b4 rfl r1 fun g7 w7 hs b7 cb => ?_)
 clear cb
 have hfr := hfr.stp hs
 have r2 := r2.stp hs
 have r3 := r3.stp hs
 have b5 := b5.stp hs rfl
 have b6 := b6.stp hs rfl
 refine EL_do .plain rfl (D_storeOc (g := g7) (v := v2) Try.sizeOf62 rfl b5 rfl r2 fun g8 w8 hs b8 cb => ?_)
 clear cb
 have hfr := hfr.stp hs
 have r3 := r3.stp hs
 have b7 := b7.stp hs rfl
 have b6 := b6.stp hs rfl
 refine EL_do .plain rfl (D_storeOc (g := g8) (v := v3) Try.sizeOf62 rfl b6 rfl r3 fun g9 w9 hs b9 cb => ?_)
 clear cb
 have hfr := hfr.stp hs
 have b7 := b7.stp hs rfl
 have b8 := b8.stp hs rfl
 refine EL_nil (thn_n (E_seq (E_region ?_)))
 obtain ⟨y11, eA, h⟩ := bsome h
 refine EL_do .plain rfl (D_call (g := g9) (vs := []) en49 .nil (wk49  eA) fun q9 gA yC hs hr => ?_)
 have hfr := hfr.ext hs
 have b7 := b7.ext hs
 have b8 := b8.ext hs
 have b9 := b9.ext hs
 have i7 := hr
 have r9 : RV q9.m gA (⟨(3 : Int), 0, 0, 0, false⟩ : FaultDamage) (.agg (setCh [[.int .i64 0], [.int .i64 0], [.int .i64 0], [.int .i64 0], [.bool false]] [(0, .int .i64 (3))]).flatten.toArray) := RV_build rfl (rep_pair (rfl) (rep_pair (rep_int) (rep_pair (rep_int) (rep_pair (rep_int) (rep_last (rep_bool))))))
 generalize iA : (Value.agg (setCh [[.int .i64 0], [.int .i64 0], [.int .i64 0], [.int .i64 0], [.bool false]] [(0, .int .i64 (3))]).flatten.toArray) = s9 at r9
 refine EL_pur (v := s9) (iA ▸ P_build (vs := [(0, .int .i64 (3))]) [[.int .i64 0], [.int .i64 0], [.int .i64 0], [.int .i64 0], [.bool false]] lay_62 rfl rfl (.cons rfl .nil) ⟨⟨_, rfl, rfl⟩, trivial⟩) .plain rfl ?_
 refine EL_do .plain rfl (D_buildSlice (g := q9) 3031 (xs := ([(⟨(3 : Int), 0, 0, 0, false⟩ : FaultDamage)] : List FaultDamage)) (vs := [s9]) Try.underlying29 Try.sizeOf62 Try.zeroValue62 rfl rfl (.cons rfl .nil) (RVs.cons r9 RVs.nil) rfl rfl fun zC kF aD hs o13 bD hxt hfl => ?_)
 have hfr := hfr.stp hs
 have b7 := b7.stp hs rfl
 have b8 := b8.stp hs rfl
 have b9 := b9.stp hs rfl
 have i7 := i7.stp hs
 obtain ⟨z2, jA, h⟩ := bsome h
 refine EL_do .plain rfl (D_call (g := zC) (vs := [yC, aD, .int .i64 (3)]) en19 (.cons rfl (.cons rfl (.cons rfl .nil))) (wk19 i7 bD jA) fun cD rE lF hs hr => ?_)
 have hfr := hfr.ext hs
 have b7 := b7.ext hs
 have b8 := b8.ext hs
 have b9 := b9.ext hs
 obtain ⟨d2, dE, rfl, j1, rfl⟩ := hr
 refine EL_mw (.tuple #[d2, .int .i64 (z2.2)]) rfl rfl ?_
 refine EL_pur (v := d2) (P_extract rfl rfl) .plain rfl ?_
 refine EL_pur (v := .int .i64 (z2.2)) (P_extract rfl rfl) .plain rfl ?_
 refine EL_at d2 rfl rfl ?_
 refine EL_at (.int .i64 (z2.2)) rfl rfl ?_
 refine EL_nil (thn_n (E_seq (E_region ?_)))
 obtain ⟨p9, kA, h⟩ := bsome h
 refine EL_do .plain rfl (D_call (g := cD) (vs := []) en49 .nil (wk49  kA) fun t9 lA dD hs hr => ?_)
 have hfr := hfr.ext hs
 have b7 := b7.ext hs
 have b8 := b8.ext hs
 have b9 := b9.ext hs
 have j1 := j1.ext hs
 have j7 := hr
 have u9 : RV t9.m lA (⟨(1 : Int), 0, (2 : Int), 0, false⟩ : FaultDamage) (.agg (setCh [[.int .i64 0], [.int .i64 0], [.int .i64 0], [.int .i64 0], [.bool false]] [(0, .int .i64 (1)), (2, .int .i64 (2))]).flatten.toArray) := RV_build rfl (rep_pair (rfl) (rep_pair (rep_int) (rep_pair (rfl) (rep_pair (rep_int) (rep_last (rep_bool))))))
 generalize mA : (Value.agg (setCh [[.int .i64 0], [.int .i64 0], [.int .i64 0], [.int .i64 0], [.bool false]] [(0, .int .i64 (1)), (2, .int .i64 (2))]).flatten.toArray) = v9 at u9
 refine EL_pur (v := v9) (mA ▸ P_build (vs := [(0, .int .i64 (1)), (2, .int .i64 (2))]) [[.int .i64 0], [.int .i64 0], [.int .i64 0], [.int .i64 0], [.bool false]] lay_62 rfl rfl (.cons rfl (.cons rfl .nil)) ⟨⟨_, rfl, rfl⟩, ⟨⟨_, rfl, rfl⟩, trivial⟩⟩) .plain rfl ?_
 refine EL_do .plain rfl (D_buildSlice (g := t9) 3038 (xs := ([(⟨(1 : Int), 0, (2 : Int), 0, false⟩ : FaultDamage)] : List FaultDamage)) (vs := [v9]) Try.underlying29 Try.sizeOf62 Try.zeroValue62 rfl rfl (.cons rfl .nil) (RVs.cons u9 RVs.nil) rfl rfl fun eD mF gD hs o19 iD hxt hfl => ?_)
 have hfr := hfr.stp hs
 have b7 := b7.stp hs rfl
 have b8 := b8.stp hs rfl
 have b9 := b9.stp hs rfl
 have j1 := j1.stp hs
 have j7 := j7.stp hs
 obtain ⟨i3, nA, h⟩ := bsome h
 refine EL_do .plain rfl (D_call (g := eD) (vs := [dD, gD, .int .i64 (2)]) en20 (.cons rfl (.cons rfl (.cons rfl .nil))) (wk20 j7 iD nA) fun jD sE nF hs hr => ?_)
 have hfr := hfr.ext hs
 have b7 := b7.ext hs
 have b8 := b8.ext hs
 have b9 := b9.ext hs
 have j1 := j1.ext hs
 obtain ⟨j3, eE, rfl, d3, rfl⟩ := hr
 refine EL_mw (.tuple #[j3, .int .i64 (i3.2)]) rfl rfl ?_
 refine EL_pur (v := j3) (P_extract rfl rfl) .plain rfl ?_
 refine EL_pur (v := .int .i64 (i3.2)) (P_extract rfl rfl) .plain rfl ?_
 refine EL_at j3 rfl rfl ?_
 refine EL_at (.int .i64 (i3.2)) rfl rfl ?_
 refine EL_nil (thn_n (E_seq (E_region ?_)))
 obtain ⟨y23, oA, h⟩ := bsome h
 refine EL_do .plain rfl (D_call (g := jD) (vs := []) en49 .nil (wk49  oA) fun x9 pA kD hs hr => ?_)
 have hfr := hfr.ext hs
 have b7 := b7.ext hs
 have b8 := b8.ext hs
 have b9 := b9.ext hs
 have j1 := j1.ext hs
 have d3 := d3.ext hs
 have l7 := hr
 have y9 : RV x9.m pA (⟨(1 : Int), (4 : Int), false⟩ : FaultSight) (.agg (setCh [[.int .i64 0], [.int .i64 0], [.bool false]] [(0, .int .i64 (1)), (1, .int .i64 (4))]).flatten.toArray) := RV_build rfl (rep_pair (rfl) (rep_pair (rfl) (rep_last (rep_bool))))
 generalize qA : (Value.agg (setCh [[.int .i64 0], [.int .i64 0], [.bool false]] [(0, .int .i64 (1)), (1, .int .i64 (4))]).flatten.toArray) = z9 at y9
 refine EL_pur (v := z9) (qA ▸ P_build (vs := [(0, .int .i64 (1)), (1, .int .i64 (4))]) [[.int .i64 0], [.int .i64 0], [.bool false]] lay_56 rfl rfl (.cons rfl (.cons rfl .nil)) ⟨⟨_, rfl, rfl⟩, ⟨⟨_, rfl, rfl⟩, trivial⟩⟩) .plain rfl ?_
 refine EL_do .plain rfl (D_buildSlice (g := x9) 3045 (xs := ([(⟨(1 : Int), (4 : Int), false⟩ : FaultSight)] : List FaultSight)) (vs := [z9]) Try.underlying39 Try.sizeOf56 Try.zeroValue56 rfl rfl (.cons rfl .nil) (RVs.cons y9 RVs.nil) rfl rfl fun lD oF mD hs o25 nD hxt hfl => ?_)
 have hfr := hfr.stp hs
 have b7 := b7.stp hs rfl
 have b8 := b8.stp hs rfl
 have b9 := b9.stp hs rfl
 have j1 := j1.stp hs
 have d3 := d3.stp hs
 have l7 := l7.stp hs
 obtain ⟨i1, rA, h⟩ := bsome h
 refine EL_do .plain rfl (D_call (g := lD) (vs := [kD, mD]) en32 (.cons rfl (.cons rfl .nil)) (wk32 l7 nD rA) fun oD tE pF hs hr => ?_)
 have hfr := hfr.ext hs
 have b7 := b7.ext hs
 have b8 := b8.ext hs
 have b9 := b9.ext hs
 have j1 := j1.ext hs
 have d3 := d3.ext hs
 obtain ⟨m1, gE, iE, rfl, d4, rfl, rfl⟩ := hr
 refine EL_mw (.tuple #[m1, .bool (i1.2.1), .int .i64 (i1.2.2)]) rfl rfl ?_
 refine EL_pur (v := m1) (P_extract rfl rfl) .plain rfl ?_
 refine EL_pur (v := .bool (i1.2.1)) (P_extract rfl rfl) .plain rfl ?_
 refine EL_pur (v := .int .i64 (i1.2.2)) (P_extract rfl rfl) .plain rfl ?_
 refine EL_at m1 rfl rfl ?_
 refine EL_at (.bool (i1.2.1)) rfl rfl ?_
 refine EL_at (.int .i64 (i1.2.2)) rfl rfl ?_
 refine EL_nil (thn_n (E_seq ?_))
 obtain ⟨i6, sA, h⟩ := bsome h
 refine L_loadO0 (x := .tmp 1) Try.isAgg62 Try.sizeOf62 b7 fun aA pD tA => ?_
 refine L_loadO0 (x := .tmp 2) Try.isAgg62 Try.sizeOf62 b8 fun bA qD uA => ?_
 obtain ⟨u0, vA, h⟩ := bsome h
 refine E_drawL (g := oD) (n := 11) [(0, (fun v g w => RV g.m w i6 v)), (3, (fun v g w => ∃ y0 y1 y2 : Value, v = .tuple #[y0, y1, y2] ∧ y0 = .int .i64 (u0.1) ∧ y1 = .int .i64 (u0.2.1) ∧ y2 = .int .i64 (u0.2.2)))] [0, 1, 2, 3, 4, 5, 6, 7, 8, 9, 10] rfl mixed (by kernel_rfl) (⟨fun _ => up_rv, fun _ => (up_ex fun _ => (up_ex fun _ => (up_ex fun _ => (up_and (up_eq _) (up_and (up_eq _) (up_and (up_eq _) (up_eq _))))))), trivial⟩) ?_
 refine L_do (φ := fun v g w => RV g.m w i6 v) rfl rfl .plain (fun g w hd => D_call (g := g) (vs := []) en49 .nil (wk49  sA) fun g' w' v hs hr => ⟨g', hs, hr⟩) (fun m7 hv => ?_)
 obtain ⟨_, _, _, rq28⟩ := hv
 refine L_ld (c := aA) rfl rfl .plain (fun _ _ h => ⟨h.ch, fun b hb _ => h.below.block b hb⟩) tA rfl ?_
 refine L_ld (c := bA) rfl rfl .plain (fun _ _ h => ⟨h.ch, fun b hb _ => h.below.block b hb⟩) uA rfl ?_
 refine L_do (φ := fun v g w => ∃ y0 y1 y2 : Value, v = .tuple #[y0, y1, y2] ∧ y0 = .int .i64 (u0.1) ∧ y1 = .int .i64 (u0.2.1) ∧ y2 = .int .i64 (u0.2.2)) rfl rfl .plain (fun g w hd => D_call (g := g) (vs := [m7, aA, bA]) en37 (.cons rfl (.cons rfl (.cons rfl .nil))) (wk37 (word (A := fun g w => RV g.m w i6 m7) 0 rfl rfl (deps_of hd)) (pD.ext hd.1) (qD.ext hd.1) vA) fun g' w' v hs hr => ⟨g', hs, hr⟩) (fun qF hv => ?_)
 obtain ⟨_, _, _, _, _, _, rfl, rfl, rfl, rfl⟩ := hv
 refine L_pur (c := .tuple #[.int .i64 (u0.1), .int .i64 (u0.2.1), .int .i64 (u0.2.2)]) rfl rfl .plain (fun _ _ hd => P_move rfl) ?_
 refine L_pur (c := .int .i64 (u0.1)) rfl rfl .plain (fun _ _ hd => P_extract rfl rfl) ?_
 refine L_pur (c := .int .i64 (u0.2.1)) rfl rfl .plain (fun _ _ hd => P_extract rfl rfl) ?_
 refine L_pur (c := .int .i64 (u0.2.2)) rfl rfl .plain (fun _ _ hd => P_extract rfl rfl) ?_
 refine L_pur (c := .int .i64 (u0.1)) rfl rfl .plain (fun _ _ hd => P_assign rfl) ?_
 refine L_pur (c := .int .i64 (u0.2.1)) rfl rfl .plain (fun _ _ hd => P_assign rfl) ?_
 refine L_pur (c := .int .i64 (u0.2.2)) rfl rfl .plain (fun _ _ hd => P_assign rfl) ?_
 refine L_nil fun rD rF hall => ?_
 have hs := hall.1
 have hfr := hfr.ext hs
 have b7 := b7.ext hs
 have b8 := b8.ext hs
 have b9 := b9.ext hs
 have j1 := j1.ext hs
 have d3 := d3.ext hs
 have d4 := d4.ext hs
 have sF := (word_all (A := fun g w => RV g.m w i6 m7) 0 rfl hall)
 clear hs hall
 refine EL_nil (thn_n (E_seq ?_))
 obtain ⟨j6, xA, h⟩ := bsome h
 refine L_loadO0 (x := .tmp 1) Try.isAgg62 Try.sizeOf62 b7 fun cA sD yA => ?_
 refine L_loadO0 (x := .tmp 3) Try.isAgg62 Try.sizeOf62 b9 fun dA tD zA => ?_
 obtain ⟨q2, aB, h⟩ := bsome h
 refine E_drawL (g := rD) (n := 11) [(0, (fun v g w => RV g.m w j6 v)), (3, (fun v g w => ∃ y0 y1 y2 : Value, v = .tuple #[y0, y1, y2] ∧ y0 = .int .i64 (q2.1) ∧ y1 = .int .i64 (q2.2.1) ∧ y2 = .int .i64 (q2.2.2)))] [0, 1, 2, 3, 4, 5, 6, 7, 8, 9, 10] rfl mixed (by kernel_rfl) (⟨fun _ => up_rv, fun _ => (up_ex fun _ => (up_ex fun _ => (up_ex fun _ => (up_and (up_eq _) (up_and (up_eq _) (up_and (up_eq _) (up_eq _))))))), trivial⟩) ?_
 refine L_do (φ := fun v g w => RV g.m w j6 v) rfl rfl .plain (fun g w hd => D_call (g := g) (vs := []) en49 .nil (wk49  xA) fun g' w' v hs hr => ⟨g', hs, hr⟩) (fun n7 hv => ?_)
 obtain ⟨_, _, _, rq82⟩ := hv
 refine L_ld (c := cA) rfl rfl .plain (fun _ _ h => ⟨h.ch, fun b hb _ => h.below.block b hb⟩) yA rfl ?_
 refine L_ld (c := dA) rfl rfl .plain (fun _ _ h => ⟨h.ch, fun b hb _ => h.below.block b hb⟩) zA rfl ?_
 refine L_do (φ := fun v g w => ∃ y0 y1 y2 : Value, v = .tuple #[y0, y1, y2] ∧ y0 = .int .i64 (q2.1) ∧ y1 = .int .i64 (q2.2.1) ∧ y2 = .int .i64 (q2.2.2)) rfl rfl .plain (fun g w hd => D_call (g := g) (vs := [n7, cA, dA]) en37 (.cons rfl (.cons rfl (.cons rfl .nil))) (wk37 (word (A := fun g w => RV g.m w j6 n7) 0 rfl rfl (deps_of hd)) (sD.ext hd.1) (tD.ext hd.1) aB) fun g' w' v hs hr => ⟨g', hs, hr⟩) (fun tF hv => ?_)
 obtain ⟨_, _, _, _, _, _, rfl, rfl, rfl, rfl⟩ := hv
 refine L_pur (c := .tuple #[.int .i64 (q2.1), .int .i64 (q2.2.1), .int .i64 (q2.2.2)]) rfl rfl .plain (fun _ _ hd => P_move rfl) ?_
 refine L_pur (c := .int .i64 (q2.1)) rfl rfl .plain (fun _ _ hd => P_extract rfl rfl) ?_
 refine L_pur (c := .int .i64 (q2.2.1)) rfl rfl .plain (fun _ _ hd => P_extract rfl rfl) ?_
 refine L_pur (c := .int .i64 (q2.2.2)) rfl rfl .plain (fun _ _ hd => P_extract rfl rfl) ?_
 refine L_pur (c := .int .i64 (q2.1)) rfl rfl .plain (fun _ _ hd => P_assign rfl) ?_
 refine L_pur (c := .int .i64 (q2.2.1)) rfl rfl .plain (fun _ _ hd => P_assign rfl) ?_
 refine L_pur (c := .int .i64 (q2.2.2)) rfl rfl .plain (fun _ _ hd => P_assign rfl) ?_
 refine L_nil fun uD uF hall => ?_
 have hs := hall.1
 have hfr := hfr.ext hs
 have b7 := b7.ext hs
 have b8 := b8.ext hs
 have b9 := b9.ext hs
 have j1 := j1.ext hs
 have d3 := d3.ext hs
 have d4 := d4.ext hs
 have uE := (word_all (A := fun g w => RV g.m w j6 n7) 0 rfl hall)
 clear hs hall
 refine EL_nil (thn_n (E_joinC h (fun (s : Unit) e w => ∃ (g : Gh) , Fr gI wI g w ∧ e 1 = p4 ∧ OB 2001 g w 62 ((⟨(1 : Int), (1 : Int), (2 : Int), 0, false⟩ : FaultDamage) : FaultDamage) p4 ∧ e 2 = p5 ∧ OB 2002 g w 62 ((⟨(5 : Int), 0, 0, (4 : Int), false⟩ : FaultDamage) : FaultDamage) p5 ∧ e 3 = p6 ∧ OB 2003 g w 62 ((⟨(2 : Int), 0, (2 : Int), 0, false⟩ : FaultDamage) : FaultDamage) p6 ∧ e 4 = d2 ∧ RV g.m w (z2.1 : List Str) d2 ∧ e 6 = j3 ∧ RV g.m w (i3.1 : List FaultSight) j3 ∧ e 8 = m1 ∧ RV g.m w (i1.1 : List FaultDamage) m1 ∧ e 9 = .bool (i1.2.1) ∧ e 11 = .int .i64 (u0.1) ∧ e 12 = .int .i64 (u0.2.1)) (fun X163 e7 o8 h => ?_) ?_))
 ·obtain ⟨o3, hx, h⟩ := bsome h
  refine E_join (fun e w => ∃ (g : Gh) , Fr gI wI g w ∧ e 1 = p4 ∧ OB 2001 g w 62 ((⟨(1 : Int), (1 : Int), (2 : Int), 0, false⟩ : FaultDamage) : FaultDamage) p4 ∧ e 2 = p5 ∧ OB 2002 g w 62 ((⟨(5 : Int), 0, 0, (4 : Int), false⟩ : FaultDamage) : FaultDamage) p5 ∧ e 3 = p6 ∧ OB 2003 g w 62 ((⟨(2 : Int), 0, (2 : Int), 0, false⟩ : FaultDamage) : FaultDamage) p6 ∧ e 4 = d2 ∧ RV g.m w (z2.1 : List Str) d2 ∧ e 6 = j3 ∧ RV g.m w (i3.1 : List FaultSight) j3 ∧ e 8 = m1 ∧ RV g.m w (i1.1 : List FaultDamage) m1 ∧ e 9 = .bool (i1.2.1) ∧ e 11 = .int .i64 (u0.1) ∧ e 12 = .int .i64 (u0.2.1) ∧ e 98 = .bool (o3)) (fun Q' hQ => ?_) (fun jE vE hR => ?_)
  ·replace h := hx
   clear hx
   refine E_region (EL_mw (.int .i64 (z2.2)) rfl rfl ?_)
   refine EL_in (.bool ((z2.2 != (0 : Int)))) rfl rfl rfl rfl ?_
   refine EL_mw (.bool ((z2.2 != (0 : Int)))) rfl rfl ?_
   rcases csome h with ⟨m5, h⟩ | ⟨m5, h⟩
   ·cases h
   ·refine EL_pur (v := .int .i64 (i3.2)) (P_move rfl) (.yes2 rfl rfl m5) rfl ?_
    refine EL_pur (v := .bool ((i3.2 != (0 : Int)))) (P_int rfl rfl rfl) (.yes2 rfl rfl m5) rfl ?_
    refine EL_pur (v := .bool ((i3.2 != (0 : Int)))) (P_pick (b := (z2.2 != (0 : Int))) rfl (pick_f m5 rfl)) .plain rfl ?_
    refine EL_mw (.bool ((i3.2 != (0 : Int)))) rfl rfl ?_
    rcases csome h with ⟨n5, h⟩ | ⟨n5, h⟩
    ·cases h
    ·refine EL_pur (v := .int .i64 (i1.2.2)) (P_move rfl) (.yes2 rfl rfl n5) rfl ?_
     refine EL_pur (v := .bool ((i1.2.2 != (0 : Int)))) (P_int rfl rfl rfl) (.yes2 rfl rfl n5) rfl ?_
     refine EL_pur (v := .bool ((i1.2.2 != (0 : Int)))) (P_pick (b := (i3.2 != (0 : Int))) rfl (pick_f n5 rfl)) .plain rfl ?_
     refine EL_mw (.bool ((i1.2.2 != (0 : Int)))) rfl rfl ?_
     rcases csome h with ⟨o5, h⟩ | ⟨o5, h⟩
     ·cases h
     ·refine EL_pur (v := .int .i64 (u0.2.2)) (P_move rfl) (.yes2 rfl rfl o5) rfl ?_
      refine EL_pur (v := .bool ((u0.2.2 != (0 : Int)))) (P_int rfl rfl rfl) (.yes2 rfl rfl o5) rfl ?_
      refine EL_pur (v := .bool ((u0.2.2 != (0 : Int)))) (P_pick (b := (i1.2.2 != (0 : Int))) rfl (pick_f o5 rfl)) .plain rfl ?_
      refine EL_mw (.bool ((u0.2.2 != (0 : Int)))) rfl rfl ?_
      rcases csome h with ⟨q5, h⟩ | ⟨q5, h⟩
      ·cases h
      ·refine EL_pur (v := .int .i64 (q2.2.2)) (P_move rfl) (.yes2 rfl rfl q5) rfl ?_
       refine EL_pur (v := .bool ((q2.2.2 != (7 : Int)))) (P_int rfl rfl rfl) (.yes2 rfl rfl q5) rfl ?_
       refine EL_pur (v := .bool ((q2.2.2 != (7 : Int)))) (P_pick (b := (u0.2.2 != (0 : Int))) rfl (pick_f q5 rfl)) .plain rfl ?_
       refine EL_mw (.bool ((q2.2.2 != (7 : Int)))) rfl rfl ?_
       rcases csome h with ⟨s4, h⟩ | ⟨s4, h⟩
       ·cases h
       ·refine EL_pur (v := d2) (P_move rfl) (.yes2 rfl rfl s4) rfl ?_
        refine EL_pur (v := .int .i64 ((z2.1).length : Int)) (P_len Try.underlying36 rfl j1) (.yes2 rfl rfl s4) rfl ?_
        refine EL_pur (v := .bool ((((z2.1).length : Int) != (3 : Int)))) (P_int rfl rfl rfl) (.yes2 rfl rfl s4) rfl ?_
        refine EL_pur (v := .bool ((((z2.1).length : Int) != (3 : Int)))) (P_pick (b := (q2.2.2 != (7 : Int))) rfl (pick_f s4 rfl)) .plain rfl ?_
        refine EL_mw (.bool ((((z2.1).length : Int) != (3 : Int)))) rfl rfl ?_
        rcases csome h with ⟨u4, h⟩ | ⟨u4, h⟩
        ·cases h
        ·refine EL_pur (v := j3) (P_move rfl) (.yes2 rfl rfl u4) rfl ?_
         refine EL_pur (v := .int .i64 ((i3.1).length : Int)) (P_len Try.underlying39 rfl d3) (.yes2 rfl rfl u4) rfl ?_
         refine EL_pur (v := .bool ((((i3.1).length : Int) != (2 : Int)))) (P_int rfl rfl rfl) (.yes2 rfl rfl u4) rfl ?_
         refine EL_pur (v := .bool ((((i3.1).length : Int) != (2 : Int)))) (P_pick (b := (((z2.1).length : Int) != (3 : Int))) rfl (pick_f u4 rfl)) .plain rfl ?_
         refine EL_mw (.bool ((((i3.1).length : Int) != (2 : Int)))) rfl rfl ?_
         rcases csome h with ⟨x4, h⟩ | ⟨x4, h⟩
         ·cases h
         ·refine EL_pur (v := m1) (P_move rfl) (.yes2 rfl rfl x4) rfl ?_
          refine EL_pur (v := .int .i64 ((i1.1).length : Int)) (P_len Try.underlying29 rfl d4) (.yes2 rfl rfl x4) rfl ?_
          refine EL_pur (v := .bool ((((i1.1).length : Int) != (5 : Int)))) (P_int rfl rfl rfl) (.yes2 rfl rfl x4) rfl ?_
          refine EL_pur (v := .bool ((((i1.1).length : Int) != (5 : Int)))) (P_pick (b := (((i3.1).length : Int) != (2 : Int))) rfl (pick_f x4 rfl)) .plain rfl ?_
          refine EL_nil ?_
          obtain rfl := sinj h
          exact hQ _ _ ⟨uD, hfr, rfl, b7, rfl, b8, rfl, b9, rfl, j1, rfl, d3, rfl, d4, rfl, rfl, rfl, rfl⟩
  ·clear hx
   obtain ⟨bB, hfr, o7, p7, q7, r7, s7, t7, u7, v7, x7, y7, z7, a8, c8, v6, x6, k6⟩ := hR
   rcases csome h with ⟨l6, h⟩ | ⟨l6, h⟩
   ·refine E_cond_true (Eq.trans (show ev _ _ = .bool (o3) from k6) (congrArg Value.bool l6)) ?_
    refine E_seq (E_region (EL_at (.bool false) rfl rfl ?_))
    refine EL_nil (thn_n (E_ret (thn_r ?_)))
    obtain rfl := sinj h
    exact end1 rfl rfl (show _ = .bool false from rfl) ⟨_, hfr, rfl⟩
   ·refine E_cond_false (Eq.trans (show ev _ _ = .bool (o3) from k6) (congrArg Value.bool l6)) ?_
    exact E_skip (thn_n (o8 () _ _ ⟨bB, hfr, o7, p7, q7, r7, s7, t7, u7, v7, x7, y7, z7, a8, c8, v6, x6⟩ h))
 ·rintro _ kE xE ⟨cB, hfr, d8, i2, e8, j2, i8, m2, z4, o0, j8, z1, p3, n0, k8, y6, z6⟩ h
  refine E_seq (E_region ?_)
  obtain ⟨a7, p8, h⟩ := bsome h
  refine EL_do .plain rfl (D_call (g := cB) (vs := []) en49 .nil (wk49  p8) fun dB lE eB hs hr => ?_)
  have hfr := hfr.ext hs
  have i2 := i2.ext hs
  have j2 := j2.ext hs
  have m2 := m2.ext hs
  have o0 := o0.ext hs
  have z1 := z1.ext hs
  have n0 := n0.ext hs
  have iB := hr
  refine EL_mv p3 rfl ?_
  obtain ⟨p2, q8, h⟩ := bsome h
  refine EL_do .plain rfl (D_call (g := dB) (vs := [eB, m1]) en38 (.cons rfl (.cons rfl .nil)) (wk38 iB n0 q8) fun jB mE yE hs hr => ?_)
  have hfr := hfr.ext hs
  have i2 := i2.ext hs
  have j2 := j2.ext hs
  have m2 := m2.ext hs
  have o0 := o0.ext hs
  have z1 := z1.ext hs
  have n0 := n0.ext hs
  obtain ⟨vD, xD, rfl, rfl, rfl⟩ := hr
  refine EL_mw (.tuple #[.int .i64 (p2.1), .int .i64 (p2.2)]) rfl rfl ?_
  refine EL_pur (v := .int .i64 (p2.1)) (P_extract rfl rfl) .plain rfl ?_
  refine EL_pur (v := .int .i64 (p2.2)) (P_extract rfl rfl) .plain rfl ?_
  refine EL_at (.int .i64 (p2.1)) rfl rfl ?_
  refine EL_at (.int .i64 (p2.2)) rfl rfl ?_
  refine EL_nil (thn_n (E_seq (E_region ?_)))
  obtain ⟨c7, r8, h⟩ := bsome h
  refine EL_do .plain rfl (D_call (g := jB) (vs := []) en49 .nil (wk49  r8) fun kB nE lB hs hr => ?_)
  have hfr := hfr.ext hs
  have i2 := i2.ext hs
  have j2 := j2.ext hs
  have m2 := m2.ext hs
  have o0 := o0.ext hs
  have z1 := z1.ext hs
  have n0 := n0.ext hs
  have mB := hr
  refine EL_mv p3 rfl ?_
  obtain ⟨s2, t8, h⟩ := bsome h
  refine EL_do .plain rfl (D_call (g := kB) (vs := [lB, m1]) en39 (.cons rfl (.cons rfl .nil)) (wk39 mB n0 t8) fun nB oE zE hs hr => ?_)
  have hfr := hfr.ext hs
  have i2 := i2.ext hs
  have j2 := j2.ext hs
  have m2 := m2.ext hs
  have o0 := o0.ext hs
  have z1 := z1.ext hs
  have n0 := n0.ext hs
  obtain ⟨c5, yD, rfl, c4, rfl⟩ := hr
  refine EL_mw (.tuple #[c5, .int .i64 (s2.2)]) rfl rfl ?_
  refine EL_pur (v := c5) (P_extract rfl rfl) .plain rfl ?_
  refine EL_pur (v := .int .i64 (s2.2)) (P_extract rfl rfl) .plain rfl ?_
  refine EL_at c5 rfl rfl ?_
  refine EL_at (.int .i64 (s2.2)) rfl rfl ?_
  refine EL_nil (thn_n (E_seq (E_region ?_)))
  obtain ⟨d7, v8, h⟩ := bsome h
  refine EL_do .plain rfl (D_call (g := nB) (vs := []) en49 .nil (wk49  v8) fun oB pE pB hs hr => ?_)
  have hfr := hfr.ext hs
  have i2 := i2.ext hs
  have j2 := j2.ext hs
  have m2 := m2.ext hs
  have o0 := o0.ext hs
  have z1 := z1.ext hs
  have n0 := n0.ext hs
  have c4 := c4.ext hs
  have qB := hr
  refine EL_mv p3 rfl ?_
  obtain ⟨j0, x8, h⟩ := bsome h
  refine EL_do .plain rfl (D_call (g := oB) (vs := [pB, m1, .int .i64 (2)]) en41 (.cons rfl (.cons rfl (.cons rfl .nil))) (wk41 qB n0 x8) fun l8 y8 aF hs hr => ?_)
  have hfr := hfr.ext hs
  have i2 := i2.ext hs
  have j2 := j2.ext hs
  have m2 := m2.ext hs
  have o0 := o0.ext hs
  have z1 := z1.ext hs
  have n0 := n0.ext hs
  have c4 := c4.ext hs
  obtain ⟨zD, aE, bE, cE, rfl, rfl, rfl, rfl, rfl⟩ := hr
  refine EL_mw (.tuple #[.int .i64 (j0.1), .int .i64 (j0.2.1), .int .i64 (j0.2.2.1), .int .i64 (j0.2.2.2)]) rfl rfl ?_
  refine EL_pur (v := .int .i64 (j0.1)) (P_extract rfl rfl) .plain rfl ?_
  refine EL_pur (v := .int .i64 (j0.2.1)) (P_extract rfl rfl) .plain rfl ?_
  refine EL_pur (v := .int .i64 (j0.2.2.1)) (P_extract rfl rfl) .plain rfl ?_
  refine EL_pur (v := .int .i64 (j0.2.2.2)) (P_extract rfl rfl) .plain rfl ?_
  refine EL_at (.int .i64 (j0.1)) rfl rfl ?_
  refine EL_at (.int .i64 (j0.2.1)) rfl rfl ?_
  refine EL_at (.int .i64 (j0.2.2.1)) rfl rfl ?_
  refine EL_at (.int .i64 (j0.2.2.2)) rfl rfl ?_
  refine EL_nil (thn_n ?_)
  obtain ⟨q4, hx, h⟩ := bsome h
  refine E_join (fun e w => ∃ (g : Gh) , Fr gI wI g w ∧ e 0 = .bool (q4)) (fun Q' hQ => ?_) (fun qE bF hR => ?_)
  ·replace h := hx
   clear hx
   rcases csome h with ⟨t5, h⟩ | ⟨t5, h⟩
   ·rcases csome h with ⟨u5, h⟩ | ⟨u5, h⟩
    ·rcases csome h with ⟨e4, h⟩ | ⟨e4, h⟩
     ·obtain ⟨j4, m6, h⟩ := bsome h
      have rB := PT_idx o0 m6
      refine L_load (x := .tmp 131) Try.isAgg9 Try.sizeOf9 rB fun cF sB z8 => ?_
      obtain rfl := RV_str.1 sB
      rcases csome h with ⟨i4, h⟩ | ⟨i4, h⟩
      ·obtain ⟨m4, n6, h⟩ := bsome h
       have tB := PT_idx o0 n6
       refine L_load (x := .tmp 137) Try.isAgg9 Try.sizeOf9 tB fun dF uB a9 => ?_
       obtain rfl := RV_str.1 uB
       rcases csome h with ⟨m3, h⟩ | ⟨m3, h⟩
       ·obtain ⟨n4, o6, h⟩ := bsome h
        have vB := PT_idx o0 o6
        refine L_load (x := .tmp 143) Try.isAgg9 Try.sizeOf9 vB fun eF xB c9 => ?_
        obtain rfl := RV_str.1 xB
        obtain ⟨o4, q6, h⟩ := bsome h
        have yB := PT_idx o0 q6
        refine L_load (x := .tmp 146) Try.isAgg9 Try.sizeOf9 yB fun gF zB d9 => ?_
        obtain rfl := RV_str.1 zB
        rcases csome h with ⟨q3, h⟩ | ⟨q3, h⟩
        ·obtain ⟨e5, r6, h⟩ := bsome h
         have aC := PT_idx z1 r6
         refine L_load (x := .tmp 152) Try.isAgg56 Try.sizeOf56 aC fun bC cC e9 => ?_
         have m8 : RV l8.m y8 (⟨0, (4 : Int), true⟩ : FaultSight) (.agg (setCh [[.int .i64 0], [.int .i64 0], [.bool false]] [(1, .int .i64 (4)), (2, .bool true)]).flatten.toArray) := RV_build rfl (rep_pair (rep_int) (rep_pair (rfl) (rep_last (rfl))))
         generalize i9 : (Value.agg (setCh [[.int .i64 0], [.int .i64 0], [.bool false]] [(1, .int .i64 (4)), (2, .bool true)]).flatten.toArray) = dC at m8
         rcases csome h with ⟨x5, h⟩ | ⟨x5, h⟩
         ·rcases csome h with ⟨s3, h⟩ | ⟨s3, h⟩
          ·obtain ⟨i5, s6, h⟩ := bsome h
           have eC := PT_idx n0 s6
           refine L_load (x := .tmp 163) Try.isAgg62 Try.sizeOf62 eC fun iC jC j9 => ?_
           refine L_loadO0 (x := .tmp 1) Try.isAgg62 Try.sizeOf62 i2 fun kC lC k9 => ?_
           rcases csome h with ⟨u3, h⟩ | ⟨u3, h⟩
           ·obtain ⟨j5, t6, h⟩ := bsome h
            have mC := PT_idx n0 t6
            refine L_load (x := .tmp 170) Try.isAgg62 Try.sizeOf62 mC fun nC oC l9 => ?_
            refine L_loadO0 (x := .tmp 3) Try.isAgg62 Try.sizeOf62 m2 fun pC qC m9 => ?_
            rcases csome h with ⟨z3, h⟩ | ⟨z3, h⟩
            ·obtain ⟨l5, u6, h⟩ := bsome h
             have rC := PT_idx n0 u6
             refine L_load (x := .tmp 177) Try.isAgg62 Try.sizeOf62 rC fun sC tC n9 => ?_
             refine L_loadO0 (x := .tmp 2) Try.isAgg62 Try.sizeOf62 j2 fun uC vC o9 => ?_
             rcases csome h with ⟨y5, h⟩ | ⟨y5, h⟩
             ·rcases csome h with ⟨z5, h⟩ | ⟨z5, h⟩
              ·rcases csome h with ⟨a6, h⟩ | ⟨a6, h⟩
               ·rcases csome h with ⟨d5, h⟩ | ⟨d5, h⟩
                ·rcases csome h with ⟨c6, h⟩ | ⟨c6, h⟩
                 ·rcases csome h with ⟨d6, h⟩ | ⟨d6, h⟩
                  ·rcases csome h with ⟨e6, h⟩ | ⟨e6, h⟩
                   ·refine E_drawL (g := l8) (n := 93) [] [0, 1, 2, 3, 4, 5, 6, 7, 8, 9, 10, 11, 12, 13, 14, 15, 16, 17, 18, 19, 20, 21, 22, 23, 24, 25, 26, 27, 28, 29, 30, 31, 32, 33, 34, 35, 36, 37, 38, 39, 40, 41, 42, 43, 44, 45, 46, 47, 48, 49, 50, 51, 52, 53, 54, 55, 56, 57, 58, 59, 60, 61, 62, 63, 64, 65, 66, 67, 68, 69, 70, 71, 72, 73, 74, 75, 76, 77, 78, 79, 80, 81, 82, 83, 84, 85, 86, 87, 88, 89, 90, 91, 92] rfl mixed (by kernel_rfl) trivial ?_
                    refine L_pur (c := .int .i64 (p2.2)) rfl rfl .plain (fun _ _ hd => P_move rfl) ?_
                    refine L_pur (c := .bool ((p2.2 == (0 : Int)))) rfl rfl .plain (fun _ _ hd => P_int rfl rfl rfl) ?_
                    refine L_pur (c := .bool ((p2.2 == (0 : Int)))) rfl rfl .plain (fun _ _ hd => P_move rfl) ?_
                    refine L_pur (c := .int .i64 (s2.2)) rfl rfl (.yes2 rfl rfl t5) (fun _ _ hd => P_move rfl) ?_
                    refine L_pur (c := .bool ((s2.2 == (0 : Int)))) rfl rfl (.yes2 rfl rfl t5) (fun _ _ hd => P_int rfl rfl rfl) ?_
                    refine L_pur (c := .bool ((s2.2 == (0 : Int)))) rfl rfl .plain (fun _ _ hd => P_pick (b := (p2.2 == (0 : Int))) rfl (pick_t t5 rfl)) ?_
                    refine L_pur (c := .bool ((s2.2 == (0 : Int)))) rfl rfl .plain (fun _ _ hd => P_move rfl) ?_
                    refine L_pur (c := .int .i64 (j0.2.2.2)) rfl rfl (.yes2 rfl rfl u5) (fun _ _ hd => P_move rfl) ?_
                    refine L_pur (c := .bool ((j0.2.2.2 == (0 : Int)))) rfl rfl (.yes2 rfl rfl u5) (fun _ _ hd => P_int rfl rfl rfl) ?_
                    refine L_pur (c := .bool ((j0.2.2.2 == (0 : Int)))) rfl rfl .plain (fun _ _ hd => P_pick (b := (s2.2 == (0 : Int))) rfl (pick_t u5 rfl)) ?_
                    refine L_pur (c := .bool ((j0.2.2.2 == (0 : Int)))) rfl rfl .plain (fun _ _ hd => P_move rfl) ?_
                    refine L_pur (c := d2) rfl rfl (.yes2 rfl rfl e4) (fun _ _ hd => P_move z4) ?_
                    refine L_pur (c := ePtr d2 (0 : Int) 1) rfl rfl (.yes2 rfl rfl e4) (fun _ _ hd => P_indexAddr (α := Str) Try.underlying36 Try.sizeOf9 rfl o0 rfl m6) ?_
                    refine L_ld (c := Str.v (j4)) rfl rfl (.yes2 rfl rfl e4) (fun _ _ h => h.ch) z8 rfl ?_
                    refine L_pur (c := .bool (((j4).b == ((⟨[46, 46, 46, 120, 46, 46]⟩ : Str)).b))) rfl rfl (.yes2 rfl rfl e4) (fun _ _ hd => P_str rfl rfl rfl) ?_
                    refine L_pur (c := .bool (((j4).b == ((⟨[46, 46, 46, 120, 46, 46]⟩ : Str)).b))) rfl rfl .plain (fun _ _ hd => P_pick (b := (j0.2.2.2 == (0 : Int))) rfl (pick_t e4 rfl)) ?_
                    refine L_pur (c := .bool (((j4).b == ((⟨[46, 46, 46, 120, 46, 46]⟩ : Str)).b))) rfl rfl .plain (fun _ _ hd => P_move rfl) ?_
                    refine L_pur (c := d2) rfl rfl (.yes2 rfl rfl i4) (fun _ _ hd => P_move z4) ?_
                    refine L_pur (c := ePtr d2 (1 : Int) 1) rfl rfl (.yes2 rfl rfl i4) (fun _ _ hd => P_indexAddr (α := Str) Try.underlying36 Try.sizeOf9 rfl o0 rfl n6) ?_
                    refine L_ld (c := Str.v (m4)) rfl rfl (.yes2 rfl rfl i4) (fun _ _ h => h.ch) a9 rfl ?_
                    refine L_pur (c := .bool (((m4).b == ((⟨[46, 120, 120, 46, 120, 120]⟩ : Str)).b))) rfl rfl (.yes2 rfl rfl i4) (fun _ _ hd => P_str rfl rfl rfl) ?_
                    refine L_pur (c := .bool (((m4).b == ((⟨[46, 120, 120, 46, 120, 120]⟩ : Str)).b))) rfl rfl .plain (fun _ _ hd => P_pick (b := ((j4).b == ((⟨[46, 46, 46, 120, 46, 46]⟩ : Str)).b)) rfl (pick_t i4 rfl)) ?_
                    refine L_pur (c := .bool (((m4).b == ((⟨[46, 120, 120, 46, 120, 120]⟩ : Str)).b))) rfl rfl .plain (fun _ _ hd => P_move rfl) ?_
                    refine L_pur (c := d2) rfl rfl (.yes2 rfl rfl m3) (fun _ _ hd => P_move z4) ?_
                    refine L_pur (c := ePtr d2 (2 : Int) 1) rfl rfl (.yes2 rfl rfl m3) (fun _ _ hd => P_indexAddr (α := Str) Try.underlying36 Try.sizeOf9 rfl o0 rfl o6) ?_
                    refine L_ld (c := Str.v (n4)) rfl rfl (.yes2 rfl rfl m3) (fun _ _ h => h.ch) c9 rfl ?_
                    refine L_pur (c := d2) rfl rfl (.yes2 rfl rfl m3) (fun _ _ hd => P_move z4) ?_
                    refine L_pur (c := ePtr d2 (0 : Int) 1) rfl rfl (.yes2 rfl rfl m3) (fun _ _ hd => P_indexAddr (α := Str) Try.underlying36 Try.sizeOf9 rfl o0 rfl q6) ?_
                    refine L_ld (c := Str.v (o4)) rfl rfl (.yes2 rfl rfl m3) (fun _ _ h => h.ch) d9 rfl ?_
                    refine L_pur (c := .bool (((n4).b == (o4).b))) rfl rfl (.yes2 rfl rfl m3) (fun _ _ hd => P_str rfl rfl rfl) ?_
                    refine L_pur (c := .bool (((n4).b == (o4).b))) rfl rfl .plain (fun _ _ hd => P_pick (b := ((m4).b == ((⟨[46, 120, 120, 46, 120, 120]⟩ : Str)).b)) rfl (pick_t m3 rfl)) ?_
                    refine L_pur (c := .bool (((n4).b == (o4).b))) rfl rfl .plain (fun _ _ hd => P_move rfl) ?_
                    refine L_pur (c := j3) rfl rfl (.yes2 rfl rfl q3) (fun _ _ hd => P_move j8) ?_
                    refine L_pur (c := ePtr j3 (1 : Int) 3) rfl rfl (.yes2 rfl rfl q3) (fun _ _ hd => P_indexAddr (α := FaultSight) Try.underlying39 Try.sizeOf56 rfl z1 rfl r6) ?_
                    refine L_ld (c := bC) rfl rfl (.yes2 rfl rfl q3) (fun _ _ h => h.ch) e9 rfl ?_
                    refine L_pur (c := dC) rfl rfl (.yes2 rfl rfl q3) (fun _ _ hd => i9 ▸ P_build (vs := [(1, .int .i64 (4)), (2, .bool true)]) [[.int .i64 0], [.int .i64 0], [.bool false]] lay_56 rfl rfl (.cons rfl (.cons rfl .nil)) ⟨⟨_, rfl, rfl⟩, ⟨⟨_, rfl, rfl⟩, trivial⟩⟩) ?_
                    refine L_pur (c := .bool ((decide (e5 = (⟨0, (4 : Int), true⟩ : FaultSight))))) rfl rfl (.yes2 rfl rfl q3) (fun _ _ hd => P_seq seq_56 rfl eg_56 rfl rfl cC m8) ?_
                    refine L_pur (c := .bool ((decide (e5 = (⟨0, (4 : Int), true⟩ : FaultSight))))) rfl rfl .plain (fun _ _ hd => P_pick (b := ((n4).b == (o4).b)) rfl (pick_t q3 rfl)) ?_
                    refine L_pur (c := .bool ((decide (e5 = (⟨0, (4 : Int), true⟩ : FaultSight))))) rfl rfl .plain (fun _ _ hd => P_move rfl) ?_
                    refine L_pur (c := .bool (i1.2.1)) rfl rfl (.yes2 rfl rfl x5) (fun _ _ hd => P_move k8) ?_
                    refine L_pur (c := .bool (!i1.2.1)) rfl rfl (.yes2 rfl rfl x5) (fun _ _ hd => P_not rfl) ?_
                    refine L_pur (c := .bool (!i1.2.1)) rfl rfl .plain (fun _ _ hd => P_pick (b := (decide (e5 = (⟨0, (4 : Int), true⟩ : FaultSight)))) rfl (pick_t x5 rfl)) ?_
                    refine L_pur (c := .bool (!i1.2.1)) rfl rfl .plain (fun _ _ hd => P_move rfl) ?_
                    refine L_pur (c := m1) rfl rfl (.yes2 rfl rfl s3) (fun _ _ hd => P_move p3) ?_
                    refine L_pur (c := ePtr m1 (0 : Int) 5) rfl rfl (.yes2 rfl rfl s3) (fun _ _ hd => P_indexAddr (α := FaultDamage) Try.underlying29 Try.sizeOf62 rfl n0 rfl s6) ?_
                    refine L_ld (c := iC) rfl rfl (.yes2 rfl rfl s3) (fun _ _ h => h.ch) j9 rfl ?_
                    refine L_ld (c := kC) rfl rfl (.yes2 rfl rfl s3) (fun _ _ h => ⟨h.ch, fun b hb _ => h.below.block b hb⟩) k9 d8 ?_
                    refine L_pur (c := .bool ((decide (i5 = (⟨(1 : Int), (1 : Int), (2 : Int), 0, false⟩ : FaultDamage))))) rfl rfl (.yes2 rfl rfl s3) (fun _ _ hd => P_seq seq_62 rfl eg_62 rfl rfl jC lC) ?_
                    refine L_pur (c := .bool ((decide (i5 = (⟨(1 : Int), (1 : Int), (2 : Int), 0, false⟩ : FaultDamage))))) rfl rfl .plain (fun _ _ hd => P_pick (b := (!i1.2.1)) rfl (pick_t s3 rfl)) ?_
                    refine L_pur (c := .bool ((decide (i5 = (⟨(1 : Int), (1 : Int), (2 : Int), 0, false⟩ : FaultDamage))))) rfl rfl .plain (fun _ _ hd => P_move rfl) ?_
                    refine L_pur (c := m1) rfl rfl (.yes2 rfl rfl u3) (fun _ _ hd => P_move p3) ?_
                    refine L_pur (c := ePtr m1 (1 : Int) 5) rfl rfl (.yes2 rfl rfl u3) (fun _ _ hd => P_indexAddr (α := FaultDamage) Try.underlying29 Try.sizeOf62 rfl n0 rfl t6) ?_
                    refine L_ld (c := nC) rfl rfl (.yes2 rfl rfl u3) (fun _ _ h => h.ch) l9 rfl ?_
                    refine L_ld (c := pC) rfl rfl (.yes2 rfl rfl u3) (fun _ _ h => ⟨h.ch, fun b hb _ => h.below.block b hb⟩) m9 i8 ?_
                    refine L_pur (c := .bool ((decide (j5 = (⟨(2 : Int), 0, (2 : Int), 0, false⟩ : FaultDamage))))) rfl rfl (.yes2 rfl rfl u3) (fun _ _ hd => P_seq seq_62 rfl eg_62 rfl rfl oC qC) ?_
                    refine L_pur (c := .bool ((decide (j5 = (⟨(2 : Int), 0, (2 : Int), 0, false⟩ : FaultDamage))))) rfl rfl .plain (fun _ _ hd => P_pick (b := (decide (i5 = (⟨(1 : Int), (1 : Int), (2 : Int), 0, false⟩ : FaultDamage)))) rfl (pick_t u3 rfl)) ?_
                    refine L_pur (c := .bool ((decide (j5 = (⟨(2 : Int), 0, (2 : Int), 0, false⟩ : FaultDamage))))) rfl rfl .plain (fun _ _ hd => P_move rfl) ?_
                    refine L_pur (c := m1) rfl rfl (.yes2 rfl rfl z3) (fun _ _ hd => P_move p3) ?_
                    refine L_pur (c := ePtr m1 (4 : Int) 5) rfl rfl (.yes2 rfl rfl z3) (fun _ _ hd => P_indexAddr (α := FaultDamage) Try.underlying29 Try.sizeOf62 rfl n0 rfl u6) ?_
                    refine L_ld (c := sC) rfl rfl (.yes2 rfl rfl z3) (fun _ _ h => h.ch) n9 rfl ?_
                    refine L_ld (c := uC) rfl rfl (.yes2 rfl rfl z3) (fun _ _ h => ⟨h.ch, fun b hb _ => h.below.block b hb⟩) o9 e8 ?_
                    refine L_pur (c := .bool ((decide (l5 = (⟨(5 : Int), 0, 0, (4 : Int), false⟩ : FaultDamage))))) rfl rfl (.yes2 rfl rfl z3) (fun _ _ hd => P_seq seq_62 rfl eg_62 rfl rfl tC vC) ?_
                    refine L_pur (c := .bool ((decide (l5 = (⟨(5 : Int), 0, 0, (4 : Int), false⟩ : FaultDamage))))) rfl rfl .plain (fun _ _ hd => P_pick (b := (decide (j5 = (⟨(2 : Int), 0, (2 : Int), 0, false⟩ : FaultDamage)))) rfl (pick_t z3 rfl)) ?_
                    refine L_pur (c := .bool ((decide (l5 = (⟨(5 : Int), 0, 0, (4 : Int), false⟩ : FaultDamage))))) rfl rfl .plain (fun _ _ hd => P_move rfl) ?_
                    refine L_pur (c := .int .i64 (u0.1)) rfl rfl (.yes2 rfl rfl y5) (fun _ _ hd => P_move y6) ?_
                    refine L_pur (c := .bool ((u0.1 == (1 : Int)))) rfl rfl (.yes2 rfl rfl y5) (fun _ _ hd => P_int rfl rfl rfl) ?_
                    refine L_pur (c := .bool ((u0.1 == (1 : Int)))) rfl rfl .plain (fun _ _ hd => P_pick (b := (decide (l5 = (⟨(5 : Int), 0, 0, (4 : Int), false⟩ : FaultDamage)))) rfl (pick_t y5 rfl)) ?_
                    refine L_pur (c := .bool ((u0.1 == (1 : Int)))) rfl rfl .plain (fun _ _ hd => P_move rfl) ?_
                    refine L_pur (c := .int .i64 (u0.2.1)) rfl rfl (.yes2 rfl rfl z5) (fun _ _ hd => P_move z6) ?_
                    refine L_pur (c := .bool ((u0.2.1 == (2 : Int)))) rfl rfl (.yes2 rfl rfl z5) (fun _ _ hd => P_int rfl rfl rfl) ?_
                    refine L_pur (c := .bool ((u0.2.1 == (2 : Int)))) rfl rfl .plain (fun _ _ hd => P_pick (b := (u0.1 == (1 : Int))) rfl (pick_t z5 rfl)) ?_
                    refine L_pur (c := .bool ((u0.2.1 == (2 : Int)))) rfl rfl .plain (fun _ _ hd => P_move rfl) ?_
                    refine L_pur (c := .int .i64 (p2.1)) rfl rfl (.yes2 rfl rfl a6) (fun _ _ hd => P_move rfl) ?_
                    refine L_pur (c := .bool ((p2.1 == (2 : Int)))) rfl rfl (.yes2 rfl rfl a6) (fun _ _ hd => P_int rfl rfl rfl) ?_
                    refine L_pur (c := .bool ((p2.1 == (2 : Int)))) rfl rfl .plain (fun _ _ hd => P_pick (b := (u0.2.1 == (2 : Int))) rfl (pick_t a6 rfl)) ?_
                    refine L_pur (c := .bool ((p2.1 == (2 : Int)))) rfl rfl .plain (fun _ _ hd => P_move rfl) ?_
                    refine L_pur (c := c5) rfl rfl (.yes2 rfl rfl d5) (fun _ _ hd => P_move rfl) ?_
                    refine L_pur (c := .int .i64 ((s2.1).length : Int)) rfl rfl (.yes2 rfl rfl d5) (fun _ _ hd => P_len Try.underlying71 rfl c4) ?_
                    refine L_pur (c := .bool ((((s2.1).length : Int) == (3 : Int)))) rfl rfl (.yes2 rfl rfl d5) (fun _ _ hd => P_int rfl rfl rfl) ?_
                    refine L_pur (c := .bool ((((s2.1).length : Int) == (3 : Int)))) rfl rfl .plain (fun _ _ hd => P_pick (b := (p2.1 == (2 : Int))) rfl (pick_t d5 rfl)) ?_
                    refine L_pur (c := .bool ((((s2.1).length : Int) == (3 : Int)))) rfl rfl .plain (fun _ _ hd => P_move rfl) ?_
                    refine L_pur (c := .int .i64 (j0.1)) rfl rfl (.yes2 rfl rfl c6) (fun _ _ hd => P_move rfl) ?_
                    refine L_pur (c := .bool ((j0.1 == (0 : Int)))) rfl rfl (.yes2 rfl rfl c6) (fun _ _ hd => P_int rfl rfl rfl) ?_
                    refine L_pur (c := .bool ((j0.1 == (0 : Int)))) rfl rfl .plain (fun _ _ hd => P_pick (b := (((s2.1).length : Int) == (3 : Int))) rfl (pick_t c6 rfl)) ?_
                    refine L_pur (c := .bool ((j0.1 == (0 : Int)))) rfl rfl .plain (fun _ _ hd => P_move rfl) ?_
                    refine L_pur (c := .int .i64 (j0.2.1)) rfl rfl (.yes2 rfl rfl d6) (fun _ _ hd => P_move rfl) ?_
                    refine L_pur (c := .bool ((j0.2.1 == (0 : Int)))) rfl rfl (.yes2 rfl rfl d6) (fun _ _ hd => P_int rfl rfl rfl) ?_
                    refine L_pur (c := .bool ((j0.2.1 == (0 : Int)))) rfl rfl .plain (fun _ _ hd => P_pick (b := (j0.1 == (0 : Int))) rfl (pick_t d6 rfl)) ?_
                    refine L_pur (c := .bool ((j0.2.1 == (0 : Int)))) rfl rfl .plain (fun _ _ hd => P_move rfl) ?_
                    refine L_pur (c := .int .i64 (j0.2.2.1)) rfl rfl (.yes2 rfl rfl e6) (fun _ _ hd => P_move rfl) ?_
                    refine L_pur (c := .bool ((j0.2.2.1 == (3 : Int)))) rfl rfl (.yes2 rfl rfl e6) (fun _ _ hd => P_int rfl rfl rfl) ?_
                    refine L_pur (c := .bool ((j0.2.2.1 == (3 : Int)))) rfl rfl .plain (fun _ _ hd => P_pick (b := (j0.2.1 == (0 : Int))) rfl (pick_t e6 rfl)) ?_
                    refine L_pur (c := .bool ((j0.2.2.1 == (3 : Int)))) rfl rfl .plain (fun _ _ hd => P_assign rfl) ?_
                    refine L_nil fun xC iF hall => ?_
                    have hs := hall.1
                    have hfr := hfr.ext hs
                    clear hs hall
                    refine EL_nil ?_
                    obtain rfl := sinj h
                    exact hQ _ _ ⟨xC, hfr, rfl⟩
                   ·cases h
                  ·cases h
                 ·cases h
                ·cases h
               ·cases h
              ·cases h
             ·cases h
            ·cases h
           ·cases h
          ·cases h
         ·cases h
        ·cases h
       ·cases h
      ·cases h
     ·cases h
    ·cases h
   ·cases h
  ·clear hx
   obtain ⟨jF, hfr, n8⟩ := hR
   refine E_ret ?_
   obtain rfl := sinj h
   exact end1 rfl rfl (show _ = .bool (q4) from n8) ⟨_, hfr, rfl⟩
/-- griffe/griffelaw05.FaultCans -/
def f4 (x0 : FaultLoom) (x1 : List FaultSight) : Option (Bool) :=
 jn (σ := Unit) (fun (_ : Unit) =>
  (f16 x0).bind fun zB =>
  (f31 x1).bind fun aC =>
  (f32 zB aC).bind fun j0 =>
  jn (σ := Unit) (fun (_ : Unit) =>
   (f33 x0).bind fun o5 =>
   Option.bind (α := Int) (
    Option.bind (α := Bool) (
     bif (o5 == (0 : Int)) then
      some ((decide (((x1).length : Int) > (60 : Int))))
     else
      some (false)
     ) fun q4 =>
    bif q4 then
     some ((5 : Int))
    else
     some (o5)
    ) fun n6 =>
   Option.bind (α := Int) (
    lp (σ := Int × Int) (fun bC (d2, o0) =>
     jn (σ := Unit) (fun (_ : Unit) =>
      Option.bind (α := Int) (
       Option.bind (α := Bool) (
        (idx x1 o0).bind fun b6 =>
        (f24 ((b6).Pick) ((0 : Int)) ((119 : Int))).bind fun z2 =>
        bif (!z2) then
         some (true)
        else
         (idx x1 o0).bind fun o7 =>
         (f24 ((o7).Warp) ((0 : Int)) ((w64 (((((x0).Harness).Warps).length : Int) - (1 : Int))))).bind fun c6 =>
         some ((!c6))
        ) fun s3 =>
       bif s3 then
        some ((2 : Int))
       else
        some (d2)
       ) fun i5 =>
      bC (i5, (w64 (o0 + (1 : Int))))
      ) fun cC =>
     Option.bind (α := Bool) (
      bif (decide (o0 < ((x1).length : Int))) then
       some ((d2 == (0 : Int)))
      else
       some (false)
      ) fun u3 =>
     bif u3 then
      cC ()
     else
      some (d2)
     ) big (n6, (0 : Int))
    ) fun j2 =>
   jn (σ := Unit) (fun (_ : Unit) =>
    (f34 x0).bind fun j4 =>
    Option.bind (α := (List FaultDamage)) (
     lp (σ := (List FaultDamage) × Int) (fun dC (j3, y0) =>
      jn (σ := Unit) (fun (_ : Unit) =>
       Option.bind (α := (List FaultDamage)) (
        (idx j4 y0).bind fun eC =>
        (f36 x0 eC).bind fun d6 =>
        (f35 d6 x1).bind fun p7 =>
        bif p7 then
         (idx j4 y0).bind fun eA =>
         (apnd 40 j3 (([eA] : List FaultDamage))).bind fun iC =>
         some (iC)
        else
         some (j3)
        ) fun z3 =>
       dC (z3, (w64 (y0 + (1 : Int))))
       ) fun jC =>
      bif (decide (y0 < ((j4).length : Int))) then
       jC ()
      else
       some (j3)
      ) big (([] : List FaultDamage), (0 : Int))
     ) fun j5 =>
    Option.bind (α := Bool) (
     bif (j0.2.2 == (0 : Int)) then
      (f22 (j0.1) j5).bind fun e6 =>
      bif e6 then
       (f26 x0 ([])).bind fun kC =>
       (f35 kC x1).bind fun q5 =>
       bif (j0.2.1 == q5) then
        (f15).bind fun q7 =>
        some (q7)
       else
        some (false)
      else
       some (false)
     else
      some (false)
     ) fun t5 =>
    some (t5)
    ) fun lC =>
   bif (j2 != (0 : Int)) then
    Option.bind (α := Bool) (
     bif (j0.2.2 == j2) then
      bif (((j0.1).length : Int) == (0 : Int)) then
       bif (!j0.2.1) then
        (f15).bind fun r7 =>
        some (r7)
       else
        some (false)
      else
       some (false)
     else
      some (false)
     ) fun u5 =>
    some (u5)
   else
    lC ()
   ) fun iG =>
  Option.bind (α := Bool) (
   (f21 zB x0).bind fun v6 =>
   bif (!v6) then
    some (true)
   else
    (f28 aC x1).bind fun pA =>
    some ((!pA))
   ) fun s4 =>
  bif s4 then
   some (false)
  else
   iG ()
  ) fun jG =>
 Option.bind (α := Bool) (
  (f30 x0).bind fun b8 =>
  bif b8 then
   some (true)
  else
   some ((decide (((x1).length : Int) > (70 : Int))))
  ) fun u4 =>
 bif u4 then
  (f15).bind fun qA =>
  some (qA)
 else
  jG ()
theorem wk4 {gI : Gh} {wI : World} {x0 : FaultLoom} {x1 : List FaultSight} {up0 : Value} (rp0 : RV gI.m wI x0 up0) {up1 : Value} (rp1 : RV gI.m wI x1 up1) {r : Bool} (h : f4 x0 x1 = some r) : Fn Try.prog 4 #[up0, up1] gI wI (fun _ _ v => v = .bool (r)) := by
 unfold f4 at h
 refine fn_of_E Try.func4 rfl (Nat.le_of_ble_eq_true rfl) fun g0 hm hfr => ?_
 have rp0 : RV g0.m wI x0 up0 := hm ▸ rp0
 have rp1 : RV g0.m wI x1 up1 := hm ▸ rp1
 show E _ 143 none _ _ _ _ _
 refine E_seq (E_region (EL_do .plain rfl (D_box (g := g0) rfl rp0 fun g1 w1 p1 hs q1 => ?_)))
 have hfr := hfr.ext hs
 have rp1 := rp1.ext hs
 refine EL_at (.bool false) rfl rfl ?_
 refine EL_nil (thn_n (E_joinC h (fun (s : Unit) e w => ∃ (g : Gh) , Fr gI wI g w ∧ e 1 = up1 ∧ RV g.m w (x1 : List FaultSight) up1 ∧ e 2 = p1 ∧ PT g.m w (x0 : FaultLoom) p1) (fun X14 jG uG h => ?_) ?_))
 ·obtain ⟨u4, hx, h⟩ := bsome h
  refine E_join (fun e w => ∃ (g : Gh) , Fr gI wI g w ∧ e 1 = up1 ∧ RV g.m w (x1 : List FaultSight) up1 ∧ e 2 = p1 ∧ PT g.m w (x0 : FaultLoom) p1 ∧ e 21 = .bool (u4)) (fun Q' hQ => ?_) (fun tK rM hR => ?_)
  ·replace h := hx
   clear hx
   refine E_region (EL_do .plain rfl (D_load (g := g1) Try.isAgg28 Try.sizeOf28 rfl q1 fun yI zI => ?_))
   obtain ⟨b8, vG, h⟩ := bsome h
   refine EL_do .plain rfl (D_call (g := g1) (vs := [yI]) en30 (.cons rfl .nil) (wk30 zI vG) fun kG uK sM hs hr => ?_)
   have hfr := hfr.ext hs
   have rp1 := rp1.ext hs
   have q1 := q1.ext hs
   subst hr
   refine EL_mw (.bool (b8)) rfl rfl ?_
   rcases csome h with ⟨m4, h⟩ | ⟨m4, h⟩
   ·refine EL_skip (.no2 rfl rfl m4 rfl) rfl ?_
    refine EL_skip (.no2 rfl rfl m4 rfl) rfl ?_
    refine EL_skip (.no2 rfl rfl m4 rfl) rfl ?_
    refine EL_pur (v := .bool true) (P_pick (b := b8) rfl (pick_t m4 rfl)) .plain rfl ?_
    refine EL_nil ?_
    obtain rfl := sinj h
    exact hQ _ _ ⟨kG, hfr, rfl, rp1, rfl, q1, rfl⟩
   ·refine EL_pur (v := up1) (P_move rfl) (.yes2 rfl rfl m4) rfl ?_
    refine EL_pur (v := .int .i64 ((x1).length : Int)) (P_len Try.underlying39 rfl rp1) (.yes2 rfl rfl m4) rfl ?_
    refine EL_pur (v := .bool ((decide (((x1).length : Int) > (70 : Int))))) (P_int rfl rfl rfl) (.yes2 rfl rfl m4) rfl ?_
    refine EL_pur (v := .bool ((decide (((x1).length : Int) > (70 : Int))))) (P_pick (b := b8) rfl (pick_f m4 rfl)) .plain rfl ?_
    refine EL_nil ?_
    obtain rfl := sinj h
    exact hQ _ _ ⟨kG, hfr, rfl, rp1, rfl, q1, rfl⟩
  ·clear hx
   obtain ⟨lG, hfr, qE, rE, sE, tE, c8⟩ := hR
   rcases csome h with ⟨gA, h⟩ | ⟨gA, h⟩
   ·refine E_cond_true (Eq.trans (show ev _ _ = .bool (u4) from c8) (congrArg Value.bool gA)) ?_
    refine E_seq (E_region ?_)
    obtain ⟨qA, xG, h⟩ := bsome h
    refine EL_do .plain rfl (D_call (g := lG) (vs := []) en15 .nil (wk15  xG) fun tM vK uM hs hr => ?_)
    have hfr := hfr.ext hs
    subst hr
    refine EL_at (.bool (qA)) rfl rfl ?_
    refine EL_nil (thn_n (E_ret (thn_r ?_)))
    obtain rfl := sinj h
    exact end1 rfl rfl (show _ = .bool (qA) from rfl) ⟨_, hfr, rfl⟩
   ·refine E_cond_false (Eq.trans (show ev _ _ = .bool (u4) from c8) (congrArg Value.bool gA)) ?_
    exact E_skip (thn_n (uG () _ _ ⟨lG, hfr, qE, rE, sE, tE⟩ h))
 ·rintro _ xK vM ⟨mG, hfr, k6, i1, l6, j1⟩ h
  refine E_seq (E_region (EL_do .plain rfl (D_load (g := mG) Try.isAgg28 Try.sizeOf28 l6 j1 fun aJ bJ => ?_)))
  obtain ⟨zB, yG, h⟩ := bsome h
  refine EL_do .plain rfl (D_call (g := mG) (vs := [aJ]) en16 (.cons rfl .nil) (wk16 bJ yG) fun cJ yK dJ hs hr => ?_)
  have hfr := hfr.ext hs
  have i1 := i1.ext hs
  have j1 := j1.ext hs
  have d8 := hr
  refine EL_mv k6 rfl ?_
  obtain ⟨aC, zG, h⟩ := bsome h
  refine EL_do .plain rfl (D_call (g := cJ) (vs := [up1]) en31 (.cons rfl .nil) (wk31 i1 zG) fun eJ zK e8 hs hr => ?_)
  have hfr := hfr.ext hs
  have i1 := i1.ext hs
  have j1 := j1.ext hs
  have d8 := d8.ext hs
  have p5 := hr
  refine EL_do .plain rfl (D_allocOc (g := eJ) 2005 (⟨⟨0, []⟩, ⟨0, []⟩⟩ : FaultLoom) Try.zeroValue28 (fun m w => ⟨_, (rep_two (rep_two rep_int rep_nil) (rep_two rep_int rep_nil)), rfl⟩) fun mC nG oG hs b33 cb => ?_)
  have hfr := hfr.stp hs
  have i1 := i1.stp hs
  have j1 := j1.stp hs
  have d8 := d8.stp hs
  have p5 := p5.stp hs
  have sJ : OSF 2005 60501 1 mC nG 3 28 ([] : List Int) oG := cb.osf (by rfl)
  have tJ : OSF 2005 60503 3 mC nG 3 28 ([] : List Int) oG := cb.osf (by rfl)
  clear cb
  refine EL_do .plain rfl (D_storeOc (g := mC) (v := dJ) Try.sizeOf28 rfl b33 rfl d8 fun pG xM hs b34 cb => ?_)
  clear cb
  have hfr := hfr.stp hs
  have i1 := i1.stp hs
  have j1 := j1.stp hs
  have p5 := p5.stp hs
  refine EL_at e8 rfl rfl ?_
  refine EL_nil (thn_n (E_seq (E_region (EL_do .plain rfl (D_loadO (g := pG) Try.isAgg28 Try.sizeOf28 rfl b34 fun gJ iJ => ?_)))))
  refine EL_mw e8 rfl rfl ?_
  obtain ⟨j0, aH, h⟩ := bsome h
  refine EL_do .plain rfl (D_call (g := pG) (vs := [gJ, e8]) en32 (.cons rfl (.cons rfl .nil)) (wk32 iJ p5 aH) fun nC aL yM hs hr => ?_)
  have hfr := hfr.ext hs
  have i1 := i1.ext hs
  have j1 := j1.ext hs
  have p5 := p5.ext hs
  have b34 := b34.ext hs
  obtain ⟨n0, uJ, vJ, rfl, l5, rfl, rfl⟩ := hr
  refine EL_mw (.tuple #[n0, .bool (j0.2.1), .int .i64 (j0.2.2)]) rfl rfl ?_
  refine EL_pur (v := n0) (P_extract rfl rfl) .plain rfl ?_
  refine EL_pur (v := .bool (j0.2.1)) (P_extract rfl rfl) .plain rfl ?_
  refine EL_pur (v := .int .i64 (j0.2.2)) (P_extract rfl rfl) .plain rfl ?_
  refine EL_at n0 rfl rfl ?_
  refine EL_at (.bool (j0.2.1)) rfl rfl ?_
  refine EL_at (.int .i64 (j0.2.2)) rfl rfl ?_
  refine EL_nil (thn_n (E_joinC h (fun (s : Unit) e w => ∃ (g : Gh) , Fr gI wI g w ∧ e 1 = up1 ∧ RV g.m w (x1 : List FaultSight) up1 ∧ e 2 = p1 ∧ PT g.m w (x0 : FaultLoom) p1 ∧ e 7 = n0 ∧ RV g.m w (j0.1 : List FaultDamage) n0 ∧ e 8 = .bool (j0.2.1) ∧ e 9 = .int .i64 (j0.2.2)) (fun X54 iG bH h => ?_) ?_))
  ·obtain ⟨s4, hx, h⟩ := bsome h
   refine E_join (fun e w => ∃ (g : Gh) , Fr gI wI g w ∧ e 1 = up1 ∧ RV g.m w (x1 : List FaultSight) up1 ∧ e 2 = p1 ∧ PT g.m w (x0 : FaultLoom) p1 ∧ e 7 = n0 ∧ RV g.m w (j0.1 : List FaultDamage) n0 ∧ e 8 = .bool (j0.2.1) ∧ e 9 = .int .i64 (j0.2.2) ∧ e 43 = .bool (s4)) (fun Q' hQ => ?_) (fun bL zM hR => ?_)
   ·replace h := hx
    clear hx
    refine E_region (EL_do .plain rfl (D_loadO (g := nC) Try.isAgg28 Try.sizeOf28 rfl b34 fun jJ kJ => ?_))
    refine EL_do .plain rfl (D_load (g := nC) Try.isAgg28 Try.sizeOf28 l6 j1 fun lJ mJ => ?_)
    obtain ⟨v6, cH, h⟩ := bsome h
    refine EL_do .plain rfl (D_call (g := nC) (vs := [jJ, lJ]) en21 (.cons rfl (.cons rfl .nil)) (wk21 kJ mJ cH) fun qG cL aN hs hr => ?_)
    have hfr := hfr.ext hs
    have i1 := i1.ext hs
    have j1 := j1.ext hs
    have p5 := p5.ext hs
    have l5 := l5.ext hs
    subst hr
    refine EL_pur (v := .bool (!v6)) (P_not rfl) .plain rfl ?_
    refine EL_mw (.bool (!v6)) rfl rfl ?_
    rcases csome h with ⟨p3, h⟩ | ⟨p3, h⟩
    ·refine EL_skip (.no2 rfl rfl p3 rfl) rfl ?_
     refine EL_skip (.no2 rfl rfl p3 rfl) rfl ?_
     refine EL_skip (.no2 rfl rfl p3 rfl) rfl ?_
     refine EL_skip (.no2 rfl rfl p3 rfl) rfl ?_
     refine EL_pur (v := .bool true) (P_pick (b := (!v6)) rfl (pick_t p3 rfl)) .plain rfl ?_
     refine EL_nil ?_
     obtain rfl := sinj h
     exact hQ _ _ ⟨qG, hfr, k6, i1, l6, j1, rfl, l5, rfl, rfl, rfl⟩
    ·refine EL_pur (v := e8) (P_move rfl) (.yes2 rfl rfl p3) rfl ?_
     refine EL_pur (v := up1) (P_move k6) (.yes2 rfl rfl p3) rfl ?_
     obtain ⟨pA, dH, h⟩ := bsome h
     refine EL_do (.yes2 rfl rfl p3) rfl (D_call (g := qG) (vs := [e8, up1]) en28 (.cons rfl (.cons rfl .nil)) (wk28 p5 i1 dH) fun nJ dL bN hs hr => ?_)
     have hfr := hfr.ext hs
     have i1 := i1.ext hs
     have j1 := j1.ext hs
     have l5 := l5.ext hs
     subst hr
     refine EL_pur (v := .bool (!pA)) (P_not rfl) (.yes2 rfl rfl p3) rfl ?_
     refine EL_pur (v := .bool (!pA)) (P_pick (b := (!v6)) rfl (pick_f p3 rfl)) .plain rfl ?_
     refine EL_nil ?_
     obtain rfl := sinj h
     exact hQ _ _ ⟨nJ, hfr, k6, i1, l6, j1, rfl, l5, rfl, rfl, rfl⟩
   ·clear hx
    obtain ⟨oJ, hfr, uE, vE, xE, yE, zE, aF, bF, cF, g8⟩ := hR
    rcases csome h with ⟨iA, h⟩ | ⟨iA, h⟩
    ·refine E_cond_true (Eq.trans (show ev _ _ = .bool (s4) from g8) (congrArg Value.bool iA)) ?_
     refine E_seq (E_region (EL_at (.bool false) rfl rfl ?_))
     refine EL_nil (thn_n (E_ret (thn_r ?_)))
     obtain rfl := sinj h
     exact end1 rfl rfl (show _ = .bool false from rfl) ⟨_, hfr, rfl⟩
    ·refine E_cond_false (Eq.trans (show ev _ _ = .bool (s4) from g8) (congrArg Value.bool iA)) ?_
     exact E_skip (thn_n (bH () _ _ ⟨oJ, hfr, uE, vE, xE, yE, zE, aF, bF, cF⟩ h))
  ·rintro _ eL cN ⟨rG, hfr, s7, x5, t7, y5, rA, m6, sA, tA⟩ h
   refine E_seq (E_region (EL_do .plain rfl (D_load (g := rG) Try.isAgg28 Try.sizeOf28 t7 y5 fun pJ qJ => ?_)))
   obtain ⟨o5, gH, h⟩ := bsome h
   refine EL_do .plain rfl (D_call (g := rG) (vs := [pJ]) en33 (.cons rfl .nil) (wk33 qJ gH) fun sG gL dN hs hr => ?_)
   have hfr := hfr.ext hs
   have x5 := x5.ext hs
   have y5 := y5.ext hs
   have m6 := m6.ext hs
   subst hr
   refine EL_at (.int .i64 (o5)) rfl rfl ?_
   refine EL_nil (thn_n ?_)
   obtain ⟨n6, hx, h⟩ := bsome h
   refine E_join (fun e w => ∃ (g : Gh) , Fr gI wI g w ∧ e 1 = up1 ∧ RV g.m w (x1 : List FaultSight) up1 ∧ e 2 = p1 ∧ PT g.m w (x0 : FaultLoom) p1 ∧ e 7 = n0 ∧ RV g.m w (j0.1 : List FaultDamage) n0 ∧ e 8 = .bool (j0.2.1) ∧ e 9 = .int .i64 (j0.2.2) ∧ e 10 = .int .i64 (n6)) (fun Q' hQ => ?_) (fun iL eN hR => ?_)
   ·replace h := hx
    clear hx
    obtain ⟨q4, hx, h⟩ := bsome h
    refine E_join (fun e w => ∃ (g : Gh) , Fr gI wI g w ∧ e 1 = up1 ∧ RV g.m w (x1 : List FaultSight) up1 ∧ e 2 = p1 ∧ PT g.m w (x0 : FaultLoom) p1 ∧ e 7 = n0 ∧ RV g.m w (j0.1 : List FaultDamage) n0 ∧ e 8 = .bool (j0.2.1) ∧ e 9 = .int .i64 (j0.2.2) ∧ e 10 = .int .i64 (o5) ∧ e 52 = .bool (q4)) (fun Q' hQ => ?_) (fun jL gN hR => ?_)
    ·replace h := hx
     clear hx
     refine E_region (EL_mw (.int .i64 (o5)) rfl rfl ?_)
     refine EL_in (.bool ((o5 == (0 : Int)))) rfl rfl rfl rfl ?_
     refine EL_mw (.bool ((o5 == (0 : Int)))) rfl rfl ?_
     rcases csome h with ⟨n4, h⟩ | ⟨n4, h⟩
     ·refine EL_pur (v := up1) (P_move s7) (.yes2 rfl rfl n4) rfl ?_
      refine EL_pur (v := .int .i64 ((x1).length : Int)) (P_len Try.underlying39 rfl x5) (.yes2 rfl rfl n4) rfl ?_
      refine EL_pur (v := .bool ((decide (((x1).length : Int) > (60 : Int))))) (P_int rfl rfl rfl) (.yes2 rfl rfl n4) rfl ?_
      refine EL_pur (v := .bool ((decide (((x1).length : Int) > (60 : Int))))) (P_pick (b := (o5 == (0 : Int))) rfl (pick_t n4 rfl)) .plain rfl ?_
      refine EL_nil ?_
      obtain rfl := sinj h
      exact hQ _ _ ⟨sG, hfr, s7, x5, t7, y5, rA, m6, sA, tA, rfl, rfl⟩
     ·refine EL_skip (.no2 rfl rfl n4 rfl) rfl ?_
      refine EL_skip (.no2 rfl rfl n4 rfl) rfl ?_
      refine EL_skip (.no2 rfl rfl n4 rfl) rfl ?_
      refine EL_pur (v := .bool false) (P_pick (b := (o5 == (0 : Int))) rfl (pick_f n4 rfl)) .plain rfl ?_
      refine EL_nil ?_
      obtain rfl := sinj h
      exact hQ _ _ ⟨sG, hfr, s7, x5, t7, y5, rA, m6, sA, tA, rfl, rfl⟩
    ·clear hx
     obtain ⟨tG, hfr, uA, vA, xA, yA, zA, aB, bB, cB, oC, i8⟩ := hR
     rcases csome h with ⟨jA, h⟩ | ⟨jA, h⟩
     ·refine E_cond_true (Eq.trans (show ev _ _ = .bool (q4) from i8) (congrArg Value.bool jA)) ?_
      refine E_region (EL_at (.int .i64 (5)) rfl rfl ?_)
      refine EL_nil ?_
      obtain rfl := sinj h
      exact hQ _ _ ⟨tG, hfr, uA, vA, xA, yA, zA, aB, bB, cB, rfl⟩
     ·refine E_cond_false (Eq.trans (show ev _ _ = .bool (q4) from i8) (congrArg Value.bool jA)) ?_
      refine E_skip ?_
      obtain rfl := sinj h
      exact hQ _ _ ⟨tG, hfr, uA, vA, xA, yA, zA, aB, bB, cB, oC⟩
   ·clear hx
    obtain ⟨rJ, hfr, dF, eF, gF, iF, jF, kF, lF, mF, pC⟩ := hR
    obtain ⟨j2, hx, h⟩ := bsome h
    refine E_join (fun e w => ∃ (g : Gh) , Fr gI wI g w ∧ e 1 = up1 ∧ RV g.m w (x1 : List FaultSight) up1 ∧ e 2 = p1 ∧ PT g.m w (x0 : FaultLoom) p1 ∧ e 7 = n0 ∧ RV g.m w (j0.1 : List FaultDamage) n0 ∧ e 8 = .bool (j0.2.1) ∧ e 9 = .int .i64 (j0.2.2) ∧ e 10 = .int .i64 (j2)) (fun Q' hQ => ?_) (fun xJ kL hR => ?_)
    ·replace h := hx
     clear hx
     refine E_seq (E_region (EL_at (.int .i64 (0)) rfl rfl ?_))
     refine EL_nil (thn_n (E_block ?_))
     refine E_lp h (fun (s : Int × Int) e w => ∃ (g : Gh) , Fr gI wI g w ∧ e 1 = up1 ∧ RV g.m w (x1 : List FaultSight) up1 ∧ e 2 = p1 ∧ PT g.m w (x0 : FaultLoom) p1 ∧ e 7 = n0 ∧ RV g.m w (j0.1 : List FaultDamage) n0 ∧ e 8 = .bool (j0.2.1) ∧ e 9 = .int .i64 (j0.2.2) ∧ e 10 = .int .i64 (s.1) ∧ e 11 = .int .i64 (s.2)) ⟨rJ, hfr, dF, eF, gF, iF, jF, kF, lF, mF, pC, rfl⟩ (fun X397 bC nF => ?_)
     rintro ⟨d2, o0⟩ yJ lL ⟨qC, hfr, o6, p6, j8, k8, l8, m8, n8, o8, i6, j6⟩ h
     refine E_joinC h (fun (s : Unit) e w => ∃ (g : Gh) , Fr gI wI g w ∧ e 1 = up1 ∧ RV g.m w (x1 : List FaultSight) up1 ∧ e 2 = p1 ∧ PT g.m w (x0 : FaultLoom) p1 ∧ e 7 = n0 ∧ RV g.m w (j0.1 : List FaultDamage) n0 ∧ e 8 = .bool (j0.2.1) ∧ e 9 = .int .i64 (j0.2.2) ∧ e 10 = .int .i64 (d2) ∧ e 11 = .int .i64 (o0)) (fun X403 cC oF h => ?_) ?_
     ·obtain ⟨u3, hx, h⟩ := bsome h
      refine E_join (fun e w => ∃ (g : Gh) , Fr gI wI g w ∧ e 1 = up1 ∧ RV g.m w (x1 : List FaultSight) up1 ∧ e 2 = p1 ∧ PT g.m w (x0 : FaultLoom) p1 ∧ e 7 = n0 ∧ RV g.m w (j0.1 : List FaultDamage) n0 ∧ e 8 = .bool (j0.2.1) ∧ e 9 = .int .i64 (j0.2.2) ∧ e 10 = .int .i64 (d2) ∧ e 11 = .int .i64 (o0) ∧ e 60 = .bool (u3)) (fun Q' hQ => ?_) (fun zJ mL hR => ?_)
      ·replace h := hx
       clear hx
       refine E_region (EL_mv j6 rfl ?_)
       refine EL_mv o6 rfl ?_
       refine EL_pur (v := .int .i64 ((x1).length : Int)) (P_len Try.underlying39 rfl p6) .plain rfl ?_
       refine EL_in (.bool ((decide (o0 < ((x1).length : Int))))) rfl rfl rfl rfl ?_
       refine EL_mw (.bool ((decide (o0 < ((x1).length : Int))))) rfl rfl ?_
       rcases csome h with ⟨o4, h⟩ | ⟨o4, h⟩
       ·refine EL_pur (v := .int .i64 (d2)) (P_move i6) (.yes2 rfl rfl o4) rfl ?_
        refine EL_pur (v := .bool ((d2 == (0 : Int)))) (P_int rfl rfl rfl) (.yes2 rfl rfl o4) rfl ?_
        refine EL_pur (v := .bool ((d2 == (0 : Int)))) (P_pick (b := (decide (o0 < ((x1).length : Int)))) rfl (pick_t o4 rfl)) .plain rfl ?_
        refine EL_nil ?_
        obtain rfl := sinj h
        exact hQ _ _ ⟨qC, hfr, o6, p6, j8, k8, l8, m8, n8, o8, i6, j6, rfl⟩
       ·refine EL_skip (.no2 rfl rfl o4 rfl) rfl ?_
        refine EL_skip (.no2 rfl rfl o4 rfl) rfl ?_
        refine EL_pur (v := .bool false) (P_pick (b := (decide (o0 < ((x1).length : Int)))) rfl (pick_f o4 rfl)) .plain rfl ?_
        refine EL_nil ?_
        obtain rfl := sinj h
        exact hQ _ _ ⟨qC, hfr, o6, p6, j8, k8, l8, m8, n8, o8, i6, j6, rfl⟩
      ·clear hx
       obtain ⟨rC, hfr, p8, q8, r8, t8, v8, x8, y8, z8, x6, lB, y6⟩ := hR
       rcases csome h with ⟨u7, h⟩ | ⟨u7, h⟩
       ·refine E_cond_true (Eq.trans (show ev _ _ = .bool (u3) from y6) (congrArg Value.bool u7)) ?_
        exact E_skip (thn_n (oF () _ _ ⟨rC, hfr, p8, q8, r8, t8, v8, x8, y8, z8, x6, lB⟩ h))
       ·refine E_cond_false (Eq.trans (show ev _ _ = .bool (u3) from y6) (congrArg Value.bool u7)) ?_
        refine E_exit ?_
        refine thn_e ?_
        refine thn_e ?_
        refine blk_hit ?_
        obtain rfl := sinj h
        exact hQ _ _ ⟨rC, hfr, p8, q8, r8, t8, v8, x8, y8, z8, x6⟩
     ·rintro _ aK nL ⟨sC, hfr, x4, i2, q6, q2, a9, c4, b9, c9, z6, d4⟩ h
      obtain ⟨i5, hx, h⟩ := bsome h
      refine E_join (fun e w => ∃ (g : Gh) , Fr gI wI g w ∧ e 1 = up1 ∧ RV g.m w (x1 : List FaultSight) up1 ∧ e 2 = p1 ∧ PT g.m w (x0 : FaultLoom) p1 ∧ e 7 = n0 ∧ RV g.m w (j0.1 : List FaultDamage) n0 ∧ e 8 = .bool (j0.2.1) ∧ e 9 = .int .i64 (j0.2.2) ∧ e 10 = .int .i64 (i5) ∧ e 11 = .int .i64 (o0)) (fun Q' hQ => ?_) (fun bK oL hR => ?_)
      ·replace h := hx
       clear hx
       refine E_block ?_
       obtain ⟨s3, hx, h⟩ := bsome h
       refine E_join (fun e w => ∃ (g : Gh) , Fr gI wI g w ∧ e 1 = up1 ∧ RV g.m w (x1 : List FaultSight) up1 ∧ e 2 = p1 ∧ PT g.m w (x0 : FaultLoom) p1 ∧ e 7 = n0 ∧ RV g.m w (j0.1 : List FaultDamage) n0 ∧ e 8 = .bool (j0.2.1) ∧ e 9 = .int .i64 (j0.2.2) ∧ e 10 = .int .i64 (d2) ∧ e 11 = .int .i64 (o0) ∧ e 83 = .bool (s3)) (fun Q' hQ => ?_) (fun cK pL hR => ?_)
       ·replace h := hx
        clear hx
        obtain ⟨b6, v7, h⟩ := bsome h
        have kA := PT_idx i2 v7
        have iH := PT_field (part_FaultSight_0).1 kA
        refine L_load (x := .tmp 66) Try.isAgg3 Try.sizeOf3 iH fun qL jH dB => ?_
        obtain rfl := RV_int.1 jH
        obtain ⟨z2, eB, h⟩ := bsome h
        rcases csome h with ⟨u0, h⟩ | ⟨u0, h⟩
        ·refine E_drawL (g := sC) (n := 21) [(5, (fun v g w => v = .bool (z2)))] [0, 1, 2, 3, 4, 5, 6, 7, 8, 9, 10, 11, 12, 13, 14, 15, 16, 17, 18, 19, 20] rfl mixed (by kernel_rfl) (⟨fun _ => up_eq _, trivial⟩) ?_
         refine L_pur (c := up1) rfl rfl .plain (fun _ _ hd => P_move x4) ?_
         refine L_pur (c := .int .i64 (o0)) rfl rfl .plain (fun _ _ hd => P_move d4) ?_
         refine L_pur (c := ePtr up1 o0 3) rfl rfl .plain (fun _ _ hd => P_indexAddr (α := FaultSight) Try.underlying39 Try.sizeOf56 rfl i2 rfl v7) ?_
         refine L_pur (c := fPtr (ePtr up1 o0 3) 0) rfl rfl .plain (fun _ _ hd => P_fieldAddr at_56_0 rfl (PT.ptr kA)) ?_
         refine L_ld (c := .int .i64 ((b6).Pick)) rfl rfl .plain (fun _ _ h => h.ch) dB rfl ?_
         refine L_do (φ := fun v g w => v = .bool (z2)) rfl rfl .plain (fun g w hd => D_call (g := g) (vs := [.int .i64 ((b6).Pick), .int .i64 (0), .int .i64 (119)]) en24 (.cons rfl (.cons rfl (.cons rfl .nil))) (wk24  eB) fun g' w' v hs hr => ⟨g', hs, hr⟩) (fun kH hv => ?_)
         obtain ⟨_, _, _, rfl⟩ := hv
         refine L_pur (c := .bool (!z2)) rfl rfl .plain (fun _ _ hd => P_not rfl) ?_
         refine L_pur (c := .bool (!z2)) rfl rfl .plain (fun _ _ hd => P_move rfl) ?_
         refine L_skip rfl (.no2 rfl rfl u0 rfl) ?_
         refine L_skip rfl (.no2 rfl rfl u0 rfl) ?_
         refine L_skip rfl (.no2 rfl rfl u0 rfl) ?_
         refine L_skip rfl (.no2 rfl rfl u0 rfl) ?_
         refine L_skip rfl (.no2 rfl rfl u0 rfl) ?_
         refine L_skip rfl (.no2 rfl rfl u0 rfl) ?_
         refine L_skip rfl (.no2 rfl rfl u0 rfl) ?_
         refine L_skip rfl (.no2 rfl rfl u0 rfl) ?_
         refine L_skip rfl (.no2 rfl rfl u0 rfl) ?_
         refine L_skip rfl (.no2 rfl rfl u0 rfl) ?_
         refine L_skip rfl (.no2 rfl rfl u0 rfl) ?_
         refine L_skip rfl (.no2 rfl rfl u0 rfl) ?_
         refine L_pur (c := .bool true) rfl rfl .plain (fun _ _ hd => P_pick (b := (!z2)) rfl (pick_t u0 rfl)) ?_
         refine L_nil fun lH rL hall => ?_
         have hs := hall.1
         have hfr := hfr.ext hs
         have i2 := i2.ext hs
         have q2 := q2.ext hs
         have c4 := c4.ext hs
         clear hs hall
         refine EL_nil ?_
         obtain rfl := sinj h
         exact hQ _ _ ⟨lH, hfr, x4, i2, q6, q2, a9, c4, b9, c9, z6, d4, rfl⟩
        ·obtain ⟨o7, iB, h⟩ := bsome h
         have tC := PT_idx i2 iB
         have mH := PT_field (part_FaultSight_1).1 tC
         refine L_load (x := .tmp 74) Try.isAgg3 Try.sizeOf3 mH fun sL nH pF => ?_
         obtain rfl := RV_int.1 nH
         have uC := PT_field (part_FaultLoom_0).1 q2
         have oH := PT_field (part_TieHarness_1).1 uC
         refine L_load (x := .tmp 77) Try.isAgg22 Try.sizeOf22 oH fun pH qH qF => ?_
         obtain ⟨c6, rF, h⟩ := bsome h
         refine E_drawL (g := sC) (n := 21) [(5, (fun v g w => v = .bool (z2))), (18, (fun v g w => v = .bool (c6)))] [0, 1, 2, 3, 4, 5, 6, 7, 8, 9, 10, 11, 12, 13, 14, 15, 16, 17, 18, 19, 20] rfl mixed (by kernel_rfl) (⟨fun _ => up_eq _, fun _ => up_eq _, trivial⟩) ?_
         refine L_pur (c := up1) rfl rfl .plain (fun _ _ hd => P_move x4) ?_
         refine L_pur (c := .int .i64 (o0)) rfl rfl .plain (fun _ _ hd => P_move d4) ?_
         refine L_pur (c := ePtr up1 o0 3) rfl rfl .plain (fun _ _ hd => P_indexAddr (α := FaultSight) Try.underlying39 Try.sizeOf56 rfl i2 rfl v7) ?_
         refine L_pur (c := fPtr (ePtr up1 o0 3) 0) rfl rfl .plain (fun _ _ hd => P_fieldAddr at_56_0 rfl (PT.ptr kA)) ?_
         refine L_ld (c := .int .i64 ((b6).Pick)) rfl rfl .plain (fun _ _ h => h.ch) dB rfl ?_
         refine L_do (φ := fun v g w => v = .bool (z2)) rfl rfl .plain (fun g w hd => D_call (g := g) (vs := [.int .i64 ((b6).Pick), .int .i64 (0), .int .i64 (119)]) en24 (.cons rfl (.cons rfl (.cons rfl .nil))) (wk24  eB) fun g' w' v hs hr => ⟨g', hs, hr⟩) (fun kH hv => ?_)
         obtain ⟨_, _, _, rfl⟩ := hv
         refine L_pur (c := .bool (!z2)) rfl rfl .plain (fun _ _ hd => P_not rfl) ?_
         refine L_pur (c := .bool (!z2)) rfl rfl .plain (fun _ _ hd => P_move rfl) ?_
         refine L_pur (c := up1) rfl rfl (.yes2 rfl rfl u0) (fun _ _ hd => P_move x4) ?_
         refine L_pur (c := .int .i64 (o0)) rfl rfl (.yes2 rfl rfl u0) (fun _ _ hd => P_move d4) ?_
         refine L_pur (c := ePtr up1 o0 3) rfl rfl (.yes2 rfl rfl u0) (fun _ _ hd => P_indexAddr (α := FaultSight) Try.underlying39 Try.sizeOf56 rfl i2 rfl iB) ?_
         refine L_pur (c := fPtr (ePtr up1 o0 3) 1) rfl rfl (.yes2 rfl rfl u0) (fun _ _ hd => P_fieldAddr at_56_1 rfl (PT.ptr tC)) ?_
         refine L_ld (c := .int .i64 ((o7).Warp)) rfl rfl (.yes2 rfl rfl u0) (fun _ _ h => h.ch) pF rfl ?_
         refine L_pur (c := fPtr p1 0) rfl rfl (.yes2 rfl rfl u0) (fun _ _ hd => P_fieldAddr at_28_0 q6 (PT.ptr q2)) ?_
         refine L_pur (c := fPtr (fPtr p1 0) 1) rfl rfl (.yes2 rfl rfl u0) (fun _ _ hd => P_fieldAddr at_24_1 rfl (PT.ptr uC)) ?_
         refine L_ld (c := pH) rfl rfl (.yes2 rfl rfl u0) (fun _ _ h => h.ch) qF rfl ?_
         refine L_pur (c := .int .i64 ((((x0).Harness).Warps).length : Int)) rfl rfl (.yes2 rfl rfl u0) (fun _ _ hd => P_len Try.underlying22 rfl qH) ?_
         refine L_pur (c := .int .i64 ((w64 (((((x0).Harness).Warps).length : Int) - (1 : Int))))) rfl rfl (.yes2 rfl rfl u0) (fun _ _ hd => P_int rfl rfl rfl) ?_
         refine L_do (φ := fun v g w => v = .bool (c6)) rfl rfl (.yes2 rfl rfl u0) (fun g w hd => D_call (g := g) (vs := [.int .i64 ((o7).Warp), .int .i64 (0), .int .i64 ((w64 (((((x0).Harness).Warps).length : Int) - (1 : Int))))]) en24 (.cons rfl (.cons rfl (.cons rfl .nil))) (wk24  rF) fun g' w' v hs hr => ⟨g', hs, hr⟩) (fun tL hv => ?_)
         obtain ⟨_, _, _, rfl⟩ := hv
         refine L_pur (c := .bool (!c6)) rfl rfl (.yes2 rfl rfl u0) (fun _ _ hd => P_not rfl) ?_
         refine L_pur (c := .bool (!c6)) rfl rfl .plain (fun _ _ hd => P_pick (b := (!z2)) rfl (pick_f u0 rfl)) ?_
         refine L_nil fun sH uL hall => ?_
         have hs := hall.1
         have hfr := hfr.ext hs
         have i2 := i2.ext hs
         have q2 := q2.ext hs
         have c4 := c4.ext hs
         clear hs hall
         refine EL_nil ?_
         obtain rfl := sinj h
         exact hQ _ _ ⟨sH, hfr, x4, i2, q6, q2, a9, c4, b9, c9, z6, d4, rfl⟩
       ·clear hx
        obtain ⟨vC, hfr, d9, e9, g9, i9, j9, k9, l9, m9, mB, a7, b7⟩ := hR
        rcases csome h with ⟨x7, h⟩ | ⟨x7, h⟩
        ·refine E_cond_true (Eq.trans (show ev _ _ = .bool (s3) from b7) (congrArg Value.bool x7)) ?_
         refine E_region (EL_at (.int .i64 (2)) rfl rfl ?_)
         refine EL_nil (blk_n ?_)
         obtain rfl := sinj h
         exact hQ _ _ ⟨vC, hfr, d9, e9, g9, i9, j9, k9, l9, m9, rfl, a7⟩
        ·refine E_cond_false (Eq.trans (show ev _ _ = .bool (s3) from b7) (congrArg Value.bool x7)) ?_
         refine E_skip (blk_n ?_)
         obtain rfl := sinj h
         exact hQ _ _ ⟨vC, hfr, d9, e9, g9, i9, j9, k9, l9, m9, mB, a7⟩
      ·clear hx
       obtain ⟨tH, hfr, xC, yC, zC, aD, bD, cD, dD, eD, nB, oB⟩ := hR
       refine E_region (EL_mv oB rfl ?_)
       refine EL_in (.int .i64 ((w64 (o0 + (1 : Int))))) rfl rfl rfl rfl ?_
       refine EL_at (.int .i64 ((w64 (o0 + (1 : Int))))) rfl rfl ?_
       exact EL_nil (thn_n (nF (i5, (w64 (o0 + (1 : Int)))) _ _ ⟨tH, hfr, xC, yC, zC, aD, bD, cD, dD, eD, nB, rfl⟩ h))
    ·clear hx
     obtain ⟨r6, hfr, gD, iD, jD, kD, n9, o9, p9, q9, c7⟩ := hR
     refine E_joinC h (fun (s : Unit) e w => ∃ (g : Gh) , Fr gI wI g w ∧ e 1 = up1 ∧ RV g.m w (x1 : List FaultSight) up1 ∧ e 2 = p1 ∧ PT g.m w (x0 : FaultLoom) p1 ∧ e 7 = n0 ∧ RV g.m w (j0.1 : List FaultDamage) n0 ∧ e 8 = .bool (j0.2.1) ∧ e 9 = .int .i64 (j0.2.2)) (fun X723 lC sF h => ?_) ?_
     ·refine E_seq (E_region (EL_mv c7 rfl ?_))
      refine EL_in (.bool ((j2 != (0 : Int)))) rfl rfl rfl rfl ?_
      refine EL_nil (thn_n ?_)
      rcases csome h with ⟨y7, h⟩ | ⟨y7, h⟩
      ·refine E_ct y7 rfl ?_
       obtain ⟨u5, hx, h⟩ := bsome h
       refine E_join (fun e w => ∃ (g : Gh) , Fr gI wI g w ∧ e 4 = .bool (u5)) (fun Q' hQ => ?_) (fun dK vL hR => ?_)
       ·replace h := hx
        clear hx
        refine E_region (EL_mv q9 rfl ?_)
        refine EL_mv c7 rfl ?_
        refine EL_in (.bool ((j0.2.2 == j2))) rfl rfl rfl rfl ?_
        refine EL_mw (.bool ((j0.2.2 == j2))) rfl rfl ?_
        rcases csome h with ⟨d3, h⟩ | ⟨d3, h⟩
        ·refine EL_pur (v := n0) (P_move n9) (.yes2 rfl rfl d3) rfl ?_
         refine EL_pur (v := .int .i64 ((j0.1).length : Int)) (P_len Try.underlying29 rfl o9) (.yes2 rfl rfl d3) rfl ?_
         refine EL_pur (v := .bool ((((j0.1).length : Int) == (0 : Int)))) (P_int rfl rfl rfl) (.yes2 rfl rfl d3) rfl ?_
         refine EL_pur (v := .bool ((((j0.1).length : Int) == (0 : Int)))) (P_pick (b := (j0.2.2 == j2)) rfl (pick_t d3 rfl)) .plain rfl ?_
         refine EL_mw (.bool ((((j0.1).length : Int) == (0 : Int)))) rfl rfl ?_
         rcases csome h with ⟨p4, h⟩ | ⟨p4, h⟩
         ·refine EL_pur (v := .bool (j0.2.1)) (P_move p9) (.yes2 rfl rfl p4) rfl ?_
          refine EL_pur (v := .bool (!j0.2.1)) (P_not rfl) (.yes2 rfl rfl p4) rfl ?_
          refine EL_pur (v := .bool (!j0.2.1)) (P_pick (b := (((j0.1).length : Int) == (0 : Int))) rfl (pick_t p4 rfl)) .plain rfl ?_
          refine EL_mw (.bool (!j0.2.1)) rfl rfl ?_
          rcases csome h with ⟨z5, h⟩ | ⟨z5, h⟩
          ·obtain ⟨r7, tF, h⟩ := bsome h
           refine EL_do (.yes2 rfl rfl z5) rfl (D_call (g := r6) (vs := []) en15 .nil (wk15  tF) fun uH eK xL hs hr => ?_)
           have hfr := hfr.ext hs
           subst hr
           refine EL_pur (v := .bool (r7)) (P_pick (b := (!j0.2.1)) rfl (pick_t z5 rfl)) .plain rfl ?_
           refine EL_at (.bool (r7)) rfl rfl ?_
           refine EL_nil ?_
           obtain rfl := sinj h
           exact hQ _ _ ⟨uH, hfr, rfl⟩
          ·refine EL_skip (.no2 rfl rfl z5 rfl) rfl ?_
           refine EL_pur (v := .bool false) (P_pick (b := (!j0.2.1)) rfl (pick_f z5 rfl)) .plain rfl ?_
           refine EL_at (.bool false) rfl rfl ?_
           refine EL_nil ?_
           obtain rfl := sinj h
           exact hQ _ _ ⟨r6, hfr, rfl⟩
         ·refine EL_skip (.no2 rfl rfl p4 rfl) rfl ?_
          refine EL_skip (.no2 rfl rfl p4 rfl) rfl ?_
          refine EL_pur (v := .bool false) (P_pick (b := (((j0.1).length : Int) == (0 : Int))) rfl (pick_f p4 rfl)) .plain rfl ?_
          refine EL_dead 3 rfl ?_
          refine EL_at (.bool false) rfl rfl ?_
          refine EL_nil ?_
          obtain rfl := sinj h
          exact hQ _ _ ⟨r6, hfr, rfl⟩
        ·refine EL_skip (.no2 rfl rfl d3 rfl) rfl ?_
         refine EL_skip (.no2 rfl rfl d3 rfl) rfl ?_
         refine EL_skip (.no2 rfl rfl d3 rfl) rfl ?_
         refine EL_pur (v := .bool false) (P_pick (b := (j0.2.2 == j2)) rfl (pick_f d3 rfl)) .plain rfl ?_
         refine EL_dead 7 rfl ?_
         refine EL_at (.bool false) rfl rfl ?_
         refine EL_nil ?_
         obtain rfl := sinj h
         exact hQ _ _ ⟨r6, hfr, rfl⟩
       ·clear hx
        obtain ⟨yL, hfr, lD⟩ := hR
        refine E_ret (thn_r ?_)
        obtain rfl := sinj h
        exact end1 rfl rfl (show _ = .bool (u5) from lD) ⟨_, hfr, rfl⟩
      ·refine E_cf y7 rfl ?_
       exact E_skip (thn_n (sF () _ _ ⟨r6, hfr, gD, iD, jD, kD, n9, o9, p9, q9⟩ h))
     ·rintro _ gK zL ⟨mD, hfr, nD, z4, r9, e4, oD, c5, pD, qD⟩ h
      refine E_seq (E_region (EL_do .plain rfl (D_load (g := mD) Try.isAgg28 Try.sizeOf28 r9 e4 fun vH xH => ?_)))
      obtain ⟨j4, uF, h⟩ := bsome h
      refine EL_do .plain rfl (D_call (g := mD) (vs := [vH]) en34 (.cons rfl .nil) (wk34 xH uF) fun yH iK q3 hs hr => ?_)
      have hfr := hfr.ext hs
      have z4 := z4.ext hs
      have e4 := e4.ext hs
      have c5 := c5.ext hs
      have lA := hr
      refine EL_do .plain rfl (D_buildSlice (g := yH) 3103 (xs := ([] : List FaultDamage)) (vs := []) Try.underlying29 Try.sizeOf62 Try.zeroValue62 rfl rfl .nil RVs.nil rfl rfl fun zH aM rD hs o740 aI hxt hfl => ?_)
      have hfr := hfr.stp hs
      have z4 := z4.stp hs
      have e4 := e4.stp hs
      have c5 := c5.stp hs
      have lA := lA.stp hs
      refine EL_at q3 rfl rfl ?_
      refine EL_at rD rfl rfl ?_
      refine EL_nil (thn_n ?_)
      obtain ⟨j5, hx, h⟩ := bsome h
      refine E_join (fun e w => ∃ (g : Gh) (d5 : Value), Fr gI wI g w ∧ e 1 = up1 ∧ RV g.m w (x1 : List FaultSight) up1 ∧ e 2 = p1 ∧ PT g.m w (x0 : FaultLoom) p1 ∧ e 7 = n0 ∧ RV g.m w (j0.1 : List FaultDamage) n0 ∧ e 8 = .bool (j0.2.1) ∧ e 9 = .int .i64 (j0.2.2) ∧ e 13 = d5 ∧ RV g.m w (j5 : List FaultDamage) d5 ∧ OS 3103 g w 62 (j5 : List FaultDamage) d5) (fun Q' hQ => ?_) (fun jK bM hR => ?_)
      ·replace h := hx
       clear hx
       refine E_seq (E_region (EL_at (.int .i64 (0)) rfl rfl ?_))
       refine EL_nil (thn_n (E_block ?_))
       refine E_lp h (fun (s : (List FaultDamage) × Int) e w => ∃ (g : Gh) (d5 : Value), Fr gI wI g w ∧ e 1 = up1 ∧ RV g.m w (x1 : List FaultSight) up1 ∧ e 2 = p1 ∧ PT g.m w (x0 : FaultLoom) p1 ∧ e 7 = n0 ∧ RV g.m w (j0.1 : List FaultDamage) n0 ∧ e 8 = .bool (j0.2.1) ∧ e 9 = .int .i64 (j0.2.2) ∧ e 12 = q3 ∧ RV g.m w (j4 : List FaultDamage) q3 ∧ e 13 = d5 ∧ RV g.m w (s.1 : List FaultDamage) d5 ∧ OS 3103 g w 62 (s.1 : List FaultDamage) d5 ∧ e 14 = .int .i64 (s.2)) ⟨zH, (rD), hfr, nD, z4, r9, e4, oD, c5, pD, qD, rfl, lA, rfl, aI, o740, rfl⟩ (fun X812 dC vF => ?_)
       rintro ⟨j3, y0⟩ kK cM ⟨sD, i4, hfr, s9, t9, u9, v9, x9, y9, z9, aA, d7, e7, g7, i7, j7, l7⟩ h
       refine E_joinC h (fun (s : Unit) e w => ∃ (g : Gh) , Fr gI wI g w ∧ e 1 = up1 ∧ RV g.m w (x1 : List FaultSight) up1 ∧ e 2 = p1 ∧ PT g.m w (x0 : FaultLoom) p1 ∧ e 7 = n0 ∧ RV g.m w (j0.1 : List FaultDamage) n0 ∧ e 8 = .bool (j0.2.1) ∧ e 9 = .int .i64 (j0.2.2) ∧ e 12 = q3 ∧ RV g.m w (j4 : List FaultDamage) q3 ∧ e 13 = i4 ∧ RV g.m w (j3 : List FaultDamage) i4 ∧ OS 3103 g w 62 (j3 : List FaultDamage) i4 ∧ e 14 = .int .i64 (y0)) (fun X815 jC xF h => ?_) ?_
       ·refine E_seq (E_region (EL_mv l7 rfl ?_))
        refine EL_mv d7 rfl ?_
        refine EL_pur (v := .int .i64 ((j4).length : Int)) (P_len Try.underlying29 rfl e7) .plain rfl ?_
        refine EL_in (.bool ((decide (y0 < ((j4).length : Int))))) rfl rfl rfl rfl ?_
        refine EL_nil (thn_n ?_)
        rcases csome h with ⟨z7, h⟩ | ⟨z7, h⟩
        ·refine E_ct z7 rfl ?_
         exact E_skip (thn_n (xF () _ _ ⟨sD, hfr, s9, t9, u9, v9, x9, y9, z9, aA, d7, e7, g7, i7, j7, l7⟩ h))
        ·refine E_cf z7 rfl ?_
         refine E_exit ?_
         refine thn_e ?_
         refine thn_e ?_
         refine blk_hit ?_
         obtain rfl := sinj h
         exact hQ _ _ ⟨sD, (i4), hfr, s9, t9, u9, v9, x9, y9, z9, aA, g7, i7, j7⟩
       ·rintro _ lK dM ⟨bI, hfr, s6, m2, t6, p2, bA, s2, cA, dA, m5, m1, m7, m3, o3, n5⟩ h
        obtain ⟨z3, hx, h⟩ := bsome h
        refine E_join (fun e w => ∃ (g : Gh) (d5 : Value), Fr gI wI g w ∧ e 1 = up1 ∧ RV g.m w (x1 : List FaultSight) up1 ∧ e 2 = p1 ∧ PT g.m w (x0 : FaultLoom) p1 ∧ e 7 = n0 ∧ RV g.m w (j0.1 : List FaultDamage) n0 ∧ e 8 = .bool (j0.2.1) ∧ e 9 = .int .i64 (j0.2.2) ∧ e 12 = q3 ∧ RV g.m w (j4 : List FaultDamage) q3 ∧ e 13 = d5 ∧ RV g.m w (z3 : List FaultDamage) d5 ∧ OS 3103 g w 62 (z3 : List FaultDamage) d5 ∧ e 14 = .int .i64 (y0)) (fun Q' hQ => ?_) (fun mK eM hR => ?_)
        ·replace h := hx
         clear hx
         refine E_block ?_
         refine E_seq (L_load (x := .tmp 2) Try.isAgg28 Try.sizeOf28 p2 fun tD cI yF => ?_)
         obtain ⟨eC, jB, h⟩ := bsome h
         have dI := PT_idx m1 jB
         refine L_load (x := .tmp 113) Try.isAgg62 Try.sizeOf62 dI fun uD eI zF => ?_
         obtain ⟨d6, aG, h⟩ := bsome h
         obtain ⟨p7, bG, h⟩ := bsome h
         refine E_drawL (g := bI) (n := 8) [(5, (fun v g w => RV g.m w d6 v)), (7, (fun v g w => v = .bool (p7)))] [0, 1, 2, 3, 4, 5, 6, 7] rfl mixed (by kernel_rfl) (⟨fun _ => up_rv, fun _ => up_eq _, trivial⟩) ?_
         refine L_ld (c := tD) rfl rfl .plain (fun _ _ h => h.ch) yF t6 ?_
         refine L_pur (c := q3) rfl rfl .plain (fun _ _ hd => P_move m5) ?_
         refine L_pur (c := .int .i64 (y0)) rfl rfl .plain (fun _ _ hd => P_move n5) ?_
         refine L_pur (c := ePtr q3 y0 5) rfl rfl .plain (fun _ _ hd => P_indexAddr (α := FaultDamage) Try.underlying29 Try.sizeOf62 rfl m1 rfl jB) ?_
         refine L_ld (c := uD) rfl rfl .plain (fun _ _ h => h.ch) zF rfl ?_
         refine L_do (φ := fun v g w => RV g.m w d6 v) rfl rfl .plain (fun g w hd => D_call (g := g) (vs := [tD, uD]) en36 (.cons rfl (.cons rfl .nil)) (wk36 (cI.ext hd.1) (eI.ext hd.1) aG) fun g' w' v hs hr => ⟨g', hs, hr⟩) (fun mA hv => ?_)
         obtain ⟨_, _, _, rq854⟩ := hv
         refine L_pur (c := up1) rfl rfl .plain (fun _ _ hd => P_move s6) ?_
         refine L_do (φ := fun v g w => v = .bool (p7)) rfl rfl .plain (fun g w hd => D_call (g := g) (vs := [mA, up1]) en35 (.cons rfl (.cons rfl .nil)) (wk35 (word (A := fun g w => RV g.m w d6 mA) 5 rfl rfl (deps_of hd)) (m2.ext hd.1) bG) fun g' w' v hs hr => ⟨g', hs, hr⟩) (fun gM hv => ?_)
         obtain ⟨_, _, _, rfl⟩ := hv
         refine L_nil fun nA hM hall => ?_
         have hs := hall.1
         have hfr := hfr.ext hs
         have m2 := m2.ext hs
         have p2 := p2.ext hs
         have s2 := s2.ext hs
         have m1 := m1.ext hs
         have m3 := m3.ext hs
         have o3 := o3.ext hs
         have iM := (word_all (A := fun g w => RV g.m w d6 mA) 5 rfl hall)
         clear hs hall
         refine EL_nil (thn_n ?_)
         rcases csome h with ⟨a8, h⟩ | ⟨a8, h⟩
         ·refine E_ct a8 rfl ?_
          refine E_region (EL_mv m7 rfl ?_)
          refine EL_mv m5 rfl ?_
          refine EL_mv n5 rfl ?_
          obtain ⟨eA, kB, h⟩ := bsome h
          refine EL_pur (v := ePtr q3 y0 5) (P_indexAddr (α := FaultDamage) Try.underlying29 Try.sizeOf62 rfl m1 rfl kB) .plain rfl ?_
          have iI := PT_idx m1 kB
          refine EL_do .plain rfl (D_load (g := nA) Try.isAgg62 Try.sizeOf62 rfl iI fun jI kI => ?_)
          refine EL_do .plain rfl (D_buildSlice (g := nA) 3123 (xs := ([eA] : List FaultDamage)) (vs := [jI]) Try.underlying29 Try.sizeOf62 Try.zeroValue62 rfl rfl (.cons rfl .nil) (RVs.cons kI RVs.nil) rfl rfl fun lI jM kM hs o879 mI hxt hfl => ?_)
          have hfr := hfr.stp hs
          have m2 := m2.stp hs
          have p2 := p2.stp hs
          have s2 := s2.stp hs
          have m1 := m1.stp hs
          have m3 := m3.stp hs
          have o3 := o3.stp hs rfl
          obtain ⟨iC, cG, h⟩ := bsome h
          refine EL_do .plain rfl (D_append (g := lI) (i := 3103) Try.underlying29 info_62 rfl rfl o3 m3 rfl mI cG fun nI lM vD hs o880 oI _ => ?_)
          have hfr := hfr.stp hs
          have m2 := m2.stp hs
          have p2 := p2.stp hs
          have s2 := s2.stp hs
          have m1 := m1.stp hs
          refine EL_at vD rfl rfl ?_
          refine EL_nil (blk_n ?_)
          obtain rfl := sinj h
          exact hQ _ _ ⟨nI, (vD), hfr, s6, m2, t6, p2, bA, s2, cA, dA, m5, m1, rfl, oI, o880, n5⟩
         ·refine E_cf a8 rfl ?_
          refine E_skip (blk_n ?_)
          obtain rfl := sinj h
          exact hQ _ _ ⟨nA, (i4), hfr, s6, m2, t6, p2, bA, s2, cA, dA, m5, m1, m7, m3, o3, n5⟩
        ·clear hx
         obtain ⟨pI, pB, hfr, xD, yD, zD, aE, bE, cE, dE, eE, qB, rB, sB, tB, uB, vB⟩ := hR
         refine E_region (EL_mv vB rfl ?_)
         refine EL_in (.int .i64 ((w64 (y0 + (1 : Int))))) rfl rfl rfl rfl ?_
         refine EL_at (.int .i64 ((w64 (y0 + (1 : Int))))) rfl rfl ?_
         exact EL_nil (thn_n (vF (z3, (w64 (y0 + (1 : Int)))) _ _ ⟨pI, (pB), hfr, xD, yD, zD, aE, bE, cE, dE, eE, qB, rB, sB, tB, uB, rfl⟩ h))
      ·clear hx
       obtain ⟨gE, n7, hfr, iE, e5, jE, u6, kE, lE, mE, nE, xB, yB, xI⟩ := hR
       obtain ⟨t5, hx, h⟩ := bsome h
       refine E_join (fun e w => ∃ (g : Gh) , Fr gI wI g w ∧ e 4 = .bool (t5)) (fun Q' hQ => ?_) (fun nK mM hR => ?_)
       ·replace h := hx
        clear hx
        refine E_region (EL_mv nE rfl ?_)
        refine EL_in (.bool ((j0.2.2 == (0 : Int)))) rfl rfl rfl rfl ?_
        refine EL_mw (.bool ((j0.2.2 == (0 : Int)))) rfl rfl ?_
        rcases csome h with ⟨i3, h⟩ | ⟨i3, h⟩
        ·refine EL_pur (v := n0) (P_move kE) (.yes2 rfl rfl i3) rfl ?_
         refine EL_pur (v := n7) (P_move xB) (.yes2 rfl rfl i3) rfl ?_
         obtain ⟨e6, dG, h⟩ := bsome h
         refine EL_do (.yes2 rfl rfl i3) rfl (D_call (g := gE) (vs := [n0, n7]) en22 (.cons rfl (.cons rfl .nil)) (wk22 lE yB dG) fun oA oK nM hs hr => ?_)
         have hfr := hfr.ext hs
         have e5 := e5.ext hs
         have u6 := u6.ext hs
         subst hr
         refine EL_pur (v := .bool (e6)) (P_pick (b := (j0.2.2 == (0 : Int))) rfl (pick_t i3 rfl)) .plain rfl ?_
         refine EL_mw (.bool (e6)) rfl rfl ?_
         rcases csome h with ⟨z1, h⟩ | ⟨z1, h⟩
         ·refine EL_pur (v := .bool (j0.2.1)) (P_move mE) (.yes2 rfl rfl z1) rfl ?_
          refine EL_do (.yes2 rfl rfl z1) rfl (D_load (g := oA) Try.isAgg28 Try.sizeOf28 jE u6 fun qI rI => ?_)
          obtain ⟨kC, eG, h⟩ := bsome h
          refine EL_do (.yes2 rfl rfl z1) rfl (D_call (g := oA) (vs := [qI, .slice none 0 0]) en26 (.cons rfl (.cons rfl .nil)) (wk26 rI RV_nil eG) fun sI pK tI hs hr => ?_)
          have hfr := hfr.ext hs
          have e5 := e5.ext hs
          have uI := hr
          refine EL_pur (v := up1) (P_move iE) (.yes2 rfl rfl z1) rfl ?_
          obtain ⟨q5, gG, h⟩ := bsome h
          refine EL_do (.yes2 rfl rfl z1) rfl (D_call (g := sI) (vs := [tI, up1]) en35 (.cons rfl (.cons rfl .nil)) (wk35 uI e5 gG) fun oE qK oM hs hr => ?_)
          have hfr := hfr.ext hs
          subst hr
          refine EL_pur (v := .bool ((j0.2.1 == q5))) (P_bool Try.underlying4 rfl rfl rfl) (.yes2 rfl rfl z1) rfl ?_
          refine EL_pur (v := .bool ((j0.2.1 == q5))) (P_pick (b := e6) rfl (pick_t z1 rfl)) .plain rfl ?_
          refine EL_mw (.bool ((j0.2.1 == q5))) rfl rfl ?_
          rcases csome h with ⟨a6, h⟩ | ⟨a6, h⟩
          ·obtain ⟨q7, hG, h⟩ := bsome h
           refine EL_do (.yes2 rfl rfl a6) rfl (D_call (g := oE) (vs := []) en15 .nil (wk15  hG) fun vI sK pM hs hr => ?_)
           have hfr := hfr.ext hs
           subst hr
           refine EL_pur (v := .bool (q7)) (P_pick (b := (j0.2.1 == q5)) rfl (pick_t a6 rfl)) .plain rfl ?_
           refine EL_at (.bool (q7)) rfl rfl ?_
           refine EL_nil ?_
           obtain rfl := sinj h
           exact hQ _ _ ⟨vI, hfr, rfl⟩
          ·refine EL_skip (.no2 rfl rfl a6 rfl) rfl ?_
           refine EL_pur (v := .bool false) (P_pick (b := (j0.2.1 == q5)) rfl (pick_f a6 rfl)) .plain rfl ?_
           refine EL_at (.bool false) rfl rfl ?_
           refine EL_nil ?_
           obtain rfl := sinj h
           exact hQ _ _ ⟨oE, hfr, rfl⟩
         ·refine EL_skip (.no2 rfl rfl z1 rfl) rfl ?_
          refine EL_skip (.no2 rfl rfl z1 rfl) rfl ?_
          refine EL_skip (.no2 rfl rfl z1 rfl) rfl ?_
          refine EL_skip (.no2 rfl rfl z1 rfl) rfl ?_
          refine EL_skip (.no2 rfl rfl z1 rfl) rfl ?_
          refine EL_skip (.no2 rfl rfl z1 rfl) rfl ?_
          refine EL_pur (v := .bool false) (P_pick (b := e6) rfl (pick_f z1 rfl)) .plain rfl ?_
          refine EL_dead 3 rfl ?_
          refine EL_at (.bool false) rfl rfl ?_
          refine EL_nil ?_
          obtain rfl := sinj h
          exact hQ _ _ ⟨oA, hfr, rfl⟩
        ·refine EL_skip (.no2 rfl rfl i3 rfl) rfl ?_
         refine EL_skip (.no2 rfl rfl i3 rfl) rfl ?_
         refine EL_skip (.no2 rfl rfl i3 rfl) rfl ?_
         refine EL_pur (v := .bool false) (P_pick (b := (j0.2.2 == (0 : Int))) rfl (pick_f i3 rfl)) .plain rfl ?_
         refine EL_dead 11 rfl ?_
         refine EL_at (.bool false) rfl rfl ?_
         refine EL_nil ?_
         obtain rfl := sinj h
         exact hQ _ _ ⟨gE, hfr, rfl⟩
       ·clear hx
        obtain ⟨qM, hfr, pE⟩ := hR
        refine E_ret ?_
        obtain rfl := sinj h
        exact end1 rfl rfl (show _ = .bool (t5) from pE) ⟨_, hfr, rfl⟩
end Go.Proofs.Ytpiaipiehjcflaa
