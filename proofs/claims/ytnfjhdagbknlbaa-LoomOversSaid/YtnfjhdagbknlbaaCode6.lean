import Derived.Test.YtnfjhdagbknlbaaCode5
set_option maxRecDepth 8000
set_option maxHeartbeats 4000000
namespace Go.Proofs.Ytnfjhdagbknlbaa
open Go.RowKit
/-- griffe/griffelaw08.LoomOvers -/
def f5 (x0 : LoomMill) (x1 : List LoomOrder) : Option (Bool) :=
 jn (σ := Unit) (fun (_ : Unit) =>
  (f15 x0).bind fun m6 =>
  (f16 x1).bind fun n6 =>
  (f30 m6 n6).bind fun j0 =>
  jn (σ := Unit) (fun (_ : Unit) =>
   (f20 x0 x1).bind fun z4 =>
   jn (σ := Int) (fun i3 =>
    Option.bind (α := Bool) (
     bif (j0.2.2 == i3) then
      bif (decide (j0.1 = (⟨0, 0⟩ : Span))) then
       bif (j0.2.1 == (0 : Int)) then
        (f14).bind fun i5 =>
        some (i5)
       else
        some (false)
      else
       some (false)
     else
      some (false)
     ) fun c4 =>
    some (c4)
    ) fun z5 =>
   bif (z4 == (0 : Int)) then
    (f31 x0 x1).bind fun j1 =>
    jn (σ := Unit) (fun (_ : Unit) =>
     z5 ((7 : Int))
     ) fun o6 =>
    bif j1.2.2 then
     Option.bind (α := Bool) (
      bif (j0.2.2 == (0 : Int)) then
       bif (decide (j0.1 = j1.1)) then
        bif (j0.2.1 == j1.2.1) then
         (f14).bind fun j5 =>
         some (j5)
        else
         some (false)
       else
        some (false)
      else
       some (false)
      ) fun d4 =>
     some (d4)
    else
     o6 ()
   else
    z5 (z4)
   ) fun v7 =>
  Option.bind (α := Bool) (
   (f18 m6 x0).bind fun y55 =>
   bif (!y55) then
    some (true)
   else
    (f19 n6 x1).bind fun c6 =>
    some ((!c6))
   ) fun u3 =>
  bif u3 then
   some (false)
  else
   v7 ()
  ) fun k8 =>
 (f12 x0 x1 ((7 : Int))).bind fun y11 =>
 bif y11 then
  (f14).bind fun d6 =>
  some (d6)
 else
  k8 ()
theorem wk5 {gI : Gh} {wI : World} {x0 : LoomMill} {x1 : List LoomOrder} {up0 : Value} (rp0 : RV gI.m wI x0 up0) {up1 : Value} (rp1 : RV gI.m wI x1 up1) {r : Bool} (h : f5 x0 x1 = some r) : Fn Try.prog 5 #[up0, up1] gI wI (fun _ _ v => v = .bool (r)) := by
 unfold f5 at h
 refine fn_of_E Try.func5 rfl (Nat.le_of_ble_eq_true rfl) fun g0 hm hfr => ?_
 have rp0 : RV g0.m wI x0 up0 := hm ▸ rp0
 have rp1 : RV g0.m wI x1 up1 := hm ▸ rp1
 show E _ 82 none _ _ _ _ _
 refine E_seq (E_region (EL_do .plain rfl (D_box (g := g0) rfl rp0 fun g1 w1 p1 hs q1 => ?_)))
 have hfr := hfr.ext hs
 have rp1 := rp1.ext hs
 refine EL_at (.bool false) rfl rfl ?_
 refine EL_nil (thn_n (E_joinC h (fun (s : Unit) e w => ∃ (g : Gh) , Fr gI wI g w ∧ e 1 = up1 ∧ RV g.m w (x1 : List LoomOrder) up1 ∧ e 2 = p1 ∧ PT g.m w (x0 : LoomMill) p1) (fun X8 k8 e9 h => ?_) ?_))
 ·refine E_seq (E_region (EL_do .plain rfl (D_load (g := g1) Try.isAgg24 Try.sizeOf24 rfl q1 fun v9 r9 => ?_)))
  refine EL_mw up1 rfl rfl ?_
  obtain ⟨y11, d8, h⟩ := bsome h
  refine EL_do .plain rfl (D_call (g := g1) (vs := [v9, up1, .int .i64 (7)]) en12 (.cons rfl (.cons rfl (.cons rfl .nil))) (wk12 r9 rp1 d8) fun x7 rA uB hs hr => ?_)
  have hfr := hfr.ext hs
  have rp1 := rp1.ext hs
  have q1 := q1.ext hs
  subst hr
  refine EL_nil (thn_n ?_)
  rcases csome h with ⟨a6, h⟩ | ⟨a6, h⟩
  ·refine E_ct a6 rfl ?_
   refine E_seq (E_region ?_)
   obtain ⟨d6, e8, h⟩ := bsome h
   refine EL_do .plain rfl (D_call (g := x7) (vs := []) en14 .nil (wk14  e8) fun vB sA xB hs hr => ?_)
   have hfr := hfr.ext hs
   subst hr
   refine EL_at (.bool (d6)) rfl rfl ?_
   refine EL_nil (thn_n (E_ret (thn_r ?_)))
   obtain rfl := sinj h
   exact end1 rfl rfl (show _ = .bool (d6) from rfl) ⟨_, hfr, rfl⟩
  ·refine E_cf a6 rfl ?_
   exact E_skip (thn_n (e9 () _ _ ⟨x7, hfr, rfl, rp1, rfl, q1⟩ h))
 ·rintro _ tA yB ⟨y7, hfr, o4, o0, p4, u0⟩ h
  refine E_seq (E_region (EL_do .plain rfl (D_load (g := y7) Try.isAgg24 Try.sizeOf24 p4 u0 fun g9 i9 => ?_)))
  obtain ⟨m6, g8, h⟩ := bsome h
  refine EL_do .plain rfl (D_call (g := y7) (vs := [g9]) en15 (.cons rfl .nil) (wk15 i9 g8) fun j9 uA k9 hs hr => ?_)
  have hfr := hfr.ext hs
  have o0 := o0.ext hs
  have u0 := u0.ext hs
  have u5 := hr
  refine EL_mv o4 rfl ?_
  obtain ⟨n6, i8, h⟩ := bsome h
  refine EL_do .plain rfl (D_call (g := j9) (vs := [up1]) en16 (.cons rfl .nil) (wk16 o0 i8) fun l9 vA x5 hs hr => ?_)
  have hfr := hfr.ext hs
  have o0 := o0.ext hs
  have u0 := u0.ext hs
  have u5 := u5.ext hs
  have o3 := hr
  refine EL_do .plain rfl (D_allocOc (g := l9) 2005 (⟨[], 0⟩ : LoomMill) Try.zeroValue24 (fun m w => ⟨_, (rep_two rep_nil rep_int), rfl⟩) fun z7 m9 n9 hs b21 cb => ?_)
  have hfr := hfr.stp hs
  have o0 := o0.stp hs
  have u0 := u0.stp hs
  have u5 := u5.stp hs
  have o3 := o3.stp hs
  have gA : OSF 2005 60500 0 z7 m9 3 24 ([] : List Int) n9 := cb.osf (by rfl)
  clear cb
  refine EL_do .plain rfl (D_storeOc (g := z7) (v := k9) Try.sizeOf24 rfl b21 rfl u5 fun a8 zB hs b22 cb => ?_)
  clear cb
  have hfr := hfr.stp hs
  have o0 := o0.stp hs
  have u0 := u0.stp hs
  have o3 := o3.stp hs
  refine EL_at x5 rfl rfl ?_
  refine EL_nil (thn_n (E_seq (E_region (EL_do .plain rfl (D_loadO (g := a8) Try.isAgg24 Try.sizeOf24 rfl b22 fun o9 p9 => ?_)))))
  refine EL_mw x5 rfl rfl ?_
  obtain ⟨j0, j8, h⟩ := bsome h
  refine EL_do .plain rfl (D_call (g := a8) (vs := [o9, x5]) en30 (.cons rfl (.cons rfl .nil)) (wk30 p9 o3 j8) fun q9 xA aC hs hr => ?_)
  have hfr := hfr.ext hs
  have o0 := o0.ext hs
  have u0 := u0.ext hs
  have o3 := o3.ext hs
  have b22 := b22.ext hs
  obtain ⟨l5, iA, jA, rfl, m5, rfl, rfl⟩ := hr
  refine EL_mw (.tuple #[l5, .int .i64 (j0.2.1), .int .i64 (j0.2.2)]) rfl rfl ?_
  refine EL_pur (v := l5) (P_extract rfl rfl) .plain rfl ?_
  refine EL_pur (v := .int .i64 (j0.2.1)) (P_extract rfl rfl) .plain rfl ?_
  refine EL_pur (v := .int .i64 (j0.2.2)) (P_extract rfl rfl) .plain rfl ?_
  refine EL_do .plain rfl (D_allocOc (g := q9) 2007 (⟨0, 0⟩ : Span) Try.zeroValue48 (fun m w => ⟨_, (rep_two rep_int rep_int), rfl⟩) fun t9 bC n4 hs b26 cb => ?_)
  have hfr := hfr.stp hs
  have o0 := o0.stp hs
  have u0 := u0.stp hs
  have o3 := o3.stp hs
  have b22 := b22.stp hs rfl
  have m5 := m5.stp hs
  clear cb
  refine EL_do .plain rfl (D_storeOc (g := t9) (v := l5) Try.sizeOf48 rfl b26 rfl m5 fun p6 cC hs b27 cb => ?_)
  clear cb
  have hfr := hfr.stp hs
  have o0 := o0.stp hs
  have u0 := u0.stp hs
  have o3 := o3.stp hs
  have b22 := b22.stp hs rfl
  refine EL_at (.int .i64 (j0.2.1)) rfl rfl ?_
  refine EL_at (.int .i64 (j0.2.2)) rfl rfl ?_
  refine EL_nil (thn_n (E_joinC h (fun (s : Unit) e w => ∃ (g : Gh) , Fr gI wI g w ∧ e 1 = up1 ∧ RV g.m w (x1 : List LoomOrder) up1 ∧ e 2 = p1 ∧ PT g.m w (x0 : LoomMill) p1 ∧ e 7 = n4 ∧ OB 2007 g w 48 (j0.1 : Span) n4 ∧ e 8 = .int .i64 (j0.2.1) ∧ e 9 = .int .i64 (j0.2.2)) (fun X44 v7 l8 h => ?_) ?_))
  ·obtain ⟨u3, hx, h⟩ := bsome h
   refine E_join (fun e w => ∃ (g : Gh) , Fr gI wI g w ∧ e 1 = up1 ∧ RV g.m w (x1 : List LoomOrder) up1 ∧ e 2 = p1 ∧ PT g.m w (x0 : LoomMill) p1 ∧ e 7 = n4 ∧ OB 2007 g w 48 (j0.1 : Span) n4 ∧ e 8 = .int .i64 (j0.2.1) ∧ e 9 = .int .i64 (j0.2.2) ∧ e 38 = .bool (u3)) (fun Q' hQ => ?_) (fun yA dC hR => ?_)
   ·replace h := hx
    clear hx
    refine E_region (EL_do .plain rfl (D_loadO (g := p6) Try.isAgg24 Try.sizeOf24 rfl b22 fun u9 x9 => ?_))
    refine EL_do .plain rfl (D_load (g := p6) Try.isAgg24 Try.sizeOf24 p4 u0 fun y9 z9 => ?_)
    obtain ⟨y55, m8, h⟩ := bsome h
    refine EL_do .plain rfl (D_call (g := p6) (vs := [u9, y9]) en18 (.cons rfl (.cons rfl .nil)) (wk18 x9 z9 m8) fun b8 zA eC hs hr => ?_)
    have hfr := hfr.ext hs
    have o0 := o0.ext hs
    have u0 := u0.ext hs
    have o3 := o3.ext hs
    have b27 := b27.ext hs
    subst hr
    refine EL_pur (v := .bool (!y55)) (P_not rfl) .plain rfl ?_
    refine EL_mw (.bool (!y55)) rfl rfl ?_
    rcases csome h with ⟨j3, h⟩ | ⟨j3, h⟩
    ·refine EL_skip (.no2 rfl rfl j3 rfl) rfl ?_
     refine EL_skip (.no2 rfl rfl j3 rfl) rfl ?_
     refine EL_skip (.no2 rfl rfl j3 rfl) rfl ?_
     refine EL_skip (.no2 rfl rfl j3 rfl) rfl ?_
     refine EL_pur (v := .bool true) (P_pick (b := (!y55)) rfl (pick_t j3 rfl)) .plain rfl ?_
     refine EL_nil ?_
     obtain rfl := sinj h
     exact hQ _ _ ⟨b8, hfr, o4, o0, p4, u0, rfl, b27, rfl, rfl, rfl⟩
    ·refine EL_pur (v := x5) (P_move rfl) (.yes2 rfl rfl j3) rfl ?_
     refine EL_pur (v := up1) (P_move o4) (.yes2 rfl rfl j3) rfl ?_
     obtain ⟨c6, n8, h⟩ := bsome h
     refine EL_do (.yes2 rfl rfl j3) rfl (D_call (g := b8) (vs := [x5, up1]) en19 (.cons rfl (.cons rfl .nil)) (wk19 o3 o0 n8) fun aA aB iC hs hr => ?_)
     have hfr := hfr.ext hs
     have o0 := o0.ext hs
     have u0 := u0.ext hs
     have b27 := b27.ext hs
     subst hr
     refine EL_pur (v := .bool (!c6)) (P_not rfl) (.yes2 rfl rfl j3) rfl ?_
     refine EL_pur (v := .bool (!c6)) (P_pick (b := (!y55)) rfl (pick_f j3 rfl)) .plain rfl ?_
     refine EL_nil ?_
     obtain rfl := sinj h
     exact hQ _ _ ⟨aA, hfr, o4, o0, p4, u0, rfl, b27, rfl, rfl, rfl⟩
   ·clear hx
    obtain ⟨bA, hfr, e7, g7, i7, j7, l7, m7, n7, o7, y5⟩ := hR
    rcases csome h with ⟨b6, h⟩ | ⟨b6, h⟩
    ·refine E_cond_true (Eq.trans (show ev _ _ = .bool (u3) from y5) (congrArg Value.bool b6)) ?_
     refine E_seq (E_region (EL_at (.bool false) rfl rfl ?_))
     refine EL_nil (thn_n (E_ret (thn_r ?_)))
     obtain rfl := sinj h
     exact end1 rfl rfl (show _ = .bool false from rfl) ⟨_, hfr, rfl⟩
    ·refine E_cond_false (Eq.trans (show ev _ _ = .bool (u3) from y5) (congrArg Value.bool b6)) ?_
     exact E_skip (thn_n (l8 () _ _ ⟨bA, hfr, e7, g7, i7, j7, l7, m7, n7, o7⟩ h))
  ·rintro _ bB jC ⟨c8, hfr, i6, u4, j6, x4, n5, z1, o5, p5⟩ h
   refine E_seq (E_region (EL_do .plain rfl (D_load (g := c8) Try.isAgg24 Try.sizeOf24 j6 x4 fun v62 cA => ?_)))
   refine EL_mv i6 rfl ?_
   obtain ⟨z4, o8, h⟩ := bsome h
   refine EL_do .plain rfl (D_call (g := c8) (vs := [v62, up1]) en20 (.cons rfl (.cons rfl .nil)) (wk20 cA u4 o8) fun q6 cB kC hs hr => ?_)
   have hfr := hfr.ext hs
   have u4 := u4.ext hs
   have x4 := x4.ext hs
   have z1 := z1.ext hs
   subst hr
   refine EL_at (.int .i64 (z4)) rfl rfl ?_
   refine EL_nil (thn_n (E_joinC h (fun (s : Int) e w => ∃ (g : Gh) , Fr gI wI g w ∧ e 7 = n4 ∧ OB 2007 g w 48 (j0.1 : Span) n4 ∧ e 8 = .int .i64 (j0.2.1) ∧ e 9 = .int .i64 (j0.2.2) ∧ e 10 = .int .i64 (s)) (fun X105 z5 k6 h => ?_) ?_))
   ·refine E_seq (E_region (EL_mw (.int .i64 (z4)) rfl rfl ?_))
    refine EL_in (.bool ((z4 == (0 : Int)))) rfl rfl rfl rfl ?_
    refine EL_nil (thn_n ?_)
    rcases csome h with ⟨q5, h⟩ | ⟨q5, h⟩
    ·refine E_ct q5 rfl ?_
     refine E_seq (E_region (EL_do .plain rfl (D_load (g := q6) Try.isAgg24 Try.sizeOf24 j6 x4 fun p8 q8 => ?_)))
     refine EL_mv i6 rfl ?_
     obtain ⟨j1, p7, h⟩ := bsome h
     refine EL_do .plain rfl (D_call (g := q6) (vs := [p8, up1]) en31 (.cons rfl (.cons rfl .nil)) (wk31 q8 u4 p7) fun r8 kA dB hs hr => ?_)
     have hfr := hfr.ext hs
     have z1 := z1.ext hs
     obtain ⟨c5, dA, eA, rfl, d5, rfl, rfl⟩ := hr
     refine EL_mw (.tuple #[c5, .int .i64 (j1.2.1), .bool (j1.2.2)]) rfl rfl ?_
     refine EL_pur (v := c5) (P_extract rfl rfl) .plain rfl ?_
     refine EL_pur (v := .int .i64 (j1.2.1)) (P_extract rfl rfl) .plain rfl ?_
     refine EL_pur (v := .bool (j1.2.2)) (P_extract rfl rfl) .plain rfl ?_
     refine EL_do .plain rfl (D_allocOc (g := r8) 2011 (⟨0, 0⟩ : Span) Try.zeroValue48 (fun m w => ⟨_, (rep_two rep_int rep_int), rfl⟩) fun t8 eB iB hs b110 cb => ?_)
     have hfr := hfr.stp hs
     have z1 := z1.stp hs rfl
     have d5 := d5.stp hs
     clear cb
     refine EL_do .plain rfl (D_storeOc (g := t8) (v := c5) Try.sizeOf48 rfl b110 rfl d5 fun z3 jB hs b111 cb => ?_)
     clear cb
     have hfr := hfr.stp hs
     have z1 := z1.stp hs rfl
     refine EL_at (.int .i64 (j1.2.1)) rfl rfl ?_
     refine EL_at (.bool (j1.2.2)) rfl rfl ?_
     refine EL_nil (thn_n (E_joinC h (fun (s : Unit) e w => ∃ (g : Gh) , Fr gI wI g w ∧ e 7 = n4 ∧ OB 2007 g w 48 (j0.1 : Span) n4 ∧ e 8 = .int .i64 (j0.2.1) ∧ e 9 = .int .i64 (j0.2.2)) (fun X128 o6 q7 h => ?_) ?_))
     ·refine E_seq (E_region (EL_mw (.bool (j1.2.2)) rfl rfl ?_))
      refine EL_nil (thn_n ?_)
      rcases csome h with ⟨t5, h⟩ | ⟨t5, h⟩
      ·refine E_ct t5 rfl ?_
       obtain ⟨d4, hx, h⟩ := bsome h
       refine E_join (fun e w => ∃ (g : Gh) , Fr gI wI g w ∧ e 4 = .bool (d4)) (fun Q' hQ => ?_) (fun lA kB hR => ?_)
       ·replace h := hx
        clear hx
        refine E_region (EL_mv p5 rfl ?_)
        refine EL_in (.bool ((j0.2.2 == (0 : Int)))) rfl rfl rfl rfl ?_
        refine EL_mw (.bool ((j0.2.2 == (0 : Int)))) rfl rfl ?_
        rcases csome h with ⟨j2, h⟩ | ⟨j2, h⟩
        ·refine EL_do (.yes2 rfl rfl j2) rfl (D_loadO (g := z3) Try.isAgg48 Try.sizeOf48 n5 z1 fun lB v8 => ?_)
         refine EL_do (.yes2 rfl rfl j2) rfl (D_loadO (g := z3) Try.isAgg48 Try.sizeOf48 rfl b111 fun mB x8 => ?_)
         refine EL_pur (v := .bool ((decide (j0.1 = j1.1)))) (P_seq seq_48 rfl eg_48 rfl rfl v8 x8) (.yes2 rfl rfl j2) rfl ?_
         refine EL_pur (v := .bool ((decide (j0.1 = j1.1)))) (P_pick (b := (j0.2.2 == (0 : Int))) rfl (pick_t j2 rfl)) .plain rfl ?_
         refine EL_mw (.bool ((decide (j0.1 = j1.1)))) rfl rfl ?_
         rcases csome h with ⟨z2, h⟩ | ⟨z2, h⟩
         ·refine EL_pur (v := .int .i64 (j0.2.1)) (P_move o5) (.yes2 rfl rfl z2) rfl ?_
          refine EL_pur (v := .int .i64 (j1.2.1)) (P_move rfl) (.yes2 rfl rfl z2) rfl ?_
          refine EL_pur (v := .bool ((j0.2.1 == j1.2.1))) (P_int rfl rfl rfl) (.yes2 rfl rfl z2) rfl ?_
          refine EL_pur (v := .bool ((j0.2.1 == j1.2.1))) (P_pick (b := (decide (j0.1 = j1.1))) rfl (pick_t z2 rfl)) .plain rfl ?_
          refine EL_mw (.bool ((j0.2.1 == j1.2.1))) rfl rfl ?_
          rcases csome h with ⟨i4, h⟩ | ⟨i4, h⟩
          ·obtain ⟨j5, r7, h⟩ := bsome h
           refine EL_do (.yes2 rfl rfl i4) rfl (D_call (g := z3) (vs := []) en14 .nil (wk14  r7) fun y8 mA nB hs hr => ?_)
           have hfr := hfr.ext hs
           subst hr
           refine EL_pur (v := .bool (j5)) (P_pick (b := (j0.2.1 == j1.2.1)) rfl (pick_t i4 rfl)) .plain rfl ?_
           refine EL_at (.bool (j5)) rfl rfl ?_
           refine EL_nil ?_
           obtain rfl := sinj h
           exact hQ _ _ ⟨y8, hfr, rfl⟩
          ·refine EL_skip (.no2 rfl rfl i4 rfl) rfl ?_
           refine EL_pur (v := .bool false) (P_pick (b := (j0.2.1 == j1.2.1)) rfl (pick_f i4 rfl)) .plain rfl ?_
           refine EL_at (.bool false) rfl rfl ?_
           refine EL_nil ?_
           obtain rfl := sinj h
           exact hQ _ _ ⟨z3, hfr, rfl⟩
         ·refine EL_skip (.no2 rfl rfl z2 rfl) rfl ?_
          refine EL_skip (.no2 rfl rfl z2 rfl) rfl ?_
          refine EL_skip (.no2 rfl rfl z2 rfl) rfl ?_
          refine EL_pur (v := .bool false) (P_pick (b := (decide (j0.1 = j1.1))) rfl (pick_f z2 rfl)) .plain rfl ?_
          refine EL_dead 3 rfl ?_
          refine EL_at (.bool false) rfl rfl ?_
          refine EL_nil ?_
          obtain rfl := sinj h
          exact hQ _ _ ⟨z3, hfr, rfl⟩
        ·refine EL_skip (.no2 rfl rfl j2 rfl) rfl ?_
         refine EL_skip (.no2 rfl rfl j2 rfl) rfl ?_
         refine EL_skip (.no2 rfl rfl j2 rfl) rfl ?_
         refine EL_pur (v := .bool false) (P_pick (b := (j0.2.2 == (0 : Int))) rfl (pick_f j2 rfl)) .plain rfl ?_
         refine EL_dead 8 rfl ?_
         refine EL_at (.bool false) rfl rfl ?_
         refine EL_nil ?_
         obtain rfl := sinj h
         exact hQ _ _ ⟨z3, hfr, rfl⟩
       ·clear hx
        obtain ⟨oB, hfr, r6⟩ := hR
        refine E_ret (thn_r ?_)
        refine thn_r ?_
        obtain rfl := sinj h
        exact end1 rfl rfl (show _ = .bool (d4) from r6) ⟨_, hfr, rfl⟩
      ·refine E_cf t5 rfl ?_
       exact E_skip (thn_n (q7 () _ _ ⟨z3, hfr, n5, z1, o5, p5⟩ h))
     ·rintro _ nA pB ⟨z8, hfr, t6, u6, v6, x6⟩ h
      refine E_region (EL_at (.int .i64 (7)) rfl rfl ?_)
      exact EL_nil (thn_n (k6 ((7 : Int)) _ _ ⟨z8, hfr, t6, u6, v6, x6, rfl⟩ h))
    ·refine E_cf q5 rfl ?_
     exact E_skip (thn_n (k6 (z4) _ _ ⟨q6, hfr, n5, z1, o5, p5, rfl⟩ h))
   ·rintro i3 oA a9 ⟨m4, hfr, y6, z6, a7, b7, l6⟩ h
    obtain ⟨c4, hx, h⟩ := bsome h
    refine E_join (fun e w => ∃ (g : Gh) , Fr gI wI g w ∧ e 4 = .bool (c4)) (fun Q' hQ => ?_) (fun pA qB hR => ?_)
    ·replace h := hx
     clear hx
     refine E_region (EL_mv b7 rfl ?_)
     refine EL_mv l6 rfl ?_
     refine EL_in (.bool ((j0.2.2 == i3))) rfl rfl rfl rfl ?_
     refine EL_mw (.bool ((j0.2.2 == i3))) rfl rfl ?_
     rcases csome h with ⟨d3, h⟩ | ⟨d3, h⟩
     ·refine EL_do (.yes2 rfl rfl d3) rfl (D_loadO (g := m4) Try.isAgg48 Try.sizeOf48 y6 z6 fun rB b9 => ?_)
      have c7 : RV m4.m a9 (⟨0, 0⟩ : Span) (.agg (setCh [[.int .i64 0], [.int .i64 0]] []).flatten.toArray) := RV_build rfl (rep_pair (rep_int) (rep_last (rep_int)))
      generalize t7 : (Value.agg (setCh [[.int .i64 0], [.int .i64 0]] []).flatten.toArray) = c9 at c7
      refine EL_pur (v := c9) (t7 ▸ P_build (vs := []) [[.int .i64 0], [.int .i64 0]] lay_48 rfl rfl .nil trivial) (.yes2 rfl rfl d3) rfl ?_
      refine EL_pur (v := .bool ((decide (j0.1 = (⟨0, 0⟩ : Span))))) (P_seq seq_48 rfl eg_48 rfl rfl b9 c7) (.yes2 rfl rfl d3) rfl ?_
      refine EL_pur (v := .bool ((decide (j0.1 = (⟨0, 0⟩ : Span))))) (P_pick (b := (j0.2.2 == i3)) rfl (pick_t d3 rfl)) .plain rfl ?_
      refine EL_mw (.bool ((decide (j0.1 = (⟨0, 0⟩ : Span))))) rfl rfl ?_
      rcases csome h with ⟨p3, h⟩ | ⟨p3, h⟩
      ·refine EL_pur (v := .int .i64 (j0.2.1)) (P_move a7) (.yes2 rfl rfl p3) rfl ?_
       refine EL_pur (v := .bool ((j0.2.1 == (0 : Int)))) (P_int rfl rfl rfl) (.yes2 rfl rfl p3) rfl ?_
       refine EL_pur (v := .bool ((j0.2.1 == (0 : Int)))) (P_pick (b := (decide (j0.1 = (⟨0, 0⟩ : Span)))) rfl (pick_t p3 rfl)) .plain rfl ?_
       refine EL_mw (.bool ((j0.2.1 == (0 : Int)))) rfl rfl ?_
       rcases csome h with ⟨j4, h⟩ | ⟨j4, h⟩
       ·obtain ⟨i5, u7, h⟩ := bsome h
        refine EL_do (.yes2 rfl rfl j4) rfl (D_call (g := m4) (vs := []) en14 .nil (wk14  u7) fun d9 qA sB hs hr => ?_)
        have hfr := hfr.ext hs
        subst hr
        refine EL_pur (v := .bool (i5)) (P_pick (b := (j0.2.1 == (0 : Int))) rfl (pick_t j4 rfl)) .plain rfl ?_
        refine EL_at (.bool (i5)) rfl rfl ?_
        refine EL_nil ?_
        obtain rfl := sinj h
        exact hQ _ _ ⟨d9, hfr, rfl⟩
       ·refine EL_skip (.no2 rfl rfl j4 rfl) rfl ?_
        refine EL_pur (v := .bool false) (P_pick (b := (j0.2.1 == (0 : Int))) rfl (pick_f j4 rfl)) .plain rfl ?_
        refine EL_at (.bool false) rfl rfl ?_
        refine EL_nil ?_
        obtain rfl := sinj h
        exact hQ _ _ ⟨m4, hfr, rfl⟩
      ·refine EL_skip (.no2 rfl rfl p3 rfl) rfl ?_
       refine EL_skip (.no2 rfl rfl p3 rfl) rfl ?_
       refine EL_pur (v := .bool false) (P_pick (b := (decide (j0.1 = (⟨0, 0⟩ : Span)))) rfl (pick_f p3 rfl)) .plain rfl ?_
       refine EL_dead 3 rfl ?_
       refine EL_at (.bool false) rfl rfl ?_
       refine EL_nil ?_
       obtain rfl := sinj h
       exact hQ _ _ ⟨m4, hfr, rfl⟩
     ·refine EL_skip (.no2 rfl rfl d3 rfl) rfl ?_
      refine EL_skip (.no2 rfl rfl d3 rfl) rfl ?_
      refine EL_skip (.no2 rfl rfl d3 rfl) rfl ?_
      refine EL_pur (v := .bool false) (P_pick (b := (j0.2.2 == i3)) rfl (pick_f d3 rfl)) .plain rfl ?_
      refine EL_dead 7 rfl ?_
      refine EL_at (.bool false) rfl rfl ?_
      refine EL_nil ?_
      obtain rfl := sinj h
      exact hQ _ _ ⟨m4, hfr, rfl⟩
    ·clear hx
     obtain ⟨tB, hfr, d7⟩ := hR
     refine E_ret ?_
     obtain rfl := sinj h
     exact end1 rfl rfl (show _ = .bool (c4) from d7) ⟨_, hfr, rfl⟩
end Go.Proofs.Ytnfjhdagbknlbaa
