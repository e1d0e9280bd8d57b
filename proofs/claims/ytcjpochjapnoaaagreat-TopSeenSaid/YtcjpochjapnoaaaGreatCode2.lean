import Derived.Test.YtcjpochjapnoaaaGreatCode1
set_option maxRecDepth 8000
set_option maxHeartbeats 4000000
namespace Go.Proofs.YtcjpochjapnoaaaGreat
open Go.RowKit
def f120 (x0 : FaultFaultLoom) (x1 : FaultDamage) (x2 : List Int) : Option ((List Int)) :=
 (rem64 (w64 ((x1).Pick + (1 : Int))) ((x2).length : Int)).bind fun y5 =>
 (idx x2 (x1).Pick).bind fun y8 =>
 (idx x2 y5).bind fun o0 =>
 (idx x2 (x1).Pick).bind fun u3 =>
 (idx ((List.set x2 (Int.toNat (x1).Pick) o0)) y5).bind fun z3 =>
 some ((List.set ((List.set x2 (Int.toNat (x1).Pick) o0)) (Int.toNat y5) y8))
theorem en120 : Enters Tryz.prog 120 := enters_of Tryz.func120 (by kernel_rfl) rfl
theorem wk120 {iI : Nat} {gI : Gh} {wI : World} {x0 : FaultFaultLoom} {x1 : FaultDamage} {x2 : List Int} {up0 : Value} (rp0 : RV gI.m wI x0 up0) {up1 : Value} (rp1 : RV gI.m wI x1 up1) {up2 : Value} (mp2 : OM iI gI wI 3 x2 up2) {up3 : Value} {r : (List Int)} (h : f120 x0 x1 x2 = some r) : FnM Tryz.prog 120 #[up0, up1, up2, up3] iI gI wI (fun g w v => v = .tuple #[] ∧ OM iI g w 3 r up2) := by
 unfold f120 at h
 refine fnM_of_E Tryz.func120 rfl (Nat.le_of_ble_eq_true rfl) fun g0 hm hfr => ?_
 have d3 := mp2
 replace mp2 := mp2.enter
 rw [← hm] at mp2
 replace hm : g0.m = gI.m := by rw [hm]
 have rp0 : RV g0.m wI x0 up0 := hm ▸ rp0
 have rp1 : RV g0.m wI x1 up1 := hm ▸ rp1
 show E _ 35 none _ _ _ _ _
 refine E_seq (E_region (EL_do .plain rfl (D_box (g := g0) rfl rp0 fun g1 w1 p1 hs q1 => ?_)))
 have hfr := hfr.ext hs
 have rp1 := rp1.ext hs
 have mp2 := mp2.ext hs
 refine EL_do .plain rfl (D_box (g := g1) rfl rp1 fun g2 w2 p2 hs q2 => ?_)
 have hfr := hfr.ext hs
 have mp2 := mp2.ext hs
 refine EL_nil (thn_n (E_seq (E_region (EL_p (fPtr p2 1) (P_fieldAddr at_39_1 rfl (PT.ptr q2)) rfl ?_))))
 have q3 := PT_field (part_FaultDamage_1).1 q2
 refine EL_do .plain rfl (D_load (g := g2) Tryz.isAgg3 Tryz.sizeOf3 rfl q3 fun v4 r4 => ?_)
 obtain rfl := RV_int.1 r4
 refine EL_in (.int .i64 ((w64 ((x1).Pick + (1 : Int))))) rfl rfl rfl rfl ?_
 refine EL_mw up2 rfl rfl ?_
 refine EL_p (.int .i64 ((x2).length : Int)) (P_lenM Tryz.underlying25 rfl mp2) rfl ?_
 obtain ⟨y5, hy5, h⟩ := bsome h
 refine EL_p (.int .i64 (y5)) (P_int rfl rfl (congrArg (Option.map (Value.int .i64)) hy5)) rfl ?_
 refine EL_at (.int .i64 (y5)) rfl rfl ?_
 refine EL_nil (thn_n (E_seq ?_))
 have q6 := PT_field (part_FaultDamage_1).1 q2
 refine L_load (x := .tmp 18) Tryz.isAgg3 Tryz.sizeOf3 q6 fun v7 r7 hl7 => ?_
 obtain rfl := RV_int.1 r7
 obtain ⟨y8, i3, h⟩ := bsome h
 refine L_loadM (x := .tmp 20) Tryz.isAgg3 Tryz.sizeOf3 mp2 i3 fun v9 r9 z4 => ?_
 obtain rfl := RV_int.1 r9
 obtain ⟨o0, u0, h⟩ := bsome h
 refine L_loadM (x := .tmp 24) Tryz.isAgg3 Tryz.sizeOf3 mp2 u0 fun x5 i5 o3 => ?_
 obtain rfl := RV_int.1 i5
 refine E_drawL (g := g2) (n := 11) [] [0, 1, 2, 3, 4, 5, 6, 7, 8, 9, 10] rfl mixed (by kernel_rfl) trivial ?_
 refine L_p up2 rfl rfl (P_move rfl) ?_
 refine L_p (fPtr p2 1) rfl rfl (P_fieldAddr at_39_1 rfl (PT.ptr q2)) ?_
 refine L_ld (c := .int .i64 ((x1).Pick)) rfl rfl .plain (fun _ _ h => h.ch) hl7 rfl ?_
 refine L_p (ePtr up2 (x1).Pick 1) rfl rfl (P_indexAddrM (α := Int) Tryz.underlying25 Tryz.sizeOf3 rfl mp2 rfl i3) ?_
 refine L_ld (c := .int .i64 (y8)) rfl rfl .plain (fun _ _ h => ⟨h.ch, fun b hb _ => h.below.block b hb⟩) z4 rfl ?_
 refine L_p up2 rfl rfl (P_move rfl) ?_
 refine L_p (.int .i64 (y5)) rfl rfl (P_move rfl) ?_
 refine L_p (ePtr up2 y5 1) rfl rfl (P_indexAddrM (α := Int) Tryz.underlying25 Tryz.sizeOf3 rfl mp2 rfl u0) ?_
 refine L_ld (c := .int .i64 (o0)) rfl rfl .plain (fun _ _ h => ⟨h.ch, fun b hb _ => h.below.block b hb⟩) o3 rfl ?_
 refine L_p (.int .i64 (y8)) rfl rfl (P_assign rfl) ?_
 refine L_p (.int .i64 (o0)) rfl rfl (P_assign rfl) ?_
 refine L_nl fun j3 i6 hs => ?_
 have hfr := hfr.ext hs
 have mp2 := mp2.ext hs
 have q2 := q2.ext hs
 clear hs
 refine EL_nil (thn_n (E_seq (E_region (EL_mw up2 rfl rfl ?_))))
 refine EL_p (fPtr p2 1) (P_fieldAddr at_39_1 rfl (PT.ptr q2)) rfl ?_
 have l5 := PT_field (part_FaultDamage_1).1 q2
 refine EL_do .plain rfl (D_load (g := j3) Tryz.isAgg3 Tryz.sizeOf3 rfl l5 fun j6 q5 => ?_)
 obtain rfl := RV_int.1 q5
 refine EL_mw (.int .i64 (o0)) rfl rfl ?_
 obtain ⟨u3, j1, h⟩ := bsome h
 refine EL_p (ePtr up2 (x1).Pick 1) (P_indexAddrM (α := Int) Tryz.underlying25 Tryz.sizeOf3 rfl mp2 rfl j1) rfl ?_
 refine EL_do .plain rfl (D_storeM (g := j3) (α := Int) (a' := o0) Tryz.sizeOf3 rfl mp2 j1 rfl (RV_int.2 rfl) fun t5 v6 hs b40 => ?_)
 have hfr := hfr.stp hs
 refine EL_nil (thn_n (E_region (EL_mw up2 rfl rfl ?_)))
 refine EL_mw (.int .i64 (y5)) rfl rfl ?_
 refine EL_mw (.int .i64 (y8)) rfl rfl ?_
 obtain ⟨z3, z2, h⟩ := bsome h
 refine EL_p (ePtr up2 y5 1) (P_indexAddrM (α := Int) Tryz.underlying25 Tryz.sizeOf3 rfl b40 rfl z2) rfl ?_
 refine EL_do .plain rfl (D_storeM (g := t5) (α := Int) (a' := y8) Tryz.sizeOf3 rfl b40 z2 rfl (RV_int.2 rfl) fun x6 y6 hs b42 => ?_)
 have hfr := hfr.stp hs
 refine EL_nil ?_
 obtain rfl := sinj h
 exact end0n rfl rfl ⟨_, hfr, rfl, d3.back b42⟩
def f121 (x0 : FaultFaultLoom) (x1 : FaultDamage) (x3 : List (Int × Bool)) : Option ((List (Int × Bool))) :=
 some ((mset x3 ((x1).Warp) true))
theorem en121 : Enters Tryz.prog 121 := enters_of Tryz.func121 (by kernel_rfl) rfl
theorem wk121 {iI : Nat} {gI : Gh} {wI : World} {x0 : FaultFaultLoom} {x1 : FaultDamage} {x3 : List (Int × Bool)} {up0 : Value} (rp0 : RV gI.m wI x0 up0) {up1 : Value} (rp1 : RV gI.m wI x1 up1) {up2 : Value} {up3 : Value} (mp3 : MP (Value.int .i64) iI gI wI x3 up3) {r : (List (Int × Bool))} (h : f121 x0 x1 x3 = some r) : FnM Tryz.prog 121 #[up0, up1, up2, up3] iI gI wI (fun g w v => v = .tuple #[] ∧ MP (Value.int .i64) iI g w r up3) := by
 unfold f121 at h
 refine fnM_of_E Tryz.func121 rfl (Nat.le_of_ble_eq_true rfl) fun g0 hm hfr => ?_
 have o0 := mp3
 replace mp3 := mp3.enter
 rw [← hm] at mp3
 replace hm : g0.m = gI.m := by rw [hm]
 have rp0 : RV g0.m wI x0 up0 := hm ▸ rp0
 have rp1 : RV g0.m wI x1 up1 := hm ▸ rp1
 show E _ 11 none _ _ _ _ _
 refine E_seq (E_region (EL_do .plain rfl (D_box (g := g0) rfl rp0 fun g1 w1 p1 hs q1 => ?_)))
 have hfr := hfr.ext hs
 have rp1 := rp1.ext hs
 have mp3 := mp3.ext hs
 refine EL_do .plain rfl (D_box (g := g1) rfl rp1 fun g2 w2 p2 hs q2 => ?_)
 have hfr := hfr.ext hs
 have mp3 := mp3.ext hs
 refine EL_nil (thn_n (E_region (EL_mw up3 rfl rfl ?_)))
 refine EL_p (fPtr p2 3) (P_fieldAddr at_39_3 rfl (PT.ptr q2)) rfl ?_
 have q3 := PT_field (part_FaultDamage_3).1 q2
 refine EL_do .plain rfl (D_load (g := g2) Tryz.isAgg3 Tryz.sizeOf3 rfl q3 fun v4 r4 => ?_)
 obtain rfl := RV_int.1 r4
 refine EL_do .plain rfl (D_mapUpdate (g := g2) Tryz.underlying166 key_3 rfl mp3 rfl rfl (RV_bool.2 rfl) fun g5 w5 hs m5 => ?_)
 have hfr := hfr.stp hs
 refine EL_nil ?_
 obtain rfl := sinj h
 exact end0n rfl rfl ⟨_, hfr, rfl, o0.back m5⟩
def fvF (f : Nat) : Fv := ⟨.func (.func f) #[] #[], rfl⟩
def fv0 : Fv := ⟨.nilFunc, rfl⟩
def chgM : List (Int × Fv) := [(1, fvF 117), (2, fvF 118), (3, fvF 119), (4, fvF 120), (5, fvF 121)]
def fchg (k : Int) (l : FaultFaultLoom) (d : FaultDamage) (rows : List Int) (br : List (Int × Bool)) : Option (List Int × List (Int × Bool)) :=
 if k = 1 then (f117 l d rows).map (fun r => (r, br)) else if k = 2 then (f118 l d rows).map (fun r => (r, br)) else if k = 3 then (f119 l d rows).map (fun r => (r, br)) else if k = 4 then (f120 l d rows).map (fun r => (r, br))
 else if k = 5 then (f121 l d br).map (fun b => (rows, b)) else none
theorem en89 : Enters Tryz.prog 89 := enters_of Tryz.func89 (by kernel_rfl) rfl
theorem key_37 : KeyLaw Tryz.prog 37 (Value.int .i64) := keyLaw_int Tryz.underlying37
theorem wk89 {i : Nat} {gI : Gh} {wI : World} : FnG Tryz.prog 89 #[] gI wI (fun g w v => MP (Value.int .i64) i g w chgM v) := by
 refine fnG_of_E Tryz.func89 rfl (Nat.le_of_ble_eq_true rfl) fun g0 hm hfr => ?_
 show E _ 3 none _ _ _ _ _
 refine E_seq (E_region (EL_at (.map none) rfl rfl (EL_nil (thn_n ?_))))
 refine E_seq (E_region (EL_do .plain rfl (D_makeMap (g := g0) (Value.int .i64) Fv 5 fun g1 w1 v1 hs1 m1 => ?_)))
 refine EL_do .plain rfl (D_insert (v := fvF 117) Tryz.underlying171 key_37 rfl m1 rfl rfl (RV_fv.2 rfl) fun g2 w2 hs2 m2 => ?_)
 refine EL_do .plain rfl (D_insert (v := fvF 118) Tryz.underlying171 key_37 rfl m2 rfl rfl (RV_fv.2 rfl) fun g3 w3 hs3 m3 => ?_)
 refine EL_do .plain rfl (D_insert (v := fvF 119) Tryz.underlying171 key_37 rfl m3 rfl rfl (RV_fv.2 rfl) fun g4 w4 hs4 m4 => ?_)
 refine EL_do .plain rfl (D_insert (v := fvF 120) Tryz.underlying171 key_37 rfl m4 rfl rfl (RV_fv.2 rfl) fun g5 w5 hs5 m5 => ?_)
 refine EL_do .plain rfl (D_insert (v := fvF 121) Tryz.underlying171 key_37 rfl m5 rfl rfl (RV_fv.2 rfl) fun g6 w6 hs6 m6 => ?_)
 refine EL_mw v1 rfl rfl ?_
 refine EL_at v1 rfl rfl (EL_nil (thn_n ?_))
 have hfr := (((((hfr.stp hs1).stp hs2).stp hs3).stp hs4).stp hs5).stp hs6
 obtain ⟨g', hx, hmp⟩ := MP.hand (i := i) hfr m6
 exact E_ret (end1 rfl rfl (show _ = v1 from rfl) ⟨g', hx, hmp⟩)
theorem D_chg {e : Env} {g : Gh} {w : World} {K : Value → World → Prop} {c x1 x2 x3 x4 : Operand} {ats : Array TypeId} {k : Int} {l : FaultFaultLoom} {d : FaultDamage} {rows rows' : List Int} {br br' : List (Int × Bool)} {i j : Nat} {lv dv rv bv : Value}
  (hf : fchg k l d rows br = some (rows', br')) (hc : ev e c = ((mget chgM k).getD fv0).v) (h1 : ev e x1 = lv) (h2 : ev e x2 = dv) (h3 : ev e x3 = rv) (h4 : ev e x4 = bv) (r1 : RV g.m w l lv) (r2 : RV g.m w d dv) (hom : OM i g w 3 rows rv) (hmp : MP (Value.int .i64) j g w br bv) (hij : Nat.beq i j = false) (hji : Nat.beq j i = false)
  (h : ∀ g1 w1 g' w' v, Stp i g w g1 w1 → Stp j g1 w1 g' w' → OM i g' w' 3 rows' rv → MP (Value.int .i64) j g' w' br' bv → K v w') : Doe Tryz.prog (.call { callee := .value c, args := #[x1, x2, x3, x4], argTypes := ats }) e w K := by
 unfold fchg at hf
 have ha : Args e [x1, x2, x3, x4] [lv, dv, rv, bv] := .cons h1 (.cons h2 (.cons h3 (.cons h4 .nil)))
 have one : ∀ (f : Nat) (fF : FaultFaultLoom → FaultDamage → List Int → Option (List Int)), ev e c = .func (.func f) #[] #[] → Enters Tryz.prog f → (fF l d rows).map (fun r => (r, br)) = some (rows', br') →
   (∀ r, fF l d rows = some r → FnM Tryz.prog f #[lv, dv, rv, bv] i g w (fun g w v => v = .tuple #[] ∧ OM i g w 3 r rv)) → Doe Tryz.prog (.call { callee := .value c, args := #[x1, x2, x3, x4], argTypes := ats }) e w K := by
  intro f fF hcf hen hmap hw
  obtain ⟨r, hr, he⟩ := Option.map_eq_some_iff.1 hmap
  obtain ⟨rfl, rfl⟩ : r = rows' ∧ br = br' := by simpa using he
  exact D_callMv (g := g) (i := i) hcf hen ha (hw r hr) fun g' w' v hs hR => h g' w' g' w' v hs (stp_refl _ _ _) hR.2 (hmp.stp hs hji)
 split at hf
 ·rename_i hk; subst hk; exact one 117 f117 hc en117 hf fun r hr => wk117 r1 r2 hom hr
 split at hf
 ·rename_i hk; subst hk; exact one 118 f118 hc en118 hf fun r hr => wk118 r1 r2 hom hr
 split at hf
 ·rename_i hk; subst hk; exact one 119 f119 hc en119 hf fun r hr => wk119 r1 r2 hom hr
 split at hf
 ·rename_i hk; subst hk; exact one 120 f120 hc en120 hf fun r hr => wk120 r1 r2 hom hr
 split at hf
 ·rename_i hk; subst hk
  obtain ⟨r, hr, he⟩ := Option.map_eq_some_iff.1 hf
  obtain ⟨rfl, rfl⟩ : rows = rows' ∧ r = br' := by simpa using he
  exact D_callMv (g := g) (i := j) (f := 121) hc en121 ha (wk121 r1 r2 hmp hr) fun g' w' v hs hR => h g w g' w' v (stp_refl _ _ _) hs (hom.stp hs hij) hR.2
 ·cases hf
def f123 (x0 : Int) (z0 : Int) (z1 : Int) : Option (Bool) :=
 Option.bind (α := Bool) (
  bif (decide (x0 < z0)) then
   some (true)
  else
   some ((decide (x0 > z1)))
  ) fun o0 =>
 some (o0)
theorem en123 : Enters Tryz.prog 123 := enters_of Tryz.func123 (by kernel_rfl) rfl
theorem wk123 {gI : Gh} {wI : World} {x0 : Int} {z0 : Int} {z1 : Int} {pf0 : Value} (qf0 : PT gI.m wI z0 pf0) {pf1 : Value} (qf1 : PT gI.m wI z1 pf1) {r : Bool} (h : f123 x0 z0 z1 = some r) : Fn Tryz.prog 123 #[.int .i64 (x0), pf0, pf1] gI wI (fun _ _ v => v = .bool (r)) := by
 unfold f123 at h
 refine fn_of_E Tryz.func123 rfl (Nat.le_of_ble_eq_true rfl) fun g0 hm hfr => ?_
 have qf0 : PT g0.m wI z0 pf0 := hm ▸ qf0
 have qf1 : PT g0.m wI z1 pf1 := hm ▸ qf1
 show E _ 13 none _ _ _ _ _
 refine E_seq (E_region (EL_at (.bool false) rfl rfl ?_))
 refine EL_nil (thn_n ?_)
 obtain ⟨o0, hx, h⟩ := bsome h
 refine E_join (fun e w => ∃ (g : Gh) , Fr gI wI g w ∧ e 4 = .bool (o0)) (fun Q' hQ => ?_) (fun j1 w7 hR => ?_)
 ·replace h := hx
  clear hx
  refine E_region (EL_mw (.int .i64 (x0)) rfl rfl ?_)
  refine EL_do .plain rfl (D_load (g := g0) Tryz.isAgg3 Tryz.sizeOf3 rfl qf0 fun v4 r4 => ?_)
  obtain rfl := RV_int.1 r4
  refine EL_in (.bool ((decide (x0 < z0)))) rfl rfl rfl rfl ?_
  refine EL_mw (.bool ((decide (x0 < z0)))) rfl rfl ?_
  rcases csome h with ⟨hc5, h⟩ | ⟨hc5, h⟩
  ·refine EL_s rfl rfl hc5 rfl rfl ?_
   refine EL_s rfl rfl hc5 rfl rfl ?_
   refine EL_s rfl rfl hc5 rfl rfl ?_
   refine EL_p (.bool true) (P_pick (b := (decide (x0 < z0))) rfl (pick_t hc5 rfl)) rfl ?_
   refine EL_at (.bool true) rfl rfl ?_
   refine EL_nil ?_
   obtain rfl := sinj h
   exact hQ _ _ ⟨g0, hfr, rfl⟩
  ·refine EL_y (.int .i64 (x0)) (P_move rfl) rfl rfl hc5 rfl ?_
   refine EL_do (.yes2 rfl rfl hc5) rfl (D_load (g := g0) Tryz.isAgg3 Tryz.sizeOf3 rfl qf1 fun v6 r6 => ?_)
   obtain rfl := RV_int.1 r6
   refine EL_y (.bool ((decide (x0 > z1)))) (P_int rfl rfl rfl) rfl rfl hc5 rfl ?_
   refine EL_p (.bool ((decide (x0 > z1)))) (P_pick (b := (decide (x0 < z0))) rfl (pick_f hc5 rfl)) rfl ?_
   refine EL_at (.bool ((decide (x0 > z1)))) rfl rfl ?_
   refine EL_nil ?_
   obtain rfl := sinj h
   exact hQ _ _ ⟨g0, hfr, rfl⟩
 ·clear hx
  obtain ⟨g7, hfr, u0⟩ := hR
  refine E_ret ?_
  obtain rfl := sinj h
  exact end1 rfl rfl (show _ = .bool (o0) from u0) ⟨_, hfr, rfl⟩
def f125 (x0 : List Int) : Option ((List Int)) :=
 jn (σ := Unit) (fun _ =>
  jn (σ := Unit) (fun _ =>
   some (x0)
   ) fun k53 =>
  lp (σ := Int) (fun k54 o0 =>
   jn (σ := Unit) (fun _ =>
    jn (σ := Int) (fun j1 =>
     k54 ((w64 (j1 + (1 : Int))))
     ) fun x6 =>
    (idx x0 o0).bind fun z3 =>
    (idx x0 (w64 (o0 - (1 : Int)))).bind fun z4 =>
    bif (z3 == z4) then
     none
    else
     x6 (o0)
    ) fun k57 =>
   bif (decide (o0 < ((x0).length : Int))) then
    k57 ()
   else
    k53 ()
   ) big ((1 : Int))
  ) fun k2 =>
 bif (decide (((x0).length : Int) < (2 : Int))) then
  some (x0)
 else
  k2 ()
theorem en125 : Enters Tryz.prog 125 := enters_of Tryz.func125 (by kernel_rfl) rfl
theorem wk125 {gI : Gh} {wI : World} {x0 : List Int} {up0 : Value} (rp0 : RV gI.m wI x0 up0) {r : (List Int)} (h : f125 x0 = some r) : Fn Tryz.prog 125 #[up0] gI wI (fun m w v => RV m w (r) v) := by
 unfold f125 at h
 refine fn_of_E Tryz.func125 rfl (Nat.le_of_ble_eq_true rfl) fun g0 hm hfr => ?_
 have rp0 : RV g0.m wI x0 up0 := hm ▸ rp0
 show E _ 61 none _ _ _ _ _
 refine E_seq (E_region (EL_at (.slice none 0 0) rfl rfl ?_))
 refine EL_nil (thn_n (E_joinC h (fun (s : Unit) e w => ∃ (g : Gh) , Fr gI wI g w ∧ e 0 = up0 ∧ RV g.m w (x0 : List Int) up0) (fun X2 k2 hk2 h => ?_) ?_))
 ·refine E_seq (E_region (EL_mw up0 rfl rfl ?_))
  refine EL_p (.int .i64 ((x0).length : Int)) (P_len Tryz.underlying25 rfl rp0) rfl ?_
  refine EL_in (.bool ((decide (((x0).length : Int) < (2 : Int))))) rfl rfl rfl rfl ?_
  refine EL_nil (thn_n ?_)
  rcases csome h with ⟨hc3, h⟩ | ⟨hc3, h⟩
  ·refine E_ct hc3 rfl ?_
   refine E_seq (E_region (EL_mw up0 rfl rfl ?_))
   refine EL_at up0 rfl rfl ?_
   refine EL_nil (thn_n (E_ret (thn_r ?_)))
   obtain rfl := sinj h
   exact end1 rfl rfl (show _ = up0 from rfl) ⟨_, hfr, rp0⟩
  ·refine E_cf hc3 rfl ?_
   exact E_skip (thn_n (hk2 () _ _ ⟨g0, hfr, rfl, rp0⟩ h))
 ·rintro _ q8 w4 ⟨g4, hfr, a7, b7⟩ h
  refine E_joinC h (fun (s : Unit) e w => ∃ (g : Gh) , Fr gI wI g w ∧ e 0 = up0 ∧ RV g.m w (x0 : List Int) up0) (fun X53 k53 c7 h => ?_) ?_
  ·refine E_seq (E_region (EL_at (.int .i64 (1)) rfl rfl ?_))
   refine EL_nil (thn_n (E_block ?_))
   refine E_lp h (fun (s : Int) e w => ∃ (g : Gh) , Fr gI wI g w ∧ e 0 = up0 ∧ RV g.m w (x0 : List Int) up0 ∧ e 3 = .int .i64 (s)) ⟨g4, hfr, a7, b7, rfl⟩ (fun X54 k54 d7 => ?_)
   rintro o0 k8 r8 ⟨y6, hfr, i3, j3, i5⟩ h
   refine E_joinC h (fun (s : Unit) e w => ∃ (g : Gh) , Fr gI wI g w ∧ e 0 = up0 ∧ RV g.m w (x0 : List Int) up0 ∧ e 3 = .int .i64 (o0)) (fun X57 k57 e7 h => ?_) ?_
   ·refine E_seq (E_region (EL_mv i5 rfl ?_))
    refine EL_mv i3 rfl ?_
    refine EL_p (.int .i64 ((x0).length : Int)) (P_len Tryz.underlying25 rfl j3) rfl ?_
    refine EL_in (.bool ((decide (o0 < ((x0).length : Int))))) rfl rfl rfl rfl ?_
    refine EL_nil (thn_n ?_)
    rcases csome h with ⟨u3, h⟩ | ⟨u3, h⟩
    ·refine E_ct u3 rfl ?_
     exact E_skip (thn_n (e7 () _ _ ⟨y6, hfr, i3, j3, i5⟩ h))
    ·refine E_cf u3 rfl ?_
     refine E_exit ?_
     refine thn_e ?_
     refine thn_e ?_
     refine blk_hit ?_
     exact thn_n (c7 () _ _ ⟨y6, hfr, i3, j3⟩ h)
   ·rintro _ l8 t8 ⟨n7, hfr, z2, u0, d3⟩ h
    refine E_joinC h (fun (s : Int) e w => ∃ (g : Gh) , Fr gI wI g w ∧ e 0 = up0 ∧ RV g.m w (x0 : List Int) up0 ∧ e 3 = .int .i64 (s)) (fun X81 x6 g7 h => ?_) ?_
    ·refine E_block ?_
     refine E_seq ?_
     obtain ⟨z3, l5, h⟩ := bsome h
     have o7 := PT_idx u0 l5
     refine L_load (x := .tmp 18) Tryz.isAgg3 Tryz.sizeOf3 o7 fun v8 u7 i7 => ?_
     obtain rfl := RV_int.1 u7
     obtain ⟨z4, q5, h⟩ := bsome h
     have v7 := PT_idx u0 q5
     refine L_load (x := .tmp 23) Tryz.isAgg3 Tryz.sizeOf3 v7 fun x8 c8 j7 => ?_
     obtain rfl := RV_int.1 c8
     refine E_drawL (g := n7) (n := 10) [] [0, 1, 2, 3, 4, 5, 6, 7, 8, 9] rfl mixed (by kernel_rfl) trivial ?_
     refine L_p up0 rfl rfl (P_move z2) ?_
     refine L_p (.int .i64 (o0)) rfl rfl (P_move d3) ?_
     refine L_p (ePtr up0 o0 1) rfl rfl (P_indexAddr (α := Int) Tryz.underlying25 Tryz.sizeOf3 rfl u0 rfl l5) ?_
     refine L_ld (c := .int .i64 (z3)) rfl rfl .plain (fun _ _ h => h.ch) i7 rfl ?_
     refine L_p up0 rfl rfl (P_move z2) ?_
     refine L_p (.int .i64 (o0)) rfl rfl (P_move d3) ?_
     refine L_p (.int .i64 ((w64 (o0 - (1 : Int))))) rfl rfl (P_int rfl rfl rfl) ?_
     refine L_p (ePtr up0 (w64 (o0 - (1 : Int))) 1) rfl rfl (P_indexAddr (α := Int) Tryz.underlying25 Tryz.sizeOf3 rfl u0 rfl q5) ?_
     refine L_ld (c := .int .i64 (z4)) rfl rfl .plain (fun _ _ h => h.ch) j7 rfl ?_
     refine L_p (.bool ((z3 == z4))) rfl rfl (P_int rfl rfl rfl) ?_
     refine L_nl fun e8 y8 hs => ?_
     have hfr := hfr.ext hs
     have u0 := u0.ext hs
     clear hs
     refine EL_nil (thn_n ?_)
     rcases csome h with ⟨o3, h⟩ | ⟨o3, h⟩
     ·refine E_ct o3 rfl ?_
      refine E_seq (E_region (EL_mv z2 rfl ?_))
      refine EL_mv d3 rfl ?_
      cases h
     ·refine E_cf o3 rfl ?_
      exact E_skip (blk_n (thn_n (g7 (o0) _ _ ⟨e8, hfr, z2, u0, d3⟩ h)))
    ·rintro j1 g8 m8 ⟨m7, hfr, t5, x5, i6⟩ h
     refine E_region (EL_mv i6 rfl ?_)
     refine EL_in (.int .i64 ((w64 (j1 + (1 : Int))))) rfl rfl rfl rfl ?_
     refine EL_at (.int .i64 ((w64 (j1 + (1 : Int))))) rfl rfl ?_
     exact EL_nil (thn_n (d7 ((w64 (j1 + (1 : Int)))) _ _ ⟨m7, hfr, t5, x5, rfl⟩ h))
  ·rintro _ i8 n8 ⟨o8, hfr, j6, v6⟩ h
   refine E_seq (E_region (EL_mv j6 rfl ?_))
   refine EL_at up0 rfl rfl ?_
   refine EL_nil (thn_n (E_ret ?_))
   obtain rfl := sinj h
   exact end1 rfl rfl (show _ = up0 from rfl) ⟨_, hfr, v6⟩
def f126 (x0 : List FaultDamage) (x1 : FaultDamage → Option Bool) : Option (Int) :=
 jn (σ := Unit) (fun _ =>
  some ((-1 : Int))
  ) fun k18 =>
 lp (σ := Int) (fun k19 o0 =>
  bif (decide (o0 < ((x0).length : Int))) then
   jn (σ := Unit) (fun _ =>
    k19 ((w64 (o0 + (1 : Int))))
    ) fun k28 =>
   (idx x0 o0).bind fun x5 =>
   (x1 x5).bind fun i6 =>
   bif i6 then
    some (o0)
   else
    k28 ()
  else
   k18 ()
  ) big ((0 : Int))
theorem en126 : Enters Tryz.prog 126 := enters_of Tryz.func126 (by kernel_rfl) rfl
theorem wk126 {gI : Gh} {wI : World} {x0 : List FaultDamage} {x1 : FaultDamage → Option Bool} {up0 : Value} (rp0 : RV gI.m wI x0 up0) {up1 : Value} (rp1 : FnV1 Tryz.prog x1 up1 gI wI) {r : Int} (h : f126 x0 x1 = some r) : Fn Tryz.prog 126 #[up0, up1] gI wI (fun _ _ v => v = .int .i64 (r)) := by
 unfold f126 at h
 refine fn_of_E Tryz.func126 rfl (Nat.le_of_ble_eq_true rfl) fun g0 hm hfr => ?_
 have rp0 : RV g0.m wI x0 up0 := hm ▸ rp0
 obtain ⟨ff1, fa1, fc1, rfl, fen1, fcl1⟩ := rp1
 show E _ 19 none _ _ _ _ _
 refine E_seq (E_region (EL_at (.int .i64 (0)) rfl rfl ?_))
 refine EL_nil (thn_n (E_joinC h (fun (s : Unit) e w => ∃ (g : Gh) , Fr gI wI g w) (fun X18 k18 j6 h => ?_) ?_))
 ·refine E_seq (E_region (EL_mw up0 rfl rfl ?_))
  refine EL_p (.int .i64 ((x0).length : Int)) (P_len Tryz.underlying41 rfl rp0) rfl ?_
  refine EL_mw (.int .i64 (0)) rfl rfl ?_
  refine EL_nil (thn_n (E_block ?_))
  refine E_lp h (fun (s : Int) e w => ∃ (g : Gh) , Fr gI wI g w ∧ e 0 = up0 ∧ RV g.m w (x0 : List FaultDamage) up0 ∧ e 1 = (.func (.func ff1) fa1 fc1) ∧ e 7 = .int .i64 (((x0).length : Int)) ∧ e 8 = .int .i64 (s)) ⟨g0, hfr, rfl, rp0, rfl, rfl, rfl⟩ (fun X19 k19 v6 => ?_)
  rintro o0 g7 m7 ⟨u3, hfr, i3, u0, j3, o3, j1⟩ h
  refine E_seq (E_region (EL_in (.bool ((decide (o0 < ((x0).length : Int))))) j1 o3 rfl rfl ?_))
  refine EL_nil (thn_n (E_seq ?_))
  rcases csome h with ⟨z2, h⟩ | ⟨z2, h⟩
  ·refine E_ct z2 rfl ?_
   refine E_skip (thn_n (E_joinC h (fun (s : Unit) e w => ∃ (g : Gh) , Fr gI wI g w ∧ e 0 = up0 ∧ RV g.m w (x0 : List FaultDamage) up0 ∧ e 1 = (.func (.func ff1) fa1 fc1) ∧ e 7 = .int .i64 (((x0).length : Int)) ∧ e 8 = .int .i64 (o0)) (fun X28 k28 x6 h => ?_) ?_))
   ·refine E_block ?_
    refine E_seq (E_region (EL_mv j1 rfl ?_))
    refine EL_at (.int .i64 (o0)) rfl rfl ?_
    refine EL_nil (thn_n (E_seq (E_region (EL_mv j3 rfl ?_))))
    refine EL_mv i3 rfl ?_
    refine EL_mw (.int .i64 (o0)) rfl rfl ?_
    obtain ⟨x5, z3, h⟩ := bsome h
    refine EL_p (ePtr up0 o0 5) (P_indexAddr (α := FaultDamage) Tryz.underlying41 Tryz.sizeOf39 rfl u0 rfl z3) rfl ?_
    have a7 := PT_idx u0 z3
    refine EL_do .plain rfl (D_load (g := u3) Tryz.isAgg39 Tryz.sizeOf39 rfl a7 fun b7 c7 => ?_)
    obtain ⟨i6, y6, h⟩ := bsome h
    refine EL_do .plain rfl (D_callv (g := u3) (vs := [b7]) rfl fen1 (.cons rfl .nil) (fcl1 _ _ hfr.ch _ _ _  c7 y6) fun d7 n7 o7 hs hr => ?_)
    have hfr := hfr.ext hs
    have u0 := u0.ext hs
    obtain rfl := RV_bool.1 hr
    refine EL_nil (thn_n ?_)
    rcases csome h with ⟨d3, h⟩ | ⟨d3, h⟩
    ·refine E_ct d3 rfl ?_
     refine E_seq (E_region (EL_mw (.int .i64 (o0)) rfl rfl ?_))
     refine EL_at (.int .i64 (o0)) rfl rfl ?_
     refine EL_nil (thn_n (E_ret (blk_r ?_)))
     refine thn_r ?_
     refine thn_r ?_
     refine blk_r ?_
     refine thn_r ?_
     obtain rfl := sinj h
     exact end1 rfl rfl (show _ = .int .i64 (o0) from rfl) ⟨_, hfr, rfl⟩
    ·refine E_cf d3 rfl ?_
     exact E_skip (blk_n (thn_n (x6 () _ _ ⟨d7, hfr, i3, u0, j3, o3, j1⟩ h)))
   ·rintro _ i7 u7 ⟨e7, hfr, z4, i5, l5, q5, t5⟩ h
    refine E_region (EL_in (.int .i64 ((w64 (o0 + (1 : Int))))) t5 rfl rfl rfl ?_)
    refine EL_mw (.int .i64 ((w64 (o0 + (1 : Int))))) rfl rfl ?_
    exact EL_nil (thn_n (v6 ((w64 (o0 + (1 : Int)))) _ _ ⟨e7, hfr, z4, i5, l5, q5, rfl⟩ h))
  ·refine E_cf z2 rfl ?_
   refine E_exit ?_
   refine thn_e ?_
   refine thn_e ?_
   refine blk_hit ?_
   exact thn_n (j6 () _ _ ⟨u3, hfr⟩ h)
 ·rintro _ j7 v7 ⟨c8, hfr⟩ h
  refine E_seq (E_region (EL_at (.int .i64 (-1)) rfl rfl ?_))
  refine EL_nil (thn_n (E_ret ?_))
  obtain rfl := sinj h
  exact end1 rfl rfl (show _ = .int .i64 (-1) from rfl) ⟨_, hfr, rfl⟩
def f138 (x0 : Int) (x1 : Int) : Option (Bool) :=
 Option.bind (α := Bool) (
  (f79 x0).bind fun y8 =>
  bif y8 then
   (f79 x1).bind fun y11 =>
   bif (!y11) then
    some (true)
   else
    some ((decide (x0 < x1)))
  else
   some ((decide (x0 < x1)))
  ) fun j1 =>
 some (j1)
theorem en138 : Enters Tryz.prog 138 := enters_of Tryz.func138 (by kernel_rfl) rfl
theorem wk138 {gI : Gh} {wI : World} {x0 : Int} {x1 : Int}  {r : Bool} (h : f138 x0 x1 = some r) : Fn Tryz.prog 138 #[.int .i64 (x0), .int .i64 (x1)] gI wI (fun _ _ v => v = .bool (r)) := by
 unfold f138 at h
 refine fn_of_E Tryz.func138 rfl (Nat.le_of_ble_eq_true rfl) fun g0 hm hfr => ?_
 show E _ 17 none _ _ _ _ _
 refine E_seq (E_region (EL_at (.bool false) rfl rfl ?_))
 refine EL_nil (thn_n ?_)
 obtain ⟨j1, hx, h⟩ := bsome h
 refine E_join (fun e w => ∃ (g : Gh) , Fr gI wI g w ∧ e 4 = .bool (j1)) (fun Q' hQ => ?_) (fun o3 z3 hR => ?_)
 ·replace h := hx
  clear hx
  refine E_region (EL_mw (.int .i64 (x0)) rfl rfl ?_)
  obtain ⟨y8, j3, h⟩ := bsome h
  refine EL_do .plain rfl (D_call (g := g0) (vs := [.int .i64 (x0)]) en79 (.cons rfl .nil) (wk79  j3) fun g7 w7_ v7 hs hr => ?_)
  have hfr := hfr.ext hs
  subst hr
  refine EL_mw (.bool (y8)) rfl rfl ?_
  rcases csome h with ⟨u0, h⟩ | ⟨u0, h⟩
  ·refine EL_y (.int .i64 (x1)) (P_move rfl) rfl rfl u0 rfl ?_
   obtain ⟨y11, i3, h⟩ := bsome h
   refine EL_do (.yes2 rfl rfl u0) rfl (D_call (g := g7) (vs := [.int .i64 (x1)]) en79 (.cons rfl .nil) (wk79  i3) fun d3 u3 z4 hs hr => ?_)
   have hfr := hfr.ext hs
   subst hr
   refine EL_y (.bool (!y11)) (P_not rfl) rfl rfl u0 rfl ?_
   refine EL_p (.bool (!y11)) (P_pick (b := y8) rfl (pick_t u0 rfl)) rfl ?_
   refine EL_mw (.bool (!y11)) rfl rfl ?_
   rcases csome h with ⟨o0, h⟩ | ⟨o0, h⟩
   ·refine EL_s rfl rfl o0 rfl rfl ?_
    refine EL_s rfl rfl o0 rfl rfl ?_
    refine EL_s rfl rfl o0 rfl rfl ?_
    refine EL_p (.bool true) (P_pick (b := (!y11)) rfl (pick_t o0 rfl)) rfl ?_
    refine EL_at (.bool true) rfl rfl ?_
    refine EL_nil ?_
    obtain rfl := sinj h
    exact hQ _ _ ⟨d3, hfr, rfl⟩
   ·refine EL_y (.int .i64 (x0)) (P_move rfl) rfl rfl o0 rfl ?_
    refine EL_y (.int .i64 (x1)) (P_move rfl) rfl rfl o0 rfl ?_
    refine EL_y (.bool ((decide (x0 < x1)))) (P_int rfl rfl rfl) rfl rfl o0 rfl ?_
    refine EL_p (.bool ((decide (x0 < x1)))) (P_pick (b := (!y11)) rfl (pick_f o0 rfl)) rfl ?_
    refine EL_at (.bool ((decide (x0 < x1)))) rfl rfl ?_
    refine EL_nil ?_
    obtain rfl := sinj h
    exact hQ _ _ ⟨d3, hfr, rfl⟩
  ·refine EL_s rfl rfl u0 rfl rfl ?_
   refine EL_s rfl rfl u0 rfl rfl ?_
   refine EL_s rfl rfl u0 rfl rfl ?_
   refine EL_p (.bool false) (P_pick (b := y8) rfl (pick_f u0 rfl)) rfl ?_
   refine EL_mw (.bool false) rfl rfl ?_
   refine EL_y (.int .i64 (x0)) (P_move rfl) rfl rfl rfl rfl ?_
   refine EL_y (.int .i64 (x1)) (P_move rfl) rfl rfl rfl rfl ?_
   refine EL_y (.bool ((decide (x0 < x1)))) (P_int rfl rfl rfl) rfl rfl rfl rfl ?_
   refine EL_p (.bool ((decide (x0 < x1)))) (P_pick (b := false) rfl (pick_f rfl rfl)) rfl ?_
   refine EL_at (.bool ((decide (x0 < x1)))) rfl rfl ?_
   refine EL_nil ?_
   obtain rfl := sinj h
   exact hQ _ _ ⟨g7, hfr, rfl⟩
 ·clear hx
  obtain ⟨i5, hfr, z2⟩ := hR
  refine E_ret ?_
  obtain rfl := sinj h
  exact end1 rfl rfl (show _ = .bool (j1) from z2) ⟨_, hfr, rfl⟩
def f144 (x0 : List FaultDamage) (x1 : Int) (x2 : Int) (x3 : FaultDamage → FaultDamage → Option Int) : Option ((List FaultDamage)) :=
 lp (σ := (List FaultDamage) × Int) (fun k1 (v6, d3) =>
  jn (σ := Unit) (fun _ =>
   Option.bind (α := (List FaultDamage)) (
    lp (σ := (List FaultDamage) × Int) (fun i8 (j1, o0) =>
     jn (σ := Unit) (fun _ =>
      Option.bind (α := (List FaultDamage)) (
       (idx j1 (w64 (o0 - (1 : Int)))).bind fun x6 =>
       (idx j1 o0).bind fun m7 =>
       (idx j1 o0).bind fun zA =>
       (idx ((List.set j1 (Int.toNat o0) x6)) (w64 (o0 - (1 : Int)))).bind fun aB =>
       some ((List.set ((List.set j1 (Int.toNat o0) x6)) (Int.toNat (w64 (o0 - (1 : Int)))) m7))
       ) fun z4 =>
      i8 (z4, (w64 (o0 - (1 : Int))))
      ) fun k8 =>
     Option.bind (α := Bool) (
      bif (decide (o0 > x1)) then
       (idx j1 o0).bind fun l8 =>
       (idx j1 (w64 (o0 - (1 : Int)))).bind fun m8 =>
       (x3 l8 m8).bind fun t5 =>
       some ((decide (t5 < (0 : Int))))
      else
       some (false)
      ) fun j3 =>
     bif j3 then
      k8 ()
     else
      some (j1)
     ) big (v6, d3)
    ) fun i5 =>
   k1 (i5, (w64 (d3 + (1 : Int))))
   ) fun k4 =>
  bif (decide (d3 < x2)) then
   k4 ()
  else
   some (v6)
  ) big (x0, (w64 (x1 + (1 : Int))))
theorem en144 : Enters Tryz.prog 144 := enters_of Tryz.func144 (by kernel_rfl) rfl
theorem wk144 {iI : Nat} {gI : Gh} {wI : World} {x0 : List FaultDamage} {x1 : Int} {x2 : Int} {x3 : FaultDamage → FaultDamage → Option Int} {up0 : Value} (mp0 : OM iI gI wI 39 x0 up0) {up3 : Value} (rp3 : FnV2 Tryz.prog x3 up3 gI wI) {r : (List FaultDamage)} (h : f144 x0 x1 x2 x3 = some r) : FnM Tryz.prog 144 #[up0, .int .i64 (x1), .int .i64 (x2), up3] iI gI wI (fun g w v => v = .tuple #[] ∧ OM iI g w 39 r up0) := by
 unfold f144 at h
 refine fnM_of_E Tryz.func144 rfl (Nat.le_of_ble_eq_true rfl) fun g0 hm hfr => ?_
 have oA := mp0
 replace mp0 := mp0.enter
 rw [← hm] at mp0
 replace hm : g0.m = gI.m := by rw [hm]
 obtain ⟨ff3, fa3, fc3, rfl, fen3, fcl3⟩ := rp3
 show E _ 53 none _ _ _ _ _
 refine E_seq (E_region (EL_mw (.int .i64 (x1)) rfl rfl ?_))
 refine EL_in (.int .i64 ((w64 (x1 + (1 : Int))))) rfl rfl rfl rfl ?_
 refine EL_at (.int .i64 ((w64 (x1 + (1 : Int))))) rfl rfl ?_
 refine EL_nil (thn_n (E_block ?_))
 refine E_lp h (fun (s : (List FaultDamage) × Int) e w => ∃ (g : Gh) , FrM iI gI wI g w ∧ e 0 = up0 ∧ OM 1 g w 39 (s.1 : List FaultDamage) up0 ∧ e 1 = .int .i64 (x1) ∧ e 2 = .int .i64 (x2) ∧ e 3 = (.func (.func ff3) fa3 fc3) ∧ e 8 = .int .i64 (s.2)) ⟨g0, hfr, rfl, mp0, rfl, rfl, rfl, rfl⟩ (fun X1 k1 hk1 => ?_)
 rintro ⟨v6, d3⟩ cD w2 ⟨g2, hfr, bB, n8, cB, o8, dB, q8⟩ h
 refine E_joinC h (fun (s : Unit) e w => ∃ (g : Gh) , FrM iI gI wI g w ∧ e 0 = up0 ∧ OM 1 g w 39 (v6 : List FaultDamage) up0 ∧ e 1 = .int .i64 (x1) ∧ e 2 = .int .i64 (x2) ∧ e 3 = (.func (.func ff3) fa3 fc3) ∧ e 8 = .int .i64 (d3)) (fun X4 k4 hk4 h => ?_) ?_
 ·refine E_seq (E_region (EL_mv q8 rfl ?_))
  refine EL_mv o8 rfl ?_
  refine EL_in (.bool ((decide (d3 < x2)))) rfl rfl rfl rfl ?_
  refine EL_nil (thn_n ?_)
  rcases csome h with ⟨hc5, h⟩ | ⟨hc5, h⟩
  ·refine E_ct hc5 rfl ?_
   exact E_skip (thn_n (hk4 () _ _ ⟨g2, hfr, bB, n8, cB, o8, dB, q8⟩ h))
  ·refine E_cf hc5 rfl ?_
   refine E_exit ?_
   refine thn_e ?_
   refine thn_e ?_
   refine blk_hit ?_
   obtain rfl := sinj h
   exact end0n rfl rfl ⟨_, hfr, rfl, oA.back n8⟩
 ·rintro _ eD w6 ⟨g6, hfr, eB, iB, jB, kB, lB, r8⟩ h
  obtain ⟨i5, hx, h⟩ := bsome h
  refine E_join (fun e w => ∃ (g : Gh) , FrM iI gI wI g w ∧ e 0 = up0 ∧ OM 1 g w 39 (i5 : List FaultDamage) up0 ∧ e 1 = .int .i64 (x1) ∧ e 2 = .int .i64 (x2) ∧ e 3 = (.func (.func ff3) fa3 fc3) ∧ e 8 = .int .i64 (d3)) (fun Q' hQ => ?_) (fun iC qC hR => ?_)
  ·replace h := hx
   clear hx
   refine E_block ?_
   refine E_seq (E_region (EL_mv r8 rfl ?_))
   refine EL_at (.int .i64 (d3)) rfl rfl ?_
   refine EL_nil (thn_n (E_block ?_))
   refine E_lp h (fun (s : (List FaultDamage) × Int) e w => ∃ (g : Gh) , FrM iI gI wI g w ∧ e 0 = up0 ∧ OM 1 g w 39 (s.1 : List FaultDamage) up0 ∧ e 1 = .int .i64 (x1) ∧ e 2 = .int .i64 (x2) ∧ e 3 = (.func (.func ff3) fa3 fc3) ∧ e 8 = .int .i64 (d3) ∧ e 9 = .int .i64 (s.2)) ⟨g6, hfr, eB, iB, jB, kB, lB, r8, rfl⟩ (fun X297 i8 pA => ?_)
   rintro ⟨j1, o0⟩ jC rC ⟨t8, hfr, l5, z2, q5, a7, x5, b7, o3⟩ h
   refine E_joinC h (fun (s : Unit) e w => ∃ (g : Gh) , FrM iI gI wI g w ∧ e 0 = up0 ∧ OM 1 g w 39 (j1 : List FaultDamage) up0 ∧ e 1 = .int .i64 (x1) ∧ e 2 = .int .i64 (x2) ∧ e 3 = (.func (.func ff3) fa3 fc3) ∧ e 8 = .int .i64 (d3) ∧ e 9 = .int .i64 (o0)) (fun X411 k8 qA h => ?_) ?_
   ·obtain ⟨j3, hx, h⟩ := bsome h
    refine E_join (fun e w => ∃ (g : Gh) , FrM iI gI wI g w ∧ e 0 = up0 ∧ OM 1 g w 39 (j1 : List FaultDamage) up0 ∧ e 1 = .int .i64 (x1) ∧ e 2 = .int .i64 (x2) ∧ e 3 = (.func (.func ff3) fa3 fc3) ∧ e 8 = .int .i64 (d3) ∧ e 9 = .int .i64 (o0) ∧ e 34 = .bool (j3)) (fun Q' hQ => ?_) (fun kC tC hR => ?_)
    ·replace h := hx
     clear hx
     rcases csome h with ⟨u0, h⟩ | ⟨u0, h⟩
     ·obtain ⟨l8, o7, h⟩ := bsome h
      refine L_loadM (x := .tmp 25) Tryz.isAgg39 Tryz.sizeOf39 z2 o7 fun v8 mB rA => ?_
      obtain ⟨m8, u7, h⟩ := bsome h
      refine L_loadM (x := .tmp 30) Tryz.isAgg39 Tryz.sizeOf39 z2 u7 fun x8 nB sA => ?_
      obtain ⟨t5, uA, h⟩ := bsome h
      refine E_drawL (g := t8) (n := 17) [(14, (fun v g w => v = .int .i64 (t5)))] [0, 1, 2, 3, 4, 5, 6, 7, 8, 9, 10, 11, 12, 13, 14, 15, 16] rfl mixed (by kernel_rfl) (⟨fun _ => up_eq _, trivial⟩) ?_
      refine L_p (.int .i64 (o0)) rfl rfl (P_move o3) ?_
      refine L_p (.int .i64 (x1)) rfl rfl (P_move q5) ?_
      refine L_p (.bool ((decide (o0 > x1)))) rfl rfl (P_int rfl rfl rfl) ?_
      refine L_p (.bool ((decide (o0 > x1)))) rfl rfl (P_move rfl) ?_
      refine L_y ((.func (.func ff3) fa3 fc3)) rfl rfl rfl rfl u0 (P_move x5) ?_
      refine L_y up0 rfl rfl rfl rfl u0 (P_move l5) ?_
      refine L_y (.int .i64 (o0)) rfl rfl rfl rfl u0 (P_move o3) ?_
      refine L_y (ePtr up0 o0 5) rfl rfl rfl rfl u0 (P_indexAddrM (α := FaultDamage) Tryz.underlying41 Tryz.sizeOf39 rfl z2 rfl o7) ?_
      refine L_ld (c := v8) rfl rfl (.yes2 rfl rfl u0) (fun _ _ h => ⟨h.ch, fun b hb _ => h.below.block b hb⟩) rA rfl ?_
      refine L_y up0 rfl rfl rfl rfl u0 (P_move l5) ?_
      refine L_y (.int .i64 (o0)) rfl rfl rfl rfl u0 (P_move o3) ?_
      refine L_y (.int .i64 ((w64 (o0 - (1 : Int))))) rfl rfl rfl rfl u0 (P_int rfl rfl rfl) ?_
      refine L_y (ePtr up0 (w64 (o0 - (1 : Int))) 5) rfl rfl rfl rfl u0 (P_indexAddrM (α := FaultDamage) Tryz.underlying41 Tryz.sizeOf39 rfl z2 rfl u7) ?_
      refine L_ld (c := x8) rfl rfl (.yes2 rfl rfl u0) (fun _ _ h => ⟨h.ch, fun b hb _ => h.below.block b hb⟩) sA rfl ?_
      refine L_do (φ := fun v g w => v = .int .i64 (t5)) rfl rfl (.yes2 rfl rfl u0) (fun g w hd => D_callv (g := g) (vs := [v8, x8]) rfl fen3 (.cons rfl (.cons rfl .nil)) (fcl3 _ _ (hfr.ext hd.1).ch _ _ _ _ _  (mB.ext hd.1) (nB.ext hd.1) uA) fun g' w' v hs hr => ⟨g', hs, RV_int.1 hr⟩) (fun uC hv => ?_)
      obtain ⟨_, _, _, rfl⟩ := hv
      refine L_y (.bool ((decide (t5 < (0 : Int))))) rfl rfl rfl rfl u0 (P_int rfl rfl rfl) ?_
      refine L_p (.bool ((decide (t5 < (0 : Int))))) rfl rfl (P_pick (b := (decide (o0 > x1))) rfl (pick_t u0 rfl)) ?_
      refine L_nl fun oB vC hs => ?_
      have hfr := hfr.ext hs
      have z2 := z2.ext hs
      clear hs
      refine EL_nil ?_
      obtain rfl := sinj h
      exact hQ _ _ ⟨oB, hfr, l5, z2, q5, a7, x5, b7, o3, rfl⟩
     ·refine E_drawL (g := t8) (n := 17) [] [0, 1, 2, 3, 4, 5, 6, 7, 8, 9, 10, 11, 12, 13, 14, 15, 16] rfl mixed (by kernel_rfl) trivial ?_
      refine L_p (.int .i64 (o0)) rfl rfl (P_move o3) ?_
      refine L_p (.int .i64 (x1)) rfl rfl (P_move q5) ?_
      refine L_p (.bool ((decide (o0 > x1)))) rfl rfl (P_int rfl rfl rfl) ?_
      refine L_p (.bool ((decide (o0 > x1)))) rfl rfl (P_move rfl) ?_
      iterate 12 refine L_s rfl rfl rfl u0 rfl ?_
      refine L_p (.bool false) rfl rfl (P_pick (b := (decide (o0 > x1))) rfl (pick_f u0 rfl)) ?_
      refine L_nl fun tB xC hs => ?_
      have hfr := hfr.ext hs
      have z2 := z2.ext hs
      clear hs
      refine EL_nil ?_
      obtain rfl := sinj h
      exact hQ _ _ ⟨tB, hfr, l5, z2, q5, a7, x5, b7, o3, rfl⟩
    ·clear hx
     obtain ⟨y8, hfr, c7, d7, e7, g7, i7, j7, a9, j6⟩ := hR
     rcases csome h with ⟨y6, h⟩ | ⟨y6, h⟩
     ·refine E_cond_true (Eq.trans (show ev _ _ = .bool (j3) from j6) (congrArg Value.bool y6)) ?_
      exact E_skip (thn_n (qA () _ _ ⟨y8, hfr, c7, d7, e7, g7, i7, j7, a9⟩ h))
     ·refine E_cond_false (Eq.trans (show ev _ _ = .bool (j3) from j6) (congrArg Value.bool y6)) ?_
      refine E_exit ?_
      refine thn_e ?_
      refine thn_e ?_
      refine blk_hit ?_
      refine blk_n ?_
      obtain rfl := sinj h
      exact hQ _ _ ⟨y8, hfr, c7, d7, e7, g7, i7, j7⟩
   ·rintro _ lC vB ⟨d9, hfr, u3, i3, e9, i9, k9, l9, z3⟩ h
    obtain ⟨z4, hx, h⟩ := bsome h
    refine E_join (fun e w => ∃ (g : Gh) , FrM iI gI wI g w ∧ e 0 = up0 ∧ OM 1 g w 39 (z4 : List FaultDamage) up0 ∧ e 1 = .int .i64 (x1) ∧ e 2 = .int .i64 (x2) ∧ e 3 = (.func (.func ff3) fa3 fc3) ∧ e 8 = .int .i64 (d3) ∧ e 9 = .int .i64 (o0)) (fun Q' hQ => ?_) (fun mC yC hR => ?_)
    ·replace h := hx
     clear hx
     refine E_block ?_
     obtain ⟨x6, v7, h⟩ := bsome h
     refine L_loadM (x := .tmp 45) Tryz.isAgg39 Tryz.sizeOf39 i3 v7 fun xB n7 xA => ?_
     obtain ⟨m7, c8, h⟩ := bsome h
     refine L_loadM (x := .tmp 49) Tryz.isAgg39 Tryz.sizeOf39 i3 c8 fun yB i6 yA => ?_
     obtain ⟨zA, e8, h⟩ := bsome h
     refine E_drawTL (g := d9) (n := 15) [2, 3, 4] [] [0, 1, 2, 3, 4, 5, 6, 7, 8, 9, 10, 11, 12, 13, 14] rfl mixed (by kernel_rfl) trivial rfl ?_
     refine L_p up0 rfl rfl (P_move u3) ?_
     refine L_p (.int .i64 (o0)) rfl rfl (P_move z3) ?_
     refine L_purL (c := up0) rfl rfl .plain (P_move u3) ?_
     refine L_purL (c := .int .i64 (o0)) rfl rfl .plain (P_move z3) ?_
     refine L_purL (c := .int .i64 ((w64 (o0 - (1 : Int))))) rfl rfl .plain (P_int rfl rfl rfl) ?_
     refine L_p up0 rfl rfl (P_move u3) ?_
     refine L_p (.int .i64 (o0)) rfl rfl (P_move z3) ?_
     refine L_p (.int .i64 ((w64 (o0 - (1 : Int))))) rfl rfl (P_int rfl rfl rfl) ?_
     refine L_p (ePtr up0 (w64 (o0 - (1 : Int))) 5) rfl rfl (P_indexAddrM (α := FaultDamage) Tryz.underlying41 Tryz.sizeOf39 rfl i3 rfl v7) ?_
     refine L_ld (c := xB) rfl rfl .plain (fun _ _ h => ⟨h.ch, fun b hb _ => h.below.block b hb⟩) xA rfl ?_
     refine L_p up0 rfl rfl (P_move u3) ?_
     refine L_p (.int .i64 (o0)) rfl rfl (P_move z3) ?_
     refine L_p (ePtr up0 o0 5) rfl rfl (P_indexAddrM (α := FaultDamage) Tryz.underlying41 Tryz.sizeOf39 rfl i3 rfl c8) ?_
     refine L_ld (c := yB) rfl rfl .plain (fun _ _ h => ⟨h.ch, fun b hb _ => h.below.block b hb⟩) yA rfl ?_
     refine L_p (ePtr up0 o0 5) rfl rfl (P_indexAddrM (α := FaultDamage) Tryz.underlying41 Tryz.sizeOf39 rfl i3 rfl e8) ?_
     refine L_nl fun n9 zB hs => ?_
     have hlt : Lt d9.m vB n9 zB := hs.ch
     have hfr := hfr.ext hs
     have i3 := i3.ext hs
     have n7 := n7.ext hs
     have i6 := i6.ext hs
     clear hs
     refine TL_do hlt.w .plain rfl (D_storeM (g := n9) (α := FaultDamage) (a' := x6) Tryz.sizeOf39 rfl i3 e8 rfl n7 fun aC aD hs b582 => ?_)
     have hfr := hfr.stp hs
     have hlt := hlt.stp hs
     have i6 := i6.stp hs
     obtain ⟨aB, g8, h⟩ := bsome h
     refine TL_pur hlt.w (v := ePtr up0 (w64 (o0 - (1 : Int))) 5) (P_indexAddrM (α := FaultDamage) Tryz.underlying41 Tryz.sizeOf39 rfl b582 rfl g8) .plain rfl ?_
     refine TL_do hlt.w .plain rfl (D_storeM (g := aC) (α := FaultDamage) (a' := m7) Tryz.sizeOf39 rfl b582 g8 rfl i6 fun cC bD hs b584 => ?_)
     have hfr := hfr.stp hs
     have hlt := hlt.stp hs
     refine TL_nil hlt.w ?_
     clear hlt
     refine blk_n ?_
     obtain rfl := sinj h
     exact hQ _ _ ⟨cC, hfr, u3, b584, e9, i9, k9, l9, z3⟩
    ·clear hx
     obtain ⟨dC, hfr, o9, t9, u9, y9, z9, bA, gA⟩ := hR
     refine E_region (EL_mv gA rfl ?_)
     refine EL_in (.int .i64 ((w64 (o0 - (1 : Int))))) rfl rfl rfl rfl ?_
     refine EL_at (.int .i64 ((w64 (o0 - (1 : Int))))) rfl rfl ?_
     exact EL_nil (thn_n (pA (z4, (w64 (o0 - (1 : Int)))) _ _ ⟨dC, hfr, o9, t9, u9, y9, z9, bA, rfl⟩ h))
  ·clear hx
   obtain ⟨eC, hfr, iA, jA, kA, lA, mA, nA⟩ := hR
   refine E_region (EL_mv nA rfl ?_)
   refine EL_in (.int .i64 ((w64 (d3 + (1 : Int))))) rfl rfl rfl rfl ?_
   refine EL_at (.int .i64 ((w64 (d3 + (1 : Int))))) rfl rfl ?_
   exact EL_nil (thn_n (hk1 (i5, (w64 (d3 + (1 : Int)))) _ _ ⟨eC, hfr, iA, jA, kA, lA, mA, rfl⟩ h))
def f147 (x0 : Bool) : Option (UInt8) :=
 jn (σ := Unit) (fun _ =>
  some ((46 : UInt8))
  ) fun k2 =>
 bif x0 then
  some ((120 : UInt8))
 else
  k2 ()
theorem en147 : Enters Tryz.prog 147 := enters_of Tryz.func147 (by kernel_rfl) rfl
theorem wk147 {gI : Gh} {wI : World} {x0 : Bool}  {r : UInt8} (h : f147 x0 = some r) : Fn Tryz.prog 147 #[.bool (x0)] gI wI (fun _ _ v => v = .int .u8 (UInt8.toNat (r))) := by
 unfold f147 at h
 refine fn_of_E Tryz.func147 rfl (Nat.le_of_ble_eq_true rfl) fun g0 hm hfr => ?_
 show E _ 4 none _ _ _ _ _
 refine E_seq (E_region (EL_at (.int .u8 (UInt8.toNat 0)) rfl rfl ?_))
 refine EL_nil (thn_n (E_joinC h (fun (s : Unit) e w => ∃ (g : Gh) , Fr gI wI g w) (fun X2 k2 hk2 h => ?_) ?_))
 ·refine E_seq (E_region (EL_mw (.bool (x0)) rfl rfl ?_))
  refine EL_nil (thn_n ?_)
  rcases csome h with ⟨hc3, h⟩ | ⟨hc3, h⟩
  ·refine E_ct hc3 rfl ?_
   refine E_seq (E_region (EL_at (.int .u8 (UInt8.toNat 120)) rfl rfl ?_))
   refine EL_nil (thn_n (E_ret (thn_r ?_)))
   obtain rfl := sinj h
   exact end1 rfl rfl (show _ = .int .u8 (UInt8.toNat 120) from rfl) ⟨_, hfr, rfl⟩
  ·refine E_cf hc3 rfl ?_
   exact E_skip (thn_n (hk2 () _ _ ⟨g0, hfr⟩ h))
 ·rintro _ o0 w4 ⟨g4, hfr⟩ h
  refine E_seq (E_region (EL_at (.int .u8 (UInt8.toNat 46)) rfl rfl ?_))
  refine EL_nil (thn_n (E_ret ?_))
  obtain rfl := sinj h
  exact end1 rfl rfl (show _ = .int .u8 (UInt8.toNat 46) from rfl) ⟨_, hfr, rfl⟩
def f148 (x0 : TieTieHarness) (x1 : Int) (x2 : Int) : Option (Bool) :=
 (idx (((x0).TieHarness).Warps) x2).bind fun y5 =>
 (shr64 x1 y5).bind fun y8 =>
 some (((bit64 .and y8 (1 : Int)) == (1 : Int)))
theorem en148 : Enters Tryz.prog 148 := enters_of Tryz.func148 (by kernel_rfl) rfl
theorem wk148 {gI : Gh} {wI : World} {x0 : TieTieHarness} {x1 : Int} {x2 : Int} {up0 : Value} (rp0 : RV gI.m wI x0 up0) {r : Bool} (h : f148 x0 x1 x2 = some r) : Fn Tryz.prog 148 #[up0, .int .i64 (x1), .int .i64 (x2)] gI wI (fun _ _ v => v = .bool (r)) := by
 unfold f148 at h
 refine fn_of_E Tryz.func148 rfl (Nat.le_of_ble_eq_true rfl) fun g0 hm hfr => ?_
 have rp0 : RV g0.m wI x0 up0 := hm ▸ rp0
 show E _ 17 none _ _ _ _ _
 refine E_seq (E_region (EL_do .plain rfl (D_box (g := g0) rfl rp0 fun g1 w1 p1 hs q1 => ?_)))
 have hfr := hfr.ext hs
 refine EL_at (.bool false) rfl rfl ?_
 refine EL_nil (thn_n (E_seq (E_region (EL_mw (.int .i64 (x1)) rfl rfl ?_))))
 refine EL_p (fPtr p1 0) (P_fieldAddr at_202_0 rfl (PT.ptr q1)) rfl ?_
 have q2 := PT_field (part_TieTieHarness_0).1 q1
 refine EL_p (fPtr (fPtr p1 0) 1) (P_fieldAddr at_27_1 rfl (PT.ptr q2)) rfl ?_
 have q3 := PT_field (part_TieHarness_1).1 q2
 refine EL_do .plain rfl (D_load (g := g1) Tryz.isAgg25 Tryz.sizeOf25 rfl q3 fun v4 r4 => ?_)
 refine EL_mw (.int .i64 (x2)) rfl rfl ?_
 obtain ⟨y5, hy5, h⟩ := bsome h
 refine EL_p (ePtr v4 x2 1) (P_indexAddr (α := Int) Tryz.underlying25 Tryz.sizeOf3 rfl r4 rfl hy5) rfl ?_
 have q6 := PT_idx r4 hy5
 refine EL_do .plain rfl (D_load (g := g1) Tryz.isAgg3 Tryz.sizeOf3 rfl q6 fun v7 r7 => ?_)
 obtain rfl := RV_int.1 r7
 obtain ⟨y8, o0, h⟩ := bsome h
 refine EL_p (.int .i64 (y8)) (P_int rfl rfl (congrArg (Option.map (Value.int .i64)) o0)) rfl ?_
 refine EL_in (.int .i64 ((bit64 .and y8 (1 : Int)))) rfl rfl rfl rfl ?_
 refine EL_in (.bool (((bit64 .and y8 (1 : Int)) == (1 : Int)))) rfl rfl rfl rfl ?_
 refine EL_at (.bool (((bit64 .and y8 (1 : Int)) == (1 : Int)))) rfl rfl ?_
 refine EL_nil (thn_n (E_ret ?_))
 obtain rfl := sinj h
 exact end1 rfl rfl (show _ = .bool (((bit64 .and y8 (1 : Int)) == (1 : Int))) from rfl) ⟨_, hfr, rfl⟩
def f151 (x0 : List Int) : Option (Bool) :=
 some ((decide (((x0).length : Int) > (6 : Int))))
theorem en151 : Enters Tryz.prog 151 := enters_of Tryz.func151 (by kernel_rfl) rfl
theorem wk151 {gI : Gh} {wI : World} {x0 : List Int} {up0 : Value} (rp0 : RV gI.m wI x0 up0) {r : Bool} (h : f151 x0 = some r) : Fn Tryz.prog 151 #[up0] gI wI (fun _ _ v => v = .bool (r)) := by
 unfold f151 at h
 refine fn_of_E Tryz.func151 rfl (Nat.le_of_ble_eq_true rfl) fun g0 hm hfr => ?_
 have rp0 : RV g0.m wI x0 up0 := hm ▸ rp0
 show E _ 6 none _ _ _ _ _
 refine E_seq (E_region (EL_at (.bool false) rfl rfl ?_))
 refine EL_nil (thn_n (E_seq (E_region (EL_mw up0 rfl rfl ?_))))
 refine EL_p (.int .i64 ((x0).length : Int)) (P_len Tryz.underlying25 rfl rp0) rfl ?_
 refine EL_in (.bool ((decide (((x0).length : Int) > (6 : Int))))) rfl rfl rfl rfl ?_
 refine EL_at (.bool ((decide (((x0).length : Int) > (6 : Int))))) rfl rfl ?_
 refine EL_nil (thn_n (E_ret ?_))
 obtain rfl := sinj h
 exact end1 rfl rfl (show _ = .bool ((decide (((x0).length : Int) > (6 : Int)))) from rfl) ⟨_, hfr, rfl⟩
def f152 (x0 : List Int) (z0 : PaySheet) : Option (Bool) :=
 some ((((x0).length : Int) != ((((z0).PayTable).Down).length : Int)))
theorem en152 : Enters Tryz.prog 152 := enters_of Tryz.func152 (by kernel_rfl) rfl
theorem wk152 {gI : Gh} {wI : World} {x0 : List Int} {z0 : PaySheet} {up0 : Value} (rp0 : RV gI.m wI x0 up0) {pf0 : Value} (qf0 : PT gI.m wI z0 pf0) {r : Bool} (h : f152 x0 z0 = some r) : Fn Tryz.prog 152 #[up0, pf0] gI wI (fun _ _ v => v = .bool (r)) := by
 unfold f152 at h
 refine fn_of_E Tryz.func152 rfl (Nat.le_of_ble_eq_true rfl) fun g0 hm hfr => ?_
 have qf0 : PT g0.m wI z0 pf0 := hm ▸ qf0
 have rp0 : RV g0.m wI x0 up0 := hm ▸ rp0
 show E _ 11 none _ _ _ _ _
 refine E_seq (E_region (EL_at (.bool false) rfl rfl ?_))
 refine EL_nil (thn_n (E_seq (E_region (EL_mw up0 rfl rfl ?_))))
 refine EL_p (.int .i64 ((x0).length : Int)) (P_len Tryz.underlying25 rfl rp0) rfl ?_
 refine EL_p (fPtr pf0 0) (P_fieldAddr at_147_0 rfl (PT.ptr qf0)) rfl ?_
 have q1 := PT_field (part_PaySheet_0).1 qf0
 refine EL_p (fPtr (fPtr pf0 0) 2) (P_fieldAddr at_112_2 rfl (PT.ptr q1)) rfl ?_
 have q2 := PT_field (part_PayTable_2).1 q1
 refine EL_do .plain rfl (D_load (g := g0) Tryz.isAgg25 Tryz.sizeOf25 rfl q2 fun v3 r3 => ?_)
 refine EL_p (.int .i64 ((((z0).PayTable).Down).length : Int)) (P_len Tryz.underlying25 rfl r3) rfl ?_
 refine EL_p (.bool ((((x0).length : Int) != ((((z0).PayTable).Down).length : Int)))) (P_int rfl rfl rfl) rfl ?_
 refine EL_p (.bool ((((x0).length : Int) != ((((z0).PayTable).Down).length : Int)))) (P_assign rfl) rfl ?_
 refine EL_nil (thn_n (E_ret ?_))
 obtain rfl := sinj h
 exact end1 rfl rfl (show _ = .bool ((((x0).length : Int) != ((((z0).PayTable).Down).length : Int))) from rfl) ⟨_, hfr, rfl⟩
def f153 (x1 : Int) : Option ((List Int)) :=
 Option.bind (α := Unit) (
  bif (decide (x1 < (0 : Int))) then
   none
  else
   some ()
  ) fun (_ : Unit) =>
 Option.bind (α := (List Int)) (
  bif (decide ((w64 (x1 - (w64 (((0 : Nat) : Int) - ((([] : List Int)).length : Int))))) > (0 : Int))) then
   (grwz 8 ((w64 (x1 - (w64 (((0 : Nat) : Int) - ((([] : List Int)).length : Int))))))).bind fun _ =>
   some (([] : List Int))
  else
   some (([] : List Int))
  ) fun j1 =>
 some (j1)
theorem en153 : Enters Tryz.prog 153 := enters_of Tryz.func153 (by kernel_rfl) rfl
theorem wk153 {iO : Nat} {gI : Gh} {wI : World} {x1 : Int}  {r : (List Int)} (h : f153 x1 = some r) : FnG Tryz.prog 153 #[.slice none 0 0, .int .i64 (x1)] gI wI (fun g w v => OS iO g w 3 r v ∧ RV g.m w r v) := by
 unfold f153 at h
 refine fnG_of_E Tryz.func153 rfl (Nat.le_of_ble_eq_true rfl) fun g0 hm hfr => ?_
 show E _ 27 none _ _ _ _ _
 refine E_seq (E_region (EL_at (.slice none 0 0) rfl rfl ?_))
 refine EL_nil (thn_n ?_)
 obtain ⟨_, hx, h⟩ := bsome h
 refine E_join (fun e w => ∃ (g : Gh) , Fr gI wI g w ∧ e 0 = .slice none 0 0 ∧ RV g.m w (([] : List Int) : List Int) (Value.slice none 0 0) ∧ e 1 = .int .i64 (x1)) (fun Q' hQ => ?_) (fun z4 w3 hR => ?_)
 ·replace h := hx
  clear hx
  refine E_seq (E_region (EL_mw (.int .i64 (x1)) rfl rfl ?_))
  refine EL_in (.bool ((decide (x1 < (0 : Int))))) rfl rfl rfl rfl ?_
  refine EL_nil (thn_n ?_)
  rcases csome h with ⟨hc2, h⟩ | ⟨hc2, h⟩
  ·refine E_ct hc2 rfl ?_
   refine E_region ?_
   cases h
  ·refine E_cf hc2 rfl ?_
   refine E_skip ?_
   obtain rfl := sinj h
   exact hQ _ _ ⟨g0, hfr, rfl, RV_nil, rfl⟩
 ·clear hx
  obtain ⟨g3, hfr, o0, u0, i3⟩ := hR
  obtain ⟨j1, hx, h⟩ := bsome h
  refine E_join (fun e w => ∃ (g : Gh) (v0 : Value), Fr gI wI g w ∧ e 0 = v0 ∧ RV g.m w (j1 : List Int) v0 ∧ OS 4022 g w 3 (j1 : List Int) v0) (fun Q' hQ => ?_) (fun i5 w8 hR => ?_)
  ·replace h := hx
   clear hx
   refine E_seq (E_region (EL_mv i3 rfl ?_))
   refine EL_mv o0 rfl ?_
   refine EL_p (.int .i64 ((0 : Nat) : Int)) (P_cap Tryz.underlying25 rfl) rfl ?_
   refine EL_mv o0 rfl ?_
   refine EL_p (.int .i64 ((([] : List Int)).length : Int)) (P_len Tryz.underlying25 rfl u0) rfl ?_
   refine EL_p (.int .i64 ((w64 (((0 : Nat) : Int) - ((([] : List Int)).length : Int))))) (P_int rfl rfl rfl) rfl ?_
   refine EL_p (.int .i64 ((w64 (x1 - (w64 (((0 : Nat) : Int) - ((([] : List Int)).length : Int))))))) (P_int rfl rfl rfl) rfl ?_
   refine EL_p (.int .i64 ((w64 (x1 - (w64 (((0 : Nat) : Int) - ((([] : List Int)).length : Int))))))) (P_assign rfl) rfl ?_
   refine EL_nil (thn_n (E_seq (E_region (EL_p (.int .i64 ((w64 (x1 - (w64 (((0 : Nat) : Int) - ((([] : List Int)).length : Int))))))) (P_move rfl) rfl ?_))))
   refine EL_p (.bool ((decide ((w64 (x1 - (w64 (((0 : Nat) : Int) - ((([] : List Int)).length : Int))))) > (0 : Int))))) (P_int rfl rfl rfl) rfl ?_
   refine EL_nil (thn_n ?_)
   rcases csome h with ⟨z2, h⟩ | ⟨z2, h⟩
   ·refine E_ct z2 rfl ?_
    refine E_region (EL_mv o0 rfl ?_)
    refine EL_mv o0 rfl ?_
    refine EL_p (.int .i64 ((0 : Nat) : Int)) (P_cap Tryz.underlying25 rfl) rfl ?_
    refine EL_p (.slice none 0 0) (P_cutN Tryz.underlying25 Tryz.sizeOf3 rfl rfl (fun p hp => by cases hp)) rfl ?_
    refine EL_p (.int .i64 ((w64 (x1 - (w64 (((0 : Nat) : Int) - ((([] : List Int)).length : Int))))))) (P_move rfl) rfl ?_
    obtain ⟨y7, z3, h⟩ := bsome h
    refine EL_do .plain rfl (D_growZ (g := g3) (α := Int) 4022 Tryz.underlying25 Tryz.underlying3 info_3 rfl (Nat.le_of_ble_eq_true rfl) rfl rfl z3 fun g7 w7 b7 c7 m7 hs o7 r7 => ?_)
    have hfr := hfr.stp hs
    have u0 := u0.stp hs
    refine EL_mv o0 rfl ?_
    refine EL_p (.int .i64 ((([] : List Int)).length : Int)) (P_len Tryz.underlying25 rfl u0) rfl ?_
    refine EL_p ((.slice (some ⟨b7, 0, none⟩) 0 c7)) (P_cutN Tryz.underlying25 Tryz.sizeOf3 rfl rfl (fun p hp => by cases hp; rfl)) rfl ?_
    refine EL_at ((.slice (some ⟨b7, 0, none⟩) 0 c7)) rfl rfl ?_
    refine EL_nil ?_
    obtain rfl := sinj h
    exact hQ _ _ ⟨g7, ((.slice (some ⟨b7, 0, none⟩) 0 c7)), hfr, rfl, r7, o7⟩
   ·refine E_cf z2 rfl ?_
    refine E_skip ?_
    obtain rfl := sinj h
    exact hQ _ _ ⟨g3, (.slice none 0 0), hfr, o0, u0, OS.nil⟩
  ·clear hx
   obtain ⟨g8, d3, hfr, j3, o3, u3⟩ := hR
   refine E_seq (E_region (EL_mv j3 rfl ?_))
   refine EL_at d3 rfl rfl ?_
   refine EL_nil (thn_n (E_ret ?_))
   obtain rfl := sinj h
   obtain ⟨gh, hxh, homh, hrvh⟩ := OS.handn (i := iO) hfr u3 o3
   exact end1 rfl rfl (show _ = d3 from rfl) ⟨gh, hxh, homh, hrvh⟩
def f159 (x0 : List Int) (x1 : Int) (x2 : Int) (x3 : Int) (x4 : Int → Int → Option Int) : Option ((List Int)) :=
 lp (σ := (List Int) × Int) (fun k1 (u0, o0) =>
  jn (σ := Unit) (fun _ =>
   Option.bind (α := (List Int)) (
    (idx u0 (w64 (x2 + o0))).bind fun j3 =>
    (idx u0 (w64 (x1 + o0))).bind fun y44 =>
    (idx u0 (w64 (x1 + o0))).bind fun n7 =>
    (idx ((List.set u0 (Int.toNat (w64 (x1 + o0))) j3)) (w64 (x2 + o0))).bind fun o7 =>
    some ((List.set ((List.set u0 (Int.toNat (w64 (x1 + o0))) j3)) (Int.toNat (w64 (x2 + o0))) y44))
    ) fun d3 =>
   k1 (d3, (w64 (o0 + (1 : Int))))
   ) fun k4 =>
  bif (decide (o0 < x3)) then
   k4 ()
  else
   some (u0)
  ) big (x0, (0 : Int))
theorem en159 : Enters Tryz.prog 159 := enters_of Tryz.func159 (by kernel_rfl) rfl
theorem wk159 {iI : Nat} {gI : Gh} {wI : World} {x0 : List Int} {x1 : Int} {x2 : Int} {x3 : Int} {x4 : Int → Int → Option Int} {up0 : Value} (mp0 : OM iI gI wI 3 x0 up0) {up4 : Value} (rp4 : FnV2 Tryz.prog x4 up4 gI wI) {r : (List Int)} (h : f159 x0 x1 x2 x3 x4 = some r) : FnM Tryz.prog 159 #[up0, .int .i64 (x1), .int .i64 (x2), .int .i64 (x3), up4] iI gI wI (fun g w v => v = .tuple #[] ∧ OM iI g w 3 r up0) := by
 unfold f159 at h
 refine fnM_of_E Tryz.func159 rfl (Nat.le_of_ble_eq_true rfl) fun g0 hm hfr => ?_
 have j6 := mp0
 replace mp0 := mp0.enter
 rw [← hm] at mp0
 replace hm : g0.m = gI.m := by rw [hm]
 obtain ⟨ff4, fa4, fc4, rfl, fen4, fcl4⟩ := rp4
 show E _ 38 none _ _ _ _ _
 refine E_seq (E_region (EL_at (.int .i64 (0)) rfl rfl ?_))
 refine EL_nil (thn_n (E_block ?_))
 refine E_lp h (fun (s : (List Int) × Int) e w => ∃ (g : Gh) , FrM iI gI wI g w ∧ e 0 = up0 ∧ OM 1 g w 3 (s.1 : List Int) up0 ∧ e 1 = .int .i64 (x1) ∧ e 2 = .int .i64 (x2) ∧ e 3 = .int .i64 (x3) ∧ e 10 = .int .i64 (s.2)) ⟨g0, hfr, rfl, mp0, rfl, rfl, rfl, rfl⟩ (fun X1 k1 hk1 => ?_)
 rintro ⟨u0, o0⟩ l8 w2 ⟨g2, hfr, d7, z4, e7, g7, i5, z3⟩ h
 refine E_joinC h (fun (s : Unit) e w => ∃ (g : Gh) , FrM iI gI wI g w ∧ e 0 = up0 ∧ OM 1 g w 3 (u0 : List Int) up0 ∧ e 1 = .int .i64 (x1) ∧ e 2 = .int .i64 (x2) ∧ e 3 = .int .i64 (x3) ∧ e 10 = .int .i64 (o0)) (fun X4 k4 hk4 h => ?_) ?_
 ·refine E_seq (E_region (EL_mv z3 rfl ?_))
  refine EL_mv i5 rfl ?_
  refine EL_in (.bool ((decide (o0 < x3)))) rfl rfl rfl rfl ?_
  refine EL_nil (thn_n ?_)
  rcases csome h with ⟨hc5, h⟩ | ⟨hc5, h⟩
  ·refine E_ct hc5 rfl ?_
   exact E_skip (thn_n (hk4 () _ _ ⟨g2, hfr, d7, z4, e7, g7, i5, z3⟩ h))
  ·refine E_cf hc5 rfl ?_
   refine E_exit ?_
   refine thn_e ?_
   refine thn_e ?_
   refine blk_hit ?_
   obtain rfl := sinj h
   exact end0n rfl rfl ⟨_, hfr, rfl, j6.back z4⟩
 ·rintro _ m8 w6 ⟨g6, hfr, i3, j1, o3, u3, i7, z2⟩ h
  obtain ⟨d3, hx, h⟩ := bsome h
  refine E_join (fun e w => ∃ (g : Gh) , FrM iI gI wI g w ∧ e 0 = up0 ∧ OM 1 g w 3 (d3 : List Int) up0 ∧ e 1 = .int .i64 (x1) ∧ e 2 = .int .i64 (x2) ∧ e 3 = .int .i64 (x3) ∧ e 10 = .int .i64 (o0)) (fun Q' hQ => ?_) (fun k8 n8 hR => ?_)
  ·replace h := hx
   clear hx
   refine E_block ?_
   obtain ⟨j3, l5, h⟩ := bsome h
   refine L_loadM (x := .tmp 28) Tryz.isAgg3 Tryz.sizeOf3 j1 l5 fun o8 u7 j7 => ?_
   obtain rfl := RV_int.1 u7
   obtain ⟨y44, q5, h⟩ := bsome h
   refine L_loadM (x := .tmp 34) Tryz.isAgg3 Tryz.sizeOf3 j1 q5 fun q8 v7 m7 => ?_
   obtain rfl := RV_int.1 v7
   obtain ⟨n7, t5, h⟩ := bsome h
   refine E_drawTL (g := g6) (n := 21) [4, 5, 6, 7] [] [0, 1, 2, 3, 4, 5, 6, 7, 8, 9, 10, 11, 12, 13, 14, 15, 16, 17, 18, 19, 20] rfl mixed (by kernel_rfl) trivial rfl ?_
   refine L_p up0 rfl rfl (P_move i3) ?_
   refine L_p (.int .i64 (x1)) rfl rfl (P_move o3) ?_
   refine L_p (.int .i64 (o0)) rfl rfl (P_move z2) ?_
   refine L_p (.int .i64 ((w64 (x1 + o0)))) rfl rfl (P_int rfl rfl rfl) ?_
   refine L_purL (c := up0) rfl rfl .plain (P_move i3) ?_
   refine L_purL (c := .int .i64 (x2)) rfl rfl .plain (P_move u3) ?_
   refine L_purL (c := .int .i64 (o0)) rfl rfl .plain (P_move z2) ?_
   refine L_purL (c := .int .i64 ((w64 (x2 + o0)))) rfl rfl .plain (P_int rfl rfl rfl) ?_
   refine L_p up0 rfl rfl (P_move i3) ?_
   refine L_p (.int .i64 (x2)) rfl rfl (P_move u3) ?_
   refine L_p (.int .i64 (o0)) rfl rfl (P_move z2) ?_
   refine L_p (.int .i64 ((w64 (x2 + o0)))) rfl rfl (P_int rfl rfl rfl) ?_
   refine L_p (ePtr up0 (w64 (x2 + o0)) 1) rfl rfl (P_indexAddrM (α := Int) Tryz.underlying25 Tryz.sizeOf3 rfl j1 rfl l5) ?_
   refine L_ld (c := .int .i64 (j3)) rfl rfl .plain (fun _ _ h => ⟨h.ch, fun b hb _ => h.below.block b hb⟩) j7 rfl ?_
   refine L_p up0 rfl rfl (P_move i3) ?_
   refine L_p (.int .i64 (x1)) rfl rfl (P_move o3) ?_
   refine L_p (.int .i64 (o0)) rfl rfl (P_move z2) ?_
   refine L_p (.int .i64 ((w64 (x1 + o0)))) rfl rfl (P_int rfl rfl rfl) ?_
   refine L_p (ePtr up0 (w64 (x1 + o0)) 1) rfl rfl (P_indexAddrM (α := Int) Tryz.underlying25 Tryz.sizeOf3 rfl j1 rfl q5) ?_
   refine L_ld (c := .int .i64 (y44)) rfl rfl .plain (fun _ _ h => ⟨h.ch, fun b hb _ => h.below.block b hb⟩) m7 rfl ?_
   refine L_p (ePtr up0 (w64 (x1 + o0)) 1) rfl rfl (P_indexAddrM (α := Int) Tryz.underlying25 Tryz.sizeOf3 rfl j1 rfl t5) ?_
   refine L_nl fun c7 c8 hs => ?_
   have hlt : Lt g6.m w6 c7 c8 := hs.ch
   have hfr := hfr.ext hs
   have j1 := j1.ext hs
   clear hs
   refine TL_do hlt.w .plain rfl (D_storeM (g := c7) (α := Int) (a' := j3) Tryz.sizeOf3 rfl j1 t5 rfl (RV_int.2 rfl) fun e8 r8 hs b75 => ?_)
   have hfr := hfr.stp hs
   have hlt := hlt.stp hs
   obtain ⟨o7, x5, h⟩ := bsome h
   refine TL_pur hlt.w (v := ePtr up0 (w64 (x2 + o0)) 1) (P_indexAddrM (α := Int) Tryz.underlying25 Tryz.sizeOf3 rfl b75 rfl x5) .plain rfl ?_
   refine TL_do hlt.w .plain rfl (D_storeM (g := e8) (α := Int) (a' := y44) Tryz.sizeOf3 rfl b75 x5 rfl (RV_int.2 rfl) fun g8 t8 hs b77 => ?_)
   have hfr := hfr.stp hs
   have hlt := hlt.stp hs
   refine TL_nil hlt.w ?_
   clear hlt
   refine blk_n ?_
   obtain rfl := sinj h
   exact hQ _ _ ⟨g8, hfr, i3, b77, o3, u3, i7, z2⟩
  ·clear hx
   obtain ⟨i8, hfr, v6, x6, y6, a7, b7, i6⟩ := hR
   refine E_region (EL_mv i6 rfl ?_)
   refine EL_in (.int .i64 ((w64 (o0 + (1 : Int))))) rfl rfl rfl rfl ?_
   refine EL_at (.int .i64 ((w64 (o0 + (1 : Int))))) rfl rfl ?_
   exact EL_nil (thn_n (hk1 (d3, (w64 (o0 + (1 : Int)))) _ _ ⟨i8, hfr, v6, x6, y6, a7, b7, rfl⟩ h))
def f162 (x0 : List (List Int)) (x1 : (List Int) → Option Bool) : Option (Int) :=
 jn (σ := Unit) (fun _ =>
  some ((-1 : Int))
  ) fun k18 =>
 lp (σ := Int) (fun k19 o0 =>
  bif (decide (o0 < ((x0).length : Int))) then
   jn (σ := Unit) (fun _ =>
    k19 ((w64 (o0 + (1 : Int))))
    ) fun k28 =>
   (idx x0 o0).bind fun x5 =>
   (x1 x5).bind fun i6 =>
   bif i6 then
    some (o0)
   else
    k28 ()
  else
   k18 ()
  ) big ((0 : Int))
theorem en162 : Enters Tryz.prog 162 := enters_of Tryz.func162 (by kernel_rfl) rfl
theorem wk162 {gI : Gh} {wI : World} {x0 : List (List Int)} {x1 : (List Int) → Option Bool} {up0 : Value} (rp0 : RV gI.m wI x0 up0) {up1 : Value} (rp1 : FnV1 Tryz.prog x1 up1 gI wI) {r : Int} (h : f162 x0 x1 = some r) : Fn Tryz.prog 162 #[up0, up1] gI wI (fun _ _ v => v = .int .i64 (r)) := by
 unfold f162 at h
 refine fn_of_E Tryz.func162 rfl (Nat.le_of_ble_eq_true rfl) fun g0 hm hfr => ?_
 have rp0 : RV g0.m wI x0 up0 := hm ▸ rp0
 obtain ⟨ff1, fa1, fc1, rfl, fen1, fcl1⟩ := rp1
 show E _ 19 none _ _ _ _ _
 refine E_seq (E_region (EL_at (.int .i64 (0)) rfl rfl ?_))
 refine EL_nil (thn_n (E_joinC h (fun (s : Unit) e w => ∃ (g : Gh) , Fr gI wI g w) (fun X18 k18 j6 h => ?_) ?_))
 ·refine E_seq (E_region (EL_mw up0 rfl rfl ?_))
  refine EL_p (.int .i64 ((x0).length : Int)) (P_len Tryz.underlying110 rfl rp0) rfl ?_
  refine EL_mw (.int .i64 (0)) rfl rfl ?_
  refine EL_nil (thn_n (E_block ?_))
  refine E_lp h (fun (s : Int) e w => ∃ (g : Gh) , Fr gI wI g w ∧ e 0 = up0 ∧ RV g.m w (x0 : List (List Int)) up0 ∧ e 1 = (.func (.func ff1) fa1 fc1) ∧ e 7 = .int .i64 (((x0).length : Int)) ∧ e 8 = .int .i64 (s)) ⟨g0, hfr, rfl, rp0, rfl, rfl, rfl⟩ (fun X19 k19 v6 => ?_)
  rintro o0 g7 m7 ⟨u3, hfr, i3, u0, j3, o3, j1⟩ h
  refine E_seq (E_region (EL_in (.bool ((decide (o0 < ((x0).length : Int))))) j1 o3 rfl rfl ?_))
  refine EL_nil (thn_n (E_seq ?_))
  rcases csome h with ⟨z2, h⟩ | ⟨z2, h⟩
  ·refine E_ct z2 rfl ?_
   refine E_skip (thn_n (E_joinC h (fun (s : Unit) e w => ∃ (g : Gh) , Fr gI wI g w ∧ e 0 = up0 ∧ RV g.m w (x0 : List (List Int)) up0 ∧ e 1 = (.func (.func ff1) fa1 fc1) ∧ e 7 = .int .i64 (((x0).length : Int)) ∧ e 8 = .int .i64 (o0)) (fun X28 k28 x6 h => ?_) ?_))
   ·refine E_block ?_
    refine E_seq (E_region (EL_mv j1 rfl ?_))
    refine EL_at (.int .i64 (o0)) rfl rfl ?_
    refine EL_nil (thn_n (E_seq (E_region (EL_mv j3 rfl ?_))))
    refine EL_mv i3 rfl ?_
    refine EL_mw (.int .i64 (o0)) rfl rfl ?_
    obtain ⟨x5, z3, h⟩ := bsome h
    refine EL_p (ePtr up0 o0 1) (P_indexAddr (α := List Int) Tryz.underlying110 Tryz.sizeOf25 rfl u0 rfl z3) rfl ?_
    have a7 := PT_idx u0 z3
    refine EL_do .plain rfl (D_load (g := u3) Tryz.isAgg25 Tryz.sizeOf25 rfl a7 fun b7 c7 => ?_)
    obtain ⟨i6, y6, h⟩ := bsome h
    refine EL_do .plain rfl (D_callv (g := u3) (vs := [b7]) rfl fen1 (.cons rfl .nil) (fcl1 _ _ hfr.ch _ _ _  c7 y6) fun d7 n7 o7 hs hr => ?_)
    have hfr := hfr.ext hs
    have u0 := u0.ext hs
    obtain rfl := RV_bool.1 hr
    refine EL_nil (thn_n ?_)
    rcases csome h with ⟨d3, h⟩ | ⟨d3, h⟩
    ·refine E_ct d3 rfl ?_
     refine E_seq (E_region (EL_mw (.int .i64 (o0)) rfl rfl ?_))
     refine EL_at (.int .i64 (o0)) rfl rfl ?_
     refine EL_nil (thn_n (E_ret (blk_r ?_)))
     refine thn_r ?_
     refine thn_r ?_
     refine blk_r ?_
     refine thn_r ?_
     obtain rfl := sinj h
     exact end1 rfl rfl (show _ = .int .i64 (o0) from rfl) ⟨_, hfr, rfl⟩
    ·refine E_cf d3 rfl ?_
     exact E_skip (blk_n (thn_n (x6 () _ _ ⟨d7, hfr, i3, u0, j3, o3, j1⟩ h)))
   ·rintro _ i7 u7 ⟨e7, hfr, z4, i5, l5, q5, t5⟩ h
    refine E_region (EL_in (.int .i64 ((w64 (o0 + (1 : Int))))) t5 rfl rfl rfl ?_)
    refine EL_mw (.int .i64 ((w64 (o0 + (1 : Int))))) rfl rfl ?_
    exact EL_nil (thn_n (v6 ((w64 (o0 + (1 : Int)))) _ _ ⟨e7, hfr, z4, i5, l5, q5, rfl⟩ h))
  ·refine E_cf z2 rfl ?_
   refine E_exit ?_
   refine thn_e ?_
   refine thn_e ?_
   refine blk_hit ?_
   exact thn_n (j6 () _ _ ⟨u3, hfr⟩ h)
 ·rintro _ j7 v7 ⟨c8, hfr⟩ h
  refine E_seq (E_region (EL_at (.int .i64 (-1)) rfl rfl ?_))
  refine EL_nil (thn_n (E_ret ?_))
  obtain rfl := sinj h
  exact end1 rfl rfl (show _ = .int .i64 (-1) from rfl) ⟨_, hfr, rfl⟩
def f164 (x0 : List FaultDamage) (x1 : Int) (x2 : Int) (x3 : Int) (x4 : FaultDamage → FaultDamage → Option Int) : Option ((List FaultDamage)) :=
 lp (σ := (List FaultDamage) × Int) (fun k1 (u0, o0) =>
  jn (σ := Unit) (fun _ =>
   Option.bind (α := (List FaultDamage)) (
    (idx u0 (w64 (x2 + o0))).bind fun z3 =>
    (idx u0 (w64 (x1 + o0))).bind fun y44 =>
    (idx u0 (w64 (x1 + o0))).bind fun u7 =>
    (idx ((List.set u0 (Int.toNat (w64 (x1 + o0))) z3)) (w64 (x2 + o0))).bind fun v7 =>
    some ((List.set ((List.set u0 (Int.toNat (w64 (x1 + o0))) z3)) (Int.toNat (w64 (x2 + o0))) y44))
    ) fun d3 =>
   k1 (d3, (w64 (o0 + (1 : Int))))
   ) fun k4 =>
  bif (decide (o0 < x3)) then
   k4 ()
  else
   some (u0)
  ) big (x0, (0 : Int))
theorem en164 : Enters Tryz.prog 164 := enters_of Tryz.func164 (by kernel_rfl) rfl
theorem wk164 {iI : Nat} {gI : Gh} {wI : World} {x0 : List FaultDamage} {x1 : Int} {x2 : Int} {x3 : Int} {x4 : FaultDamage → FaultDamage → Option Int} {up0 : Value} (mp0 : OM iI gI wI 39 x0 up0) {up4 : Value} (rp4 : FnV2 Tryz.prog x4 up4 gI wI) {r : (List FaultDamage)} (h : f164 x0 x1 x2 x3 x4 = some r) : FnM Tryz.prog 164 #[up0, .int .i64 (x1), .int .i64 (x2), .int .i64 (x3), up4] iI gI wI (fun g w v => v = .tuple #[] ∧ OM iI g w 39 r up0) := by
 unfold f164 at h
 refine fnM_of_E Tryz.func164 rfl (Nat.le_of_ble_eq_true rfl) fun g0 hm hfr => ?_
 have x6 := mp0
 replace mp0 := mp0.enter
 rw [← hm] at mp0
 replace hm : g0.m = gI.m := by rw [hm]
 obtain ⟨ff4, fa4, fc4, rfl, fen4, fcl4⟩ := rp4
 show E _ 38 none _ _ _ _ _
 refine E_seq (E_region (EL_at (.int .i64 (0)) rfl rfl ?_))
 refine EL_nil (thn_n (E_block ?_))
 refine E_lp h (fun (s : (List FaultDamage) × Int) e w => ∃ (g : Gh) , FrM iI gI wI g w ∧ e 0 = up0 ∧ OM 1 g w 39 (s.1 : List FaultDamage) up0 ∧ e 1 = .int .i64 (x1) ∧ e 2 = .int .i64 (x2) ∧ e 3 = .int .i64 (x3) ∧ e 10 = .int .i64 (s.2)) ⟨g0, hfr, rfl, mp0, rfl, rfl, rfl, rfl⟩ (fun X1 k1 hk1 => ?_)
 rintro ⟨u0, o0⟩ n8 w2 ⟨g2, hfr, g7, i5, i7, j7, l5, z4⟩ h
 refine E_joinC h (fun (s : Unit) e w => ∃ (g : Gh) , FrM iI gI wI g w ∧ e 0 = up0 ∧ OM 1 g w 39 (u0 : List FaultDamage) up0 ∧ e 1 = .int .i64 (x1) ∧ e 2 = .int .i64 (x2) ∧ e 3 = .int .i64 (x3) ∧ e 10 = .int .i64 (o0)) (fun X4 k4 hk4 h => ?_) ?_
 ·refine E_seq (E_region (EL_mv z4 rfl ?_))
  refine EL_mv l5 rfl ?_
  refine EL_in (.bool ((decide (o0 < x3)))) rfl rfl rfl rfl ?_
  refine EL_nil (thn_n ?_)
  rcases csome h with ⟨hc5, h⟩ | ⟨hc5, h⟩
  ·refine E_ct hc5 rfl ?_
   exact E_skip (thn_n (hk4 () _ _ ⟨g2, hfr, g7, i5, i7, j7, l5, z4⟩ h))
  ·refine E_cf hc5 rfl ?_
   refine E_exit ?_
   refine thn_e ?_
   refine thn_e ?_
   refine blk_hit ?_
   obtain rfl := sinj h
   exact end0n rfl rfl ⟨_, hfr, rfl, x6.back i5⟩
 ·rintro _ o8 w6 ⟨g6, hfr, i3, j1, o3, u3, m7, z2⟩ h
  obtain ⟨d3, hx, h⟩ := bsome h
  refine E_join (fun e w => ∃ (g : Gh) , FrM iI gI wI g w ∧ e 0 = up0 ∧ OM 1 g w 39 (d3 : List FaultDamage) up0 ∧ e 1 = .int .i64 (x1) ∧ e 2 = .int .i64 (x2) ∧ e 3 = .int .i64 (x3) ∧ e 10 = .int .i64 (o0)) (fun Q' hQ => ?_) (fun m8 q8 hR => ?_)
  ·replace h := hx
   clear hx
   refine E_block ?_
   obtain ⟨z3, q5, h⟩ := bsome h
   refine L_loadM (x := .tmp 28) Tryz.isAgg39 Tryz.sizeOf39 j1 q5 fun c8 t5 n7 => ?_
   obtain ⟨y44, x5, h⟩ := bsome h
   refine L_loadM (x := .tmp 34) Tryz.isAgg39 Tryz.sizeOf39 j1 x5 fun e8 j3 o7 => ?_
   obtain ⟨u7, i6, h⟩ := bsome h
   refine E_drawTL (g := g6) (n := 21) [4, 5, 6, 7] [] [0, 1, 2, 3, 4, 5, 6, 7, 8, 9, 10, 11, 12, 13, 14, 15, 16, 17, 18, 19, 20] rfl mixed (by kernel_rfl) trivial rfl ?_
   refine L_p up0 rfl rfl (P_move i3) ?_
   refine L_p (.int .i64 (x1)) rfl rfl (P_move o3) ?_
   refine L_p (.int .i64 (o0)) rfl rfl (P_move z2) ?_
   refine L_p (.int .i64 ((w64 (x1 + o0)))) rfl rfl (P_int rfl rfl rfl) ?_
   refine L_purL (c := up0) rfl rfl .plain (P_move i3) ?_
   refine L_purL (c := .int .i64 (x2)) rfl rfl .plain (P_move u3) ?_
   refine L_purL (c := .int .i64 (o0)) rfl rfl .plain (P_move z2) ?_
   refine L_purL (c := .int .i64 ((w64 (x2 + o0)))) rfl rfl .plain (P_int rfl rfl rfl) ?_
   refine L_p up0 rfl rfl (P_move i3) ?_
   refine L_p (.int .i64 (x2)) rfl rfl (P_move u3) ?_
   refine L_p (.int .i64 (o0)) rfl rfl (P_move z2) ?_
   refine L_p (.int .i64 ((w64 (x2 + o0)))) rfl rfl (P_int rfl rfl rfl) ?_
   refine L_p (ePtr up0 (w64 (x2 + o0)) 5) rfl rfl (P_indexAddrM (α := FaultDamage) Tryz.underlying41 Tryz.sizeOf39 rfl j1 rfl q5) ?_
   refine L_ld (c := c8) rfl rfl .plain (fun _ _ h => ⟨h.ch, fun b hb _ => h.below.block b hb⟩) n7 rfl ?_
   refine L_p up0 rfl rfl (P_move i3) ?_
   refine L_p (.int .i64 (x1)) rfl rfl (P_move o3) ?_
   refine L_p (.int .i64 (o0)) rfl rfl (P_move z2) ?_
   refine L_p (.int .i64 ((w64 (x1 + o0)))) rfl rfl (P_int rfl rfl rfl) ?_
   refine L_p (ePtr up0 (w64 (x1 + o0)) 5) rfl rfl (P_indexAddrM (α := FaultDamage) Tryz.underlying41 Tryz.sizeOf39 rfl j1 rfl x5) ?_
   refine L_ld (c := e8) rfl rfl .plain (fun _ _ h => ⟨h.ch, fun b hb _ => h.below.block b hb⟩) o7 rfl ?_
   refine L_p (ePtr up0 (w64 (x1 + o0)) 5) rfl rfl (P_indexAddrM (α := FaultDamage) Tryz.underlying41 Tryz.sizeOf39 rfl j1 rfl i6) ?_
   refine L_nl fun e7 g8 hs => ?_
   have hlt : Lt g6.m w6 e7 g8 := hs.ch
   have hfr := hfr.ext hs
   have j1 := j1.ext hs
   have t5 := t5.ext hs
   have j3 := j3.ext hs
   clear hs
   refine TL_do hlt.w .plain rfl (D_storeM (g := e7) (α := FaultDamage) (a' := z3) Tryz.sizeOf39 rfl j1 i6 rfl t5 fun i8 r8 hs b75 => ?_)
   have hfr := hfr.stp hs
   have hlt := hlt.stp hs
   have j3 := j3.stp hs
   obtain ⟨v7, j6, h⟩ := bsome h
   refine TL_pur hlt.w (v := ePtr up0 (w64 (x2 + o0)) 5) (P_indexAddrM (α := FaultDamage) Tryz.underlying41 Tryz.sizeOf39 rfl b75 rfl j6) .plain rfl ?_
   refine TL_do hlt.w .plain rfl (D_storeM (g := i8) (α := FaultDamage) (a' := y44) Tryz.sizeOf39 rfl b75 j6 rfl j3 fun k8 t8 hs b77 => ?_)
   have hfr := hfr.stp hs
   have hlt := hlt.stp hs
   refine TL_nil hlt.w ?_
   clear hlt
   refine blk_n ?_
   obtain rfl := sinj h
   exact hQ _ _ ⟨k8, hfr, i3, b77, o3, u3, m7, z2⟩
  ·clear hx
   obtain ⟨l8, hfr, y6, a7, b7, c7, d7, v6⟩ := hR
   refine E_region (EL_mv v6 rfl ?_)
   refine EL_in (.int .i64 ((w64 (o0 + (1 : Int))))) rfl rfl rfl rfl ?_
   refine EL_at (.int .i64 ((w64 (o0 + (1 : Int))))) rfl rfl ?_
   exact EL_nil (thn_n (hk1 (d3, (w64 (o0 + (1 : Int)))) _ _ ⟨l8, hfr, y6, a7, b7, c7, d7, rfl⟩ h))
def f5 (x0 : UInt8) (x1 : List UInt16) : Option (FaultLoom) :=
 (f24 x0 x1).bind fun y3 =>
 Option.bind (α := FaultLoom) (
  lp (σ := FaultLoom × Int) (fun nA (d3, j1) =>
   jn (σ := Unit) (fun _ =>
    Option.bind (α := FaultLoom) (
     (apnd 8 (((d3).Harness).Warps) (([j1] : List Int))).bind fun y71 =>
     some ({ d3 with Harness := { (d3).Harness with Warps := y71 } })
     ) fun l5 =>
    nA (l5, (w64 (j1 + (1 : Int))))
    ) fun oA =>
   bif (decide (j1 < ((d3).Design).Hooks)) then
    oA ()
   else
    some (d3)
   ) big ((⟨(⟨(y3).Hooks, []⟩ : TieHarness), y3⟩ : FaultLoom), (0 : Int))
  ) fun o3 =>
 Option.bind (α := FaultLoom) (
  lp (σ := FaultLoom × Int) (fun e8 (i3, o0) =>
   jn (σ := Unit) (fun _ =>
    Option.bind (α := FaultLoom) (
     (apnd 8 (((i3).Harness).Warps) (([o0] : List Int))).bind fun i7 =>
     some ({ i3 with Harness := { (i3).Harness with Warps := i7 } })
     ) fun i5 =>
    e8 (i5, (w64 (o0 - (1 : Int))))
    ) fun g8 =>
   bif (decide (o0 > (0 : Int))) then
    g8 ()
   else
    some (i3)
   ) big (o3, (w64 (((o3).Design).Hooks - (2 : Int))))
  ) fun q5 =>
 some (q5)
theorem en5 : Enters Tryz.prog 5 := enters_of Tryz.func5 (by kernel_rfl) rfl
theorem wk5 {gI : Gh} {wI : World} {x0 : UInt8} {x1 : List UInt16} {up1 : Value} (rp1 : RV gI.m wI x1 up1) {r : FaultLoom} (h : f5 x0 x1 = some r) : Fn Tryz.prog 5 #[.int .u8 (UInt8.toNat (x0)), up1] gI wI (fun m w v => RV m w (r) v) := by
 unfold f5 at h
 refine fn_of_E Tryz.func5 rfl (Nat.le_of_ble_eq_true rfl) fun g0 hm hfr => ?_
 have rp1 : RV g0.m wI x1 up1 := hm ▸ rp1
 show E _ 49 none _ _ _ _ _
 refine E_seq (E_region (EL_do .plain rfl (D_allocOc (g := g0) 2004 (⟨⟨0, []⟩, ⟨0, []⟩⟩ : FaultLoom) Tryz.zeroValue31 (fun m w => ⟨_, (rep_two (rep_two rep_int rep_nil) (rep_two rep_int rep_nil)), rfl⟩) fun g1 w1 p1 hs b1 cb => ?_)))
 have hfr := hfr.stp hs
 have rp1 := rp1.stp hs
 have u3 : OSF 2004 60401 1 g1 w1 3 31 ([] : List Int) p1 := cb.osf (by rfl)
 have z3 : OSF 2004 60403 3 g1 w1 3 31 ([] : List Int) p1 := cb.osf (by rfl)
 clear cb
 refine EL_nil (thn_n (E_seq (E_region (EL_mw (.int .u8 (UInt8.toNat (x0))) rfl rfl ?_))))
 refine EL_mw up1 rfl rfl ?_
 obtain ⟨y3, hy3, h⟩ := bsome h
 refine EL_do .plain rfl (D_call (g := g1) (vs := [.int .u8 (UInt8.toNat (x0)), up1]) en24 (.cons rfl (.cons rfl .nil)) (wk24 rp1 hy3) fun g2 w2_ v2 hs hr => ?_)
 have hfr := hfr.ext hs
 have u3 := u3.ext hs
 have z3 := z3.ext hs
 have b1 := b1.ext hs
 have r2 := hr
 have r4 : RV g2.m _ (⟨⟨0, []⟩, y3⟩ : FaultLoom) (.agg (setCh [[.int .i64 0, .slice none 0 0], [.int .i64 0, .slice none 0 0]] [(1, v2)]).flatten.toArray) := RV_build rfl (rep_pair ((rep_two rep_int rep_nil)) (rep_last (RV.cells r2)))
 generalize pA : (Value.agg (setCh [[.int .i64 0, .slice none 0 0], [.int .i64 0, .slice none 0 0]] [(1, v2)]).flatten.toArray) = v4 at r4
 refine EL_p v4 (pA ▸ P_build (vs := [(1, v2)]) [[.int .i64 0, .slice none 0 0], [.int .i64 0, .slice none 0 0]] lay_31 rfl rfl (.cons rfl .nil) ⟨⟨_, rfl, cells_size r2⟩, trivial⟩) rfl ?_
 refine EL_do .plain rfl (D_allocOc (g := g2) 2005 (⟨⟨0, []⟩, ⟨0, []⟩⟩ : FaultLoom) Tryz.zeroValue31 (fun m w => ⟨_, (rep_two (rep_two rep_int rep_nil) (rep_two rep_int rep_nil)), rfl⟩) fun g5 w5 p5 hs b5 cb => ?_)
 have hfr := hfr.stp hs
 have u3 := u3.stp hs rfl
 have z3 := z3.stp hs rfl
 have b1 := b1.stp hs rfl
 have r4 := r4.stp hs
 have iC : OSF 2005 60501 1 g5 w5 3 31 ([] : List Int) p5 := cb.osf (by rfl)
 have jC : OSF 2005 60503 3 g5 w5 3 31 ([] : List Int) p5 := cb.osf (by rfl)
 clear cb
 refine EL_do .plain rfl (D_storeOc (g := g5) (v := v4) Tryz.sizeOf31 rfl b5 rfl r4 fun g6 w6 hs b6 cb => ?_)
 have kC : OSF 2005 60501 1 g6 w6 3 31 ([] : List Int) p5 := cb.osf (by rw [← pA]; rfl)
 clear cb
 have hfr := hfr.stp hs
 have u3 := u3.stp hs rfl
 have z3 := z3.stp hs rfl
 have b1 := b1.stp hs rfl
 refine EL_nil (thn_n (E_seq (E_region (EL_p (fPtr p5 2) (P_fieldAddr at_31_1 rfl (OB.ptr b6)) rfl ?_))))
 refine EL_p (fPtr p5 2) (P_fieldAddr2 (o1 := 2) rfl at_29_0 rfl (OB.ptr b6)) rfl ?_
 refine EL_do .plain rfl (D_loadF (g := g6) (SubS.comp part_FaultLoom_1 part_Design_0 rfl).1 Tryz.isAgg3 Tryz.sizeOf3 rfl b6 fun v9 r9 => ?_)
 obtain rfl := RV_int.1 r9
 have qA : RV g6.m w6 (⟨(y3).Hooks, []⟩ : TieHarness) (.agg (setCh [[.int .i64 0], [.slice none 0 0]] [(0, .int .i64 ((y3).Hooks))]).flatten.toArray) := RV_build rfl (rep_pair (rfl) (rep_last (rep_nil)))
 generalize i8 : (Value.agg (setCh [[.int .i64 0], [.slice none 0 0]] [(0, .int .i64 ((y3).Hooks))]).flatten.toArray) = mB at qA
 refine EL_p mB (i8 ▸ P_build (vs := [(0, .int .i64 ((y3).Hooks))]) [[.int .i64 0], [.slice none 0 0]] lay_27 rfl rfl (.cons rfl .nil) ⟨⟨_, rfl, rfl⟩, trivial⟩) rfl ?_
 refine EL_p (fPtr p5 0) (P_fieldAddr at_31_0 rfl (OB.ptr b6)) rfl ?_
 refine EL_do .plain rfl (D_storeFd (g := g6) part_FaultLoom_0 Tryz.sizeOf27 rfl b6 rfl qA fun rA nB hs b12 rst hos => ?_)
 have l9 : OSF 2005 60501 1 rA nB 3 31 ([] : List Int) p5 := hos _ _ 60501 3 ([] : List Int) 1 (.slice none 0 0) (by rw [← i8]; rfl) rfl OS.nil
 clear rst hos
 have hfr := hfr.stp hs
 have u3 := u3.stp hs rfl
 have z3 := z3.stp hs rfl
 have b1 := b1.stp hs rfl
 refine EL_nil (thn_n ?_)
 obtain ⟨o3, hx, h⟩ := bsome h
 refine E_join (fun e w => ∃ (g : Gh) , Fr gI wI g w ∧ e 4 = p1 ∧ OB 2004 g w 31 ((⟨⟨0, []⟩, ⟨0, []⟩⟩ : FaultLoom) : FaultLoom) p1 ∧ OSF 2004 60401 1 g w 3 31 ((((⟨⟨0, []⟩, ⟨0, []⟩⟩ : FaultLoom)).Harness).Warps) p1 ∧ OSF 2004 60403 3 g w 3 31 ((((⟨⟨0, []⟩, ⟨0, []⟩⟩ : FaultLoom)).Design).Rows) p1 ∧ e 5 = p5 ∧ OB 2005 g w 31 (o3 : FaultLoom) p5 ∧ OSF 2005 60501 1 g w 3 31 (((o3).Harness).Warps) p5) (fun Q' hQ => ?_) (fun lC lD hR => ?_)
 ·replace h := hx
  clear hx
  refine E_seq (E_region (EL_at (.int .i64 (0)) rfl rfl ?_))
  refine EL_nil (thn_n (E_block ?_))
  refine E_lp h (fun (s : FaultLoom × Int) e w => ∃ (g : Gh) , Fr gI wI g w ∧ e 4 = p1 ∧ OB 2004 g w 31 ((⟨⟨0, []⟩, ⟨0, []⟩⟩ : FaultLoom) : FaultLoom) p1 ∧ OSF 2004 60401 1 g w 3 31 ((((⟨⟨0, []⟩, ⟨0, []⟩⟩ : FaultLoom)).Harness).Warps) p1 ∧ OSF 2004 60403 3 g w 3 31 ((((⟨⟨0, []⟩, ⟨0, []⟩⟩ : FaultLoom)).Design).Rows) p1 ∧ e 5 = p5 ∧ OB 2005 g w 31 (s.1 : FaultLoom) p5 ∧ OSF 2005 60501 1 g w 3 31 (((s.1).Harness).Warps) p5 ∧ e 6 = .int .i64 (s.2)) ⟨rA, hfr, rfl, b1, u3, z3, rfl, b12, l9, rfl⟩ (fun X44 nA yA => ?_)
  rintro ⟨d3, j1⟩ mC mD ⟨k8, hfr, n7, o7, u4_1_45, u4_3_45, j6, t5, u5_1_45, u7⟩ h
  refine E_joinC h (fun (s : Unit) e w => ∃ (g : Gh) , Fr gI wI g w ∧ e 4 = p1 ∧ OB 2004 g w 31 ((⟨⟨0, []⟩, ⟨0, []⟩⟩ : FaultLoom) : FaultLoom) p1 ∧ OSF 2004 60401 1 g w 3 31 ((((⟨⟨0, []⟩, ⟨0, []⟩⟩ : FaultLoom)).Harness).Warps) p1 ∧ OSF 2004 60403 3 g w 3 31 ((((⟨⟨0, []⟩, ⟨0, []⟩⟩ : FaultLoom)).Design).Rows) p1 ∧ e 5 = p5 ∧ OB 2005 g w 31 (d3 : FaultLoom) p5 ∧ OSF 2005 60501 1 g w 3 31 (((d3).Harness).Warps) p5 ∧ e 6 = .int .i64 (j1)) (fun X50 oA zA h => ?_) ?_
  ·refine E_seq (E_region (EL_mv u7 rfl ?_))
   refine EL_p (fPtr p5 2) (P_fieldAddr at_31_1 j6 (OB.ptr t5)) rfl ?_
   refine EL_p (fPtr p5 2) (P_fieldAddr2 (o1 := 2) rfl at_29_0 rfl (OB.ptr t5)) rfl ?_
   refine EL_do .plain rfl (D_loadF (g := k8) (SubS.comp part_FaultLoom_1 part_Design_0 rfl).1 Tryz.isAgg3 Tryz.sizeOf3 rfl t5 fun nD oB => ?_)
   obtain rfl := RV_int.1 oB
   refine EL_in (.bool ((decide (j1 < ((d3).Design).Hooks)))) rfl rfl rfl rfl ?_
   refine EL_nil (thn_n ?_)
   rcases csome h with ⟨j7, h⟩ | ⟨j7, h⟩
   ·refine E_ct j7 rfl ?_
    exact E_skip (thn_n (zA () _ _ ⟨k8, hfr, n7, o7, u4_1_45, u4_3_45, j6, t5, u5_1_45, u7⟩ h))
   ·refine E_cf j7 rfl ?_
    refine E_exit ?_
    refine thn_e ?_
    refine thn_e ?_
    refine blk_hit ?_
    obtain rfl := sinj h
    exact hQ _ _ ⟨k8, hfr, n7, o7, u4_1_45, u4_3_45, j6, t5, u5_1_45⟩
  ·rintro _ qC oD ⟨sA, hfr, n9, z4, u4_1_55, u4_3_55, v6, z2, u5_1_55, v7⟩ h
   obtain ⟨l5, hx, h⟩ := bsome h
   refine E_join (fun e w => ∃ (g : Gh) , Fr gI wI g w ∧ e 4 = p1 ∧ OB 2004 g w 31 ((⟨⟨0, []⟩, ⟨0, []⟩⟩ : FaultLoom) : FaultLoom) p1 ∧ OSF 2004 60401 1 g w 3 31 ((((⟨⟨0, []⟩, ⟨0, []⟩⟩ : FaultLoom)).Harness).Warps) p1 ∧ OSF 2004 60403 3 g w 3 31 ((((⟨⟨0, []⟩, ⟨0, []⟩⟩ : FaultLoom)).Design).Rows) p1 ∧ e 5 = p5 ∧ OB 2005 g w 31 (l5 : FaultLoom) p5 ∧ OSF 2005 60501 1 g w 3 31 (((l5).Harness).Warps) p5 ∧ e 6 = .int .i64 (j1)) (fun Q' hQ => ?_) (fun rC sD hR => ?_)
   ·replace h := hx
    clear hx
    refine E_block ?_
    refine E_region (EL_p (fPtr p5 0) (P_fieldAddr at_31_0 v6 (OB.ptr z2)) rfl ?_)
    refine EL_p (fPtr p5 1) (P_fieldAddr2 (o1 := 0) rfl at_27_1 rfl (OB.ptr z2)) rfl ?_
    refine EL_do .plain rfl (D_loadFS (g := sA) (SubS.comp part_FaultLoom_0 part_TieHarness_1 rfl).1 Tryz.isAgg25 Tryz.sizeOf25 rfl z2 u5_1_55 fun tD l8 o68 => ?_)
    refine EL_mv v7 rfl ?_
    refine EL_do .plain rfl (D_buildSlice (g := sA) 3028 (xs := ([j1] : List Int)) (vs := [.int .i64 (j1)]) Tryz.underlying25 Tryz.sizeOf3 Tryz.zeroValue3 rfl rfl (.cons rfl .nil) (RVs.cons (RV_int.2 rfl) RVs.nil) rfl rfl fun tB uD vD hs o69 vB hxt hfl => ?_)
    have hfr := hfr.stp hs
    have u4_1_55 := u4_1_55.stp hs rfl
    have u4_3_55 := u4_3_55.stp hs rfl
    have z4 := z4.stp hs rfl
    have z2 := z2.stp hs rfl
    have l8 := l8.stp hs
    have o68 := o68.stp hs rfl
    obtain ⟨y71, aB, h⟩ := bsome h
    refine EL_do .plain rfl (D_append (g := tB) (i := 60501) Tryz.underlying25 info_3 rfl rfl o68 l8 rfl vB aB fun xB xD yD hs o70 uA _ => ?_)
    have hfr := hfr.stp hs
    have u4_1_55 := u4_1_55.stp hs rfl
    have u4_3_55 := u4_3_55.stp hs rfl
    have z4 := z4.stp hs rfl
    have z2 := z2.stp hs rfl
    refine EL_p (fPtr p5 0) (P_fieldAddr at_31_0 v6 (OB.ptr z2)) rfl ?_
    refine EL_p (fPtr p5 1) (P_fieldAddr2 (o1 := 0) rfl at_27_1 rfl (OB.ptr z2)) rfl ?_
    refine EL_do .plain rfl (D_storeFc (g := xB) (SubS.comp part_FaultLoom_0 part_TieHarness_1 rfl) Tryz.sizeOf25 rfl z2 rfl uA fun yB zD hs b74 rst hos => ?_)
    have o9 := hos _ _ 60501 3 (y71 : List Int) (rv_cells1 uA) rfl o70
    clear rst hos
    have hfr := hfr.stp hs
    have u4_1_55 := u4_1_55.stp hs rfl
    have u4_3_55 := u4_3_55.stp hs rfl
    have z4 := z4.stp hs rfl
    refine EL_nil (blk_n ?_)
    obtain rfl := sinj h
    exact hQ _ _ ⟨yB, hfr, n9, z4, u4_1_55, u4_3_55, v6, b74, o9, v7⟩
   ·clear hx
    obtain ⟨zB, hfr, t9, u9, u4_1_75, u4_3_75, y9, z9, u5_1_75, bA⟩ := hR
    refine E_region (EL_mv bA rfl ?_)
    refine EL_in (.int .i64 ((w64 (j1 + (1 : Int))))) rfl rfl rfl rfl ?_
    refine EL_at (.int .i64 ((w64 (j1 + (1 : Int))))) rfl rfl ?_
    exact EL_nil (thn_n (yA (l5, (w64 (j1 + (1 : Int)))) _ _ ⟨zB, hfr, t9, u9, u4_1_75, u4_3_75, y9, z9, u5_1_75, rfl⟩ h))
 ·clear hx
  obtain ⟨xA, hfr, gA, iA, u4_1_76, u4_3_76, c8, x5, u5_1_76⟩ := hR
  obtain ⟨q5, hx, h⟩ := bsome h
  refine E_join (fun e w => ∃ (g : Gh) , Fr gI wI g w ∧ e 4 = p1 ∧ OB 2004 g w 31 ((⟨⟨0, []⟩, ⟨0, []⟩⟩ : FaultLoom) : FaultLoom) p1 ∧ OSF 2004 60401 1 g w 3 31 ((((⟨⟨0, []⟩, ⟨0, []⟩⟩ : FaultLoom)).Harness).Warps) p1 ∧ OSF 2004 60403 3 g w 3 31 ((((⟨⟨0, []⟩, ⟨0, []⟩⟩ : FaultLoom)).Design).Rows) p1 ∧ e 5 = p5 ∧ OB 2005 g w 31 (q5 : FaultLoom) p5 ∧ OSF 2005 60501 1 g w 3 31 (((q5).Harness).Warps) p5) (fun Q' hQ => ?_) (fun aC tC hR => ?_)
  ·replace h := hx
   clear hx
   refine E_seq (E_region (EL_p (fPtr p5 2) (P_fieldAddr at_31_1 c8 (OB.ptr x5)) rfl ?_))
   refine EL_p (fPtr p5 2) (P_fieldAddr2 (o1 := 2) rfl at_29_0 rfl (OB.ptr x5)) rfl ?_
   refine EL_do .plain rfl (D_loadF (g := xA) (SubS.comp part_FaultLoom_1 part_Design_0 rfl).1 Tryz.isAgg3 Tryz.sizeOf3 rfl x5 fun uC bB => ?_)
   obtain rfl := RV_int.1 bB
   refine EL_in (.int .i64 ((w64 (((o3).Design).Hooks - (2 : Int))))) rfl rfl rfl rfl ?_
   refine EL_at (.int .i64 ((w64 (((o3).Design).Hooks - (2 : Int))))) rfl rfl ?_
   refine EL_nil (thn_n (E_block ?_))
   refine E_lp h (fun (s : FaultLoom × Int) e w => ∃ (g : Gh) , Fr gI wI g w ∧ e 4 = p1 ∧ OB 2004 g w 31 ((⟨⟨0, []⟩, ⟨0, []⟩⟩ : FaultLoom) : FaultLoom) p1 ∧ OSF 2004 60401 1 g w 3 31 ((((⟨⟨0, []⟩, ⟨0, []⟩⟩ : FaultLoom)).Harness).Warps) p1 ∧ OSF 2004 60403 3 g w 3 31 ((((⟨⟨0, []⟩, ⟨0, []⟩⟩ : FaultLoom)).Design).Rows) p1 ∧ e 5 = p5 ∧ OB 2005 g w 31 (s.1 : FaultLoom) p5 ∧ OSF 2005 60501 1 g w 3 31 (((s.1).Harness).Warps) p5 ∧ e 7 = .int .i64 (s.2)) ⟨xA, hfr, gA, iA, u4_1_76, u4_3_76, c8, x5, u5_1_76, rfl⟩ (fun X108 e8 jA => ?_)
   rintro ⟨i3, o0⟩ cC vC ⟨m8, hfr, y6, a7, u4_1_109, u4_3_109, b7, c7, u5_1_109, d7⟩ h
   refine E_joinC h (fun (s : Unit) e w => ∃ (g : Gh) , Fr gI wI g w ∧ e 4 = p1 ∧ OB 2004 g w 31 ((⟨⟨0, []⟩, ⟨0, []⟩⟩ : FaultLoom) : FaultLoom) p1 ∧ OSF 2004 60401 1 g w 3 31 ((((⟨⟨0, []⟩, ⟨0, []⟩⟩ : FaultLoom)).Harness).Warps) p1 ∧ OSF 2004 60403 3 g w 3 31 ((((⟨⟨0, []⟩, ⟨0, []⟩⟩ : FaultLoom)).Design).Rows) p1 ∧ e 5 = p5 ∧ OB 2005 g w 31 (i3 : FaultLoom) p5 ∧ OSF 2005 60501 1 g w 3 31 (((i3).Harness).Warps) p5 ∧ e 7 = .int .i64 (o0)) (fun X111 g8 kA h => ?_) ?_
   ·refine E_seq (E_region (EL_mv d7 rfl ?_))
    refine EL_in (.bool ((decide (o0 > (0 : Int))))) rfl rfl rfl rfl ?_
    refine EL_nil (thn_n ?_)
    rcases csome h with ⟨x6, h⟩ | ⟨x6, h⟩
    ·refine E_ct x6 rfl ?_
     exact E_skip (thn_n (kA () _ _ ⟨m8, hfr, y6, a7, u4_1_109, u4_3_109, b7, c7, u5_1_109, d7⟩ h))
    ·refine E_cf x6 rfl ?_
     refine E_exit ?_
     refine thn_e ?_
     refine thn_e ?_
     refine blk_hit ?_
     obtain rfl := sinj h
     exact hQ _ _ ⟨m8, hfr, y6, a7, u4_1_109, u4_3_109, b7, c7, u5_1_109⟩
   ·rintro _ dC xC ⟨n8, hfr, o8, j3, u4_1_113, u4_3_113, i6, u0, u5_1_113, e7⟩ h
    obtain ⟨i5, hx, h⟩ := bsome h
    refine E_join (fun e w => ∃ (g : Gh) , Fr gI wI g w ∧ e 4 = p1 ∧ OB 2004 g w 31 ((⟨⟨0, []⟩, ⟨0, []⟩⟩ : FaultLoom) : FaultLoom) p1 ∧ OSF 2004 60401 1 g w 3 31 ((((⟨⟨0, []⟩, ⟨0, []⟩⟩ : FaultLoom)).Harness).Warps) p1 ∧ OSF 2004 60403 3 g w 3 31 ((((⟨⟨0, []⟩, ⟨0, []⟩⟩ : FaultLoom)).Design).Rows) p1 ∧ e 5 = p5 ∧ OB 2005 g w 31 (i5 : FaultLoom) p5 ∧ OSF 2005 60501 1 g w 3 31 (((i5).Harness).Warps) p5 ∧ e 7 = .int .i64 (o0)) (fun Q' hQ => ?_) (fun eC yC hR => ?_)
    ·replace h := hx
     clear hx
     refine E_block ?_
     refine E_region (EL_p (fPtr p5 0) (P_fieldAddr at_31_0 i6 (OB.ptr u0)) rfl ?_)
     refine EL_p (fPtr p5 1) (P_fieldAddr2 (o1 := 0) rfl at_27_1 rfl (OB.ptr u0)) rfl ?_
     refine EL_do .plain rfl (D_loadFS (g := n8) (SubS.comp part_FaultLoom_0 part_TieHarness_1 rfl).1 Tryz.isAgg25 Tryz.sizeOf25 rfl u0 u5_1_113 fun aD m7 o125 => ?_)
     refine EL_mv e7 rfl ?_
     refine EL_do .plain rfl (D_buildSlice (g := n8) 3044 (xs := ([o0] : List Int)) (vs := [.int .i64 (o0)]) Tryz.underlying25 Tryz.sizeOf3 Tryz.zeroValue3 rfl rfl (.cons rfl .nil) (RVs.cons (RV_int.2 rfl) RVs.nil) rfl rfl fun cB bD cD hs o126 dB hxt hfl => ?_)
     have hfr := hfr.stp hs
     have u4_1_113 := u4_1_113.stp hs rfl
     have u4_3_113 := u4_3_113.stp hs rfl
     have j3 := j3.stp hs rfl
     have u0 := u0.stp hs rfl
     have m7 := m7.stp hs
     have o125 := o125.stp hs rfl
     obtain ⟨i7, lA, h⟩ := bsome h
     refine EL_do .plain rfl (D_append (g := cB) (i := 60501) Tryz.underlying25 info_3 rfl rfl o125 m7 rfl dB lA fun eB eD gD hs o127 q8 _ => ?_)
     have hfr := hfr.stp hs
     have u4_1_113 := u4_1_113.stp hs rfl
     have u4_3_113 := u4_3_113.stp hs rfl
     have j3 := j3.stp hs rfl
     have u0 := u0.stp hs rfl
     refine EL_p (fPtr p5 0) (P_fieldAddr at_31_0 i6 (OB.ptr u0)) rfl ?_
     refine EL_p (fPtr p5 1) (P_fieldAddr2 (o1 := 0) rfl at_27_1 rfl (OB.ptr u0)) rfl ?_
     refine EL_do .plain rfl (D_storeFc (g := eB) (SubS.comp part_FaultLoom_0 part_TieHarness_1 rfl) Tryz.sizeOf25 rfl u0 rfl q8 fun iB iD hs b131 rst hos => ?_)
     have r8 := hos _ _ 60501 3 (i7 : List Int) (rv_cells1 q8) rfl o127
     clear rst hos
     have hfr := hfr.stp hs
     have u4_1_113 := u4_1_113.stp hs rfl
     have u4_3_113 := u4_3_113.stp hs rfl
     have j3 := j3.stp hs rfl
     refine EL_nil (blk_n ?_)
     obtain rfl := sinj h
     exact hQ _ _ ⟨iB, hfr, o8, j3, u4_1_113, u4_3_113, i6, b131, r8, e7⟩
    ·clear hx
     obtain ⟨jB, hfr, t8, v8, u4_1_132, u4_3_132, x8, y8, u5_1_132, a9⟩ := hR
     refine E_region (EL_mv a9 rfl ?_)
     refine EL_in (.int .i64 ((w64 (o0 - (1 : Int))))) rfl rfl rfl rfl ?_
     refine EL_at (.int .i64 ((w64 (o0 - (1 : Int))))) rfl rfl ?_
     exact EL_nil (thn_n (jA (i5, (w64 (o0 - (1 : Int)))) _ _ ⟨jB, hfr, t8, v8, u4_1_132, u4_3_132, x8, y8, u5_1_132, rfl⟩ h))
  ·clear hx
   obtain ⟨d9, hfr, g7, e9, u4_1_133, u4_3_133, i9, k9, u5_1_133⟩ := hR
   refine E_seq (E_region (EL_do .plain rfl (D_loadO (g := d9) Tryz.isAgg31 Tryz.sizeOf31 i9 k9 fun kB lB => ?_)))
   refine EL_do .plain rfl (D_storeOc (g := d9) (v := kB) Tryz.sizeOf31 g7 e9 rfl lB fun jD kD hs b135 cb => ?_)
   clear cb
   have hfr := hfr.stp hs
   refine EL_nil (thn_n (E_ret ?_))
   obtain rfl := sinj h
   obtain ⟨ad136, cv136, hp136, mA, cr136⟩ := ob_read Tryz.isAgg31 Tryz.sizeOf31 b135
   exact endm_c rfl rfl ((show _ = p1 from g7).trans hp136) mA ⟨_, hfr, cr136⟩
def f9 (x0 : FaultLoom) : Option (FaultLoom) :=
 (f21 (((x0).Harness).Warps)).bind fun o0 =>
 (f27 ((x0).Design)).bind fun u0 =>
 some ((⟨(⟨((x0).Harness).Hooks, o0⟩ : TieHarness), u0⟩ : FaultLoom))
theorem en9 : Enters Tryz.prog 9 := enters_of Tryz.func9 (by kernel_rfl) rfl
theorem wk9 {gI : Gh} {wI : World} {x0 : FaultLoom} {up0 : Value} (rp0 : RV gI.m wI x0 up0) {r : FaultLoom} (h : f9 x0 = some r) : Fn Tryz.prog 9 #[up0] gI wI (fun m w v => RV m w (r) v) := by
 unfold f9 at h
 refine fn_of_E Tryz.func9 rfl (Nat.le_of_ble_eq_true rfl) fun g0 hm hfr => ?_
 have rp0 : RV g0.m wI x0 up0 := hm ▸ rp0
 show E _ 15 none _ _ _ _ _
 refine E_seq (E_region (EL_do .plain rfl (D_box (g := g0) rfl rp0 fun g1 w1 p1 hs q1 => ?_)))
 have hfr := hfr.ext hs
 refine EL_do .plain rfl (D_allocOc (g := g1) 2002 (⟨⟨0, []⟩, ⟨0, []⟩⟩ : FaultLoom) Tryz.zeroValue31 (fun m w => ⟨_, (rep_two (rep_two rep_int rep_nil) (rep_two rep_int rep_nil)), rfl⟩) fun g2 w2 p2 hs b2 cb => ?_)
 have hfr := hfr.stp hs
 have q1 := q1.stp hs
 have y6 : OSF 2002 60201 1 g2 w2 3 31 ([] : List Int) p2 := cb.osf (by rfl)
 have a7 : OSF 2002 60203 3 g2 w2 3 31 ([] : List Int) p2 := cb.osf (by rfl)
 clear cb
 refine EL_nil (thn_n (E_seq ?_))
 have q3 := PT_field (part_FaultLoom_0).1 q1
 have q4 := PT_field (part_TieHarness_0).1 q3
 refine L_load (x := .tmp 4) Tryz.isAgg3 Tryz.sizeOf3 q4 fun v5 r5 i6 => ?_
 obtain rfl := RV_int.1 r5
 have q6 := PT_field (part_FaultLoom_0).1 q1
 have q7 := PT_field (part_TieHarness_1).1 q6
 refine L_load (x := .tmp 7) Tryz.isAgg25 Tryz.sizeOf25 q7 fun v8 r8 j6 => ?_
 obtain ⟨o0, i5, h⟩ := bsome h
 have v6 := PT_field (part_FaultLoom_1).1 q1
 refine L_load (x := .tmp 11) Tryz.isAgg29 Tryz.sizeOf29 v6 fun i3 x6 l5 => ?_
 obtain ⟨u0, q5, h⟩ := bsome h
 refine E_drawL (g := g2) (n := 11) [(6, (fun v g w => RV g.m w o0 v)), (10, (fun v g w => RV g.m w u0 v))] [0, 1, 2, 3, 4, 5, 6, 7, 8, 9, 10] rfl mixed (by kernel_rfl) (⟨fun _ => up_rv, fun _ => up_rv, trivial⟩) ?_
 refine L_p (fPtr p1 0) rfl rfl (P_fieldAddr at_31_0 rfl (PT.ptr q1)) ?_
 refine L_p (fPtr (fPtr p1 0) 0) rfl rfl (P_fieldAddr at_27_0 rfl (PT.ptr q3)) ?_
 refine L_ld (c := .int .i64 (((x0).Harness).Hooks)) rfl rfl .plain (fun _ _ h => h.ch) i6 rfl ?_
 refine L_p (fPtr p1 0) rfl rfl (P_fieldAddr at_31_0 rfl (PT.ptr q1)) ?_
 refine L_p (fPtr (fPtr p1 0) 1) rfl rfl (P_fieldAddr at_27_1 rfl (PT.ptr q6)) ?_
 refine L_ld (c := v8) rfl rfl .plain (fun _ _ h => h.ch) j6 rfl ?_
 refine L_do (φ := fun v g w => RV g.m w o0 v) rfl rfl .plain (fun g w hd => D_call (g := g) (vs := [v8]) en21 (.cons rfl .nil) (wk21 (r8.ext hd.1) i5) fun g' w' v hs hr => ⟨g', hs, hr⟩) (fun v9 hv => ?_)
 obtain ⟨_, _, _, rq9⟩ := hv
 obtain ⟨j1, d3⟩ : ∃ v, v = (Value.agg (setCh [[.int .i64 0], [.slice none 0 0]] [(0, .int .i64 (((x0).Harness).Hooks)), (1, v9)]).flatten.toArray) := ⟨_, rfl⟩
 refine L_pur (c := j1) rfl rfl .plain (fun _ _ hd => d3 ▸ P_build (vs := [(0, .int .i64 (((x0).Harness).Hooks)), (1, v9)]) [[.int .i64 0], [.slice none 0 0]] lay_27 rfl rfl (.cons rfl (.cons rfl .nil)) ⟨⟨_, rfl, rfl⟩, ⟨⟨_, rfl, cells_size (word (A := fun g w => RV g.m w o0 v9) 6 rfl rfl (deps_of hd))⟩, trivial⟩⟩) ?_
 refine L_p (fPtr p1 2) rfl rfl (P_fieldAddr at_31_1 rfl (PT.ptr q1)) ?_
 refine L_ld (c := i3) rfl rfl .plain (fun _ _ h => h.ch) l5 rfl ?_
 refine L_do (φ := fun v g w => RV g.m w u0 v) rfl rfl .plain (fun g w hd => D_call (g := g) (vs := [i3]) en27 (.cons rfl .nil) (wk27 (x6.ext hd.1) q5) fun g' w' v hs hr => ⟨g', hs, hr⟩) (fun z2 hv => ?_)
 obtain ⟨_, _, _, rq14⟩ := hv
 refine L_nil fun j3 b7 hall => ?_
 have hs := hall.1
 have hfr := hfr.ext hs
 have b2 := b2.ext hs
 have c7 := (word_all (A := fun g w => RV g.m w o0 v9) 6 rfl hall)
 have o3 := (show RV _ _ (⟨((x0).Harness).Hooks, o0⟩ : TieHarness) j1 from d3 ▸ RV_build rfl (rep_pair (rfl) (rep_last (RV.cells (word_all (A := fun g w => RV g.m w o0 v9) 6 rfl hall)))))
 have u3 := (word_all (A := fun g w => RV g.m w u0 z2) 10 rfl hall)
 clear hs hall
 have z3 : RV j3.m _ (⟨(⟨((x0).Harness).Hooks, o0⟩ : TieHarness), u0⟩ : FaultLoom) (.agg (setCh [[.int .i64 0, .slice none 0 0], [.int .i64 0, .slice none 0 0]] [(0, j1), (1, z2)]).flatten.toArray) := RV_build rfl (rep_pair (RV.cells o3) (rep_last (RV.cells u3)))
 generalize t5 : (Value.agg (setCh [[.int .i64 0, .slice none 0 0], [.int .i64 0, .slice none 0 0]] [(0, j1), (1, z2)]).flatten.toArray) = z4 at z3
 refine EL_p z4 (t5 ▸ P_build (vs := [(0, j1), (1, z2)]) [[.int .i64 0, .slice none 0 0], [.int .i64 0, .slice none 0 0]] lay_31 rfl rfl (.cons rfl (.cons rfl .nil)) ⟨⟨_, rfl, cells_size o3⟩, ⟨⟨_, rfl, cells_size u3⟩, trivial⟩⟩) rfl ?_
 refine EL_do .plain rfl (D_storeOc (g := j3) (v := z4) Tryz.sizeOf31 rfl b2 rfl z3 fun d7 e7 hs b32 cb => ?_)
 clear cb
 have hfr := hfr.stp hs
 refine EL_nil (thn_n (E_ret ?_))
 obtain rfl := sinj h
 obtain ⟨ad33, cv33, hp33, x5, cr33⟩ := ob_read Tryz.isAgg31 Tryz.sizeOf31 b32
 exact endm_c rfl rfl ((show _ = p2 from rfl).trans hp33) x5 ⟨_, hfr, cr33⟩
def f29 (x0 : List Str) (x1 : List Str) : Option (It (Int × Int)) :=
 some ((fun σ cons s => f56 x0 x1 σ cons s))
theorem en29 : Enters Tryz.prog 29 := enters_of Tryz.func29 (by kernel_rfl) rfl
theorem wk29 {gI : Gh} {wI : World} {x0 : List Str} {x1 : List Str} {up0 : Value} (rp0 : RV gI.m wI x0 up0) {up1 : Value} (rp1 : RV gI.m wI x1 up1) {r : It (Int × Int)} (h : f29 x0 x1 = some r) : Fn Tryz.prog 29 #[up0, up1] gI wI (fun m w v => ItV Tryz.prog (RA2 (α := Int) (β := Int)) (r) v m w) := by
 unfold f29 at h
 refine fn_of_E Tryz.func29 rfl (Nat.le_of_ble_eq_true rfl) fun g0 hm hfr => ?_
 have rp0 : RV g0.m wI x0 up0 := hm ▸ rp0
 have rp1 : RV g0.m wI x1 up1 := hm ▸ rp1
 show E _ 6 none _ _ _ _ _
 refine E_seq (E_region (EL_do .plain rfl (D_box (g := g0) rfl rp0 fun g1 w1 p1 hs q1 => ?_)))
 have hfr := hfr.ext hs
 have rp1 := rp1.ext hs
 refine EL_do .plain rfl (D_box (g := g1) rfl rp1 fun g2 w2 p2 hs q2 => ?_)
 have hfr := hfr.ext hs
 have q1 := q1.ext hs
 refine EL_at (.nilFunc) rfl rfl ?_
 refine EL_nil (thn_n (E_seq (E_region (EL_p ((.func (.func 56) #[] #[p1, p2])) (P_makeFunc (capf_0_2 (show ev _ _ = p1 from rfl) (show ev _ _ = p2 from rfl))) rfl ?_))))
 refine EL_at ((.func (.func 56) #[] #[p1, p2])) rfl rfl ?_
 refine EL_nil (thn_n (E_ret ?_))
 obtain rfl := sinj h
 exact end1 rfl rfl (show _ = (.func (.func 56) #[] #[p1, p2]) from rfl) ⟨_, hfr, (show ItV Tryz.prog (RA2 (α := Int) (β := Int)) (fun σ cons s => f56 x0 x1 σ cons s) ((.func (.func 56) #[] #[p1, p2])) g2.m w2 from ⟨56, #[], #[p1, p2], rfl, en56, fun g' w' hch σ cons s s' h => wk56  (q1.ch hch) (q2.ch hch) h⟩)⟩
def f48 (x0 : Int) (x1 : Int) : Option (Int) :=
 (f79 x0).bind fun y2 =>
 (f79 x1).bind fun y4 =>
 jn (σ := Unit) (fun _ =>
  jn (σ := Unit) (fun _ =>
   jn (σ := Unit) (fun _ =>
    jn (σ := Unit) (fun _ =>
     some ((0 : Int))
     ) fun l5 =>
    bif (decide (x0 > x1)) then
     some ((1 : Int))
    else
     l5 ()
    ) fun q5 =>
   bif (decide (x0 < x1)) then
    some ((-1 : Int))
   else
    q5 ()
   ) fun k18 =>
  bif y4 then
   some ((1 : Int))
  else
   k18 ()
  ) fun t5 =>
 bif y2 then
  jn (σ := Unit) (fun _ =>
   some ((-1 : Int))
   ) fun x5 =>
  bif y4 then
   some ((0 : Int))
  else
   x5 ()
 else
  t5 ()
theorem en48 : Enters Tryz.prog 48 := enters_of Tryz.func48 (by kernel_rfl) rfl
theorem wk48 {gI : Gh} {wI : World} {x0 : Int} {x1 : Int}  {r : Int} (h : f48 x0 x1 = some r) : Fn Tryz.prog 48 #[.int .i64 (x0), .int .i64 (x1)] gI wI (fun _ _ v => v = .int .i64 (r)) := by
 unfold f48 at h
 refine fn_of_E Tryz.func48 rfl (Nat.le_of_ble_eq_true rfl) fun g0 hm hfr => ?_
 show E _ 20 none _ _ _ _ _
 refine E_seq (E_region (EL_at (.int .i64 (0)) rfl rfl ?_))
 refine EL_nil (thn_n (E_seq (E_region (EL_mw (.int .i64 (x0)) rfl rfl ?_))))
 obtain ⟨y2, hy2, h⟩ := bsome h
 refine EL_do .plain rfl (D_call (g := g0) (vs := [.int .i64 (x0)]) en79 (.cons rfl .nil) (wk79  hy2) fun g1 w1_ v1 hs hr => ?_)
 have hfr := hfr.ext hs
 subst hr
 refine EL_at (.bool (y2)) rfl rfl ?_
 refine EL_nil (thn_n (E_seq (E_region (EL_mw (.int .i64 (x1)) rfl rfl ?_))))
 obtain ⟨y4, a7, h⟩ := bsome h
 refine EL_do .plain rfl (D_call (g := g1) (vs := [.int .i64 (x1)]) en79 (.cons rfl .nil) (wk79  a7) fun g3 w3_ v3 hs hr => ?_)
 have hfr := hfr.ext hs
 subst hr
 refine EL_at (.bool (y4)) rfl rfl ?_
 refine EL_nil (thn_n (E_joinC h (fun (s : Unit) e w => ∃ (g : Gh) , Fr gI wI g w ∧ e 0 = .int .i64 (x0) ∧ e 1 = .int .i64 (x1) ∧ e 6 = .bool (y4)) (fun X10 t5 i6 h => ?_) ?_))
 ·refine E_seq (E_region (EL_mw (.bool (y2)) rfl rfl ?_))
  refine EL_nil (thn_n ?_)
  rcases csome h with ⟨o0, h⟩ | ⟨o0, h⟩
  ·refine E_ct o0 rfl ?_
   refine E_joinC h (fun (s : Unit) e w => ∃ (g : Gh) , Fr gI wI g w) (fun X13 x5 j6 h => ?_) ?_
   ·refine E_seq (E_region (EL_mw (.bool (y4)) rfl rfl ?_))
    refine EL_nil (thn_n ?_)
    rcases csome h with ⟨u0, h⟩ | ⟨u0, h⟩
    ·refine E_ct u0 rfl ?_
     refine E_seq (E_region (EL_at (.int .i64 (0)) rfl rfl ?_))
     refine EL_nil (thn_n (E_ret (thn_r ?_)))
     refine thn_r ?_
     obtain rfl := sinj h
     exact end1 rfl rfl (show _ = .int .i64 (0) from rfl) ⟨_, hfr, rfl⟩
    ·refine E_cf u0 rfl ?_
     exact E_skip (thn_n (j6 () _ _ ⟨g3, hfr⟩ h))
   ·rintro _ e7 w15 ⟨n7, hfr⟩ h
    refine E_seq (E_region (EL_at (.int .i64 (-1)) rfl rfl ?_))
    refine EL_nil (thn_n (E_ret (thn_r ?_)))
    obtain rfl := sinj h
    exact end1 rfl rfl (show _ = .int .i64 (-1) from rfl) ⟨_, hfr, rfl⟩
  ·refine E_cf o0 rfl ?_
   exact E_skip (thn_n (i6 () _ _ ⟨g3, hfr, rfl, rfl, rfl⟩ h))
 ·rintro _ g7 o7 ⟨b7, hfr, o3, u3, z3⟩ h
  refine E_joinC h (fun (s : Unit) e w => ∃ (g : Gh) , Fr gI wI g w ∧ e 0 = .int .i64 (x0) ∧ e 1 = .int .i64 (x1)) (fun X18 k18 v6 h => ?_) ?_
  ·refine E_seq (E_region (EL_mv z3 rfl ?_))
   refine EL_nil (thn_n ?_)
   rcases csome h with ⟨j1, h⟩ | ⟨j1, h⟩
   ·refine E_ct j1 rfl ?_
    refine E_seq (E_region (EL_at (.int .i64 (1)) rfl rfl ?_))
    refine EL_nil (thn_n (E_ret (thn_r ?_)))
    obtain rfl := sinj h
    exact end1 rfl rfl (show _ = .int .i64 (1) from rfl) ⟨_, hfr, rfl⟩
   ·refine E_cf j1 rfl ?_
    exact E_skip (thn_n (v6 () _ _ ⟨b7, hfr, o3, u3⟩ h))
  ·rintro _ i7 u7 ⟨c7, hfr, i3, j3⟩ h
   refine E_joinC h (fun (s : Unit) e w => ∃ (g : Gh) , Fr gI wI g w ∧ e 0 = .int .i64 (x0) ∧ e 1 = .int .i64 (x1)) (fun X22 q5 x6 h => ?_) ?_
   ·refine E_seq (E_region (EL_mv i3 rfl ?_))
    refine EL_mv j3 rfl ?_
    refine EL_in (.bool ((decide (x0 < x1)))) rfl rfl rfl rfl ?_
    refine EL_nil (thn_n ?_)
    rcases csome h with ⟨z2, h⟩ | ⟨z2, h⟩
    ·refine E_ct z2 rfl ?_
     refine E_seq (E_region (EL_at (.int .i64 (-1)) rfl rfl ?_))
     refine EL_nil (thn_n (E_ret (thn_r ?_)))
     obtain rfl := sinj h
     exact end1 rfl rfl (show _ = .int .i64 (-1) from rfl) ⟨_, hfr, rfl⟩
    ·refine E_cf z2 rfl ?_
     exact E_skip (thn_n (x6 () _ _ ⟨c7, hfr, i3, j3⟩ h))
   ·rintro _ j7 v7 ⟨d7, hfr, z4, i5⟩ h
    refine E_joinC h (fun (s : Unit) e w => ∃ (g : Gh) , Fr gI wI g w) (fun X26 l5 y6 h => ?_) ?_
    ·refine E_seq (E_region (EL_mv z4 rfl ?_))
     refine EL_mv i5 rfl ?_
     refine EL_in (.bool ((decide (x0 > x1)))) rfl rfl rfl rfl ?_
     refine EL_nil (thn_n ?_)
     rcases csome h with ⟨d3, h⟩ | ⟨d3, h⟩
     ·refine E_ct d3 rfl ?_
      refine E_seq (E_region (EL_at (.int .i64 (1)) rfl rfl ?_))
      refine EL_nil (thn_n (E_ret (thn_r ?_)))
      obtain rfl := sinj h
      exact end1 rfl rfl (show _ = .int .i64 (1) from rfl) ⟨_, hfr, rfl⟩
     ·refine E_cf d3 rfl ?_
      exact E_skip (thn_n (y6 () _ _ ⟨d7, hfr⟩ h))
    ·rintro _ m7 c8 ⟨e8, hfr⟩ h
     refine E_seq (E_region (EL_at (.int .i64 (0)) rfl rfl ?_))
     refine EL_nil (thn_n (E_ret ?_))
     obtain rfl := sinj h
     exact end1 rfl rfl (show _ = .int .i64 (0) from rfl) ⟨_, hfr, rfl⟩
def f61 (x0 : PaySheet) : Option ((List Int) × (List Int) × Int × Int) :=
 Option.bind (α := (List Int)) (
  lp (σ := (List Int) × Int) (fun oD (k8, u0) =>
   bif (decide (u0 < ((((x0).PayTable).Rows).length : Int))) then
    Option.bind (α := (List Int)) (
     (idx (((x0).PayTable).Rows) u0).bind fun y130 =>
     (f100 y130).bind fun u3 =>
     (idx (((x0).PayTable).Across) u0).bind fun z3 =>
     (apnd 8 k8 (([(w64 (u3 - z3))] : List Int))).bind fun jA =>
     some (jA)
     ) fun x5 =>
    oD (x5, (w64 (u0 + (1 : Int))))
   else
    some (k8)
   ) big ([], (0 : Int))
  ) fun i3 =>
 Option.bind (α := (List Int)) (
  lp (σ := (List Int) × Int) (fun kA (j7, o0) =>
   bif (decide (o0 < ((((x0).PayTable).Down).length : Int))) then
    Option.bind (α := (List Int)) (
     (idx (((x0).PayTable).Down) o0).bind fun x6 =>
     (f101 x0 o0).bind fun lA =>
     (f100 lA).bind fun m7 =>
     (apnd 8 j7 (([(w64 (m7 - x6))] : List Int))).bind fun mA =>
     some (mA)
     ) fun i6 =>
    kA (i6, (w64 (o0 + (1 : Int))))
   else
    some (j7)
   ) big ([], (0 : Int))
  ) fun b7 =>
 (f100 (((x0).PayTable).Across)).bind fun y6 =>
 (f100 (((x0).PayTable).Down)).bind fun a7 =>
 some (i3, b7, (w64 (y6 - ((x0).PayTable).Total)), (w64 (a7 - ((x0).PayTable).Total)))
theorem en61 : Enters Tryz.prog 61 := enters_of Tryz.func61 (by kernel_rfl) rfl
theorem wk61 {gI : Gh} {wI : World} {x0 : PaySheet} {up0 : Value} (rp0 : RV gI.m wI x0 up0) {r : (List Int) × (List Int) × Int × Int} (h : f61 x0 = some r) : Fn Tryz.prog 61 #[up0] gI wI (fun m w v => ∃ y0 y1 y2 y3, v = .tuple #[y0, y1, y2, y3] ∧ RV m w (r.1) y0 ∧ RV m w (r.2.1) y1 ∧ y2 = .int .i64 (r.2.2.1) ∧ y3 = .int .i64 (r.2.2.2)) := by
 unfold f61 at h
 refine fn_of_E Tryz.func61 rfl (Nat.le_of_ble_eq_true rfl) fun g0 hm hfr => ?_
 have rp0 : RV g0.m wI x0 up0 := hm ▸ rp0
 show E _ 69 none _ _ _ _ _
 refine E_seq (E_region (EL_do .plain rfl (D_box (g := g0) rfl rp0 fun g1 w1 p1 hs q1 => ?_)))
 have hfr := hfr.ext hs
 refine EL_at (.slice none 0 0) rfl rfl ?_
 refine EL_at (.slice none 0 0) rfl rfl ?_
 refine EL_at (.int .i64 (0)) rfl rfl ?_
 refine EL_at (.int .i64 (0)) rfl rfl ?_
 refine EL_nil (thn_n ?_)
 obtain ⟨i3, hx, h⟩ := bsome h
 refine E_join (fun e w => ∃ (g : Gh) (v2 : Value), Fr gI wI g w ∧ e 1 = p1 ∧ PT g.m w (x0 : PaySheet) p1 ∧ e 2 = v2 ∧ RV g.m w (i3 : List Int) v2 ∧ OS 1002 g w 3 (i3 : List Int) v2 ∧ e 3 = .slice none 0 0 ∧ RV g.m w ([] : List Int) (Value.slice none 0 0)) (fun Q' hQ => ?_) (fun uF cG hR => ?_)
 ·replace h := hx
  clear hx
  refine E_seq (E_region (EL_p (fPtr p1 0) (P_fieldAddr at_147_0 rfl (PT.ptr q1)) rfl ?_))
  have sD := PT_field (part_PaySheet_0).1 q1
  refine EL_p (fPtr (fPtr p1 0) 0) (P_fieldAddr at_112_0 rfl (PT.ptr sD)) rfl ?_
  have rF := PT_field (part_PayTable_0).1 sD
  refine EL_do .plain rfl (D_load (g := g1) Tryz.isAgg110 Tryz.sizeOf110 rfl rF fun o8 tD => ?_)
  refine EL_p (.int .i64 ((((x0).PayTable).Rows).length : Int)) (P_len Tryz.underlying110 rfl tD) rfl ?_
  refine EL_mw (.int .i64 (0)) rfl rfl ?_
  refine EL_nil (thn_n (E_block ?_))
  refine E_lp h (fun (s : (List Int) × Int) e w => ∃ (g : Gh) (v2 : Value), Fr gI wI g w ∧ e 1 = p1 ∧ PT g.m w (x0 : PaySheet) p1 ∧ e 2 = v2 ∧ RV g.m w (s.1 : List Int) v2 ∧ OS 1002 g w 3 (s.1 : List Int) v2 ∧ e 3 = .slice none 0 0 ∧ RV g.m w ([] : List Int) (Value.slice none 0 0) ∧ e 12 = o8 ∧ RV g.m w (((x0).PayTable).Rows : List (List Int)) o8 ∧ e 13 = .int .i64 (((((x0).PayTable).Rows).length : Int)) ∧ e 14 = .int .i64 (s.2)) ⟨g1, (.slice none 0 0), hfr, rfl, q1, rfl, RV_nil, OS.nil, rfl, RV_nil, rfl, tD, rfl, rfl⟩ (fun X89 oD uD => ?_)
  rintro ⟨k8, u0⟩ dG zG ⟨nA, d9, hfr, l8, t5, e9, g7, i7, i9, j6, q8, q5, r8, c7⟩ h
  refine E_seq (E_region (EL_p (.bool ((decide (u0 < ((((x0).PayTable).Rows).length : Int))))) (P_int c7 r8 rfl) rfl ?_))
  refine EL_nil (thn_n (E_seq ?_))
  rcases csome h with ⟨y8, h⟩ | ⟨y8, h⟩
  ·refine E_ct y8 rfl ?_
   refine E_skip (thn_n ?_)
   obtain ⟨x5, hx, h⟩ := bsome h
   refine E_join (fun e w => ∃ (g : Gh) (v2 : Value), Fr gI wI g w ∧ e 1 = p1 ∧ PT g.m w (x0 : PaySheet) p1 ∧ e 2 = v2 ∧ RV g.m w (x5 : List Int) v2 ∧ OS 1002 g w 3 (x5 : List Int) v2 ∧ e 3 = .slice none 0 0 ∧ RV g.m w ([] : List Int) (Value.slice none 0 0) ∧ e 12 = o8 ∧ RV g.m w (((x0).PayTable).Rows : List (List Int)) o8 ∧ e 13 = .int .i64 (((((x0).PayTable).Rows).length : Int)) ∧ e 14 = .int .i64 (u0)) (fun Q' hQ => ?_) (fun vF eG hR => ?_)
   ·replace h := hx
    clear hx
    refine E_block ?_
    refine E_seq (E_region (EL_mv c7 rfl ?_))
    obtain ⟨y130, k9, h⟩ := bsome h
    refine EL_p (ePtr o8 u0 1) (P_indexAddr (α := List Int) Tryz.underlying110 Tryz.sizeOf25 q8 q5 c7 k9) rfl ?_
    have vD := PT_idx q5 k9
    refine EL_do .plain rfl (D_load (g := nA) Tryz.isAgg25 Tryz.sizeOf25 rfl vD fun a9 xD => ?_)
    refine EL_at (.int .i64 (u0)) rfl rfl ?_
    refine EL_at a9 rfl rfl ?_
    refine EL_nil (thn_n ?_)
    obtain ⟨u3, vC, h⟩ := bsome h
    have oA := PT_field (part_PaySheet_0).1 t5
    have yD := PT_field (part_PayTable_1).1 oA
    refine L_load (x := .tmp 23) Tryz.isAgg25 Tryz.sizeOf25 yD fun pA qA xC => ?_
    obtain ⟨z3, l9, h⟩ := bsome h
    have zD := PT_idx qA l9
    refine L_load (x := .tmp 26) Tryz.isAgg3 Tryz.sizeOf3 zD fun gG aE yC => ?_
    obtain rfl := RV_int.1 aE
    refine E_drawL (g := nA) (n := 11) [(2, (fun v g w => v = .int .i64 (u3))), (10, (fun v g w => RV g.m w ([(w64 (u3 - z3))] : List Int) v ∧ OS 3029 g w 3 ([(w64 (u3 - z3))] : List Int) v ∧ FullV v))] [0, 1, 2, 3, 4, 5, 6, 7, 8, 9, 10] rfl mixed (by kernel_rfl) (⟨fun _ => up_eq _, fun _ => up_and up_rv (up_and up_os (up_eq _)), trivial⟩) ?_
    refine L_p d9 rfl rfl (P_move e9) ?_
    refine L_p a9 rfl rfl (P_move rfl) ?_
    refine L_do (φ := fun v g w => v = .int .i64 (u3)) rfl rfl .plain (fun g w hd => D_call (g := g) (vs := [a9]) en100 (.cons rfl .nil) (wk100 (xD.ext hd.1) vC) fun g' w' v hs hr => ⟨g', hs, hr⟩) (fun hG hv => ?_)
    obtain ⟨_, _, _, rfl⟩ := hv
    refine L_p (fPtr p1 0) rfl rfl (P_fieldAddr at_147_0 l8 (PT.ptr t5)) ?_
    refine L_p (fPtr (fPtr p1 0) 1) rfl rfl (P_fieldAddr at_112_1 rfl (PT.ptr oA)) ?_
    refine L_ld (c := pA) rfl rfl .plain (fun _ _ h => h.ch) xC rfl ?_
    refine L_p (.int .i64 (u0)) rfl rfl (P_move rfl) ?_
    refine L_p (ePtr pA u0 1) rfl rfl (P_indexAddr (α := Int) Tryz.underlying25 Tryz.sizeOf3 rfl qA rfl l9) ?_
    refine L_ld (c := .int .i64 (z3)) rfl rfl .plain (fun _ _ h => h.ch) yC rfl ?_
    refine L_p (.int .i64 ((w64 (u3 - z3)))) rfl rfl (P_int rfl rfl rfl) ?_
    refine L_do (φ := fun v g w => RV g.m w ([(w64 (u3 - z3))] : List Int) v ∧ OS 3029 g w 3 ([(w64 (u3 - z3))] : List Int) v ∧ FullV v) rfl rfl .plain (fun g w hd => D_buildSlice (g := g) 3029 (xs := ([(w64 (u3 - z3))] : List Int)) (vs := [.int .i64 ((w64 (u3 - z3)))]) Tryz.underlying25 Tryz.sizeOf3 Tryz.zeroValue3 rfl rfl (.cons rfl .nil) (RVs.cons (RV_int.2 rfl) RVs.nil) rfl rfl fun g' w' v hs o r hxt hfl => ⟨g', hxt, r, o, hfl⟩) (fun e7 hv => ?_)
    clear hv
    refine L_nil fun bE iG hall => ?_
    have hs := hall.1
    have hfr := hfr.ext hs
    have t5 := t5.ext hs
    have g7 := g7.ext hs
    have i7 := i7.ext hs
    have j6 := j6.ext hs
    have q5 := q5.ext hs
    have cE := (word_all (A := fun g w => RV g.m w ([(w64 (u3 - z3))] : List Int) e7 ∧ OS 3029 g w 3 ([(w64 (u3 - z3))] : List Int) e7 ∧ FullV e7) 10 rfl hall).1
    have o165 := (word_all (A := fun g w => RV g.m w ([(w64 (u3 - z3))] : List Int) e7 ∧ OS 3029 g w 3 ([(w64 (u3 - z3))] : List Int) e7 ∧ FullV e7) 10 rfl hall).2.1
    clear hs hall
    obtain ⟨jA, aD, h⟩ := bsome h
    refine EL_do .plain rfl (D_append (g := bE) (i := 1002) Tryz.underlying25 info_3 rfl rfl i7 g7 rfl cE aD fun dE jG rA hs o166 eE _ => ?_)
    have hfr := hfr.stp hs
    have t5 := t5.stp hs
    have j6 := j6.stp hs
    have q5 := q5.stp hs
    refine EL_at rA rfl rfl ?_
    refine EL_nil (blk_n ?_)
    obtain rfl := sinj h
    exact hQ _ _ ⟨dE, (rA), hfr, l8, t5, rfl, eE, o166, i9, j6, q8, q5, r8, c7⟩
   ·clear hx
    obtain ⟨gE, sA, hfr, uA, xA, yA, zA, aB, bB, cB, o9, t9, u9, y9⟩ := hR
    refine E_region (EL_in (.int .i64 ((w64 (u0 + (1 : Int))))) y9 rfl rfl rfl ?_)
    refine EL_mw (.int .i64 ((w64 (u0 + (1 : Int))))) rfl rfl ?_
    exact EL_nil (thn_n (uD (x5, (w64 (u0 + (1 : Int)))) _ _ ⟨gE, (sA), hfr, uA, xA, yA, zA, aB, bB, cB, o9, t9, u9, rfl⟩ h))
  ·refine E_cf y8 rfl ?_
   refine E_exit ?_
   refine thn_e ?_
   refine thn_e ?_
   refine blk_hit ?_
   obtain rfl := sinj h
   exact hQ _ _ ⟨nA, (d9), hfr, l8, t5, e9, g7, i7, i9, j6⟩
 ·clear hx
  obtain ⟨dB, z2, hfr, t8, n7, eB, iB, jB, kB, lB⟩ := hR
  obtain ⟨b7, hx, h⟩ := bsome h
  refine E_join (fun e w => ∃ (g : Gh) (v3 : Value), Fr gI wI g w ∧ e 1 = p1 ∧ PT g.m w (x0 : PaySheet) p1 ∧ e 2 = z2 ∧ RV g.m w (i3 : List Int) z2 ∧ OS 1002 g w 3 (i3 : List Int) z2 ∧ e 3 = v3 ∧ RV g.m w (b7 : List Int) v3 ∧ OS 1003 g w 3 (b7 : List Int) v3) (fun Q' hQ => ?_) (fun xF kG hR => ?_)
  ·replace h := hx
   clear hx
   refine E_seq (E_region (EL_p (fPtr p1 0) (P_fieldAddr at_147_0 t8 (PT.ptr n7)) rfl ?_))
   have mB := PT_field (part_PaySheet_0).1 n7
   refine EL_p (fPtr (fPtr p1 0) 2) (P_fieldAddr at_112_2 rfl (PT.ptr mB)) rfl ?_
   have iE := PT_field (part_PayTable_2).1 mB
   refine EL_do .plain rfl (D_load (g := dB) Tryz.isAgg25 Tryz.sizeOf25 rfl iE fun o7 nB => ?_)
   refine EL_p (.int .i64 ((((x0).PayTable).Down).length : Int)) (P_len Tryz.underlying25 rfl nB) rfl ?_
   refine EL_mw (.int .i64 (0)) rfl rfl ?_
   refine EL_nil (thn_n (E_block ?_))
   refine E_lp h (fun (s : (List Int) × Int) e w => ∃ (g : Gh) (v3 : Value), Fr gI wI g w ∧ e 1 = p1 ∧ PT g.m w (x0 : PaySheet) p1 ∧ e 2 = z2 ∧ RV g.m w (i3 : List Int) z2 ∧ OS 1002 g w 3 (i3 : List Int) z2 ∧ e 3 = v3 ∧ RV g.m w (s.1 : List Int) v3 ∧ OS 1003 g w 3 (s.1 : List Int) v3 ∧ e 34 = o7 ∧ RV g.m w (((x0).PayTable).Down : List Int) o7 ∧ e 35 = .int .i64 (((((x0).PayTable).Down).length : Int)) ∧ e 36 = .int .i64 (s.2)) ⟨dB, (.slice none 0 0), hfr, t8, n7, eB, iB, jB, kB, lB, OS.nil, rfl, nB, rfl, rfl⟩ (fun X202 kA bD => ?_)
   rintro ⟨j7, o0⟩ yF lG ⟨m8, oB, hfr, u7, d3, v8, j3, o3, x8, z4, i5, g8, j1, i8, v6⟩ h
   refine E_seq (E_region (EL_p (.bool ((decide (o0 < ((((x0).PayTable).Down).length : Int))))) (P_int v6 i8 rfl) rfl ?_))
   refine EL_nil (thn_n (E_seq ?_))
   rcases csome h with ⟨n8, h⟩ | ⟨n8, h⟩
   ·refine E_ct n8 rfl ?_
    refine E_skip (thn_n ?_)
    obtain ⟨i6, hx, h⟩ := bsome h
    refine E_join (fun e w => ∃ (g : Gh) (v3 : Value), Fr gI wI g w ∧ e 1 = p1 ∧ PT g.m w (x0 : PaySheet) p1 ∧ e 2 = z2 ∧ RV g.m w (i3 : List Int) z2 ∧ OS 1002 g w 3 (i3 : List Int) z2 ∧ e 3 = v3 ∧ RV g.m w (i6 : List Int) v3 ∧ OS 1003 g w 3 (i6 : List Int) v3 ∧ e 34 = o7 ∧ RV g.m w (((x0).PayTable).Down : List Int) o7 ∧ e 35 = .int .i64 (((((x0).PayTable).Down).length : Int)) ∧ e 36 = .int .i64 (o0)) (fun Q' hQ => ?_) (fun zF mG hR => ?_)
    ·replace h := hx
     clear hx
     refine E_block ?_
     refine E_seq (E_region (EL_mv v6 rfl ?_))
     obtain ⟨x6, n9, h⟩ := bsome h
     refine EL_p (ePtr o7 o0 1) (P_indexAddr (α := Int) Tryz.underlying25 Tryz.sizeOf3 g8 j1 v6 n9) rfl ?_
     have jE := PT_idx j1 n9
     refine EL_do .plain rfl (D_load (g := m8) Tryz.isAgg3 Tryz.sizeOf3 rfl jE fun nG kE => ?_)
     obtain rfl := RV_int.1 kE
     refine EL_at (.int .i64 (o0)) rfl rfl ?_
     refine EL_at (.int .i64 (x6)) rfl rfl ?_
     refine EL_nil (thn_n (E_region (EL_mv x8 rfl ?_)))
     refine EL_do .plain rfl (D_load (g := m8) Tryz.isAgg147 Tryz.sizeOf147 u7 d3 fun lE mE => ?_)
     refine EL_mw (.int .i64 (o0)) rfl rfl ?_
     obtain ⟨lA, cD, h⟩ := bsome h
     refine EL_do .plain rfl (D_call (g := m8) (vs := [lE, .int .i64 (o0)]) en101 (.cons rfl (.cons rfl .nil)) (wk101 mE cD) fun nE aG oE hs hr => ?_)
     have hfr := hfr.ext hs
     have d3 := d3.ext hs
     have j3 := j3.ext hs
     have o3 := o3.ext hs
     have z4 := z4.ext hs
     have i5 := i5.ext hs
     have j1 := j1.ext hs
     have rE := hr
     obtain ⟨m7, eD, h⟩ := bsome h
     refine EL_do .plain rfl (D_call (g := nE) (vs := [oE]) en100 (.cons rfl .nil) (wk100 rE eD) fun sE bG oG hs hr => ?_)
     have hfr := hfr.ext hs
     have d3 := d3.ext hs
     have j3 := j3.ext hs
     have o3 := o3.ext hs
     have z4 := z4.ext hs
     have i5 := i5.ext hs
     have j1 := j1.ext hs
     subst hr
     refine EL_mw (.int .i64 (x6)) rfl rfl ?_
     refine EL_in (.int .i64 ((w64 (m7 - x6)))) rfl rfl rfl rfl ?_
     refine EL_do .plain rfl (D_buildSlice (g := sE) 3048 (xs := ([(w64 (m7 - x6))] : List Int)) (vs := [.int .i64 ((w64 (m7 - x6)))]) Tryz.underlying25 Tryz.sizeOf3 Tryz.zeroValue3 rfl rfl (.cons rfl .nil) (RVs.cons (RV_int.2 rfl) RVs.nil) rfl rfl fun tE pG qG hs o224 uE hxt hfl => ?_)
     have hfr := hfr.stp hs
     have d3 := d3.stp hs
     have j3 := j3.stp hs
     have o3 := o3.stp hs rfl
     have z4 := z4.stp hs
     have i5 := i5.stp hs rfl
     have j1 := j1.stp hs
     obtain ⟨mA, gD, h⟩ := bsome h
     refine EL_do .plain rfl (D_append (g := tE) (i := 1003) Tryz.underlying25 info_3 rfl rfl i5 z4 rfl uE gD fun vE rG tB hs o225 xE _ => ?_)
     have hfr := hfr.stp hs
     have d3 := d3.stp hs
     have j3 := j3.stp hs
     have o3 := o3.stp hs rfl
     have j1 := j1.stp hs
     refine EL_at tB rfl rfl ?_
     refine EL_nil (blk_n ?_)
     obtain rfl := sinj h
     exact hQ _ _ ⟨vE, (tB), hfr, u7, d3, v8, j3, o3, rfl, xE, o225, g8, j1, i8, v6⟩
    ·clear hx
     obtain ⟨yE, vB, hfr, xB, yB, zB, aC, cC, dC, eC, iC, z9, bA, gA, iA⟩ := hR
     refine E_region (EL_in (.int .i64 ((w64 (o0 + (1 : Int))))) iA rfl rfl rfl ?_)
     refine EL_mw (.int .i64 ((w64 (o0 + (1 : Int))))) rfl rfl ?_
     exact EL_nil (thn_n (bD (i6, (w64 (o0 + (1 : Int)))) _ _ ⟨yE, (vB), hfr, xB, yB, zB, aC, cC, dC, eC, iC, z9, bA, gA, rfl⟩ h))
   ·refine E_cf n8 rfl ?_
    refine E_exit ?_
    refine thn_e ?_
    refine thn_e ?_
    refine blk_hit ?_
    obtain rfl := sinj h
    exact hQ _ _ ⟨m8, (oB), hfr, u7, d3, v8, j3, o3, x8, z4, i5⟩
  ·clear hx
   obtain ⟨zE, v7, hfr, d7, l5, jC, c8, sF, kC, e8, tF⟩ := hR
   refine E_seq ?_
   have lC := PT_field (part_PaySheet_0).1 l5
   have cF := PT_field (part_PayTable_1).1 lC
   refine L_load (x := .tmp 54) Tryz.isAgg25 Tryz.sizeOf25 cF fun mC dF iD => ?_
   obtain ⟨y6, jD, h⟩ := bsome h
   have qC := PT_field (part_PaySheet_0).1 l5
   have eF := PT_field (part_PayTable_3).1 qC
   refine L_load (x := .tmp 58) Tryz.isAgg3 Tryz.sizeOf3 eF fun sG iF kD => ?_
   obtain rfl := RV_int.1 iF
   have rC := PT_field (part_PaySheet_0).1 l5
   have nF := PT_field (part_PayTable_2).1 rC
   refine L_load (x := .tmp 62) Tryz.isAgg25 Tryz.sizeOf25 nF fun tC oF lD => ?_
   obtain ⟨a7, mD, h⟩ := bsome h
   have uC := PT_field (part_PaySheet_0).1 l5
   have pF := PT_field (part_PayTable_3).1 uC
   refine L_load (x := .tmp 66) Tryz.isAgg3 Tryz.sizeOf3 pF fun tG qF nD => ?_
   obtain rfl := RV_int.1 qF
   refine E_drawL (g := zE) (n := 22) [(5, (fun v g w => v = .int .i64 (y6))), (13, (fun v g w => v = .int .i64 (a7)))] [0, 1, 2, 3, 4, 5, 6, 7, 8, 9, 10, 11, 12, 13, 14, 15, 16, 17, 18, 19, 20, 21] rfl mixed (by kernel_rfl) (⟨fun _ => up_eq _, fun _ => up_eq _, trivial⟩) ?_
   refine L_p z2 rfl rfl (P_move jC) ?_
   refine L_p v7 rfl rfl (P_move kC) ?_
   refine L_p (fPtr p1 0) rfl rfl (P_fieldAddr at_147_0 d7 (PT.ptr l5)) ?_
   refine L_p (fPtr (fPtr p1 0) 1) rfl rfl (P_fieldAddr at_112_1 rfl (PT.ptr lC)) ?_
   refine L_ld (c := mC) rfl rfl .plain (fun _ _ h => h.ch) iD rfl ?_
   refine L_do (φ := fun v g w => v = .int .i64 (y6)) rfl rfl .plain (fun g w hd => D_call (g := g) (vs := [mC]) en100 (.cons rfl .nil) (wk100 (dF.ext hd.1) jD) fun g' w' v hs hr => ⟨g', hs, hr⟩) (fun uG hv => ?_)
   obtain ⟨_, _, _, rfl⟩ := hv
   refine L_p (fPtr p1 0) rfl rfl (P_fieldAddr at_147_0 d7 (PT.ptr l5)) ?_
   refine L_p (fPtr (fPtr p1 0) 3) rfl rfl (P_fieldAddr at_112_3 rfl (PT.ptr qC)) ?_
   refine L_ld (c := .int .i64 (((x0).PayTable).Total)) rfl rfl .plain (fun _ _ h => h.ch) kD rfl ?_
   refine L_p (.int .i64 ((w64 (y6 - ((x0).PayTable).Total)))) rfl rfl (P_int rfl rfl rfl) ?_
   refine L_p (fPtr p1 0) rfl rfl (P_fieldAddr at_147_0 d7 (PT.ptr l5)) ?_
   refine L_p (fPtr (fPtr p1 0) 2) rfl rfl (P_fieldAddr at_112_2 rfl (PT.ptr rC)) ?_
   refine L_ld (c := tC) rfl rfl .plain (fun _ _ h => h.ch) lD rfl ?_
   refine L_do (φ := fun v g w => v = .int .i64 (a7)) rfl rfl .plain (fun g w hd => D_call (g := g) (vs := [tC]) en100 (.cons rfl .nil) (wk100 (oF.ext hd.1) mD) fun g' w' v hs hr => ⟨g', hs, hr⟩) (fun vG hv => ?_)
   obtain ⟨_, _, _, rfl⟩ := hv
   refine L_p (fPtr p1 0) rfl rfl (P_fieldAddr at_147_0 d7 (PT.ptr l5)) ?_
   refine L_p (fPtr (fPtr p1 0) 3) rfl rfl (P_fieldAddr at_112_3 rfl (PT.ptr uC)) ?_
   refine L_ld (c := .int .i64 (((x0).PayTable).Total)) rfl rfl .plain (fun _ _ h => h.ch) nD rfl ?_
   refine L_p (.int .i64 ((w64 (a7 - ((x0).PayTable).Total)))) rfl rfl (P_int rfl rfl rfl) ?_
   refine L_p z2 rfl rfl (P_assign rfl) ?_
   refine L_p v7 rfl rfl (P_assign rfl) ?_
   refine L_p (.int .i64 ((w64 (y6 - ((x0).PayTable).Total)))) rfl rfl (P_assign rfl) ?_
   refine L_p (.int .i64 ((w64 (a7 - ((x0).PayTable).Total)))) rfl rfl (P_assign rfl) ?_
   refine L_nl fun xG yG hs => ?_
   have hfr := hfr.ext hs
   have c8 := c8.ext hs
   have e8 := e8.ext hs
   clear hs
   refine EL_nil (thn_n (E_ret ?_))
   obtain rfl := sinj h
   exact end4 rfl rfl (show _ = z2 from rfl) (show _ = v7 from rfl) (show _ = .int .i64 ((w64 (y6 - ((x0).PayTable).Total))) from rfl) (show _ = .int .i64 ((w64 (a7 - ((x0).PayTable).Total))) from rfl) ⟨_, hfr, _, _, _, _, rfl, c8, e8, rfl, rfl⟩
def f76 (x0 : List Int) (x1 : Int → Option Bool) : Option (Bool) :=
 (f110 x0 x1).bind fun y2 =>
 some ((decide (y2 ≥ (0 : Int))))
theorem en76 : Enters Tryz.prog 76 := enters_of Tryz.func76 (by kernel_rfl) rfl
theorem wk76 {gI : Gh} {wI : World} {x0 : List Int} {x1 : Int → Option Bool} {up0 : Value} (rp0 : RV gI.m wI x0 up0) {up1 : Value} (rp1 : FnV1 Tryz.prog x1 up1 gI wI) {r : Bool} (h : f76 x0 x1 = some r) : Fn Tryz.prog 76 #[up0, up1] gI wI (fun _ _ v => v = .bool (r)) := by
 unfold f76 at h
 refine fn_of_E Tryz.func76 rfl (Nat.le_of_ble_eq_true rfl) fun g0 hm hfr => ?_
 have rp0 : RV g0.m wI x0 up0 := hm ▸ rp0
 obtain ⟨ff1, fa1, fc1, rfl, fen1, fcl1⟩ := rp1
 show E _ 9 none _ _ _ _ _
 refine E_seq (E_region (EL_at (.bool false) rfl rfl ?_))
 refine EL_nil (thn_n (E_seq (E_region (EL_mw up0 rfl rfl ?_))))
 refine EL_mw ((.func (.func ff1) fa1 fc1)) rfl rfl ?_
 obtain ⟨y2, hy2, h⟩ := bsome h
 refine EL_do .plain rfl (D_call (g := g0) (vs := [up0, (.func (.func ff1) fa1 fc1)]) en110 (.cons rfl (.cons rfl .nil)) (wk110 rp0 (FnV1.ch ⟨_, _, _, rfl, fen1, fcl1⟩ hfr.ch) hy2) fun g1 w1_ v1 hs hr => ?_)
 have hfr := hfr.ext hs
 subst hr
 refine EL_in (.bool ((decide (y2 ≥ (0 : Int))))) rfl rfl rfl rfl ?_
 refine EL_at (.bool ((decide (y2 ≥ (0 : Int))))) rfl rfl ?_
 refine EL_nil (thn_n (E_ret ?_))
 obtain rfl := sinj h
 exact end1 rfl rfl (show _ = .bool ((decide (y2 ≥ (0 : Int)))) from rfl) ⟨_, hfr, rfl⟩
def f82 (x0 : Int) (x1 : Int) (x2 : List Int) : Option (Bool) :=
 (f76 x2 ((fun a0 => f114 a0 x0 x1))).bind fun y4 =>
 some ((!y4))
theorem en82 : Enters Tryz.prog 82 := enters_of Tryz.func82 (by kernel_rfl) rfl
theorem wk82 {gI : Gh} {wI : World} {x0 : Int} {x1 : Int} {x2 : List Int} {up2 : Value} (rp2 : RV gI.m wI x2 up2) {r : Bool} (h : f82 x0 x1 x2 = some r) : Fn Tryz.prog 82 #[.int .i64 (x0), .int .i64 (x1), up2] gI wI (fun _ _ v => v = .bool (r)) := by
 unfold f82 at h
 refine fn_of_E Tryz.func82 rfl (Nat.le_of_ble_eq_true rfl) fun g0 hm hfr => ?_
 have rp2 : RV g0.m wI x2 up2 := hm ▸ rp2
 show E _ 11 none _ _ _ _ _
 refine E_seq (E_region (EL_do .plain rfl (D_box (g := g0) rfl (RV_int.2 rfl) fun g1 w1 p1 hs q1 => ?_)))
 have hfr := hfr.ext hs
 have rp2 := rp2.ext hs
 refine EL_do .plain rfl (D_box (g := g1) rfl (RV_int.2 rfl) fun g2 w2 p2 hs q2 => ?_)
 have hfr := hfr.ext hs
 have rp2 := rp2.ext hs
 have q1 := q1.ext hs
 refine EL_at (.bool false) rfl rfl ?_
 refine EL_nil (thn_n (E_seq (E_region (EL_mw up2 rfl rfl ?_))))
 refine EL_p ((.func (.func 114) #[] #[p1, p2])) (P_makeFunc (capf_0_2 (show ev _ _ = p1 from rfl) (show ev _ _ = p2 from rfl))) rfl ?_
 obtain ⟨y4, o0, h⟩ := bsome h
 refine EL_do .plain rfl (D_call (g := g2) (vs := [up2, (.func (.func 114) #[] #[p1, p2])]) en76 (.cons rfl (.cons rfl .nil)) (wk76 rp2 ⟨114, #[], #[p1, p2], rfl, en114, fun g' w' hch a0 b0 r hu0 hr => by obtain rfl := RV_int.1 hu0; exact Fn.mono (wk114  (q1.ch hch) (q2.ch hch) hr) fun _ _ _ h => RV_bool.2 h⟩ o0) fun g3 w3_ v3 hs hr => ?_)
 have hfr := hfr.ext hs
 subst hr
 refine EL_p (.bool (!y4)) (P_not rfl) rfl ?_
 refine EL_at (.bool (!y4)) rfl rfl ?_
 refine EL_nil (thn_n (E_ret ?_))
 obtain rfl := sinj h
 exact end1 rfl rfl (show _ = .bool (!y4) from rfl) ⟨_, hfr, rfl⟩
def f83 (x0 : Int) (x1 : Int) (x2 : List Int) : Option (Bool) :=
 (f76 x2 ((fun a0 => f115 a0 x0 x1))).bind fun y4 =>
 some ((!y4))
theorem en83 : Enters Tryz.prog 83 := enters_of Tryz.func83 (by kernel_rfl) rfl
theorem wk83 {gI : Gh} {wI : World} {x0 : Int} {x1 : Int} {x2 : List Int} {up2 : Value} (rp2 : RV gI.m wI x2 up2) {r : Bool} (h : f83 x0 x1 x2 = some r) : Fn Tryz.prog 83 #[.int .i64 (x0), .int .i64 (x1), up2] gI wI (fun _ _ v => v = .bool (r)) := by
 unfold f83 at h
 refine fn_of_E Tryz.func83 rfl (Nat.le_of_ble_eq_true rfl) fun g0 hm hfr => ?_
 have rp2 : RV g0.m wI x2 up2 := hm ▸ rp2
 show E _ 11 none _ _ _ _ _
 refine E_seq (E_region (EL_do .plain rfl (D_box (g := g0) rfl (RV_int.2 rfl) fun g1 w1 p1 hs q1 => ?_)))
 have hfr := hfr.ext hs
 have rp2 := rp2.ext hs
 refine EL_do .plain rfl (D_box (g := g1) rfl (RV_int.2 rfl) fun g2 w2 p2 hs q2 => ?_)
 have hfr := hfr.ext hs
 have rp2 := rp2.ext hs
 have q1 := q1.ext hs
 refine EL_at (.bool false) rfl rfl ?_
 refine EL_nil (thn_n (E_seq (E_region (EL_mw up2 rfl rfl ?_))))
 refine EL_p ((.func (.func 115) #[] #[p1, p2])) (P_makeFunc (capf_0_2 (show ev _ _ = p1 from rfl) (show ev _ _ = p2 from rfl))) rfl ?_
 obtain ⟨y4, o0, h⟩ := bsome h
 refine EL_do .plain rfl (D_call (g := g2) (vs := [up2, (.func (.func 115) #[] #[p1, p2])]) en76 (.cons rfl (.cons rfl .nil)) (wk76 rp2 ⟨115, #[], #[p1, p2], rfl, en115, fun g' w' hch a0 b0 r hu0 hr => by obtain rfl := RV_int.1 hu0; exact Fn.mono (wk115  (q1.ch hch) (q2.ch hch) hr) fun _ _ _ h => RV_bool.2 h⟩ o0) fun g3 w3_ v3 hs hr => ?_)
 have hfr := hfr.ext hs
 subst hr
 refine EL_p (.bool (!y4)) (P_not rfl) rfl ?_
 refine EL_at (.bool (!y4)) rfl rfl ?_
 refine EL_nil (thn_n (E_ret ?_))
 obtain rfl := sinj h
 exact end1 rfl rfl (show _ = .bool (!y4) from rfl) ⟨_, hfr, rfl⟩
def f87 (x0 : FaultDamage) (x1 : FaultDamage) : Option (Int) :=
 (f88 ((x0).Kind)).bind fun y6 =>
 (f88 ((x1).Kind)).bind fun o0 =>
 some ((w64 (y6 - o0)))
theorem en87 : Enters Tryz.prog 87 := enters_of Tryz.func87 (by kernel_rfl) rfl
theorem wk87 {gI : Gh} {wI : World} {x0 : FaultDamage} {x1 : FaultDamage} {up0 : Value} (rp0 : RV gI.m wI x0 up0) {up1 : Value} (rp1 : RV gI.m wI x1 up1) {r : Int} (h : f87 x0 x1 = some r) : Fn Tryz.prog 87 #[up0, up1] gI wI (fun _ _ v => v = .int .i64 (r)) := by
 unfold f87 at h
 refine fn_of_E Tryz.func87 rfl (Nat.le_of_ble_eq_true rfl) fun g0 hm hfr => ?_
 have rp0 : RV g0.m wI x0 up0 := hm ▸ rp0
 have rp1 : RV g0.m wI x1 up1 := hm ▸ rp1
 show E _ 12 none _ _ _ _ _
 refine E_seq (E_region (EL_do .plain rfl (D_box (g := g0) rfl rp0 fun g1 w1 p1 hs q1 => ?_)))
 have hfr := hfr.ext hs
 have rp1 := rp1.ext hs
 refine EL_do .plain rfl (D_box (g := g1) rfl rp1 fun g2 w2 p2 hs q2 => ?_)
 have hfr := hfr.ext hs
 have q1 := q1.ext hs
 refine EL_at (.int .i64 (0)) rfl rfl ?_
 refine EL_nil (thn_n (E_seq ?_))
 have q3 := PT_field (part_FaultDamage_0).1 q1
 refine L_load (x := .tmp 5) Tryz.isAgg37 Tryz.sizeOf37 q3 fun v4 r4 j1 => ?_
 obtain rfl := RV_int.1 r4
 obtain ⟨y6, z2, h⟩ := bsome h
 have q7 := PT_field (part_FaultDamage_0).1 q2
 refine L_load (x := .tmp 8) Tryz.isAgg37 Tryz.sizeOf37 q7 fun v8 r8 d3 => ?_
 obtain rfl := RV_int.1 r8
 obtain ⟨o0, u0, h⟩ := bsome h
 refine E_drawL (g := g2) (n := 8) [(2, (fun v g w => v = .int .i64 (y6))), (5, (fun v g w => v = .int .i64 (o0)))] [0, 1, 2, 3, 4, 5, 6, 7] rfl mixed (by kernel_rfl) (⟨fun _ => up_eq _, fun _ => up_eq _, trivial⟩) ?_
 refine L_p (fPtr p1 0) rfl rfl (P_fieldAddr at_39_0 rfl (PT.ptr q1)) ?_
 refine L_ld (c := .int .i64 ((x0).Kind)) rfl rfl .plain (fun _ _ h => h.ch) j1 rfl ?_
 refine L_do (φ := fun v g w => v = .int .i64 (y6)) rfl rfl .plain (fun g w hd => D_call (g := g) (vs := [.int .i64 ((x0).Kind)]) en88 (.cons rfl .nil) (wk88  z2) fun g' w' v hs hr => ⟨g', hs, hr⟩) (fun v5 hv => ?_)
 obtain ⟨_, _, _, rfl⟩ := hv
 refine L_p (fPtr p2 0) rfl rfl (P_fieldAddr at_39_0 rfl (PT.ptr q2)) ?_
 refine L_ld (c := .int .i64 ((x1).Kind)) rfl rfl .plain (fun _ _ h => h.ch) d3 rfl ?_
 refine L_do (φ := fun v g w => v = .int .i64 (o0)) rfl rfl .plain (fun g w hd => D_call (g := g) (vs := [.int .i64 ((x1).Kind)]) en88 (.cons rfl .nil) (wk88  u0) fun g' w' v hs hr => ⟨g', hs, hr⟩) (fun v9 hv => ?_)
 obtain ⟨_, _, _, rfl⟩ := hv
 refine L_p (.int .i64 ((w64 (y6 - o0)))) rfl rfl (P_int rfl rfl rfl) ?_
 refine L_p (.int .i64 ((w64 (y6 - o0)))) rfl rfl (P_assign rfl) ?_
 refine L_nl fun i3 j3 hs => ?_
 have hfr := hfr.ext hs
 clear hs
 refine EL_nil (thn_n (E_ret ?_))
 obtain rfl := sinj h
 exact end1 rfl rfl (show _ = .int .i64 ((w64 (y6 - o0))) from rfl) ⟨_, hfr, rfl⟩
def f91 (x0 : Int) (x1 : Int) (x2 : List Int) : Option (Bool) :=
 (f76 x2 ((fun a0 => f123 a0 x0 x1))).bind fun y4 =>
 some ((!y4))
theorem en91 : Enters Tryz.prog 91 := enters_of Tryz.func91 (by kernel_rfl) rfl
theorem wk91 {gI : Gh} {wI : World} {x0 : Int} {x1 : Int} {x2 : List Int} {up2 : Value} (rp2 : RV gI.m wI x2 up2) {r : Bool} (h : f91 x0 x1 x2 = some r) : Fn Tryz.prog 91 #[.int .i64 (x0), .int .i64 (x1), up2] gI wI (fun _ _ v => v = .bool (r)) := by
 unfold f91 at h
 refine fn_of_E Tryz.func91 rfl (Nat.le_of_ble_eq_true rfl) fun g0 hm hfr => ?_
 have rp2 : RV g0.m wI x2 up2 := hm ▸ rp2
 show E _ 11 none _ _ _ _ _
 refine E_seq (E_region (EL_do .plain rfl (D_box (g := g0) rfl (RV_int.2 rfl) fun g1 w1 p1 hs q1 => ?_)))
 have hfr := hfr.ext hs
 have rp2 := rp2.ext hs
 refine EL_do .plain rfl (D_box (g := g1) rfl (RV_int.2 rfl) fun g2 w2 p2 hs q2 => ?_)
 have hfr := hfr.ext hs
 have rp2 := rp2.ext hs
 have q1 := q1.ext hs
 refine EL_at (.bool false) rfl rfl ?_
 refine EL_nil (thn_n (E_seq (E_region (EL_mw up2 rfl rfl ?_))))
 refine EL_p ((.func (.func 123) #[] #[p1, p2])) (P_makeFunc (capf_0_2 (show ev _ _ = p1 from rfl) (show ev _ _ = p2 from rfl))) rfl ?_
 obtain ⟨y4, o0, h⟩ := bsome h
 refine EL_do .plain rfl (D_call (g := g2) (vs := [up2, (.func (.func 123) #[] #[p1, p2])]) en76 (.cons rfl (.cons rfl .nil)) (wk76 rp2 ⟨123, #[], #[p1, p2], rfl, en123, fun g' w' hch a0 b0 r hu0 hr => by obtain rfl := RV_int.1 hu0; exact Fn.mono (wk123  (q1.ch hch) (q2.ch hch) hr) fun _ _ _ h => RV_bool.2 h⟩ o0) fun g3 w3_ v3 hs hr => ?_)
 have hfr := hfr.ext hs
 subst hr
 refine EL_p (.bool (!y4)) (P_not rfl) rfl ?_
 refine EL_at (.bool (!y4)) rfl rfl ?_
 refine EL_nil (thn_n (E_ret ?_))
 obtain rfl := sinj h
 exact end1 rfl rfl (show _ = .bool (!y4) from rfl) ⟨_, hfr, rfl⟩
def f94 (x0 : PayRate) (x1 : Int) : Option (Int) :=
 (f48 ((x0).From) x1).bind fun y5 =>
 some (y5)
theorem en94 : Enters Tryz.prog 94 := enters_of Tryz.func94 (by kernel_rfl) rfl
theorem wk94 {gI : Gh} {wI : World} {x0 : PayRate} {x1 : Int} {up0 : Value} (rp0 : RV gI.m wI x0 up0) {r : Int} (h : f94 x0 x1 = some r) : Fn Tryz.prog 94 #[up0, .int .i64 (x1)] gI wI (fun _ _ v => v = .int .i64 (r)) := by
 unfold f94 at h
 refine fn_of_E Tryz.func94 rfl (Nat.le_of_ble_eq_true rfl) fun g0 hm hfr => ?_
 have rp0 : RV g0.m wI x0 up0 := hm ▸ rp0
 show E _ 9 none _ _ _ _ _
 refine E_seq (E_region (EL_do .plain rfl (D_box (g := g0) rfl rp0 fun g1 w1 p1 hs q1 => ?_)))
 have hfr := hfr.ext hs
 refine EL_at (.int .i64 (0)) rfl rfl ?_
 refine EL_nil (thn_n (E_seq (E_region (EL_p (fPtr p1 0) (P_fieldAddr at_82_0 rfl (PT.ptr q1)) rfl ?_))))
 have q2 := PT_field (part_PayRate_0).1 q1
 refine EL_do .plain rfl (D_load (g := g1) Tryz.isAgg3 Tryz.sizeOf3 rfl q2 fun v3 r3 => ?_)
 obtain rfl := RV_int.1 r3
 refine EL_mw (.int .i64 (x1)) rfl rfl ?_
 obtain ⟨y5, hy5, h⟩ := bsome h
 refine EL_do .plain rfl (D_call (g := g1) (vs := [.int .i64 ((x0).From), .int .i64 (x1)]) en48 (.cons rfl (.cons rfl .nil)) (wk48  hy5) fun g4 w4_ v4 hs hr => ?_)
 have hfr := hfr.ext hs
 subst hr
 refine EL_at (.int .i64 (y5)) rfl rfl ?_
 refine EL_nil (thn_n (E_ret ?_))
 obtain rfl := sinj h
 exact end1 rfl rfl (show _ = .int .i64 (y5) from rfl) ⟨_, hfr, rfl⟩
def f96 (x0 : FaultFaultLoom) (x1 : FaultDamage) : Option (Bool) :=
 Option.bind (α := FaultDamage × Bool) (
  bif ((x1).Kind == (1 : Int)) then
   some ((⟨(x1).Kind, (x1).Pick, (x1).Hook, 0, false⟩ : FaultDamage), true)
  else
   bif ((x1).Kind == (2 : Int)) then
    some ((⟨(x1).Kind, 0, (x1).Hook, 0, (x1).Up⟩ : FaultDamage), true)
   else
    Option.bind (α := Bool) (
     bif ((x1).Kind == (3 : Int)) then
      some (((x1).Kind == (3 : Int)))
     else
      some (((x1).Kind == (4 : Int)))
     ) fun z3 =>
    bif z3 then
     some ((⟨(x1).Kind, (x1).Pick, 0, 0, false⟩ : FaultDamage), true)
    else
     bif ((x1).Kind == (5 : Int)) then
      some ((⟨(x1).Kind, 0, 0, (x1).Warp, false⟩ : FaultDamage), true)
     else
      some ((⟨(x1).Kind, 0, 0, 0, false⟩ : FaultDamage), false)
  ) fun (j3, z4) =>
 Option.bind (α := Bool) (
  bif z4 then
   bif (decide (x1 = j3)) then
    (f91 ((0 : Int)) ((w64 ((((((x0).FaultLoom).Design).Rows).length : Int) - (1 : Int)))) (([(x1).Pick] : List Int))).bind fun j6 =>
    bif j6 then
     (f91 ((0 : Int)) ((w64 ((((x0).FaultLoom).Design).Hooks - (1 : Int)))) (([(x1).Hook] : List Int))).bind fun v6 =>
     bif v6 then
      (f91 ((0 : Int)) ((w64 ((((((x0).FaultLoom).Harness).Warps).length : Int) - (1 : Int)))) (([(x1).Warp] : List Int))).bind fun d7 =>
      some (d7)
     else
      some (false)
    else
     some (false)
   else
    some (false)
  else
   some (false)
  ) fun x5 =>
 some (x5)
theorem en96 : Enters Tryz.prog 96 := enters_of Tryz.func96 (by kernel_rfl) rfl
theorem wk96 {gI : Gh} {wI : World} {x0 : FaultFaultLoom} {x1 : FaultDamage} {up0 : Value} (rp0 : RV gI.m wI x0 up0) {up1 : Value} (rp1 : RV gI.m wI x1 up1) {r : Bool} (h : f96 x0 x1 = some r) : Fn Tryz.prog 96 #[up0, up1] gI wI (fun _ _ v => v = .bool (r)) := by
 unfold f96 at h
 refine fn_of_E Tryz.func96 rfl (Nat.le_of_ble_eq_true rfl) fun g0 hm hfr => ?_
 have rp0 : RV g0.m wI x0 up0 := hm ▸ rp0
 have rp1 : RV g0.m wI x1 up1 := hm ▸ rp1
 show E _ 80 none _ _ _ _ _
 refine E_seq (E_region (EL_do .plain rfl (D_box (g := g0) rfl rp0 fun g1 w1 p1 hs q1 => ?_)))
 have hfr := hfr.ext hs
 have rp1 := rp1.ext hs
 refine EL_do .plain rfl (D_box (g := g1) rfl rp1 fun g2 w2 p2 hs q2 => ?_)
 have hfr := hfr.ext hs
 have q1 := q1.ext hs
 refine EL_at (.bool false) rfl rfl ?_
 refine EL_nil (thn_n (E_seq (E_region (EL_p (fPtr p2 0) (P_fieldAddr at_39_0 rfl (PT.ptr q2)) rfl ?_))))
 have q3 := PT_field (part_FaultDamage_0).1 q2
 refine EL_do .plain rfl (D_load (g := g2) Tryz.isAgg37 Tryz.sizeOf37 rfl q3 fun v4 r4 => ?_)
 obtain rfl := RV_int.1 r4
 have r5 : RV g2.m w2 (⟨(x1).Kind, 0, 0, 0, false⟩ : FaultDamage) (.agg (setCh [[.int .i64 0], [.int .i64 0], [.int .i64 0], [.int .i64 0], [.bool false]] [(0, .int .i64 ((x1).Kind))]).flatten.toArray) := RV_build rfl (rep_pair (rfl) (rep_pair (rep_int) (rep_pair (rep_int) (rep_pair (rep_int) (rep_last (rep_bool))))))
 generalize yB : (Value.agg (setCh [[.int .i64 0], [.int .i64 0], [.int .i64 0], [.int .i64 0], [.bool false]] [(0, .int .i64 ((x1).Kind))]).flatten.toArray) = v5 at r5
 refine EL_p v5 (yB ▸ P_build (vs := [(0, .int .i64 ((x1).Kind))]) [[.int .i64 0], [.int .i64 0], [.int .i64 0], [.int .i64 0], [.bool false]] lay_39 rfl rfl (.cons rfl .nil) ⟨⟨_, rfl, rfl⟩, trivial⟩) rfl ?_
 refine EL_do .plain rfl (D_allocOc (g := g2) 2005 (⟨0, 0, 0, 0, false⟩ : FaultDamage) Tryz.zeroValue39 (fun m w => ⟨_, (rep_two rep_int (rep_two rep_int (rep_two rep_int (rep_two rep_int rep_bool)))), rfl⟩) fun g6 w6 p6 hs b6 cb => ?_)
 have hfr := hfr.stp hs
 have q1 := q1.stp hs
 have q2 := q2.stp hs
 have r5 := r5.stp hs
 clear cb
 refine EL_do .plain rfl (D_storeOc (g := g6) (v := v5) Tryz.sizeOf39 rfl b6 rfl r5 fun g7 w7 hs b7 cb => ?_)
 clear cb
 have hfr := hfr.stp hs
 have q1 := q1.stp hs
 have q2 := q2.stp hs
 refine EL_nil (thn_n (E_seq (E_region (EL_at (.bool true) rfl rfl ?_))))
 refine EL_nil (thn_n ?_)
 obtain ⟨⟨j3, z4⟩, hx, h⟩ := bsome h
 refine E_join (fun e w => ∃ (g : Gh) , Fr gI wI g w ∧ e 2 = p1 ∧ PT g.m w (x0 : FaultFaultLoom) p1 ∧ e 3 = p2 ∧ PT g.m w (x1 : FaultDamage) p2 ∧ e 5 = p6 ∧ OB 2005 g w 39 (j3 : FaultDamage) p6 ∧ e 6 = .bool (z4)) (fun Q' hQ => ?_) (fun kC uC hR => ?_)
 ·replace h := hx
  clear hx
  refine E_seq (E_region (EL_p (fPtr p2 0) (P_fieldAddr at_39_0 rfl (PT.ptr q2)) rfl ?_))
  have zB := PT_field (part_FaultDamage_0).1 q2
  refine EL_do .plain rfl (D_load (g := g7) Tryz.isAgg37 Tryz.sizeOf37 rfl zB fun gE aC => ?_)
  obtain rfl := RV_int.1 aC
  refine EL_nil (thn_n (E_block ?_))
  refine E_seq (E_region (EL_in (.bool (((x1).Kind == (1 : Int)))) rfl rfl rfl rfl ?_))
  refine EL_at (.bool (((x1).Kind == (1 : Int)))) rfl rfl ?_
  refine EL_nil (thn_n ?_)
  rcases csome h with ⟨v7, h⟩ | ⟨v7, h⟩
  ·refine E_ct v7 rfl ?_
   have cC := PT_field (part_FaultDamage_1).1 q2
   refine L_load (x := .tmp 14) Tryz.isAgg3 Tryz.sizeOf3 cC fun iE dC i9 => ?_
   obtain rfl := RV_int.1 dC
   have eC := PT_field (part_FaultDamage_2).1 q2
   refine L_load (x := .tmp 16) Tryz.isAgg3 Tryz.sizeOf3 eC fun jE iC k9 => ?_
   obtain rfl := RV_int.1 iC
   refine E_drawTL (g := g7) (n := 5) [2, 3] [] [0, 1, 2, 3, 4] rfl mixed (by kernel_rfl) trivial rfl ?_
   refine L_p (fPtr p2 1) rfl rfl (P_fieldAddr at_39_1 rfl (PT.ptr q2)) ?_
   refine L_ld (c := .int .i64 ((x1).Pick)) rfl rfl .plain (fun _ _ h => h.ch) i9 rfl ?_
   refine L_purL (c := fPtr p2 2) rfl rfl .plain (P_fieldAddr at_39_2 rfl (PT.ptr q2)) ?_
   refine L_ldL (c := .int .i64 ((x1).Hook)) rfl rfl .plain (fun _ _ h => h.ch) rfl k9 rfl ?_
   refine L_p (fPtr p6 1) rfl rfl (P_fieldAddr at_39_1 rfl (OB.ptr b7)) ?_
   refine L_nl fun e9 jC hs => ?_
   have hlt : Lt g7.m w7 e9 jC := hs.ch
   have hfr := hfr.ext hs
   have q1 := q1.ext hs
   have q2 := q2.ext hs
   have b7 := b7.ext hs
   clear hs
   refine TL_do hlt.w .plain rfl (D_storeFc (g := e9) part_FaultDamage_1 Tryz.sizeOf3 rfl b7 rfl (RV_int.2 rfl) fun l9 vC hs b112 rst hos => ?_)
   clear rst hos
   have hfr := hfr.stp hs
   have hlt := hlt.stp hs
   have q1 := q1.stp hs
   have q2 := q2.stp hs
   refine TL_pur hlt.w (v := fPtr p6 2) (P_fieldAddr at_39_2 rfl (OB.ptr b112)) .plain rfl ?_
   refine TL_do hlt.w .plain rfl (D_storeFc (g := l9) part_FaultDamage_2 Tryz.sizeOf3 rfl b112 rfl (RV_int.2 rfl) fun n9 xC hs b114 rst hos => ?_)
   clear rst hos
   have hfr := hfr.stp hs
   have hlt := hlt.stp hs
   have q1 := q1.stp hs
   have q2 := q2.stp hs
   refine TL_nil hlt.w ?_
   clear hlt
   refine blk_n ?_
   obtain ⟨rfl, rfl⟩ := pairs2 h
   exact hQ _ _ ⟨n9, hfr, rfl, q1, rfl, q2, rfl, b114, rfl⟩
  ·refine E_cf v7 rfl ?_
   refine E_seq (E_region (EL_in (.bool (((x1).Kind == (2 : Int)))) rfl rfl rfl rfl ?_))
   refine EL_at (.bool (((x1).Kind == (2 : Int)))) rfl rfl ?_
   refine EL_nil (thn_n ?_)
   rcases csome h with ⟨e7, h⟩ | ⟨e7, h⟩
   ·refine E_ct e7 rfl ?_
    have o9 := PT_field (part_FaultDamage_2).1 q2
    refine L_load (x := .tmp 22) Tryz.isAgg3 Tryz.sizeOf3 o9 fun yC t9 v8 => ?_
    obtain rfl := RV_int.1 t9
    have u9 := PT_field (part_FaultDamage_4).1 q2
    refine L_load (x := .tmp 24) Tryz.isAgg4 Tryz.sizeOf4 u9 fun aD y9 x8 => ?_
    obtain rfl := RV_bool.1 y9
    refine E_drawTL (g := g7) (n := 5) [2, 3] [] [0, 1, 2, 3, 4] rfl mixed (by kernel_rfl) trivial rfl ?_
    refine L_p (fPtr p2 2) rfl rfl (P_fieldAddr at_39_2 rfl (PT.ptr q2)) ?_
    refine L_ld (c := .int .i64 ((x1).Hook)) rfl rfl .plain (fun _ _ h => h.ch) v8 rfl ?_
    refine L_purL (c := fPtr p2 4) rfl rfl .plain (P_fieldAddr at_39_4 rfl (PT.ptr q2)) ?_
    refine L_ldL (c := .bool ((x1).Up)) rfl rfl .plain (fun _ _ h => h.ch) rfl x8 rfl ?_
    refine L_p (fPtr p6 2) rfl rfl (P_fieldAddr at_39_2 rfl (OB.ptr b7)) ?_
    refine L_nl fun e8 z9 hs => ?_
    have hlt : Lt g7.m w7 e8 z9 := hs.ch
    have hfr := hfr.ext hs
    have q1 := q1.ext hs
    have q2 := q2.ext hs
    have b7 := b7.ext hs
    clear hs
    refine TL_do hlt.w .plain rfl (D_storeFc (g := e8) part_FaultDamage_2 Tryz.sizeOf3 rfl b7 rfl (RV_int.2 rfl) fun bA bD hs b143 rst hos => ?_)
    clear rst hos
    have hfr := hfr.stp hs
    have hlt := hlt.stp hs
    have q1 := q1.stp hs
    have q2 := q2.stp hs
    refine TL_pur hlt.w (v := fPtr p6 4) (P_fieldAddr at_39_4 rfl (OB.ptr b143)) .plain rfl ?_
    refine TL_do hlt.w .plain rfl (D_storeFc (g := bA) part_FaultDamage_4 Tryz.sizeOf4 rfl b143 rfl (RV_bool.2 rfl) fun gA cD hs b145 rst hos => ?_)
    clear rst hos
    have hfr := hfr.stp hs
    have hlt := hlt.stp hs
    have q1 := q1.stp hs
    have q2 := q2.stp hs
    refine TL_nil hlt.w ?_
    clear hlt
    refine blk_n ?_
    obtain ⟨rfl, rfl⟩ := pairs2 h
    exact hQ _ _ ⟨gA, hfr, rfl, q1, rfl, q2, rfl, b145, rfl⟩
   ·refine E_cf e7 rfl ?_
    obtain ⟨z3, hx, h⟩ := bsome h
    refine E_join (fun e w => ∃ (g : Gh) , Fr gI wI g w ∧ e 2 = p1 ∧ PT g.m w (x0 : FaultFaultLoom) p1 ∧ e 3 = p2 ∧ PT g.m w (x1 : FaultDamage) p2 ∧ e 5 = p6 ∧ OB 2005 g w 39 ((⟨(x1).Kind, 0, 0, 0, false⟩ : FaultDamage) : FaultDamage) p6 ∧ e 6 = .bool (true) ∧ e 11 = .int .i64 ((x1).Kind) ∧ e 28 = .bool (z3)) (fun Q' hQ => ?_) (fun lC eD hR => ?_)
    ·replace h := hx
     clear hx
     refine E_seq (E_region (EL_in (.bool (((x1).Kind == (3 : Int)))) rfl rfl rfl rfl ?_))
     refine EL_at (.bool (((x1).Kind == (3 : Int)))) rfl rfl ?_
     refine EL_nil (thn_n ?_)
     rcases csome h with ⟨i7, h⟩ | ⟨i7, h⟩
     ·refine E_ct i7 rfl ?_
      refine E_skip ?_
      obtain rfl := sinj h
      exact hQ _ _ ⟨g7, hfr, rfl, q1, rfl, q2, rfl, b7, rfl, rfl, rfl⟩
     ·refine E_cf i7 rfl ?_
      refine E_region (EL_in (.bool (((x1).Kind == (4 : Int)))) rfl rfl rfl rfl ?_)
      refine EL_at (.bool (((x1).Kind == (4 : Int)))) rfl rfl ?_
      refine EL_nil ?_
      obtain rfl := sinj h
      exact hQ _ _ ⟨g7, hfr, rfl, q1, rfl, q2, rfl, b7, rfl, rfl, rfl⟩
    ·clear hx
     obtain ⟨x6, hfr, y6, u3, i5, i3, l5, q5, u7, c8, c7⟩ := hR
     rcases csome h with ⟨j7, h⟩ | ⟨j7, h⟩
     ·refine E_cond_true (Eq.trans (show ev _ _ = .bool (z3) from c7) (congrArg Value.bool j7)) ?_
      refine E_region (EL_p (fPtr p2 1) (P_fieldAddr at_39_1 i5 (PT.ptr i3)) rfl ?_)
      have iA := PT_field (part_FaultDamage_1).1 i3
      refine EL_do .plain rfl (D_load (g := x6) Tryz.isAgg3 Tryz.sizeOf3 rfl iA fun gD jA => ?_)
      obtain rfl := RV_int.1 jA
      refine EL_p (fPtr p6 1) (P_fieldAddr at_39_1 l5 (OB.ptr q5)) rfl ?_
      refine EL_do .plain rfl (D_storeFc (g := x6) part_FaultDamage_1 Tryz.sizeOf3 rfl q5 rfl (RV_int.2 rfl) fun kA iD hs b153 rst hos => ?_)
      clear rst hos
      have hfr := hfr.stp hs
      have u3 := u3.stp hs
      have i3 := i3.stp hs
      refine EL_nil (blk_n ?_)
      obtain ⟨rfl, rfl⟩ := pairs2 h
      exact hQ _ _ ⟨kA, hfr, y6, u3, i5, i3, l5, b153, u7⟩
     ·refine E_cond_false (Eq.trans (show ev _ _ = .bool (z3) from c7) (congrArg Value.bool j7)) ?_
      refine E_seq (E_region (EL_in (.bool (((x1).Kind == (5 : Int)))) c8 rfl rfl rfl ?_))
      refine EL_at (.bool (((x1).Kind == (5 : Int)))) rfl rfl ?_
      refine EL_nil (thn_n ?_)
      rcases csome h with ⟨m7, h⟩ | ⟨m7, h⟩
      ·refine E_ct m7 rfl ?_
       refine E_region (EL_p (fPtr p2 3) (P_fieldAddr at_39_3 i5 (PT.ptr i3)) rfl ?_)
       have lA := PT_field (part_FaultDamage_3).1 i3
       refine EL_do .plain rfl (D_load (g := x6) Tryz.isAgg3 Tryz.sizeOf3 rfl lA fun jD mA => ?_)
       obtain rfl := RV_int.1 mA
       refine EL_p (fPtr p6 3) (P_fieldAddr at_39_3 l5 (OB.ptr q5)) rfl ?_
       refine EL_do .plain rfl (D_storeFc (g := x6) part_FaultDamage_3 Tryz.sizeOf3 rfl q5 rfl (RV_int.2 rfl) fun nA kD hs b158 rst hos => ?_)
       clear rst hos
       have hfr := hfr.stp hs
       have u3 := u3.stp hs
       have i3 := i3.stp hs
       refine EL_nil (blk_n ?_)
       obtain ⟨rfl, rfl⟩ := pairs2 h
       exact hQ _ _ ⟨nA, hfr, y6, u3, i5, i3, l5, b158, u7⟩
      ·refine E_cf m7 rfl ?_
       refine E_region (EL_at (.bool false) rfl rfl ?_)
       refine EL_nil (blk_n ?_)
       obtain ⟨rfl, rfl⟩ := pairs2 h
       exact hQ _ _ ⟨x6, hfr, y6, u3, i5, i3, l5, q5, rfl⟩
 ·clear hx
  obtain ⟨t5, hfr, a7, u0, i6, o0, g8, i8, k8⟩ := hR
  obtain ⟨x5, hx, h⟩ := bsome h
  refine E_join (fun e w => ∃ (g : Gh) , Fr gI wI g w ∧ e 4 = .bool (x5)) (fun Q' hQ => ?_) (fun mC lD hR => ?_)
  ·replace h := hx
   clear hx
   refine E_region (EL_mv k8 rfl ?_)
   refine EL_mw (.bool (z4)) rfl rfl ?_
   rcases csome h with ⟨o3, h⟩ | ⟨o3, h⟩
   ·refine EL_do (.yes2 rfl rfl o3) rfl (D_load (g := t5) Tryz.isAgg39 Tryz.sizeOf39 i6 o0 fun mD oA => ?_)
    refine EL_do (.yes2 rfl rfl o3) rfl (D_loadO (g := t5) Tryz.isAgg39 Tryz.sizeOf39 g8 i8 fun nD pA => ?_)
    refine EL_y (.bool ((decide (x1 = j3)))) (P_seq seq_39 rfl eg_39 rfl rfl oA pA) rfl rfl o3 rfl ?_
    refine EL_p (.bool ((decide (x1 = j3)))) (P_pick (b := z4) rfl (pick_t o3 rfl)) rfl ?_
    refine EL_mw (.bool ((decide (x1 = j3)))) rfl rfl ?_
    rcases csome h with ⟨j1, h⟩ | ⟨j1, h⟩
    ·refine EL_y (fPtr p1 0) (P_fieldAddr at_86_0 a7 (PT.ptr u0)) rfl rfl j1 rfl ?_
     have l8 := PT_field (part_FaultFaultLoom_0).1 u0
     refine EL_y (fPtr (fPtr p1 0) 2) (P_fieldAddr at_31_1 rfl (PT.ptr l8)) rfl rfl j1 rfl ?_
     have m8 := PT_field (part_FaultLoom_1).1 l8
     refine EL_y (fPtr (fPtr (fPtr p1 0) 2) 1) (P_fieldAddr at_29_1 rfl (PT.ptr m8)) rfl rfl j1 rfl ?_
     have qA := PT_field (part_Design_1).1 m8
     refine EL_do (.yes2 rfl rfl j1) rfl (D_load (g := t5) Tryz.isAgg25 Tryz.sizeOf25 rfl qA fun oD rA => ?_)
     refine EL_y (.int .i64 (((((x0).FaultLoom).Design).Rows).length : Int)) (P_len Tryz.underlying25 rfl rA) rfl rfl j1 rfl ?_
     refine EL_y (.int .i64 ((w64 ((((((x0).FaultLoom).Design).Rows).length : Int) - (1 : Int))))) (P_int rfl rfl rfl) rfl rfl j1 rfl ?_
     refine EL_y (fPtr p2 1) (P_fieldAddr at_39_1 i6 (PT.ptr o0)) rfl rfl j1 rfl ?_
     have sA := PT_field (part_FaultDamage_1).1 o0
     refine EL_do (.yes2 rfl rfl j1) rfl (D_load (g := t5) Tryz.isAgg3 Tryz.sizeOf3 rfl sA fun sD uA => ?_)
     obtain rfl := RV_int.1 uA
     refine EL_do (.yes2 rfl rfl j1) rfl (D_buildSlice (g := t5) 3054 (xs := ([(x1).Pick] : List Int)) (vs := [.int .i64 ((x1).Pick)]) Tryz.underlying25 Tryz.sizeOf3 Tryz.zeroValue3 rfl rfl (.cons rfl .nil) (RVs.cons (RV_int.2 rfl) RVs.nil) rfl rfl fun xA tD yA hs o203 zA hxt hfl => ?_)
     have hfr := hfr.stp hs
     have u0 := u0.stp hs
     have o0 := o0.stp hs
     obtain ⟨j6, y8, h⟩ := bsome h
     refine EL_do (.yes2 rfl rfl j1) rfl (D_call (g := xA) (vs := [.int .i64 (0), .int .i64 ((w64 ((((((x0).FaultLoom).Design).Rows).length : Int) - (1 : Int)))), yA]) en91 (.cons rfl (.cons rfl (.cons rfl .nil))) (wk91 zA y8) fun n7 qC uD hs hr => ?_)
     have hfr := hfr.ext hs
     have u0 := u0.ext hs
     have o0 := o0.ext hs
     subst hr
     refine EL_p (.bool (j6)) (P_pick (b := (decide (x1 = j3))) rfl (pick_t j1 rfl)) rfl ?_
     refine EL_mw (.bool (j6)) rfl rfl ?_
     rcases csome h with ⟨d3, h⟩ | ⟨d3, h⟩
     ·refine EL_y (fPtr p1 0) (P_fieldAddr at_86_0 a7 (PT.ptr u0)) rfl rfl d3 rfl ?_
      have n8 := PT_field (part_FaultFaultLoom_0).1 u0
      refine EL_y (fPtr (fPtr p1 0) 2) (P_fieldAddr at_31_1 rfl (PT.ptr n8)) rfl rfl d3 rfl ?_
      have o8 := PT_field (part_FaultLoom_1).1 n8
      refine EL_y (fPtr (fPtr (fPtr p1 0) 2) 0) (P_fieldAddr at_29_0 rfl (PT.ptr o8)) rfl rfl d3 rfl ?_
      have aB := PT_field (part_Design_0).1 o8
      refine EL_do (.yes2 rfl rfl d3) rfl (D_load (g := n7) Tryz.isAgg3 Tryz.sizeOf3 rfl aB fun vD bB => ?_)
      obtain rfl := RV_int.1 bB
      refine EL_y (.int .i64 ((w64 ((((x0).FaultLoom).Design).Hooks - (1 : Int))))) (P_int rfl rfl rfl) rfl rfl d3 rfl ?_
      refine EL_y (fPtr p2 2) (P_fieldAddr at_39_2 i6 (PT.ptr o0)) rfl rfl d3 rfl ?_
      have cB := PT_field (part_FaultDamage_2).1 o0
      refine EL_do (.yes2 rfl rfl d3) rfl (D_load (g := n7) Tryz.isAgg3 Tryz.sizeOf3 rfl cB fun xD dB => ?_)
      obtain rfl := RV_int.1 dB
      refine EL_do (.yes2 rfl rfl d3) rfl (D_buildSlice (g := n7) 3065 (xs := ([(x1).Hook] : List Int)) (vs := [.int .i64 ((x1).Hook)]) Tryz.underlying25 Tryz.sizeOf3 Tryz.zeroValue3 rfl rfl (.cons rfl .nil) (RVs.cons (RV_int.2 rfl) RVs.nil) rfl rfl fun eB yD iB hs o213 jB hxt hfl => ?_)
      have hfr := hfr.stp hs
      have u0 := u0.stp hs
      have o0 := o0.stp hs
      obtain ⟨v6, a9, h⟩ := bsome h
      refine EL_do (.yes2 rfl rfl d3) rfl (D_call (g := eB) (vs := [.int .i64 (0), .int .i64 ((w64 ((((x0).FaultLoom).Design).Hooks - (1 : Int)))), iB]) en91 (.cons rfl (.cons rfl (.cons rfl .nil))) (wk91 jB a9) fun o7 rC zD hs hr => ?_)
      have hfr := hfr.ext hs
      have u0 := u0.ext hs
      have o0 := o0.ext hs
      subst hr
      refine EL_p (.bool (v6)) (P_pick (b := j6) rfl (pick_t d3 rfl)) rfl ?_
      refine EL_mw (.bool (v6)) rfl rfl ?_
      rcases csome h with ⟨z2, h⟩ | ⟨z2, h⟩
      ·refine EL_y (fPtr p1 0) (P_fieldAddr at_86_0 a7 (PT.ptr u0)) rfl rfl z2 rfl ?_
       have q8 := PT_field (part_FaultFaultLoom_0).1 u0
       refine EL_y (fPtr (fPtr p1 0) 0) (P_fieldAddr at_31_0 rfl (PT.ptr q8)) rfl rfl z2 rfl ?_
       have r8 := PT_field (part_FaultLoom_0).1 q8
       refine EL_y (fPtr (fPtr (fPtr p1 0) 0) 1) (P_fieldAddr at_27_1 rfl (PT.ptr r8)) rfl rfl z2 rfl ?_
       have kB := PT_field (part_TieHarness_1).1 r8
       refine EL_do (.yes2 rfl rfl z2) rfl (D_load (g := o7) Tryz.isAgg25 Tryz.sizeOf25 rfl kB fun aE lB => ?_)
       refine EL_y (.int .i64 (((((x0).FaultLoom).Harness).Warps).length : Int)) (P_len Tryz.underlying25 rfl lB) rfl rfl z2 rfl ?_
       refine EL_y (.int .i64 ((w64 ((((((x0).FaultLoom).Harness).Warps).length : Int) - (1 : Int))))) (P_int rfl rfl rfl) rfl rfl z2 rfl ?_
       refine EL_y (fPtr p2 3) (P_fieldAddr at_39_3 i6 (PT.ptr o0)) rfl rfl z2 rfl ?_
       have mB := PT_field (part_FaultDamage_3).1 o0
       refine EL_do (.yes2 rfl rfl z2) rfl (D_load (g := o7) Tryz.isAgg3 Tryz.sizeOf3 rfl mB fun bE nB => ?_)
       obtain rfl := RV_int.1 nB
       refine EL_do (.yes2 rfl rfl z2) rfl (D_buildSlice (g := o7) 3077 (xs := ([(x1).Warp] : List Int)) (vs := [.int .i64 ((x1).Warp)]) Tryz.underlying25 Tryz.sizeOf3 Tryz.zeroValue3 rfl rfl (.cons rfl .nil) (RVs.cons (RV_int.2 rfl) RVs.nil) rfl rfl fun oB cE tB hs o223 vB hxt hfl => ?_)
       have hfr := hfr.stp hs
       obtain ⟨d7, d9, h⟩ := bsome h
       refine EL_do (.yes2 rfl rfl z2) rfl (D_call (g := oB) (vs := [.int .i64 (0), .int .i64 ((w64 ((((((x0).FaultLoom).Harness).Warps).length : Int) - (1 : Int)))), tB]) en91 (.cons rfl (.cons rfl (.cons rfl .nil))) (wk91 vB d9) fun xB tC dE hs hr => ?_)
       have hfr := hfr.ext hs
       subst hr
       refine EL_p (.bool (d7)) (P_pick (b := v6) rfl (pick_t z2 rfl)) rfl ?_
       refine EL_at (.bool (d7)) rfl rfl ?_
       refine EL_nil ?_
       obtain rfl := sinj h
       exact hQ _ _ ⟨xB, hfr, rfl⟩
      ·refine EL_s rfl rfl z2 rfl rfl ?_
       iterate 9 refine EL_s rfl rfl z2 rfl rfl ?_
       refine EL_p (.bool false) (P_pick (b := v6) rfl (pick_f z2 rfl)) rfl ?_
       refine EL_at (.bool false) rfl rfl ?_
       refine EL_nil ?_
       obtain rfl := sinj h
       exact hQ _ _ ⟨o7, hfr, rfl⟩
     ·refine EL_s rfl rfl d3 rfl rfl ?_
      iterate 8 refine EL_s rfl rfl d3 rfl rfl ?_
      refine EL_p (.bool false) (P_pick (b := j6) rfl (pick_f d3 rfl)) rfl ?_
      refine EL_dead 12 rfl ?_
      refine EL_at (.bool false) rfl rfl ?_
      refine EL_nil ?_
      obtain rfl := sinj h
      exact hQ _ _ ⟨n7, hfr, rfl⟩
    ·refine EL_s rfl rfl j1 rfl rfl ?_
     iterate 9 refine EL_s rfl rfl j1 rfl rfl ?_
     refine EL_p (.bool false) (P_pick (b := (decide (x1 = j3))) rfl (pick_f j1 rfl)) rfl ?_
     refine EL_dead 23 rfl ?_
     refine EL_at (.bool false) rfl rfl ?_
     refine EL_nil ?_
     obtain rfl := sinj h
     exact hQ _ _ ⟨t5, hfr, rfl⟩
   ·refine EL_s rfl rfl o3 rfl rfl ?_
    refine EL_s rfl rfl o3 rfl rfl ?_
    refine EL_s rfl rfl o3 rfl rfl ?_
    refine EL_p (.bool false) (P_pick (b := z4) rfl (pick_f o3 rfl)) rfl ?_
    refine EL_dead 35 rfl ?_
    refine EL_at (.bool false) rfl rfl ?_
    refine EL_nil ?_
    obtain rfl := sinj h
    exact hQ _ _ ⟨t5, hfr, rfl⟩
  ·clear hx
   obtain ⟨eE, hfr, t8⟩ := hR
   refine E_ret ?_
   obtain rfl := sinj h
   exact end1 rfl rfl (show _ = .bool (x5) from t8) ⟨_, hfr, rfl⟩
def f97 (x0 : List FaultDamage) (x1 : FaultDamage → Option Bool) : Option (Bool) :=
 (f126 x0 x1).bind fun y2 =>
 some ((decide (y2 ≥ (0 : Int))))
theorem en97 : Enters Tryz.prog 97 := enters_of Tryz.func97 (by kernel_rfl) rfl
theorem wk97 {gI : Gh} {wI : World} {x0 : List FaultDamage} {x1 : FaultDamage → Option Bool} {up0 : Value} (rp0 : RV gI.m wI x0 up0) {up1 : Value} (rp1 : FnV1 Tryz.prog x1 up1 gI wI) {r : Bool} (h : f97 x0 x1 = some r) : Fn Tryz.prog 97 #[up0, up1] gI wI (fun _ _ v => v = .bool (r)) := by
 unfold f97 at h
 refine fn_of_E Tryz.func97 rfl (Nat.le_of_ble_eq_true rfl) fun g0 hm hfr => ?_
 have rp0 : RV g0.m wI x0 up0 := hm ▸ rp0
 obtain ⟨ff1, fa1, fc1, rfl, fen1, fcl1⟩ := rp1
 show E _ 9 none _ _ _ _ _
 refine E_seq (E_region (EL_at (.bool false) rfl rfl ?_))
 refine EL_nil (thn_n (E_seq (E_region (EL_mw up0 rfl rfl ?_))))
 refine EL_mw ((.func (.func ff1) fa1 fc1)) rfl rfl ?_
 obtain ⟨y2, hy2, h⟩ := bsome h
 refine EL_do .plain rfl (D_call (g := g0) (vs := [up0, (.func (.func ff1) fa1 fc1)]) en126 (.cons rfl (.cons rfl .nil)) (wk126 rp0 (FnV1.ch ⟨_, _, _, rfl, fen1, fcl1⟩ hfr.ch) hy2) fun g1 w1_ v1 hs hr => ?_)
 have hfr := hfr.ext hs
 subst hr
 refine EL_in (.bool ((decide (y2 ≥ (0 : Int))))) rfl rfl rfl rfl ?_
 refine EL_at (.bool ((decide (y2 ≥ (0 : Int))))) rfl rfl ?_
 refine EL_nil (thn_n (E_ret ?_))
 obtain rfl := sinj h
 exact end1 rfl rfl (show _ = .bool ((decide (y2 ≥ (0 : Int)))) from rfl) ⟨_, hfr, rfl⟩
def f122 (x0 : TieTieHarness) (x1 : Int) : Option (Str) :=
 Option.bind (α := List UInt8) (
  lp (σ := List UInt8 × Int) (fun e7 (i3, o0) =>
   bif (decide (o0 < ((((x0).TieHarness).Warps).length : Int))) then
    Option.bind (α := List UInt8) (
     (f148 x0 x1 o0).bind fun q5 =>
     (f147 q5).bind fun t5 =>
     (apnd 1 i3 [t5]).bind fun y43 =>
     some (y43)
     ) fun z2 =>
    e7 (z2, (w64 (o0 + (1 : Int))))
   else
    some (i3)
   ) big (([] : List UInt8), (0 : Int))
  ) fun j3 =>
 (sbstr j3).bind fun z4 =>
 some (z4)
theorem en122 : Enters Tryz.prog 122 := enters_of Tryz.func122 (by kernel_rfl) rfl
theorem wk122 {gI : Gh} {wI : World} {x0 : TieTieHarness} {x1 : Int} {up0 : Value} (rp0 : RV gI.m wI x0 up0) {r : Str} (h : f122 x0 x1 = some r) : Fn Tryz.prog 122 #[up0, .int .i64 (x1)] gI wI (fun _ _ v => v = Str.v (r)) := by
 unfold f122 at h
 refine fn_of_E Tryz.func122 rfl (Nat.le_of_ble_eq_true rfl) fun g0 hm hfr => ?_
 have rp0 : RV g0.m wI x0 up0 := hm ▸ rp0
 show E _ 22 none _ _ _ _ _
 refine E_seq (E_region (EL_do .plain rfl (D_box (g := g0) rfl rp0 fun g1 w1 p1 hs q1 => ?_)))
 have hfr := hfr.ext hs
 refine EL_at (Str.v (⟨[]⟩ : Str)) rfl rfl ?_
 refine EL_nil (thn_n (E_seq (E_region (EL_do .plain rfl (D_allocOc (g := g1) 2005 ((⟨.pointer none, rfl⟩, []) : Fv × List UInt8) Tryz.zeroValue224 (fun m w => ⟨_, rep_two (show GoT.rep m w (⟨.pointer none, rfl⟩ : Fv) [.pointer none] from rfl) rep_nil, rfl⟩) fun g2 w2 p2 hs b2 cb => ?_)))))
 have hfr := hfr.stp hs
 have q1 := q1.stp hs
 replace b2 : SB 2005 60501 g2 w2 5 224 [] p2 := ⟨_, b2, cb.osf rfl, .inl rfl⟩
 clear cb
 refine EL_nil (thn_n ?_)
 obtain ⟨j3, hx, h⟩ := bsome h
 refine E_join (fun e w => ∃ (g : Gh) , Fr gI wI g w ∧ e 5 = p2 ∧ SB 2005 60501 g w 5 224 (j3) p2) (fun Q' hQ => ?_) (fun l8 r8 hR => ?_)
 ·replace h := hx
  clear hx
  refine E_seq (E_region (EL_p (fPtr p1 0) (P_fieldAddr at_202_0 rfl (PT.ptr q1)) rfl ?_))
  have g7 := PT_field (part_TieTieHarness_0).1 q1
  refine EL_p (fPtr (fPtr p1 0) 1) (P_fieldAddr at_27_1 rfl (PT.ptr g7)) rfl ?_
  have u7 := PT_field (part_TieHarness_1).1 g7
  refine EL_do .plain rfl (D_load (g := g2) Tryz.isAgg25 Tryz.sizeOf25 rfl u7 fun t8 v7 => ?_)
  refine EL_p (.int .i64 ((((x0).TieHarness).Warps).length : Int)) (P_len Tryz.underlying25 rfl v7) rfl ?_
  refine EL_mw (.int .i64 (0)) rfl rfl ?_
  refine EL_nil (thn_n (E_block ?_))
  refine E_lp h (fun (s : List UInt8 × Int) e w => ∃ (g : Gh) , Fr gI wI g w ∧ e 1 = .int .i64 (x1) ∧ e 2 = p1 ∧ PT g.m w (x0 : TieTieHarness) p1 ∧ e 5 = p2 ∧ SB 2005 60501 g w 5 224 (s.1) p2 ∧ e 10 = .int .i64 (((((x0).TieHarness).Warps).length : Int)) ∧ e 11 = .int .i64 (s.2)) ⟨g2, hfr, rfl, rfl, q1, rfl, b2, rfl, rfl⟩ (fun X27 e7 i7 => ?_)
  rintro ⟨i3, o0⟩ m8 v8 ⟨x5, hfr, i5, l5, u0, o3, j1, u3, d3⟩ h
  refine E_seq (E_region (EL_p (.bool ((decide (o0 < ((((x0).TieHarness).Warps).length : Int))))) (P_int d3 u3 rfl) rfl ?_))
  refine EL_nil (thn_n (E_seq ?_))
  rcases csome h with ⟨z3, h⟩ | ⟨z3, h⟩
  ·refine E_ct z3 rfl ?_
   refine E_skip (thn_n ?_)
   obtain ⟨z2, hx, h⟩ := bsome h
   refine E_join (fun e w => ∃ (g : Gh) , Fr gI wI g w ∧ e 1 = .int .i64 (x1) ∧ e 2 = p1 ∧ PT g.m w (x0 : TieTieHarness) p1 ∧ e 5 = p2 ∧ SB 2005 60501 g w 5 224 (z2) p2 ∧ e 10 = .int .i64 (((((x0).TieHarness).Warps).length : Int)) ∧ e 11 = .int .i64 (o0)) (fun Q' hQ => ?_) (fun n8 x8 hR => ?_)
   ·replace h := hx
    clear hx
    refine E_block ?_
    refine E_seq (E_region (EL_mv d3 rfl ?_))
    refine EL_at (.int .i64 (o0)) rfl rfl ?_
    refine EL_nil (thn_n (E_region (EL_do .plain rfl (D_load (g := x5) Tryz.isAgg202 Tryz.sizeOf202 l5 u0 fun c8 e8 => ?_))))
    refine EL_mv i5 rfl ?_
    refine EL_mw (.int .i64 (o0)) rfl rfl ?_
    obtain ⟨q5, j7, h⟩ := bsome h
    refine EL_do .plain rfl (D_call (g := x5) (vs := [c8, .int .i64 (x1), .int .i64 (o0)]) en148 (.cons rfl (.cons rfl (.cons rfl .nil))) (wk148 e8 j7) fun g8 o8 y8 hs hr => ?_)
    have hfr := hfr.ext hs
    have u0 := u0.ext hs
    have j1 := j1.ext hs
    subst hr
    obtain ⟨t5, m7, h⟩ := bsome h
    refine EL_do .plain rfl (D_call (g := g8) (vs := [.bool (q5)]) en147 (.cons rfl .nil) (wk147  m7) fun a9 q8 d9 hs hr => ?_)
    have hfr := hfr.ext hs
    have u0 := u0.ext hs
    have j1 := j1.ext hs
    subst hr
    obtain ⟨y43, n7, h⟩ := bsome h
    refine EL_do .plain rfl (D_callC (vs := [p2, .int .u8 (UInt8.toNat (t5))]) en146 (.cons o3 (.cons rfl .nil)) (wk146 (i := 2005) (j := 60501) rfl rfl j1 n7) fun e9 i9 hq => ?_)
    obtain ⟨hv, i8, ⟨_, _, _, _, hs1, hs2, hs3⟩, b42⟩ := hq
    subst hv
    have hfr := hfr.stp hs1
    have u0 := u0.stp hs1
    have hfr := hfr.stp hs2
    have u0 := u0.stp hs2
    have hfr := hfr.stp hs3
    have u0 := u0.stp hs3
    clear hs1 hs2 hs3
    refine EL_nil (blk_n ?_)
    obtain rfl := sinj h
    exact hQ _ _ ⟨i8, hfr, i5, l5, u0, o3, b42, u3, d3⟩
   ·clear hx
    obtain ⟨k8, hfr, v6, x6, y6, a7, b7, i6, j6⟩ := hR
    refine E_region (EL_in (.int .i64 ((w64 (o0 + (1 : Int))))) j6 rfl rfl rfl ?_)
    refine EL_mw (.int .i64 ((w64 (o0 + (1 : Int))))) rfl rfl ?_
    exact EL_nil (thn_n (i7 (z2, (w64 (o0 + (1 : Int)))) _ _ ⟨k8, hfr, v6, x6, y6, a7, b7, i6, rfl⟩ h))
  ·refine E_cf z3 rfl ?_
   refine E_exit ?_
   refine thn_e ?_
   refine thn_e ?_
   refine blk_hit ?_
   obtain rfl := sinj h
   exact hQ _ _ ⟨x5, hfr, o3, j1⟩
 ·clear hx
  obtain ⟨k9, hfr, c7, d7⟩ := hR
  refine E_seq (E_region ?_)
  obtain ⟨z4, o7, h⟩ := bsome h
  obtain ⟨hne46, hye46⟩ := sbstr_h o7
  refine EL_do .plain rfl (D_callC (vs := [p2]) en149 (.cons c7 .nil) (wk149 (i := 2005) (j := 60501) rfl d7 hne46) fun l9 n9 hq => ?_)
  obtain ⟨hv, o9, hs⟩ := hq
  rw [← hye46] at hv
  subst hv
  have hfr := hfr.stp hs
  refine EL_at (Str.v z4) rfl rfl ?_
  refine EL_nil (thn_n (E_ret ?_))
  obtain rfl := sinj h
  exact end1 rfl rfl (show _ = Str.v z4 from rfl) ⟨_, hfr, rfl⟩
end Go.Proofs.YtcjpochjapnoaaaGreat
