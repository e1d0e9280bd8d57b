import Derived.Test.YtpiaipiehjcflaaCode6
set_option maxRecDepth 8000
set_option maxHeartbeats 4000000
namespace Go.Proofs.Ytpiaipiehjcflaa
open Go.RowKit
/-- griffe/griffelaw05.FaultShows -/
def f13 (x0 : Mill) : Option (Bool) :=
 (f42 x0).bind fun y4 =>
 (f43 x0 y4 ((1 : Int))).bind fun d7 =>
 (idx d7 (0 : Int)).bind fun y11 =>
 (f42 x0).bind fun i3 =>
 (f44 y4).bind fun yH =>
 (f47 yH).bind fun i6 =>
 (f44 y4).bind fun n8 =>
 (f20 n8 (([y11] : List FaultDamage)) (((((i3).Design).Rows).length : Int))).bind fun u0 =>
 (f44 y4).bind fun o8 =>
 (f20 o8 (([y11] : List FaultDamage)) ((w64 ((2 : Int) * ((((i3).Design).Rows).length : Int))))).bind fun d3 =>
 (f45 y4 (((((i3).Design).Rows).length : Int)) (([y11] : List FaultDamage))).bind fun o3 =>
 (f45 y4 (((((i3).Design).Rows).length : Int)) ([])).bind fun p3 =>
 jn (σ := Unit) (fun (_ : Unit) =>
  jn (σ := Int) (fun p4 =>
   Option.bind (α := Bool) (
    bif (p4 == (((u0.1 : List FaultSight)).length : Int)) then
     (f15).bind fun g7 =>
     some (g7)
    else
     some (false)
    ) fun k6 =>
   some (k6)
   ) fun rC =>
  lp (σ := Int × Int) (fun sC (d5, j0) =>
   jn (σ := Unit) (fun (_ : Unit) =>
    jn (σ := Int) (fun p6 =>
     sC (p6, (w64 (j0 + (1 : Int))))
     ) fun tC =>
    lp (σ := Int × Int) (fun uC (o0, n0) =>
     jn (σ := Unit) (fun (_ : Unit) =>
      jn (σ := Int) (fun q6 =>
       uC (q6, (w64 (n0 + (1 : Int))))
       ) fun e9 =>
      jn (σ := Unit) (fun (_ : Unit) =>
       (idx (o3.1) j0).bind fun vC =>
       (idx (vC).b n0).bind fun q2 =>
       jn (σ := Unit) (fun (_ : Unit) =>
        jn (σ := Unit) (fun (_ : Unit) =>
         e9 ((w64 (o0 + (1 : Int))))
         ) fun xC =>
        (idx ((d3.1 : List FaultSight)) (w64 ((((u0.1 : List FaultSight)).length : Int) + o0))).bind fun g9 =>
        bif (!(decide (g9 = { (⟨j0, n0, (q2 == (120 : UInt8))⟩ : FaultSight) with Pick := (w64 (((⟨j0, n0, (q2 == (120 : UInt8))⟩ : FaultSight)).Pick + ((((i3).Design).Rows).length : Int))) }))) then
         some (false)
        else
         xC ()
        ) fun yC =>
       Option.bind (α := Bool) (
        bif (decide (o0 ≥ (((u0.1 : List FaultSight)).length : Int))) then
         some (true)
        else
         (idx ((u0.1 : List FaultSight)) o0).bind fun x4 =>
         bif (!(decide (x4 = (⟨j0, n0, (q2 == (120 : UInt8))⟩ : FaultSight)))) then
          some (true)
         else
          (idx ((d3.1 : List FaultSight)) o0).bind fun i7 =>
          some ((!(decide (i7 = (⟨j0, n0, (q2 == (120 : UInt8))⟩ : FaultSight)))))
        ) fun z4 =>
       bif z4 then
        some (false)
       else
        yC ()
       ) fun zC =>
      (idx (o3.1) j0).bind fun i9 =>
      (idx (i9).b n0).bind fun j7 =>
      (idx (p3.1) j0).bind fun j9 =>
      (idx (j9).b n0).bind fun l7 =>
      bif (j7 == l7) then
       e9 (o0)
      else
       zC ()
      ) fun aD =>
     (idx (o3.1) j0).bind fun m7 =>
     bif (decide (n0 < ((m7).b.length : Int))) then
      aD ()
     else
      tC (o0)
     ) big (d5, (0 : Int))
    ) fun bD =>
   bif (decide (j0 < ((((i3).Design).Rows).length : Int))) then
    bD ()
   else
    rC (d5)
   ) big ((0 : Int), (0 : Int))
  ) fun vE =>
 Option.bind (α := Bool) (
  bif (i6.2 != (0 : Int)) then
   some (true)
  else
   bif (u0.2 != (0 : Int)) then
    some (true)
   else
    bif (d3.2 != (0 : Int)) then
     some (true)
    else
     bif (!o3.2) then
      some (true)
     else
      bif (!p3.2) then
       some (true)
      else
       (f48 (i6.1) y11).bind fun r6 =>
       bif (!(r6 == (decide ((((u0.1 : List FaultSight)).length : Int) > (0 : Int))))) then
        some (true)
       else
        some (((((d3.1 : List FaultSight)).length : Int) != (w64 ((2 : Int) * (((u0.1 : List FaultSight)).length : Int)))))
  ) fun i5 =>
 bif i5 then
  some (false)
 else
  vE ()
theorem wk13 {gI : Gh} {wI : World} {x0 : Mill} {up0 : Value} (rp0 : RV gI.m wI x0 up0) {r : Bool} (h : f13 x0 = some r) : Fn Try.prog 13 #[up0] gI wI (fun _ _ v => v = .bool (r)) := by
 unfold f13 at h
 refine fn_of_E Try.func13 rfl (Nat.le_of_ble_eq_true rfl) fun g0 hm hfr => ?_
 have rp0 : RV g0.m wI x0 up0 := hm ▸ rp0
 show E _ 186 none _ _ _ _ _
 refine E_seq (E_region (EL_do .plain rfl (D_box (g := g0) rfl rp0 fun g1 w1 p1 hs q1 => ?_)))
 have hfr := hfr.ext hs
 refine EL_at (.bool false) rfl rfl ?_
 refine EL_nil (thn_n (E_seq (E_region (EL_do .plain rfl (D_load (g := g1) Try.isAgg84 Try.sizeOf84 rfl q1 fun v2 r2 => ?_)))))
 obtain ⟨y4, mJ, h⟩ := bsome h
 refine EL_do .plain rfl (D_call (g := g1) (vs := [v2]) en42 (.cons rfl .nil) (wk42 r2 mJ) fun g3 w3_ v3 hs hr => ?_)
 have hfr := hfr.ext hs
 have q1 := q1.ext hs
 have r3 := hr
 refine EL_do .plain rfl (D_allocOc (g := g3) 2003 (⟨⟨0, []⟩, ⟨0, []⟩⟩ : FaultLoom) Try.zeroValue28 (fun m w => ⟨_, (rep_two (rep_two rep_int rep_nil) (rep_two rep_int rep_nil)), rfl⟩) fun g5 w5 p5 hs b5 cb => ?_)
 have hfr := hfr.stp hs
 have q1 := q1.stp hs
 have r3 := r3.stp hs
 have mM : OSF 2003 60301 1 g5 w5 3 28 ([] : List Int) p5 := cb.osf (by rfl)
 have nM : OSF 2003 60303 3 g5 w5 3 28 ([] : List Int) p5 := cb.osf (by rfl)
 clear cb
 refine EL_do .plain rfl (D_storeOc (g := g5) (v := v3) Try.sizeOf28 rfl b5 rfl r3 fun g6 w6 hs b6 cb => ?_)
 clear cb
 have hfr := hfr.stp hs
 have q1 := q1.stp hs
 refine EL_nil (thn_n (E_seq (L_load (x := .tmp 1) Try.isAgg84 Try.sizeOf84 q1 fun v7 r7 nJ => ?_)))
 refine L_loadO0 (x := .tmp 3) Try.isAgg28 Try.sizeOf28 b6 fun v8 r8 oJ => ?_
 obtain ⟨d7, kI, h⟩ := bsome h
 obtain ⟨y11, aA, h⟩ := bsome h
 refine L_load (x := .tmp 1) Try.isAgg84 Try.sizeOf84 q1 fun zH pJ lI => ?_
 obtain ⟨i3, mI, h⟩ := bsome h
 refine E_drawTL (g := g6) (n := 11) [7, 8, 9] [(2, (fun v g w => RV g.m w d7 v)), (4, (fun v g w => RV g.m w (y11 : FaultDamage) v)), (6, (fun v g w => RV g.m w i3 v)), (10, (fun v g w => OB 2004 g w 62 (⟨0, 0, 0, 0, false⟩ : FaultDamage) v))] [0, 1, 2, 3, 4, 5, 6, 7, 8, 9, 10] rfl mixed (by kernel_rfl) (⟨fun _ => up_rv, fun _ => up_rv, fun _ => up_rv, fun _ => up_ob, trivial⟩) rfl ?_
 refine L_ld (c := v7) rfl rfl .plain (fun _ _ h => h.ch) nJ rfl ?_
 refine L_ld (c := v8) rfl rfl .plain (fun _ _ h => ⟨h.ch, fun b hb _ => h.below.block b hb⟩) oJ rfl ?_
 refine L_do (φ := fun v g w => RV g.m w d7 v) rfl rfl .plain (fun g w hd => D_call (g := g) (vs := [v7, v8, .int .i64 (1)]) en43 (.cons rfl (.cons rfl (.cons rfl .nil))) (wk43 (r7.ext hd.1) (r8.ext hd.1) kI) fun g' w' v hs hr => ⟨g', hs, hr⟩) (fun v9 hv => ?_)
 obtain ⟨_, _, _, rq9⟩ := hv
 refine L_pur (c := ePtr v9 (0 : Int) 5) rfl rfl .plain (fun _ _ hd => P_indexAddr (α := FaultDamage) Try.underlying29 Try.sizeOf62 rfl (word (A := fun g w => RV g.m w d7 v9) 2 rfl rfl (deps_of hd)) rfl aA) ?_
 refine L_do (φ := (fun v g w => RV g.m w (y11 : FaultDamage) v)) rfl rfl .plain (fun g w hd => D_load (g := g) Try.isAgg62 Try.sizeOf62 rfl (PT_idx (word (A := fun g w => RV g.m w d7 v9) 2 rfl rfl (hop 3 rfl rfl (deps_of hd))) aA) fun v r => ⟨g, Ext.refl g w, r⟩) (fun aI hv => ?_)
 clear hv
 refine L_ld (c := zH) rfl rfl .plain (fun _ _ h => h.ch) lI rfl ?_
 refine L_do (φ := fun v g w => RV g.m w i3 v) rfl rfl .plain (fun g w hd => D_call (g := g) (vs := [zH]) en42 (.cons rfl .nil) (wk42 (pJ.ext hd.1) mI) fun g' w' v hs hr => ⟨g', hs, hr⟩) (fun cD hv => ?_)
 obtain ⟨_, _, _, rq15⟩ := hv
 have rq17 := RV_field (part_FaultLoom_1).1 rq15
 obtain ⟨bI, k9⟩ : ∃ v, v = partV (GoT.agg Design) 2 (GoT.k Design) cD := ⟨_, rfl⟩
 replace rq17 := k9 ▸ rq17
 refine L_purL (c := bI) rfl rfl .plain (k9 ▸ P_field (part_FaultLoom_1).1 rfl of_28_1 Try.isAgg26 Try.sizeOf26 rfl rq15) ?_
 have rq18 := RV_field (part_Design_1).1 rq17
 obtain ⟨qJ, bA⟩ : ∃ v, v = partV (GoT.agg (List Int)) 1 (GoT.k (List Int)) bI := ⟨_, rfl⟩
 replace rq18 := bA ▸ rq18
 refine L_purL (c := qJ) rfl rfl .plain (bA ▸ P_field (part_Design_1).1 rfl of_26_1 Try.isAgg22 Try.sizeOf22 rfl rq17) ?_
 refine L_purL (c := .int .i64 ((((i3).Design).Rows).length : Int)) rfl rfl .plain (P_len Try.underlying22 rfl rq18) ?_
 refine L_do (φ := fun v g w => OB 2004 g w 62 (⟨0, 0, 0, 0, false⟩ : FaultDamage) v) rfl rfl .plain (fun g w hd => D_allocX (g := g) 2004 (⟨0, 0, 0, 0, false⟩ : FaultDamage) Try.zeroValue62 (fun m w => ⟨_, (rep_two rep_int (rep_two rep_int (rep_two rep_int (rep_two rep_int rep_bool)))), rfl⟩) fun g' w' v hs b => ⟨g', hs, b⟩) (fun rJ hv => ?_)
 clear hv
 refine L_nil fun sJ aN hall => ?_
 have hs := hall.1
 have hfr := hfr.ext hs
 have b6 := b6.ext hs
 have bN := (word_all (A := fun g w => RV g.m w d7 v9) 2 rfl hall)
 have cN := (PT_idx (word_all (A := fun g w => RV g.m w d7 v9) 2 rfl hall) aA)
 have tJ := (word_all (A := fun g w => RV g.m w (y11 : FaultDamage) aI) 4 rfl hall)
 have dN := (word_all (A := fun g w => RV g.m w i3 cD) 6 rfl hall)
 have eN := (k9 ▸ RV_field (part_FaultLoom_1).1 (word_all (A := fun g w => RV g.m w i3 cD) 6 rfl hall))
 have gN := (bA ▸ RV_field (part_Design_1).1 (k9 ▸ RV_field (part_FaultLoom_1).1 (word_all (A := fun g w => RV g.m w i3 cD) 6 rfl hall)))
 have b37 := (word_all (A := fun g w => OB 2004 g w 62 (⟨0, 0, 0, 0, false⟩ : FaultDamage) rJ) 10 rfl hall)
 clear hs hall
 refine TL_do .plain rfl (D_storeOc (g := sJ) (v := aI) Try.sizeOf62 rfl b37 rfl tJ fun cI iN hs b38 cb => ?_)
 clear cb
 have hfr := hfr.stp hs
 have b6 := b6.stp hs rfl
 refine TL_pur (v := .int .i64 ((((i3).Design).Rows).length : Int)) (P_assign rfl) .plain rfl ?_
 refine TL_nil ?_
 refine thn_n (E_seq (E_region (EL_do .plain rfl (D_loadO (g := cI) Try.isAgg28 Try.sizeOf28 rfl b6 fun uJ vJ => ?_))))
 obtain ⟨yH, nI, h⟩ := bsome h
 refine EL_do .plain rfl (D_call (g := cI) (vs := [uJ]) en44 (.cons rfl .nil) (wk44 vJ nI) fun xJ oM yJ hs hr => ?_)
 have hfr := hfr.ext hs
 have b6 := b6.ext hs
 have b38 := b38.ext hs
 have zJ := hr
 obtain ⟨i6, oI, h⟩ := bsome h
 refine EL_do .plain rfl (D_call (g := xJ) (vs := [yJ]) en47 (.cons rfl .nil) (wk47 zJ oI) fun aK pM jN hs hr => ?_)
 have hfr := hfr.ext hs
 have b6 := b6.ext hs
 have b38 := b38.ext hs
 obtain ⟨b7, bL, rfl, m4, rfl⟩ := hr
 refine EL_mw (.tuple #[b7, .int .i64 (i6.2)]) rfl rfl ?_
 refine EL_pur (v := b7) (P_extract rfl rfl) .plain rfl ?_
 refine EL_pur (v := .int .i64 (i6.2)) (P_extract rfl rfl) .plain rfl ?_
 refine EL_at b7 rfl rfl ?_
 refine EL_at (.int .i64 (i6.2)) rfl rfl ?_
 refine EL_nil (thn_n (E_seq (L_loadO0 (x := .tmp 3) Try.isAgg28 Try.sizeOf28 b6 fun dI bK pI => ?_)))
 obtain ⟨n8, qI, h⟩ := bsome h
 refine L_loadO0 (x := .tmp 4) Try.isAgg62 Try.sizeOf62 b38 fun eI cK rI => ?_
 obtain ⟨u0, sI, h⟩ := bsome h
 refine E_drawL (g := aK) (n := 11) [(1, (fun v g w => RV g.m w n8 v)), (3, (fun v g w => RV g.m w ([y11] : List FaultDamage) v ∧ OS 3042 g w 62 ([y11] : List FaultDamage) v ∧ FullV v)), (5, (fun v g w => ∃ y0 y1 : Value, v = .tuple #[y0, y1] ∧ RV g.m w (u0.1 : List FaultSight) y0 ∧ y1 = .int .i64 (u0.2)))] [0, 1, 2, 3, 4, 5, 6, 7, 8, 9, 10] rfl mixed (by kernel_rfl) (⟨fun _ => up_rv, fun _ => up_and up_rv (up_and up_os (up_eq _)), fun _ => (up_ex fun _ => (up_ex fun _ => (up_and (up_eq _) (up_and up_rv (up_eq _))))), trivial⟩) ?_
 refine L_ld (c := dI) rfl rfl .plain (fun _ _ h => ⟨h.ch, fun b hb _ => h.below.block b hb⟩) pI rfl ?_
 refine L_do (φ := fun v g w => RV g.m w n8 v) rfl rfl .plain (fun g w hd => D_call (g := g) (vs := [dI]) en44 (.cons rfl .nil) (wk44 (bK.ext hd.1) qI) fun g' w' v hs hr => ⟨g', hs, hr⟩) (fun xE hv => ?_)
 obtain ⟨_, _, _, rq45⟩ := hv
 refine L_ld (c := eI) rfl rfl .plain (fun _ _ h => ⟨h.ch, fun b hb _ => h.below.block b hb⟩) rI rfl ?_
 refine L_do (φ := fun v g w => RV g.m w ([y11] : List FaultDamage) v ∧ OS 3042 g w 62 ([y11] : List FaultDamage) v ∧ FullV v) rfl rfl .plain (fun g w hd => D_buildSlice (g := g) 3042 (xs := ([y11] : List FaultDamage)) (vs := [eI]) Try.underlying29 Try.sizeOf62 Try.zeroValue62 rfl rfl (.cons rfl .nil) (RVs.cons (cK.ext hd.1) RVs.nil) rfl rfl fun g' w' v hs o r hxt hfl => ⟨g', hxt, r, o, hfl⟩) (fun n6 hv => ?_)
 clear hv
 refine L_pur (c := .int .i64 ((((i3).Design).Rows).length : Int)) rfl rfl .plain (fun _ _ hd => P_move rfl) ?_
 refine L_do (φ := fun v g w => ∃ y0 y1 : Value, v = .tuple #[y0, y1] ∧ RV g.m w (u0.1 : List FaultSight) y0 ∧ y1 = .int .i64 (u0.2)) rfl rfl .plain (fun g w hd => D_call (g := g) (vs := [xE, n6, .int .i64 ((((i3).Design).Rows).length : Int)]) en20 (.cons rfl (.cons rfl (.cons rfl .nil))) (wk20 (word (A := fun g w => RV g.m w n8 xE) 1 rfl rfl (deps_of hd)) (word (A := fun g w => RV g.m w ([y11] : List FaultDamage) n6 ∧ OS 3042 g w 62 ([y11] : List FaultDamage) n6 ∧ FullV n6) 3 rfl rfl (deps_of hd)).1 sI) fun g' w' v hs hr => ⟨g', hs, hr⟩) (fun kN hv => ?_)
 obtain ⟨_, _, _, i1, _, rfl, dK, rfl⟩ := hv
 refine L_pur (c := .tuple #[i1, .int .i64 (u0.2)]) rfl rfl .plain (fun _ _ hd => P_move rfl) ?_
 refine L_pur (c := i1) rfl rfl .plain (fun _ _ hd => P_extract rfl rfl) ?_
 refine L_pur (c := .int .i64 (u0.2)) rfl rfl .plain (fun _ _ hd => P_extract rfl rfl) ?_
 refine L_pur (c := i1) rfl rfl .plain (fun _ _ hd => P_assign rfl) ?_
 refine L_pur (c := .int .i64 (u0.2)) rfl rfl .plain (fun _ _ hd => P_assign rfl) ?_
 refine L_nil fun eK lN hall => ?_
 have hs := hall.1
 have hfr := hfr.ext hs
 have b6 := b6.ext hs
 have b38 := b38.ext hs
 have m4 := m4.ext hs
 have mN := (word_all (A := fun g w => RV g.m w n8 xE) 1 rfl hall)
 have nN := (word_all (A := fun g w => RV g.m w ([y11] : List FaultDamage) n6 ∧ OS 3042 g w 62 ([y11] : List FaultDamage) n6 ∧ FullV n6) 3 rfl hall).1
 have o81 := (word_all (A := fun g w => RV g.m w ([y11] : List FaultDamage) n6 ∧ OS 3042 g w 62 ([y11] : List FaultDamage) n6 ∧ FullV n6) 3 rfl hall).2.1
 have oN := (tup2_0 (word_all (A := fun g w => ∃ y0 y1 : Value, Value.tuple #[i1, .int .i64 (u0.2)] = .tuple #[y0, y1] ∧ RV g.m w (u0.1 : List FaultSight) y0 ∧ y1 = .int .i64 (u0.2)) 5 rfl hall))
 have n4 := (tup2_0 (word_all (A := fun g w => ∃ y0 y1 : Value, Value.tuple #[i1, .int .i64 (u0.2)] = .tuple #[y0, y1] ∧ RV g.m w (u0.1 : List FaultSight) y0 ∧ y1 = .int .i64 (u0.2)) 5 rfl hall))
 clear hs hall
 refine EL_nil (thn_n (E_seq (L_loadO0 (x := .tmp 3) Try.isAgg28 Try.sizeOf28 b6 fun iI gK tI => ?_)))
 obtain ⟨o8, uI, h⟩ := bsome h
 refine L_loadO0 (x := .tmp 4) Try.isAgg62 Try.sizeOf62 b38 fun jI iK vI => ?_
 obtain ⟨d3, xI, h⟩ := bsome h
 refine E_drawL (g := eK) (n := 12) [(1, (fun v g w => RV g.m w o8 v)), (3, (fun v g w => RV g.m w ([y11] : List FaultDamage) v ∧ OS 3051 g w 62 ([y11] : List FaultDamage) v ∧ FullV v)), (6, (fun v g w => ∃ y0 y1 : Value, v = .tuple #[y0, y1] ∧ RV g.m w (d3.1 : List FaultSight) y0 ∧ y1 = .int .i64 (d3.2)))] [0, 1, 2, 3, 4, 5, 6, 7, 8, 9, 10, 11] rfl mixed (by kernel_rfl) (⟨fun _ => up_rv, fun _ => up_and up_rv (up_and up_os (up_eq _)), fun _ => (up_ex fun _ => (up_ex fun _ => (up_and (up_eq _) (up_and up_rv (up_eq _))))), trivial⟩) ?_
 refine L_ld (c := iI) rfl rfl .plain (fun _ _ h => ⟨h.ch, fun b hb _ => h.below.block b hb⟩) tI rfl ?_
 refine L_do (φ := fun v g w => RV g.m w o8 v) rfl rfl .plain (fun g w hd => D_call (g := g) (vs := [iI]) en44 (.cons rfl .nil) (wk44 (gK.ext hd.1) uI) fun g' w' v hs hr => ⟨g', hs, hr⟩) (fun yE hv => ?_)
 obtain ⟨_, _, _, rq90⟩ := hv
 refine L_ld (c := jI) rfl rfl .plain (fun _ _ h => ⟨h.ch, fun b hb _ => h.below.block b hb⟩) vI rfl ?_
 refine L_do (φ := fun v g w => RV g.m w ([y11] : List FaultDamage) v ∧ OS 3051 g w 62 ([y11] : List FaultDamage) v ∧ FullV v) rfl rfl .plain (fun g w hd => D_buildSlice (g := g) 3051 (xs := ([y11] : List FaultDamage)) (vs := [jI]) Try.underlying29 Try.sizeOf62 Try.zeroValue62 rfl rfl (.cons rfl .nil) (RVs.cons (iK.ext hd.1) RVs.nil) rfl rfl fun g' w' v hs o r hxt hfl => ⟨g', hxt, r, o, hfl⟩) (fun o6 hv => ?_)
 clear hv
 refine L_pur (c := .int .i64 ((((i3).Design).Rows).length : Int)) rfl rfl .plain (fun _ _ hd => P_move rfl) ?_
 refine L_pur (c := .int .i64 ((w64 ((2 : Int) * ((((i3).Design).Rows).length : Int))))) rfl rfl .plain (fun _ _ hd => P_int rfl rfl rfl) ?_
 refine L_do (φ := fun v g w => ∃ y0 y1 : Value, v = .tuple #[y0, y1] ∧ RV g.m w (d3.1 : List FaultSight) y0 ∧ y1 = .int .i64 (d3.2)) rfl rfl .plain (fun g w hd => D_call (g := g) (vs := [yE, o6, .int .i64 ((w64 ((2 : Int) * ((((i3).Design).Rows).length : Int))))]) en20 (.cons rfl (.cons rfl (.cons rfl .nil))) (wk20 (word (A := fun g w => RV g.m w o8 yE) 1 rfl rfl (deps_of hd)) (word (A := fun g w => RV g.m w ([y11] : List FaultDamage) o6 ∧ OS 3051 g w 62 ([y11] : List FaultDamage) o6 ∧ FullV o6) 3 rfl rfl (deps_of hd)).1 xI) fun g' w' v hs hr => ⟨g', hs, hr⟩) (fun pN hv => ?_)
 obtain ⟨_, _, _, d2, _, rfl, jK, rfl⟩ := hv
 refine L_pur (c := .tuple #[d2, .int .i64 (d3.2)]) rfl rfl .plain (fun _ _ hd => P_move rfl) ?_
 refine L_pur (c := d2) rfl rfl .plain (fun _ _ hd => P_extract rfl rfl) ?_
 refine L_pur (c := .int .i64 (d3.2)) rfl rfl .plain (fun _ _ hd => P_extract rfl rfl) ?_
 refine L_pur (c := d2) rfl rfl .plain (fun _ _ hd => P_assign rfl) ?_
 refine L_pur (c := .int .i64 (d3.2)) rfl rfl .plain (fun _ _ hd => P_assign rfl) ?_
 refine L_nil fun zE qN hall => ?_
 have hs := hall.1
 have hfr := hfr.ext hs
 have b6 := b6.ext hs
 have b38 := b38.ext hs
 have m4 := m4.ext hs
 have n4 := n4.ext hs
 have qM := (word_all (A := fun g w => RV g.m w o8 yE) 1 rfl hall)
 have rM := (word_all (A := fun g w => RV g.m w ([y11] : List FaultDamage) o6 ∧ OS 3051 g w 62 ([y11] : List FaultDamage) o6 ∧ FullV o6) 3 rfl hall).1
 have o137 := (word_all (A := fun g w => RV g.m w ([y11] : List FaultDamage) o6 ∧ OS 3051 g w 62 ([y11] : List FaultDamage) o6 ∧ FullV o6) 3 rfl hall).2.1
 have sM := (tup2_0 (word_all (A := fun g w => ∃ y0 y1 : Value, Value.tuple #[d2, .int .i64 (d3.2)] = .tuple #[y0, y1] ∧ RV g.m w (d3.1 : List FaultSight) y0 ∧ y1 = .int .i64 (d3.2)) 6 rfl hall))
 have d4 := (tup2_0 (word_all (A := fun g w => ∃ y0 y1 : Value, Value.tuple #[d2, .int .i64 (d3.2)] = .tuple #[y0, y1] ∧ RV g.m w (d3.1 : List FaultSight) y0 ∧ y1 = .int .i64 (d3.2)) 6 rfl hall))
 clear hs hall
 refine EL_nil (thn_n (E_seq (E_region (EL_do .plain rfl (D_loadO (g := zE) Try.isAgg28 Try.sizeOf28 rfl b6 fun yI cA => ?_)))))
 refine EL_mw (.int .i64 ((((i3).Design).Rows).length : Int)) rfl rfl ?_
 refine EL_do .plain rfl (D_loadO (g := zE) Try.isAgg62 Try.sizeOf62 rfl b38 fun zI aJ => ?_)
 refine EL_do .plain rfl (D_buildSlice (g := zE) 3061 (xs := ([y11] : List FaultDamage)) (vs := [zI]) Try.underlying29 Try.sizeOf62 Try.zeroValue62 rfl rfl (.cons rfl .nil) (RVs.cons aJ RVs.nil) rfl rfl fun bJ tM cJ hs o148 dJ hxt hfl => ?_)
 have hfr := hfr.stp hs
 have b6 := b6.stp hs rfl
 have b38 := b38.stp hs rfl
 have m4 := m4.stp hs
 have n4 := n4.stp hs
 have d4 := d4.stp hs
 have cA := cA.stp hs
 obtain ⟨o3, gG, h⟩ := bsome h
 refine EL_do .plain rfl (D_call (g := bJ) (vs := [yI, .int .i64 ((((i3).Design).Rows).length : Int), cJ]) en45 (.cons rfl (.cons rfl (.cons rfl .nil))) (wk45 cA dJ gG) fun aF cL uM hs hr => ?_)
 have hfr := hfr.ext hs
 have b6 := b6.ext hs
 have b38 := b38.ext hs
 have m4 := m4.ext hs
 have n4 := n4.ext hs
 have d4 := d4.ext hs
 obtain ⟨j1, kK, rfl, c4, rfl⟩ := hr
 refine EL_mw (.tuple #[j1, .bool (o3.2)]) rfl rfl ?_
 refine EL_pur (v := j1) (P_extract rfl rfl) .plain rfl ?_
 refine EL_pur (v := .bool (o3.2)) (P_extract rfl rfl) .plain rfl ?_
 refine EL_at j1 rfl rfl ?_
 refine EL_at (.bool (o3.2)) rfl rfl ?_
 refine EL_nil (thn_n (E_seq (E_region (EL_do .plain rfl (D_loadO (g := aF) Try.isAgg28 Try.sizeOf28 rfl b6 fun eJ gJ => ?_)))))
 refine EL_mw (.int .i64 ((((i3).Design).Rows).length : Int)) rfl rfl ?_
 obtain ⟨p3, hG, h⟩ := bsome h
 refine EL_do .plain rfl (D_call (g := aF) (vs := [eJ, .int .i64 ((((i3).Design).Rows).length : Int), .slice none 0 0]) en45 (.cons rfl (.cons rfl (.cons rfl .nil))) (wk45 gJ RV_nil hG) fun t6 dL vM hs hr => ?_)
 have hfr := hfr.ext hs
 have b38 := b38.ext hs
 have m4 := m4.ext hs
 have n4 := n4.ext hs
 have d4 := d4.ext hs
 have c4 := c4.ext hs
 obtain ⟨z1, lK, rfl, o4, rfl⟩ := hr
 refine EL_mw (.tuple #[z1, .bool (p3.2)]) rfl rfl ?_
 refine EL_pur (v := z1) (P_extract rfl rfl) .plain rfl ?_
 refine EL_pur (v := .bool (p3.2)) (P_extract rfl rfl) .plain rfl ?_
 refine EL_at z1 rfl rfl ?_
 refine EL_at (.bool (p3.2)) rfl rfl ?_
 refine EL_nil (thn_n (E_joinC h (fun (s : Unit) e w => ∃ (g : Gh) , Fr gI wI g w ∧ e 5 = .int .i64 (((((i3).Design).Rows).length : Int)) ∧ e 8 = i1 ∧ RV g.m w ((u0.1 : List FaultSight) : List FaultSight) i1 ∧ e 10 = d2 ∧ RV g.m w ((d3.1 : List FaultSight) : List FaultSight) d2 ∧ e 12 = j1 ∧ RV g.m w (o3.1 : List Str) j1 ∧ e 14 = z1 ∧ RV g.m w (p3.1 : List Str) z1) (fun X174 vE iG h => ?_) ?_))
 ·obtain ⟨i5, hx, h⟩ := bsome h
  refine E_join (fun e w => ∃ (g : Gh) , Fr gI wI g w ∧ e 5 = .int .i64 (((((i3).Design).Rows).length : Int)) ∧ e 8 = i1 ∧ RV g.m w ((u0.1 : List FaultSight) : List FaultSight) i1 ∧ e 10 = d2 ∧ RV g.m w ((d3.1 : List FaultSight) : List FaultSight) d2 ∧ e 12 = j1 ∧ RV g.m w (o3.1 : List Str) j1 ∧ e 14 = z1 ∧ RV g.m w (p3.1 : List Str) z1 ∧ e 105 = .bool (i5)) (fun Q' hQ => ?_) (fun eL xM hR => ?_)
  ·replace h := hx
   clear hx
   refine E_region (EL_mw (.int .i64 (i6.2)) rfl rfl ?_)
   refine EL_in (.bool ((i6.2 != (0 : Int)))) rfl rfl rfl rfl ?_
   refine EL_mw (.bool ((i6.2 != (0 : Int)))) rfl rfl ?_
   rcases csome h with ⟨o5, h⟩ | ⟨o5, h⟩
   ·refine EL_skip (.no2 rfl rfl o5 rfl) rfl ?_
    refine EL_skip (.no2 rfl rfl o5 rfl) rfl ?_
    refine EL_pur (v := .bool true) (P_pick (b := (i6.2 != (0 : Int))) rfl (pick_t o5 rfl)) .plain rfl ?_
    refine EL_dead 29 rfl ?_
    refine EL_nil ?_
    obtain rfl := sinj h
    exact hQ _ _ ⟨t6, hfr, rfl, rfl, n4, rfl, d4, rfl, c4, rfl, o4, rfl⟩
   ·refine EL_pur (v := .int .i64 (u0.2)) (P_move rfl) (.yes2 rfl rfl o5) rfl ?_
    refine EL_pur (v := .bool ((u0.2 != (0 : Int)))) (P_int rfl rfl rfl) (.yes2 rfl rfl o5) rfl ?_
    refine EL_pur (v := .bool ((u0.2 != (0 : Int)))) (P_pick (b := (i6.2 != (0 : Int))) rfl (pick_f o5 rfl)) .plain rfl ?_
    refine EL_mw (.bool ((u0.2 != (0 : Int)))) rfl rfl ?_
    rcases csome h with ⟨q5, h⟩ | ⟨q5, h⟩
    ·refine EL_skip (.no2 rfl rfl q5 rfl) rfl ?_
     refine EL_skip (.no2 rfl rfl q5 rfl) rfl ?_
     refine EL_pur (v := .bool true) (P_pick (b := (u0.2 != (0 : Int))) rfl (pick_t q5 rfl)) .plain rfl ?_
     refine EL_dead 25 rfl ?_
     refine EL_nil ?_
     obtain rfl := sinj h
     exact hQ _ _ ⟨t6, hfr, rfl, rfl, n4, rfl, d4, rfl, c4, rfl, o4, rfl⟩
    ·refine EL_pur (v := .int .i64 (d3.2)) (P_move rfl) (.yes2 rfl rfl q5) rfl ?_
     refine EL_pur (v := .bool ((d3.2 != (0 : Int)))) (P_int rfl rfl rfl) (.yes2 rfl rfl q5) rfl ?_
     refine EL_pur (v := .bool ((d3.2 != (0 : Int)))) (P_pick (b := (u0.2 != (0 : Int))) rfl (pick_f q5 rfl)) .plain rfl ?_
     refine EL_mw (.bool ((d3.2 != (0 : Int)))) rfl rfl ?_
     rcases csome h with ⟨t5, h⟩ | ⟨t5, h⟩
     ·refine EL_skip (.no2 rfl rfl t5 rfl) rfl ?_
      refine EL_skip (.no2 rfl rfl t5 rfl) rfl ?_
      refine EL_pur (v := .bool true) (P_pick (b := (d3.2 != (0 : Int))) rfl (pick_t t5 rfl)) .plain rfl ?_
      refine EL_dead 21 rfl ?_
      refine EL_nil ?_
      obtain rfl := sinj h
      exact hQ _ _ ⟨t6, hfr, rfl, rfl, n4, rfl, d4, rfl, c4, rfl, o4, rfl⟩
     ·refine EL_pur (v := .bool (o3.2)) (P_move rfl) (.yes2 rfl rfl t5) rfl ?_
      refine EL_pur (v := .bool (!o3.2)) (P_not rfl) (.yes2 rfl rfl t5) rfl ?_
      refine EL_pur (v := .bool (!o3.2)) (P_pick (b := (d3.2 != (0 : Int))) rfl (pick_f t5 rfl)) .plain rfl ?_
      refine EL_mw (.bool (!o3.2)) rfl rfl ?_
      rcases csome h with ⟨u5, h⟩ | ⟨u5, h⟩
      ·refine EL_skip (.no2 rfl rfl u5 rfl) rfl ?_
       refine EL_skip (.no2 rfl rfl u5 rfl) rfl ?_
       refine EL_pur (v := .bool true) (P_pick (b := (!o3.2)) rfl (pick_t u5 rfl)) .plain rfl ?_
       refine EL_dead 17 rfl ?_
       refine EL_nil ?_
       obtain rfl := sinj h
       exact hQ _ _ ⟨t6, hfr, rfl, rfl, n4, rfl, d4, rfl, c4, rfl, o4, rfl⟩
      ·refine EL_pur (v := .bool (p3.2)) (P_move rfl) (.yes2 rfl rfl u5) rfl ?_
       refine EL_pur (v := .bool (!p3.2)) (P_not rfl) (.yes2 rfl rfl u5) rfl ?_
       refine EL_pur (v := .bool (!p3.2)) (P_pick (b := (!o3.2)) rfl (pick_f u5 rfl)) .plain rfl ?_
       refine EL_mw (.bool (!p3.2)) rfl rfl ?_
       rcases csome h with ⟨s3, h⟩ | ⟨s3, h⟩
       ·refine EL_skip (.no2 rfl rfl s3 rfl) rfl ?_
        refine EL_skip (.no2 rfl rfl s3 rfl) rfl ?_
        refine EL_skip (.no2 rfl rfl s3 rfl) rfl ?_
        refine EL_skip (.no2 rfl rfl s3 rfl) rfl ?_
        refine EL_skip (.no2 rfl rfl s3 rfl) rfl ?_
        refine EL_skip (.no2 rfl rfl s3 rfl) rfl ?_
        refine EL_skip (.no2 rfl rfl s3 rfl) rfl ?_
        refine EL_pur (v := .bool true) (P_pick (b := (!p3.2)) rfl (pick_t s3 rfl)) .plain rfl ?_
        refine EL_dead 8 rfl ?_
        refine EL_nil ?_
        obtain rfl := sinj h
        exact hQ _ _ ⟨t6, hfr, rfl, rfl, n4, rfl, d4, rfl, c4, rfl, o4, rfl⟩
       ·refine EL_pur (v := b7) (P_move rfl) (.yes2 rfl rfl s3) rfl ?_
        refine EL_do (.yes2 rfl rfl s3) rfl (D_loadO (g := t6) Try.isAgg62 Try.sizeOf62 rfl b38 fun iJ jJ => ?_)
        obtain ⟨r6, jG, h⟩ := bsome h
        refine EL_do (.yes2 rfl rfl s3) rfl (D_call (g := t6) (vs := [b7, iJ]) en48 (.cons rfl (.cons rfl .nil)) (wk48 m4 jJ jG) fun bF gL yM hs hr => ?_)
        have hfr := hfr.ext hs
        have n4 := n4.ext hs
        have d4 := d4.ext hs
        have c4 := c4.ext hs
        have o4 := o4.ext hs
        subst hr
        refine EL_pur (v := i1) (P_move rfl) (.yes2 rfl rfl s3) rfl ?_
        refine EL_pur (v := .int .i64 (((u0.1 : List FaultSight)).length : Int)) (P_len Try.underlying39 rfl n4) (.yes2 rfl rfl s3) rfl ?_
        refine EL_pur (v := .bool ((decide ((((u0.1 : List FaultSight)).length : Int) > (0 : Int))))) (P_int rfl rfl rfl) (.yes2 rfl rfl s3) rfl ?_
        refine EL_pur (v := .bool ((!(r6 == (decide ((((u0.1 : List FaultSight)).length : Int) > (0 : Int))))))) (P_bool Try.underlying4 rfl rfl rfl) (.yes2 rfl rfl s3) rfl ?_
        refine EL_pur (v := .bool ((!(r6 == (decide ((((u0.1 : List FaultSight)).length : Int) > (0 : Int))))))) (P_pick (b := (!p3.2)) rfl (pick_f s3 rfl)) .plain rfl ?_
        refine EL_pur (v := .bool ((!(r6 == (decide ((((u0.1 : List FaultSight)).length : Int) > (0 : Int))))))) (P_move rfl) .plain rfl ?_
        rcases csome h with ⟨u3, h⟩ | ⟨u3, h⟩
        ·refine EL_skip (.no2 rfl rfl u3 rfl) rfl ?_
         refine EL_skip (.no2 rfl rfl u3 rfl) rfl ?_
         refine EL_skip (.no2 rfl rfl u3 rfl) rfl ?_
         refine EL_skip (.no2 rfl rfl u3 rfl) rfl ?_
         refine EL_skip (.no2 rfl rfl u3 rfl) rfl ?_
         refine EL_skip (.no2 rfl rfl u3 rfl) rfl ?_
         refine EL_pur (v := .bool true) (P_pick (b := (!(r6 == (decide ((((u0.1 : List FaultSight)).length : Int) > (0 : Int)))))) rfl (pick_t u3 rfl)) .plain rfl ?_
         refine EL_nil ?_
         obtain rfl := sinj h
         exact hQ _ _ ⟨bF, hfr, rfl, rfl, n4, rfl, d4, rfl, c4, rfl, o4, rfl⟩
        ·refine EL_pur (v := d2) (P_move rfl) (.yes2 rfl rfl u3) rfl ?_
         refine EL_pur (v := .int .i64 (((d3.1 : List FaultSight)).length : Int)) (P_len Try.underlying39 rfl d4) (.yes2 rfl rfl u3) rfl ?_
         refine EL_pur (v := i1) (P_move rfl) (.yes2 rfl rfl u3) rfl ?_
         refine EL_pur (v := .int .i64 (((u0.1 : List FaultSight)).length : Int)) (P_len Try.underlying39 rfl n4) (.yes2 rfl rfl u3) rfl ?_
         refine EL_pur (v := .int .i64 ((w64 ((2 : Int) * (((u0.1 : List FaultSight)).length : Int))))) (P_int rfl rfl rfl) (.yes2 rfl rfl u3) rfl ?_
         refine EL_pur (v := .bool (((((d3.1 : List FaultSight)).length : Int) != (w64 ((2 : Int) * (((u0.1 : List FaultSight)).length : Int)))))) (P_int rfl rfl rfl) (.yes2 rfl rfl u3) rfl ?_
         refine EL_pur (v := .bool (((((d3.1 : List FaultSight)).length : Int) != (w64 ((2 : Int) * (((u0.1 : List FaultSight)).length : Int)))))) (P_pick (b := (!(r6 == (decide ((((u0.1 : List FaultSight)).length : Int) > (0 : Int)))))) rfl (pick_f u3 rfl)) .plain rfl ?_
         refine EL_nil ?_
         obtain rfl := sinj h
         exact hQ _ _ ⟨bF, hfr, rfl, rfl, n4, rfl, d4, rfl, c4, rfl, o4, rfl⟩
  ·clear hx
   obtain ⟨kJ, hfr, cF, dF, eF, oD, pD, qD, rD, sD, tD, o7⟩ := hR
   rcases csome h with ⟨l9, h⟩ | ⟨l9, h⟩
   ·refine E_cond_true (Eq.trans (show ev _ _ = .bool (i5) from o7) (congrArg Value.bool l9)) ?_
    refine E_seq (E_region (EL_at (.bool false) rfl rfl ?_))
    refine EL_nil (thn_n (E_ret (thn_r ?_)))
    obtain rfl := sinj h
    exact end1 rfl rfl (show _ = .bool false from rfl) ⟨_, hfr, rfl⟩
   ·refine E_cond_false (Eq.trans (show ev _ _ = .bool (i5) from o7) (congrArg Value.bool l9)) ?_
    exact E_skip (thn_n (iG () _ _ ⟨kJ, hfr, cF, dF, eF, oD, pD, qD, rD, sD, tD⟩ h))
 ·rintro _ iL zM ⟨lJ, hfr, gF, iF, jF, uD, vD, xD, yD, zD, aE⟩ h
  refine E_seq (E_region (EL_at (.int .i64 (0)) rfl rfl ?_))
  refine EL_nil (thn_n (E_joinC h (fun (s : Int) e w => ∃ (g : Gh) , Fr gI wI g w ∧ e 8 = i1 ∧ RV g.m w ((u0.1 : List FaultSight) : List FaultSight) i1 ∧ e 16 = .int .i64 (s)) (fun X2892 rC kF h => ?_) ?_))
  ·refine E_seq (E_region (EL_at (.int .i64 (0)) rfl rfl ?_))
   refine EL_nil (thn_n (E_block ?_))
   refine E_lp h (fun (s : Int × Int) e w => ∃ (g : Gh) , Fr gI wI g w ∧ e 5 = .int .i64 (((((i3).Design).Rows).length : Int)) ∧ e 8 = i1 ∧ RV g.m w ((u0.1 : List FaultSight) : List FaultSight) i1 ∧ e 10 = d2 ∧ RV g.m w ((d3.1 : List FaultSight) : List FaultSight) d2 ∧ e 12 = j1 ∧ RV g.m w (o3.1 : List Str) j1 ∧ e 14 = z1 ∧ RV g.m w (p3.1 : List Str) z1 ∧ e 16 = .int .i64 (s.1) ∧ e 17 = .int .i64 (s.2)) ⟨lJ, hfr, gF, iF, jF, uD, vD, xD, yD, zD, aE, rfl, rfl⟩ (fun X2893 sC lF => ?_)
   rintro ⟨d5, j0⟩ mK jL ⟨dD, hfr, p8, q8, t8, dA, eA, gA, iA, jA, kA, p7, q7⟩ h
   refine E_joinC h (fun (s : Unit) e w => ∃ (g : Gh) , Fr gI wI g w ∧ e 5 = .int .i64 (((((i3).Design).Rows).length : Int)) ∧ e 8 = i1 ∧ RV g.m w ((u0.1 : List FaultSight) : List FaultSight) i1 ∧ e 10 = d2 ∧ RV g.m w ((d3.1 : List FaultSight) : List FaultSight) d2 ∧ e 12 = j1 ∧ RV g.m w (o3.1 : List Str) j1 ∧ e 14 = z1 ∧ RV g.m w (p3.1 : List Str) z1 ∧ e 16 = .int .i64 (d5) ∧ e 17 = .int .i64 (j0)) (fun X2896 bD mF h => ?_) ?_
   ·refine E_seq (E_region (EL_mv q7 rfl ?_))
    refine EL_mv p8 rfl ?_
    refine EL_pur (v := .bool ((decide (j0 < ((((i3).Design).Rows).length : Int))))) (P_int rfl rfl rfl) .plain rfl ?_
    refine EL_nil (thn_n ?_)
    rcases csome h with ⟨t7, h⟩ | ⟨t7, h⟩
    ·refine E_ct t7 rfl ?_
     exact E_skip (thn_n (mF () _ _ ⟨dD, hfr, p8, q8, t8, dA, eA, gA, iA, jA, kA, p7, q7⟩ h))
    ·refine E_cf t7 rfl ?_
     refine E_exit ?_
     refine thn_e ?_
     refine thn_e ?_
     refine blk_hit ?_
     exact thn_n (kF (d5) _ _ ⟨dD, hfr, q8, t8, p7⟩ h)
   ·rintro _ nK kL ⟨kG, hfr, bE, cE, dE, lA, mA, nA, oA, pA, qA, rA, sA⟩ h
    refine E_joinC h (fun (s : Int) e w => ∃ (g : Gh) , Fr gI wI g w ∧ e 5 = .int .i64 (((((i3).Design).Rows).length : Int)) ∧ e 8 = i1 ∧ RV g.m w ((u0.1 : List FaultSight) : List FaultSight) i1 ∧ e 10 = d2 ∧ RV g.m w ((d3.1 : List FaultSight) : List FaultSight) d2 ∧ e 12 = j1 ∧ RV g.m w (o3.1 : List Str) j1 ∧ e 14 = z1 ∧ RV g.m w (p3.1 : List Str) z1 ∧ e 16 = .int .i64 (s) ∧ e 17 = .int .i64 (j0)) (fun X4243 tC nF h => ?_) ?_
    ·refine E_block ?_
     refine E_seq (E_region (EL_at (.int .i64 (0)) rfl rfl ?_))
     refine EL_nil (thn_n (E_block ?_))
     refine E_lp h (fun (s : Int × Int) e w => ∃ (g : Gh) , Fr gI wI g w ∧ e 5 = .int .i64 (((((i3).Design).Rows).length : Int)) ∧ e 8 = i1 ∧ RV g.m w ((u0.1 : List FaultSight) : List FaultSight) i1 ∧ e 10 = d2 ∧ RV g.m w ((d3.1 : List FaultSight) : List FaultSight) d2 ∧ e 12 = j1 ∧ RV g.m w (o3.1 : List Str) j1 ∧ e 14 = z1 ∧ RV g.m w (p3.1 : List Str) z1 ∧ e 16 = .int .i64 (s.1) ∧ e 17 = .int .i64 (j0) ∧ e 18 = .int .i64 (s.2)) ⟨kG, hfr, bE, cE, dE, lA, mA, nA, oA, pA, qA, rA, sA, rfl⟩ (fun X4244 uC oF => ?_)
     rintro ⟨o0, n0⟩ oK lL ⟨m9, hfr, x8, y8, z8, u7, x7, u6, x5, y7, z7, a8, v6, b8⟩ h
     refine E_joinC h (fun (s : Unit) e w => ∃ (g : Gh) , Fr gI wI g w ∧ e 5 = .int .i64 (((((i3).Design).Rows).length : Int)) ∧ e 8 = i1 ∧ RV g.m w ((u0.1 : List FaultSight) : List FaultSight) i1 ∧ e 10 = d2 ∧ RV g.m w ((d3.1 : List FaultSight) : List FaultSight) d2 ∧ e 12 = j1 ∧ RV g.m w (o3.1 : List Str) j1 ∧ e 14 = z1 ∧ RV g.m w (p3.1 : List Str) z1 ∧ e 16 = .int .i64 (o0) ∧ e 17 = .int .i64 (j0) ∧ e 18 = .int .i64 (n0)) (fun X4250 aD pF h => ?_) ?_
     ·refine E_seq (E_region (EL_mv b8 rfl ?_))
      refine EL_mv u6 rfl ?_
      refine EL_mv v6 rfl ?_
      obtain ⟨m7, p9, h⟩ := bsome h
      refine EL_pur (v := ePtr j1 j0 1) (P_indexAddr (α := Str) Try.underlying36 Try.sizeOf9 rfl x5 rfl p9) .plain rfl ?_
      have lG := PT_idx x5 p9
      refine EL_do .plain rfl (D_load (g := m9) Try.isAgg9 Try.sizeOf9 rfl lG fun mL mG => ?_)
      obtain rfl := RV_str.1 mG
      refine EL_pur (v := .int .i64 ((m7).b.length : Int)) (P_lenS Try.underlying9 rfl) .plain rfl ?_
      refine EL_in (.bool ((decide (n0 < ((m7).b.length : Int))))) rfl rfl rfl rfl ?_
      refine EL_nil (thn_n ?_)
      rcases csome h with ⟨c8, h⟩ | ⟨c8, h⟩
      ·refine E_ct c8 rfl ?_
       exact E_skip (thn_n (pF () _ _ ⟨m9, hfr, x8, y8, z8, u7, x7, u6, x5, y7, z7, a8, v6, b8⟩ h))
      ·refine E_cf c8 rfl ?_
       refine E_exit ?_
       refine thn_e ?_
       refine thn_e ?_
       refine blk_hit ?_
       exact blk_n (thn_n (nF (o0) _ _ ⟨m9, hfr, x8, y8, z8, u7, x7, u6, x5, y7, z7, a8, v6⟩ h))
     ·rintro _ pK nL ⟨nG, hfr, a9, b9, l6, d8, y5, x6, q4, y6, u4, e8, z5, a6⟩ h
      refine E_joinC h (fun (s : Int) e w => ∃ (g : Gh) , Fr gI wI g w ∧ e 5 = .int .i64 (((((i3).Design).Rows).length : Int)) ∧ e 8 = i1 ∧ RV g.m w ((u0.1 : List FaultSight) : List FaultSight) i1 ∧ e 10 = d2 ∧ RV g.m w ((d3.1 : List FaultSight) : List FaultSight) d2 ∧ e 12 = j1 ∧ RV g.m w (o3.1 : List Str) j1 ∧ e 14 = z1 ∧ RV g.m w (p3.1 : List Str) z1 ∧ e 16 = .int .i64 (s) ∧ e 17 = .int .i64 (j0) ∧ e 18 = .int .i64 (n0)) (fun X4921 e9 q9 h => ?_) ?_
      ·refine E_block ?_
       refine E_joinC h (fun (s : Unit) e w => ∃ (g : Gh) , Fr gI wI g w ∧ e 5 = .int .i64 (((((i3).Design).Rows).length : Int)) ∧ e 8 = i1 ∧ RV g.m w ((u0.1 : List FaultSight) : List FaultSight) i1 ∧ e 10 = d2 ∧ RV g.m w ((d3.1 : List FaultSight) : List FaultSight) d2 ∧ e 12 = j1 ∧ RV g.m w (o3.1 : List Str) j1 ∧ e 14 = z1 ∧ RV g.m w (p3.1 : List Str) z1 ∧ e 16 = .int .i64 (o0) ∧ e 17 = .int .i64 (j0) ∧ e 18 = .int .i64 (n0)) (fun X4953 zC qF h => ?_) ?_
       ·refine E_seq ?_
        obtain ⟨i9, r9, h⟩ := bsome h
        have oG := PT_idx q4 r9
        refine L_load (x := .tmp 122) Try.isAgg9 Try.sizeOf9 oG fun oL pG rF => ?_
        obtain rfl := RV_str.1 pG
        obtain ⟨j7, sF, h⟩ := bsome h
        obtain ⟨j9, s9, h⟩ := bsome h
        have qG := PT_idx u4 s9
        refine L_load (x := .tmp 128) Try.isAgg9 Try.sizeOf9 qG fun pL rG tF => ?_
        obtain rfl := RV_str.1 rG
        obtain ⟨l7, uF, h⟩ := bsome h
        refine E_drawL (g := nG) (n := 13) [] [0, 1, 2, 3, 4, 5, 6, 7, 8, 9, 10, 11, 12] rfl mixed (by kernel_rfl) trivial ?_
        refine L_pur (c := j1) rfl rfl .plain (fun _ _ hd => P_move x6) ?_
        refine L_pur (c := .int .i64 (j0)) rfl rfl .plain (fun _ _ hd => P_move z5) ?_
        refine L_pur (c := ePtr j1 j0 1) rfl rfl .plain (fun _ _ hd => P_indexAddr (α := Str) Try.underlying36 Try.sizeOf9 rfl q4 rfl r9) ?_
        refine L_ld (c := Str.v (i9)) rfl rfl .plain (fun _ _ h => h.ch) rF rfl ?_
        refine L_pur (c := .int .i64 (n0)) rfl rfl .plain (fun _ _ hd => P_move a6) ?_
        refine L_pur (c := .int .u8 (UInt8.toNat (j7))) rfl rfl .plain (fun _ _ hd => P_indexS Try.underlying9 rfl rfl sF) ?_
        refine L_pur (c := z1) rfl rfl .plain (fun _ _ hd => P_move y6) ?_
        refine L_pur (c := .int .i64 (j0)) rfl rfl .plain (fun _ _ hd => P_move z5) ?_
        refine L_pur (c := ePtr z1 j0 1) rfl rfl .plain (fun _ _ hd => P_indexAddr (α := Str) Try.underlying36 Try.sizeOf9 rfl u4 rfl s9) ?_
        refine L_ld (c := Str.v (j9)) rfl rfl .plain (fun _ _ h => h.ch) tF rfl ?_
        refine L_pur (c := .int .i64 (n0)) rfl rfl .plain (fun _ _ hd => P_move a6) ?_
        refine L_pur (c := .int .u8 (UInt8.toNat (l7))) rfl rfl .plain (fun _ _ hd => P_indexS Try.underlying9 rfl rfl uF) ?_
        refine L_pur (c := .bool ((j7 == l7))) rfl rfl .plain (fun _ _ hd => P_u8 rfl rfl rfl) ?_
        refine L_nil fun eD qL hall => ?_
        have hs := hall.1
        have hfr := hfr.ext hs
        have l6 := l6.ext hs
        have y5 := y5.ext hs
        have q4 := q4.ext hs
        have u4 := u4.ext hs
        clear hs hall
        refine EL_nil (thn_n ?_)
        rcases csome h with ⟨g8, h⟩ | ⟨g8, h⟩
        ·refine E_ct g8 rfl ?_
         refine E_exit ?_
         refine thn_e ?_
         refine blk_hit ?_
         exact thn_n (q9 (o0) _ _ ⟨eD, hfr, a9, b9, l6, d8, y5, x6, q4, y6, u4, e8, z5, a6⟩ h)
        ·refine E_cf g8 rfl ?_
         exact E_skip (thn_n (qF () _ _ ⟨eD, hfr, a9, b9, l6, d8, y5, x6, q4, y6, u4, e8, z5, a6⟩ h))
       ·rintro _ qK sG ⟨n9, hfr, c7, j4, i2, c6, s2, d6, z2, z6, j3, z3, j5, l5⟩ h
        refine E_seq (E_region (EL_mv j5 rfl ?_))
        refine EL_mv l5 rfl ?_
        refine EL_mv d6 rfl ?_
        refine EL_mv j5 rfl ?_
        obtain ⟨vC, t9, h⟩ := bsome h
        refine EL_pur (v := ePtr j1 j0 1) (P_indexAddr (α := Str) Try.underlying36 Try.sizeOf9 rfl z2 rfl t9) .plain rfl ?_
        have tG := PT_idx z2 t9
        refine EL_do .plain rfl (D_load (g := n9) Try.isAgg9 Try.sizeOf9 rfl tG fun rL uG => ?_)
        obtain rfl := RV_str.1 uG
        refine EL_mv l5 rfl ?_
        obtain ⟨q2, vF, h⟩ := bsome h
        refine EL_pur (v := .int .u8 (UInt8.toNat (q2))) (P_indexS Try.underlying9 rfl rfl vF) .plain rfl ?_
        refine EL_pur (v := .bool ((q2 == (120 : UInt8)))) (P_u8 rfl rfl rfl) .plain rfl ?_
        have n7 : RV n9.m sG (⟨j0, n0, (q2 == (120 : UInt8))⟩ : FaultSight) (.agg (setCh [[.int .i64 0], [.int .i64 0], [.bool false]] [(0, .int .i64 (j0)), (1, .int .i64 (n0)), (2, .bool ((q2 == (120 : UInt8))))]).flatten.toArray) := RV_build rfl (rep_pair (rfl) (rep_pair (rfl) (rep_last (rfl))))
        generalize xF : (Value.agg (setCh [[.int .i64 0], [.int .i64 0], [.bool false]] [(0, .int .i64 (j0)), (1, .int .i64 (n0)), (2, .bool ((q2 == (120 : UInt8))))]).flatten.toArray) = gD at n7
        refine EL_pur (v := gD) (xF ▸ P_build (vs := [(0, .int .i64 (j0)), (1, .int .i64 (n0)), (2, .bool ((q2 == (120 : UInt8))))]) [[.int .i64 0], [.int .i64 0], [.bool false]] lay_56 rfl rfl (.cons rfl (.cons rfl (.cons rfl .nil))) ⟨⟨_, rfl, rfl⟩, ⟨⟨_, rfl, rfl⟩, ⟨⟨_, rfl, rfl⟩, trivial⟩⟩⟩) .plain rfl ?_
        refine EL_do .plain rfl (D_allocOc (g := n9) 2019 (⟨0, 0, false⟩ : FaultSight) Try.zeroValue56 (fun m w => ⟨_, (rep_two rep_int (rep_two rep_int rep_bool)), rfl⟩) fun vG sL m6 hs b4991 cb => ?_)
        have hfr := hfr.stp hs
        have i2 := i2.stp hs
        have s2 := s2.stp hs
        have z2 := z2.stp hs
        have j3 := j3.stp hs
        have n7 := n7.stp hs
        clear cb
        refine EL_do .plain rfl (D_storeOc (g := vG) (v := gD) Try.sizeOf56 rfl b4991 rfl n7 fun o9 tL hs b4992 cb => ?_)
        clear cb
        have hfr := hfr.stp hs
        have i2 := i2.stp hs
        have s2 := s2.stp hs
        have z2 := z2.stp hs
        have j3 := j3.stp hs
        refine EL_nil (thn_n (E_joinC h (fun (s : Unit) e w => ∃ (g : Gh) , Fr gI wI g w ∧ e 5 = .int .i64 (((((i3).Design).Rows).length : Int)) ∧ e 8 = i1 ∧ RV g.m w ((u0.1 : List FaultSight) : List FaultSight) i1 ∧ e 10 = d2 ∧ RV g.m w ((d3.1 : List FaultSight) : List FaultSight) d2 ∧ e 12 = j1 ∧ RV g.m w (o3.1 : List Str) j1 ∧ e 14 = z1 ∧ RV g.m w (p3.1 : List Str) z1 ∧ e 16 = .int .i64 (o0) ∧ e 17 = .int .i64 (j0) ∧ e 18 = .int .i64 (n0) ∧ e 19 = m6 ∧ OB 2019 g w 56 ((⟨j0, n0, (q2 == (120 : UInt8))⟩ : FaultSight) : FaultSight) m6) (fun X5255 yC yF h => ?_) ?_))
        ·obtain ⟨z4, hx, h⟩ := bsome h
         refine E_join (fun e w => ∃ (g : Gh) , Fr gI wI g w ∧ e 5 = .int .i64 (((((i3).Design).Rows).length : Int)) ∧ e 8 = i1 ∧ RV g.m w ((u0.1 : List FaultSight) : List FaultSight) i1 ∧ e 10 = d2 ∧ RV g.m w ((d3.1 : List FaultSight) : List FaultSight) d2 ∧ e 12 = j1 ∧ RV g.m w (o3.1 : List Str) j1 ∧ e 14 = z1 ∧ RV g.m w (p3.1 : List Str) z1 ∧ e 16 = .int .i64 (o0) ∧ e 17 = .int .i64 (j0) ∧ e 18 = .int .i64 (n0) ∧ e 19 = m6 ∧ OB 2019 g w 56 ((⟨j0, n0, (q2 == (120 : UInt8))⟩ : FaultSight) : FaultSight) m6 ∧ e 162 = .bool (z4)) (fun Q' hQ => ?_) (fun sK uL hR => ?_)
         ·replace h := hx
          clear hx
          rcases csome h with ⟨j2, h⟩ | ⟨j2, h⟩
          ·refine E_drawL (g := o9) (n := 20) [] [0, 1, 2, 3, 4, 5, 6, 7, 8, 9, 10, 11, 12, 13, 14, 15, 16, 17, 18, 19] rfl mixed (by kernel_rfl) trivial ?_
           refine L_pur (c := .int .i64 (o0)) rfl rfl .plain (fun _ _ hd => P_move z3) ?_
           refine L_pur (c := i1) rfl rfl .plain (fun _ _ hd => P_move j4) ?_
           refine L_pur (c := .int .i64 (((u0.1 : List FaultSight)).length : Int)) rfl rfl .plain (fun _ _ hd => P_len Try.underlying39 rfl i2) ?_
           refine L_pur (c := .bool ((decide (o0 ≥ (((u0.1 : List FaultSight)).length : Int))))) rfl rfl .plain (fun _ _ hd => P_int rfl rfl rfl) ?_
           refine L_pur (c := .bool ((decide (o0 ≥ (((u0.1 : List FaultSight)).length : Int))))) rfl rfl .plain (fun _ _ hd => P_move rfl) ?_
           refine L_skip rfl (.no2 rfl rfl j2 rfl) ?_
           refine L_skip rfl (.no2 rfl rfl j2 rfl) ?_
           refine L_skip rfl (.no2 rfl rfl j2 rfl) ?_
           refine L_skip rfl (.no2 rfl rfl j2 rfl) ?_
           refine L_skip rfl (.no2 rfl rfl j2 rfl) ?_
           refine L_skip rfl (.no2 rfl rfl j2 rfl) ?_
           refine L_pur (c := .bool true) rfl rfl .plain (fun _ _ hd => P_pick (b := (decide (o0 ≥ (((u0.1 : List FaultSight)).length : Int)))) rfl (pick_t j2 rfl)) ?_
           refine L_dead (fun _ => rfl) 8 rfl ?_
           refine L_nil fun xG vL hall => ?_
           have hs := hall.1
           have hfr := hfr.ext hs
           have i2 := i2.ext hs
           have s2 := s2.ext hs
           have z2 := z2.ext hs
           have j3 := j3.ext hs
           have b4992 := b4992.ext hs
           clear hs hall
           refine EL_nil ?_
           obtain rfl := sinj h
           exact hQ _ _ ⟨xG, hfr, c7, j4, i2, c6, s2, d6, z2, z6, j3, z3, j5, l5, rfl, b4992, rfl⟩
          ·obtain ⟨x4, i8, h⟩ := bsome h
           have yG := PT_idx i2 i8
           refine L_load (x := .tmp 150) Try.isAgg56 Try.sizeOf56 yG fun iD jD u9 => ?_
           refine L_loadO0 (x := .tmp 19) Try.isAgg56 Try.sizeOf56 b4992 fun kD lD x9 => ?_
           rcases csome h with ⟨q3, h⟩ | ⟨q3, h⟩
           ·refine E_drawL (g := o9) (n := 20) [] [0, 1, 2, 3, 4, 5, 6, 7, 8, 9, 10, 11, 12, 13, 14, 15, 16, 17, 18, 19] rfl mixed (by kernel_rfl) trivial ?_
            refine L_pur (c := .int .i64 (o0)) rfl rfl .plain (fun _ _ hd => P_move z3) ?_
            refine L_pur (c := i1) rfl rfl .plain (fun _ _ hd => P_move j4) ?_
            refine L_pur (c := .int .i64 (((u0.1 : List FaultSight)).length : Int)) rfl rfl .plain (fun _ _ hd => P_len Try.underlying39 rfl i2) ?_
            refine L_pur (c := .bool ((decide (o0 ≥ (((u0.1 : List FaultSight)).length : Int))))) rfl rfl .plain (fun _ _ hd => P_int rfl rfl rfl) ?_
            refine L_pur (c := .bool ((decide (o0 ≥ (((u0.1 : List FaultSight)).length : Int))))) rfl rfl .plain (fun _ _ hd => P_move rfl) ?_
            refine L_pur (c := i1) rfl rfl (.yes2 rfl rfl j2) (fun _ _ hd => P_move j4) ?_
            refine L_pur (c := .int .i64 (o0)) rfl rfl (.yes2 rfl rfl j2) (fun _ _ hd => P_move z3) ?_
            refine L_pur (c := ePtr i1 o0 3) rfl rfl (.yes2 rfl rfl j2) (fun _ _ hd => P_indexAddr (α := FaultSight) Try.underlying39 Try.sizeOf56 rfl i2 rfl i8) ?_
            refine L_ld (c := iD) rfl rfl (.yes2 rfl rfl j2) (fun _ _ h => h.ch) u9 rfl ?_
            refine L_ld (c := kD) rfl rfl (.yes2 rfl rfl j2) (fun _ _ h => ⟨h.ch, fun b hb _ => h.below.block b hb⟩) x9 rfl ?_
            refine L_pur (c := .bool ((!(decide (x4 = (⟨j0, n0, (q2 == (120 : UInt8))⟩ : FaultSight)))))) rfl rfl (.yes2 rfl rfl j2) (fun _ _ hd => P_sne seq_56 rfl eg_56 rfl rfl jD lD) ?_
            refine L_pur (c := .bool ((!(decide (x4 = (⟨j0, n0, (q2 == (120 : UInt8))⟩ : FaultSight)))))) rfl rfl .plain (fun _ _ hd => P_pick (b := (decide (o0 ≥ (((u0.1 : List FaultSight)).length : Int)))) rfl (pick_f j2 rfl)) ?_
            refine L_pur (c := .bool ((!(decide (x4 = (⟨j0, n0, (q2 == (120 : UInt8))⟩ : FaultSight)))))) rfl rfl .plain (fun _ _ hd => P_move rfl) ?_
            refine L_skip rfl (.no2 rfl rfl q3 rfl) ?_
            refine L_skip rfl (.no2 rfl rfl q3 rfl) ?_
            refine L_skip rfl (.no2 rfl rfl q3 rfl) ?_
            refine L_skip rfl (.no2 rfl rfl q3 rfl) ?_
            refine L_skip rfl (.no2 rfl rfl q3 rfl) ?_
            refine L_skip rfl (.no2 rfl rfl q3 rfl) ?_
            refine L_pur (c := .bool true) rfl rfl .plain (fun _ _ hd => P_pick (b := (!(decide (x4 = (⟨j0, n0, (q2 == (120 : UInt8))⟩ : FaultSight))))) rfl (pick_t q3 rfl)) ?_
            refine L_nil fun zG xL hall => ?_
            have hs := hall.1
            have hfr := hfr.ext hs
            have i2 := i2.ext hs
            have s2 := s2.ext hs
            have z2 := z2.ext hs
            have j3 := j3.ext hs
            have b4992 := b4992.ext hs
            clear hs hall
            refine EL_nil ?_
            obtain rfl := sinj h
            exact hQ _ _ ⟨zG, hfr, c7, j4, i2, c6, s2, d6, z2, z6, j3, z3, j5, l5, rfl, b4992, rfl⟩
           ·obtain ⟨i7, y9, h⟩ := bsome h
            have aH := PT_idx s2 y9
            refine L_load (x := .tmp 158) Try.isAgg56 Try.sizeOf56 aH fun bH cH zF => ?_
            refine L_loadO0 (x := .tmp 19) Try.isAgg56 Try.sizeOf56 b4992 fun dH gH aG => ?_
            refine E_drawL (g := o9) (n := 20) [] [0, 1, 2, 3, 4, 5, 6, 7, 8, 9, 10, 11, 12, 13, 14, 15, 16, 17, 18, 19] rfl mixed (by kernel_rfl) trivial ?_
            refine L_pur (c := .int .i64 (o0)) rfl rfl .plain (fun _ _ hd => P_move z3) ?_
            refine L_pur (c := i1) rfl rfl .plain (fun _ _ hd => P_move j4) ?_
            refine L_pur (c := .int .i64 (((u0.1 : List FaultSight)).length : Int)) rfl rfl .plain (fun _ _ hd => P_len Try.underlying39 rfl i2) ?_
            refine L_pur (c := .bool ((decide (o0 ≥ (((u0.1 : List FaultSight)).length : Int))))) rfl rfl .plain (fun _ _ hd => P_int rfl rfl rfl) ?_
            refine L_pur (c := .bool ((decide (o0 ≥ (((u0.1 : List FaultSight)).length : Int))))) rfl rfl .plain (fun _ _ hd => P_move rfl) ?_
            refine L_pur (c := i1) rfl rfl (.yes2 rfl rfl j2) (fun _ _ hd => P_move j4) ?_
            refine L_pur (c := .int .i64 (o0)) rfl rfl (.yes2 rfl rfl j2) (fun _ _ hd => P_move z3) ?_
            refine L_pur (c := ePtr i1 o0 3) rfl rfl (.yes2 rfl rfl j2) (fun _ _ hd => P_indexAddr (α := FaultSight) Try.underlying39 Try.sizeOf56 rfl i2 rfl i8) ?_
            refine L_ld (c := iD) rfl rfl (.yes2 rfl rfl j2) (fun _ _ h => h.ch) u9 rfl ?_
            refine L_ld (c := kD) rfl rfl (.yes2 rfl rfl j2) (fun _ _ h => ⟨h.ch, fun b hb _ => h.below.block b hb⟩) x9 rfl ?_
            refine L_pur (c := .bool ((!(decide (x4 = (⟨j0, n0, (q2 == (120 : UInt8))⟩ : FaultSight)))))) rfl rfl (.yes2 rfl rfl j2) (fun _ _ hd => P_sne seq_56 rfl eg_56 rfl rfl jD lD) ?_
            refine L_pur (c := .bool ((!(decide (x4 = (⟨j0, n0, (q2 == (120 : UInt8))⟩ : FaultSight)))))) rfl rfl .plain (fun _ _ hd => P_pick (b := (decide (o0 ≥ (((u0.1 : List FaultSight)).length : Int)))) rfl (pick_f j2 rfl)) ?_
            refine L_pur (c := .bool ((!(decide (x4 = (⟨j0, n0, (q2 == (120 : UInt8))⟩ : FaultSight)))))) rfl rfl .plain (fun _ _ hd => P_move rfl) ?_
            refine L_pur (c := d2) rfl rfl (.yes2 rfl rfl q3) (fun _ _ hd => P_move c6) ?_
            refine L_pur (c := .int .i64 (o0)) rfl rfl (.yes2 rfl rfl q3) (fun _ _ hd => P_move z3) ?_
            refine L_pur (c := ePtr d2 o0 3) rfl rfl (.yes2 rfl rfl q3) (fun _ _ hd => P_indexAddr (α := FaultSight) Try.underlying39 Try.sizeOf56 rfl s2 rfl y9) ?_
            refine L_ld (c := bH) rfl rfl (.yes2 rfl rfl q3) (fun _ _ h => h.ch) zF rfl ?_
            refine L_ld (c := dH) rfl rfl (.yes2 rfl rfl q3) (fun _ _ h => ⟨h.ch, fun b hb _ => h.below.block b hb⟩) aG rfl ?_
            refine L_pur (c := .bool ((!(decide (i7 = (⟨j0, n0, (q2 == (120 : UInt8))⟩ : FaultSight)))))) rfl rfl (.yes2 rfl rfl q3) (fun _ _ hd => P_sne seq_56 rfl eg_56 rfl rfl cH gH) ?_
            refine L_pur (c := .bool ((!(decide (i7 = (⟨j0, n0, (q2 == (120 : UInt8))⟩ : FaultSight)))))) rfl rfl .plain (fun _ _ hd => P_pick (b := (!(decide (x4 = (⟨j0, n0, (q2 == (120 : UInt8))⟩ : FaultSight))))) rfl (pick_f q3 rfl)) ?_
            refine L_nil fun iH yL hall => ?_
            have hs := hall.1
            have hfr := hfr.ext hs
            have i2 := i2.ext hs
            have s2 := s2.ext hs
            have z2 := z2.ext hs
            have j3 := j3.ext hs
            have b4992 := b4992.ext hs
            clear hs hall
            refine EL_nil ?_
            obtain rfl := sinj h
            exact hQ _ _ ⟨iH, hfr, c7, j4, i2, c6, s2, d6, z2, z6, j3, z3, j5, l5, rfl, b4992, rfl⟩
         ·clear hx
          obtain ⟨jH, hfr, eE, gE, iE, tA, uA, vA, xA, yA, zA, aB, bB, cB, dB, eB, e7⟩ := hR
          rcases csome h with ⟨j8, h⟩ | ⟨j8, h⟩
          ·refine E_cond_true (Eq.trans (show ev _ _ = .bool (z4) from e7) (congrArg Value.bool j8)) ?_
           refine E_seq (E_region (EL_at (.bool false) rfl rfl ?_))
           refine EL_nil (thn_n (E_ret (thn_r ?_)))
           refine blk_r ?_
           refine thn_r ?_
           refine thn_r ?_
           refine blk_r ?_
           refine blk_r ?_
           refine thn_r ?_
           refine thn_r ?_
           refine blk_r ?_
           refine thn_r ?_
           obtain rfl := sinj h
           exact end1 rfl rfl (show _ = .bool false from rfl) ⟨_, hfr, rfl⟩
          ·refine E_cond_false (Eq.trans (show ev _ _ = .bool (z4) from e7) (congrArg Value.bool j8)) ?_
           exact E_skip (thn_n (yF () _ _ ⟨jH, hfr, eE, gE, iE, tA, uA, vA, xA, yA, zA, aB, bB, cB, dB, eB⟩ h))
        ·rintro _ tK zL ⟨mD, hfr, c9, d9, c5, k8, i4, iB, m5, jB, n5, l8, kB, lB, a7, e6⟩ h
         refine E_joinC h (fun (s : Unit) e w => ∃ (g : Gh) , Fr gI wI g w ∧ e 5 = .int .i64 (((((i3).Design).Rows).length : Int)) ∧ e 8 = i1 ∧ RV g.m w ((u0.1 : List FaultSight) : List FaultSight) i1 ∧ e 10 = d2 ∧ RV g.m w ((d3.1 : List FaultSight) : List FaultSight) d2 ∧ e 12 = j1 ∧ RV g.m w (o3.1 : List Str) j1 ∧ e 14 = z1 ∧ RV g.m w (p3.1 : List Str) z1 ∧ e 16 = .int .i64 (o0) ∧ e 17 = .int .i64 (j0) ∧ e 18 = .int .i64 (n0)) (fun X5552 xC bG h => ?_) ?_
         ·refine E_seq (E_region (EL_pur (v := fPtr m6 0) (P_fieldAddr at_56_0 a7 (OB.ptr e6)) .plain rfl ?_))
          refine EL_do .plain rfl (D_loadF (g := mD) part_FaultSight_0.1 Try.isAgg3 Try.sizeOf3 rfl e6 fun aM kH => ?_)
          obtain rfl := RV_int.1 kH
          refine EL_mv c9 rfl ?_
          refine EL_pur (v := .int .i64 ((w64 (((⟨j0, n0, (q2 == (120 : UInt8))⟩ : FaultSight)).Pick + ((((i3).Design).Rows).length : Int))))) (P_int rfl rfl rfl) .plain rfl ?_
          refine EL_pur (v := fPtr m6 0) (P_fieldAddr at_56_0 a7 (OB.ptr e6)) .plain rfl ?_
          refine EL_do .plain rfl (D_storeFc (g := mD) part_FaultSight_0 Try.sizeOf3 rfl e6 rfl (RV_int.2 rfl) fun lH bM hs b5556 rst hos => ?_)
          clear rst hos
          have hfr := hfr.stp hs
          have c5 := c5.stp hs
          have i4 := i4.stp hs
          have m5 := m5.stp hs
          have n5 := n5.stp hs
          refine EL_nil (thn_n (E_seq ?_))
          obtain ⟨g9, z9, h⟩ := bsome h
          have mH := PT_idx i4 z9
          refine L_load (x := .tmp 173) Try.isAgg56 Try.sizeOf56 mH fun nH oH cG => ?_
          refine L_loadO0 (x := .tmp 19) Try.isAgg56 Try.sizeOf56 b5556 fun pH qH dG => ?_
          refine E_drawL (g := lH) (n := 9) [] [0, 1, 2, 3, 4, 5, 6, 7, 8] rfl mixed (by kernel_rfl) trivial ?_
          refine L_pur (c := d2) rfl rfl .plain (fun _ _ hd => P_move k8) ?_
          refine L_pur (c := i1) rfl rfl .plain (fun _ _ hd => P_move d9) ?_
          refine L_pur (c := .int .i64 (((u0.1 : List FaultSight)).length : Int)) rfl rfl .plain (fun _ _ hd => P_len Try.underlying39 rfl c5) ?_
          refine L_pur (c := .int .i64 (o0)) rfl rfl .plain (fun _ _ hd => P_move l8) ?_
          refine L_pur (c := .int .i64 ((w64 ((((u0.1 : List FaultSight)).length : Int) + o0)))) rfl rfl .plain (fun _ _ hd => P_int rfl rfl rfl) ?_
          refine L_pur (c := ePtr d2 (w64 ((((u0.1 : List FaultSight)).length : Int) + o0)) 3) rfl rfl .plain (fun _ _ hd => P_indexAddr (α := FaultSight) Try.underlying39 Try.sizeOf56 rfl i4 rfl z9) ?_
          refine L_ld (c := nH) rfl rfl .plain (fun _ _ h => h.ch) cG rfl ?_
          refine L_ld (c := pH) rfl rfl .plain (fun _ _ h => ⟨h.ch, fun b hb _ => h.below.block b hb⟩) dG a7 ?_
          refine L_pur (c := .bool ((!(decide (g9 = { (⟨j0, n0, (q2 == (120 : UInt8))⟩ : FaultSight) with Pick := (w64 (((⟨j0, n0, (q2 == (120 : UInt8))⟩ : FaultSight)).Pick + ((((i3).Design).Rows).length : Int))) }))))) rfl rfl .plain (fun _ _ hd => P_sne seq_56 rfl eg_56 rfl rfl oH qH) ?_
          refine L_nil fun sH cM hall => ?_
          have hs := hall.1
          have hfr := hfr.ext hs
          have c5 := c5.ext hs
          have i4 := i4.ext hs
          have m5 := m5.ext hs
          have n5 := n5.ext hs
          clear hs hall
          refine EL_nil (thn_n ?_)
          rcases csome h with ⟨m8, h⟩ | ⟨m8, h⟩
          ·refine E_ct m8 rfl ?_
           refine E_seq (E_region (EL_at (.bool false) rfl rfl ?_))
           refine EL_nil (thn_n (E_ret (thn_r ?_)))
           refine blk_r ?_
           refine thn_r ?_
           refine thn_r ?_
           refine blk_r ?_
           refine blk_r ?_
           refine thn_r ?_
           refine thn_r ?_
           refine blk_r ?_
           refine thn_r ?_
           obtain rfl := sinj h
           exact end1 rfl rfl (show _ = .bool false from rfl) ⟨_, hfr, rfl⟩
          ·refine E_cf m8 rfl ?_
           exact E_skip (thn_n (bG () _ _ ⟨sH, hfr, c9, d9, c5, k8, i4, iB, m5, jB, n5, l8, kB, lB⟩ h))
         ·rintro _ uK dM ⟨tH, hfr, jE, kE, lE, mB, nB, oB, pB, qB, rB, sB, tB, uB⟩ h
          refine E_region (EL_mv sB rfl ?_)
          refine EL_in (.int .i64 ((w64 (o0 + (1 : Int))))) rfl rfl rfl rfl ?_
          refine EL_at (.int .i64 ((w64 (o0 + (1 : Int))))) rfl rfl ?_
          exact EL_nil (blk_n (thn_n (q9 ((w64 (o0 + (1 : Int)))) _ _ ⟨tH, hfr, jE, kE, lE, mB, nB, oB, pB, qB, rB, rfl, tB, uB⟩ h)))
      ·rintro q6 vK eM ⟨uH, hfr, mE, nE, oE, vB, xB, yB, zB, aC, bC, cC, dC, eC⟩ h
       refine E_region (EL_mv eC rfl ?_)
       refine EL_in (.int .i64 ((w64 (n0 + (1 : Int))))) rfl rfl rfl rfl ?_
       refine EL_at (.int .i64 ((w64 (n0 + (1 : Int))))) rfl rfl ?_
       exact EL_nil (thn_n (oF (q6, (w64 (n0 + (1 : Int)))) _ _ ⟨uH, hfr, mE, nE, oE, vB, xB, yB, zB, aC, bC, cC, dC, rfl⟩ h))
    ·rintro p6 xK gM ⟨vH, hfr, pE, qE, rE, iC, jC, kC, lC, mC, nC, oC, pC⟩ h
     refine E_region (EL_mv pC rfl ?_)
     refine EL_in (.int .i64 ((w64 (j0 + (1 : Int))))) rfl rfl rfl rfl ?_
     refine EL_at (.int .i64 ((w64 (j0 + (1 : Int))))) rfl rfl ?_
     exact EL_nil (thn_n (lF (p6, (w64 (j0 + (1 : Int)))) _ _ ⟨vH, hfr, pE, qE, rE, iC, jC, kC, lC, mC, nC, oC, rfl⟩ h))
  ·rintro p4 yK iM ⟨nD, hfr, sE, tE, qC⟩ h
   obtain ⟨k6, hx, h⟩ := bsome h
   refine E_join (fun e w => ∃ (g : Gh) , Fr gI wI g w ∧ e 2 = .bool (k6)) (fun Q' hQ => ?_) (fun zK jM hR => ?_)
   ·replace h := hx
    clear hx
    refine E_region (EL_mv qC rfl ?_)
    refine EL_mv sE rfl ?_
    refine EL_pur (v := .int .i64 (((u0.1 : List FaultSight)).length : Int)) (P_len Try.underlying39 rfl tE) .plain rfl ?_
    refine EL_in (.bool ((p4 == (((u0.1 : List FaultSight)).length : Int)))) rfl rfl rfl rfl ?_
    refine EL_mw (.bool ((p4 == (((u0.1 : List FaultSight)).length : Int)))) rfl rfl ?_
    rcases csome h with ⟨j6, h⟩ | ⟨j6, h⟩
    ·obtain ⟨g7, eG, h⟩ := bsome h
     refine EL_do (.yes2 rfl rfl j6) rfl (D_call (g := nD) (vs := []) en15 .nil (wk15  eG) fun xH aL kM hs hr => ?_)
     have hfr := hfr.ext hs
     subst hr
     refine EL_pur (v := .bool (g7)) (P_pick (b := (p4 == (((u0.1 : List FaultSight)).length : Int))) rfl (pick_t j6 rfl)) .plain rfl ?_
     refine EL_at (.bool (g7)) rfl rfl ?_
     refine EL_nil ?_
     obtain rfl := sinj h
     exact hQ _ _ ⟨xH, hfr, rfl⟩
    ·refine EL_skip (.no2 rfl rfl j6 rfl) rfl ?_
     refine EL_pur (v := .bool false) (P_pick (b := (p4 == (((u0.1 : List FaultSight)).length : Int))) rfl (pick_f j6 rfl)) .plain rfl ?_
     refine EL_at (.bool false) rfl rfl ?_
     refine EL_nil ?_
     obtain rfl := sinj h
     exact hQ _ _ ⟨nD, hfr, rfl⟩
   ·clear hx
    obtain ⟨lM, hfr, uE⟩ := hR
    refine E_ret ?_
    obtain rfl := sinj h
    exact end1 rfl rfl (show _ = .bool (k6) from uE) ⟨_, hfr, rfl⟩
end Go.Proofs.Ytpiaipiehjcflaa
