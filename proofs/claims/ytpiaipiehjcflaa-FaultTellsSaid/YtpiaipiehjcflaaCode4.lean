import Derived.Test.YtpiaipiehjcflaaCode3
set_option maxRecDepth 8000
set_option maxHeartbeats 4000000
namespace Go.Proofs.Ytpiaipiehjcflaa
open Go.RowKit
/-- griffe/griffelaw05.known -/
def f15  : Option (Bool) :=
 (f49).bind fun y11 =>
 (f19 y11 (([(⟨(3 : Int), 0, 0, 0, false⟩ : FaultDamage)] : List FaultDamage)) ((3 : Int))).bind fun d3 =>
 (f49).bind fun rA =>
 (f20 rA (([(⟨(1 : Int), 0, (2 : Int), 0, false⟩ : FaultDamage)] : List FaultDamage)) ((2 : Int))).bind fun j3 =>
 (f49).bind fun y23 =>
 (f32 y23 (([(⟨(1 : Int), (4 : Int), false⟩ : FaultSight)] : List FaultSight))).bind fun j1 =>
 (f49).bind fun s6 =>
 (f37 s6 ((⟨(1 : Int), (1 : Int), (2 : Int), 0, false⟩ : FaultDamage)) ((⟨(5 : Int), 0, 0, (4 : Int), false⟩ : FaultDamage))).bind fun u0 =>
 (f49).bind fun t6 =>
 (f37 t6 ((⟨(1 : Int), (1 : Int), (2 : Int), 0, false⟩ : FaultDamage)) ((⟨(2 : Int), 0, (2 : Int), 0, false⟩ : FaultDamage))).bind fun q2 =>
 jn (σ := Unit) (fun (_ : Unit) =>
  (f49).bind fun l8 =>
  (f38 l8 (j1.1)).bind fun p2 =>
  (f49).bind fun m8 =>
  (f39 m8 (j1.1)).bind fun z2 =>
  (f49).bind fun n8 =>
  (f41 n8 (j1.1) ((2 : Int))).bind fun j0 =>
  Option.bind (α := Bool) (
   bif (p2.2 == (0 : Int)) then
    bif (z2.2 == (0 : Int)) then
     bif (j0.2.2.2 == (0 : Int)) then
      (idx (d3.1) (0 : Int)).bind fun x4 =>
      bif ((x4).b == ((⟨[46, 46, 46, 120, 46, 46]⟩ : Str)).b) then
       (idx (d3.1) (1 : Int)).bind fun z4 =>
       bif ((z4).b == ((⟨[46, 120, 120, 46, 120, 120]⟩ : Str)).b) then
        (idx (d3.1) (2 : Int)).bind fun c5 =>
        (idx (d3.1) (0 : Int)).bind fun d5 =>
        bif ((c5).b == (d5).b) then
         (idx (j3.1) (1 : Int)).bind fun r5 =>
         bif (decide (r5 = (⟨0, (4 : Int), true⟩ : FaultSight))) then
          bif (!j1.2.1) then
           (idx (j1.1) (0 : Int)).bind fun t5 =>
           bif (decide (t5 = (⟨(1 : Int), (1 : Int), (2 : Int), 0, false⟩ : FaultDamage))) then
            (idx (j1.1) (1 : Int)).bind fun u5 =>
            bif (decide (u5 = (⟨(2 : Int), 0, (2 : Int), 0, false⟩ : FaultDamage))) then
             (idx (j1.1) (4 : Int)).bind fun x5 =>
             bif (decide (x5 = (⟨(5 : Int), 0, 0, (4 : Int), false⟩ : FaultDamage))) then
              bif (u0.1 == (1 : Int)) then
               bif (u0.2.1 == (2 : Int)) then
                bif (p2.1 == (2 : Int)) then
                 bif (((z2.1).length : Int) == (3 : Int)) then
                  bif (j0.1 == (0 : Int)) then
                   bif (j0.2.1 == (0 : Int)) then
                    some ((j0.2.2.1 == (3 : Int)))
                   else
                    none
                  else
                   none
                 else
                  none
                else
                 none
               else
                none
              else
               none
             else
              none
            else
             none
           else
            none
          else
           none
         else
          none
        else
         none
       else
        none
      else
       none
     else
      none
    else
     none
   else
    none
   ) fun e5 =>
  some (e5)
  ) fun o8 =>
 Option.bind (α := Bool) (
  bif (d3.2 != (0 : Int)) then
   none
  else
   bif (j3.2 != (0 : Int)) then
    none
   else
    bif (j1.2.2 != (0 : Int)) then
     none
    else
     bif (u0.2.2 != (0 : Int)) then
      none
     else
      bif (q2.2.2 != (7 : Int)) then
       none
      else
       bif (((d3.1).length : Int) != (3 : Int)) then
        none
       else
        bif (((j3.1).length : Int) != (2 : Int)) then
         none
        else
         some ((((j1.1).length : Int) != (5 : Int)))
  ) fun c4 =>
 bif c4 then
  some (false)
 else
  o8 ()
theorem en15 : Enters Try.prog 15 := enters_of Try.func15 (by kernel_rfl) rfl
theorem wk15 {gI : Gh} {wI : World}   {r : Bool} (h : f15  = some r) : Fn Try.prog 15 #[] gI wI (fun _ _ v => v = .bool (r)) := by
 unfold f15 at h
 refine fn_of_E Try.func15 rfl (Nat.le_of_ble_eq_true rfl) fun g0 hm hfr => ?_
 show E _ 211 none _ _ _ _ _
 refine E_seq (E_region (EL_pur (v := .bool false) (P_assign rfl) .plain rfl ?_))
 refine EL_nil (thn_n (E_seq (E_region ?_)))
 have r1 : RV g0.m wI (⟨(1 : Int), (1 : Int), (2 : Int), 0, false⟩ : FaultDamage) (.agg (setCh [[.int .i64 0], [.int .i64 0], [.int .i64 0], [.int .i64 0], [.bool false]] [(0, .int .i64 (1)), (1, .int .i64 (1)), (2, .int .i64 (2))]).flatten.toArray) := RV_build rfl (rep_pair (rfl) (rep_pair (rfl) (rep_pair (rfl) (rep_pair (rep_int) (rep_last (rep_bool))))))
 generalize hv1 : (Value.agg (setCh [[.int .i64 0], [.int .i64 0], [.int .i64 0], [.int .i64 0], [.bool false]] [(0, .int .i64 (1)), (1, .int .i64 (1)), (2, .int .i64 (2))]).flatten.toArray) = v1 at r1
 refine EL_pur (v := v1) (hv1 ▸ P_build (vs := [(0, .int .i64 (1)), (1, .int .i64 (1)), (2, .int .i64 (2))]) [[.int .i64 0], [.int .i64 0], [.int .i64 0], [.int .i64 0], [.bool false]] lay_62 rfl rfl (.cons rfl (.cons rfl (.cons rfl .nil))) ⟨⟨_, rfl, rfl⟩, ⟨⟨_, rfl, rfl⟩, ⟨⟨_, rfl, rfl⟩, trivial⟩⟩⟩) .plain rfl ?_
 have r2 : RV g0.m wI (⟨(5 : Int), 0, 0, (4 : Int), false⟩ : FaultDamage) (.agg (setCh [[.int .i64 0], [.int .i64 0], [.int .i64 0], [.int .i64 0], [.bool false]] [(0, .int .i64 (5)), (3, .int .i64 (4))]).flatten.toArray) := RV_build rfl (rep_pair (rfl) (rep_pair (rep_int) (rep_pair (rep_int) (rep_pair (rfl) (rep_last (rep_bool))))))
 generalize hv2 : (Value.agg (setCh [[.int .i64 0], [.int .i64 0], [.int .i64 0], [.int .i64 0], [.bool false]] [(0, .int .i64 (5)), (3, .int .i64 (4))]).flatten.toArray) = v2 at r2
 refine EL_pur (v := v2) (hv2 ▸ P_build (vs := [(0, .int .i64 (5)), (3, .int .i64 (4))]) [[.int .i64 0], [.int .i64 0], [.int .i64 0], [.int .i64 0], [.bool false]] lay_62 rfl rfl (.cons rfl (.cons rfl .nil)) ⟨⟨_, rfl, rfl⟩, ⟨⟨_, rfl, rfl⟩, trivial⟩⟩) .plain rfl ?_
 have r3 : RV g0.m wI (⟨(2 : Int), 0, (2 : Int), 0, false⟩ : FaultDamage) (.agg (setCh [[.int .i64 0], [.int .i64 0], [.int .i64 0], [.int .i64 0], [.bool false]] [(0, .int .i64 (2)), (2, .int .i64 (2))]).flatten.toArray) := RV_build rfl (rep_pair (rfl) (rep_pair (rep_int) (rep_pair (rfl) (rep_pair (rep_int) (rep_last (rep_bool))))))
 generalize hv3 : (Value.agg (setCh [[.int .i64 0], [.int .i64 0], [.int .i64 0], [.int .i64 0], [.bool false]] [(0, .int .i64 (2)), (2, .int .i64 (2))]).flatten.toArray) = v3 at r3
 refine EL_pur (v := v3) (hv3 ▸ P_build (vs := [(0, .int .i64 (2)), (2, .int .i64 (2))]) [[.int .i64 0], [.int .i64 0], [.int .i64 0], [.int .i64 0], [.bool false]] lay_62 rfl rfl (.cons rfl (.cons rfl .nil)) ⟨⟨_, rfl, rfl⟩, ⟨⟨_, rfl, rfl⟩, trivial⟩⟩) .plain rfl ?_
 refine EL_do .plain rfl (D_allocOc (g := g0) 2001 (⟨0, 0, 0, 0, false⟩ : FaultDamage) Try.zeroValue62 (fun m w => ⟨_, (rep_two rep_int (rep_two rep_int (rep_two rep_int (rep_two rep_int rep_bool)))), rfl⟩) fun g4 w4 p4 hs b4 cb => ?_)
 have hfr := hfr.stp hs
 have r1 := r1.stp hs
 have r2 := r2.stp hs
 have r3 := r3.stp hs
 clear cb
 refine EL_do .plain rfl (D_allocOc (g := g4) 2002 (⟨0, 0, 0, 0, false⟩ : FaultDamage) Try.zeroValue62 (fun m w => ⟨_, (rep_two rep_int (rep_two rep_int (rep_two rep_int (rep_two rep_int rep_bool)))), rfl⟩) fun g5 w5 p5 hs b5 cb => ?_)
 have hfr := hfr.stp hs
 have r1 := r1.stp hs
 have r2 := r2.stp hs
 have r3 := r3.stp hs
 have b4 := b4.stp hs rfl
 clear cb
 refine EL_do .plain rfl (D_allocOc (g := g5) 2003 (⟨0, 0, 0, 0, false⟩ : FaultDamage) Try.zeroValue62 (fun m w => ⟨_, (rep_two rep_int (rep_two rep_int (rep_two rep_int (rep_two rep_int rep_bool)))), rfl⟩) fun g6 w6 p6 hs b6 cb => ?_)
 have hfr := hfr.stp hs
 have r1 := r1.stp hs
 have r2 := r2.stp hs
 have r3 := r3.stp hs
 have b4 := b4.stp hs rfl
 have b5 := b5.stp hs rfl
 clear cb
 refine EL_do .plain rfl (D_storeOc (g := g6) (v := v1) Try.sizeOf62 rfl b4 rfl r1 fun g7 w7 hs b7 cb => ?_)
 clear cb
 have hfr := hfr.stp hs
 have r1 := r1.stp hs
 have r2 := r2.stp hs
 have r3 := r3.stp hs
 have b5 := b5.stp hs rfl
 have b6 := b6.stp hs rfl
 refine EL_do .plain rfl (D_storeOc (g := g7) (v := v2) Try.sizeOf62 rfl b5 rfl r2 fun g8 w8 hs b8 cb => ?_)
 clear cb
 have hfr := hfr.stp hs
 have r1 := r1.stp hs
 have r2 := r2.stp hs
 have r3 := r3.stp hs
 have b7 := b7.stp hs rfl
 have b6 := b6.stp hs rfl
 refine EL_do .plain rfl (D_storeOc (g := g8) (v := v3) Try.sizeOf62 rfl b6 rfl r3 fun g9 w9 hs b9 cb => ?_)
 clear cb
 have hfr := hfr.stp hs
 have r1 := r1.stp hs
 have r2 := r2.stp hs
 have r3 := r3.stp hs
 have b7 := b7.stp hs rfl
 have b8 := b8.stp hs rfl
 refine EL_nil (thn_n (E_seq (E_region ?_)))
 obtain ⟨y11, eB, h⟩ := bsome h
 refine EL_do .plain rfl (D_call (g := g9) (vs := []) en49 .nil (wk49  eB) fun sA iB dD hs hr => ?_)
 have hfr := hfr.ext hs
 have r1 := r1.ext hs
 have r2 := r2.ext hs
 have r3 := r3.ext hs
 have b7 := b7.ext hs
 have b8 := b8.ext hs
 have b9 := b9.ext hs
 have e3 := hr
 have s2 : RV sA.m iB (⟨(3 : Int), 0, 0, 0, false⟩ : FaultDamage) (.agg (setCh [[.int .i64 0], [.int .i64 0], [.int .i64 0], [.int .i64 0], [.bool false]] [(0, .int .i64 (3))]).flatten.toArray) := RV_build rfl (rep_pair (rfl) (rep_pair (rep_int) (rep_pair (rep_int) (rep_pair (rep_int) (rep_last (rep_bool))))))
 generalize jB : (Value.agg (setCh [[.int .i64 0], [.int .i64 0], [.int .i64 0], [.int .i64 0], [.bool false]] [(0, .int .i64 (3))]).flatten.toArray) = tA at s2
 refine EL_pur (v := tA) (jB ▸ P_build (vs := [(0, .int .i64 (3))]) [[.int .i64 0], [.int .i64 0], [.int .i64 0], [.int .i64 0], [.bool false]] lay_62 rfl rfl (.cons rfl .nil) ⟨⟨_, rfl, rfl⟩, trivial⟩) .plain rfl ?_
 refine EL_do .plain rfl (D_buildSlice (g := sA) 3031 (xs := ([(⟨(3 : Int), 0, 0, 0, false⟩ : FaultDamage)] : List FaultDamage)) (vs := [tA]) Try.underlying29 Try.sizeOf62 Try.zeroValue62 rfl rfl (.cons rfl .nil) (RVs.cons s2 RVs.nil) rfl rfl fun eD iF gD hs o13 m3 hxt hfl => ?_)
 have hfr := hfr.stp hs
 have r1 := r1.stp hs
 have r2 := r2.stp hs
 have r3 := r3.stp hs
 have b7 := b7.stp hs rfl
 have b8 := b8.stp hs rfl
 have b9 := b9.stp hs rfl
 have e3 := e3.stp hs
 have s2 := s2.stp hs
 obtain ⟨d3, kB, h⟩ := bsome h
 refine EL_do .plain rfl (D_call (g := eD) (vs := [dD, gD, .int .i64 (3)]) en19 (.cons rfl (.cons rfl (.cons rfl .nil))) (wk19 e3 m3 kB) fun iD pE jF hs hr => ?_)
 have hfr := hfr.ext hs
 have r1 := r1.ext hs
 have r2 := r2.ext hs
 have r3 := r3.ext hs
 have b7 := b7.ext hs
 have b8 := b8.ext hs
 have b9 := b9.ext hs
 have e3 := e3.ext hs
 have s2 := s2.ext hs
 have m3 := m3.ext hs
 have o13 := o13.ext hs
 obtain ⟨m2, bE, rfl, j2, rfl⟩ := hr
 refine EL_pur (v := .tuple #[m2, .int .i64 (d3.2)]) (P_move rfl) .plain rfl ?_
 refine EL_pur (v := m2) (P_extract rfl rfl) .plain rfl ?_
 refine EL_pur (v := .int .i64 (d3.2)) (P_extract rfl rfl) .plain rfl ?_
 refine EL_pur (v := m2) (P_assign rfl) .plain rfl ?_
 refine EL_pur (v := .int .i64 (d3.2)) (P_assign rfl) .plain rfl ?_
 refine EL_nil (thn_n (E_seq (E_region ?_)))
 obtain ⟨rA, lB, h⟩ := bsome h
 refine EL_do .plain rfl (D_call (g := iD) (vs := []) en49 .nil (wk49  lB) fun uA mB jD hs hr => ?_)
 have hfr := hfr.ext hs
 have r1 := r1.ext hs
 have r2 := r2.ext hs
 have r3 := r3.ext hs
 have b7 := b7.ext hs
 have b8 := b8.ext hs
 have b9 := b9.ext hs
 have e3 := e3.ext hs
 have s2 := s2.ext hs
 have m3 := m3.ext hs
 have o13 := o13.ext hs
 have j2 := j2.ext hs
 have u3 := hr
 have q3 : RV uA.m mB (⟨(1 : Int), 0, (2 : Int), 0, false⟩ : FaultDamage) (.agg (setCh [[.int .i64 0], [.int .i64 0], [.int .i64 0], [.int .i64 0], [.bool false]] [(0, .int .i64 (1)), (2, .int .i64 (2))]).flatten.toArray) := RV_build rfl (rep_pair (rfl) (rep_pair (rep_int) (rep_pair (rfl) (rep_pair (rep_int) (rep_last (rep_bool))))))
 generalize nB : (Value.agg (setCh [[.int .i64 0], [.int .i64 0], [.int .i64 0], [.int .i64 0], [.bool false]] [(0, .int .i64 (1)), (2, .int .i64 (2))]).flatten.toArray) = vA at q3
 refine EL_pur (v := vA) (nB ▸ P_build (vs := [(0, .int .i64 (1)), (2, .int .i64 (2))]) [[.int .i64 0], [.int .i64 0], [.int .i64 0], [.int .i64 0], [.bool false]] lay_62 rfl rfl (.cons rfl (.cons rfl .nil)) ⟨⟨_, rfl, rfl⟩, ⟨⟨_, rfl, rfl⟩, trivial⟩⟩) .plain rfl ?_
 refine EL_do .plain rfl (D_buildSlice (g := uA) 3038 (xs := ([(⟨(1 : Int), 0, (2 : Int), 0, false⟩ : FaultDamage)] : List FaultDamage)) (vs := [vA]) Try.underlying29 Try.sizeOf62 Try.zeroValue62 rfl rfl (.cons rfl .nil) (RVs.cons q3 RVs.nil) rfl rfl fun kD kF lD hs o19 d4 hxt hfl => ?_)
 have hfr := hfr.stp hs
 have r1 := r1.stp hs
 have r2 := r2.stp hs
 have r3 := r3.stp hs
 have b7 := b7.stp hs rfl
 have b8 := b8.stp hs rfl
 have b9 := b9.stp hs rfl
 have e3 := e3.stp hs
 have s2 := s2.stp hs
 have m3 := m3.stp hs
 have o13 := o13.stp hs rfl
 have j2 := j2.stp hs
 have u3 := u3.stp hs
 have q3 := q3.stp hs
 obtain ⟨j3, oB, h⟩ := bsome h
 refine EL_do .plain rfl (D_call (g := kD) (vs := [jD, lD, .int .i64 (2)]) en20 (.cons rfl (.cons rfl (.cons rfl .nil))) (wk20 u3 d4 oB) fun mD qE lF hs hr => ?_)
 have hfr := hfr.ext hs
 have r1 := r1.ext hs
 have r2 := r2.ext hs
 have r3 := r3.ext hs
 have b7 := b7.ext hs
 have b8 := b8.ext hs
 have b9 := b9.ext hs
 have e3 := e3.ext hs
 have s2 := s2.ext hs
 have m3 := m3.ext hs
 have o13 := o13.ext hs
 have j2 := j2.ext hs
 have u3 := u3.ext hs
 have q3 := q3.ext hs
 have d4 := d4.ext hs
 have o19 := o19.ext hs
 obtain ⟨p3, cE, rfl, i3, rfl⟩ := hr
 refine EL_pur (v := .tuple #[p3, .int .i64 (j3.2)]) (P_move rfl) .plain rfl ?_
 refine EL_pur (v := p3) (P_extract rfl rfl) .plain rfl ?_
 refine EL_pur (v := .int .i64 (j3.2)) (P_extract rfl rfl) .plain rfl ?_
 refine EL_pur (v := p3) (P_assign rfl) .plain rfl ?_
 refine EL_pur (v := .int .i64 (j3.2)) (P_assign rfl) .plain rfl ?_
 refine EL_nil (thn_n (E_seq (E_region ?_)))
 obtain ⟨y23, pB, h⟩ := bsome h
 refine EL_do .plain rfl (D_call (g := mD) (vs := []) en49 .nil (wk49  pB) fun xA qB nD hs hr => ?_)
 have hfr := hfr.ext hs
 have r1 := r1.ext hs
 have r2 := r2.ext hs
 have r3 := r3.ext hs
 have b7 := b7.ext hs
 have b8 := b8.ext hs
 have b9 := b9.ext hs
 have e3 := e3.ext hs
 have s2 := s2.ext hs
 have m3 := m3.ext hs
 have o13 := o13.ext hs
 have j2 := j2.ext hs
 have u3 := u3.ext hs
 have q3 := q3.ext hs
 have d4 := d4.ext hs
 have o19 := o19.ext hs
 have i3 := i3.ext hs
 have i5 := hr
 have u4 : RV xA.m qB (⟨(1 : Int), (4 : Int), false⟩ : FaultSight) (.agg (setCh [[.int .i64 0], [.int .i64 0], [.bool false]] [(0, .int .i64 (1)), (1, .int .i64 (4))]).flatten.toArray) := RV_build rfl (rep_pair (rfl) (rep_pair (rfl) (rep_last (rep_bool))))
 generalize rB : (Value.agg (setCh [[.int .i64 0], [.int .i64 0], [.bool false]] [(0, .int .i64 (1)), (1, .int .i64 (4))]).flatten.toArray) = yA at u4
 refine EL_pur (v := yA) (rB ▸ P_build (vs := [(0, .int .i64 (1)), (1, .int .i64 (4))]) [[.int .i64 0], [.int .i64 0], [.bool false]] lay_56 rfl rfl (.cons rfl (.cons rfl .nil)) ⟨⟨_, rfl, rfl⟩, ⟨⟨_, rfl, rfl⟩, trivial⟩⟩) .plain rfl ?_
 refine EL_do .plain rfl (D_buildSlice (g := xA) 3045 (xs := ([(⟨(1 : Int), (4 : Int), false⟩ : FaultSight)] : List FaultSight)) (vs := [yA]) Try.underlying39 Try.sizeOf56 Try.zeroValue56 rfl rfl (.cons rfl .nil) (RVs.cons u4 RVs.nil) rfl rfl fun oD mF pD hs o25 q6 hxt hfl => ?_)
 have hfr := hfr.stp hs
 have r1 := r1.stp hs
 have r2 := r2.stp hs
 have r3 := r3.stp hs
 have b7 := b7.stp hs rfl
 have b8 := b8.stp hs rfl
 have b9 := b9.stp hs rfl
 have e3 := e3.stp hs
 have s2 := s2.stp hs
 have m3 := m3.stp hs
 have o13 := o13.stp hs rfl
 have j2 := j2.stp hs
 have u3 := u3.stp hs
 have q3 := q3.stp hs
 have d4 := d4.stp hs
 have o19 := o19.stp hs rfl
 have i3 := i3.stp hs
 have i5 := i5.stp hs
 have u4 := u4.stp hs
 obtain ⟨j1, sB, h⟩ := bsome h
 refine EL_do .plain rfl (D_call (g := oD) (vs := [nD, pD]) en32 (.cons rfl (.cons rfl .nil)) (wk32 i5 q6 sB) fun qD rE nF hs hr => ?_)
 have hfr := hfr.ext hs
 have r1 := r1.ext hs
 have r2 := r2.ext hs
 have r3 := r3.ext hs
 have b7 := b7.ext hs
 have b8 := b8.ext hs
 have b9 := b9.ext hs
 have e3 := e3.ext hs
 have s2 := s2.ext hs
 have m3 := m3.ext hs
 have o13 := o13.ext hs
 have j2 := j2.ext hs
 have u3 := u3.ext hs
 have q3 := q3.ext hs
 have d4 := d4.ext hs
 have o19 := o19.ext hs
 have i3 := i3.ext hs
 have i5 := i5.ext hs
 have u4 := u4.ext hs
 have q6 := q6.ext hs
 have o25 := o25.ext hs
 obtain ⟨i1, dE, eE, rfl, q4, rfl, rfl⟩ := hr
 refine EL_pur (v := .tuple #[i1, .bool (j1.2.1), .int .i64 (j1.2.2)]) (P_move rfl) .plain rfl ?_
 refine EL_pur (v := i1) (P_extract rfl rfl) .plain rfl ?_
 refine EL_pur (v := .bool (j1.2.1)) (P_extract rfl rfl) .plain rfl ?_
 refine EL_pur (v := .int .i64 (j1.2.2)) (P_extract rfl rfl) .plain rfl ?_
 refine EL_pur (v := i1) (P_assign rfl) .plain rfl ?_
 refine EL_pur (v := .bool (j1.2.1)) (P_assign rfl) .plain rfl ?_
 refine EL_pur (v := .int .i64 (j1.2.2)) (P_assign rfl) .plain rfl ?_
 refine EL_nil (thn_n (E_seq ?_))
 obtain ⟨s6, tB, h⟩ := bsome h
 refine L_loadO0 (x := .tmp 1) Try.isAgg62 Try.sizeOf62 b7 fun zA y6 uB => ?_
 refine L_loadO0 (x := .tmp 2) Try.isAgg62 Try.sizeOf62 b8 fun aB z6 vB => ?_
 obtain ⟨u0, xB, h⟩ := bsome h
 refine E_drawL (g := qD) (n := 11) [(0, (fun v g w => RV g.m w s6 v)), (3, (fun v g w => ∃ y0 y1 y2 : Value, v = .tuple #[y0, y1, y2] ∧ y0 = .int .i64 (u0.1) ∧ y1 = .int .i64 (u0.2.1) ∧ y2 = .int .i64 (u0.2.2)))] [0, 1, 2, 3, 4, 5, 6, 7, 8, 9, 10] rfl mixed (by kernel_rfl) (⟨fun _ => up_rv, fun _ => (up_ex fun _ => (up_ex fun _ => (up_ex fun _ => (up_and (up_eq _) (up_and (up_eq _) (up_and (up_eq _) (up_eq _))))))), trivial⟩) ?_
 refine L_do (φ := fun v g w => RV g.m w s6 v) rfl rfl .plain (fun g w hd => D_call (g := g) (vs := []) en49 .nil (wk49  tB) fun g' w' v hs hr => ⟨g', hs, hr⟩) (fun p8 hv => ?_)
 obtain ⟨_, _, _, rq28⟩ := hv
 refine L_ld (c := zA) rfl rfl .plain (fun _ _ h => ⟨h.ch, fun b hb _ => h.below.block b hb⟩) uB rfl ?_
 refine L_ld (c := aB) rfl rfl .plain (fun _ _ h => ⟨h.ch, fun b hb _ => h.below.block b hb⟩) vB rfl ?_
 refine L_do (φ := fun v g w => ∃ y0 y1 y2 : Value, v = .tuple #[y0, y1, y2] ∧ y0 = .int .i64 (u0.1) ∧ y1 = .int .i64 (u0.2.1) ∧ y2 = .int .i64 (u0.2.2)) rfl rfl .plain (fun g w hd => D_call (g := g) (vs := [p8, zA, aB]) en37 (.cons rfl (.cons rfl (.cons rfl .nil))) (wk37 (word (A := fun g w => RV g.m w s6 p8) 0 rfl rfl (deps_of hd)) (y6.ext hd.1) (z6.ext hd.1) xB) fun g' w' v hs hr => ⟨g', hs, hr⟩) (fun oF hv => ?_)
 obtain ⟨_, _, _, _, _, _, rfl, rfl, rfl, rfl⟩ := hv
 refine L_pur (c := .tuple #[.int .i64 (u0.1), .int .i64 (u0.2.1), .int .i64 (u0.2.2)]) rfl rfl .plain (fun _ _ hd => P_move rfl) ?_
 refine L_pur (c := .int .i64 (u0.1)) rfl rfl .plain (fun _ _ hd => P_extract rfl rfl) ?_
 refine L_pur (c := .int .i64 (u0.2.1)) rfl rfl .plain (fun _ _ hd => P_extract rfl rfl) ?_
 refine L_pur (c := .int .i64 (u0.2.2)) rfl rfl .plain (fun _ _ hd => P_extract rfl rfl) ?_
 refine L_pur (c := .int .i64 (u0.1)) rfl rfl .plain (fun _ _ hd => P_assign rfl) ?_
 refine L_pur (c := .int .i64 (u0.2.1)) rfl rfl .plain (fun _ _ hd => P_assign rfl) ?_
 refine L_pur (c := .int .i64 (u0.2.2)) rfl rfl .plain (fun _ _ hd => P_assign rfl) ?_
 refine L_nil fun rD pF hall => ?_
 have hs := hall.1
 have hfr := hfr.ext hs
 have r1 := r1.ext hs
 have r2 := r2.ext hs
 have r3 := r3.ext hs
 have b7 := b7.ext hs
 have b8 := b8.ext hs
 have b9 := b9.ext hs
 have e3 := e3.ext hs
 have s2 := s2.ext hs
 have m3 := m3.ext hs
 have o13 := o13.ext hs
 have j2 := j2.ext hs
 have u3 := u3.ext hs
 have q3 := q3.ext hs
 have d4 := d4.ext hs
 have o19 := o19.ext hs
 have i3 := i3.ext hs
 have i5 := i5.ext hs
 have u4 := u4.ext hs
 have q6 := q6.ext hs
 have o25 := o25.ext hs
 have q4 := q4.ext hs
 have y6 := y6.ext hs
 have z6 := z6.ext hs
 have bB := (word_all (A := fun g w => RV g.m w s6 p8) 0 rfl hall)
 clear hs hall
 refine EL_nil (thn_n (E_seq ?_))
 obtain ⟨t6, yB, h⟩ := bsome h
 refine L_loadO0 (x := .tmp 1) Try.isAgg62 Try.sizeOf62 b7 fun cB q8 zB => ?_
 refine L_loadO0 (x := .tmp 3) Try.isAgg62 Try.sizeOf62 b9 fun dB r8 aC => ?_
 obtain ⟨q2, bC, h⟩ := bsome h
 refine E_drawL (g := rD) (n := 11) [(0, (fun v g w => RV g.m w t6 v)), (3, (fun v g w => ∃ y0 y1 y2 : Value, v = .tuple #[y0, y1, y2] ∧ y0 = .int .i64 (q2.1) ∧ y1 = .int .i64 (q2.2.1) ∧ y2 = .int .i64 (q2.2.2)))] [0, 1, 2, 3, 4, 5, 6, 7, 8, 9, 10] rfl mixed (by kernel_rfl) (⟨fun _ => up_rv, fun _ => (up_ex fun _ => (up_ex fun _ => (up_ex fun _ => (up_and (up_eq _) (up_and (up_eq _) (up_and (up_eq _) (up_eq _))))))), trivial⟩) ?_
 refine L_do (φ := fun v g w => RV g.m w t6 v) rfl rfl .plain (fun g w hd => D_call (g := g) (vs := []) en49 .nil (wk49  yB) fun g' w' v hs hr => ⟨g', hs, hr⟩) (fun t8 hv => ?_)
 obtain ⟨_, _, _, rq82⟩ := hv
 refine L_ld (c := cB) rfl rfl .plain (fun _ _ h => ⟨h.ch, fun b hb _ => h.below.block b hb⟩) zB rfl ?_
 refine L_ld (c := dB) rfl rfl .plain (fun _ _ h => ⟨h.ch, fun b hb _ => h.below.block b hb⟩) aC rfl ?_
 refine L_do (φ := fun v g w => ∃ y0 y1 y2 : Value, v = .tuple #[y0, y1, y2] ∧ y0 = .int .i64 (q2.1) ∧ y1 = .int .i64 (q2.2.1) ∧ y2 = .int .i64 (q2.2.2)) rfl rfl .plain (fun g w hd => D_call (g := g) (vs := [t8, cB, dB]) en37 (.cons rfl (.cons rfl (.cons rfl .nil))) (wk37 (word (A := fun g w => RV g.m w t6 t8) 0 rfl rfl (deps_of hd)) (q8.ext hd.1) (r8.ext hd.1) bC) fun g' w' v hs hr => ⟨g', hs, hr⟩) (fun qF hv => ?_)
 obtain ⟨_, _, _, _, _, _, rfl, rfl, rfl, rfl⟩ := hv
 refine L_pur (c := .tuple #[.int .i64 (q2.1), .int .i64 (q2.2.1), .int .i64 (q2.2.2)]) rfl rfl .plain (fun _ _ hd => P_move rfl) ?_
 refine L_pur (c := .int .i64 (q2.1)) rfl rfl .plain (fun _ _ hd => P_extract rfl rfl) ?_
 refine L_pur (c := .int .i64 (q2.2.1)) rfl rfl .plain (fun _ _ hd => P_extract rfl rfl) ?_
 refine L_pur (c := .int .i64 (q2.2.2)) rfl rfl .plain (fun _ _ hd => P_extract rfl rfl) ?_
 refine L_pur (c := .int .i64 (q2.1)) rfl rfl .plain (fun _ _ hd => P_assign rfl) ?_
 refine L_pur (c := .int .i64 (q2.2.1)) rfl rfl .plain (fun _ _ hd => P_assign rfl) ?_
 refine L_pur (c := .int .i64 (q2.2.2)) rfl rfl .plain (fun _ _ hd => P_assign rfl) ?_
 refine L_nil fun sD rF hall => ?_
 have hs := hall.1
 have hfr := hfr.ext hs
 have r1 := r1.ext hs
 have r2 := r2.ext hs
 have r3 := r3.ext hs
 have b7 := b7.ext hs
 have b8 := b8.ext hs
 have b9 := b9.ext hs
 have e3 := e3.ext hs
 have s2 := s2.ext hs
 have m3 := m3.ext hs
 have o13 := o13.ext hs
 have j2 := j2.ext hs
 have u3 := u3.ext hs
 have q3 := q3.ext hs
 have d4 := d4.ext hs
 have o19 := o19.ext hs
 have i3 := i3.ext hs
 have i5 := i5.ext hs
 have u4 := u4.ext hs
 have q6 := q6.ext hs
 have o25 := o25.ext hs
 have q4 := q4.ext hs
 have bB := bB.ext hs
 have y6 := y6.ext hs
 have z6 := z6.ext hs
 have q8 := q8.ext hs
 have r8 := r8.ext hs
 have sE := (word_all (A := fun g w => RV g.m w t6 t8) 0 rfl hall)
 clear hs hall
 refine EL_nil (thn_n (E_joinC h (fun (s : Unit) e w => ∃ (g : Gh) , Fr gI wI g w ∧ e 1 = p4 ∧ OB 2001 g w 62 ((⟨(1 : Int), (1 : Int), (2 : Int), 0, false⟩ : FaultDamage) : FaultDamage) p4 ∧ e 2 = p5 ∧ OB 2002 g w 62 ((⟨(5 : Int), 0, 0, (4 : Int), false⟩ : FaultDamage) : FaultDamage) p5 ∧ e 3 = p6 ∧ OB 2003 g w 62 ((⟨(2 : Int), 0, (2 : Int), 0, false⟩ : FaultDamage) : FaultDamage) p6 ∧ e 4 = m2 ∧ RV g.m w (d3.1 : List Str) m2 ∧ e 6 = p3 ∧ RV g.m w (j3.1 : List FaultSight) p3 ∧ e 8 = i1 ∧ RV g.m w (j1.1 : List FaultDamage) i1 ∧ e 9 = .bool (j1.2.1) ∧ e 11 = .int .i64 (u0.1) ∧ e 12 = .int .i64 (u0.2.1)) (fun X163 o8 u9 h => ?_) ?_))
 ·obtain ⟨c4, hx, h⟩ := bsome h
  refine E_join (fun e w => ∃ (g : Gh) , Fr gI wI g w ∧ e 1 = p4 ∧ OB 2001 g w 62 ((⟨(1 : Int), (1 : Int), (2 : Int), 0, false⟩ : FaultDamage) : FaultDamage) p4 ∧ e 2 = p5 ∧ OB 2002 g w 62 ((⟨(5 : Int), 0, 0, (4 : Int), false⟩ : FaultDamage) : FaultDamage) p5 ∧ e 3 = p6 ∧ OB 2003 g w 62 ((⟨(2 : Int), 0, (2 : Int), 0, false⟩ : FaultDamage) : FaultDamage) p6 ∧ e 4 = m2 ∧ RV g.m w (d3.1 : List Str) m2 ∧ e 6 = p3 ∧ RV g.m w (j3.1 : List FaultSight) p3 ∧ e 8 = i1 ∧ RV g.m w (j1.1 : List FaultDamage) i1 ∧ e 9 = .bool (j1.2.1) ∧ e 11 = .int .i64 (u0.1) ∧ e 12 = .int .i64 (u0.2.1) ∧ e 98 = .bool (c4)) (fun Q' hQ => ?_) (fun gE tE hR => ?_)
  ·replace h := hx
   clear hx
   refine E_region (EL_pur (v := .int .i64 (d3.2)) (P_move rfl) .plain rfl ?_)
   refine EL_pur (v := .bool ((d3.2 != (0 : Int)))) (P_int rfl rfl rfl) .plain rfl ?_
   refine EL_pur (v := .bool ((d3.2 != (0 : Int)))) (P_move rfl) .plain rfl ?_
   rcases csome h with ⟨y5, h⟩ | ⟨y5, h⟩
   ·cases h
   ·refine EL_pur (v := .int .i64 (j3.2)) (P_move rfl) (.yes2 rfl rfl y5) rfl ?_
    refine EL_pur (v := .bool ((j3.2 != (0 : Int)))) (P_int rfl rfl rfl) (.yes2 rfl rfl y5) rfl ?_
    refine EL_pur (v := .bool ((j3.2 != (0 : Int)))) (P_pick (b := (d3.2 != (0 : Int))) rfl (pick_f y5 rfl)) .plain rfl ?_
    refine EL_pur (v := .bool ((j3.2 != (0 : Int)))) (P_move rfl) .plain rfl ?_
    rcases csome h with ⟨z5, h⟩ | ⟨z5, h⟩
    ·cases h
    ·refine EL_pur (v := .int .i64 (j1.2.2)) (P_move rfl) (.yes2 rfl rfl z5) rfl ?_
     refine EL_pur (v := .bool ((j1.2.2 != (0 : Int)))) (P_int rfl rfl rfl) (.yes2 rfl rfl z5) rfl ?_
     refine EL_pur (v := .bool ((j1.2.2 != (0 : Int)))) (P_pick (b := (j3.2 != (0 : Int))) rfl (pick_f z5 rfl)) .plain rfl ?_
     refine EL_pur (v := .bool ((j1.2.2 != (0 : Int)))) (P_move rfl) .plain rfl ?_
     rcases csome h with ⟨a6, h⟩ | ⟨a6, h⟩
     ·cases h
     ·refine EL_pur (v := .int .i64 (u0.2.2)) (P_move rfl) (.yes2 rfl rfl a6) rfl ?_
      refine EL_pur (v := .bool ((u0.2.2 != (0 : Int)))) (P_int rfl rfl rfl) (.yes2 rfl rfl a6) rfl ?_
      refine EL_pur (v := .bool ((u0.2.2 != (0 : Int)))) (P_pick (b := (j1.2.2 != (0 : Int))) rfl (pick_f a6 rfl)) .plain rfl ?_
      refine EL_pur (v := .bool ((u0.2.2 != (0 : Int)))) (P_move rfl) .plain rfl ?_
      rcases csome h with ⟨c6, h⟩ | ⟨c6, h⟩
      ·cases h
      ·refine EL_pur (v := .int .i64 (q2.2.2)) (P_move rfl) (.yes2 rfl rfl c6) rfl ?_
       refine EL_pur (v := .bool ((q2.2.2 != (7 : Int)))) (P_int rfl rfl rfl) (.yes2 rfl rfl c6) rfl ?_
       refine EL_pur (v := .bool ((q2.2.2 != (7 : Int)))) (P_pick (b := (u0.2.2 != (0 : Int))) rfl (pick_f c6 rfl)) .plain rfl ?_
       refine EL_pur (v := .bool ((q2.2.2 != (7 : Int)))) (P_move rfl) .plain rfl ?_
       rcases csome h with ⟨j5, h⟩ | ⟨j5, h⟩
       ·cases h
       ·refine EL_pur (v := m2) (P_move rfl) (.yes2 rfl rfl j5) rfl ?_
        refine EL_pur (v := .int .i64 ((d3.1).length : Int)) (P_len Try.underlying36 rfl j2) (.yes2 rfl rfl j5) rfl ?_
        refine EL_pur (v := .bool ((((d3.1).length : Int) != (3 : Int)))) (P_int rfl rfl rfl) (.yes2 rfl rfl j5) rfl ?_
        refine EL_pur (v := .bool ((((d3.1).length : Int) != (3 : Int)))) (P_pick (b := (q2.2.2 != (7 : Int))) rfl (pick_f j5 rfl)) .plain rfl ?_
        refine EL_pur (v := .bool ((((d3.1).length : Int) != (3 : Int)))) (P_move rfl) .plain rfl ?_
        rcases csome h with ⟨l5, h⟩ | ⟨l5, h⟩
        ·cases h
        ·refine EL_pur (v := p3) (P_move rfl) (.yes2 rfl rfl l5) rfl ?_
         refine EL_pur (v := .int .i64 ((j3.1).length : Int)) (P_len Try.underlying39 rfl i3) (.yes2 rfl rfl l5) rfl ?_
         refine EL_pur (v := .bool ((((j3.1).length : Int) != (2 : Int)))) (P_int rfl rfl rfl) (.yes2 rfl rfl l5) rfl ?_
         refine EL_pur (v := .bool ((((j3.1).length : Int) != (2 : Int)))) (P_pick (b := (((d3.1).length : Int) != (3 : Int))) rfl (pick_f l5 rfl)) .plain rfl ?_
         refine EL_pur (v := .bool ((((j3.1).length : Int) != (2 : Int)))) (P_move rfl) .plain rfl ?_
         rcases csome h with ⟨m5, h⟩ | ⟨m5, h⟩
         ·cases h
         ·refine EL_pur (v := i1) (P_move rfl) (.yes2 rfl rfl m5) rfl ?_
          refine EL_pur (v := .int .i64 ((j1.1).length : Int)) (P_len Try.underlying29 rfl q4) (.yes2 rfl rfl m5) rfl ?_
          refine EL_pur (v := .bool ((((j1.1).length : Int) != (5 : Int)))) (P_int rfl rfl rfl) (.yes2 rfl rfl m5) rfl ?_
          refine EL_pur (v := .bool ((((j1.1).length : Int) != (5 : Int)))) (P_pick (b := (((j3.1).length : Int) != (2 : Int))) rfl (pick_f m5 rfl)) .plain rfl ?_
          refine EL_nil ?_
          obtain rfl := Option.some.inj h
          exact hQ _ _ ⟨sD, hfr, rfl, b7, rfl, b8, rfl, b9, rfl, j2, rfl, i3, rfl, q4, rfl, rfl, rfl, rfl⟩
  ·clear hx
   obtain ⟨cC, hfr, v8, x8, y8, z8, a9, c9, d9, e9, i9, j9, k9, l9, m9, e8, i8, u6⟩ := hR
   rcases csome h with ⟨v6, h⟩ | ⟨v6, h⟩
   ·refine E_cond_true (Eq.trans (show ev _ _ = .bool (c4) from u6) (congrArg Value.bool v6)) ?_
    refine E_seq (E_region (EL_pur (v := .bool false) (P_assign rfl) .plain rfl ?_))
    refine EL_nil (thn_n (E_ret (thn_r ?_)))
    obtain rfl := Option.some.inj h
    exact end1 rfl rfl (show _ = .bool false from rfl) ⟨_, hfr, rfl⟩
   ·refine E_cond_false (Eq.trans (show ev _ _ = .bool (c4) from u6) (congrArg Value.bool v6)) ?_
    exact E_skip (thn_n (u9 () _ _ ⟨cC, hfr, v8, x8, y8, z8, a9, c9, d9, e9, i9, j9, k9, l9, m9, e8, i8⟩ h))
 ·rintro _ iE uE ⟨dC, hfr, n9, z1, o9, d2, p9, i2, n5, o0, q9, m1, e4, n0, r9, j8, k8⟩ h
  refine E_seq (E_region ?_)
  obtain ⟨l8, v9, h⟩ := bsome h
  refine EL_do .plain rfl (D_call (g := dC) (vs := []) en49 .nil (wk49  v9) fun eC jE iC hs hr => ?_)
  have hfr := hfr.ext hs
  have z1 := z1.ext hs
  have d2 := d2.ext hs
  have i2 := i2.ext hs
  have o0 := o0.ext hs
  have m1 := m1.ext hs
  have n0 := n0.ext hs
  have o3 := hr
  refine EL_pur (v := i1) (P_move e4) .plain rfl ?_
  obtain ⟨p2, x9, h⟩ := bsome h
  refine EL_do .plain rfl (D_call (g := eC) (vs := [iC, i1]) en38 (.cons rfl (.cons rfl .nil)) (wk38 o3 n0 x9) fun jC kE vE hs hr => ?_)
  have hfr := hfr.ext hs
  have z1 := z1.ext hs
  have d2 := d2.ext hs
  have i2 := i2.ext hs
  have o0 := o0.ext hs
  have m1 := m1.ext hs
  have n0 := n0.ext hs
  have o3 := o3.ext hs
  obtain ⟨tD, uD, rfl, rfl, rfl⟩ := hr
  refine EL_pur (v := .tuple #[.int .i64 (p2.1), .int .i64 (p2.2)]) (P_move rfl) .plain rfl ?_
  refine EL_pur (v := .int .i64 (p2.1)) (P_extract rfl rfl) .plain rfl ?_
  refine EL_pur (v := .int .i64 (p2.2)) (P_extract rfl rfl) .plain rfl ?_
  refine EL_pur (v := .int .i64 (p2.1)) (P_assign rfl) .plain rfl ?_
  refine EL_pur (v := .int .i64 (p2.2)) (P_assign rfl) .plain rfl ?_
  refine EL_nil (thn_n (E_seq (E_region ?_)))
  obtain ⟨m8, y9, h⟩ := bsome h
  refine EL_do .plain rfl (D_call (g := jC) (vs := []) en49 .nil (wk49  y9) fun kC lE lC hs hr => ?_)
  have hfr := hfr.ext hs
  have z1 := z1.ext hs
  have d2 := d2.ext hs
  have i2 := i2.ext hs
  have o0 := o0.ext hs
  have m1 := m1.ext hs
  have n0 := n0.ext hs
  have o3 := o3.ext hs
  have i4 := hr
  refine EL_pur (v := i1) (P_move e4) .plain rfl ?_
  obtain ⟨z2, z9, h⟩ := bsome h
  refine EL_do .plain rfl (D_call (g := kC) (vs := [lC, i1]) en39 (.cons rfl (.cons rfl .nil)) (wk39 i4 n0 z9) fun mC mE xE hs hr => ?_)
  have hfr := hfr.ext hs
  have z1 := z1.ext hs
  have d2 := d2.ext hs
  have i2 := i2.ext hs
  have o0 := o0.ext hs
  have m1 := m1.ext hs
  have n0 := n0.ext hs
  have o3 := o3.ext hs
  have i4 := i4.ext hs
  obtain ⟨o5, vD, rfl, z3, rfl⟩ := hr
  refine EL_pur (v := .tuple #[o5, .int .i64 (z2.2)]) (P_move rfl) .plain rfl ?_
  refine EL_pur (v := o5) (P_extract rfl rfl) .plain rfl ?_
  refine EL_pur (v := .int .i64 (z2.2)) (P_extract rfl rfl) .plain rfl ?_
  refine EL_pur (v := o5) (P_assign rfl) .plain rfl ?_
  refine EL_pur (v := .int .i64 (z2.2)) (P_assign rfl) .plain rfl ?_
  refine EL_nil (thn_n (E_seq (E_region ?_)))
  obtain ⟨n8, aA, h⟩ := bsome h
  refine EL_do .plain rfl (D_call (g := mC) (vs := []) en49 .nil (wk49  aA) fun nC nE oC hs hr => ?_)
  have hfr := hfr.ext hs
  have z1 := z1.ext hs
  have d2 := d2.ext hs
  have i2 := i2.ext hs
  have o0 := o0.ext hs
  have m1 := m1.ext hs
  have n0 := n0.ext hs
  have o3 := o3.ext hs
  have i4 := i4.ext hs
  have z3 := z3.ext hs
  have r6 := hr
  refine EL_pur (v := i1) (P_move e4) .plain rfl ?_
  obtain ⟨j0, bA, h⟩ := bsome h
  refine EL_do .plain rfl (D_call (g := nC) (vs := [oC, i1, .int .i64 (2)]) en41 (.cons rfl (.cons rfl (.cons rfl .nil))) (wk41 r6 n0 bA) fun s9 cA yE hs hr => ?_)
  have hfr := hfr.ext hs
  have z1 := z1.ext hs
  have d2 := d2.ext hs
  have i2 := i2.ext hs
  have o0 := o0.ext hs
  have m1 := m1.ext hs
  have n0 := n0.ext hs
  have o3 := o3.ext hs
  have i4 := i4.ext hs
  have z3 := z3.ext hs
  have r6 := r6.ext hs
  obtain ⟨xD, yD, zD, aE, rfl, rfl, rfl, rfl, rfl⟩ := hr
  refine EL_pur (v := .tuple #[.int .i64 (j0.1), .int .i64 (j0.2.1), .int .i64 (j0.2.2.1), .int .i64 (j0.2.2.2)]) (P_move rfl) .plain rfl ?_
  refine EL_pur (v := .int .i64 (j0.1)) (P_extract rfl rfl) .plain rfl ?_
  refine EL_pur (v := .int .i64 (j0.2.1)) (P_extract rfl rfl) .plain rfl ?_
  refine EL_pur (v := .int .i64 (j0.2.2.1)) (P_extract rfl rfl) .plain rfl ?_
  refine EL_pur (v := .int .i64 (j0.2.2.2)) (P_extract rfl rfl) .plain rfl ?_
  refine EL_pur (v := .int .i64 (j0.1)) (P_assign rfl) .plain rfl ?_
  refine EL_pur (v := .int .i64 (j0.2.1)) (P_assign rfl) .plain rfl ?_
  refine EL_pur (v := .int .i64 (j0.2.2.1)) (P_assign rfl) .plain rfl ?_
  refine EL_pur (v := .int .i64 (j0.2.2.2)) (P_assign rfl) .plain rfl ?_
  refine EL_nil (thn_n ?_)
  obtain ⟨e5, hx, h⟩ := bsome h
  refine E_join (fun e w => ∃ (g : Gh) , Fr gI wI g w ∧ e 0 = .bool (e5)) (fun Q' hQ => ?_) (fun oE zE hR => ?_)
  ·replace h := hx
   clear hx
   rcases csome h with ⟨d6, h⟩ | ⟨d6, h⟩
   ·rcases csome h with ⟨e6, h⟩ | ⟨e6, h⟩
    ·rcases csome h with ⟨r4, h⟩ | ⟨r4, h⟩
     ·obtain ⟨x4, u7, h⟩ := bsome h
      have a7 := PT_idx o0 u7
      refine L_load (x := .tmp 131) Try.isAgg9 Try.sizeOf9 a7 fun aF pC dA => ?_
      obtain rfl := RV_str.1 pC
      rcases csome h with ⟨s4, h⟩ | ⟨s4, h⟩
      ·obtain ⟨z4, v7, h⟩ := bsome h
       have c7 := PT_idx o0 v7
       refine L_load (x := .tmp 137) Try.isAgg9 Try.sizeOf9 c7 fun bF qC eA => ?_
       obtain rfl := RV_str.1 qC
       rcases csome h with ⟨s3, h⟩ | ⟨s3, h⟩
       ·obtain ⟨c5, x7, h⟩ := bsome h
        have d7 := PT_idx o0 x7
        refine L_load (x := .tmp 143) Try.isAgg9 Try.sizeOf9 d7 fun cF rC gA => ?_
        obtain rfl := RV_str.1 rC
        obtain ⟨d5, y7, h⟩ := bsome h
        have e7 := PT_idx o0 y7
        refine L_load (x := .tmp 146) Try.isAgg9 Try.sizeOf9 e7 fun dF sC iA => ?_
        obtain rfl := RV_str.1 sC
        rcases csome h with ⟨j4, h⟩ | ⟨j4, h⟩
        ·obtain ⟨r5, z7, h⟩ := bsome h
         have i7 := PT_idx m1 z7
         refine L_load (x := .tmp 152) Try.isAgg56 Try.sizeOf56 i7 fun tC j7 jA => ?_
         have x6 : RV s9.m cA (⟨0, (4 : Int), true⟩ : FaultSight) (.agg (setCh [[.int .i64 0], [.int .i64 0], [.bool false]] [(1, .int .i64 (4)), (2, .bool true)]).flatten.toArray) := RV_build rfl (rep_pair (rep_int) (rep_pair (rfl) (rep_last (rfl))))
         generalize kA : (Value.agg (setCh [[.int .i64 0], [.int .i64 0], [.bool false]] [(1, .int .i64 (4)), (2, .bool true)]).flatten.toArray) = uC at x6
         rcases csome h with ⟨i6, h⟩ | ⟨i6, h⟩
         ·rcases csome h with ⟨m4, h⟩ | ⟨m4, h⟩
          ·obtain ⟨t5, a8, h⟩ := bsome h
           have l7 := PT_idx n0 a8
           refine L_load (x := .tmp 163) Try.isAgg62 Try.sizeOf62 l7 fun vC m7 lA => ?_
           refine L_loadO0 (x := .tmp 1) Try.isAgg62 Try.sizeOf62 z1 fun xC n7 mA => ?_
           rcases csome h with ⟨n4, h⟩ | ⟨n4, h⟩
           ·obtain ⟨u5, c8, h⟩ := bsome h
            have o7 := PT_idx n0 c8
            refine L_load (x := .tmp 170) Try.isAgg62 Try.sizeOf62 o7 fun yC p7 nA => ?_
            refine L_loadO0 (x := .tmp 3) Try.isAgg62 Try.sizeOf62 i2 fun zC q7 oA => ?_
            rcases csome h with ⟨o4, h⟩ | ⟨o4, h⟩
            ·obtain ⟨x5, d8, h⟩ := bsome h
             have r7 := PT_idx n0 d8
             refine L_load (x := .tmp 177) Try.isAgg62 Try.sizeOf62 r7 fun aD s7 pA => ?_
             refine L_loadO0 (x := .tmp 2) Try.isAgg62 Try.sizeOf62 d2 fun bD t7 qA => ?_
             rcases csome h with ⟨j6, h⟩ | ⟨j6, h⟩
             ·rcases csome h with ⟨k6, h⟩ | ⟨k6, h⟩
              ·rcases csome h with ⟨l6, h⟩ | ⟨l6, h⟩
               ·rcases csome h with ⟨q5, h⟩ | ⟨q5, h⟩
                ·rcases csome h with ⟨m6, h⟩ | ⟨m6, h⟩
                 ·rcases csome h with ⟨n6, h⟩ | ⟨n6, h⟩
                  ·rcases csome h with ⟨o6, h⟩ | ⟨o6, h⟩
                   ·refine E_drawL (g := s9) (n := 93) [] [0, 1, 2, 3, 4, 5, 6, 7, 8, 9, 10, 11, 12, 13, 14, 15, 16, 17, 18, 19, 20, 21, 22, 23, 24, 25, 26, 27, 28, 29, 30, 31, 32, 33, 34, 35, 36, 37, 38, 39, 40, 41, 42, 43, 44, 45, 46, 47, 48, 49, 50, 51, 52, 53, 54, 55, 56, 57, 58, 59, 60, 61, 62, 63, 64, 65, 66, 67, 68, 69, 70, 71, 72, 73, 74, 75, 76, 77, 78, 79, 80, 81, 82, 83, 84, 85, 86, 87, 88, 89, 90, 91, 92] rfl mixed (by kernel_rfl) trivial ?_
                    refine L_pur (c := .int .i64 (p2.2)) rfl rfl .plain (fun _ _ hd => P_move rfl) ?_
                    refine L_pur (c := .bool ((p2.2 == (0 : Int)))) rfl rfl .plain (fun _ _ hd => P_int rfl rfl rfl) ?_
                    refine L_pur (c := .bool ((p2.2 == (0 : Int)))) rfl rfl .plain (fun _ _ hd => P_move rfl) ?_
                    refine L_pur (c := .int .i64 (z2.2)) rfl rfl (.yes2 rfl rfl d6) (fun _ _ hd => P_move rfl) ?_
                    refine L_pur (c := .bool ((z2.2 == (0 : Int)))) rfl rfl (.yes2 rfl rfl d6) (fun _ _ hd => P_int rfl rfl rfl) ?_
                    refine L_pur (c := .bool ((z2.2 == (0 : Int)))) rfl rfl .plain (fun _ _ hd => P_pick (b := (p2.2 == (0 : Int))) rfl (pick_t d6 rfl)) ?_
                    refine L_pur (c := .bool ((z2.2 == (0 : Int)))) rfl rfl .plain (fun _ _ hd => P_move rfl) ?_
                    refine L_pur (c := .int .i64 (j0.2.2.2)) rfl rfl (.yes2 rfl rfl e6) (fun _ _ hd => P_move rfl) ?_
                    refine L_pur (c := .bool ((j0.2.2.2 == (0 : Int)))) rfl rfl (.yes2 rfl rfl e6) (fun _ _ hd => P_int rfl rfl rfl) ?_
                    refine L_pur (c := .bool ((j0.2.2.2 == (0 : Int)))) rfl rfl .plain (fun _ _ hd => P_pick (b := (z2.2 == (0 : Int))) rfl (pick_t e6 rfl)) ?_
                    refine L_pur (c := .bool ((j0.2.2.2 == (0 : Int)))) rfl rfl .plain (fun _ _ hd => P_move rfl) ?_
                    refine L_pur (c := m2) rfl rfl (.yes2 rfl rfl r4) (fun _ _ hd => P_move n5) ?_
                    refine L_pur (c := ePtr m2 (0 : Int) 1) rfl rfl (.yes2 rfl rfl r4) (fun _ _ hd => P_indexAddr (α := Str) Try.underlying36 Try.sizeOf9 rfl o0 rfl u7) ?_
                    refine L_ld (c := Str.v (x4)) rfl rfl (.yes2 rfl rfl r4) (fun _ _ h => h.ch) dA rfl ?_
                    refine L_pur (c := .bool (((x4).b == ((⟨[46, 46, 46, 120, 46, 46]⟩ : Str)).b))) rfl rfl (.yes2 rfl rfl r4) (fun _ _ hd => P_str rfl rfl rfl) ?_
                    refine L_pur (c := .bool (((x4).b == ((⟨[46, 46, 46, 120, 46, 46]⟩ : Str)).b))) rfl rfl .plain (fun _ _ hd => P_pick (b := (j0.2.2.2 == (0 : Int))) rfl (pick_t r4 rfl)) ?_
                    refine L_pur (c := .bool (((x4).b == ((⟨[46, 46, 46, 120, 46, 46]⟩ : Str)).b))) rfl rfl .plain (fun _ _ hd => P_move rfl) ?_
                    refine L_pur (c := m2) rfl rfl (.yes2 rfl rfl s4) (fun _ _ hd => P_move n5) ?_
                    refine L_pur (c := ePtr m2 (1 : Int) 1) rfl rfl (.yes2 rfl rfl s4) (fun _ _ hd => P_indexAddr (α := Str) Try.underlying36 Try.sizeOf9 rfl o0 rfl v7) ?_
                    refine L_ld (c := Str.v (z4)) rfl rfl (.yes2 rfl rfl s4) (fun _ _ h => h.ch) eA rfl ?_
                    refine L_pur (c := .bool (((z4).b == ((⟨[46, 120, 120, 46, 120, 120]⟩ : Str)).b))) rfl rfl (.yes2 rfl rfl s4) (fun _ _ hd => P_str rfl rfl rfl) ?_
                    refine L_pur (c := .bool (((z4).b == ((⟨[46, 120, 120, 46, 120, 120]⟩ : Str)).b))) rfl rfl .plain (fun _ _ hd => P_pick (b := ((x4).b == ((⟨[46, 46, 46, 120, 46, 46]⟩ : Str)).b)) rfl (pick_t s4 rfl)) ?_
                    refine L_pur (c := .bool (((z4).b == ((⟨[46, 120, 120, 46, 120, 120]⟩ : Str)).b))) rfl rfl .plain (fun _ _ hd => P_move rfl) ?_
                    refine L_pur (c := m2) rfl rfl (.yes2 rfl rfl s3) (fun _ _ hd => P_move n5) ?_
                    refine L_pur (c := ePtr m2 (2 : Int) 1) rfl rfl (.yes2 rfl rfl s3) (fun _ _ hd => P_indexAddr (α := Str) Try.underlying36 Try.sizeOf9 rfl o0 rfl x7) ?_
                    refine L_ld (c := Str.v (c5)) rfl rfl (.yes2 rfl rfl s3) (fun _ _ h => h.ch) gA rfl ?_
                    refine L_pur (c := m2) rfl rfl (.yes2 rfl rfl s3) (fun _ _ hd => P_move n5) ?_
                    refine L_pur (c := ePtr m2 (0 : Int) 1) rfl rfl (.yes2 rfl rfl s3) (fun _ _ hd => P_indexAddr (α := Str) Try.underlying36 Try.sizeOf9 rfl o0 rfl y7) ?_
                    refine L_ld (c := Str.v (d5)) rfl rfl (.yes2 rfl rfl s3) (fun _ _ h => h.ch) iA rfl ?_
                    refine L_pur (c := .bool (((c5).b == (d5).b))) rfl rfl (.yes2 rfl rfl s3) (fun _ _ hd => P_str rfl rfl rfl) ?_
                    refine L_pur (c := .bool (((c5).b == (d5).b))) rfl rfl .plain (fun _ _ hd => P_pick (b := ((z4).b == ((⟨[46, 120, 120, 46, 120, 120]⟩ : Str)).b)) rfl (pick_t s3 rfl)) ?_
                    refine L_pur (c := .bool (((c5).b == (d5).b))) rfl rfl .plain (fun _ _ hd => P_move rfl) ?_
                    refine L_pur (c := p3) rfl rfl (.yes2 rfl rfl j4) (fun _ _ hd => P_move q9) ?_
                    refine L_pur (c := ePtr p3 (1 : Int) 3) rfl rfl (.yes2 rfl rfl j4) (fun _ _ hd => P_indexAddr (α := FaultSight) Try.underlying39 Try.sizeOf56 rfl m1 rfl z7) ?_
                    refine L_ld (c := tC) rfl rfl (.yes2 rfl rfl j4) (fun _ _ h => h.ch) jA rfl ?_
                    refine L_pur (c := uC) rfl rfl (.yes2 rfl rfl j4) (fun _ _ hd => kA ▸ P_build (vs := [(1, .int .i64 (4)), (2, .bool true)]) [[.int .i64 0], [.int .i64 0], [.bool false]] lay_56 rfl rfl (.cons rfl (.cons rfl .nil)) ⟨⟨_, rfl, rfl⟩, ⟨⟨_, rfl, rfl⟩, trivial⟩⟩) ?_
                    refine L_pur (c := .bool ((decide (r5 = (⟨0, (4 : Int), true⟩ : FaultSight))))) rfl rfl (.yes2 rfl rfl j4) (fun _ _ hd => P_seq seq_56 rfl eg_56 rfl rfl j7 x6) ?_
                    refine L_pur (c := .bool ((decide (r5 = (⟨0, (4 : Int), true⟩ : FaultSight))))) rfl rfl .plain (fun _ _ hd => P_pick (b := ((c5).b == (d5).b)) rfl (pick_t j4 rfl)) ?_
                    refine L_pur (c := .bool ((decide (r5 = (⟨0, (4 : Int), true⟩ : FaultSight))))) rfl rfl .plain (fun _ _ hd => P_move rfl) ?_
                    refine L_pur (c := .bool (j1.2.1)) rfl rfl (.yes2 rfl rfl i6) (fun _ _ hd => P_move r9) ?_
                    refine L_pur (c := .bool (!j1.2.1)) rfl rfl (.yes2 rfl rfl i6) (fun _ _ hd => P_not rfl) ?_
                    refine L_pur (c := .bool (!j1.2.1)) rfl rfl .plain (fun _ _ hd => P_pick (b := (decide (r5 = (⟨0, (4 : Int), true⟩ : FaultSight)))) rfl (pick_t i6 rfl)) ?_
                    refine L_pur (c := .bool (!j1.2.1)) rfl rfl .plain (fun _ _ hd => P_move rfl) ?_
                    refine L_pur (c := i1) rfl rfl (.yes2 rfl rfl m4) (fun _ _ hd => P_move e4) ?_
                    refine L_pur (c := ePtr i1 (0 : Int) 5) rfl rfl (.yes2 rfl rfl m4) (fun _ _ hd => P_indexAddr (α := FaultDamage) Try.underlying29 Try.sizeOf62 rfl n0 rfl a8) ?_
                    refine L_ld (c := vC) rfl rfl (.yes2 rfl rfl m4) (fun _ _ h => h.ch) lA rfl ?_
                    refine L_ld (c := xC) rfl rfl (.yes2 rfl rfl m4) (fun _ _ h => ⟨h.ch, fun b hb _ => h.below.block b hb⟩) mA n9 ?_
                    refine L_pur (c := .bool ((decide (t5 = (⟨(1 : Int), (1 : Int), (2 : Int), 0, false⟩ : FaultDamage))))) rfl rfl (.yes2 rfl rfl m4) (fun _ _ hd => P_seq seq_62 rfl eg_62 rfl rfl m7 n7) ?_
                    refine L_pur (c := .bool ((decide (t5 = (⟨(1 : Int), (1 : Int), (2 : Int), 0, false⟩ : FaultDamage))))) rfl rfl .plain (fun _ _ hd => P_pick (b := (!j1.2.1)) rfl (pick_t m4 rfl)) ?_
                    refine L_pur (c := .bool ((decide (t5 = (⟨(1 : Int), (1 : Int), (2 : Int), 0, false⟩ : FaultDamage))))) rfl rfl .plain (fun _ _ hd => P_move rfl) ?_
                    refine L_pur (c := i1) rfl rfl (.yes2 rfl rfl n4) (fun _ _ hd => P_move e4) ?_
                    refine L_pur (c := ePtr i1 (1 : Int) 5) rfl rfl (.yes2 rfl rfl n4) (fun _ _ hd => P_indexAddr (α := FaultDamage) Try.underlying29 Try.sizeOf62 rfl n0 rfl c8) ?_
                    refine L_ld (c := yC) rfl rfl (.yes2 rfl rfl n4) (fun _ _ h => h.ch) nA rfl ?_
                    refine L_ld (c := zC) rfl rfl (.yes2 rfl rfl n4) (fun _ _ h => ⟨h.ch, fun b hb _ => h.below.block b hb⟩) oA p9 ?_
                    refine L_pur (c := .bool ((decide (u5 = (⟨(2 : Int), 0, (2 : Int), 0, false⟩ : FaultDamage))))) rfl rfl (.yes2 rfl rfl n4) (fun _ _ hd => P_seq seq_62 rfl eg_62 rfl rfl p7 q7) ?_
                    refine L_pur (c := .bool ((decide (u5 = (⟨(2 : Int), 0, (2 : Int), 0, false⟩ : FaultDamage))))) rfl rfl .plain (fun _ _ hd => P_pick (b := (decide (t5 = (⟨(1 : Int), (1 : Int), (2 : Int), 0, false⟩ : FaultDamage)))) rfl (pick_t n4 rfl)) ?_
                    refine L_pur (c := .bool ((decide (u5 = (⟨(2 : Int), 0, (2 : Int), 0, false⟩ : FaultDamage))))) rfl rfl .plain (fun _ _ hd => P_move rfl) ?_
                    refine L_pur (c := i1) rfl rfl (.yes2 rfl rfl o4) (fun _ _ hd => P_move e4) ?_
                    refine L_pur (c := ePtr i1 (4 : Int) 5) rfl rfl (.yes2 rfl rfl o4) (fun _ _ hd => P_indexAddr (α := FaultDamage) Try.underlying29 Try.sizeOf62 rfl n0 rfl d8) ?_
                    refine L_ld (c := aD) rfl rfl (.yes2 rfl rfl o4) (fun _ _ h => h.ch) pA rfl ?_
                    refine L_ld (c := bD) rfl rfl (.yes2 rfl rfl o4) (fun _ _ h => ⟨h.ch, fun b hb _ => h.below.block b hb⟩) qA o9 ?_
                    refine L_pur (c := .bool ((decide (x5 = (⟨(5 : Int), 0, 0, (4 : Int), false⟩ : FaultDamage))))) rfl rfl (.yes2 rfl rfl o4) (fun _ _ hd => P_seq seq_62 rfl eg_62 rfl rfl s7 t7) ?_
                    refine L_pur (c := .bool ((decide (x5 = (⟨(5 : Int), 0, 0, (4 : Int), false⟩ : FaultDamage))))) rfl rfl .plain (fun _ _ hd => P_pick (b := (decide (u5 = (⟨(2 : Int), 0, (2 : Int), 0, false⟩ : FaultDamage)))) rfl (pick_t o4 rfl)) ?_
                    refine L_pur (c := .bool ((decide (x5 = (⟨(5 : Int), 0, 0, (4 : Int), false⟩ : FaultDamage))))) rfl rfl .plain (fun _ _ hd => P_move rfl) ?_
                    refine L_pur (c := .int .i64 (u0.1)) rfl rfl (.yes2 rfl rfl j6) (fun _ _ hd => P_move j8) ?_
                    refine L_pur (c := .bool ((u0.1 == (1 : Int)))) rfl rfl (.yes2 rfl rfl j6) (fun _ _ hd => P_int rfl rfl rfl) ?_
                    refine L_pur (c := .bool ((u0.1 == (1 : Int)))) rfl rfl .plain (fun _ _ hd => P_pick (b := (decide (x5 = (⟨(5 : Int), 0, 0, (4 : Int), false⟩ : FaultDamage)))) rfl (pick_t j6 rfl)) ?_
                    refine L_pur (c := .bool ((u0.1 == (1 : Int)))) rfl rfl .plain (fun _ _ hd => P_move rfl) ?_
                    refine L_pur (c := .int .i64 (u0.2.1)) rfl rfl (.yes2 rfl rfl k6) (fun _ _ hd => P_move k8) ?_
                    refine L_pur (c := .bool ((u0.2.1 == (2 : Int)))) rfl rfl (.yes2 rfl rfl k6) (fun _ _ hd => P_int rfl rfl rfl) ?_
                    refine L_pur (c := .bool ((u0.2.1 == (2 : Int)))) rfl rfl .plain (fun _ _ hd => P_pick (b := (u0.1 == (1 : Int))) rfl (pick_t k6 rfl)) ?_
                    refine L_pur (c := .bool ((u0.2.1 == (2 : Int)))) rfl rfl .plain (fun _ _ hd => P_move rfl) ?_
                    refine L_pur (c := .int .i64 (p2.1)) rfl rfl (.yes2 rfl rfl l6) (fun _ _ hd => P_move rfl) ?_
                    refine L_pur (c := .bool ((p2.1 == (2 : Int)))) rfl rfl (.yes2 rfl rfl l6) (fun _ _ hd => P_int rfl rfl rfl) ?_
                    refine L_pur (c := .bool ((p2.1 == (2 : Int)))) rfl rfl .plain (fun _ _ hd => P_pick (b := (u0.2.1 == (2 : Int))) rfl (pick_t l6 rfl)) ?_
                    refine L_pur (c := .bool ((p2.1 == (2 : Int)))) rfl rfl .plain (fun _ _ hd => P_move rfl) ?_
                    refine L_pur (c := o5) rfl rfl (.yes2 rfl rfl q5) (fun _ _ hd => P_move rfl) ?_
                    refine L_pur (c := .int .i64 ((z2.1).length : Int)) rfl rfl (.yes2 rfl rfl q5) (fun _ _ hd => P_len Try.underlying71 rfl z3) ?_
                    refine L_pur (c := .bool ((((z2.1).length : Int) == (3 : Int)))) rfl rfl (.yes2 rfl rfl q5) (fun _ _ hd => P_int rfl rfl rfl) ?_
                    refine L_pur (c := .bool ((((z2.1).length : Int) == (3 : Int)))) rfl rfl .plain (fun _ _ hd => P_pick (b := (p2.1 == (2 : Int))) rfl (pick_t q5 rfl)) ?_
                    refine L_pur (c := .bool ((((z2.1).length : Int) == (3 : Int)))) rfl rfl .plain (fun _ _ hd => P_move rfl) ?_
                    refine L_pur (c := .int .i64 (j0.1)) rfl rfl (.yes2 rfl rfl m6) (fun _ _ hd => P_move rfl) ?_
                    refine L_pur (c := .bool ((j0.1 == (0 : Int)))) rfl rfl (.yes2 rfl rfl m6) (fun _ _ hd => P_int rfl rfl rfl) ?_
                    refine L_pur (c := .bool ((j0.1 == (0 : Int)))) rfl rfl .plain (fun _ _ hd => P_pick (b := (((z2.1).length : Int) == (3 : Int))) rfl (pick_t m6 rfl)) ?_
                    refine L_pur (c := .bool ((j0.1 == (0 : Int)))) rfl rfl .plain (fun _ _ hd => P_move rfl) ?_
                    refine L_pur (c := .int .i64 (j0.2.1)) rfl rfl (.yes2 rfl rfl n6) (fun _ _ hd => P_move rfl) ?_
                    refine L_pur (c := .bool ((j0.2.1 == (0 : Int)))) rfl rfl (.yes2 rfl rfl n6) (fun _ _ hd => P_int rfl rfl rfl) ?_
                    refine L_pur (c := .bool ((j0.2.1 == (0 : Int)))) rfl rfl .plain (fun _ _ hd => P_pick (b := (j0.1 == (0 : Int))) rfl (pick_t n6 rfl)) ?_
                    refine L_pur (c := .bool ((j0.2.1 == (0 : Int)))) rfl rfl .plain (fun _ _ hd => P_move rfl) ?_
                    refine L_pur (c := .int .i64 (j0.2.2.1)) rfl rfl (.yes2 rfl rfl o6) (fun _ _ hd => P_move rfl) ?_
                    refine L_pur (c := .bool ((j0.2.2.1 == (3 : Int)))) rfl rfl (.yes2 rfl rfl o6) (fun _ _ hd => P_int rfl rfl rfl) ?_
                    refine L_pur (c := .bool ((j0.2.2.1 == (3 : Int)))) rfl rfl .plain (fun _ _ hd => P_pick (b := (j0.2.1 == (0 : Int))) rfl (pick_t o6 rfl)) ?_
                    refine L_pur (c := .bool ((j0.2.2.1 == (3 : Int)))) rfl rfl .plain (fun _ _ hd => P_assign rfl) ?_
                    refine L_nil fun cD eF hall => ?_
                    have hs := hall.1
                    have hfr := hfr.ext hs
                    have z1 := z1.ext hs
                    have d2 := d2.ext hs
                    have i2 := i2.ext hs
                    have o0 := o0.ext hs
                    have m1 := m1.ext hs
                    have n0 := n0.ext hs
                    have o3 := o3.ext hs
                    have i4 := i4.ext hs
                    have z3 := z3.ext hs
                    have r6 := r6.ext hs
                    have a7 := a7.ext hs
                    have c7 := c7.ext hs
                    have d7 := d7.ext hs
                    have e7 := e7.ext hs
                    have i7 := i7.ext hs
                    have j7 := j7.ext hs
                    have x6 := x6.ext hs
                    have l7 := l7.ext hs
                    have m7 := m7.ext hs
                    have n7 := n7.ext hs
                    have o7 := o7.ext hs
                    have p7 := p7.ext hs
                    have q7 := q7.ext hs
                    have r7 := r7.ext hs
                    have s7 := s7.ext hs
                    have t7 := t7.ext hs
                    clear hs hall
                    refine EL_nil ?_
                    obtain rfl := Option.some.inj h
                    exact hQ _ _ ⟨cD, hfr, rfl⟩
                   ·cases h
                  ·cases h
                 ·cases h
                ·cases h
               ·cases h
              ·cases h
             ·cases h
            ·cases h
           ·cases h
          ·cases h
         ·cases h
        ·cases h
       ·cases h
      ·cases h
     ·cases h
    ·cases h
   ·cases h
  ·clear hx
   obtain ⟨gF, hfr, t9⟩ := hR
   refine E_ret ?_
   obtain rfl := Option.some.inj h
   exact end1 rfl rfl (show _ = .bool (e5) from t9) ⟨_, hfr, rfl⟩
/-- griffe/griffelaw05.FaultTells -/
def f5 (x0 : FaultLoom) (x1 : Pair) : Option (Bool) :=
 jn (σ := Unit) (fun (_ : Unit) =>
  (f16 x0).bind fun p6 =>
  (f37 p6 ((x1).A) ((x1).B)).bind fun j0 =>
  jn (σ := Unit) (fun (_ : Unit) =>
   (f23 x0 (([(x1).A, (x1).B] : List FaultDamage))).bind fun i3 =>
   jn (σ := Int) (fun z1 =>
    Option.bind (α := Bool) (
     bif (j0.2.2 == z1) then
      bif (j0.1 == (0 : Int)) then
       bif (j0.2.1 == (0 : Int)) then
        (f15).bind fun s4 =>
        some (s4)
       else
        some (false)
      else
       some (false)
     else
      some (false)
     ) fun j3 =>
    some (j3)
    ) fun y5 =>
   bif (i3 == (0 : Int)) then
    (f36 x0 ((x1).A)).bind fun d4 =>
    (f36 x0 ((x1).B)).bind fun e4 =>
    (f29 d4 e4).bind fun m1 =>
    jn (σ := Unit) (fun (_ : Unit) =>
     y5 ((7 : Int))
     ) fun q6 =>
    bif (decide (((m1).length : Int) > (0 : Int))) then
     Option.bind (α := Bool) (
      bif (j0.2.2 == (0 : Int)) then
       (idx m1 (0 : Int)).bind fun s2 =>
       bif (j0.1 == (s2).Pick) then
        (idx m1 (0 : Int)).bind fun z2 =>
        bif (j0.2.1 == (z2).Warp) then
         (f15).bind fun u4 =>
         some (u4)
        else
         some (false)
       else
        some (false)
      else
       some (false)
      ) fun m3 =>
     some (m3)
    else
     q6 ()
   else
    y5 (i3)
   ) fun a8 =>
  (f21 p6 x0).bind fun o5 =>
  bif (!o5) then
   some (false)
  else
   a8 ()
  ) fun k9 =>
 (f14 x0).bind fun i6 =>
 bif i6 then
  (f15).bind fun j6 =>
  some (j6)
 else
  k9 ()
theorem en5 : Enters Try.prog 5 := enters_of Try.func5 (by kernel_rfl) rfl
theorem wk5 {gI : Gh} {wI : World} {x0 : FaultLoom} {x1 : Pair} {up0 : Value} (rp0 : RV gI.m wI x0 up0) {up1 : Value} (rp1 : RV gI.m wI x1 up1) {r : Bool} (h : f5 x0 x1 = some r) : Fn Try.prog 5 #[up0, up1] gI wI (fun _ _ v => v = .bool (r)) := by
 unfold f5 at h
 refine fn_of_E Try.func5 rfl (Nat.le_of_ble_eq_true rfl) fun g0 hm hfr => ?_
 have rp0 : RV g0.m wI x0 up0 := hm ▸ rp0
 have rp1 : RV g0.m wI x1 up1 := hm ▸ rp1
 show E _ 86 none _ _ _ _ _
 refine E_seq (E_region (EL_do .plain rfl (D_box (g := g0) rfl rp0 fun g1 w1 p1 hs q1 => ?_)))
 have hfr := hfr.ext hs
 have rp0 := rp0.ext hs
 have rp1 := rp1.ext hs
 refine EL_do .plain rfl (D_box (g := g1) rfl rp1 fun g2 w2 p2 hs q2 => ?_)
 have hfr := hfr.ext hs
 have rp0 := rp0.ext hs
 have rp1 := rp1.ext hs
 have q1 := q1.ext hs
 refine EL_pur (v := .bool false) (P_assign rfl) .plain rfl ?_
 refine EL_nil (thn_n (E_joinC h (fun (s : Unit) e w => ∃ (g : Gh) , Fr gI wI g w ∧ e 2 = p1 ∧ PT g.m w (x0 : FaultLoom) p1 ∧ e 3 = p2 ∧ PT g.m w (x1 : Pair) p2) (fun X9 k9 x8 h => ?_) ?_))
 ·refine E_seq (E_region (EL_do .plain rfl (D_load (g := g2) Try.isAgg28 Try.sizeOf28 rfl q1 fun y8 p5 => ?_)))
  obtain ⟨i6, i8, h⟩ := bsome h
  refine EL_do .plain rfl (D_call (g := g2) (vs := [y8]) en14 (.cons rfl .nil) (wk14 p5 i8) fun b8 cA yA hs hr => ?_)
  have hfr := hfr.ext hs
  have rp0 := rp0.ext hs
  have rp1 := rp1.ext hs
  have q1 := q1.ext hs
  have q2 := q2.ext hs
  have p5 := p5.ext hs
  subst hr
  refine EL_nil (thn_n ?_)
  rcases csome h with ⟨z5, h⟩ | ⟨z5, h⟩
  ·refine E_cond_true (Eq.trans (show ev _ _ = .bool (i6) from rfl) (congrArg Value.bool z5)) ?_
   refine E_seq (E_region ?_)
   obtain ⟨j6, j8, h⟩ := bsome h
   refine EL_do .plain rfl (D_call (g := b8) (vs := []) en15 .nil (wk15  j8) fun zA dA aB hs hr => ?_)
   have hfr := hfr.ext hs
   have rp0 := rp0.ext hs
   have rp1 := rp1.ext hs
   have q1 := q1.ext hs
   have q2 := q2.ext hs
   have p5 := p5.ext hs
   subst hr
   refine EL_pur (v := .bool (j6)) (P_assign rfl) .plain rfl ?_
   refine EL_nil (thn_n (E_ret (thn_r ?_)))
   obtain rfl := Option.some.inj h
   exact end1 rfl rfl (show _ = .bool (j6) from rfl) ⟨_, hfr, rfl⟩
  ·refine E_cond_false (Eq.trans (show ev _ _ = .bool (i6) from rfl) (congrArg Value.bool z5)) ?_
   exact E_skip (thn_n (x8 () _ _ ⟨b8, hfr, rfl, q1, rfl, q2⟩ h))
 ·rintro _ eA bB ⟨c8, hfr, x4, i1, z4, o0⟩ h
  refine E_seq (E_region (EL_do .plain rfl (D_load (g := c8) Try.isAgg28 Try.sizeOf28 x4 i1 fun z8 m2 => ?_)))
  obtain ⟨p6, k8, h⟩ := bsome h
  refine EL_do .plain rfl (D_call (g := c8) (vs := [z8]) en16 (.cons rfl .nil) (wk16 m2 k8) fun a9 gA b9 hs hr => ?_)
  have hfr := hfr.ext hs
  have i1 := i1.ext hs
  have o0 := o0.ext hs
  have m2 := m2.ext hs
  have o3 := hr
  refine EL_do .plain rfl (D_allocOc (g := a9) 2005 (⟨⟨0, []⟩, ⟨0, []⟩⟩ : FaultLoom) Try.zeroValue28 (fun m w => ⟨_, (rep_two (rep_two rep_int rep_nil) (rep_two rep_int rep_nil)), rfl⟩) fun r6 d8 e8 hs b20 cb => ?_)
  have hfr := hfr.stp hs
  have i1 := i1.stp hs
  have o0 := o0.stp hs
  have m2 := m2.stp hs
  have o3 := o3.stp hs
  have q9 : OSF 2005 60501 1 r6 d8 3 28 ([] : List Int) e8 := cb.osf (by rfl)
  have r9 : OSF 2005 60503 3 r6 d8 3 28 ([] : List Int) e8 := cb.osf (by rfl)
  clear cb
  refine EL_do .plain rfl (D_storeOc (g := r6) (v := b9) Try.sizeOf28 rfl b20 rfl o3 fun k6 cB hs b21 cb => ?_)
  clear cb
  have hfr := hfr.stp hs
  have i1 := i1.stp hs
  have o0 := o0.stp hs
  have m2 := m2.stp hs
  have o3 := o3.stp hs
  refine EL_nil (thn_n (E_seq (E_region (EL_do .plain rfl (D_loadO (g := k6) Try.isAgg28 Try.sizeOf28 rfl b21 fun c9 q5 => ?_)))))
  refine EL_pur (v := fPtr p2 0) (P_fieldAddr at_65_0 z4 (PT.ptr o0)) .plain rfl ?_
  have r5 := PT_field (part_Pair_0).1 o0
  refine EL_do .plain rfl (D_load (g := k6) Try.isAgg62 Try.sizeOf62 rfl r5 fun d9 t5 => ?_)
  refine EL_pur (v := fPtr p2 5) (P_fieldAddr at_65_1 z4 (PT.ptr o0)) .plain rfl ?_
  have u5 := PT_field (part_Pair_1).1 o0
  refine EL_do .plain rfl (D_load (g := k6) Try.isAgg62 Try.sizeOf62 rfl u5 fun e9 x5 => ?_)
  obtain ⟨j0, l8, h⟩ := bsome h
  refine EL_do .plain rfl (D_call (g := k6) (vs := [c9, d9, e9]) en37 (.cons rfl (.cons rfl (.cons rfl .nil))) (wk37 q5 t5 x5 l8) fun s6 iA dB hs hr => ?_)
  have hfr := hfr.ext hs
  have i1 := i1.ext hs
  have o0 := o0.ext hs
  have m2 := m2.ext hs
  have o3 := o3.ext hs
  have b21 := b21.ext hs
  have q5 := q5.ext hs
  have r5 := r5.ext hs
  have t5 := t5.ext hs
  have u5 := u5.ext hs
  have x5 := x5.ext hs
  obtain ⟨s9, t9, u9, rfl, rfl, rfl, rfl⟩ := hr
  refine EL_pur (v := .tuple #[.int .i64 (j0.1), .int .i64 (j0.2.1), .int .i64 (j0.2.2)]) (P_move rfl) .plain rfl ?_
  refine EL_pur (v := .int .i64 (j0.1)) (P_extract rfl rfl) .plain rfl ?_
  refine EL_pur (v := .int .i64 (j0.2.1)) (P_extract rfl rfl) .plain rfl ?_
  refine EL_pur (v := .int .i64 (j0.2.2)) (P_extract rfl rfl) .plain rfl ?_
  refine EL_pur (v := .int .i64 (j0.1)) (P_assign rfl) .plain rfl ?_
  refine EL_pur (v := .int .i64 (j0.2.1)) (P_assign rfl) .plain rfl ?_
  refine EL_pur (v := .int .i64 (j0.2.2)) (P_assign rfl) .plain rfl ?_
  refine EL_nil (thn_n (E_joinC h (fun (s : Unit) e w => ∃ (g : Gh) , Fr gI wI g w ∧ e 2 = p1 ∧ PT g.m w (x0 : FaultLoom) p1 ∧ e 3 = p2 ∧ PT g.m w (x1 : Pair) p2 ∧ e 6 = .int .i64 (j0.1) ∧ e 7 = .int .i64 (j0.2.1) ∧ e 8 = .int .i64 (j0.2.2)) (fun X34 a8 m8 h => ?_) ?_))
  ·refine E_seq (E_region (EL_do .plain rfl (D_loadO (g := s6) Try.isAgg28 Try.sizeOf28 rfl b21 fun g9 t6 => ?_)))
   refine EL_do .plain rfl (D_load (g := s6) Try.isAgg28 Try.sizeOf28 x4 i1 fun i9 u6 => ?_)
   obtain ⟨o5, n8, h⟩ := bsome h
   refine EL_do .plain rfl (D_call (g := s6) (vs := [g9, i9]) en21 (.cons rfl (.cons rfl .nil)) (wk21 t6 u6 n8) fun j9 jA eB hs hr => ?_)
   have hfr := hfr.ext hs
   have i1 := i1.ext hs
   have o0 := o0.ext hs
   have m2 := m2.ext hs
   have o3 := o3.ext hs
   have b21 := b21.ext hs
   have q5 := q5.ext hs
   have r5 := r5.ext hs
   have t5 := t5.ext hs
   have u5 := u5.ext hs
   have x5 := x5.ext hs
   have t6 := t6.ext hs
   have u6 := u6.ext hs
   subst hr
   refine EL_pur (v := .bool (!o5)) (P_not rfl) .plain rfl ?_
   refine EL_nil (thn_n ?_)
   rcases csome h with ⟨a6, h⟩ | ⟨a6, h⟩
   ·refine E_cond_true (Eq.trans (show ev _ _ = .bool ((!o5)) from rfl) (congrArg Value.bool a6)) ?_
    refine E_seq (E_region (EL_pur (v := .bool false) (P_assign rfl) .plain rfl ?_))
    refine EL_nil (thn_n (E_ret (thn_r ?_)))
    obtain rfl := Option.some.inj h
    exact end1 rfl rfl (show _ = .bool false from rfl) ⟨_, hfr, rfl⟩
   ·refine E_cond_false (Eq.trans (show ev _ _ = .bool ((!o5)) from rfl) (congrArg Value.bool a6)) ?_
    exact E_skip (thn_n (m8 () _ _ ⟨j9, hfr, x4, i1, z4, o0, rfl, rfl, rfl⟩ h))
  ·rintro _ kA iB ⟨l6, hfr, b5, j1, i4, n0, c5, d5, e5⟩ h
   refine E_seq (E_region (EL_do .plain rfl (D_load (g := l6) Try.isAgg28 Try.sizeOf28 b5 j1 fun l9 p3 => ?_)))
   refine EL_pur (v := fPtr p2 0) (P_fieldAddr at_65_0 i4 (PT.ptr n0)) .plain rfl ?_
   have q3 := PT_field (part_Pair_0).1 n0
   refine EL_do .plain rfl (D_load (g := l6) Try.isAgg62 Try.sizeOf62 rfl q3 fun m9 r3 => ?_)
   refine EL_pur (v := fPtr p2 5) (P_fieldAddr at_65_1 i4 (PT.ptr n0)) .plain rfl ?_
   have s3 := PT_field (part_Pair_1).1 n0
   refine EL_do .plain rfl (D_load (g := l6) Try.isAgg62 Try.sizeOf62 rfl s3 fun n9 u3 => ?_)
   refine EL_do .plain rfl (D_buildSlice (g := l6) 3035 (xs := ([(x1).A, (x1).B] : List FaultDamage)) (vs := [m9, n9]) Try.underlying29 Try.sizeOf62 Try.zeroValue62 rfl rfl (.cons rfl (.cons rfl .nil)) (RVs.cons r3 (RVs.cons u3 RVs.nil)) rfl rfl fun o9 jB p9 hs o46 j4 hxt hfl => ?_)
   have hfr := hfr.stp hs
   have j1 := j1.stp hs
   have n0 := n0.stp hs
   have p3 := p3.stp hs
   have q3 := q3.stp hs
   have r3 := r3.stp hs
   have s3 := s3.stp hs
   have u3 := u3.stp hs
   obtain ⟨i3, o8, h⟩ := bsome h
   refine EL_do .plain rfl (D_call (g := o9) (vs := [l9, p9]) en23 (.cons rfl (.cons rfl .nil)) (wk23 p3 j4 o8) fun g8 lA kB hs hr => ?_)
   have hfr := hfr.ext hs
   have j1 := j1.ext hs
   have n0 := n0.ext hs
   have p3 := p3.ext hs
   have q3 := q3.ext hs
   have r3 := r3.ext hs
   have s3 := s3.ext hs
   have u3 := u3.ext hs
   have j4 := j4.ext hs
   have o46 := o46.ext hs
   subst hr
   refine EL_pur (v := .int .i64 (i3)) (P_assign rfl) .plain rfl ?_
   refine EL_nil (thn_n (E_joinC h (fun (s : Int) e w => ∃ (g : Gh) , Fr gI wI g w ∧ e 6 = .int .i64 (j0.1) ∧ e 7 = .int .i64 (j0.2.1) ∧ e 8 = .int .i64 (j0.2.2) ∧ e 9 = .int .i64 (s)) (fun X146 y5 m6 h => ?_) ?_))
   ·refine E_seq (E_region (EL_pur (v := .int .i64 (i3)) (P_move rfl) .plain rfl ?_))
    refine EL_pur (v := .bool ((i3 == (0 : Int)))) (P_int rfl rfl rfl) .plain rfl ?_
    refine EL_nil (thn_n ?_)
    rcases csome h with ⟨i5, h⟩ | ⟨i5, h⟩
    ·refine E_cond_true (Eq.trans (show ev _ _ = .bool ((i3 == (0 : Int))) from rfl) (congrArg Value.bool i5)) ?_
     refine E_seq (L_load (x := .tmp 2) Try.isAgg28 Try.sizeOf28 j1 fun v6 m4 p7 => ?_)
     have n4 := PT_field (part_Pair_0).1 n0
     refine L_load (x := .tmp 40) Try.isAgg62 Try.sizeOf62 n4 fun x6 o4 q7 => ?_
     obtain ⟨d4, r7, h⟩ := bsome h
     refine L_load (x := .tmp 2) Try.isAgg28 Try.sizeOf28 j1 fun y6 p4 s7 => ?_
     have q4 := PT_field (part_Pair_1).1 n0
     refine L_load (x := .tmp 44) Try.isAgg62 Try.sizeOf62 q4 fun z6 r4 t7 => ?_
     obtain ⟨e4, u7, h⟩ := bsome h
     obtain ⟨m1, v7, h⟩ := bsome h
     refine E_drawL (g := g8) (n := 10) [(3, (fun v g w => RV g.m w d4 v)), (7, (fun v g w => RV g.m w e4 v)), (8, (fun v g w => RV g.m w m1 v))] [0, 1, 2, 3, 4, 5, 6, 7, 8, 9] rfl mixed (by kernel_rfl) (⟨fun _ => up_rv, fun _ => up_rv, fun _ => up_rv, trivial⟩) ?_
     refine L_ld (c := v6) rfl rfl .plain (fun _ _ h => h.ch) p7 b5 ?_
     refine L_pur (c := fPtr p2 0) rfl rfl .plain (fun _ _ hd => P_fieldAddr at_65_0 i4 (PT.ptr n0)) ?_
     refine L_ld (c := x6) rfl rfl .plain (fun _ _ h => h.ch) q7 rfl ?_
     refine L_do (φ := fun v g w => RV g.m w d4 v) rfl rfl .plain (fun g w hd => D_call (g := g) (vs := [v6, x6]) en36 (.cons rfl (.cons rfl .nil)) (wk36 (m4.ext hd.1) (o4.ext hd.1) r7) fun g' w' v hs hr => ⟨g', hs, hr⟩) (fun b6 hv => ?_)
     obtain ⟨_, _, _, rq151⟩ := hv
     refine L_ld (c := y6) rfl rfl .plain (fun _ _ h => h.ch) s7 b5 ?_
     refine L_pur (c := fPtr p2 5) rfl rfl .plain (fun _ _ hd => P_fieldAddr at_65_1 i4 (PT.ptr n0)) ?_
     refine L_ld (c := z6) rfl rfl .plain (fun _ _ h => h.ch) t7 rfl ?_
     refine L_do (φ := fun v g w => RV g.m w e4 v) rfl rfl .plain (fun g w hd => D_call (g := g) (vs := [y6, z6]) en36 (.cons rfl (.cons rfl .nil)) (wk36 (p4.ext hd.1) (r4.ext hd.1) u7) fun g' w' v hs hr => ⟨g', hs, hr⟩) (fun c6 hv => ?_)
     obtain ⟨_, _, _, rq156⟩ := hv
     refine L_do (φ := fun v g w => RV g.m w m1 v) rfl rfl .plain (fun g w hd => D_call (g := g) (vs := [b6, c6]) en29 (.cons rfl (.cons rfl .nil)) (wk29 (word (A := fun g w => RV g.m w d4 b6) 3 rfl rfl (deps_of hd)) (word (A := fun g w => RV g.m w e4 c6) 7 rfl rfl (deps_of hd)) v7) fun g' w' v hs hr => ⟨g', hs, hr⟩) (fun d2 hv => ?_)
     obtain ⟨_, _, _, rq158⟩ := hv
     refine L_pur (c := d2) rfl rfl .plain (fun _ _ hd => P_assign rfl) ?_
     refine L_nil fun d3 mA hall => ?_
     have hs := hall.1
     have hfr := hfr.ext hs
     have j1 := j1.ext hs
     have n0 := n0.ext hs
     have p3 := p3.ext hs
     have q3 := q3.ext hs
     have r3 := r3.ext hs
     have s3 := s3.ext hs
     have u3 := u3.ext hs
     have j4 := j4.ext hs
     have o46 := o46.ext hs
     have m4 := m4.ext hs
     have n4 := n4.ext hs
     have o4 := o4.ext hs
     have p4 := p4.ext hs
     have q4 := q4.ext hs
     have r4 := r4.ext hs
     have a7 := (word_all (A := fun g w => RV g.m w d4 b6) 3 rfl hall)
     have b7 := (word_all (A := fun g w => RV g.m w e4 c6) 7 rfl hall)
     have c7 := (word_all (A := fun g w => RV g.m w m1 d2) 8 rfl hall)
     have e3 := (word_all (A := fun g w => RV g.m w m1 d2) 8 rfl hall)
     clear hs hall
     refine EL_nil (thn_n (E_joinC h (fun (s : Unit) e w => ∃ (g : Gh) , Fr gI wI g w ∧ e 6 = .int .i64 (j0.1) ∧ e 7 = .int .i64 (j0.2.1) ∧ e 8 = .int .i64 (j0.2.2)) (fun X214 q6 x7 h => ?_) ?_))
     ·refine E_seq (E_region (EL_pur (v := d2) (P_move rfl) .plain rfl ?_))
      refine EL_pur (v := .int .i64 ((m1).length : Int)) (P_len Try.underlying39 rfl e3) .plain rfl ?_
      refine EL_pur (v := .bool ((decide (((m1).length : Int) > (0 : Int))))) (P_int rfl rfl rfl) .plain rfl ?_
      refine EL_nil (thn_n ?_)
      rcases csome h with ⟨j5, h⟩ | ⟨j5, h⟩
      ·refine E_cond_true (Eq.trans (show ev _ _ = .bool ((decide (((m1).length : Int) > (0 : Int)))) from rfl) (congrArg Value.bool j5)) ?_
       obtain ⟨m3, hx, h⟩ := bsome h
       refine E_join (fun e w => ∃ (g : Gh) , Fr gI wI g w ∧ e 4 = .bool (m3)) (fun Q' hQ => ?_) (fun v9 nA hR => ?_)
       ·replace h := hx
        clear hx
        refine E_region (EL_pur (v := .int .i64 (j0.2.2)) (P_move e5) .plain rfl ?_)
        refine EL_pur (v := .bool ((j0.2.2 == (0 : Int)))) (P_int rfl rfl rfl) .plain rfl ?_
        refine EL_pur (v := .bool ((j0.2.2 == (0 : Int)))) (P_move rfl) .plain rfl ?_
        rcases csome h with ⟨u0, h⟩ | ⟨u0, h⟩
        ·refine EL_pur (v := .int .i64 (j0.1)) (P_move c5) (.yes2 rfl rfl u0) rfl ?_
         refine EL_pur (v := d2) (P_move rfl) (.yes2 rfl rfl u0) rfl ?_
         obtain ⟨s2, n6, h⟩ := bsome h
         refine EL_pur (v := ePtr d2 (0 : Int) 3) (P_indexAddr (α := FaultSight) Try.underlying39 Try.sizeOf56 rfl e3 rfl n6) (.yes2 rfl rfl u0) rfl ?_
         have l5 := PT_idx e3 n6
         refine EL_pur (v := fPtr (ePtr d2 (0 : Int) 3) 0) (P_fieldAddr at_56_0 rfl (PT.ptr l5)) (.yes2 rfl rfl u0) rfl ?_
         have d6 := PT_field (part_FaultSight_0).1 l5
         refine EL_do (.yes2 rfl rfl u0) rfl (D_load (g := d3) Try.isAgg3 Try.sizeOf3 rfl d6 fun oA p8 => ?_)
         obtain rfl := RV_int.1 p8
         refine EL_pur (v := .bool ((j0.1 == (s2).Pick))) (P_int rfl rfl rfl) (.yes2 rfl rfl u0) rfl ?_
         refine EL_pur (v := .bool ((j0.1 == (s2).Pick))) (P_pick (b := (j0.2.2 == (0 : Int))) rfl (pick_t u0 rfl)) .plain rfl ?_
         refine EL_pur (v := .bool ((j0.1 == (s2).Pick))) (P_move rfl) .plain rfl ?_
         rcases csome h with ⟨y0, h⟩ | ⟨y0, h⟩
         ·refine EL_pur (v := .int .i64 (j0.2.1)) (P_move d5) (.yes2 rfl rfl y0) rfl ?_
          refine EL_pur (v := d2) (P_move rfl) (.yes2 rfl rfl y0) rfl ?_
          obtain ⟨z2, o6, h⟩ := bsome h
          refine EL_pur (v := ePtr d2 (0 : Int) 3) (P_indexAddr (α := FaultSight) Try.underlying39 Try.sizeOf56 rfl e3 rfl o6) (.yes2 rfl rfl y0) rfl ?_
          have m5 := PT_idx e3 o6
          refine EL_pur (v := fPtr (ePtr d2 (0 : Int) 3) 1) (P_fieldAddr at_56_1 rfl (PT.ptr m5)) (.yes2 rfl rfl y0) rfl ?_
          have e6 := PT_field (part_FaultSight_1).1 m5
          refine EL_do (.yes2 rfl rfl y0) rfl (D_load (g := d3) Try.isAgg3 Try.sizeOf3 rfl e6 fun pA q8 => ?_)
          obtain rfl := RV_int.1 q8
          refine EL_pur (v := .bool ((j0.2.1 == (z2).Warp))) (P_int rfl rfl rfl) (.yes2 rfl rfl y0) rfl ?_
          refine EL_pur (v := .bool ((j0.2.1 == (z2).Warp))) (P_pick (b := (j0.1 == (s2).Pick)) rfl (pick_t y0 rfl)) .plain rfl ?_
          refine EL_pur (v := .bool ((j0.2.1 == (z2).Warp))) (P_move rfl) .plain rfl ?_
          rcases csome h with ⟨z3, h⟩ | ⟨z3, h⟩
          ·obtain ⟨u4, y7, h⟩ := bsome h
           refine EL_do (.yes2 rfl rfl z3) rfl (D_call (g := d3) (vs := []) en15 .nil (wk15  y7) fun r8 x9 qA hs hr => ?_)
           have hfr := hfr.ext hs
           have j1 := j1.ext hs
           have n0 := n0.ext hs
           have p3 := p3.ext hs
           have q3 := q3.ext hs
           have r3 := r3.ext hs
           have s3 := s3.ext hs
           have u3 := u3.ext hs
           have j4 := j4.ext hs
           have o46 := o46.ext hs
           have m4 := m4.ext hs
           have n4 := n4.ext hs
           have o4 := o4.ext hs
           have a7 := a7.ext hs
           have p4 := p4.ext hs
           have q4 := q4.ext hs
           have r4 := r4.ext hs
           have b7 := b7.ext hs
           have c7 := c7.ext hs
           have e3 := e3.ext hs
           have l5 := l5.ext hs
           have d6 := d6.ext hs
           have m5 := m5.ext hs
           have e6 := e6.ext hs
           subst hr
           refine EL_pur (v := .bool (u4)) (P_pick (b := (j0.2.1 == (z2).Warp)) rfl (pick_t z3 rfl)) .plain rfl ?_
           refine EL_pur (v := .bool (u4)) (P_assign rfl) .plain rfl ?_
           refine EL_nil ?_
           obtain rfl := Option.some.inj h
           exact hQ _ _ ⟨r8, hfr, rfl⟩
          ·refine EL_skip (.no2 rfl rfl z3 rfl) rfl ?_
           refine EL_pur (v := .bool false) (P_pick (b := (j0.2.1 == (z2).Warp)) rfl (pick_f z3 rfl)) .plain rfl ?_
           refine EL_pur (v := .bool false) (P_assign rfl) .plain rfl ?_
           refine EL_nil ?_
           obtain rfl := Option.some.inj h
           exact hQ _ _ ⟨d3, hfr, rfl⟩
         ·refine EL_skip (.no2 rfl rfl y0 rfl) rfl ?_
          refine EL_skip (.no2 rfl rfl y0 rfl) rfl ?_
          refine EL_skip (.no2 rfl rfl y0 rfl) rfl ?_
          refine EL_skip (.no2 rfl rfl y0 rfl) rfl ?_
          refine EL_skip (.no2 rfl rfl y0 rfl) rfl ?_
          refine EL_skip (.no2 rfl rfl y0 rfl) rfl ?_
          refine EL_pur (v := .bool false) (P_pick (b := (j0.1 == (s2).Pick)) rfl (pick_f y0 rfl)) .plain rfl ?_
          refine EL_dead 3 rfl ?_
          refine EL_pur (v := .bool false) (P_assign rfl) .plain rfl ?_
          refine EL_nil ?_
          obtain rfl := Option.some.inj h
          exact hQ _ _ ⟨d3, hfr, rfl⟩
        ·refine EL_skip (.no2 rfl rfl u0 rfl) rfl ?_
         refine EL_skip (.no2 rfl rfl u0 rfl) rfl ?_
         refine EL_skip (.no2 rfl rfl u0 rfl) rfl ?_
         refine EL_skip (.no2 rfl rfl u0 rfl) rfl ?_
         refine EL_skip (.no2 rfl rfl u0 rfl) rfl ?_
         refine EL_skip (.no2 rfl rfl u0 rfl) rfl ?_
         refine EL_pur (v := .bool false) (P_pick (b := (j0.2.2 == (0 : Int))) rfl (pick_f u0 rfl)) .plain rfl ?_
         refine EL_dead 11 rfl ?_
         refine EL_pur (v := .bool false) (P_assign rfl) .plain rfl ?_
         refine EL_nil ?_
         obtain rfl := Option.some.inj h
         exact hQ _ _ ⟨d3, hfr, rfl⟩
       ·clear hx
        obtain ⟨rA, hfr, d7⟩ := hR
        refine E_ret (thn_r ?_)
        refine thn_r ?_
        obtain rfl := Option.some.inj h
        exact end1 rfl rfl (show _ = .bool (m3) from d7) ⟨_, hfr, rfl⟩
      ·refine E_cond_false (Eq.trans (show ev _ _ = .bool ((decide (((m1).length : Int) > (0 : Int)))) from rfl) (congrArg Value.bool j5)) ?_
       exact E_skip (thn_n (x7 () _ _ ⟨d3, hfr, c5, d5, e5⟩ h))
     ·rintro _ y9 sA ⟨t8, hfr, e7, g7, i7⟩ h
      refine E_region (EL_pur (v := .int .i64 (7)) (P_assign rfl) .plain rfl ?_)
      exact EL_nil (thn_n (m6 ((7 : Int)) _ _ ⟨t8, hfr, e7, g7, i7, rfl⟩ h))
    ·refine E_cond_false (Eq.trans (show ev _ _ = .bool ((i3 == (0 : Int))) from rfl) (congrArg Value.bool i5)) ?_
     exact E_skip (thn_n (m6 (i3) _ _ ⟨g8, hfr, c5, d5, e5, rfl⟩ h))
   ·rintro z1 z9 tA ⟨n5, hfr, j7, l7, m7, n7⟩ h
    obtain ⟨j3, hx, h⟩ := bsome h
    refine E_join (fun e w => ∃ (g : Gh) , Fr gI wI g w ∧ e 4 = .bool (j3)) (fun Q' hQ => ?_) (fun aA uA hR => ?_)
    ·replace h := hx
     clear hx
     refine E_region (EL_pur (v := .int .i64 (j0.2.2)) (P_move m7) .plain rfl ?_)
     refine EL_pur (v := .int .i64 (z1)) (P_move n7) .plain rfl ?_
     refine EL_pur (v := .bool ((j0.2.2 == z1))) (P_int rfl rfl rfl) .plain rfl ?_
     refine EL_pur (v := .bool ((j0.2.2 == z1))) (P_move rfl) .plain rfl ?_
     rcases csome h with ⟨i2, h⟩ | ⟨i2, h⟩
     ·refine EL_pur (v := .int .i64 (j0.1)) (P_move j7) (.yes2 rfl rfl i2) rfl ?_
      refine EL_pur (v := .bool ((j0.1 == (0 : Int)))) (P_int rfl rfl rfl) (.yes2 rfl rfl i2) rfl ?_
      refine EL_pur (v := .bool ((j0.1 == (0 : Int)))) (P_pick (b := (j0.2.2 == z1)) rfl (pick_t i2 rfl)) .plain rfl ?_
      refine EL_pur (v := .bool ((j0.1 == (0 : Int)))) (P_move rfl) .plain rfl ?_
      rcases csome h with ⟨j2, h⟩ | ⟨j2, h⟩
      ·refine EL_pur (v := .int .i64 (j0.2.1)) (P_move l7) (.yes2 rfl rfl j2) rfl ?_
       refine EL_pur (v := .bool ((j0.2.1 == (0 : Int)))) (P_int rfl rfl rfl) (.yes2 rfl rfl j2) rfl ?_
       refine EL_pur (v := .bool ((j0.2.1 == (0 : Int)))) (P_pick (b := (j0.1 == (0 : Int))) rfl (pick_t j2 rfl)) .plain rfl ?_
       refine EL_pur (v := .bool ((j0.2.1 == (0 : Int)))) (P_move rfl) .plain rfl ?_
       rcases csome h with ⟨c4, h⟩ | ⟨c4, h⟩
       ·obtain ⟨s4, z7, h⟩ := bsome h
        refine EL_do (.yes2 rfl rfl c4) rfl (D_call (g := n5) (vs := []) en15 .nil (wk15  z7) fun v8 bA vA hs hr => ?_)
        have hfr := hfr.ext hs
        subst hr
        refine EL_pur (v := .bool (s4)) (P_pick (b := (j0.2.1 == (0 : Int))) rfl (pick_t c4 rfl)) .plain rfl ?_
        refine EL_pur (v := .bool (s4)) (P_assign rfl) .plain rfl ?_
        refine EL_nil ?_
        obtain rfl := Option.some.inj h
        exact hQ _ _ ⟨v8, hfr, rfl⟩
       ·refine EL_skip (.no2 rfl rfl c4 rfl) rfl ?_
        refine EL_pur (v := .bool false) (P_pick (b := (j0.2.1 == (0 : Int))) rfl (pick_f c4 rfl)) .plain rfl ?_
        refine EL_pur (v := .bool false) (P_assign rfl) .plain rfl ?_
        refine EL_nil ?_
        obtain rfl := Option.some.inj h
        exact hQ _ _ ⟨n5, hfr, rfl⟩
      ·refine EL_skip (.no2 rfl rfl j2 rfl) rfl ?_
       refine EL_skip (.no2 rfl rfl j2 rfl) rfl ?_
       refine EL_pur (v := .bool false) (P_pick (b := (j0.1 == (0 : Int))) rfl (pick_f j2 rfl)) .plain rfl ?_
       refine EL_dead 3 rfl ?_
       refine EL_pur (v := .bool false) (P_assign rfl) .plain rfl ?_
       refine EL_nil ?_
       obtain rfl := Option.some.inj h
       exact hQ _ _ ⟨n5, hfr, rfl⟩
     ·refine EL_skip (.no2 rfl rfl i2 rfl) rfl ?_
      refine EL_skip (.no2 rfl rfl i2 rfl) rfl ?_
      refine EL_pur (v := .bool false) (P_pick (b := (j0.2.2 == z1)) rfl (pick_f i2 rfl)) .plain rfl ?_
      refine EL_dead 7 rfl ?_
      refine EL_pur (v := .bool false) (P_assign rfl) .plain rfl ?_
      refine EL_nil ?_
      obtain rfl := Option.some.inj h
      exact hQ _ _ ⟨n5, hfr, rfl⟩
    ·clear hx
     obtain ⟨xA, hfr, o7⟩ := hR
     refine E_ret ?_
     obtain rfl := Option.some.inj h
     exact end1 rfl rfl (show _ = .bool (j3) from o7) ⟨_, hfr, rfl⟩
end Go.Proofs.Ytpiaipiehjcflaa
