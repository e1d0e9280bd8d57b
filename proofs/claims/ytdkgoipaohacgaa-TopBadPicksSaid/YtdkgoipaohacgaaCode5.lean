import Derived.Test.YtdkgoipaohacgaaCode4
set_option maxRecDepth 8000
set_option maxHeartbeats 4000000
namespace Go.Proofs.Ytdkgoipaohacgaa
open Go.RowKit
def f4 (x0 : Loom) (x1 : Vector UInt8 4) (x2 : Vector UInt8 3) : Option (Bool) :=
 (f7 x0).bind fun y6 =>
 (idx (x1).toList (0 : Int)).bind fun uK =>
 (rem64 ((uK).toNat : Int) ((((y6).Design).Rows).length : Int)).bind fun mD =>
 (idx (x1).toList (1 : Int)).bind fun vK =>
 (rem64 ((vK).toNat : Int) ((y6).Design).Hooks).bind fun nD =>
 Option.bind (α := FaultDamage) (
  (idx (x1).toList (2 : Int)).bind fun y71 =>
  (u8rem y71 (2 : UInt8)).bind fun y74 =>
  bif (y74 == (1 : UInt8)) then
   (idx (x1).toList (3 : Int)).bind fun qO =>
   (rem64 ((qO).toNat : Int) ((((y6).Harness).Warps).length : Int)).bind fun oD =>
   some ((⟨(5 : Int), 0, 0, oD, false⟩ : FaultDamage))
  else
   some ((⟨(1 : Int), mD, nD, 0, false⟩ : FaultDamage))
  ) fun i5 =>
 (f14 y6).bind fun vE =>
 (f22 vE (([i5] : List FaultDamage)) (((((y6).Design).Rows).length : Int))).bind fun c7 =>
 (f14 y6).bind fun iC =>
 (f13 iC (([i5] : List FaultDamage)) (((((y6).Design).Rows).length : Int))).bind fun i3 =>
 (f14 y6).bind fun rO =>
 (f13 rO ([]) (((((y6).Design).Rows).length : Int))).bind fun z3 =>
 jn (σ := Unit) (fun _ =>
  Option.bind (α := (List Int)) (
   lp (σ := (List Int) × Int) (fun sO (z4, i6) =>
    jn (σ := Unit) (fun _ =>
     Option.bind (α := (List Int)) (
      (idx ((c7.1 : List FaultSight)) i6).bind fun n9 =>
      Option.bind (α := Bool) (
       bif (((z4).length : Int) == (0 : Int)) then
        some (true)
       else
        (idx z4 (w64 (((z4).length : Int) - (1 : Int)))).bind fun sG =>
        some ((decide (sG < (n9).Pick)))
       ) fun a9 =>
      bif a9 then
       (apnd 8 z4 (([(n9).Pick] : List Int))).bind fun tO =>
       some (tO)
      else
       some (z4)
      ) fun u9 =>
     sO (u9, (w64 (i6 + (1 : Int))))
     ) fun uO =>
    bif (decide (i6 < (((c7.1 : List FaultSight)).length : Int))) then
     uO ()
    else
     some (z4)
    ) big (([] : List Int), (0 : Int))
   ) fun d7 =>
  Option.bind (α := (List SeamCut)) (
   lp (σ := (List SeamCut) × Int) (fun vO (y9, q5) =>
    jn (σ := Unit) (fun _ =>
     Option.bind (α := (List SeamCut)) (
      (idx (x2).toList q5).bind fun tG =>
      (quo64 ((tG).toNat : Int) (16 : Int)).bind fun bI =>
      (rem64 bI ((((y6).Design).Rows).length : Int)).bind fun c8 =>
      (idx (x2).toList q5).bind fun uG =>
      (rem64 ((uG).toNat : Int) (8 : Int)).bind fun n7 =>
      (apnd 16 y9 (([(⟨c8, (w64 ((1 : Int) + n7))⟩ : SeamCut)] : List SeamCut))).bind fun xO =>
      some (xO)
      ) fun z9 =>
     vO (z9, (w64 (q5 + (1 : Int))))
     ) fun yO =>
    bif (decide (q5 < (3 : Int))) then
     yO ()
    else
     some (y9)
    ) big (([] : List SeamCut), (0 : Int))
   ) fun j3 =>
  (apnd 16 (([] : List SeamCut)) j3).bind fun zO =>
  (f23 (((((y6).Design).Rows).length : Int)) d7 zO).bind fun l5 =>
  jn (σ := Unit) (fun _ =>
   jn (σ := Unit) (fun _ =>
    Option.bind (α := Bool) (
     (f20).bind fun dC =>
     bif dC then
      (f24).bind fun gD =>
      some (gD)
     else
      some (false)
     ) fun iB =>
    some (iB)
    ) fun xK =>
   lp (σ := Int) (fun yK d3 =>
    jn (σ := Unit) (fun _ =>
     jn (σ := Unit) (fun _ =>
      yK ((w64 (d3 + (1 : Int))))
      ) fun zK =>
     jn (σ := Unit) (fun _ =>
      (idx (l5.1) d3).bind fun vG =>
      (rem64 vG ((((y6).Design).Rows).length : Int)).bind fun iD =>
      (idx j3 d3).bind fun jD =>
      bif (iD != (jD).Begin) then
       some (false)
      else
       zK ()
      ) fun aL =>
     lp (σ := Int) (fun bL o0 =>
      jn (σ := Unit) (fun _ =>
       jn (σ := Unit) (fun _ =>
        bL ((w64 (o0 + (1 : Int))))
        ) fun cL =>
       (idx (l5.1) d3).bind fun u3 =>
       Option.bind (α := Bool) (
        bif (decide ((w64 (u3 + o0)) < (0 : Int))) then
         some (true)
        else
         bif (decide ((w64 (u3 + o0)) < ((((y6).Design).Rows).length : Int))) then
          (idx ((i3.1 : List Str)) (w64 (u3 + o0))).bind fun jB =>
          (idx (z3.1) (w64 (u3 + o0))).bind fun kB =>
          some ((!((jB).b == (kB).b)))
         else
          some (false)
        ) fun n8 =>
       bif n8 then
        some (false)
       else
        cL ()
       ) fun dL =>
      (idx j3 d3).bind fun xG =>
      bif (decide (o0 < (xG).Picks)) then
       dL ()
      else
       aL ()
      ) big ((0 : Int))
     ) fun eL =>
    bif (decide (d3 < (3 : Int))) then
     eL ()
    else
     xK ()
    ) big ((0 : Int))
   ) fun aP =>
  Option.bind (α := Bool) (
   bif (l5.2.2 != (0 : Int)) then
    some (true)
   else
    some ((((l5.1).length : Int) != (3 : Int)))
   ) fun d9 =>
  bif d9 then
   some (false)
  else
   aP ()
  ) fun bP =>
 Option.bind (α := Bool) (
  bif (c7.2 != (0 : Int)) then
   some (true)
  else
   bif (i3.2 != (0 : Int)) then
    some (true)
   else
    bif (z3.2 != (0 : Int)) then
     some (true)
    else
     bif ((((i3.1 : List Str)).length : Int) != ((((y6).Design).Rows).length : Int)) then
      some (true)
     else
      some ((((z3.1).length : Int) != ((((y6).Design).Rows).length : Int)))
  ) fun e9 =>
 bif e9 then
  some (false)
 else
  bP ()
theorem wk4 {gI : Gh} {wI : World} {x0 : Loom} {x1 : Vector UInt8 4} {x2 : Vector UInt8 3} {up0 : Value} (rp0 : RV gI.m wI x0 up0) {up1 : Value} (rp1 : RV gI.m wI x1 up1) {up2 : Value} (rp2 : RV gI.m wI x2 up2) {r : Bool} (h : f4 x0 x1 x2 = some r) : Fn Try.prog 4 #[up0, up1, up2] gI wI (fun _ _ v => v = .bool (r)) := by
 unfold f4 at h
 refine fn_of_E Try.func4 rfl (Nat.le_of_ble_eq_true rfl) fun g0 hm hfr => ?_
 have rp0 : RV g0.m wI x0 up0 := hm ▸ rp0
 have rp1 : RV g0.m wI x1 up1 := hm ▸ rp1
 have rp2 : RV g0.m wI x2 up2 := hm ▸ rp2
 show E _ 227 none _ _ _ _ _
 refine E_seq (E_region (EL_do .plain rfl (D_box (g := g0) rfl rp0 fun g1 w1 p1 hs q1 => ?_)))
 have hfr := hfr.ext hs
 have rp1 := rp1.ext hs
 have rp2 := rp2.ext hs
 refine EL_do .plain rfl (D_box (g := g1) rfl rp1 fun g2 w2 p2 hs q2 => ?_)
 have hfr := hfr.ext hs
 have rp2 := rp2.ext hs
 have q1 := q1.ext hs
 refine EL_do .plain rfl (D_box (g := g2) rfl rp2 fun g3 w3 p3 hs q3 => ?_)
 have hfr := hfr.ext hs
 have q1 := q1.ext hs
 have q2 := q2.ext hs
 refine EL_at (.bool false) rfl rfl ?_
 refine EL_nil (thn_n (E_seq (E_region (EL_do .plain rfl (D_load (g := g3) Try.isAgg25 Try.sizeOf25 rfl q1 fun v4 r4 => ?_)))))
 obtain ⟨y6, qW, h⟩ := bsome h
 refine EL_do .plain rfl (D_call (g := g3) (vs := [v4]) en7 (.cons rfl .nil) (wk7 r4 qW) fun g5 w5_ v5 hs hr => ?_)
 have hfr := hfr.ext hs
 have q2 := q2.ext hs
 have q3 := q3.ext hs
 have r5 := hr
 refine EL_do .plain rfl (D_allocOc (g := g5) 2007 (⟨⟨0, []⟩, ⟨0, []⟩⟩ : FaultLoom) Try.zeroValue32 (fun m w => ⟨_, (rep_two (rep_two rep_int rep_nil) (rep_two rep_int rep_nil)), rfl⟩) fun g7 w7 p7 hs b7 cb => ?_)
 have hfr := hfr.stp hs
 have q2 := q2.stp hs
 have q3 := q3.stp hs
 have r5 := r5.stp hs
 have j00 : OSF 2007 60701 1 g7 w7 3 32 ([] : List Int) p7 := cb.osf (by rfl)
 have k00 : OSF 2007 60703 3 g7 w7 3 32 ([] : List Int) p7 := cb.osf (by rfl)
 clear cb
 refine EL_do .plain rfl (D_storeOc (g := g7) (v := v5) Try.sizeOf32 rfl b7 rfl r5 fun g8 w8 hs b8 cb => ?_)
 clear cb
 have hfr := hfr.stp hs
 have q2 := q2.stp hs
 have q3 := q3.stp hs
 refine EL_nil (thn_n (E_seq (E_region (EL_p (fPtr p7 2) (P_fieldAddr at_32_1 rfl (OB.ptr b8)) rfl ?_))))
 refine EL_p (fPtr p7 3) (P_fieldAddr2 (o1 := 2) rfl at_30_1 rfl (OB.ptr b8)) rfl ?_
 refine EL_do .plain rfl (D_loadF (g := g8) (SubS.comp part_FaultLoom_1 part_Design_1 rfl).1 Try.isAgg26 Try.sizeOf26 rfl b8 fun v11 sW => ?_)
 refine EL_p (.int .i64 ((((y6).Design).Rows).length : Int)) (P_len Try.underlying26 rfl sW) rfl ?_
 refine EL_at (.int .i64 ((((y6).Design).Rows).length : Int)) rfl rfl ?_
 refine EL_nil (thn_n (E_seq ?_))
 obtain ⟨uK, cP, h⟩ := bsome h
 have tW := PT_idxA q2 cP
 refine L_load (x := .tmp 33) Try.isAgg5 Try.sizeOf5 tW fun v14 uW eU => ?_
 obtain rfl := RV_u8.1 uW
 obtain ⟨mD, gU, h⟩ := bsome h
 obtain ⟨vK, dP, h⟩ := bsome h
 have vW := PT_idxA q2 dP
 refine L_load (x := .tmp 38) Try.isAgg5 Try.sizeOf5 vW fun v18 xW iU => ?_
 obtain rfl := RV_u8.1 xW
 refine L_loadO (x := .tmp 42) (SubS.comp part_FaultLoom_1 part_Design_0 rfl).1 Try.isAgg3 Try.sizeOf3 b8 fun v21 yW jU => ?_
 obtain rfl := RV_int.1 yW
 obtain ⟨nD, kU, h⟩ := bsome h
 have gL : RV g8.m w8 (⟨(1 : Int), mD, nD, 0, false⟩ : FaultDamage) (.agg (setCh [[.int .i64 0], [.int .i64 0], [.int .i64 0], [.int .i64 0], [.bool false]] [(0, .int .i64 (1)), (1, .int .i64 (mD)), (2, .int .i64 (nD))]).flatten.toArray) := RV_build rfl (rep_pair (rfl) (rep_pair (rfl) (rep_pair (rfl) (rep_pair (rep_int) (rep_last (rep_bool))))))
 generalize lU : (Value.agg (setCh [[.int .i64 0], [.int .i64 0], [.int .i64 0], [.int .i64 0], [.bool false]] [(0, .int .i64 (1)), (1, .int .i64 (mD)), (2, .int .i64 (nD))]).flatten.toArray) = zT at gL
 refine E_drawL (g := g8) (n := 14) [(13, (fun v g w => OB 2009 g w 37 (⟨0, 0, 0, 0, false⟩ : FaultDamage) v))] [0, 1, 2, 3, 4, 5, 6, 7, 8, 9, 10, 11, 12, 13] rfl mixed (by kernel_rfl) (⟨fun _ => up_ob, trivial⟩) ?_
 refine L_p (fPtr p2 (((0 : Int) : Int).toNat * 1)) rfl rfl (P_indexAddrA (α := UInt8) Try.underlying62 Try.sizeOf5 rfl (PT.ptr q2) rfl cP) ?_
 refine L_ld (c := .int .u8 (UInt8.toNat (uK))) rfl rfl .plain (fun _ _ h => h.ch) eU rfl ?_
 refine L_p (.int .i64 (((uK).toNat : Int))) rfl rfl (P_u8int Try.underlying5 Try.underlying3 rfl) ?_
 refine L_p (.int .i64 ((((y6).Design).Rows).length : Int)) rfl rfl (P_move rfl) ?_
 refine L_p (.int .i64 (mD)) rfl rfl (P_int rfl rfl (congrArg (Option.map (Value.int .i64)) gU)) ?_
 refine L_p (fPtr p2 (((1 : Int) : Int).toNat * 1)) rfl rfl (P_indexAddrA (α := UInt8) Try.underlying62 Try.sizeOf5 rfl (PT.ptr q2) rfl dP) ?_
 refine L_ld (c := .int .u8 (UInt8.toNat (vK))) rfl rfl .plain (fun _ _ h => h.ch) iU rfl ?_
 refine L_p (.int .i64 (((vK).toNat : Int))) rfl rfl (P_u8int Try.underlying5 Try.underlying3 rfl) ?_
 refine L_p (fPtr p7 2) rfl rfl (P_fieldAddr at_32_1 rfl (OB.ptr b8)) ?_
 refine L_p (fPtr p7 2) rfl rfl (P_fieldAddr2 (o1 := 2) rfl at_30_0 rfl (OB.ptr b8)) ?_
 refine L_ld (c := .int .i64 (((y6).Design).Hooks)) rfl rfl .plain (fun _ _ h => ⟨h.ch, fun b hb _ => h.below.block b hb⟩) jU rfl ?_
 refine L_p (.int .i64 (nD)) rfl rfl (P_int rfl rfl (congrArg (Option.map (Value.int .i64)) kU)) ?_
 refine L_p zT rfl rfl (lU ▸ P_build (vs := [(0, .int .i64 (1)), (1, .int .i64 (mD)), (2, .int .i64 (nD))]) [[.int .i64 0], [.int .i64 0], [.int .i64 0], [.int .i64 0], [.bool false]] lay_37 rfl rfl (.cons rfl (.cons rfl (.cons rfl .nil))) ⟨⟨_, rfl, rfl⟩, ⟨⟨_, rfl, rfl⟩, ⟨⟨_, rfl, rfl⟩, trivial⟩⟩⟩) ?_
 refine L_do (φ := fun v g w => OB 2009 g w 37 (⟨0, 0, 0, 0, false⟩ : FaultDamage) v) rfl rfl .plain (fun g w hd => D_allocX (g := g) 2009 (⟨0, 0, 0, 0, false⟩ : FaultDamage) Try.zeroValue37 (fun m w => ⟨_, (rep_two rep_int (rep_two rep_int (rep_two rep_int (rep_two rep_int rep_bool)))), rfl⟩) fun g' w' v hs b => ⟨g', hs, b⟩) (fun eP hv => ?_)
 clear hv
 refine L_nil fun zW w25 hall => ?_
 have hs := hall.1
 have hfr := hfr.ext hs
 have q2 := q2.ext hs
 have q3 := q3.ext hs
 have b8 := b8.ext hs
 have gL := gL.ext hs
 have b54 := (word_all (A := fun g w => OB 2009 g w 37 (⟨0, 0, 0, 0, false⟩ : FaultDamage) eP) 13 rfl hall)
 clear hs hall
 refine EL_do .plain rfl (D_storeOc (g := zW) (v := zT) Try.sizeOf37 rfl b54 rfl gL fun xE aX hs b55 cb => ?_)
 clear cb
 have hfr := hfr.stp hs
 have q2 := q2.stp hs
 have q3 := q3.stp hs
 have b8 := b8.stp hs rfl
 refine EL_nil (thn_n ?_)
 obtain ⟨i5, hx, h⟩ := bsome h
 refine E_join (fun e w => ∃ (g : Gh) , Fr gI wI g w ∧ e 5 = p3 ∧ PT g.m w (x2 : Vector UInt8 3) p3 ∧ e 7 = p7 ∧ OB 2007 g w 32 (y6 : FaultLoom) p7 ∧ e 8 = .int .i64 (((((y6).Design).Rows).length : Int)) ∧ e 9 = eP ∧ OB 2009 g w 37 (i5 : FaultDamage) eP) (fun Q' hQ => ?_) (fun l00 w85 hR => ?_)
 ·replace h := hx
  clear hx
  refine E_seq (E_region ?_)
  obtain ⟨y71, gP, h⟩ := bsome h
  refine EL_p (fPtr p2 (((2 : Int) : Int).toNat * 1)) (P_indexAddrA (α := UInt8) Try.underlying62 Try.sizeOf5 rfl (PT.ptr q2) rfl gP) rfl ?_
  have bX := PT_idxA q2 gP
  refine EL_do .plain rfl (D_load (g := xE) Try.isAgg5 Try.sizeOf5 rfl bX fun v73 cX => ?_)
  obtain rfl := RV_u8.1 cX
  obtain ⟨y74, mU, h⟩ := bsome h
  refine EL_p (.int .u8 (UInt8.toNat (y74))) (P_u8 rfl rfl (u8rem_cop mU)) rfl ?_
  refine EL_p (.bool ((y74 == (1 : UInt8)))) (P_u8 rfl rfl rfl) rfl ?_
  refine EL_nil (thn_n ?_)
  rcases csome h with ⟨cI, h⟩ | ⟨cI, h⟩
  ·refine E_ct cI rfl ?_
   refine E_region ?_
   obtain ⟨qO, iP, h⟩ := bsome h
   refine EL_p (fPtr p2 (((3 : Int) : Int).toNat * 1)) (P_indexAddrA (α := UInt8) Try.underlying62 Try.sizeOf5 rfl (PT.ptr q2) rfl iP) rfl ?_
   have dX := PT_idxA q2 iP
   refine EL_do .plain rfl (D_load (g := xE) Try.isAgg5 Try.sizeOf5 rfl dX fun v78 eX => ?_)
   obtain rfl := RV_u8.1 eX
   refine EL_p (.int .i64 (((qO).toNat : Int))) (P_u8int Try.underlying5 Try.underlying3 rfl) rfl ?_
   refine EL_p (fPtr p7 0) (P_fieldAddr at_32_0 rfl (OB.ptr b8)) rfl ?_
   refine EL_p (fPtr p7 1) (P_fieldAddr2 (o1 := 0) rfl at_28_1 rfl (OB.ptr b8)) rfl ?_
   refine EL_do .plain rfl (D_loadF (g := xE) (SubS.comp part_FaultLoom_0 part_TieHarness_1 rfl).1 Try.isAgg26 Try.sizeOf26 rfl b8 fun v81 gX => ?_)
   refine EL_p (.int .i64 ((((y6).Harness).Warps).length : Int)) (P_len Try.underlying26 rfl gX) rfl ?_
   obtain ⟨oD, nU, h⟩ := bsome h
   refine EL_p (.int .i64 (oD)) (P_int rfl rfl (congrArg (Option.map (Value.int .i64)) nU)) rfl ?_
   have aU : RV xE.m aX (⟨(5 : Int), 0, 0, oD, false⟩ : FaultDamage) (.agg (setCh [[.int .i64 0], [.int .i64 0], [.int .i64 0], [.int .i64 0], [.bool false]] [(0, .int .i64 (5)), (3, .int .i64 (oD))]).flatten.toArray) := RV_build rfl (rep_pair (rfl) (rep_pair (rep_int) (rep_pair (rep_int) (rep_pair (rfl) (rep_last (rep_bool))))))
   generalize oU : (Value.agg (setCh [[.int .i64 0], [.int .i64 0], [.int .i64 0], [.int .i64 0], [.bool false]] [(0, .int .i64 (5)), (3, .int .i64 (oD))]).flatten.toArray) = bU at aU
   refine EL_p bU (oU ▸ P_build (vs := [(0, .int .i64 (5)), (3, .int .i64 (oD))]) [[.int .i64 0], [.int .i64 0], [.int .i64 0], [.int .i64 0], [.bool false]] lay_37 rfl rfl (.cons rfl (.cons rfl .nil)) ⟨⟨_, rfl, rfl⟩, ⟨⟨_, rfl, rfl⟩, trivial⟩⟩) rfl ?_
   refine EL_do .plain rfl (D_storeOc (g := xE) (v := bU) Try.sizeOf37 rfl b55 rfl aU fun iX w84 hs b84 cb => ?_)
   clear cb
   have hfr := hfr.stp hs
   have q3 := q3.stp hs
   have b8 := b8.stp hs rfl
   refine EL_nil ?_
   obtain rfl := sinj h
   exact hQ _ _ ⟨iX, hfr, rfl, q3, rfl, b8, rfl, rfl, b84⟩
  ·refine E_cf cI rfl ?_
   refine E_skip ?_
   obtain rfl := sinj h
   exact hQ _ _ ⟨xE, hfr, rfl, q3, rfl, b8, rfl, rfl, b55⟩
 ·clear hx
  obtain ⟨jX, hfr, eC, o7, yG, qA, m8, iL, kD⟩ := hR
  refine E_seq (L_loadO0 (x := .tmp 7) Try.isAgg32 Try.sizeOf32 qA fun cU kX pU => ?_)
  obtain ⟨vE, qU, h⟩ := bsome h
  refine L_loadO0 (x := .tmp 9) Try.isAgg37 Try.sizeOf37 kD fun dU lX rU => ?_
  obtain ⟨c7, sU, h⟩ := bsome h
  refine E_drawL (g := jX) (n := 11) [(1, (fun v g w => RV g.m w vE v)), (3, (fun v g w => RV g.m w ([i5] : List FaultDamage) v ∧ OS 3063 g w 37 ([i5] : List FaultDamage) v ∧ FullV v)), (5, (fun v g w => ∃ y0 y1 : Value, v = .tuple #[y0, y1] ∧ RV g.m w (c7.1 : List FaultSight) y0 ∧ y1 = .int .i64 (c7.2)))] [0, 1, 2, 3, 4, 5, 6, 7, 8, 9, 10] rfl mixed (by kernel_rfl) (⟨fun _ => up_rv, fun _ => up_and up_rv (up_and up_os (up_eq _)), fun _ => (up_ex fun _ => (up_ex fun _ => (up_and (up_eq _) (up_and up_rv (up_eq _))))), trivial⟩) ?_
  refine L_ld (c := cU) rfl rfl .plain (fun _ _ h => ⟨h.ch, fun b hb _ => h.below.block b hb⟩) pU yG ?_
  refine L_do (φ := fun v g w => RV g.m w vE v) rfl rfl .plain (fun g w hd => D_call (g := g) (vs := [cU]) en14 (.cons rfl .nil) (wk14 (kX.ext hd.1) qU) fun g' w' v hs hr => ⟨g', hs, hr⟩) (fun jP hv => ?_)
  obtain ⟨_, _, _, rq87⟩ := hv
  refine L_ld (c := dU) rfl rfl .plain (fun _ _ h => ⟨h.ch, fun b hb _ => h.below.block b hb⟩) rU iL ?_
  refine L_do (φ := fun v g w => RV g.m w ([i5] : List FaultDamage) v ∧ OS 3063 g w 37 ([i5] : List FaultDamage) v ∧ FullV v) rfl rfl .plain (fun g w hd => D_buildSlice (g := g) 3063 (xs := ([i5] : List FaultDamage)) (vs := [dU]) Try.underlying47 Try.sizeOf37 Try.zeroValue37 rfl rfl (.cons rfl .nil) (RVs.cons (lX.ext hd.1) RVs.nil) rfl rfl fun g' w' v hs o r hxt hfl => ⟨g', hxt, r, o, hfl⟩) (fun oB hv => ?_)
  clear hv
  refine L_p (.int .i64 (((((y6).Design).Rows).length : Int))) rfl rfl (P_move m8) ?_
  refine L_do (φ := fun v g w => ∃ y0 y1 : Value, v = .tuple #[y0, y1] ∧ RV g.m w (c7.1 : List FaultSight) y0 ∧ y1 = .int .i64 (c7.2)) rfl rfl .plain (fun g w hd => D_call (g := g) (vs := [jP, oB, .int .i64 (((((y6).Design).Rows).length : Int))]) en22 (.cons rfl (.cons rfl (.cons rfl .nil))) (wk22 (word (A := fun g w => RV g.m w vE jP) 1 rfl rfl (deps_of hd)) (word (A := fun g w => RV g.m w ([i5] : List FaultDamage) oB ∧ OS 3063 g w 37 ([i5] : List FaultDamage) oB ∧ FullV oB) 3 rfl rfl (deps_of hd)).1 sU) fun g' w' v hs hr => ⟨g', hs, hr⟩) (fun v91 hv => ?_)
  obtain ⟨_, _, _, x5, _, rfl, mX, rfl⟩ := hv
  refine L_p (.tuple #[x5, .int .i64 (c7.2)]) rfl rfl (P_move rfl) ?_
  refine L_p x5 rfl rfl (P_extract rfl rfl) ?_
  refine L_p (.int .i64 (c7.2)) rfl rfl (P_extract rfl rfl) ?_
  refine L_p x5 rfl rfl (P_assign rfl) ?_
  refine L_p (.int .i64 (c7.2)) rfl rfl (P_assign rfl) ?_
  refine L_nil fun nX w93 hall => ?_
  have hs := hall.1
  have hfr := hfr.ext hs
  have o7 := o7.ext hs
  have qA := qA.ext hs
  have kD := kD.ext hs
  have r99 := (word_all (A := fun g w => RV g.m w vE jP) 1 rfl hall)
  have m00 := (word_all (A := fun g w => RV g.m w ([i5] : List FaultDamage) oB ∧ OS 3063 g w 37 ([i5] : List FaultDamage) oB ∧ FullV oB) 3 rfl hall).1
  have o101 := (word_all (A := fun g w => RV g.m w ([i5] : List FaultDamage) oB ∧ OS 3063 g w 37 ([i5] : List FaultDamage) oB ∧ FullV oB) 3 rfl hall).2.1
  have n00 := (tup2_0 (word_all (A := fun g w => ∃ y0 y1 : Value, Value.tuple #[x5, .int .i64 (c7.2)] = .tuple #[y0, y1] ∧ RV g.m w (c7.1 : List FaultSight) y0 ∧ y1 = .int .i64 (c7.2)) 5 rfl hall))
  have i9 := (tup2_0 (word_all (A := fun g w => ∃ y0 y1 : Value, Value.tuple #[x5, .int .i64 (c7.2)] = .tuple #[y0, y1] ∧ RV g.m w (c7.1 : List FaultSight) y0 ∧ y1 = .int .i64 (c7.2)) 5 rfl hall))
  clear hs hall
  refine EL_nil (thn_n (E_seq (L_loadO0 (x := .tmp 7) Try.isAgg32 Try.sizeOf32 qA fun kP tU oR => ?_)))
  obtain ⟨iC, pR, h⟩ := bsome h
  refine L_loadO0 (x := .tmp 9) Try.isAgg37 Try.sizeOf37 kD fun lP uU qR => ?_
  obtain ⟨i3, rR, h⟩ := bsome h
  refine E_drawL (g := nX) (n := 11) [(1, (fun v g w => RV g.m w iC v)), (3, (fun v g w => RV g.m w ([i5] : List FaultDamage) v ∧ OS 3072 g w 37 ([i5] : List FaultDamage) v ∧ FullV v)), (5, (fun v g w => ∃ y0 y1 : Value, v = .tuple #[y0, y1] ∧ RV g.m w (i3.1 : List Str) y0 ∧ y1 = .int .i64 (i3.2)))] [0, 1, 2, 3, 4, 5, 6, 7, 8, 9, 10] rfl mixed (by kernel_rfl) (⟨fun _ => up_rv, fun _ => up_and up_rv (up_and up_os (up_eq _)), fun _ => (up_ex fun _ => (up_ex fun _ => (up_and (up_eq _) (up_and up_rv (up_eq _))))), trivial⟩) ?_
  refine L_ld (c := kP) rfl rfl .plain (fun _ _ h => ⟨h.ch, fun b hb _ => h.below.block b hb⟩) oR yG ?_
  refine L_do (φ := fun v g w => RV g.m w iC v) rfl rfl .plain (fun g w hd => D_call (g := g) (vs := [kP]) en14 (.cons rfl .nil) (wk14 (tU.ext hd.1) pR) fun g' w' v hs hr => ⟨g', hs, hr⟩) (fun dI hv => ?_)
  obtain ⟨_, _, _, rq110⟩ := hv
  refine L_ld (c := lP) rfl rfl .plain (fun _ _ h => ⟨h.ch, fun b hb _ => h.below.block b hb⟩) qR iL ?_
  refine L_do (φ := fun v g w => RV g.m w ([i5] : List FaultDamage) v ∧ OS 3072 g w 37 ([i5] : List FaultDamage) v ∧ FullV v) rfl rfl .plain (fun g w hd => D_buildSlice (g := g) 3072 (xs := ([i5] : List FaultDamage)) (vs := [lP]) Try.underlying47 Try.sizeOf37 Try.zeroValue37 rfl rfl (.cons rfl .nil) (RVs.cons (uU.ext hd.1) RVs.nil) rfl rfl fun g' w' v hs o r hxt hfl => ⟨g', hxt, r, o, hfl⟩) (fun o9 hv => ?_)
  clear hv
  refine L_p (.int .i64 (((((y6).Design).Rows).length : Int))) rfl rfl (P_move m8) ?_
  refine L_do (φ := fun v g w => ∃ y0 y1 : Value, v = .tuple #[y0, y1] ∧ RV g.m w (i3.1 : List Str) y0 ∧ y1 = .int .i64 (i3.2)) rfl rfl .plain (fun g w hd => D_call (g := g) (vs := [dI, o9, .int .i64 (((((y6).Design).Rows).length : Int))]) en13 (.cons rfl (.cons rfl (.cons rfl .nil))) (wk13 (word (A := fun g w => RV g.m w iC dI) 1 rfl rfl (deps_of hd)) (word (A := fun g w => RV g.m w ([i5] : List FaultDamage) o9 ∧ OS 3072 g w 37 ([i5] : List FaultDamage) o9 ∧ FullV o9) 3 rfl rfl (deps_of hd)).1 rR) fun g' w' v hs hr => ⟨g', hs, hr⟩) (fun o00 hv => ?_)
  obtain ⟨_, _, _, u0, _, rfl, oW, rfl⟩ := hv
  refine L_p (.tuple #[u0, .int .i64 (i3.2)]) rfl rfl (P_move rfl) ?_
  refine L_p u0 rfl rfl (P_extract rfl rfl) ?_
  refine L_p (.int .i64 (i3.2)) rfl rfl (P_extract rfl rfl) ?_
  refine L_p u0 rfl rfl (P_assign rfl) ?_
  refine L_p (.int .i64 (i3.2)) rfl rfl (P_assign rfl) ?_
  refine L_nil fun mP p00 hall => ?_
  have hs := hall.1
  have hfr := hfr.ext hs
  have o7 := o7.ext hs
  have qA := qA.ext hs
  have i9 := i9.ext hs
  have q00 := (word_all (A := fun g w => RV g.m w iC dI) 1 rfl hall)
  have r00 := (word_all (A := fun g w => RV g.m w ([i5] : List FaultDamage) o9 ∧ OS 3072 g w 37 ([i5] : List FaultDamage) o9 ∧ FullV o9) 3 rfl hall).1
  have o135 := (word_all (A := fun g w => RV g.m w ([i5] : List FaultDamage) o9 ∧ OS 3072 g w 37 ([i5] : List FaultDamage) o9 ∧ FullV o9) 3 rfl hall).2.1
  have s00 := (tup2_0 (word_all (A := fun g w => ∃ y0 y1 : Value, Value.tuple #[u0, .int .i64 (i3.2)] = .tuple #[y0, y1] ∧ RV g.m w (i3.1 : List Str) y0 ∧ y1 = .int .i64 (i3.2)) 5 rfl hall))
  have t9 := (tup2_0 (word_all (A := fun g w => ∃ y0 y1 : Value, Value.tuple #[u0, .int .i64 (i3.2)] = .tuple #[y0, y1] ∧ RV g.m w (i3.1 : List Str) y0 ∧ y1 = .int .i64 (i3.2)) 5 rfl hall))
  clear hs hall
  refine EL_nil (thn_n (E_seq (E_region (EL_do .plain rfl (D_loadO (g := mP) Try.isAgg32 Try.sizeOf32 yG qA fun vU xU => ?_)))))
  obtain ⟨rO, tR, h⟩ := bsome h
  refine EL_do .plain rfl (D_call (g := mP) (vs := [vU]) en14 (.cons rfl .nil) (wk14 xU tR) fun yU eY zU hs hr => ?_)
  have hfr := hfr.ext hs
  have o7 := o7.ext hs
  have i9 := i9.ext hs
  have t9 := t9.ext hs
  have aV := hr
  refine EL_mv m8 rfl ?_
  obtain ⟨z3, uR, h⟩ := bsome h
  refine EL_do .plain rfl (D_call (g := yU) (vs := [zU, .slice none 0 0, .int .i64 (((((y6).Design).Rows).length : Int))]) en13 (.cons rfl (.cons rfl (.cons rfl .nil))) (wk13 aV RV_nil uR) fun sD gY t00 hs hr => ?_)
  have hfr := hfr.ext hs
  have o7 := o7.ext hs
  have i9 := i9.ext hs
  have t9 := t9.ext hs
  obtain ⟨j1, oX, rfl, bA, rfl⟩ := hr
  refine EL_mw (.tuple #[j1, .int .i64 (z3.2)]) rfl rfl ?_
  refine EL_p j1 (P_extract rfl rfl) rfl ?_
  refine EL_p (.int .i64 (z3.2)) (P_extract rfl rfl) rfl ?_
  refine EL_at j1 rfl rfl ?_
  refine EL_at (.int .i64 (z3.2)) rfl rfl ?_
  refine EL_nil (thn_n (E_joinC h (fun (s : Unit) e w => ∃ (g : Gh) , Fr gI wI g w ∧ e 5 = p3 ∧ PT g.m w (x2 : Vector UInt8 3) p3 ∧ e 8 = .int .i64 (((((y6).Design).Rows).length : Int)) ∧ e 10 = x5 ∧ RV g.m w ((c7.1 : List FaultSight) : List FaultSight) x5 ∧ e 12 = u0 ∧ RV g.m w ((i3.1 : List Str) : List Str) u0 ∧ e 14 = j1 ∧ RV g.m w (z3.1 : List Str) j1) (fun X158 bP vR h => ?_) ?_))
  ·obtain ⟨e9, hx, h⟩ := bsome h
   refine E_join (fun e w => ∃ (g : Gh) , Fr gI wI g w ∧ e 5 = p3 ∧ PT g.m w (x2 : Vector UInt8 3) p3 ∧ e 8 = .int .i64 (((((y6).Design).Rows).length : Int)) ∧ e 10 = x5 ∧ RV g.m w ((c7.1 : List FaultSight) : List FaultSight) x5 ∧ e 12 = u0 ∧ RV g.m w ((i3.1 : List Str) : List Str) u0 ∧ e 14 = j1 ∧ RV g.m w (z3.1 : List Str) j1 ∧ e 105 = .bool (e9)) (fun Q' hQ => ?_) (fun iY u00 hR => ?_)
   ·replace h := hx
    clear hx
    refine E_region (EL_mw (.int .i64 (c7.2)) rfl rfl ?_)
    refine EL_in (.bool ((c7.2 != (0 : Int)))) rfl rfl rfl rfl ?_
    refine EL_mw (.bool ((c7.2 != (0 : Int)))) rfl rfl ?_
    rcases csome h with ⟨rA, h⟩ | ⟨rA, h⟩
    ·refine EL_s rfl rfl rA rfl rfl ?_
     refine EL_s rfl rfl rA rfl rfl ?_
     refine EL_p (.bool true) (P_pick (b := (c7.2 != (0 : Int))) rfl (pick_t rA rfl)) rfl ?_
     refine EL_dead 16 rfl ?_
     refine EL_nil ?_
     obtain rfl := sinj h
     exact hQ _ _ ⟨sD, hfr, eC, o7, m8, rfl, i9, rfl, t9, rfl, bA, rfl⟩
    ·refine EL_y (.int .i64 (i3.2)) (P_move rfl) rfl rfl rA rfl ?_
     refine EL_y (.bool ((i3.2 != (0 : Int)))) (P_int rfl rfl rfl) rfl rfl rA rfl ?_
     refine EL_p (.bool ((i3.2 != (0 : Int)))) (P_pick (b := (c7.2 != (0 : Int))) rfl (pick_f rA rfl)) rfl ?_
     refine EL_mw (.bool ((i3.2 != (0 : Int)))) rfl rfl ?_
     rcases csome h with ⟨sA, h⟩ | ⟨sA, h⟩
     ·refine EL_s rfl rfl sA rfl rfl ?_
      refine EL_s rfl rfl sA rfl rfl ?_
      refine EL_p (.bool true) (P_pick (b := (i3.2 != (0 : Int))) rfl (pick_t sA rfl)) rfl ?_
      refine EL_dead 12 rfl ?_
      refine EL_nil ?_
      obtain rfl := sinj h
      exact hQ _ _ ⟨sD, hfr, eC, o7, m8, rfl, i9, rfl, t9, rfl, bA, rfl⟩
     ·refine EL_y (.int .i64 (z3.2)) (P_move rfl) rfl rfl sA rfl ?_
      refine EL_y (.bool ((z3.2 != (0 : Int)))) (P_int rfl rfl rfl) rfl rfl sA rfl ?_
      refine EL_p (.bool ((z3.2 != (0 : Int)))) (P_pick (b := (i3.2 != (0 : Int))) rfl (pick_f sA rfl)) rfl ?_
      refine EL_mw (.bool ((z3.2 != (0 : Int)))) rfl rfl ?_
      rcases csome h with ⟨o8, h⟩ | ⟨o8, h⟩
      ·refine EL_s rfl rfl o8 rfl rfl ?_
       iterate 3 refine EL_s rfl rfl o8 rfl rfl ?_
       refine EL_p (.bool true) (P_pick (b := (z3.2 != (0 : Int))) rfl (pick_t o8 rfl)) rfl ?_
       refine EL_dead 6 rfl ?_
       refine EL_nil ?_
       obtain rfl := sinj h
       exact hQ _ _ ⟨sD, hfr, eC, o7, m8, rfl, i9, rfl, t9, rfl, bA, rfl⟩
      ·refine EL_y u0 (P_move rfl) rfl rfl o8 rfl ?_
       refine EL_y (.int .i64 (((i3.1 : List Str)).length : Int)) (P_len Try.underlying38 rfl t9) rfl rfl o8 rfl ?_
       refine EL_y (.int .i64 (((((y6).Design).Rows).length : Int))) (P_move m8) rfl rfl o8 rfl ?_
       refine EL_y (.bool (((((i3.1 : List Str)).length : Int) != ((((y6).Design).Rows).length : Int)))) (P_int rfl rfl rfl) rfl rfl o8 rfl ?_
       refine EL_p (.bool (((((i3.1 : List Str)).length : Int) != ((((y6).Design).Rows).length : Int)))) (P_pick (b := (z3.2 != (0 : Int))) rfl (pick_f o8 rfl)) rfl ?_
       refine EL_p (.bool (((((i3.1 : List Str)).length : Int) != ((((y6).Design).Rows).length : Int)))) (P_move rfl) rfl ?_
       rcases csome h with ⟨q8, h⟩ | ⟨q8, h⟩
       ·refine EL_s rfl rfl q8 rfl rfl ?_
        iterate 3 refine EL_s rfl rfl q8 rfl rfl ?_
        refine EL_p (.bool true) (P_pick (b := ((((i3.1 : List Str)).length : Int) != ((((y6).Design).Rows).length : Int))) rfl (pick_t q8 rfl)) rfl ?_
        refine EL_nil ?_
        obtain rfl := sinj h
        exact hQ _ _ ⟨sD, hfr, eC, o7, m8, rfl, i9, rfl, t9, rfl, bA, rfl⟩
       ·refine EL_y j1 (P_move rfl) rfl rfl q8 rfl ?_
        refine EL_y (.int .i64 ((z3.1).length : Int)) (P_len Try.underlying38 rfl bA) rfl rfl q8 rfl ?_
        refine EL_y (.int .i64 (((((y6).Design).Rows).length : Int))) (P_move m8) rfl rfl q8 rfl ?_
        refine EL_y (.bool ((((z3.1).length : Int) != ((((y6).Design).Rows).length : Int)))) (P_int rfl rfl rfl) rfl rfl q8 rfl ?_
        refine EL_p (.bool ((((z3.1).length : Int) != ((((y6).Design).Rows).length : Int)))) (P_pick (b := ((((i3.1 : List Str)).length : Int) != ((((y6).Design).Rows).length : Int))) rfl (pick_f q8 rfl)) rfl ?_
        refine EL_nil ?_
        obtain rfl := sinj h
        exact hQ _ _ ⟨sD, hfr, eC, o7, m8, rfl, i9, rfl, t9, rfl, bA, rfl⟩
   ·clear hx
    obtain ⟨bV, hfr, nP, oP, pP, rL, tL, uL, vL, xL, yL, tD⟩ := hR
    rcases csome h with ⟨zG, h⟩ | ⟨zG, h⟩
    ·refine E_cond_true (Eq.trans (show ev _ _ = .bool (e9) from tD) (congrArg Value.bool zG)) ?_
     refine E_seq (E_region (EL_at (.bool false) rfl rfl ?_))
     refine EL_nil (thn_n (E_ret (thn_r ?_)))
     obtain rfl := sinj h
     exact end1 rfl rfl (show _ = .bool false from rfl) ⟨_, hfr, rfl⟩
    ·refine E_cond_false (Eq.trans (show ev _ _ = .bool (e9) from tD) (congrArg Value.bool zG)) ?_
     exact E_skip (thn_n (vR () _ _ ⟨bV, hfr, nP, oP, pP, rL, tL, uL, vL, xL, yL⟩ h))
  ·rintro _ jY v00 ⟨cV, hfr, sP, uD, tP, zL, jC, aM, kC, bM, lC⟩ h
   refine E_seq (E_region (EL_do .plain rfl (D_buildSlice (g := cV) 3106 (xs := ([] : List Int)) (vs := []) Try.underlying26 Try.sizeOf3 Try.zeroValue3 rfl rfl .nil RVs.nil rfl rfl fun dV x00 uP hs o170 eV hxt hfl => ?_)))
   have hfr := hfr.stp hs
   have uD := uD.stp hs
   have jC := jC.stp hs
   have kC := kC.stp hs
   have lC := lC.stp hs
   refine EL_at uP rfl rfl ?_
   refine EL_nil (thn_n ?_)
   obtain ⟨d7, hx, h⟩ := bsome h
   refine E_join (fun e w => ∃ (g : Gh) (cB : Value), Fr gI wI g w ∧ e 5 = p3 ∧ PT g.m w (x2 : Vector UInt8 3) p3 ∧ e 8 = .int .i64 (((((y6).Design).Rows).length : Int)) ∧ e 12 = u0 ∧ RV g.m w ((i3.1 : List Str) : List Str) u0 ∧ e 14 = j1 ∧ RV g.m w (z3.1 : List Str) j1 ∧ e 16 = cB ∧ RV g.m w (d7 : List Int) cB ∧ OS 3106 g w 3 (d7 : List Int) cB) (fun Q' hQ => ?_) (fun kY y00 hR => ?_)
   ·replace h := hx
    clear hx
    refine E_seq (E_region (EL_at (.int .i64 (0)) rfl rfl ?_))
    refine EL_nil (thn_n (E_block ?_))
    refine E_lp h (fun (s : (List Int) × Int) e w => ∃ (g : Gh) (cB : Value), Fr gI wI g w ∧ e 5 = p3 ∧ PT g.m w (x2 : Vector UInt8 3) p3 ∧ e 8 = .int .i64 (((((y6).Design).Rows).length : Int)) ∧ e 10 = x5 ∧ RV g.m w ((c7.1 : List FaultSight) : List FaultSight) x5 ∧ e 12 = u0 ∧ RV g.m w ((i3.1 : List Str) : List Str) u0 ∧ e 14 = j1 ∧ RV g.m w (z3.1 : List Str) j1 ∧ e 16 = cB ∧ RV g.m w (s.1 : List Int) cB ∧ OS 3106 g w 3 (s.1 : List Int) cB ∧ e 17 = .int .i64 (s.2)) ⟨dV, (uP), hfr, sP, uD, tP, zL, jC, aM, kC, bM, lC, rfl, eV, o170, rfl⟩ (fun X212 sO xR => ?_)
    rintro ⟨z4, i6⟩ mY z00 ⟨vP, e7, hfr, jH, kH, lH, yE, zE, cF, dF, eF, iF, nF, oF, pF, qF⟩ h
    refine E_joinC h (fun (s : Unit) e w => ∃ (g : Gh) , Fr gI wI g w ∧ e 5 = p3 ∧ PT g.m w (x2 : Vector UInt8 3) p3 ∧ e 8 = .int .i64 (((((y6).Design).Rows).length : Int)) ∧ e 10 = x5 ∧ RV g.m w ((c7.1 : List FaultSight) : List FaultSight) x5 ∧ e 12 = u0 ∧ RV g.m w ((i3.1 : List Str) : List Str) u0 ∧ e 14 = j1 ∧ RV g.m w (z3.1 : List Str) j1 ∧ e 16 = e7 ∧ RV g.m w (z4 : List Int) e7 ∧ OS 3106 g w 3 (z4 : List Int) e7 ∧ e 17 = .int .i64 (i6)) (fun X215 uO yR h => ?_) ?_
    ·refine E_seq (E_region (EL_mv qF rfl ?_))
     refine EL_mv yE rfl ?_
     refine EL_p (.int .i64 (((c7.1 : List FaultSight)).length : Int)) (P_len Try.underlying49 rfl zE) rfl ?_
     refine EL_p (.bool ((decide (i6 < (((c7.1 : List FaultSight)).length : Int))))) (P_int rfl rfl rfl) rfl ?_
     refine EL_nil (thn_n ?_)
     rcases csome h with ⟨aH, h⟩ | ⟨aH, h⟩
     ·refine E_ct aH rfl ?_
      exact E_skip (thn_n (yR () _ _ ⟨vP, hfr, jH, kH, lH, yE, zE, cF, dF, eF, iF, nF, oF, pF, qF⟩ h))
     ·refine E_cf aH rfl ?_
      refine E_exit ?_
      refine thn_e ?_
      refine thn_e ?_
      refine blk_hit ?_
      obtain rfl := sinj h
      exact hQ _ _ ⟨vP, (e7), hfr, jH, kH, lH, cF, dF, eF, iF, nF, oF, pF⟩
    ·rintro _ nY a01 ⟨bH, hfr, mH, nH, oH, mC, lB, rF, sF, tF, uF, gA, t8, vF, qC⟩ h
     obtain ⟨u9, hx, h⟩ := bsome h
     refine E_join (fun e w => ∃ (g : Gh) (cB : Value), Fr gI wI g w ∧ e 5 = p3 ∧ PT g.m w (x2 : Vector UInt8 3) p3 ∧ e 8 = .int .i64 (((((y6).Design).Rows).length : Int)) ∧ e 10 = x5 ∧ RV g.m w ((c7.1 : List FaultSight) : List FaultSight) x5 ∧ e 12 = u0 ∧ RV g.m w ((i3.1 : List Str) : List Str) u0 ∧ e 14 = j1 ∧ RV g.m w (z3.1 : List Str) j1 ∧ e 16 = cB ∧ RV g.m w (u9 : List Int) cB ∧ OS 3106 g w 3 (u9 : List Int) cB ∧ e 17 = .int .i64 (i6)) (fun Q' hQ => ?_) (fun oY b01 hR => ?_)
     ·replace h := hx
      clear hx
      refine E_block ?_
      refine E_seq (E_region (EL_mv mC rfl ?_))
      refine EL_mv qC rfl ?_
      obtain ⟨n9, jL, h⟩ := bsome h
      refine EL_p (ePtr x5 i6 3) (P_indexAddr (α := FaultSight) Try.underlying49 Try.sizeOf51 rfl lB rfl jL) rfl ?_
      have xP := PT_idx lB jL
      refine EL_p (fPtr (ePtr x5 i6 3) 0) (P_fieldAddr at_51_0 rfl (PT.ptr xP)) rfl ?_
      have gV := PT_field (part_FaultSight_0).1 xP
      refine EL_do .plain rfl (D_load (g := bH) Try.isAgg3 Try.sizeOf3 rfl gV fun c01 iV => ?_)
      obtain rfl := RV_int.1 iV
      refine EL_at (.int .i64 ((n9).Pick)) rfl rfl ?_
      refine EL_nil (thn_n ?_)
      obtain ⟨a9, hx, h⟩ := bsome h
      refine E_join (fun e w => ∃ (g : Gh) , Fr gI wI g w ∧ e 5 = p3 ∧ PT g.m w (x2 : Vector UInt8 3) p3 ∧ e 8 = .int .i64 (((((y6).Design).Rows).length : Int)) ∧ e 10 = x5 ∧ RV g.m w ((c7.1 : List FaultSight) : List FaultSight) x5 ∧ e 12 = u0 ∧ RV g.m w ((i3.1 : List Str) : List Str) u0 ∧ e 14 = j1 ∧ RV g.m w (z3.1 : List Str) j1 ∧ e 16 = e7 ∧ RV g.m w (z4 : List Int) e7 ∧ OS 3106 g w 3 (z4 : List Int) e7 ∧ e 17 = .int .i64 (i6) ∧ e 18 = .int .i64 ((n9).Pick) ∧ e 130 = .bool (a9)) (fun Q' hQ => ?_) (fun pY d01 hR => ?_)
      ·replace h := hx
       clear hx
       refine E_region (EL_mv gA rfl ?_)
       refine EL_p (.int .i64 ((z4).length : Int)) (P_len Try.underlying26 rfl t8) rfl ?_
       refine EL_in (.bool ((((z4).length : Int) == (0 : Int)))) rfl rfl rfl rfl ?_
       refine EL_mw (.bool ((((z4).length : Int) == (0 : Int)))) rfl rfl ?_
       rcases csome h with ⟨u7, h⟩ | ⟨u7, h⟩
       ·refine EL_s rfl rfl u7 rfl rfl ?_
        iterate 7 refine EL_s rfl rfl u7 rfl rfl ?_
        refine EL_p (.bool true) (P_pick (b := (((z4).length : Int) == (0 : Int))) rfl (pick_t u7 rfl)) rfl ?_
        refine EL_nil ?_
        obtain rfl := sinj h
        exact hQ _ _ ⟨bH, hfr, mH, nH, oH, mC, lB, rF, sF, tF, uF, gA, t8, vF, qC, rfl, rfl⟩
       ·refine EL_y e7 (P_move gA) rfl rfl u7 rfl ?_
        refine EL_y e7 (P_move gA) rfl rfl u7 rfl ?_
        refine EL_y (.int .i64 ((z4).length : Int)) (P_len Try.underlying26 rfl t8) rfl rfl u7 rfl ?_
        refine EL_y (.int .i64 ((w64 (((z4).length : Int) - (1 : Int))))) (P_int rfl rfl rfl) rfl rfl u7 rfl ?_
        obtain ⟨sG, kL, h⟩ := bsome h
        refine EL_y (ePtr e7 (w64 (((z4).length : Int) - (1 : Int))) 1) (P_indexAddr (α := Int) Try.underlying26 Try.sizeOf3 rfl t8 rfl kL) rfl rfl u7 rfl ?_
        have jV := PT_idx t8 kL
        refine EL_do (.yes2 rfl rfl u7) rfl (D_load (g := bH) Try.isAgg3 Try.sizeOf3 rfl jV fun e01 kV => ?_)
        obtain rfl := RV_int.1 kV
        refine EL_y (.int .i64 ((n9).Pick)) (P_move rfl) rfl rfl u7 rfl ?_
        refine EL_y (.bool ((decide (sG < (n9).Pick)))) (P_int rfl rfl rfl) rfl rfl u7 rfl ?_
        refine EL_p (.bool ((decide (sG < (n9).Pick)))) (P_pick (b := (((z4).length : Int) == (0 : Int))) rfl (pick_f u7 rfl)) rfl ?_
        refine EL_nil ?_
        obtain rfl := sinj h
        exact hQ _ _ ⟨bH, hfr, mH, nH, oH, mC, lB, rF, sF, tF, uF, gA, t8, vF, qC, rfl, rfl⟩
      ·clear hx
       obtain ⟨yP, hfr, pH, iA, qH, xF, v8, yF, x8, zF, y8, aG, mB, nB, bG, cM, vD⟩ := hR
       rcases csome h with ⟨cH, h⟩ | ⟨cH, h⟩
       ·refine E_cond_true (Eq.trans (show ev _ _ = .bool (a9) from vD) (congrArg Value.bool cH)) ?_
        refine E_region (EL_mv aG rfl ?_)
        refine EL_mv cM rfl ?_
        refine EL_do .plain rfl (D_buildSlice (g := yP) 3133 (xs := ([(n9).Pick] : List Int)) (vs := [.int .i64 ((n9).Pick)]) Try.underlying26 Try.sizeOf3 Try.zeroValue3 rfl rfl (.cons rfl .nil) (RVs.cons (RV_int.2 rfl) RVs.nil) rfl rfl fun lV g01 h01 hs o249 mV hxt hfl => ?_)
        have hfr := hfr.stp hs
        have iA := iA.stp hs
        have v8 := v8.stp hs
        have x8 := x8.stp hs
        have y8 := y8.stp hs
        have mB := mB.stp hs
        have nB := nB.stp hs rfl
        obtain ⟨tO, zR, h⟩ := bsome h
        refine EL_do .plain rfl (D_append (g := lV) (i := 3106) Try.underlying26 info_3 rfl rfl nB mB rfl mV zR fun nV i01 zP hs o250 oV _ => ?_)
        have hfr := hfr.stp hs
        have iA := iA.stp hs
        have v8 := v8.stp hs
        have x8 := x8.stp hs
        have y8 := y8.stp hs
        refine EL_at zP rfl rfl ?_
        refine EL_nil (blk_n ?_)
        obtain rfl := sinj h
        exact hQ _ _ ⟨nV, (zP), hfr, pH, iA, qH, xF, v8, yF, x8, zF, y8, rfl, oV, o250, bG⟩
       ·refine E_cond_false (Eq.trans (show ev _ _ = .bool (a9) from vD) (congrArg Value.bool cH)) ?_
        refine E_skip (blk_n ?_)
        obtain rfl := sinj h
        exact hQ _ _ ⟨yP, (e7), hfr, pH, iA, qH, xF, v8, yF, x8, zF, y8, aG, mB, nB, bG⟩
     ·clear hx
      obtain ⟨pV, dM, hfr, bQ, cQ, dQ, eM, gM, iM, jM, kM, mM, nM, oM, pM, qM⟩ := hR
      refine E_region (EL_mv qM rfl ?_)
      refine EL_in (.int .i64 ((w64 (i6 + (1 : Int))))) rfl rfl rfl rfl ?_
      refine EL_at (.int .i64 ((w64 (i6 + (1 : Int))))) rfl rfl ?_
      exact EL_nil (thn_n (xR (u9, (w64 (i6 + (1 : Int)))) _ _ ⟨pV, (dM), hfr, bQ, cQ, dQ, eM, gM, iM, jM, kM, mM, nM, oM, pM, rfl⟩ h))
   ·clear hx
    obtain ⟨qV, j6, hfr, eQ, xD, gQ, rM, rC, sM, tC, tM, uC, vC⟩ := hR
    refine E_seq (E_region (EL_do .plain rfl (D_buildSlice (g := qV) 3135 (xs := ([] : List SeamCut)) (vs := []) Try.underlying66 Try.sizeOf68 Try.zeroValue68 rfl rfl .nil RVs.nil rfl rfl fun rV j01 iQ hs o254 sV hxt hfl => ?_)))
    have hfr := hfr.stp hs
    have xD := xD.stp hs
    have rC := rC.stp hs
    have tC := tC.stp hs
    have uC := uC.stp hs
    have vC := vC.stp hs rfl
    refine EL_at iQ rfl rfl ?_
    refine EL_nil (thn_n ?_)
    obtain ⟨j3, hx, h⟩ := bsome h
    refine E_join (fun e w => ∃ (g : Gh) (dB : Value), Fr gI wI g w ∧ e 8 = .int .i64 (((((y6).Design).Rows).length : Int)) ∧ e 12 = u0 ∧ RV g.m w ((i3.1 : List Str) : List Str) u0 ∧ e 14 = j1 ∧ RV g.m w (z3.1 : List Str) j1 ∧ e 16 = j6 ∧ RV g.m w (d7 : List Int) j6 ∧ OS 3106 g w 3 (d7 : List Int) j6 ∧ e 19 = dB ∧ RV g.m w (j3 : List SeamCut) dB ∧ OS 3135 g w 68 (j3 : List SeamCut) dB) (fun Q' hQ => ?_) (fun qY k01 hR => ?_)
    ·replace h := hx
     clear hx
     refine E_seq (E_region (EL_at (.int .i64 (0)) rfl rfl ?_))
     refine EL_nil (thn_n (E_block ?_))
     refine E_lp h (fun (s : (List SeamCut) × Int) e w => ∃ (g : Gh) (dB : Value), Fr gI wI g w ∧ e 5 = p3 ∧ PT g.m w (x2 : Vector UInt8 3) p3 ∧ e 8 = .int .i64 (((((y6).Design).Rows).length : Int)) ∧ e 12 = u0 ∧ RV g.m w ((i3.1 : List Str) : List Str) u0 ∧ e 14 = j1 ∧ RV g.m w (z3.1 : List Str) j1 ∧ e 16 = j6 ∧ RV g.m w (d7 : List Int) j6 ∧ OS 3106 g w 3 (d7 : List Int) j6 ∧ e 19 = dB ∧ RV g.m w (s.1 : List SeamCut) dB ∧ OS 3135 g w 68 (s.1 : List SeamCut) dB ∧ e 20 = .int .i64 (s.2)) ⟨rV, (iQ), hfr, eQ, xD, gQ, rM, rC, sM, tC, tM, uC, vC, rfl, sV, o254, rfl⟩ (fun X336 vO aS => ?_)
     rintro ⟨y9, q5⟩ uY l01 ⟨jQ, jA, hfr, kQ, lQ, sH, cG, dG, eG, gG, hG, iG, jG, kG, lG, mG, nG⟩ h
     refine E_joinC h (fun (s : Unit) e w => ∃ (g : Gh) , Fr gI wI g w ∧ e 5 = p3 ∧ PT g.m w (x2 : Vector UInt8 3) p3 ∧ e 8 = .int .i64 (((((y6).Design).Rows).length : Int)) ∧ e 12 = u0 ∧ RV g.m w ((i3.1 : List Str) : List Str) u0 ∧ e 14 = j1 ∧ RV g.m w (z3.1 : List Str) j1 ∧ e 16 = j6 ∧ RV g.m w (d7 : List Int) j6 ∧ OS 3106 g w 3 (d7 : List Int) j6 ∧ e 19 = jA ∧ RV g.m w (y9 : List SeamCut) jA ∧ OS 3135 g w 68 (y9 : List SeamCut) jA ∧ e 20 = .int .i64 (q5)) (fun X339 yO bS h => ?_) ?_
     ·refine E_seq (E_region (EL_mv nG rfl ?_))
      refine EL_in (.bool ((decide (q5 < (3 : Int))))) rfl rfl rfl rfl ?_
      refine EL_nil (thn_n ?_)
      rcases csome h with ⟨dH, h⟩ | ⟨dH, h⟩
      ·refine E_ct dH rfl ?_
       exact E_skip (thn_n (bS () _ _ ⟨jQ, hfr, kQ, lQ, sH, cG, dG, eG, gG, hG, iG, jG, kG, lG, mG, nG⟩ h))
      ·refine E_cf dH rfl ?_
       refine E_exit ?_
       refine thn_e ?_
       refine thn_e ?_
       refine blk_hit ?_
       obtain rfl := sinj h
       exact hQ _ _ ⟨jQ, (jA), hfr, sH, cG, dG, eG, gG, hG, iG, jG, kG, lG, mG⟩
     ·rintro _ vY tV ⟨mQ, hfr, yD, l8, tH, uM, kA, vM, lA, xM, mA, nA, yM, xC, yC, aD⟩ h
      obtain ⟨z9, hx, h⟩ := bsome h
      refine E_join (fun e w => ∃ (g : Gh) (dB : Value), Fr gI wI g w ∧ e 5 = p3 ∧ PT g.m w (x2 : Vector UInt8 3) p3 ∧ e 8 = .int .i64 (((((y6).Design).Rows).length : Int)) ∧ e 12 = u0 ∧ RV g.m w ((i3.1 : List Str) : List Str) u0 ∧ e 14 = j1 ∧ RV g.m w (z3.1 : List Str) j1 ∧ e 16 = j6 ∧ RV g.m w (d7 : List Int) j6 ∧ OS 3106 g w 3 (d7 : List Int) j6 ∧ e 19 = dB ∧ RV g.m w (z9 : List SeamCut) dB ∧ OS 3135 g w 68 (z9 : List SeamCut) dB ∧ e 20 = .int .i64 (q5)) (fun Q' hQ => ?_) (fun xY m01 hR => ?_)
      ·replace h := hx
       clear hx
       refine E_block ?_
       obtain ⟨tG, lL, h⟩ := bsome h
       have uV := PT_idxA l8 lL
       refine L_load (x := .tmp 142) Try.isAgg5 Try.sizeOf5 uV fun n01 vV cS => ?_
       obtain rfl := RV_u8.1 vV
       obtain ⟨bI, dS, h⟩ := bsome h
       obtain ⟨c8, eS, h⟩ := bsome h
       obtain ⟨uG, mL, h⟩ := bsome h
       have xV := PT_idxA l8 mL
       refine L_load (x := .tmp 149) Try.isAgg5 Try.sizeOf5 xV fun o01 yV gS => ?_
       obtain rfl := RV_u8.1 yV
       obtain ⟨n7, iS, h⟩ := bsome h
       have nQ : RV mQ.m tV (⟨c8, (w64 ((1 : Int) + n7))⟩ : SeamCut) (.agg (setCh [[.int .i64 0], [.int .i64 0]] [(0, .int .i64 (c8)), (1, .int .i64 ((w64 ((1 : Int) + n7))))]).flatten.toArray) := RV_build rfl (rep_pair (rfl) (rep_last (rfl)))
       generalize jS : (Value.agg (setCh [[.int .i64 0], [.int .i64 0]] [(0, .int .i64 (c8)), (1, .int .i64 ((w64 ((1 : Int) + n7))))]).flatten.toArray) = oQ at nQ
       refine E_drawL (g := mQ) (n := 16) [(15, (fun v g w => RV g.m w ([(⟨c8, (w64 ((1 : Int) + n7))⟩ : SeamCut)] : List SeamCut) v ∧ OS 3155 g w 68 ([(⟨c8, (w64 ((1 : Int) + n7))⟩ : SeamCut)] : List SeamCut) v ∧ FullV v))] [0, 1, 2, 3, 4, 5, 6, 7, 8, 9, 10, 11, 12, 13, 14, 15] rfl mixed (by kernel_rfl) (⟨fun _ => up_and up_rv (up_and up_os (up_eq _)), trivial⟩) ?_
       refine L_p jA rfl rfl (P_move yM) ?_
       refine L_p (.int .i64 (q5)) rfl rfl (P_move aD) ?_
       refine L_p (fPtr p3 ((q5 : Int).toNat * 1)) rfl rfl (P_indexAddrA (α := UInt8) Try.underlying63 Try.sizeOf5 yD (PT.ptr l8) rfl lL) ?_
       refine L_ld (c := .int .u8 (UInt8.toNat (tG))) rfl rfl .plain (fun _ _ h => h.ch) cS rfl ?_
       refine L_p (.int .i64 (((tG).toNat : Int))) rfl rfl (P_u8int Try.underlying5 Try.underlying3 rfl) ?_
       refine L_p (.int .i64 (bI)) rfl rfl (P_int rfl rfl (congrArg (Option.map (Value.int .i64)) dS)) ?_
       refine L_p (.int .i64 (((((y6).Design).Rows).length : Int))) rfl rfl (P_move tH) ?_
       refine L_p (.int .i64 (c8)) rfl rfl (P_int rfl rfl (congrArg (Option.map (Value.int .i64)) eS)) ?_
       refine L_p (.int .i64 (q5)) rfl rfl (P_move aD) ?_
       refine L_p (fPtr p3 ((q5 : Int).toNat * 1)) rfl rfl (P_indexAddrA (α := UInt8) Try.underlying63 Try.sizeOf5 yD (PT.ptr l8) rfl mL) ?_
       refine L_ld (c := .int .u8 (UInt8.toNat (uG))) rfl rfl .plain (fun _ _ h => h.ch) gS rfl ?_
       refine L_p (.int .i64 (((uG).toNat : Int))) rfl rfl (P_u8int Try.underlying5 Try.underlying3 rfl) ?_
       refine L_p (.int .i64 (n7)) rfl rfl (P_int rfl rfl (congrArg (Option.map (Value.int .i64)) iS)) ?_
       refine L_p (.int .i64 ((w64 ((1 : Int) + n7)))) rfl rfl (P_int rfl rfl rfl) ?_
       refine L_p oQ rfl rfl (jS ▸ P_build (vs := [(0, .int .i64 (c8)), (1, .int .i64 ((w64 ((1 : Int) + n7))))]) [[.int .i64 0], [.int .i64 0]] lay_68 rfl rfl (.cons rfl (.cons rfl .nil)) ⟨⟨_, rfl, rfl⟩, ⟨⟨_, rfl, rfl⟩, trivial⟩⟩) ?_
       refine L_do (φ := fun v g w => RV g.m w ([(⟨c8, (w64 ((1 : Int) + n7))⟩ : SeamCut)] : List SeamCut) v ∧ OS 3155 g w 68 ([(⟨c8, (w64 ((1 : Int) + n7))⟩ : SeamCut)] : List SeamCut) v ∧ FullV v) rfl rfl .plain (fun g w hd => D_buildSlice (g := g) 3155 (xs := ([(⟨c8, (w64 ((1 : Int) + n7))⟩ : SeamCut)] : List SeamCut)) (vs := [oQ]) Try.underlying66 Try.sizeOf68 Try.zeroValue68 rfl rfl (.cons rfl .nil) (RVs.cons (nQ.ext hd.1) RVs.nil) rfl rfl fun g' w' v hs o r hxt hfl => ⟨g', hxt, r, o, hfl⟩) (fun bD hv => ?_)
       clear hv
       refine L_nil fun zV p01 hall => ?_
       have hs := hall.1
       have hfr := hfr.ext hs
       have l8 := l8.ext hs
       have kA := kA.ext hs
       have lA := lA.ext hs
       have mA := mA.ext hs
       have nA := nA.ext hs
       have xC := xC.ext hs
       have yC := yC.ext hs
       have aW := (word_all (A := fun g w => RV g.m w ([(⟨c8, (w64 ((1 : Int) + n7))⟩ : SeamCut)] : List SeamCut) bD ∧ OS 3155 g w 68 ([(⟨c8, (w64 ((1 : Int) + n7))⟩ : SeamCut)] : List SeamCut) bD ∧ FullV bD) 15 rfl hall).1
       have o413 := (word_all (A := fun g w => RV g.m w ([(⟨c8, (w64 ((1 : Int) + n7))⟩ : SeamCut)] : List SeamCut) bD ∧ OS 3155 g w 68 ([(⟨c8, (w64 ((1 : Int) + n7))⟩ : SeamCut)] : List SeamCut) bD ∧ FullV bD) 15 rfl hall).2.1
       clear hs hall
       obtain ⟨xO, kS, h⟩ := bsome h
       refine EL_do .plain rfl (D_append (g := zV) (i := 3135) Try.underlying66 info_68 rfl rfl yC xC rfl aW kS fun bW q01 pQ hs o414 cW _ => ?_)
       have hfr := hfr.stp hs
       have l8 := l8.stp hs
       have kA := kA.stp hs
       have lA := lA.stp hs
       have mA := mA.stp hs
       have nA := nA.stp hs rfl
       refine EL_at pQ rfl rfl ?_
       refine EL_nil (blk_n ?_)
       obtain rfl := sinj h
       exact hQ _ _ ⟨bW, (pQ), hfr, yD, l8, tH, uM, kA, vM, lA, xM, mA, nA, rfl, cW, o414, aD⟩
      ·clear hx
       obtain ⟨dW, zM, hfr, qQ, rQ, sQ, bN, cN, dN, eN, gN, iN, jN, kN, lN, mN, nN⟩ := hR
       refine E_region (EL_mv nN rfl ?_)
       refine EL_in (.int .i64 ((w64 (q5 + (1 : Int))))) rfl rfl rfl rfl ?_
       refine EL_at (.int .i64 ((w64 (q5 + (1 : Int))))) rfl rfl ?_
       exact EL_nil (thn_n (aS (z9, (w64 (q5 + (1 : Int)))) _ _ ⟨dW, (zM), hfr, qQ, rQ, sQ, bN, cN, dN, eN, gN, iN, jN, kN, lN, mN, rfl⟩ h))
    ·clear hx
     obtain ⟨eW, z2, hfr, zD, oG, e8, pG, i8, oN, oA, pW, cD, v7, k8⟩ := hR
     refine E_seq (E_region (EL_mv zD rfl ?_))
     refine EL_mv oN rfl ?_
     refine EL_do .plain rfl (D_buildSlice (g := eW) 3160 (xs := ([] : List SeamCut)) (vs := []) Try.underlying66 Try.sizeOf68 Try.zeroValue68 rfl rfl .nil RVs.nil rfl rfl fun gW r01 s01 hs o418 iW hxt hfl => ?_)
     have hfr := hfr.stp hs
     have e8 := e8.stp hs
     have i8 := i8.stp hs
     have oA := oA.stp hs
     have v7 := v7.stp hs
     have k8 := k8.stp hs rfl
     refine EL_mv cD rfl ?_
     obtain ⟨zO, lS, h⟩ := bsome h
     refine EL_do .plain rfl (D_append (g := gW) (i := 3160) Try.underlying66 info_68 rfl rfl o418 iW rfl v7 lS fun jW t01 kW hs o419 lW _ => ?_)
     have hfr := hfr.stp hs
     have e8 := e8.stp hs
     have i8 := i8.stp hs
     have oA := oA.stp hs
     have v7 := v7.stp hs
     have k8 := k8.stp hs rfl
     obtain ⟨l5, mS, h⟩ := bsome h
     refine EL_do .plain rfl (D_call (g := jW) (vs := [.int .i64 (((((y6).Design).Rows).length : Int)), j6, kW]) en23 (.cons rfl (.cons rfl (.cons rfl .nil))) (wk23 oA lW mS) fun tQ yY u01 hs hr => ?_)
     have hfr := hfr.ext hs
     have e8 := e8.ext hs
     have i8 := i8.ext hs
     have v7 := v7.ext hs
     have k8 := k8.ext hs
     obtain ⟨o3, pX, qX, rfl, aE, rfl, rfl⟩ := hr
     refine EL_mw (.tuple #[o3, .int .i64 (l5.2.1), .int .i64 (l5.2.2)]) rfl rfl ?_
     refine EL_p o3 (P_extract rfl rfl) rfl ?_
     refine EL_p (.int .i64 (l5.2.1)) (P_extract rfl rfl) rfl ?_
     refine EL_p (.int .i64 (l5.2.2)) (P_extract rfl rfl) rfl ?_
     refine EL_at o3 rfl rfl ?_
     refine EL_at (.int .i64 (l5.2.1)) rfl rfl ?_
     refine EL_at (.int .i64 (l5.2.2)) rfl rfl ?_
     refine EL_nil (thn_n (E_joinC h (fun (s : Unit) e w => ∃ (g : Gh) , Fr gI wI g w ∧ e 8 = .int .i64 (((((y6).Design).Rows).length : Int)) ∧ e 12 = u0 ∧ RV g.m w ((i3.1 : List Str) : List Str) u0 ∧ e 14 = j1 ∧ RV g.m w (z3.1 : List Str) j1 ∧ e 19 = z2 ∧ RV g.m w (j3 : List SeamCut) z2 ∧ OS 3135 g w 68 (j3 : List SeamCut) z2 ∧ e 21 = o3 ∧ RV g.m w (l5.1 : List Int) o3) (fun X427 aP nS h => ?_) ?_))
     ·obtain ⟨d9, hx, h⟩ := bsome h
      refine E_join (fun e w => ∃ (g : Gh) , Fr gI wI g w ∧ e 8 = .int .i64 (((((y6).Design).Rows).length : Int)) ∧ e 12 = u0 ∧ RV g.m w ((i3.1 : List Str) : List Str) u0 ∧ e 14 = j1 ∧ RV g.m w (z3.1 : List Str) j1 ∧ e 19 = z2 ∧ RV g.m w (j3 : List SeamCut) z2 ∧ OS 3135 g w 68 (j3 : List SeamCut) z2 ∧ e 21 = o3 ∧ RV g.m w (l5.1 : List Int) o3 ∧ e 173 = .bool (d9)) (fun Q' hQ => ?_) (fun zY v01 hR => ?_)
      ·replace h := hx
       clear hx
       refine E_region (EL_mw (.int .i64 (l5.2.2)) rfl rfl ?_)
       refine EL_in (.bool ((l5.2.2 != (0 : Int)))) rfl rfl rfl rfl ?_
       refine EL_mw (.bool ((l5.2.2 != (0 : Int)))) rfl rfl ?_
       rcases csome h with ⟨r8, h⟩ | ⟨r8, h⟩
       ·refine EL_s rfl rfl r8 rfl rfl ?_
        refine EL_s rfl rfl r8 rfl rfl ?_
        refine EL_s rfl rfl r8 rfl rfl ?_
        refine EL_p (.bool true) (P_pick (b := (l5.2.2 != (0 : Int))) rfl (pick_t r8 rfl)) rfl ?_
        refine EL_nil ?_
        obtain rfl := sinj h
        exact hQ _ _ ⟨tQ, hfr, zD, oG, e8, pG, i8, cD, v7, k8, rfl, aE, rfl⟩
       ·refine EL_y o3 (P_move rfl) rfl rfl r8 rfl ?_
        refine EL_y (.int .i64 ((l5.1).length : Int)) (P_len Try.underlying26 rfl aE) rfl rfl r8 rfl ?_
        refine EL_y (.bool ((((l5.1).length : Int) != (3 : Int)))) (P_int rfl rfl rfl) rfl rfl r8 rfl ?_
        refine EL_p (.bool ((((l5.1).length : Int) != (3 : Int)))) (P_pick (b := (l5.2.2 != (0 : Int))) rfl (pick_f r8 rfl)) rfl ?_
        refine EL_nil ?_
        obtain rfl := sinj h
        exact hQ _ _ ⟨tQ, hfr, zD, oG, e8, pG, i8, cD, v7, k8, rfl, aE, rfl⟩
      ·clear hx
       obtain ⟨mW, hfr, uQ, pN, qN, rN, sN, tN, uN, vN, xN, yN, bE⟩ := hR
       rcases csome h with ⟨gH, h⟩ | ⟨gH, h⟩
       ·refine E_cond_true (Eq.trans (show ev _ _ = .bool (d9) from bE) (congrArg Value.bool gH)) ?_
        refine E_seq (E_region (EL_at (.bool false) rfl rfl ?_))
        refine EL_nil (thn_n (E_ret (thn_r ?_)))
        obtain rfl := sinj h
        exact end1 rfl rfl (show _ = .bool false from rfl) ⟨_, hfr, rfl⟩
       ·refine E_cond_false (Eq.trans (show ev _ _ = .bool (d9) from bE) (congrArg Value.bool gH)) ?_
        exact E_skip (thn_n (nS () _ _ ⟨mW, hfr, uQ, pN, qN, rN, sN, tN, uN, vN, xN, yN⟩ h))
     ·rintro _ aZ x01 ⟨nW, hfr, vQ, zN, aO, bO, cO, dO, eO, gO, iO, jO⟩ h
      refine E_joinC h (fun (s : Unit) e w => ∃ (g : Gh) , Fr gI wI g w) (fun X2317 xK xQ h => ?_) ?_
      ·refine E_seq (E_region (EL_at (.int .i64 (0)) rfl rfl ?_))
       refine EL_nil (thn_n (E_block ?_))
       refine E_lp h (fun (s : Int) e w => ∃ (g : Gh) , Fr gI wI g w ∧ e 8 = .int .i64 (((((y6).Design).Rows).length : Int)) ∧ e 12 = u0 ∧ RV g.m w ((i3.1 : List Str) : List Str) u0 ∧ e 14 = j1 ∧ RV g.m w (z3.1 : List Str) j1 ∧ e 19 = z2 ∧ RV g.m w (j3 : List SeamCut) z2 ∧ OS 3135 g w 68 (j3 : List SeamCut) z2 ∧ e 21 = o3 ∧ RV g.m w (l5.1 : List Int) o3 ∧ e 24 = .int .i64 (s)) ⟨nW, hfr, vQ, zN, aO, bO, cO, dO, eO, gO, iO, jO, rfl⟩ (fun X2318 yK yQ => ?_)
       rintro d3 rX bZ ⟨nL, hfr, kO, iI, jI, kI, lI, mI, nI, oI, pI, qI, cE⟩ h
       refine E_joinC h (fun (s : Unit) e w => ∃ (g : Gh) , Fr gI wI g w ∧ e 8 = .int .i64 (((((y6).Design).Rows).length : Int)) ∧ e 12 = u0 ∧ RV g.m w ((i3.1 : List Str) : List Str) u0 ∧ e 14 = j1 ∧ RV g.m w (z3.1 : List Str) j1 ∧ e 19 = z2 ∧ RV g.m w (j3 : List SeamCut) z2 ∧ OS 3135 g w 68 (j3 : List SeamCut) z2 ∧ e 21 = o3 ∧ RV g.m w (l5.1 : List Int) o3 ∧ e 24 = .int .i64 (d3)) (fun X2321 eL zQ h => ?_) ?_
       ·refine E_seq (E_region (EL_mv cE rfl ?_))
        refine EL_in (.bool ((decide (d3 < (3 : Int))))) rfl rfl rfl rfl ?_
        refine EL_nil (thn_n ?_)
        rcases csome h with ⟨dE, h⟩ | ⟨dE, h⟩
        ·refine E_ct dE rfl ?_
         exact E_skip (thn_n (zQ () _ _ ⟨nL, hfr, kO, iI, jI, kI, lI, mI, nI, oI, pI, qI, cE⟩ h))
        ·refine E_cf dE rfl ?_
         refine E_exit ?_
         refine thn_e ?_
         refine thn_e ?_
         refine blk_hit ?_
         exact thn_n (xQ () _ _ ⟨nL, hfr⟩ h)
       ·rintro _ sX cZ ⟨oS, hfr, lO, rI, sI, tI, uI, vI, xI, yI, zI, aJ, bJ⟩ h
        refine E_joinC h (fun (s : Unit) e w => ∃ (g : Gh) , Fr gI wI g w ∧ e 8 = .int .i64 (((((y6).Design).Rows).length : Int)) ∧ e 12 = u0 ∧ RV g.m w ((i3.1 : List Str) : List Str) u0 ∧ e 14 = j1 ∧ RV g.m w (z3.1 : List Str) j1 ∧ e 19 = z2 ∧ RV g.m w (j3 : List SeamCut) z2 ∧ OS 3135 g w 68 (j3 : List SeamCut) z2 ∧ e 21 = o3 ∧ RV g.m w (l5.1 : List Int) o3 ∧ e 24 = .int .i64 (d3)) (fun X3262 zK aR h => ?_) ?_
        ·refine E_block ?_
         refine E_joinC h (fun (s : Unit) e w => ∃ (g : Gh) , Fr gI wI g w ∧ e 8 = .int .i64 (((((y6).Design).Rows).length : Int)) ∧ e 12 = u0 ∧ RV g.m w ((i3.1 : List Str) : List Str) u0 ∧ e 14 = j1 ∧ RV g.m w (z3.1 : List Str) j1 ∧ e 19 = z2 ∧ RV g.m w (j3 : List SeamCut) z2 ∧ OS 3135 g w 68 (j3 : List SeamCut) z2 ∧ e 21 = o3 ∧ RV g.m w (l5.1 : List Int) o3 ∧ e 24 = .int .i64 (d3)) (fun X3717 aL bR h => ?_) ?_
         ·refine E_seq (E_region (EL_at (.int .i64 (0)) rfl rfl ?_))
          refine EL_nil (thn_n (E_block ?_))
          refine E_lp h (fun (s : Int) e w => ∃ (g : Gh) , Fr gI wI g w ∧ e 8 = .int .i64 (((((y6).Design).Rows).length : Int)) ∧ e 12 = u0 ∧ RV g.m w ((i3.1 : List Str) : List Str) u0 ∧ e 14 = j1 ∧ RV g.m w (z3.1 : List Str) j1 ∧ e 19 = z2 ∧ RV g.m w (j3 : List SeamCut) z2 ∧ OS 3135 g w 68 (j3 : List SeamCut) z2 ∧ e 21 = o3 ∧ RV g.m w (l5.1 : List Int) o3 ∧ e 24 = .int .i64 (d3) ∧ e 25 = .int .i64 (s)) ⟨oS, hfr, lO, rI, sI, tI, uI, vI, xI, yI, zI, aJ, bJ, rfl⟩ (fun X3718 bL cR => ?_)
          rintro o0 tX dZ ⟨iH, hfr, qG, eE, gE, iE, jE, tB, uA, kE, lE, mE, vB, nE⟩ h
          refine E_joinC h (fun (s : Unit) e w => ∃ (g : Gh) , Fr gI wI g w ∧ e 8 = .int .i64 (((((y6).Design).Rows).length : Int)) ∧ e 12 = u0 ∧ RV g.m w ((i3.1 : List Str) : List Str) u0 ∧ e 14 = j1 ∧ RV g.m w (z3.1 : List Str) j1 ∧ e 19 = z2 ∧ RV g.m w (j3 : List SeamCut) z2 ∧ OS 3135 g w 68 (j3 : List SeamCut) z2 ∧ e 21 = o3 ∧ RV g.m w (l5.1 : List Int) o3 ∧ e 24 = .int .i64 (d3) ∧ e 25 = .int .i64 (o0)) (fun X3725 dL dR h => ?_) ?_
          ·refine E_seq (E_region (EL_mv nE rfl ?_))
           refine EL_mv tB rfl ?_
           refine EL_mv vB rfl ?_
           obtain ⟨xG, uH, h⟩ := bsome h
           refine EL_p (ePtr z2 d3 2) (P_indexAddr (α := SeamCut) Try.underlying66 Try.sizeOf68 rfl uA rfl uH) rfl ?_
           have oL := PT_idx uA uH
           refine EL_p (fPtr (ePtr z2 d3 2) 1) (P_fieldAddr at_68_1 rfl (PT.ptr oL)) rfl ?_
           have pS := PT_field (part_SeamCut_1).1 oL
           refine EL_do .plain rfl (D_load (g := iH) Try.isAgg3 Try.sizeOf3 rfl pS fun mZ qS => ?_)
           obtain rfl := RV_int.1 qS
           refine EL_in (.bool ((decide (o0 < (xG).Picks)))) rfl rfl rfl rfl ?_
           refine EL_nil (thn_n ?_)
           rcases csome h with ⟨oE, h⟩ | ⟨oE, h⟩
           ·refine E_ct oE rfl ?_
            exact E_skip (thn_n (dR () _ _ ⟨iH, hfr, qG, eE, gE, iE, jE, tB, uA, kE, lE, mE, vB, nE⟩ h))
           ·refine E_cf oE rfl ?_
            refine E_exit ?_
            refine thn_e ?_
            refine thn_e ?_
            refine blk_hit ?_
            exact thn_n (bR () _ _ ⟨iH, hfr, qG, eE, gE, iE, jE, tB, uA, kE, lE, mE, vB⟩ h)
          ·rintro _ uX nZ ⟨lD, hfr, pA, xA, v6, yA, x6, xB, j7, m7, zA, a7, aB, bB⟩ h
           refine E_joinC h (fun (s : Unit) e w => ∃ (g : Gh) , Fr gI wI g w ∧ e 8 = .int .i64 (((((y6).Design).Rows).length : Int)) ∧ e 12 = u0 ∧ RV g.m w ((i3.1 : List Str) : List Str) u0 ∧ e 14 = j1 ∧ RV g.m w (z3.1 : List Str) j1 ∧ e 19 = z2 ∧ RV g.m w (j3 : List SeamCut) z2 ∧ OS 3135 g w 68 (j3 : List SeamCut) z2 ∧ e 21 = o3 ∧ RV g.m w (l5.1 : List Int) o3 ∧ e 24 = .int .i64 (d3) ∧ e 25 = .int .i64 (o0)) (fun X3951 cL eR h => ?_) ?_
           ·refine E_block ?_
            refine E_seq (E_region (EL_mv zA rfl ?_))
            refine EL_mv aB rfl ?_
            obtain ⟨u3, vH, h⟩ := bsome h
            refine EL_p (ePtr o3 d3 1) (P_indexAddr (α := Int) Try.underlying26 Try.sizeOf3 rfl a7 rfl vH) rfl ?_
            have rS := PT_idx a7 vH
            refine EL_do .plain rfl (D_load (g := lD) Try.isAgg3 Try.sizeOf3 rfl rS fun oZ sS => ?_)
            obtain rfl := RV_int.1 sS
            refine EL_mv bB rfl ?_
            refine EL_in (.int .i64 ((w64 (u3 + o0)))) rfl rfl rfl rfl ?_
            refine EL_at (.int .i64 ((w64 (u3 + o0)))) rfl rfl ?_
            refine EL_nil (thn_n ?_)
            obtain ⟨n8, hx, h⟩ := bsome h
            refine E_join (fun e w => ∃ (g : Gh) , Fr gI wI g w ∧ e 8 = .int .i64 (((((y6).Design).Rows).length : Int)) ∧ e 12 = u0 ∧ RV g.m w ((i3.1 : List Str) : List Str) u0 ∧ e 14 = j1 ∧ RV g.m w (z3.1 : List Str) j1 ∧ e 19 = z2 ∧ RV g.m w (j3 : List SeamCut) z2 ∧ OS 3135 g w 68 (j3 : List SeamCut) z2 ∧ e 21 = o3 ∧ RV g.m w (l5.1 : List Int) o3 ∧ e 24 = .int .i64 (d3) ∧ e 25 = .int .i64 (o0) ∧ e 210 = .bool (n8)) (fun Q' hQ => ?_) (fun vX pZ hR => ?_)
            ·replace h := hx
             clear hx
             rcases csome h with ⟨t5, h⟩ | ⟨t5, h⟩
             ·refine E_drawL (g := lD) (n := 18) [] [0, 1, 2, 3, 4, 5, 6, 7, 8, 9, 10, 11, 12, 13, 14, 15, 16, 17] rfl mixed (by kernel_rfl) trivial ?_
              refine L_p (.int .i64 ((w64 (u3 + o0)))) rfl rfl (P_move rfl) ?_
              refine L_p (.bool ((decide ((w64 (u3 + o0)) < (0 : Int))))) rfl rfl (P_int rfl rfl rfl) ?_
              refine L_p (.bool ((decide ((w64 (u3 + o0)) < (0 : Int))))) rfl rfl (P_move rfl) ?_
              iterate 4 refine L_s rfl rfl rfl t5 rfl ?_
              refine L_dead (fun _ => rfl) 9 rfl ?_
              refine L_s rfl rfl rfl t5 rfl ?_
              refine L_p (.bool true) rfl rfl (P_pick (b := (decide ((w64 (u3 + o0)) < (0 : Int)))) rfl (pick_t t5 rfl)) ?_
              refine L_nl fun tS qZ hs => ?_
              have hfr := hfr.ext hs
              have v6 := v6.ext hs
              have x6 := x6.ext hs
              have j7 := j7.ext hs
              have m7 := m7.ext hs
              have a7 := a7.ext hs
              clear hs
              refine EL_nil ?_
              obtain rfl := sinj h
              exact hQ _ _ ⟨tS, hfr, pA, xA, v6, yA, x6, xB, j7, m7, zA, a7, aB, bB, rfl⟩
             ·rcases csome h with ⟨i7, h⟩ | ⟨i7, h⟩
              ·obtain ⟨jB, xH, h⟩ := bsome h
               have uS := PT_idx v6 xH
               refine L_load (x := .tmp 202) Try.isAgg9 Try.sizeOf9 uS fun rZ vS gR => ?_
               obtain rfl := RV_str.1 vS
               obtain ⟨kB, yH, h⟩ := bsome h
               have xS := PT_idx x6 yH
               refine L_load (x := .tmp 206) Try.isAgg9 Try.sizeOf9 xS fun sZ yS iR => ?_
               obtain rfl := RV_str.1 yS
               refine E_drawL (g := lD) (n := 18) [] [0, 1, 2, 3, 4, 5, 6, 7, 8, 9, 10, 11, 12, 13, 14, 15, 16, 17] rfl mixed (by kernel_rfl) trivial ?_
               refine L_p (.int .i64 ((w64 (u3 + o0)))) rfl rfl (P_move rfl) ?_
               refine L_p (.bool ((decide ((w64 (u3 + o0)) < (0 : Int))))) rfl rfl (P_int rfl rfl rfl) ?_
               refine L_p (.bool ((decide ((w64 (u3 + o0)) < (0 : Int))))) rfl rfl (P_move rfl) ?_
               refine L_y (.int .i64 ((w64 (u3 + o0)))) rfl rfl rfl rfl t5 (P_move rfl) ?_
               refine L_y (.int .i64 (((((y6).Design).Rows).length : Int))) rfl rfl rfl rfl t5 (P_move pA) ?_
               refine L_y (.bool ((decide ((w64 (u3 + o0)) < ((((y6).Design).Rows).length : Int))))) rfl rfl rfl rfl t5 (P_int rfl rfl rfl) ?_
               refine L_y (.bool ((decide ((w64 (u3 + o0)) < ((((y6).Design).Rows).length : Int))))) rfl rfl rfl rfl t5 (P_move rfl) ?_
               refine L_y u0 rfl rfl rfl rfl i7 (P_move xA) ?_
               refine L_y (.int .i64 ((w64 (u3 + o0)))) rfl rfl rfl rfl i7 (P_move rfl) ?_
               refine L_y (ePtr u0 (w64 (u3 + o0)) 1) rfl rfl rfl rfl i7 (P_indexAddr (α := Str) Try.underlying38 Try.sizeOf9 rfl v6 rfl xH) ?_
               refine L_ld (c := Str.v (jB)) rfl rfl (.yes2 rfl rfl i7) (fun _ _ h => h.ch) gR rfl ?_
               refine L_y j1 rfl rfl rfl rfl i7 (P_move yA) ?_
               refine L_y (.int .i64 ((w64 (u3 + o0)))) rfl rfl rfl rfl i7 (P_move rfl) ?_
               refine L_y (ePtr j1 (w64 (u3 + o0)) 1) rfl rfl rfl rfl i7 (P_indexAddr (α := Str) Try.underlying38 Try.sizeOf9 rfl x6 rfl yH) ?_
               refine L_ld (c := Str.v (kB)) rfl rfl (.yes2 rfl rfl i7) (fun _ _ h => h.ch) iR rfl ?_
               refine L_y (.bool ((!((jB).b == (kB).b)))) rfl rfl rfl rfl i7 (P_str rfl rfl rfl) ?_
               refine L_y (.bool ((!((jB).b == (kB).b)))) rfl rfl rfl rfl t5 (P_pick (b := (decide ((w64 (u3 + o0)) < ((((y6).Design).Rows).length : Int)))) rfl (pick_t i7 rfl)) ?_
               refine L_p (.bool ((!((jB).b == (kB).b)))) rfl rfl (P_pick (b := (decide ((w64 (u3 + o0)) < (0 : Int)))) rfl (pick_f t5 rfl)) ?_
               refine L_nl fun zS tZ hs => ?_
               have hfr := hfr.ext hs
               have v6 := v6.ext hs
               have x6 := x6.ext hs
               have j7 := j7.ext hs
               have m7 := m7.ext hs
               have a7 := a7.ext hs
               clear hs
               refine EL_nil ?_
               obtain rfl := sinj h
               exact hQ _ _ ⟨zS, hfr, pA, xA, v6, yA, x6, xB, j7, m7, zA, a7, aB, bB, rfl⟩
              ·refine E_drawL (g := lD) (n := 18) [] [0, 1, 2, 3, 4, 5, 6, 7, 8, 9, 10, 11, 12, 13, 14, 15, 16, 17] rfl mixed (by kernel_rfl) trivial ?_
               refine L_p (.int .i64 ((w64 (u3 + o0)))) rfl rfl (P_move rfl) ?_
               refine L_p (.bool ((decide ((w64 (u3 + o0)) < (0 : Int))))) rfl rfl (P_int rfl rfl rfl) ?_
               refine L_p (.bool ((decide ((w64 (u3 + o0)) < (0 : Int))))) rfl rfl (P_move rfl) ?_
               refine L_y (.int .i64 ((w64 (u3 + o0)))) rfl rfl rfl rfl t5 (P_move rfl) ?_
               refine L_y (.int .i64 (((((y6).Design).Rows).length : Int))) rfl rfl rfl rfl t5 (P_move pA) ?_
               refine L_y (.bool ((decide ((w64 (u3 + o0)) < ((((y6).Design).Rows).length : Int))))) rfl rfl rfl rfl t5 (P_int rfl rfl rfl) ?_
               refine L_y (.bool ((decide ((w64 (u3 + o0)) < ((((y6).Design).Rows).length : Int))))) rfl rfl rfl rfl t5 (P_move rfl) ?_
               iterate 9 refine L_s rfl rfl rfl i7 rfl ?_
               refine L_y (.bool false) rfl rfl rfl rfl t5 (P_pick (b := (decide ((w64 (u3 + o0)) < ((((y6).Design).Rows).length : Int)))) rfl (pick_f i7 rfl)) ?_
               refine L_p (.bool false) rfl rfl (P_pick (b := (decide ((w64 (u3 + o0)) < (0 : Int)))) rfl (pick_f t5 rfl)) ?_
               refine L_nl fun eT uZ hs => ?_
               have hfr := hfr.ext hs
               have v6 := v6.ext hs
               have x6 := x6.ext hs
               have j7 := j7.ext hs
               have m7 := m7.ext hs
               have a7 := a7.ext hs
               clear hs
               refine EL_nil ?_
               obtain rfl := sinj h
               exact hQ _ _ ⟨eT, hfr, pA, xA, v6, yA, x6, xB, j7, m7, zA, a7, aB, bB, rfl⟩
            ·clear hx
             obtain ⟨lT, hfr, mO, cJ, dJ, eJ, gJ, iJ, jJ, kJ, lJ, mJ, nJ, oJ, eD⟩ := hR
             rcases csome h with ⟨rE, h⟩ | ⟨rE, h⟩
             ·refine E_cond_true (Eq.trans (show ev _ _ = .bool (n8) from eD) (congrArg Value.bool rE)) ?_
              refine E_seq (E_region (EL_at (.bool false) rfl rfl ?_))
              refine EL_nil (thn_n (E_ret (blk_r ?_)))
              refine thn_r ?_
              refine thn_r ?_
              refine blk_r ?_
              refine thn_r ?_
              refine blk_r ?_
              refine thn_r ?_
              refine thn_r ?_
              refine blk_r ?_
              refine thn_r ?_
              obtain rfl := sinj h
              exact end1 rfl rfl (show _ = .bool false from rfl) ⟨_, hfr, rfl⟩
             ·refine E_cond_false (Eq.trans (show ev _ _ = .bool (n8) from eD) (congrArg Value.bool rE)) ?_
              exact E_skip (blk_n (thn_n (eR () _ _ ⟨lT, hfr, mO, cJ, dJ, eJ, gJ, iJ, jJ, kJ, lJ, mJ, nJ, oJ⟩ h)))
           ·rintro _ xX vZ ⟨mT, hfr, nO, pJ, qJ, rJ, sJ, tJ, uJ, vJ, xJ, yJ, zJ, aK⟩ h
            refine E_region (EL_mv aK rfl ?_)
            refine EL_in (.int .i64 ((w64 (o0 + (1 : Int))))) rfl rfl rfl rfl ?_
            refine EL_at (.int .i64 ((w64 (o0 + (1 : Int))))) rfl rfl ?_
            exact EL_nil (thn_n (cR ((w64 (o0 + (1 : Int)))) _ _ ⟨mT, hfr, nO, pJ, qJ, rJ, sJ, tJ, uJ, vJ, xJ, yJ, zJ, rfl⟩ h))
         ·rintro _ yX xZ ⟨nT, hfr, rG, bK, yB, cK, zB, sE, k9, aC, tE, l9, cC⟩ h
          refine E_seq ?_
          obtain ⟨vG, zH, h⟩ := bsome h
          have oT := PT_idx l9 zH
          refine L_load (x := .tmp 213) Try.isAgg3 Try.sizeOf3 oT fun yZ pT jR => ?_
          obtain rfl := RV_int.1 pT
          obtain ⟨iD, kR, h⟩ := bsome h
          obtain ⟨jD, aI, h⟩ := bsome h
          have pL := PT_idx k9 aI
          have sT := PT_field (part_SeamCut_0).1 pL
          refine L_load (x := .tmp 220) Try.isAgg3 Try.sizeOf3 sT fun zZ tT lR => ?_
          obtain rfl := RV_int.1 tT
          refine E_drawL (g := nT) (n := 12) [] [0, 1, 2, 3, 4, 5, 6, 7, 8, 9, 10, 11] rfl mixed (by kernel_rfl) trivial ?_
          refine L_p o3 rfl rfl (P_move tE) ?_
          refine L_p (.int .i64 (d3)) rfl rfl (P_move cC) ?_
          refine L_p (ePtr o3 d3 1) rfl rfl (P_indexAddr (α := Int) Try.underlying26 Try.sizeOf3 rfl l9 rfl zH) ?_
          refine L_ld (c := .int .i64 (vG)) rfl rfl .plain (fun _ _ h => h.ch) jR rfl ?_
          refine L_p (.int .i64 (((((y6).Design).Rows).length : Int))) rfl rfl (P_move rG) ?_
          refine L_p (.int .i64 (iD)) rfl rfl (P_int rfl rfl (congrArg (Option.map (Value.int .i64)) kR)) ?_
          refine L_p z2 rfl rfl (P_move sE) ?_
          refine L_p (.int .i64 (d3)) rfl rfl (P_move cC) ?_
          refine L_p (ePtr z2 d3 2) rfl rfl (P_indexAddr (α := SeamCut) Try.underlying66 Try.sizeOf68 rfl k9 rfl aI) ?_
          refine L_p (fPtr (ePtr z2 d3 2) 0) rfl rfl (P_fieldAddr at_68_0 rfl (PT.ptr pL)) ?_
          refine L_ld (c := .int .i64 ((jD).Begin)) rfl rfl .plain (fun _ _ h => h.ch) lR rfl ?_
          refine L_p (.bool ((iD != (jD).Begin))) rfl rfl (P_int rfl rfl rfl) ?_
          refine L_nl fun uT a00 hs => ?_
          have hfr := hfr.ext hs
          have yB := yB.ext hs
          have zB := zB.ext hs
          have k9 := k9.ext hs
          have aC := aC.ext hs
          have l9 := l9.ext hs
          clear hs
          refine EL_nil (thn_n ?_)
          rcases csome h with ⟨uE, h⟩ | ⟨uE, h⟩
          ·refine E_ct uE rfl ?_
           refine E_seq (E_region (EL_at (.bool false) rfl rfl ?_))
           refine EL_nil (thn_n (E_ret (blk_r ?_)))
           refine thn_r ?_
           refine thn_r ?_
           refine blk_r ?_
           refine thn_r ?_
           obtain rfl := sinj h
           exact end1 rfl rfl (show _ = .bool false from rfl) ⟨_, hfr, rfl⟩
          ·refine E_cf uE rfl ?_
           exact E_skip (blk_n (thn_n (aR () _ _ ⟨uT, hfr, rG, bK, yB, cK, zB, sE, k9, aC, tE, l9, cC⟩ h)))
        ·rintro _ zX b00 ⟨vT, hfr, oO, dK, eK, lK, mK, nK, oK, pK, qK, sK, tK⟩ h
         refine E_region (EL_mv tK rfl ?_)
         refine EL_in (.int .i64 ((w64 (d3 + (1 : Int))))) rfl rfl rfl rfl ?_
         refine EL_at (.int .i64 ((w64 (d3 + (1 : Int))))) rfl rfl ?_
         exact EL_nil (thn_n (yQ ((w64 (d3 + (1 : Int)))) _ _ ⟨vT, hfr, oO, dK, eK, lK, mK, nK, oK, pK, qK, sK, rfl⟩ h))
      ·rintro _ aY c00 ⟨xT, hfr⟩ h
       obtain ⟨iB, hx, h⟩ := bsome h
       refine E_join (fun e w => ∃ (g : Gh) , Fr gI wI g w ∧ e 6 = .bool (iB)) (fun Q' hQ => ?_) (fun bY d00 hR => ?_)
       ·replace h := hx
        clear hx
        refine E_region ?_
        obtain ⟨dC, mR, h⟩ := bsome h
        refine EL_do .plain rfl (D_call (g := xT) (vs := []) en20 .nil (wk20  mR) fun qL cY g00 hs hr => ?_)
        have hfr := hfr.ext hs
        subst hr
        refine EL_mw (.bool (dC)) rfl rfl ?_
        rcases csome h with ⟨eB, h⟩ | ⟨eB, h⟩
        ·obtain ⟨gD, nR, h⟩ := bsome h
         refine EL_do (.yes2 rfl rfl eB) rfl (D_call (g := qL) (vs := []) en24 .nil (wk24  nR) fun yT dY h00 hs hr => ?_)
         have hfr := hfr.ext hs
         subst hr
         refine EL_p (.bool (gD)) (P_pick (b := dC) rfl (pick_t eB rfl)) rfl ?_
         refine EL_at (.bool (gD)) rfl rfl ?_
         refine EL_nil ?_
         obtain rfl := sinj h
         exact hQ _ _ ⟨yT, hfr, rfl⟩
        ·refine EL_s rfl rfl eB rfl rfl ?_
         refine EL_p (.bool false) (P_pick (b := dC) rfl (pick_f eB rfl)) rfl ?_
         refine EL_at (.bool false) rfl rfl ?_
         refine EL_nil ?_
         obtain rfl := sinj h
         exact hQ _ _ ⟨qL, hfr, rfl⟩
       ·clear hx
        obtain ⟨i00, hfr, pO⟩ := hR
        refine E_ret ?_
        obtain rfl := sinj h
        exact end1 rfl rfl (show _ = .bool (iB) from pO) ⟨_, hfr, rfl⟩
end Go.Proofs.Ytdkgoipaohacgaa
