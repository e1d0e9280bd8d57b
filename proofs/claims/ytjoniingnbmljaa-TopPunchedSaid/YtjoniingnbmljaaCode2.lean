import Derived.Test.YtjoniingnbmljaaCode1
set_option maxRecDepth 8000
set_option maxHeartbeats 4000000
namespace Go.Proofs.Ytjoniingnbmljaa
open Go.RowKit
def f191 (x0 : Int) (x1 : List ChainCard) : Option (Bool) :=
 Option.bind (α := Bool) (
  bif (decide (((x1).length : Int) > (0 : Int))) then
   (f250 x1 ((fun a0 => f249 a0 x0))).bind fun y7 =>
   some ((!y7))
  else
   some (false)
  ) fun o0 =>
 some (o0)
theorem en191 : Enters Try.prog 191 := enters_of Try.func191 (by kernel_rfl) rfl
theorem wk191 {gI : Gh} {wI : World} {x0 : Int} {x1 : List ChainCard} {up1 : Value} (rp1 : RV gI.m wI x1 up1) {r : Bool} (h : f191 x0 x1 = some r) : Fn Try.prog 191 #[.int .i64 (x0), up1] gI wI (fun _ _ v => v = .bool (r)) := by
 unfold f191 at h
 refine fn_of_E Try.func191 rfl (Nat.le_of_ble_eq_true rfl) fun g0 hm hfr => ?_
 have rp1 : RV g0.m wI x1 up1 := hm ▸ rp1
 show E _ 16 none _ _ _ _ _
 refine E_seq (E_region (EL_do .plain rfl (D_box (g := g0) rfl (RV_int.2 rfl) fun g1 w1 p1 hs q1 => ?_)))
 have hfr := hfr.ext hs
 have rp1 := rp1.ext hs
 refine EL_at (.bool false) rfl rfl ?_
 refine EL_nil (thn_n (E_seq (E_region (EL_p ((.func (.func 249) #[] #[p1])) (P_makeFunc (capf_0_1 (show ev _ _ = p1 from rfl))) rfl ?_))))
 refine EL_at ((.func (.func 249) #[] #[p1])) rfl rfl ?_
 refine EL_nil (thn_n ?_)
 obtain ⟨o0, hx, h⟩ := bsome h
 refine E_join (fun e w => ∃ (g : Gh) , Fr gI wI g w ∧ e 4 = .bool (o0)) (fun Q' hQ => ?_) (fun t5 w8 hR => ?_)
 ·replace h := hx
  clear hx
  refine E_region (EL_mw up1 rfl rfl ?_)
  refine EL_p (.int .i64 ((x1).length : Int)) (P_len Try.underlying108 rfl rp1) rfl ?_
  refine EL_in (.bool ((decide (((x1).length : Int) > (0 : Int))))) rfl rfl rfl rfl ?_
  refine EL_mw (.bool ((decide (((x1).length : Int) > (0 : Int))))) rfl rfl ?_
  rcases csome h with ⟨hc5, h⟩ | ⟨hc5, h⟩
  ·refine EL_y up1 (P_move rfl) rfl rfl hc5 rfl ?_
   refine EL_y ((.func (.func 249) #[] #[p1])) (P_move rfl) rfl rfl hc5 rfl ?_
   obtain ⟨y7, l5, h⟩ := bsome h
   refine EL_do (.yes2 rfl rfl hc5) rfl (D_call (g := g1) (vs := [up1, (.func (.func 249) #[] #[p1])]) en250 (.cons rfl (.cons rfl .nil)) (wk250 rp1 ⟨249, #[], #[p1], rfl, en249, fun g' w' hch a0 b0 r hu0 hr => by exact Fn.mono (wk249 hu0 (q1.ch hch) hr) fun _ _ _ h => RV_bool.2 h⟩ l5) fun g6 w6_ v6 hs hr => ?_)
   have hfr := hfr.ext hs
   subst hr
   refine EL_y (.bool (!y7)) (P_not rfl) rfl rfl hc5 rfl ?_
   refine EL_p (.bool (!y7)) (P_pick (b := (decide (((x1).length : Int) > (0 : Int)))) rfl (pick_t hc5 rfl)) rfl ?_
   refine EL_at (.bool (!y7)) rfl rfl ?_
   refine EL_nil ?_
   obtain rfl := sinj h
   exact hQ _ _ ⟨g6, hfr, rfl⟩
  ·refine EL_s rfl rfl hc5 rfl rfl ?_
   iterate 3 refine EL_s rfl rfl hc5 rfl rfl ?_
   refine EL_p (.bool false) (P_pick (b := (decide (((x1).length : Int) > (0 : Int)))) rfl (pick_f hc5 rfl)) rfl ?_
   refine EL_at (.bool false) rfl rfl ?_
   refine EL_nil ?_
   obtain rfl := sinj h
   exact hQ _ _ ⟨g1, hfr, rfl⟩
 ·clear hx
  obtain ⟨g8, hfr, u3⟩ := hR
  refine E_ret ?_
  obtain rfl := sinj h
  exact end1 rfl rfl (show _ = .bool (o0) from u3) ⟨_, hfr, rfl⟩
theorem W56 {iO : Nat} {gI : Gh} {wI : World} {x0 : ChainBelt} {x1 : List UInt8} {up0 : Value} (rp0 : RV gI.m wI x0 up0) {up1 : Value} (rp1 : RV gI.m wI x1 up1) {r : ChainBelt} (h : f56 x0 x1 = some r) : FnG Try.prog 56 #[up0, up1] gI wI (fun g w v => OWx ow_ChainBelt iO g w r v) := by
 unfold f56 at h
 refine fnG_of_E Try.func56 rfl (Nat.le_of_ble_eq_true rfl) fun g0 hm hfr => ?_
 have rp0 : RV g0.m wI x0 up0 := hm ▸ rp0
 have rp1 : RV g0.m wI x1 up1 := hm ▸ rp1
 show E _ 46 none _ _ _ _ _
 refine E_seq (E_region (EL_do .plain rfl (D_boxO (g := g0) 2002 rfl rp0 fun g1 w1 p1 hs b1 => ?_)))
 have hfr := hfr.stp hs
 have rp1 := rp1.stp hs
 refine EL_do .plain rfl (D_allocOc (g := g1) 2004 (⟨0, []⟩ : ChainBelt) Try.zeroValue110 (fun m w => ⟨_, (rep_two rep_int rep_nil), rfl⟩) fun g2 w2 p2 hs b2 cb => ?_)
 have hfr := hfr.stp hs
 have rp1 := rp1.stp hs
 have b1 := b1.stp hs rfl
 have k8 : OSF 2004 60401 1 g2 w2 137 110 ([] : List ChainCard) p2 := cb.osf (by rfl)
 clear cb
 refine EL_nil (thn_n (E_seq (E_region (EL_do .plain rfl (D_loadO (g := g2) Try.isAgg110 Try.sizeOf110 rfl b1 fun v3 r3 => ?_)))))
 obtain ⟨y5, hy5, h⟩ := bsome h
 refine EL_do .plain rfl (D_callG (g := g2) (vs := [v3]) en59 (.cons rfl .nil) (W59 (iO := 4010) r3 hy5) fun g4 w4 v4 hs hm4 => ?_)
 have hfr := hfr.ext hs
 have rp1 := rp1.ext hs
 have b1 := b1.ext hs
 have k8 := k8.ext hs
 have b2 := b2.ext hs
 obtain ⟨sk4, ow4, ok4⟩ := hm4
 refine EL_do .plain rfl (D_storeOW (g := g4) Try.sizeOf110 rfl b1 rfl ow4 rfl fun gj6 g6 w6 bk6 hsa hsb hpp b6 => ?_)
 have hfr := hfr.stp hsa
 have rp1 := rp1.stp hsa
 have k8 := k8.stp hsa rfl
 have b2 := b2.stp hsa rfl
 have hfr := hfr.stp hsb
 have rp1 := rp1.stp hsb
 have k8 := k8.stp hsb rfl
 have b2 := b2.stp hsb rfl
 clear hsa hsb
 subst hpp
 refine EL_nil (thn_n ?_)
 obtain ⟨dB, hx, h⟩ := bsome h
 refine E_join (fun e w => ∃ (g : Gh) , Fr gI wI g w ∧ e 2 = (Value.pointer (some ⟨bk6, 0, none⟩)) ∧ OVb ow_ChainBelt 2002 g w 110 (dB : ChainBelt) bk6 ∧ e 4 = p2 ∧ OB 2004 g w 110 ((⟨0, []⟩ : ChainBelt) : ChainBelt) p2 ∧ OSF 2004 60401 1 g w 137 110 (((⟨0, []⟩ : ChainBelt)).Cards) p2) (fun Q' hQ => ?_) (fun yE eF hR => ?_)
 ·replace h := hx
  clear hx
  refine E_seq (E_region (EL_p ((.pointer (some ⟨bk6, (0 + 1), none⟩))) (P_fieldAddrH at_110_1 rfl) rfl ?_))
  refine EL_do .plain rfl (D_loadH (g := g6) (Cxt.fld (Cxt.root ow_ChainBelt bk6) fl_ChainBelt_1 (y5) (sk4)) rfl rfl (ok4.2) Try.isAgg108 rfl b6 ?_)
  have hz156 := (OV.slice b6 (Cxt.fld (Cxt.root ow_ChainBelt bk6) fl_ChainBelt_1 (y5) (sk4)) rfl rfl (ok4.2)).1
  refine EL_p (.int .i64 (((y5).Cards).length : Int)) (P_lenH Try.underlying108 rfl hz156) rfl ?_
  refine EL_p (.int .i64 ((w64 ((((y5).Cards).length : Int) - (1 : Int))))) (P_int rfl rfl rfl) rfl ?_
  refine EL_p (.int .i64 ((w64 ((((y5).Cards).length : Int) - (1 : Int))))) (P_assign rfl) rfl ?_
  refine EL_nil (thn_n (E_block ?_))
  refine E_lp h (fun (s : ChainBelt × Int) e w => ∃ (g : Gh) , Fr gI wI g w ∧ e 1 = up1 ∧ RV g.m w (x1 : List UInt8) up1 ∧ e 2 = (Value.pointer (some ⟨bk6, 0, none⟩)) ∧ OVb ow_ChainBelt 2002 g w 110 (s.1 : ChainBelt) bk6 ∧ e 4 = p2 ∧ OB 2004 g w 110 ((⟨0, []⟩ : ChainBelt) : ChainBelt) p2 ∧ OSF 2004 60401 1 g w 137 110 (((⟨0, []⟩ : ChainBelt)).Cards) p2 ∧ e 5 = .int .i64 (s.2)) ⟨g6, hfr, rfl, rp1, rfl, ⟨_, b6, ok4⟩, rfl, b2, k8, rfl⟩ (fun X157 rF cD => ?_)
  rintro ⟨o0, l5⟩ zE sF ⟨iB, hfr, lB, mB, a9, ⟨uE, d9, m8⟩, k9, l9, u4_1_158, n9⟩ h
  refine E_joinC h (fun (s : Unit) e w => ∃ (g : Gh) , Fr gI wI g w ∧ e 1 = up1 ∧ RV g.m w (x1 : List UInt8) up1 ∧ e 2 = (Value.pointer (some ⟨bk6, 0, none⟩)) ∧ OVb ow_ChainBelt 2002 g w 110 (o0 : ChainBelt) bk6 ∧ e 4 = p2 ∧ OB 2004 g w 110 ((⟨0, []⟩ : ChainBelt) : ChainBelt) p2 ∧ OSF 2004 60401 1 g w 137 110 (((⟨0, []⟩ : ChainBelt)).Cards) p2 ∧ e 5 = .int .i64 (l5)) (fun X160 tF eD h => ?_) ?_
  ·refine E_seq (E_region (EL_mv n9 rfl ?_))
   refine EL_in (.bool ((decide (l5 > (0 : Int))))) rfl rfl rfl rfl ?_
   refine EL_nil (thn_n ?_)
   rcases csome h with ⟨n8, h⟩ | ⟨n8, h⟩
   ·refine E_ct n8 rfl ?_
    exact E_skip (thn_n (eD () _ _ ⟨iB, hfr, lB, mB, a9, ⟨_, d9, m8⟩, k9, l9, u4_1_158, n9⟩ h))
   ·refine E_cf n8 rfl ?_
    refine E_exit ?_
    refine thn_e ?_
    refine thn_e ?_
    refine blk_hit ?_
    obtain rfl := sinj h
    exact hQ _ _ ⟨iB, hfr, a9, ⟨_, d9, m8⟩, k9, l9, u4_1_158⟩
  ·rintro _ cF uF ⟨vD, hfr, u9, x5, i7, ⟨u3, t5, x6⟩, nB, i6, u4_1_162, m7⟩ h
   obtain ⟨y9, hx, h⟩ := bsome h
   refine E_join (fun e w => ∃ (g : Gh) , Fr gI wI g w ∧ e 1 = up1 ∧ RV g.m w (x1 : List UInt8) up1 ∧ e 2 = (Value.pointer (some ⟨bk6, 0, none⟩)) ∧ OVb ow_ChainBelt 2002 g w 110 (y9 : ChainBelt) bk6 ∧ e 4 = p2 ∧ OB 2004 g w 110 ((⟨0, []⟩ : ChainBelt) : ChainBelt) p2 ∧ OSF 2004 60401 1 g w 137 110 (((⟨0, []⟩ : ChainBelt)).Cards) p2 ∧ e 5 = .int .i64 (l5)) (fun Q' hQ => ?_) (fun dF vF hR => ?_)
   ·replace h := hx
    clear hx
    refine E_block ?_
    refine E_seq (E_region (EL_mv u9 rfl ?_))
    refine EL_mv m7 rfl ?_
    obtain ⟨xF, gD, h⟩ := bsome h
    refine EL_do .plain rfl (D_call (g := vD) (vs := [up1, .int .i64 (l5)]) en57 (.cons rfl (.cons rfl .nil)) (wk57 x5 gD) fun xD iD yF hs hr => ?_)
    have hfr := hfr.ext hs
    have x5 := x5.ext hs
    have t5 := t5.ext hs
    have u4_1_162 := u4_1_162.ext hs
    have i6 := i6.ext hs
    subst hr
    refine EL_mv m7 rfl ?_
    refine EL_in (.int .i64 ((w64 (l5 + (1 : Int))))) rfl rfl rfl rfl ?_
    obtain ⟨y232, jD, h⟩ := bsome h
    refine EL_p (.int .i64 (y232)) (P_int rfl rfl (congrArg (Option.map (Value.int .i64)) jD)) rfl ?_
    refine EL_at (.int .i64 (y232)) rfl rfl ?_
    refine EL_nil (thn_n (E_seq (L_loadH (x := .tmp 25) (Cxt.fld (Cxt.root ow_ChainBelt bk6) fl_ChainBelt_1 (o0) (u3)) rfl rfl (x6.2) Try.isAgg108 t5 fun lD => ?_)))
    obtain ⟨y246, y6, h⟩ := bsome h
    obtain ⟨bb247, cc247, ss247, hq247, l8⟩ := (OV.slice t5 (Cxt.fld (Cxt.root ow_ChainBelt bk6) fl_ChainBelt_1 (o0) (u3)) rfl rfl (x6.2)).2 y6
    refine L_loadV (x := .tmp 28) (Cxt.idx (Cxt.fld (Cxt.root ow_ChainBelt bk6) fl_ChainBelt_1 (o0) (u3)) ((o0).Cards) (Int.toNat l5) bb247 cc247 ss247 (idx_nat y6).2 l8) ((congrArg (fun q => ({ o0 with Cards := q } : ChainBelt)) (set_idx y6)).trans rfl) (((congrArg (fun q => ((Prod.fst u3), (Sl.at bb247 cc247 q))) set_unit).trans (congrArg (fun q => ((Prod.fst u3), q)) (hq247).symm)).trans rfl) Try.isAgg137 Try.sizeOf137 t5 fun yD zD nD => ?_
    refine L_loadH (x := .tmp 30) (Cxt.fld (Cxt.root ow_ChainBelt bk6) fl_ChainBelt_1 (o0) (u3)) rfl rfl (x6.2) Try.isAgg108 t5 fun oD => ?_
    obtain ⟨g8, r8, h⟩ := bsome h
    refine L_loadV (x := .tmp 33) (Cxt.idx (Cxt.fld (Cxt.root ow_ChainBelt bk6) fl_ChainBelt_1 (o0) (u3)) ((o0).Cards) (Int.toNat y232) bb247 cc247 ss247 (idx_nat r8).2 l8) ((congrArg (fun q => ({ o0 with Cards := q } : ChainBelt)) (set_idx r8)).trans rfl) (((congrArg (fun q => ((Prod.fst u3), (Sl.at bb247 cc247 q))) set_unit).trans (congrArg (fun q => ((Prod.fst u3), q)) (hq247).symm)).trans rfl) Try.isAgg137 Try.sizeOf137 t5 fun oB bA sD => ?_
    refine E_drawV (g := xD) (w := iD) (i := 2007) (t2 := 137) (a0 := (⟨0, 0, false⟩ : ChainCard)) (a1 := (y246 : ChainCard)) (n := 13) [(10, (fun _ v => varA 2007 137 (⟨0, 0, false⟩ : ChainCard) (y246 : ChainCard) v)), (11, (fun _ v g w => OB 2008 g w 137 (⟨0, 0, false⟩ : ChainCard) v)), (12, (fun e _ g w => OB 2007 g w 137 (y246 : ChainCard) (ev e (.tmp 7))))] [0, 1, 2, 3, 4, 5, 6, 7, 8, 9, 10, 11, 12] rfl mixed (by kernel_rfl) (⟨fun _ _ => up_var0, fun _ _ => upV_ob, fun _ _ => up_var1, trivial⟩) (⟨fun _ _ _ _ _ _ => rfl, fun _ _ _ _ _ _ => rfl, wok_store (A := fun p g w => OB 2007 g w 137 (y246 : ChainCard) p) rfl, trivial⟩) ?_
    refine L_p ((.pointer (some ⟨bk6, (0 + 1), none⟩))) rfl rfl (P_fieldAddrH at_110_1 i7) ?_
    refine L_ld (c := (hdrV (Prod.snd u3) ((o0).Cards).length)) rfl rfl .plain (fun _ _ h => ⟨h.ch, fun b hb ho => h.block b hb (by rw [ho]; decide)⟩) lD rfl ?_
    refine L_p (.int .i64 (l5)) rfl rfl (P_move m7) ?_
    refine L_p ((.pointer (some ⟨bb247, ((Int.toNat l5) * 3), none⟩))) rfl rfl (P_indexH Try.underlying108 Try.sizeOf137 (rfl.trans (hdr_at hq247 _)) rfl (idx_nat y6)) ?_
    refine L_ld (c := yD) rfl rfl .plain (fun _ _ h => ⟨h.ch, fun b hb ho => h.block b hb (by rw [ho]; decide)⟩) nD rfl ?_
    refine L_p ((.pointer (some ⟨bk6, (0 + 1), none⟩))) rfl rfl (P_fieldAddrH at_110_1 i7) ?_
    refine L_ld (c := (hdrV (Prod.snd u3) ((o0).Cards).length)) rfl rfl .plain (fun _ _ h => ⟨h.ch, fun b hb ho => h.block b hb (by rw [ho]; decide)⟩) oD rfl ?_
    refine L_p (.int .i64 (y232)) rfl rfl (P_move rfl) ?_
    refine L_p ((.pointer (some ⟨bb247, ((Int.toNat y232) * 3), none⟩))) rfl rfl (P_indexH Try.underlying108 Try.sizeOf137 (rfl.trans (hdr_at hq247 _)) rfl (idx_nat r8)) ?_
    refine L_ld (c := oB) rfl rfl .plain (fun _ _ h => ⟨h.ch, fun b hb ho => h.block b hb (by rw [ho]; decide)⟩) sD rfl ?_
    refine L_do (φ := fun v => varA 2007 137 (⟨0, 0, false⟩ : ChainCard) (y246 : ChainCard) v) rfl rfl .plain (fun g w hd => D_allocX (g := g) 2007 (⟨0, 0, false⟩ : ChainCard) Try.zeroValue137 (fun m w => ⟨_, (rep_two rep_int (rep_two rep_int rep_bool)), rfl⟩) fun g' w' v hs b => ⟨g', var_ext hs, .inl b⟩) (fun iA hv => ?_)
    clear hv
    refine L_do (φ := fun v g w => OB 2008 g w 137 (⟨0, 0, false⟩ : ChainCard) v) rfl rfl .plain (fun g w hd => D_allocX (g := g) 2008 (⟨0, 0, false⟩ : ChainCard) Try.zeroValue137 (fun m w => ⟨_, (rep_two rep_int (rep_two rep_int rep_bool)), rfl⟩) fun g' w' v hs b => ⟨g', var_ext hs, b⟩) (fun aE hv => ?_)
    clear hv
    refine L_do (φ := fun _ g w => OB 2007 g w 137 (y246 : ChainCard) iA) rfl rfl .plain (fun g w hd => D_storeV (g := g) Try.sizeOf137 rfl (word (A := varA 2007 137 (⟨0, 0, false⟩ : ChainCard) (y246 : ChainCard) iA) 10 rfl rfl (deps_of hd)) rfl (zD.stp hd.1)) (fun zF hv => ?_)
    clear hv
    refine L_nil fun bE aG hall => ?_
    have hs := hall.1
    have hfr := hfr.stp hs
    have x5 := x5.stp hs
    have t5 := t5.stp hs rfl
    have u4_1_162 := u4_1_162.stp hs rfl
    have i6 := i6.stp hs rfl
    have bA := bA.stp hs
    have b281 := (word_all (A := fun g w => OB 2007 g w 137 (y246 : ChainCard) iA) 12 rfl hall)
    have b282 := (word_all (A := fun g w => OB 2008 g w 137 (⟨0, 0, false⟩ : ChainCard) aE) 11 rfl hall)
    clear hs hall
    refine EL_do .plain rfl (D_storeOc (g := bE) (v := oB) Try.sizeOf137 rfl b282 rfl bA fun rA bG hs b283 cb => ?_)
    clear cb
    have hfr := hfr.stp hs
    have x5 := x5.stp hs
    have t5 := t5.stp hs rfl
    have u4_1_162 := u4_1_162.stp hs rfl
    have i6 := i6.stp hs rfl
    have b281 := b281.stp hs rfl
    refine EL_nil (thn_n (E_seq (E_region (EL_p ((.pointer (some ⟨bk6, (0 + 1), none⟩))) (P_fieldAddrH at_110_1 i7) rfl ?_))))
    refine EL_do .plain rfl (D_loadH (g := rA) (Cxt.fld (Cxt.root ow_ChainBelt bk6) fl_ChainBelt_1 (o0) (u3)) rfl rfl (x6.2) Try.isAgg108 rfl t5 ?_)
    refine EL_mv m7 rfl ?_
    refine EL_do .plain rfl (D_loadO (g := rA) Try.isAgg137 Try.sizeOf137 rfl b283 fun cG iE => ?_)
    refine EL_p ((.pointer (some ⟨bb247, ((Int.toNat l5) * 3), none⟩))) (P_indexH Try.underlying108 Try.sizeOf137 (rfl.trans (hdr_at hq247 _)) rfl (idx_nat y6)) rfl ?_
    refine EL_do .plain rfl (D_storeOV (g := rA) (u' := (g8 : ChainCard)) (Cxt.idx (Cxt.fld (Cxt.root ow_ChainBelt bk6) fl_ChainBelt_1 (o0) (u3)) ((o0).Cards) (Int.toNat l5) bb247 cc247 ss247 (idx_nat y6).2 l8) ((congrArg (fun q => ({ o0 with Cards := q } : ChainBelt)) (set_idx y6)).trans rfl) (((congrArg (fun q => ((Prod.fst u3), (Sl.at bb247 cc247 q))) set_unit).trans (congrArg (fun q => ((Prod.fst u3), q)) (hq247).symm)).trans rfl) Try.sizeOf137 rfl t5 rfl iE fun v8 lE hs b289 => ?_)
    have hfr := hfr.stp hs
    have x5 := x5.stp hs
    have u4_1_162 := u4_1_162.stp hs rfl
    have i6 := i6.stp hs rfl
    have b281 := b281.stp hs rfl
    replace b289 : OV ow_ChainBelt 2002 v8 lE 110 (({ o0 with Cards := (List.set ((o0).Cards) (Int.toNat l5) g8) } : ChainBelt) : ChainBelt) bk6 u3 := b289
    refine EL_nil (thn_n (E_region (EL_p ((.pointer (some ⟨bk6, (0 + 1), none⟩))) (P_fieldAddrH at_110_1 i7) rfl ?_)))
    refine EL_do .plain rfl (D_loadH (g := v8) (Cxt.fld (Cxt.root ow_ChainBelt bk6) fl_ChainBelt_1 (({ o0 with Cards := (List.set ((o0).Cards) (Int.toNat l5) g8) } : ChainBelt)) (u3)) rfl rfl (x6.2) Try.isAgg108 rfl b289 ?_)
    refine EL_mw (.int .i64 (y232)) rfl rfl ?_
    refine EL_do .plain rfl (D_loadO (g := v8) Try.isAgg137 Try.sizeOf137 rfl b281 fun eG mE => ?_)
    obtain ⟨gG, x8, h⟩ := bsome h
    refine EL_p ((.pointer (some ⟨bb247, ((Int.toNat y232) * 3), none⟩))) (P_indexH Try.underlying108 Try.sizeOf137 (rfl.trans (hdr_at hq247 _)) rfl (idx_nat x8)) rfl ?_
    refine EL_do .plain rfl (D_storeOV (g := v8) (u' := (y246 : ChainCard)) (Cxt.idx (Cxt.fld (Cxt.root ow_ChainBelt bk6) fl_ChainBelt_1 (({ o0 with Cards := (List.set ((o0).Cards) (Int.toNat l5) g8) } : ChainBelt)) (u3)) ((({ o0 with Cards := (List.set ((o0).Cards) (Int.toNat l5) g8) } : ChainBelt)).Cards) (Int.toNat y232) bb247 cc247 ss247 (idx_nat x8).2 (by simpa using l8)) ((congrArg (fun q => ({ (({ o0 with Cards := (List.set ((o0).Cards) (Int.toNat l5) g8) } : ChainBelt)) with Cards := q } : ChainBelt)) (set_idx x8)).trans rfl) (((congrArg (fun q => ((Prod.fst u3), (Sl.at bb247 cc247 q))) set_unit).trans (congrArg (fun q => ((Prod.fst u3), q)) (hq247).symm)).trans rfl) Try.sizeOf137 rfl b289 rfl mE fun tB oE hs b296 => ?_)
    have hfr := hfr.stp hs
    have x5 := x5.stp hs
    have u4_1_162 := u4_1_162.stp hs rfl
    have i6 := i6.stp hs rfl
    replace b296 : OV ow_ChainBelt 2002 tB oE 110 (({ (({ o0 with Cards := (List.set ((o0).Cards) (Int.toNat l5) g8) } : ChainBelt)) with Cards := (List.set ((({ o0 with Cards := (List.set ((o0).Cards) (Int.toNat l5) g8) } : ChainBelt)).Cards) (Int.toNat y232) y246) } : ChainBelt) : ChainBelt) bk6 u3 := b296
    refine EL_nil (blk_n ?_)
    obtain rfl := sinj h
    exact hQ _ _ ⟨tB, hfr, u9, x5, i7, ⟨_, b296, x6⟩, nB, i6, u4_1_162, m7⟩
   ·clear hx
    obtain ⟨rE, hfr, vB, yB, zB, ⟨vE, cC, yA⟩, mC, qC, u4_1_297, rC⟩ := hR
    refine E_region (EL_mv rC rfl ?_)
    refine EL_in (.int .i64 ((w64 (l5 - (1 : Int))))) rfl rfl rfl rfl ?_
    refine EL_at (.int .i64 ((w64 (l5 - (1 : Int))))) rfl rfl ?_
    exact EL_nil (thn_n (cD (y9, (w64 (l5 - (1 : Int)))) _ _ ⟨rE, hfr, vB, yB, zB, ⟨_, cC, yA⟩, mC, qC, u4_1_297, rfl⟩ h))
 ·clear hx
  obtain ⟨uC, hfr, vC, ⟨xE, aD, aB⟩, z9, bD, u4_1_298⟩ := hR
  refine E_seq (E_region (EL_do .plain rfl (D_loadW (g := uC) Try.isAgg110 Try.sizeOf110 vC aD rfl fun hG tD => ?_)))
  refine EL_do .plain rfl (D_storeOW (g := uC) Try.sizeOf110 z9 bD rfl tD rfl fun gj301 iG jG bk301 hsa hsb hpp b301 => ?_)
  have hfr := hfr.stp hsa
  have hfr := hfr.stp hsb
  clear hsa hsb
  subst hpp
  refine EL_nil (thn_n (E_ret ?_))
  obtain rfl := sinj h
  obtain ⟨kG, uD, ow302⟩ := OV.read (t := 110) Try.isAgg110 Try.sizeOf110 b301 rfl
  obtain ⟨gh, hxh, _, homh⟩ := OW.hand (i := iO) hfr ow302 aB
  exact endm_c rfl rfl (show _ = (Value.pointer (some ⟨bk301, 0, none⟩)) from z9) uD ⟨gh, hxh, homh⟩
def f108 (x0 : Int) (x1 : List TieGroup) : Option (TieHarness × Int × Int) :=
 jn (σ := TieHarness) (fun yD =>
  jn (σ := TieHarness × (List Int)) (fun (eF, y9) =>
   some ((⟨x0, y9⟩ : TieHarness), (0 : Int), (0 : Int))
   ) fun rF =>
  lp (σ := TieHarness × (List Int) × Int) (fun sF (m7, g8, u3) =>
   bif (decide (u3 < ((x1).length : Int))) then
    jn (σ := TieHarness × (List Int)) (fun (aB, dB) =>
     sF (aB, dB, (w64 (u3 + (1 : Int))))
     ) fun tF =>
    (idx x1 u3).bind fun l5 =>
    jn (σ := TieHarness) (fun z9 =>
     (f190 ((⟨l5⟩ : TieTieGroup))).bind fun rA =>
     (f91 rA ((l5).Times)).bind fun iB =>
     (apnd 8 g8 iB).bind fun yA =>
     bif (decide (((yA).length : Int) > (96 : Int))) then
      some (z9, u3, (8 : Int))
     else
      tF (z9, yA)
     ) fun uF =>
    Option.bind (α := Bool) (
     (f184 ((0 : Int)) ((w64 (x0 - (1 : Int)))) (([(l5).First, (l5).Last] : List Int))).bind fun u9 =>
     bif (!u9) then
      some (true)
     else
      bif ((l5).Way != (1 : Int)) then
       bif ((l5).Way != (2 : Int)) then
        some (true)
       else
        (f184 ((1 : Int)) ((8 : Int)) (([(l5).Times] : List Int))).bind fun mC =>
        some ((!mC))
      else
       (f184 ((1 : Int)) ((8 : Int)) (([(l5).Times] : List Int))).bind fun qC =>
       some ((!qC))
     ) fun r8 =>
    bif r8 then
     some (m7, u3, (2 : Int))
    else
     uF (m7)
   else
    rF (m7, g8)
   ) big (yD, [], (0 : Int))
  ) fun qI =>
 (f184 ((1 : Int)) ((24 : Int)) (([x0] : List Int))).bind fun zD =>
 bif (!zD) then
  some ((⟨0, []⟩ : TieHarness), (0 : Int), (2 : Int))
 else
  bif (decide (((x1).length : Int) > (8 : Int))) then
   some ((⟨0, []⟩ : TieHarness), (0 : Int), (5 : Int))
  else
   bif (((x1).length : Int) == (0 : Int)) then
    some ((⟨0, []⟩ : TieHarness), (0 : Int), (7 : Int))
   else
    qI ((⟨0, []⟩ : TieHarness))
theorem en108 : Enters Try.prog 108 := enters_of Try.func108 (by kernel_rfl) rfl
theorem wk108 {gI : Gh} {wI : World} {x0 : Int} {x1 : List TieGroup} {up1 : Value} (rp1 : RV gI.m wI x1 up1) {r : TieHarness × Int × Int} (h : f108 x0 x1 = some r) : Fn Try.prog 108 #[.int .i64 (x0), up1] gI wI (fun m w v => ∃ y0 y1 y2, v = .tuple #[y0, y1, y2] ∧ RV m w (r.1) y0 ∧ y1 = .int .i64 (r.2.1) ∧ y2 = .int .i64 (r.2.2)) := by
 unfold f108 at h
 refine fn_of_E Try.func108 rfl (Nat.le_of_ble_eq_true rfl) fun g0 hm hfr => ?_
 have rp1 : RV g0.m wI x1 up1 := hm ▸ rp1
 show E _ 78 none _ _ _ _ _
 refine E_seq (E_region (EL_do .plain rfl (D_allocOc (g := g0) 2004 (⟨0, []⟩ : TieHarness) Try.zeroValue28 (fun m w => ⟨_, (rep_two rep_int rep_nil), rfl⟩) fun g1 w1 p1 hs b1 cb => ?_)))
 have hfr := hfr.stp hs
 have rp1 := rp1.stp hs
 have lB : OSF 2004 60401 1 g1 w1 3 28 ([] : List Int) p1 := cb.osf (by rfl)
 clear cb
 refine EL_at (.int .i64 (0)) rfl rfl ?_
 refine EL_at (.int .i64 (0)) rfl rfl ?_
 refine EL_nil (thn_n (E_joinC h (fun (s : TieHarness) e w => ∃ (g : Gh) , Fr gI wI g w ∧ e 0 = .int .i64 (x0) ∧ e 1 = up1 ∧ RV g.m w (x1 : List TieGroup) up1 ∧ e 4 = p1 ∧ OB 2004 g w 28 (s : TieHarness) p1 ∧ OSF 2004 60401 1 g w 3 28 ((s).Warps) p1) (fun X17 qI sI h => ?_) ?_))
 ·refine E_block ?_
  refine E_seq (E_region (EL_mw (.int .i64 (x0)) rfl rfl ?_))
  refine EL_do .plain rfl (D_buildSlice (g := g1) 3012 (xs := ([x0] : List Int)) (vs := [.int .i64 (x0)]) Try.underlying26 Try.sizeOf3 Try.zeroValue3 rfl rfl (.cons rfl .nil) (RVs.cons (RV_int.2 rfl) RVs.nil) rfl rfl fun xK jN yK hs o18 zK hxt hfl => ?_)
  have hfr := hfr.stp hs
  have rp1 := rp1.stp hs
  have lB := lB.stp hs rfl
  have b1 := b1.stp hs rfl
  obtain ⟨zD, hy20, h⟩ := bsome h
  refine EL_do .plain rfl (D_call (g := xK) (vs := [.int .i64 (1), .int .i64 (24), yK]) en184 (.cons rfl (.cons rfl (.cons rfl .nil))) (wk184 zK hy20) fun mB vL kN hs hr => ?_)
  have hfr := hfr.ext hs
  have rp1 := rp1.ext hs
  have lB := lB.ext hs
  have b1 := b1.ext hs
  subst hr
  refine EL_p (.bool (!zD)) (P_not rfl) rfl ?_
  refine EL_at (.bool (!zD)) rfl rfl ?_
  refine EL_nil (thn_n ?_)
  rcases csome h with ⟨gD, h⟩ | ⟨gD, h⟩
  ·refine E_ct gD rfl ?_
   refine E_seq (E_region (EL_do .plain rfl (D_loadO (g := mB) Try.isAgg28 Try.sizeOf28 rfl b1 fun aL bL => ?_)))
   refine EL_do .plain rfl (D_storeOc (g := mB) (v := aL) Try.sizeOf28 rfl b1 rfl bL fun lN mN hs b23 cb => ?_)
   clear cb
   have hfr := hfr.stp hs
   refine EL_at (.int .i64 (0)) rfl rfl ?_
   refine EL_at (.int .i64 (2)) rfl rfl ?_
   refine EL_nil (thn_n (E_ret (blk_r ?_)))
   refine thn_r ?_
   obtain rfl := sinj h
   obtain ⟨ad24, cv24, hp24, tI, cr24⟩ := ob_read Try.isAgg28 Try.sizeOf28 b23
   exact endm_ctt rfl rfl ((show _ = p1 from rfl).trans hp24) tI (show _ = .int .i64 (0) from rfl) (show _ = .int .i64 (2) from rfl) ⟨_, hfr, _, _, _, rfl, cr24, rfl, rfl⟩
  ·refine E_cf gD rfl ?_
   refine E_seq (E_region (EL_mw up1 rfl rfl ?_))
   refine EL_p (.int .i64 ((x1).length : Int)) (P_len Try.underlying230 rfl rp1) rfl ?_
   refine EL_in (.bool ((decide (((x1).length : Int) > (8 : Int))))) rfl rfl rfl rfl ?_
   refine EL_at (.bool ((decide (((x1).length : Int) > (8 : Int))))) rfl rfl ?_
   refine EL_nil (thn_n ?_)
   rcases csome h with ⟨iD, h⟩ | ⟨iD, h⟩
   ·refine E_ct iD rfl ?_
    refine E_seq (E_region (EL_do .plain rfl (D_loadO (g := mB) Try.isAgg28 Try.sizeOf28 rfl b1 fun dL eL => ?_)))
    refine EL_do .plain rfl (D_storeOc (g := mB) (v := dL) Try.sizeOf28 rfl b1 rfl eL fun nN oN hs b27 cb => ?_)
    clear cb
    have hfr := hfr.stp hs
    refine EL_at (.int .i64 (0)) rfl rfl ?_
    refine EL_at (.int .i64 (5)) rfl rfl ?_
    refine EL_nil (thn_n (E_ret (blk_r ?_)))
    refine thn_r ?_
    obtain rfl := sinj h
    obtain ⟨ad28, cv28, hp28, uI, cr28⟩ := ob_read Try.isAgg28 Try.sizeOf28 b27
    exact endm_ctt rfl rfl ((show _ = p1 from rfl).trans hp28) uI (show _ = .int .i64 (0) from rfl) (show _ = .int .i64 (5) from rfl) ⟨_, hfr, _, _, _, rfl, cr28, rfl, rfl⟩
   ·refine E_cf iD rfl ?_
    refine E_seq (E_region (EL_mw up1 rfl rfl ?_))
    refine EL_p (.int .i64 ((x1).length : Int)) (P_len Try.underlying230 rfl rp1) rfl ?_
    refine EL_in (.bool ((((x1).length : Int) == (0 : Int)))) rfl rfl rfl rfl ?_
    refine EL_at (.bool ((((x1).length : Int) == (0 : Int)))) rfl rfl ?_
    refine EL_nil (thn_n ?_)
    rcases csome h with ⟨jD, h⟩ | ⟨jD, h⟩
    ·refine E_ct jD rfl ?_
     refine E_seq (E_region (EL_do .plain rfl (D_loadO (g := mB) Try.isAgg28 Try.sizeOf28 rfl b1 fun gL iL => ?_)))
     refine EL_do .plain rfl (D_storeOc (g := mB) (v := gL) Try.sizeOf28 rfl b1 rfl iL fun pN qN hs b31 cb => ?_)
     clear cb
     have hfr := hfr.stp hs
     refine EL_at (.int .i64 (0)) rfl rfl ?_
     refine EL_at (.int .i64 (7)) rfl rfl ?_
     refine EL_nil (thn_n (E_ret (blk_r ?_)))
     refine thn_r ?_
     obtain rfl := sinj h
     obtain ⟨ad32, cv32, hp32, vI, cr32⟩ := ob_read Try.isAgg28 Try.sizeOf28 b31
     exact endm_ctt rfl rfl ((show _ = p1 from rfl).trans hp32) vI (show _ = .int .i64 (0) from rfl) (show _ = .int .i64 (7) from rfl) ⟨_, hfr, _, _, _, rfl, cr32, rfl, rfl⟩
    ·refine E_cf jD rfl ?_
     exact E_skip (blk_n (thn_n (sI ((⟨0, []⟩ : TieHarness)) _ _ ⟨mB, hfr, rfl, rfl, rp1, rfl, b1, lB⟩ h)))
 ·rintro yD xL rN ⟨jL, hfr, nH, oH, aE, pH, qH, u4_1_33⟩ h
  refine E_seq (E_region (EL_at (.slice none 0 0) rfl rfl ?_))
  refine EL_nil (thn_n (E_joinC h (fun (s : TieHarness × (List Int)) e w => ∃ (g : Gh) (v7 : Value), Fr gI wI g w ∧ e 0 = .int .i64 (x0) ∧ e 4 = p1 ∧ OB 2004 g w 28 (s.1 : TieHarness) p1 ∧ OSF 2004 60401 1 g w 3 28 ((s.1).Warps) p1 ∧ e 7 = v7 ∧ RV g.m w (s.2 : List Int) v7 ∧ OS 1007 g w 3 (s.2 : List Int) v7) (fun X326 rF sH h => ?_) ?_))
  ·refine E_seq (E_region (EL_mv oH rfl ?_))
   refine EL_p (.int .i64 ((x1).length : Int)) (P_len Try.underlying230 rfl aE) rfl ?_
   refine EL_mw (.int .i64 (0)) rfl rfl ?_
   refine EL_nil (thn_n (E_block ?_))
   refine E_lp h (fun (s : TieHarness × (List Int) × Int) e w => ∃ (g : Gh) (v7 : Value), Fr gI wI g w ∧ e 0 = .int .i64 (x0) ∧ e 4 = p1 ∧ OB 2004 g w 28 (s.1 : TieHarness) p1 ∧ OSF 2004 60401 1 g w 3 28 ((s.1).Warps) p1 ∧ e 7 = v7 ∧ RV g.m w (s.2.1 : List Int) v7 ∧ OS 1007 g w 3 (s.2.1 : List Int) v7 ∧ e 26 = up1 ∧ RV g.m w (x1 : List TieGroup) up1 ∧ e 27 = .int .i64 (((x1).length : Int)) ∧ e 28 = .int .i64 (s.2.2)) ⟨jL, (.slice none 0 0), hfr, nH, pH, qH, u4_1_33, rfl, RV_nil, OS.nil, rfl, aE, rfl, rfl⟩ (fun X327 sF tH => ?_)
   rintro ⟨m7, g8, u3⟩ mL yL ⟨lD, k8, hfr, v8, k9, t5, u4_1_328, l9, x5, i6, x8, o0, a9, y6⟩ h
   refine E_seq (E_region (EL_in (.bool ((decide (u3 < ((x1).length : Int))))) y6 a9 rfl rfl ?_))
   refine EL_nil (thn_n (E_seq ?_))
   rcases csome h with ⟨rC, h⟩ | ⟨rC, h⟩
   ·refine E_ct rC rfl ?_
    refine E_skip (thn_n (E_joinC h (fun (s : TieHarness × (List Int)) e w => ∃ (g : Gh) (v7 : Value), Fr gI wI g w ∧ e 0 = .int .i64 (x0) ∧ e 4 = p1 ∧ OB 2004 g w 28 (s.1 : TieHarness) p1 ∧ OSF 2004 60401 1 g w 3 28 ((s.1).Warps) p1 ∧ e 7 = v7 ∧ RV g.m w (s.2 : List Int) v7 ∧ OS 1007 g w 3 (s.2 : List Int) v7 ∧ e 26 = up1 ∧ RV g.m w (x1 : List TieGroup) up1 ∧ e 27 = .int .i64 (((x1).length : Int)) ∧ e 28 = .int .i64 (u3)) (fun X473 tF uH h => ?_) ?_))
    ·refine E_block ?_
     refine E_seq (E_region (EL_mv y6 rfl ?_))
     obtain ⟨l5, bE, h⟩ := bsome h
     refine EL_p (ePtr up1 u3 4) (P_indexAddr (α := TieGroup) Try.underlying230 Try.sizeOf229 x8 o0 y6 bE) rfl ?_
     have yI := PT_idx o0 bE
     refine EL_do .plain rfl (D_load (g := lD) Try.isAgg229 Try.sizeOf229 rfl yI fun zI nD => ?_)
     refine EL_do .plain rfl (D_allocOc (g := lD) 2009 (⟨0, 0, 0, 0⟩ : TieGroup) Try.zeroValue229 (fun m w => ⟨_, (rep_two rep_int (rep_two rep_int (rep_two rep_int rep_int))), rfl⟩) fun eJ zL m8 hs b477 cb => ?_)
     have hfr := hfr.stp hs
     have u4_1_328 := u4_1_328.stp hs rfl
     have t5 := t5.stp hs rfl
     have x5 := x5.stp hs
     have i6 := i6.stp hs rfl
     have o0 := o0.stp hs
     have nD := nD.stp hs
     clear cb
     refine EL_at (.int .i64 (u3)) rfl rfl ?_
     refine EL_do .plain rfl (D_storeOc (g := eJ) (v := zI) Try.sizeOf229 rfl b477 rfl nD fun oD aM hs b478 cb => ?_)
     clear cb
     have hfr := hfr.stp hs
     have u4_1_328 := u4_1_328.stp hs rfl
     have t5 := t5.stp hs rfl
     have x5 := x5.stp hs
     have i6 := i6.stp hs rfl
     have o0 := o0.stp hs
     refine EL_nil (thn_n (E_joinC h (fun (s : TieHarness) e w => ∃ (g : Gh) , Fr gI wI g w ∧ e 0 = .int .i64 (x0) ∧ e 4 = p1 ∧ OB 2004 g w 28 (s : TieHarness) p1 ∧ OSF 2004 60401 1 g w 3 28 ((s).Warps) p1 ∧ e 7 = k8 ∧ RV g.m w (g8 : List Int) k8 ∧ OS 1007 g w 3 (g8 : List Int) k8 ∧ e 8 = .int .i64 (u3) ∧ e 9 = m8 ∧ OB 2009 g w 229 (l5 : TieGroup) m8 ∧ e 26 = up1 ∧ RV g.m w (x1 : List TieGroup) up1 ∧ e 27 = .int .i64 (((x1).length : Int)) ∧ e 28 = .int .i64 (u3)) (fun X532 uF xH h => ?_) ?_))
     ·obtain ⟨r8, hx, h⟩ := bsome h
      refine E_join (fun e w => ∃ (g : Gh) , Fr gI wI g w ∧ e 0 = .int .i64 (x0) ∧ e 4 = p1 ∧ OB 2004 g w 28 (m7 : TieHarness) p1 ∧ OSF 2004 60401 1 g w 3 28 ((m7).Warps) p1 ∧ e 7 = k8 ∧ RV g.m w (g8 : List Int) k8 ∧ OS 1007 g w 3 (g8 : List Int) k8 ∧ e 8 = .int .i64 (u3) ∧ e 9 = m8 ∧ OB 2009 g w 229 (l5 : TieGroup) m8 ∧ e 26 = up1 ∧ RV g.m w (x1 : List TieGroup) up1 ∧ e 27 = .int .i64 (((x1).length : Int)) ∧ e 28 = .int .i64 (u3) ∧ e 58 = .bool (r8)) (fun Q' hQ => ?_) (fun nL bM hR => ?_)
      ·replace h := hx
       clear hx
       refine E_region (EL_mv v8 rfl ?_)
       refine EL_in (.int .i64 ((w64 (x0 - (1 : Int))))) rfl rfl rfl rfl ?_
       refine EL_p (fPtr m8 0) (P_fieldAddr at_229_0 rfl (OB.ptr b478)) rfl ?_
       refine EL_do .plain rfl (D_loadF (g := oD) part_TieGroup_0.1 Try.isAgg3 Try.sizeOf3 rfl b478 fun cM gJ => ?_)
       obtain rfl := RV_int.1 gJ
       refine EL_p (fPtr m8 1) (P_fieldAddr at_229_1 rfl (OB.ptr b478)) rfl ?_
       refine EL_do .plain rfl (D_loadF (g := oD) part_TieGroup_1.1 Try.isAgg3 Try.sizeOf3 rfl b478 fun dM iJ => ?_)
       obtain rfl := RV_int.1 iJ
       refine EL_do .plain rfl (D_buildSlice (g := oD) 3039 (xs := ([(l5).First, (l5).Last] : List Int)) (vs := [.int .i64 ((l5).First), .int .i64 ((l5).Last)]) Try.underlying26 Try.sizeOf3 Try.zeroValue3 rfl rfl (.cons rfl (.cons rfl .nil)) (RVs.cons (RV_int.2 rfl) (RVs.cons (RV_int.2 rfl) RVs.nil)) rfl rfl fun jJ eM kJ hs o561 lJ hxt hfl => ?_)
       have hfr := hfr.stp hs
       have u4_1_328 := u4_1_328.stp hs rfl
       have t5 := t5.stp hs rfl
       have x5 := x5.stp hs
       have i6 := i6.stp hs rfl
       have o0 := o0.stp hs
       have b478 := b478.stp hs rfl
       obtain ⟨u9, yH, h⟩ := bsome h
       refine EL_do .plain rfl (D_call (g := jJ) (vs := [.int .i64 (0), .int .i64 ((w64 (x0 - (1 : Int)))), kJ]) en184 (.cons rfl (.cons rfl (.cons rfl .nil))) (wk184 lJ yH) fun n9 oL iM hs hr => ?_)
       have hfr := hfr.ext hs
       have u4_1_328 := u4_1_328.ext hs
       have t5 := t5.ext hs
       have x5 := x5.ext hs
       have i6 := i6.ext hs
       have o0 := o0.ext hs
       have b478 := b478.ext hs
       subst hr
       refine EL_p (.bool (!u9)) (P_not rfl) rfl ?_
       refine EL_mw (.bool (!u9)) rfl rfl ?_
       rcases csome h with ⟨x6, h⟩ | ⟨x6, h⟩
       ·refine EL_s rfl rfl x6 rfl rfl ?_
        iterate 3 refine EL_s rfl rfl x6 rfl rfl ?_
        refine EL_dead 3 rfl ?_
        refine EL_s rfl rfl x6 rfl rfl ?_
        refine EL_p (.bool true) (P_pick (b := (!u9)) rfl (pick_t x6 rfl)) rfl ?_
        refine EL_dead 7 rfl ?_
        refine EL_nil ?_
        obtain rfl := sinj h
        exact hQ _ _ ⟨n9, hfr, v8, k9, t5, u4_1_328, l9, x5, i6, rfl, rfl, b478, x8, o0, a9, y6, rfl⟩
       ·refine EL_y (fPtr m8 2) (P_fieldAddr at_229_2 rfl (OB.ptr b478)) rfl rfl x6 rfl ?_
        refine EL_do (.yes2 rfl rfl x6) rfl (D_loadF (g := n9) part_TieGroup_2.1 Try.isAgg227 Try.sizeOf227 rfl b478 fun jM mJ => ?_)
        obtain rfl := RV_int.1 mJ
        refine EL_y (.bool (((l5).Way != (1 : Int)))) (P_int rfl rfl rfl) rfl rfl x6 rfl ?_
        refine EL_y (.bool (((l5).Way != (1 : Int)))) (P_move rfl) rfl rfl x6 rfl ?_
        rcases csome h with ⟨l8, h⟩ | ⟨l8, h⟩
        ·refine EL_y (fPtr m8 2) (P_fieldAddr at_229_2 rfl (OB.ptr b478)) rfl rfl l8 rfl ?_
         refine EL_do (.yes2 rfl rfl l8) rfl (D_loadF (g := n9) part_TieGroup_2.1 Try.isAgg227 Try.sizeOf227 rfl b478 fun kM nJ => ?_)
         obtain rfl := RV_int.1 nJ
         refine EL_y (.bool (((l5).Way != (2 : Int)))) (P_int rfl rfl rfl) rfl rfl l8 rfl ?_
         refine EL_y (.bool (((l5).Way != (2 : Int)))) (P_pick (b := ((l5).Way != (1 : Int))) rfl (pick_t l8 rfl)) rfl rfl x6 rfl ?_
         refine EL_p (.bool (((l5).Way != (2 : Int)))) (P_pick (b := (!u9)) rfl (pick_f x6 rfl)) rfl ?_
         refine EL_mw (.bool (((l5).Way != (2 : Int)))) rfl rfl ?_
         rcases csome h with ⟨i7, h⟩ | ⟨i7, h⟩
         ·refine EL_s rfl rfl i7 rfl rfl ?_
          iterate 4 refine EL_s rfl rfl i7 rfl rfl ?_
          refine EL_p (.bool true) (P_pick (b := ((l5).Way != (2 : Int))) rfl (pick_t i7 rfl)) rfl ?_
          refine EL_nil ?_
          obtain rfl := sinj h
          exact hQ _ _ ⟨n9, hfr, v8, k9, t5, u4_1_328, l9, x5, i6, rfl, rfl, b478, x8, o0, a9, y6, rfl⟩
         ·refine EL_y (fPtr m8 3) (P_fieldAddr at_229_3 rfl (OB.ptr b478)) rfl rfl i7 rfl ?_
          refine EL_do (.yes2 rfl rfl i7) rfl (D_loadF (g := n9) part_TieGroup_3.1 Try.isAgg3 Try.sizeOf3 rfl b478 fun mM oJ => ?_)
          obtain rfl := RV_int.1 oJ
          refine EL_do (.yes2 rfl rfl i7) rfl (D_buildSlice (g := n9) 3055 (xs := ([(l5).Times] : List Int)) (vs := [.int .i64 ((l5).Times)]) Try.underlying26 Try.sizeOf3 Try.zeroValue3 rfl rfl (.cons rfl .nil) (RVs.cons (RV_int.2 rfl) RVs.nil) rfl rfl fun pJ nM qJ hs o573 rJ hxt hfl => ?_)
          have hfr := hfr.stp hs
          have u4_1_328 := u4_1_328.stp hs rfl
          have t5 := t5.stp hs rfl
          have x5 := x5.stp hs
          have i6 := i6.stp hs rfl
          have o0 := o0.stp hs
          have b478 := b478.stp hs rfl
          obtain ⟨mC, zH, h⟩ := bsome h
          refine EL_do (.yes2 rfl rfl i7) rfl (D_call (g := pJ) (vs := [.int .i64 (1), .int .i64 (8), qJ]) en184 (.cons rfl (.cons rfl (.cons rfl .nil))) (wk184 rJ zH) fun sJ pL oM hs hr => ?_)
          have hfr := hfr.ext hs
          have u4_1_328 := u4_1_328.ext hs
          have t5 := t5.ext hs
          have x5 := x5.ext hs
          have i6 := i6.ext hs
          have o0 := o0.ext hs
          have b478 := b478.ext hs
          subst hr
          refine EL_y (.bool (!mC)) (P_not rfl) rfl rfl i7 rfl ?_
          refine EL_p (.bool (!mC)) (P_pick (b := ((l5).Way != (2 : Int))) rfl (pick_f i7 rfl)) rfl ?_
          refine EL_nil ?_
          obtain rfl := sinj h
          exact hQ _ _ ⟨sJ, hfr, v8, k9, t5, u4_1_328, l9, x5, i6, rfl, rfl, b478, x8, o0, a9, y6, rfl⟩
        ·refine EL_s rfl rfl l8 rfl rfl ?_
         refine EL_s rfl rfl l8 rfl rfl ?_
         refine EL_s rfl rfl l8 rfl rfl ?_
         refine EL_y (.bool false) (P_pick (b := ((l5).Way != (1 : Int))) rfl (pick_f l8 rfl)) rfl rfl x6 rfl ?_
         refine EL_p (.bool false) (P_pick (b := (!u9)) rfl (pick_f x6 rfl)) rfl ?_
         refine EL_mw (.bool false) rfl rfl ?_
         refine EL_y (fPtr m8 3) (P_fieldAddr at_229_3 rfl (OB.ptr b478)) rfl rfl rfl rfl ?_
         refine EL_do (.yes2 rfl rfl rfl) rfl (D_loadF (g := n9) part_TieGroup_3.1 Try.isAgg3 Try.sizeOf3 rfl b478 fun pM vJ => ?_)
         obtain rfl := RV_int.1 vJ
         refine EL_do (.yes2 rfl rfl rfl) rfl (D_buildSlice (g := n9) 3055 (xs := ([(l5).Times] : List Int)) (vs := [.int .i64 ((l5).Times)]) Try.underlying26 Try.sizeOf3 Try.zeroValue3 rfl rfl (.cons rfl .nil) (RVs.cons (RV_int.2 rfl) RVs.nil) rfl rfl fun xJ qM yJ hs o578 zJ hxt hfl => ?_)
         have hfr := hfr.stp hs
         have u4_1_328 := u4_1_328.stp hs rfl
         have t5 := t5.stp hs rfl
         have x5 := x5.stp hs
         have i6 := i6.stp hs rfl
         have o0 := o0.stp hs
         have b478 := b478.stp hs rfl
         obtain ⟨qC, aI, h⟩ := bsome h
         refine EL_do (.yes2 rfl rfl rfl) rfl (D_call (g := xJ) (vs := [.int .i64 (1), .int .i64 (8), yJ]) en184 (.cons rfl (.cons rfl (.cons rfl .nil))) (wk184 zJ aI) fun aK qL rM hs hr => ?_)
         have hfr := hfr.ext hs
         have u4_1_328 := u4_1_328.ext hs
         have t5 := t5.ext hs
         have x5 := x5.ext hs
         have i6 := i6.ext hs
         have o0 := o0.ext hs
         have b478 := b478.ext hs
         subst hr
         refine EL_y (.bool (!qC)) (P_not rfl) rfl rfl rfl rfl ?_
         refine EL_p (.bool (!qC)) (P_pick (b := false) rfl (pick_f rfl rfl)) rfl ?_
         refine EL_nil ?_
         obtain rfl := sinj h
         exact hQ _ _ ⟨aK, hfr, v8, k9, t5, u4_1_328, l9, x5, i6, rfl, rfl, b478, x8, o0, a9, y6, rfl⟩
      ·clear hx
       obtain ⟨sD, hfr, vF, bA, nB, u4_1_581, xF, yF, zF, bD, aG, bG, lE, mE, oE, rE, cC⟩ := hR
       rcases csome h with ⟨uC, h⟩ | ⟨uC, h⟩
       ·refine E_cond_true (Eq.trans (show ev _ _ = .bool (r8) from cC) (congrArg Value.bool uC)) ?_
        refine E_seq (E_region (EL_do .plain rfl (D_loadO (g := sD) Try.isAgg28 Try.sizeOf28 bA nB fun bK cK => ?_)))
        refine EL_mv bD rfl ?_
        refine EL_do .plain rfl (D_storeOc (g := sD) (v := bK) Try.sizeOf28 bA nB rfl cK fun sM tM hs b584 cb => ?_)
        clear cb
        have hfr := hfr.stp hs
        refine EL_at (.int .i64 (u3)) rfl rfl ?_
        refine EL_at (.int .i64 (2)) rfl rfl ?_
        refine EL_nil (thn_n (E_ret (thn_r ?_)))
        refine blk_r ?_
        refine thn_r ?_
        refine thn_r ?_
        refine blk_r ?_
        refine thn_r ?_
        obtain rfl := sinj h
        obtain ⟨ad585, cv585, hp585, bI, cr585⟩ := ob_read Try.isAgg28 Try.sizeOf28 b584
        exact endm_ctt rfl rfl ((show _ = p1 from bA).trans hp585) bI (show _ = .int .i64 (u3) from rfl) (show _ = .int .i64 (2) from rfl) ⟨_, hfr, _, _, _, rfl, cr585, rfl, rfl⟩
       ·refine E_cond_false (Eq.trans (show ev _ _ = .bool (r8) from cC) (congrArg Value.bool uC)) ?_
        exact E_skip (thn_n (xH (m7) _ _ ⟨sD, hfr, vF, bA, nB, u4_1_581, xF, yF, zF, bD, aG, bG, lE, mE, oE, rE⟩ h))
     ·rintro z9 rL uM ⟨cG, hfr, eG, iA, n8, u4_1_586, gG, oB, tB, hG, cD, vB, uE, d9, vE, xE⟩ h
      refine E_seq (L_loadO0 (x := .tmp 9) Try.isAgg229 Try.sizeOf229 vB fun vC iG dI => ?_)
      have jG : RV cG.m _ (⟨l5⟩ : TieTieGroup) (.agg (setCh [[.int .i64 0, .int .i64 0, .int .i64 0, .int .i64 0]] [(0, vC)]).flatten.toArray) := RV_build rfl (rep_last (RV.cells iG))
      generalize iI : (Value.agg (setCh [[.int .i64 0, .int .i64 0, .int .i64 0, .int .i64 0]] [(0, vC)]).flatten.toArray) = kG at jG
      obtain ⟨rA, jI, h⟩ := bsome h
      refine L_loadO (x := .tmp 65) part_TieGroup_3.1 Try.isAgg3 Try.sizeOf3 vB fun vM dK kI => ?_
      obtain rfl := RV_int.1 dK
      obtain ⟨iB, lI, h⟩ := bsome h
      refine E_drawL (g := cG) (n := 7) [(3, (fun v g w => RV g.m w rA v)), (6, (fun v g w => RV g.m w iB v))] [0, 1, 2, 3, 4, 5, 6] rfl mixed (by kernel_rfl) (⟨fun _ => up_rv, fun _ => up_rv, trivial⟩) ?_
      refine L_p k8 rfl rfl (P_move gG) ?_
      refine L_ld (c := vC) rfl rfl .plain (fun _ _ h => ⟨h.ch, fun b hb _ => h.below.block b hb⟩) dI cD ?_
      refine L_p kG rfl rfl (iI ▸ P_build (vs := [(0, vC)]) [[.int .i64 0, .int .i64 0, .int .i64 0, .int .i64 0]] lay_343 rfl rfl (.cons rfl .nil) ⟨⟨_, rfl, cells_size iG⟩, trivial⟩) ?_
      refine L_do (φ := fun v g w => RV g.m w rA v) rfl rfl .plain (fun g w hd => D_call (g := g) (vs := [kG]) en190 (.cons rfl .nil) (wk190 (jG.ext hd.1) jI) fun g' w' v hs hr => ⟨g', hs, hr⟩) (fun tD hv => ?_)
      obtain ⟨_, _, _, rq589⟩ := hv
      refine L_p (fPtr m8 3) rfl rfl (P_fieldAddr at_229_3 cD (OB.ptr vB)) ?_
      refine L_ld (c := .int .i64 ((l5).Times)) rfl rfl .plain (fun _ _ h => ⟨h.ch, fun b hb _ => h.below.block b hb⟩) kI rfl ?_
      refine L_do (φ := fun v g w => RV g.m w iB v) rfl rfl .plain (fun g w hd => D_call (g := g) (vs := [tD, .int .i64 ((l5).Times)]) en91 (.cons rfl (.cons rfl .nil)) (wk91 (word (A := fun g w => RV g.m w rA tD) 3 rfl rfl (deps_of hd)) lI) fun g' w' v hs hr => ⟨g', hs, hr⟩) (fun lK hv => ?_)
      obtain ⟨_, _, _, rq593⟩ := hv
      refine L_nil fun mK xM hall => ?_
      have hs := hall.1
      have hfr := hfr.ext hs
      have u4_1_586 := u4_1_586.ext hs
      have n8 := n8.ext hs
      have oB := oB.ext hs
      have tB := tB.ext hs
      have d9 := d9.ext hs
      have bN := (word_all (A := fun g w => RV g.m w rA tD) 3 rfl hall)
      have nK := (word_all (A := fun g w => RV g.m w iB lK) 6 rfl hall)
      clear hs hall
      obtain ⟨yA, mI, h⟩ := bsome h
      refine EL_do .plain rfl (D_append (g := mK) (i := 1007) Try.underlying26 info_3 rfl rfl tB oB rfl nK mI fun uD cN vD hs o611 lG _ => ?_)
      have hfr := hfr.stp hs
      have u4_1_586 := u4_1_586.stp hs rfl
      have n8 := n8.stp hs rfl
      have d9 := d9.stp hs
      refine EL_at vD rfl rfl ?_
      refine EL_nil (thn_n (E_seq (E_region (EL_mw vD rfl rfl ?_))))
      refine EL_p (.int .i64 ((yA).length : Int)) (P_len Try.underlying26 rfl lG) rfl ?_
      refine EL_in (.bool ((decide (((yA).length : Int) > (96 : Int))))) rfl rfl rfl rfl ?_
      refine EL_nil (thn_n ?_)
      rcases csome h with ⟨aD, h⟩ | ⟨aD, h⟩
      ·refine E_ct aD rfl ?_
       refine E_seq (E_region (EL_do .plain rfl (D_loadO (g := uD) Try.isAgg28 Try.sizeOf28 iA n8 fun oK pK => ?_)))
       refine EL_mv hG rfl ?_
       refine EL_do .plain rfl (D_storeOc (g := uD) (v := oK) Try.sizeOf28 iA n8 rfl pK fun dN eN hs b615 cb => ?_)
       clear cb
       have hfr := hfr.stp hs
       refine EL_at (.int .i64 (u3)) rfl rfl ?_
       refine EL_at (.int .i64 (8)) rfl rfl ?_
       refine EL_nil (thn_n (E_ret (blk_r ?_)))
       refine thn_r ?_
       refine thn_r ?_
       refine blk_r ?_
       refine thn_r ?_
       obtain rfl := sinj h
       obtain ⟨ad616, cv616, hp616, nI, cr616⟩ := ob_read Try.isAgg28 Try.sizeOf28 b615
       exact endm_ctt rfl rfl ((show _ = p1 from iA).trans hp616) nI (show _ = .int .i64 (u3) from rfl) (show _ = .int .i64 (8) from rfl) ⟨_, hfr, _, _, _, rfl, cr616, rfl, rfl⟩
      ·refine E_cf aD rfl ?_
       exact E_skip (blk_n (thn_n (uH (z9, yA) _ _ ⟨uD, (vD), hfr, eG, iA, n8, u4_1_586, rfl, lG, o611, uE, d9, vE, xE⟩ h)))
    ·rintro ⟨aB, dB⟩ tL gN ⟨qK, mG, hfr, sG, xG, yG, u4_1_617, zG, aH, cH, yE, zE, cF, dF⟩ h
     refine E_region (EL_in (.int .i64 ((w64 (u3 + (1 : Int))))) dF rfl rfl rfl ?_)
     refine EL_mw (.int .i64 ((w64 (u3 + (1 : Int))))) rfl rfl ?_
     exact EL_nil (thn_n (tH (aB, dB, (w64 (u3 + (1 : Int)))) _ _ ⟨qK, (mG), hfr, sG, xG, yG, u4_1_617, zG, aH, cH, yE, zE, cF, rfl⟩ h))
   ·refine E_cf rC rfl ?_
    refine E_exit ?_
    refine thn_e ?_
    refine thn_e ?_
    refine blk_hit ?_
    exact thn_n (sH (m7, g8) _ _ ⟨lD, (k8), hfr, v8, k9, t5, u4_1_328, l9, x5, i6⟩ h)
  ·rintro ⟨eF, y9⟩ uL iN ⟨dH, yB, hfr, gH, eD, iH, u4_1_618, jH, zB, kH⟩ h
   refine E_seq (E_region (EL_mv gH rfl ?_))
   refine EL_mv jH rfl ?_
   have lH : RV dH.m _ (⟨x0, y9⟩ : TieHarness) (.agg (setCh [[.int .i64 0], [.slice none 0 0]] [(0, .int .i64 (x0)), (1, yB)]).flatten.toArray) := RV_build rfl (rep_pair (rfl) (rep_last (RV.cells zB)))
   generalize iE : (Value.agg (setCh [[.int .i64 0], [.slice none 0 0]] [(0, .int .i64 (x0)), (1, yB)]).flatten.toArray) = mH at lH
   refine EL_p mH (iE ▸ P_build (vs := [(0, .int .i64 (x0)), (1, yB)]) [[.int .i64 0], [.slice none 0 0]] lay_28 rfl rfl (.cons rfl (.cons rfl .nil)) ⟨⟨_, rfl, rfl⟩, ⟨⟨_, rfl, cells_size zB⟩, trivial⟩⟩) rfl ?_
   refine EL_do .plain rfl (D_storeOc (g := dH) (v := mH) Try.sizeOf28 eD iH rfl lH fun sK tK hs b620 cb => ?_)
   obtain ⟨uK, vK, xD, _, _⟩ := RV_list zB
   have lL : OSF 2004 1007 1 sK tK 3 28 (y9 : List Int) p1 := cb.osfv (by rw [← iE, xD]; rfl) (kH.stp hs rfl)
   clear cb
   have hfr := hfr.stp hs
   refine EL_at (.int .i64 (0)) rfl rfl ?_
   refine EL_at (.int .i64 (0)) rfl rfl ?_
   refine EL_nil (thn_n (E_ret ?_))
   obtain rfl := sinj h
   obtain ⟨ad621, cv621, hp621, pI, cr621⟩ := ob_read Try.isAgg28 Try.sizeOf28 b620
   exact endm_ctt rfl rfl ((show _ = p1 from eD).trans hp621) pI (show _ = .int .i64 (0) from rfl) (show _ = .int .i64 (0) from rfl) ⟨_, hfr, _, _, _, rfl, cr621, rfl, rfl⟩
def f111 (x0 : ChainBelt) : Option (ChainChainBelt × Int) :=
 jn (σ := ChainChainBelt) (fun m7 =>
  some ((⟨x0, (x0).Hooks⟩ : ChainChainBelt), (0 : Int))
  ) fun k33 =>
 (f109 ((x0).Hooks)).bind fun i6 =>
 bif (!i6) then
  some ((⟨x0, (x0).Hooks⟩ : ChainChainBelt), (3 : Int))
 else
  bif (decide ((((x0).Cards).length : Int) > (60 : Int))) then
   some ((⟨x0, (x0).Hooks⟩ : ChainChainBelt), (5 : Int))
  else
   (f191 ((x0).Hooks) ((x0).Cards)).bind fun x6 =>
   bif (!x6) then
    some ((⟨x0, (x0).Hooks⟩ : ChainChainBelt), (2 : Int))
   else
    k33 ((⟨⟨0, []⟩, 0⟩ : ChainChainBelt))
theorem en111 : Enters Try.prog 111 := enters_of Try.func111 (by kernel_rfl) rfl
theorem wk111 {gI : Gh} {wI : World} {x0 : ChainBelt} {up0 : Value} (rp0 : RV gI.m wI x0 up0) {r : ChainChainBelt × Int} (h : f111 x0 = some r) : Fn Try.prog 111 #[up0] gI wI (fun m w v => ∃ y0 y1, v = .tuple #[y0, y1] ∧ RV m w (r.1) y0 ∧ y1 = .int .i64 (r.2)) := by
 unfold f111 at h
 refine fn_of_E Try.func111 rfl (Nat.le_of_ble_eq_true rfl) fun g0 hm hfr => ?_
 have rp0 : RV g0.m wI x0 up0 := hm ▸ rp0
 show E _ 30 none _ _ _ _ _
 refine E_seq (E_region (EL_do .plain rfl (D_box (g := g0) rfl rp0 fun g1 w1 p1 hs q1 => ?_)))
 have hfr := hfr.ext hs
 refine EL_do .plain rfl (D_allocOc (g := g1) 2002 (⟨⟨0, []⟩, 0⟩ : ChainChainBelt) Try.zeroValue236 (fun m w => ⟨_, (rep_two (rep_two rep_int rep_nil) rep_int), rfl⟩) fun g2 w2 p2 hs b2 cb => ?_)
 have hfr := hfr.stp hs
 have q1 := q1.stp hs
 have o0 : OSF 2002 60201 1 g2 w2 137 236 ([] : List ChainCard) p2 := cb.osf (by rfl)
 clear cb
 refine EL_at (.int .i64 (0)) rfl rfl ?_
 refine EL_nil (thn_n (E_seq (E_region (EL_do .plain rfl (D_load (g := g2) Try.isAgg110 Try.sizeOf110 rfl q1 fun v3 r3 => ?_)))))
 refine EL_p (fPtr p1 0) (P_fieldAddr at_110_0 rfl (PT.ptr q1)) rfl ?_
 have q4 := PT_field (part_ChainBelt_0).1 q1
 refine EL_do .plain rfl (D_load (g := g2) Try.isAgg3 Try.sizeOf3 rfl q4 fun v5 r5 => ?_)
 obtain rfl := RV_int.1 r5
 have r6 : RV g2.m _ (⟨x0, (x0).Hooks⟩ : ChainChainBelt) (.agg (setCh [[.int .i64 0, .slice none 0 0], [.int .i64 0]] [(0, v3), (1, .int .i64 ((x0).Hooks))]).flatten.toArray) := RV_build rfl (rep_pair (RV.cells r3) (rep_last (rfl)))
 generalize n9 : (Value.agg (setCh [[.int .i64 0, .slice none 0 0], [.int .i64 0]] [(0, v3), (1, .int .i64 ((x0).Hooks))]).flatten.toArray) = v6 at r6
 refine EL_p v6 (n9 ▸ P_build (vs := [(0, v3), (1, .int .i64 ((x0).Hooks))]) [[.int .i64 0, .slice none 0 0], [.int .i64 0]] lay_236 rfl rfl (.cons rfl (.cons rfl .nil)) ⟨⟨_, rfl, cells_size r3⟩, ⟨⟨_, rfl, rfl⟩, trivial⟩⟩) rfl ?_
 refine EL_do .plain rfl (D_allocOc (g := g2) 2004 (⟨⟨0, []⟩, 0⟩ : ChainChainBelt) Try.zeroValue236 (fun m w => ⟨_, (rep_two (rep_two rep_int rep_nil) rep_int), rfl⟩) fun g7 w7 p7 hs b7 cb => ?_)
 have hfr := hfr.stp hs
 have q1 := q1.stp hs
 have o0 := o0.stp hs rfl
 have b2 := b2.stp hs rfl
 have r6 := r6.stp hs
 have vB : OSF 2004 60401 1 g7 w7 137 236 ([] : List ChainCard) p7 := cb.osf (by rfl)
 clear cb
 refine EL_do .plain rfl (D_storeOc (g := g7) (v := v6) Try.sizeOf236 rfl b7 rfl r6 fun g8 w8 hs b8 cb => ?_)
 clear cb
 have hfr := hfr.stp hs
 have q1 := q1.stp hs
 have o0 := o0.stp hs rfl
 have b2 := b2.stp hs rfl
 refine EL_nil (thn_n (E_joinC h (fun (s : ChainChainBelt) e w => ∃ (g : Gh) , Fr gI wI g w ∧ e 2 = p2 ∧ OB 2002 g w 236 (s : ChainChainBelt) p2 ∧ OSF 2002 60201 1 g w 137 236 (((s).ChainBelt).Cards) p2 ∧ e 4 = p7 ∧ OB 2004 g w 236 ((⟨x0, (x0).Hooks⟩ : ChainChainBelt) : ChainChainBelt) p7) (fun X33 k33 r8 h => ?_) ?_))
 ·refine E_block ?_
  refine E_seq (E_region (EL_p (fPtr p7 2) (P_fieldAddr at_236_1 rfl (OB.ptr b8)) rfl ?_))
  refine EL_do .plain rfl (D_loadF (g := g8) part_ChainChainBelt_1.1 Try.isAgg231 Try.sizeOf231 rfl b8 fun mC u9 => ?_)
  obtain rfl := RV_int.1 u9
  obtain ⟨i6, v8, h⟩ := bsome h
  refine EL_do .plain rfl (D_call (g := g8) (vs := [.int .i64 ((x0).Hooks)]) en109 (.cons rfl .nil) (wk109  v8) fun u3 yB qC hs hr => ?_)
  have hfr := hfr.ext hs
  have q1 := q1.ext hs
  have o0 := o0.ext hs
  have b2 := b2.ext hs
  have b8 := b8.ext hs
  subst hr
  refine EL_p (.bool (!i6)) (P_not rfl) rfl ?_
  refine EL_at (.bool (!i6)) rfl rfl ?_
  refine EL_nil (thn_n ?_)
  rcases csome h with ⟨l5, h⟩ | ⟨l5, h⟩
  ·refine E_ct l5 rfl ?_
   refine E_seq (E_region (EL_do .plain rfl (D_loadO (g := u3) Try.isAgg236 Try.sizeOf236 rfl b8 fun y9 z9 => ?_)))
   refine EL_do .plain rfl (D_storeOc (g := u3) (v := y9) Try.sizeOf236 rfl b2 rfl z9 fun rC uC hs b40 cb => ?_)
   clear cb
   have hfr := hfr.stp hs
   refine EL_at (.int .i64 (3)) rfl rfl ?_
   refine EL_nil (thn_n (E_ret (blk_r ?_)))
   refine thn_r ?_
   obtain rfl := sinj h
   obtain ⟨ad41, cv41, hp41, x8, cr41⟩ := ob_read Try.isAgg236 Try.sizeOf236 b40
   exact endm_ct rfl rfl ((show _ = p2 from rfl).trans hp41) x8 (show _ = .int .i64 (3) from rfl) ⟨_, hfr, _, _, rfl, cr41, rfl⟩
  ·refine E_cf l5 rfl ?_
   refine E_seq (E_region (EL_p (fPtr p1 1) (P_fieldAddr at_110_1 rfl (PT.ptr q1)) rfl ?_))
   have bA := PT_field (part_ChainBelt_1).1 q1
   refine EL_do .plain rfl (D_load (g := u3) Try.isAgg108 Try.sizeOf108 rfl bA fun vC iA => ?_)
   refine EL_p (.int .i64 (((x0).Cards).length : Int)) (P_len Try.underlying108 rfl iA) rfl ?_
   refine EL_p (.bool ((decide ((((x0).Cards).length : Int) > (60 : Int))))) (P_int rfl rfl rfl) rfl ?_
   refine EL_p (.bool ((decide ((((x0).Cards).length : Int) > (60 : Int))))) (P_assign rfl) rfl ?_
   refine EL_nil (thn_n ?_)
   rcases csome h with ⟨t5, h⟩ | ⟨t5, h⟩
   ·refine E_ct t5 rfl ?_
    refine E_seq (E_region (EL_do .plain rfl (D_loadO (g := u3) Try.isAgg236 Try.sizeOf236 rfl b8 fun rA yA => ?_)))
    refine EL_do .plain rfl (D_storeOc (g := u3) (v := rA) Try.sizeOf236 rfl b2 rfl yA fun aD bD hs b46 cb => ?_)
    clear cb
    have hfr := hfr.stp hs
    refine EL_at (.int .i64 (5)) rfl rfl ?_
    refine EL_nil (thn_n (E_ret (blk_r ?_)))
    refine thn_r ?_
    obtain rfl := sinj h
    obtain ⟨ad47, cv47, hp47, a9, cr47⟩ := ob_read Try.isAgg236 Try.sizeOf236 b46
    exact endm_ct rfl rfl ((show _ = p2 from rfl).trans hp47) a9 (show _ = .int .i64 (5) from rfl) ⟨_, hfr, _, _, rfl, cr47, rfl⟩
   ·refine E_cf t5 rfl ?_
    refine E_seq (E_region (EL_p (fPtr p7 2) (P_fieldAddr at_236_1 rfl (OB.ptr b8)) rfl ?_))
    refine EL_do .plain rfl (D_loadF (g := u3) part_ChainChainBelt_1.1 Try.isAgg231 Try.sizeOf231 rfl b8 fun cD aB => ?_)
    obtain rfl := RV_int.1 aB
    refine EL_p (fPtr p1 1) (P_fieldAddr at_110_1 rfl (PT.ptr q1)) rfl ?_
    have dB := PT_field (part_ChainBelt_1).1 q1
    refine EL_do .plain rfl (D_load (g := u3) Try.isAgg108 Try.sizeOf108 rfl dB fun iB lB => ?_)
    obtain ⟨x6, d9, h⟩ := bsome h
    refine EL_do .plain rfl (D_call (g := u3) (vs := [.int .i64 ((x0).Hooks), iB]) en191 (.cons rfl (.cons rfl .nil)) (wk191 lB d9) fun i7 zB eD hs hr => ?_)
    have hfr := hfr.ext hs
    have o0 := o0.ext hs
    have b2 := b2.ext hs
    have b8 := b8.ext hs
    subst hr
    refine EL_p (.bool (!x6)) (P_not rfl) rfl ?_
    refine EL_at (.bool (!x6)) rfl rfl ?_
    refine EL_nil (thn_n ?_)
    rcases csome h with ⟨x5, h⟩ | ⟨x5, h⟩
    ·refine E_ct x5 rfl ?_
     refine E_seq (E_region (EL_do .plain rfl (D_loadO (g := i7) Try.isAgg236 Try.sizeOf236 rfl b8 fun mB nB => ?_)))
     refine EL_do .plain rfl (D_storeOc (g := i7) (v := mB) Try.sizeOf236 rfl b2 rfl nB fun gD iD hs b56 cb => ?_)
     clear cb
     have hfr := hfr.stp hs
     refine EL_at (.int .i64 (2)) rfl rfl ?_
     refine EL_nil (thn_n (E_ret (blk_r ?_)))
     refine thn_r ?_
     obtain rfl := sinj h
     obtain ⟨ad57, cv57, hp57, k9, cr57⟩ := ob_read Try.isAgg236 Try.sizeOf236 b56
     exact endm_ct rfl rfl ((show _ = p2 from rfl).trans hp57) k9 (show _ = .int .i64 (2) from rfl) ⟨_, hfr, _, _, rfl, cr57, rfl⟩
    ·refine E_cf x5 rfl ?_
     exact E_skip (blk_n (thn_n (r8 ((⟨⟨0, []⟩, 0⟩ : ChainChainBelt)) _ _ ⟨i7, hfr, rfl, b2, o0, rfl, b8⟩ h)))
 ·rintro m7 cC jD ⟨n8, hfr, y6, k8, u2_1_58, l8, m8⟩ h
  refine E_seq (E_region (EL_do .plain rfl (D_loadO (g := n8) Try.isAgg236 Try.sizeOf236 l8 m8 fun oB tB => ?_)))
  refine EL_do .plain rfl (D_storeOc (g := n8) (v := oB) Try.sizeOf236 y6 k8 rfl tB fun lD nD hs b60 cb => ?_)
  clear cb
  have hfr := hfr.stp hs
  refine EL_at (.int .i64 (0)) rfl rfl ?_
  refine EL_nil (thn_n (E_ret ?_))
  obtain rfl := sinj h
  obtain ⟨ad61, cv61, hp61, l9, cr61⟩ := ob_read Try.isAgg236 Try.sizeOf236 b60
  exact endm_ct rfl rfl ((show _ = p2 from y6).trans hp61) l9 (show _ = .int .i64 (0) from rfl) ⟨_, hfr, _, _, rfl, cr61, rfl⟩
def f129 (x0 : ChainBelt) : Option (ChainChainBelt × Int) :=
 (f111 x0).bind fun y5 =>
 jn (σ := ChainChainBelt) (fun l5 =>
  Option.bind (α := (List (Int × Bool))) (
   lp (σ := (List (Int × Bool)) × Int) (fun xD (r8, o0) =>
    bif (decide (o0 < (((x0).Cards).length : Int))) then
     Option.bind (α := (List (Int × Bool))) (
      (idx ((x0).Cards) o0).bind fun yD =>
      some ((mset r8 ((yD).Number) true))
      ) fun l8 =>
     xD (l8, (w64 (o0 + (1 : Int))))
    else
     some (r8)
    ) big (([] : List (Int × Bool)), (0 : Int))
   ) fun x6 =>
  jn (σ := ChainChainBelt) (fun vC =>
   some (y5.1, (0 : Int))
   ) fun zD =>
  bif ((mget x6 ((-1 : Int))).getD (false : Bool)) then
   some (y5.1, (9 : Int))
  else
   bif (decide (((x6).length : Int) < (((x0).Cards).length : Int))) then
    some (y5.1, (6 : Int))
   else
    zD (l5)
  ) fun aE =>
 bif (y5.2 != (0 : Int)) then
  some (y5.1, y5.2)
 else
  aE ((⟨⟨0, []⟩, 0⟩ : ChainChainBelt))
theorem en129 : Enters Try.prog 129 := enters_of Try.func129 (by kernel_rfl) rfl
theorem wk129 {gI : Gh} {wI : World} {x0 : ChainBelt} {up0 : Value} (rp0 : RV gI.m wI x0 up0) {r : ChainChainBelt × Int} (h : f129 x0 = some r) : Fn Try.prog 129 #[up0] gI wI (fun m w v => ∃ y0 y1, v = .tuple #[y0, y1] ∧ RV m w (r.1) y0 ∧ y1 = .int .i64 (r.2)) := by
 unfold f129 at h
 refine fn_of_E Try.func129 rfl (Nat.le_of_ble_eq_true rfl) fun g0 hm hfr => ?_
 have rp0 : RV g0.m wI x0 up0 := hm ▸ rp0
 show E _ 43 none _ _ _ _ _
 refine E_seq (E_region (EL_do .plain rfl (D_box (g := g0) rfl rp0 fun g1 w1 p1 hs q1 => ?_)))
 have hfr := hfr.ext hs
 refine EL_do .plain rfl (D_allocOc (g := g1) 2002 (⟨⟨0, []⟩, 0⟩ : ChainChainBelt) Try.zeroValue236 (fun m w => ⟨_, (rep_two (rep_two rep_int rep_nil) rep_int), rfl⟩) fun g2 w2 p2 hs b2 cb => ?_)
 have hfr := hfr.stp hs
 have q1 := q1.stp hs
 have i7 : OSF 2002 60201 1 g2 w2 137 236 ([] : List ChainCard) p2 := cb.osf (by rfl)
 clear cb
 refine EL_at (.int .i64 (0)) rfl rfl ?_
 refine EL_nil (thn_n (E_seq (E_region (EL_do .plain rfl (D_load (g := g2) Try.isAgg110 Try.sizeOf110 rfl q1 fun v3 r3 => ?_)))))
 obtain ⟨y5, hy5, h⟩ := bsome h
 refine EL_do .plain rfl (D_call (g := g2) (vs := [v3]) en111 (.cons rfl .nil) (wk111 r3 hy5) fun g4 w4_ v4 hs hr => ?_)
 have hfr := hfr.ext hs
 have q1 := q1.ext hs
 have i7 := i7.ext hs
 have b2 := b2.ext hs
 obtain ⟨z9, lG, rfl, bA, rfl⟩ := hr
 refine EL_mw (.tuple #[z9, .int .i64 (y5.2)]) rfl rfl ?_
 refine EL_p z9 (P_extract rfl rfl) rfl ?_
 refine EL_p (.int .i64 (y5.2)) (P_extract rfl rfl) rfl ?_
 refine EL_do .plain rfl (D_allocOc (g := g4) 2004 (⟨⟨0, []⟩, 0⟩ : ChainChainBelt) Try.zeroValue236 (fun m w => ⟨_, (rep_two (rep_two rep_int rep_nil) rep_int), rfl⟩) fun g6 w6 p6 hs b6 cb => ?_)
 have hfr := hfr.stp hs
 have q1 := q1.stp hs
 have i7 := i7.stp hs rfl
 have b2 := b2.stp hs rfl
 have bA := bA.stp hs
 have mG : OSF 2004 60401 1 g6 w6 137 236 ([] : List ChainCard) p6 := cb.osf (by rfl)
 clear cb
 refine EL_do .plain rfl (D_storeOc (g := g6) (v := z9) Try.sizeOf236 rfl b6 rfl bA fun g7 w7 hs b7 cb => ?_)
 clear cb
 have hfr := hfr.stp hs
 have q1 := q1.stp hs
 have i7 := i7.stp hs rfl
 have b2 := b2.stp hs rfl
 refine EL_at (.int .i64 (y5.2)) rfl rfl ?_
 refine EL_nil (thn_n (E_joinC h (fun (s : ChainChainBelt) e w => ∃ (g : Gh) , Fr gI wI g w ∧ e 1 = p1 ∧ PT g.m w (x0 : ChainBelt) p1 ∧ e 2 = p2 ∧ OB 2002 g w 236 (s : ChainChainBelt) p2 ∧ OSF 2002 60201 1 g w 137 236 (((s).ChainBelt).Cards) p2 ∧ e 4 = p6 ∧ OB 2004 g w 236 (y5.1 : ChainChainBelt) p6) (fun X12 aE oE h => ?_) ?_))
 ·refine E_seq (E_region (EL_mw (.int .i64 (y5.2)) rfl rfl ?_))
  refine EL_in (.bool ((y5.2 != (0 : Int)))) rfl rfl rfl rfl ?_
  refine EL_nil (thn_n ?_)
  rcases csome h with ⟨iA, h⟩ | ⟨iA, h⟩
  ·refine E_ct iA rfl ?_
   refine E_seq (E_region (EL_do .plain rfl (D_loadO (g := g7) Try.isAgg236 Try.sizeOf236 rfl b7 fun cF dF => ?_)))
   refine EL_mw (.int .i64 (y5.2)) rfl rfl ?_
   refine EL_do .plain rfl (D_storeOc (g := g7) (v := cF) Try.sizeOf236 rfl b2 rfl dF fun cH w15 hs b15 cb => ?_)
   clear cb
   have hfr := hfr.stp hs
   refine EL_at (.int .i64 (y5.2)) rfl rfl ?_
   refine EL_nil (thn_n (E_ret (thn_r ?_)))
   obtain rfl := sinj h
   obtain ⟨ad16, cv16, hp16, rE, cr16⟩ := ob_read Try.isAgg236 Try.sizeOf236 b15
   exact endm_ct rfl rfl ((show _ = p2 from rfl).trans hp16) rE (show _ = .int .i64 (y5.2) from rfl) ⟨_, hfr, _, _, rfl, cr16, rfl⟩
  ·refine E_cf iA rfl ?_
   exact E_skip (thn_n (oE ((⟨⟨0, []⟩, 0⟩ : ChainChainBelt)) _ _ ⟨g7, hfr, rfl, q1, rfl, b2, i7, rfl, b7⟩ h))
 ·rintro l5 sG dH ⟨eF, hfr, dB, m7, aD, v8, u2_1_17, bD, x8⟩ h
  refine E_seq (E_region (EL_do .plain rfl (D_makeMap (g := eF) (Value.int .i64) Bool 8018 fun bE gH m8 hs m18 => ?_)))
  have hfr := hfr.stp hs
  have m7 := m7.stp hs
  have u2_1_17 := u2_1_17.stp hs rfl
  have v8 := v8.stp hs rfl
  have x8 := x8.stp hs rfl
  refine EL_at m8 rfl rfl ?_
  refine EL_nil (thn_n ?_)
  obtain ⟨x6, hx, h⟩ := bsome h
  refine E_join (fun e w => ∃ (g : Gh) , Fr gI wI g w ∧ e 1 = p1 ∧ PT g.m w (x0 : ChainBelt) p1 ∧ e 2 = p2 ∧ OB 2002 g w 236 (l5 : ChainChainBelt) p2 ∧ OSF 2002 60201 1 g w 137 236 (((l5).ChainBelt).Cards) p2 ∧ e 4 = p6 ∧ OB 2004 g w 236 (y5.1 : ChainChainBelt) p6 ∧ e 6 = m8 ∧ MP (Value.int .i64) 8018 g w (x6 : List (Int × Bool)) m8) (fun Q' hQ => ?_) (fun xG iH hR => ?_)
  ·replace h := hx
   clear hx
   refine E_seq (E_region (EL_p (fPtr p1 1) (P_fieldAddr at_110_1 dB (PT.ptr m7)) rfl ?_))
   have rF := PT_field (part_ChainBelt_1).1 m7
   refine EL_do .plain rfl (D_load (g := bE) Try.isAgg108 Try.sizeOf108 rfl rF fun n9 iE => ?_)
   refine EL_p (.int .i64 (((x0).Cards).length : Int)) (P_len Try.underlying108 rfl iE) rfl ?_
   refine EL_mw (.int .i64 (0)) rfl rfl ?_
   refine EL_nil (thn_n (E_block ?_))
   refine E_lp h (fun (s : (List (Int × Bool)) × Int) e w => ∃ (g : Gh) , Fr gI wI g w ∧ e 1 = p1 ∧ PT g.m w (x0 : ChainBelt) p1 ∧ e 2 = p2 ∧ OB 2002 g w 236 (l5 : ChainChainBelt) p2 ∧ OSF 2002 60201 1 g w 137 236 (((l5).ChainBelt).Cards) p2 ∧ e 4 = p6 ∧ OB 2004 g w 236 (y5.1 : ChainChainBelt) p6 ∧ e 6 = m8 ∧ MP (Value.int .i64) 8018 g w (s.1 : List (Int × Bool)) m8 ∧ e 20 = n9 ∧ RV g.m w ((x0).Cards : List ChainCard) n9 ∧ e 21 = .int .i64 ((((x0).Cards).length : Int)) ∧ e 22 = .int .i64 (s.2)) ⟨bE, hfr, dB, m7, aD, v8, u2_1_17, bD, x8, rfl, m18, rfl, iE, rfl, rfl⟩ (fun X43 xD uE => ?_)
   rintro ⟨r8, o0⟩ yG jH ⟨yB, hfr, iB, t5, lB, x5, u2_1_44, mB, i6, a9, y6, u9, u3, y9, n8⟩ h
   refine E_seq (E_region (EL_p (.bool ((decide (o0 < (((x0).Cards).length : Int))))) (P_int n8 y9 rfl) rfl ?_))
   refine EL_nil (thn_n (E_seq ?_))
   rcases csome h with ⟨rA, h⟩ | ⟨rA, h⟩
   ·refine E_ct rA rfl ?_
    refine E_skip (thn_n ?_)
    obtain ⟨l8, hx, h⟩ := bsome h
    refine E_join (fun e w => ∃ (g : Gh) , Fr gI wI g w ∧ e 1 = p1 ∧ PT g.m w (x0 : ChainBelt) p1 ∧ e 2 = p2 ∧ OB 2002 g w 236 (l5 : ChainChainBelt) p2 ∧ OSF 2002 60201 1 g w 137 236 (((l5).ChainBelt).Cards) p2 ∧ e 4 = p6 ∧ OB 2004 g w 236 (y5.1 : ChainChainBelt) p6 ∧ e 6 = m8 ∧ MP (Value.int .i64) 8018 g w (l8 : List (Int × Bool)) m8 ∧ e 20 = n9 ∧ RV g.m w ((x0).Cards : List ChainCard) n9 ∧ e 21 = .int .i64 ((((x0).Cards).length : Int)) ∧ e 22 = .int .i64 (o0)) (fun Q' hQ => ?_) (fun zG kH hR => ?_)
    ·replace h := hx
     clear hx
     refine E_block ?_
     refine E_seq (E_region ?_)
     obtain ⟨yD, zB, h⟩ := bsome h
     refine EL_p (ePtr n9 o0 3) (P_indexAddr (α := ChainCard) Try.underlying108 Try.sizeOf137 u9 u3 n8 zB) rfl ?_
     have sF := PT_idx u3 zB
     refine EL_do .plain rfl (D_load (g := yB) Try.isAgg137 Try.sizeOf137 rfl sF fun tF cC => ?_)
     refine EL_do .plain rfl (D_allocOc (g := yB) 2008 (⟨0, 0, false⟩ : ChainCard) Try.zeroValue137 (fun m w => ⟨_, (rep_two rep_int (rep_two rep_int rep_bool)), rfl⟩) fun uF lH vF hs b57 cb => ?_)
     have hfr := hfr.stp hs
     have t5 := t5.stp hs
     have u2_1_44 := u2_1_44.stp hs rfl
     have x5 := x5.stp hs rfl
     have i6 := i6.stp hs rfl
     have y6 := y6.stp hs rfl
     have u3 := u3.stp hs
     have cC := cC.stp hs
     clear cb
     refine EL_do .plain rfl (D_storeOc (g := uF) (v := tF) Try.sizeOf137 rfl b57 rfl cC fun lE mH hs b58 cb => ?_)
     clear cb
     have hfr := hfr.stp hs
     have t5 := t5.stp hs
     have u2_1_44 := u2_1_44.stp hs rfl
     have x5 := x5.stp hs rfl
     have i6 := i6.stp hs rfl
     have y6 := y6.stp hs rfl
     have u3 := u3.stp hs
     refine EL_nil (thn_n (E_region (EL_mv a9 rfl ?_)))
     refine EL_p (fPtr vF 0) (P_fieldAddr at_137_0 rfl (OB.ptr b58)) rfl ?_
     refine EL_do .plain rfl (D_loadF (g := lE) part_ChainCard_0.1 Try.isAgg3 Try.sizeOf3 rfl b58 fun nH xF => ?_)
     obtain rfl := RV_int.1 xF
     refine EL_do .plain rfl (D_mapUpdate (g := lE) Try.underlying203 key_3 rfl y6 rfl rfl (RV_bool.2 rfl) fun yF oH hs m61 => ?_)
     have hfr := hfr.stp hs
     have t5 := t5.stp hs
     have u2_1_44 := u2_1_44.stp hs rfl
     have x5 := x5.stp hs rfl
     have i6 := i6.stp hs rfl
     have u3 := u3.stp hs
     refine EL_nil (blk_n ?_)
     obtain rfl := sinj h
     exact hQ _ _ ⟨yF, hfr, iB, t5, lB, x5, u2_1_44, mB, i6, a9, m61, u9, u3, y9, n8⟩
    ·clear hx
     obtain ⟨zF, hfr, cD, eD, gD, iD, u2_1_62, jD, lD, nD, oD, mC, qC, rC, uC⟩ := hR
     refine E_region (EL_in (.int .i64 ((w64 (o0 + (1 : Int))))) uC rfl rfl rfl ?_)
     refine EL_mw (.int .i64 ((w64 (o0 + (1 : Int))))) rfl rfl ?_
     exact EL_nil (thn_n (uE (l8, (w64 (o0 + (1 : Int)))) _ _ ⟨zF, hfr, cD, eD, gD, iD, u2_1_62, jD, lD, nD, oD, mC, qC, rC, rfl⟩ h))
   ·refine E_cf rA rfl ?_
    refine E_exit ?_
    refine thn_e ?_
    refine thn_e ?_
    refine blk_hit ?_
    obtain rfl := sinj h
    exact hQ _ _ ⟨yB, hfr, iB, t5, lB, x5, u2_1_44, mB, i6, a9, y6⟩
  ·clear hx
   obtain ⟨k8, hfr, sD, nB, g8, d9, u2_1_63, k9, l9, oB, tB⟩ := hR
   refine E_joinC h (fun (s : ChainChainBelt) e w => ∃ (g : Gh) , Fr gI wI g w ∧ e 2 = p2 ∧ OB 2002 g w 236 (s : ChainChainBelt) p2 ∧ OSF 2002 60201 1 g w 137 236 (((s).ChainBelt).Cards) p2 ∧ e 4 = p6 ∧ OB 2004 g w 236 (y5.1 : ChainChainBelt) p6) (fun X76 zD vE h => ?_) ?_
   ·refine E_block ?_
    refine E_seq (E_region (EL_mv oB rfl ?_))
    refine EL_do .plain rfl (D_lookup (g := k8) (z0 := (false : Bool)) Try.underlying203 key_3 Try.zeroValue4 (fun m w => ⟨_, rep_bool, rfl⟩) rfl tB rfl fun pH aG => ?_)
    obtain rfl := RV_bool.1 aG
    refine EL_at (.bool (((mget x6 ((-1 : Int))).getD (false : Bool)))) rfl rfl ?_
    refine EL_nil (thn_n ?_)
    rcases csome h with ⟨yA, h⟩ | ⟨yA, h⟩
    ·refine E_ct yA rfl ?_
     refine E_seq (E_region (EL_do .plain rfl (D_loadO (g := k8) Try.isAgg236 Try.sizeOf236 k9 l9 fun bG cG => ?_)))
     refine EL_do .plain rfl (D_storeOc (g := k8) (v := bG) Try.sizeOf236 g8 d9 rfl cG fun qH sH hs b80 cb => ?_)
     clear cb
     have hfr := hfr.stp hs
     refine EL_at (.int .i64 (9)) rfl rfl ?_
     refine EL_nil (thn_n (E_ret (blk_r ?_)))
     refine thn_r ?_
     obtain rfl := sinj h
     obtain ⟨ad81, cv81, hp81, xE, cr81⟩ := ob_read Try.isAgg236 Try.sizeOf236 b80
     exact endm_ct rfl rfl ((show _ = p2 from g8).trans hp81) xE (show _ = .int .i64 (9) from rfl) ⟨_, hfr, _, _, rfl, cr81, rfl⟩
    ·refine E_cf yA rfl ?_
     refine E_seq (E_region (EL_mv oB rfl ?_))
     refine EL_do .plain rfl (P_lenMap (g := k8) Try.underlying203 rfl tB ?_)
     refine EL_p (fPtr p1 1) (P_fieldAddr at_110_1 sD (PT.ptr nB)) rfl ?_
     have eG := PT_field (part_ChainBelt_1).1 nB
     refine EL_do .plain rfl (D_load (g := k8) Try.isAgg108 Try.sizeOf108 rfl eG fun tH gG => ?_)
     refine EL_p (.int .i64 (((x0).Cards).length : Int)) (P_len Try.underlying108 rfl gG) rfl ?_
     refine EL_p (.bool ((decide (((x6).length : Int) < (((x0).Cards).length : Int))))) (P_int rfl rfl rfl) rfl ?_
     refine EL_p (.bool ((decide (((x6).length : Int) < (((x0).Cards).length : Int))))) (P_assign rfl) rfl ?_
     refine EL_nil (thn_n ?_)
     rcases csome h with ⟨aB, h⟩ | ⟨aB, h⟩
     ·refine E_ct aB rfl ?_
      refine E_seq (E_region (EL_do .plain rfl (D_loadO (g := k8) Try.isAgg236 Try.sizeOf236 k9 l9 fun hG iG => ?_)))
      refine EL_do .plain rfl (D_storeOc (g := k8) (v := hG) Try.sizeOf236 g8 d9 rfl iG fun uH xH hs b86 cb => ?_)
      clear cb
      have hfr := hfr.stp hs
      refine EL_at (.int .i64 (6)) rfl rfl ?_
      refine EL_nil (thn_n (E_ret (blk_r ?_)))
      refine thn_r ?_
      obtain rfl := sinj h
      obtain ⟨ad87, cv87, hp87, yE, cr87⟩ := ob_read Try.isAgg236 Try.sizeOf236 b86
      exact endm_ct rfl rfl ((show _ = p2 from g8).trans hp87) yE (show _ = .int .i64 (6) from rfl) ⟨_, hfr, _, _, rfl, cr87, rfl⟩
     ·refine E_cf aB rfl ?_
      exact E_skip (blk_n (thn_n (vE (l5) _ _ ⟨k8, hfr, g8, d9, u2_1_63, k9, l9⟩ h)))
   ·rintro vC aH yH ⟨mE, hfr, vB, tD, u2_1_88, uD, vD⟩ h
    refine E_seq (E_region (EL_do .plain rfl (D_loadO (g := mE) Try.isAgg236 Try.sizeOf236 uD vD fun jG kG => ?_)))
    refine EL_do .plain rfl (D_storeOc (g := mE) (v := jG) Try.sizeOf236 vB tD rfl kG fun zH aI hs b90 cb => ?_)
    clear cb
    have hfr := hfr.stp hs
    refine EL_at (.int .i64 (0)) rfl rfl ?_
    refine EL_nil (thn_n (E_ret ?_))
    obtain rfl := sinj h
    obtain ⟨ad91, cv91, hp91, zE, cr91⟩ := ob_read Try.isAgg236 Try.sizeOf236 b90
    exact endm_ct rfl rfl ((show _ = p2 from vB).trans hp91) zE (show _ = .int .i64 (0) from rfl) ⟨_, hfr, _, _, rfl, cr91, rfl⟩
def f130 (x0 : It ChainCard) (x1 : ChainCard → ChainCard → Option Int) : Option ((List ChainCard)) :=
 (f209 x0).bind fun y2 =>
 (f210 y2 x1).bind fun y4 =>
 some (y4)
theorem en130 : Enters Try.prog 130 := enters_of Try.func130 (by kernel_rfl) rfl
def f41  : Option (Bool) :=
 (f108 ((4 : Int)) (([(⟨0, (3 : Int), (2 : Int), (1 : Int)⟩ : TieGroup)] : List TieGroup))).bind fun y4 =>
 (f39 (y4.1) ((⟨(4 : Int), ([(1 : Int), (6 : Int)] : List Int)⟩ : Design))).bind fun y11 =>
 Option.bind (α := Bool) (
  bif (y4.2.2 == (0 : Int)) then
   bif (y11.2 == (0 : Int)) then
    (f32 (y11.1) (([(⟨[120, 46, 46, 46, 46, 46]⟩ : Str), (⟨[46, 120, 120, 46, 120, 120]⟩ : Str)] : List Str))).bind fun y6 =>
    some (y6)
   else
    some (false)
  else
   some (false)
  ) fun t5 =>
 some (t5)
theorem en41 : Enters Try.prog 41 := enters_of Try.func41 (by kernel_rfl) rfl
theorem wk41 {gI : Gh} {wI : World}   {r : Bool} (h : f41  = some r) : Fn Try.prog 41 #[] gI wI (fun _ _ v => v = .bool (r)) := by
 unfold f41 at h
 refine fn_of_E Try.func41 rfl (Nat.le_of_ble_eq_true rfl) fun g0 hm hfr => ?_
 show E _ 31 none _ _ _ _ _
 refine E_seq (E_region (EL_at (.bool false) rfl rfl ?_))
 refine EL_nil (thn_n (E_seq (E_region ?_)))
 have r1 : RV g0.m wI (⟨0, (3 : Int), (2 : Int), (1 : Int)⟩ : TieGroup) (.agg (setCh [[.int .i64 0], [.int .i64 0], [.int .i64 0], [.int .i64 0]] [(1, .int .i64 (3)), (2, .int .i64 (2)), (3, .int .i64 (1))]).flatten.toArray) := RV_build rfl (rep_pair (rep_int) (rep_pair (rfl) (rep_pair (rfl) (rep_last (rfl)))))
 generalize hv1 : (Value.agg (setCh [[.int .i64 0], [.int .i64 0], [.int .i64 0], [.int .i64 0]] [(1, .int .i64 (3)), (2, .int .i64 (2)), (3, .int .i64 (1))]).flatten.toArray) = v1 at r1
 refine EL_p v1 (hv1 ▸ P_build (vs := [(1, .int .i64 (3)), (2, .int .i64 (2)), (3, .int .i64 (1))]) [[.int .i64 0], [.int .i64 0], [.int .i64 0], [.int .i64 0]] lay_229 rfl rfl (.cons rfl (.cons rfl (.cons rfl .nil))) ⟨⟨_, rfl, rfl⟩, ⟨⟨_, rfl, rfl⟩, ⟨⟨_, rfl, rfl⟩, trivial⟩⟩⟩) rfl ?_
 refine EL_do .plain rfl (D_buildSlice (g := g0) 3008 (xs := ([(⟨0, (3 : Int), (2 : Int), (1 : Int)⟩ : TieGroup)] : List TieGroup)) (vs := [v1]) Try.underlying230 Try.sizeOf229 Try.zeroValue229 rfl rfl (.cons rfl .nil) (RVs.cons r1 RVs.nil) rfl rfl fun g2 w2 v2 hs o2 r2 hxt hfl => ?_)
 have hfr := hfr.stp hs
 obtain ⟨y4, m8, h⟩ := bsome h
 refine EL_do .plain rfl (D_call (g := g2) (vs := [.int .i64 (4), v2]) en108 (.cons rfl (.cons rfl .nil)) (wk108 r2 m8) fun g3 w3_ v3 hs hr => ?_)
 have hfr := hfr.ext hs
 obtain ⟨i6, n9, u9, rfl, x6, rfl, rfl⟩ := hr
 refine EL_mw (.tuple #[i6, .int .i64 (y4.2.1), .int .i64 (y4.2.2)]) rfl rfl ?_
 refine EL_p i6 (P_extract rfl rfl) rfl ?_
 refine EL_p (.int .i64 (y4.2.1)) (P_extract rfl rfl) rfl ?_
 refine EL_p (.int .i64 (y4.2.2)) (P_extract rfl rfl) rfl ?_
 refine EL_do .plain rfl (D_allocOc (g := g3) 2001 (⟨0, []⟩ : TieHarness) Try.zeroValue28 (fun m w => ⟨_, (rep_two rep_int rep_nil), rfl⟩) fun g5 w5 p5 hs b5 cb => ?_)
 have hfr := hfr.stp hs
 have x6 := x6.stp hs
 have y9 : OSF 2001 60101 1 g5 w5 3 28 ([] : List Int) p5 := cb.osf (by rfl)
 clear cb
 refine EL_do .plain rfl (D_storeOc (g := g5) (v := i6) Try.sizeOf28 rfl b5 rfl x6 fun g6 w6 hs b6 cb => ?_)
 clear cb
 have hfr := hfr.stp hs
 refine EL_at (.int .i64 (y4.2.1)) rfl rfl ?_
 refine EL_at (.int .i64 (y4.2.2)) rfl rfl ?_
 refine EL_nil (thn_n (E_seq (E_region (EL_do .plain rfl (D_loadO (g := g6) Try.isAgg28 Try.sizeOf28 rfl b6 fun v7 r7 => ?_)))))
 refine EL_do .plain rfl (D_buildSlice (g := g6) 3015 (xs := ([(1 : Int), (6 : Int)] : List Int)) (vs := [.int .i64 (1), .int .i64 (6)]) Try.underlying26 Try.sizeOf3 Try.zeroValue3 rfl rfl (.cons rfl (.cons rfl .nil)) (RVs.cons (RV_int.2 rfl) (RVs.cons (RV_int.2 rfl) RVs.nil)) rfl rfl fun g8 w8 v8 hs o8 r8 hxt hfl => ?_)
 have hfr := hfr.stp hs
 have r7 := r7.stp hs
 have r9 : RV g8.m _ (⟨(4 : Int), ([(1 : Int), (6 : Int)] : List Int)⟩ : Design) (.agg (setCh [[.int .i64 0], [.slice none 0 0]] [(0, .int .i64 (4)), (1, v8)]).flatten.toArray) := RV_build rfl (rep_pair (rfl) (rep_last (RV.cells r8)))
 generalize n8 : (Value.agg (setCh [[.int .i64 0], [.slice none 0 0]] [(0, .int .i64 (4)), (1, v8)]).flatten.toArray) = v9 at r9
 refine EL_p v9 (n8 ▸ P_build (vs := [(0, .int .i64 (4)), (1, v8)]) [[.int .i64 0], [.slice none 0 0]] lay_30 rfl rfl (.cons rfl (.cons rfl .nil)) ⟨⟨_, rfl, rfl⟩, ⟨⟨_, rfl, cells_size r8⟩, trivial⟩⟩) rfl ?_
 obtain ⟨y11, k8, h⟩ := bsome h
 refine EL_do .plain rfl (D_call (g := g8) (vs := [v7, v9]) en39 (.cons rfl (.cons rfl .nil)) (wk39 r7 r9 k8) fun i7 z9 rA hs hr => ?_)
 have hfr := hfr.ext hs
 obtain ⟨l5, l9, rfl, x5, rfl⟩ := hr
 refine EL_mw (.tuple #[l5, .int .i64 (y11.2)]) rfl rfl ?_
 refine EL_p l5 (P_extract rfl rfl) rfl ?_
 refine EL_p (.int .i64 (y11.2)) (P_extract rfl rfl) rfl ?_
 refine EL_at l5 rfl rfl ?_
 refine EL_at (.int .i64 (y11.2)) rfl rfl ?_
 refine EL_nil (thn_n ?_)
 obtain ⟨t5, hx, h⟩ := bsome h
 refine E_join (fun e w => ∃ (g : Gh) , Fr gI wI g w ∧ e 0 = .bool (t5)) (fun Q' hQ => ?_) (fun bA yA hR => ?_)
 ·replace h := hx
  clear hx
  refine E_region (EL_mw (.int .i64 (y4.2.2)) rfl rfl ?_)
  refine EL_in (.bool ((y4.2.2 == (0 : Int)))) rfl rfl rfl rfl ?_
  refine EL_mw (.bool ((y4.2.2 == (0 : Int)))) rfl rfl ?_
  rcases csome h with ⟨u3, h⟩ | ⟨u3, h⟩
  ·refine EL_y (.int .i64 (y11.2)) (P_move rfl) rfl rfl u3 rfl ?_
   refine EL_y (.bool ((y11.2 == (0 : Int)))) (P_int rfl rfl rfl) rfl rfl u3 rfl ?_
   refine EL_p (.bool ((y11.2 == (0 : Int)))) (P_pick (b := (y4.2.2 == (0 : Int))) rfl (pick_t u3 rfl)) rfl ?_
   refine EL_mw (.bool ((y11.2 == (0 : Int)))) rfl rfl ?_
   rcases csome h with ⟨o0, h⟩ | ⟨o0, h⟩
   ·refine EL_y l5 (P_move rfl) rfl rfl o0 rfl ?_
    refine EL_do (.yes2 rfl rfl o0) rfl (D_buildSlice (g := i7) 3028 (xs := ([(⟨[120, 46, 46, 46, 46, 46]⟩ : Str), (⟨[46, 120, 120, 46, 120, 120]⟩ : Str)] : List Str)) (vs := [Str.v (⟨[120, 46, 46, 46, 46, 46]⟩ : Str), Str.v (⟨[46, 120, 120, 46, 120, 120]⟩ : Str)]) Try.underlying50 Try.sizeOf9 Try.zeroValue9 rfl rfl (.cons rfl (.cons rfl .nil)) (RVs.cons (RV_str.2 rfl) (RVs.cons (RV_str.2 rfl) RVs.nil)) rfl rfl fun x8 aB a9 hs o19 d9 hxt hfl => ?_)
    have hfr := hfr.stp hs
    have x5 := x5.stp hs
    obtain ⟨y6, l8, h⟩ := bsome h
    refine EL_do (.yes2 rfl rfl o0) rfl (D_call (g := x8) (vs := [l5, a9]) en32 (.cons rfl (.cons rfl .nil)) (wk32 x5 d9 l8) fun k9 iA dB hs hr => ?_)
    have hfr := hfr.ext hs
    subst hr
    refine EL_p (.bool (y6)) (P_pick (b := (y11.2 == (0 : Int))) rfl (pick_t o0 rfl)) rfl ?_
    refine EL_at (.bool (y6)) rfl rfl ?_
    refine EL_nil ?_
    obtain rfl := sinj h
    exact hQ _ _ ⟨k9, hfr, rfl⟩
   ·refine EL_s rfl rfl o0 rfl rfl ?_
    refine EL_s rfl rfl o0 rfl rfl ?_
    refine EL_s rfl rfl o0 rfl rfl ?_
    refine EL_p (.bool false) (P_pick (b := (y11.2 == (0 : Int))) rfl (pick_f o0 rfl)) rfl ?_
    refine EL_at (.bool false) rfl rfl ?_
    refine EL_nil ?_
    obtain rfl := sinj h
    exact hQ _ _ ⟨i7, hfr, rfl⟩
  ·refine EL_s rfl rfl u3 rfl rfl ?_
   refine EL_s rfl rfl u3 rfl rfl ?_
   refine EL_p (.bool false) (P_pick (b := (y4.2.2 == (0 : Int))) rfl (pick_f u3 rfl)) rfl ?_
   refine EL_dead 5 rfl ?_
   refine EL_at (.bool false) rfl rfl ?_
   refine EL_nil ?_
   obtain rfl := sinj h
   exact hQ _ _ ⟨i7, hfr, rfl⟩
 ·clear hx
  obtain ⟨iB, hfr, m7⟩ := hR
  refine E_ret ?_
  obtain rfl := sinj h
  exact end1 rfl rfl (show _ = .bool (t5) from m7) ⟨_, hfr, rfl⟩
def f45 (x0 : ChainBelt) (x1 : Int) (x2 : List Int) : Option ((List Int) × Int × Int) :=
 (f111 x0).bind fun y4 =>
 jn (σ := (List Int)) (fun y9 =>
  Option.bind (α := (List Int) × Int) (
   lp (σ := (List Int) × Int × Int) (fun sD (k8, t5, u3) =>
    bif (decide (u3 < ((x2).length : Int))) then
     Option.bind (α := (List Int) × Int) (
      (idx x2 u3).bind fun n8 =>
      (f113 (y4.1) t5).bind fun y80 =>
      (apnd 8 k8 (([y80] : List Int))).bind fun tD =>
      (f114 (y4.1) t5 n8).bind fun dB =>
      some (tD, dB)
      ) fun (x6, i7) =>
     sD (x6, i7, (w64 (u3 + (1 : Int))))
    else
     some (k8, t5)
    ) big (y9, x1, (0 : Int))
   ) fun (m7, y6) =>
  some (m7, y6, (0 : Int))
  ) fun k18 =>
 bif (y4.2 != (0 : Int)) then
  some ([], (0 : Int), y4.2)
 else
  (f112 ((0 : Int)) ((w64 ((((x0).Cards).length : Int) - (1 : Int)))) (([x1] : List Int))).bind fun z9 =>
  bif (!z9) then
   some ([], (0 : Int), (7 : Int))
  else
   bif (decide (((x2).length : Int) > (60 : Int))) then
    some ([], (0 : Int), (5 : Int))
   else
    (f112 ((0 : Int)) ((2 : Int)) x2).bind fun bA =>
    bif (!bA) then
     some ([], (0 : Int), (2 : Int))
    else
     k18 ([])
theorem en45 : Enters Try.prog 45 := enters_of Try.func45 (by kernel_rfl) rfl
theorem wk45 {gI : Gh} {wI : World} {x0 : ChainBelt} {x1 : Int} {x2 : List Int} {up0 : Value} (rp0 : RV gI.m wI x0 up0) {up2 : Value} (rp2 : RV gI.m wI x2 up2) {r : (List Int) × Int × Int} (h : f45 x0 x1 x2 = some r) : Fn Try.prog 45 #[up0, .int .i64 (x1), up2] gI wI (fun m w v => ∃ y0 y1 y2, v = .tuple #[y0, y1, y2] ∧ RV m w (r.1) y0 ∧ y1 = .int .i64 (r.2.1) ∧ y2 = .int .i64 (r.2.2)) := by
 unfold f45 at h
 refine fn_of_E Try.func45 rfl (Nat.le_of_ble_eq_true rfl) fun g0 hm hfr => ?_
 have rp0 : RV g0.m wI x0 up0 := hm ▸ rp0
 have rp2 : RV g0.m wI x2 up2 := hm ▸ rp2
 show E _ 58 none _ _ _ _ _
 refine E_seq (E_region (EL_do .plain rfl (D_box (g := g0) rfl rp0 fun g1 w1 p1 hs q1 => ?_)))
 have hfr := hfr.ext hs
 have rp2 := rp2.ext hs
 refine EL_at (.slice none 0 0) rfl rfl ?_
 refine EL_at (.int .i64 (0)) rfl rfl ?_
 refine EL_at (.int .i64 (0)) rfl rfl ?_
 refine EL_nil (thn_n (E_seq (E_region (EL_do .plain rfl (D_load (g := g1) Try.isAgg110 Try.sizeOf110 rfl q1 fun v2 r2 => ?_)))))
 obtain ⟨y4, mE, h⟩ := bsome h
 refine EL_do .plain rfl (D_call (g := g1) (vs := [v2]) en111 (.cons rfl .nil) (wk111 r2 mE) fun g3 w3_ v3 hs hr => ?_)
 have hfr := hfr.ext hs
 have rp2 := rp2.ext hs
 have q1 := q1.ext hs
 obtain ⟨x8, cG, rfl, a9, rfl⟩ := hr
 refine EL_mw (.tuple #[x8, .int .i64 (y4.2)]) rfl rfl ?_
 refine EL_p x8 (P_extract rfl rfl) rfl ?_
 refine EL_p (.int .i64 (y4.2)) (P_extract rfl rfl) rfl ?_
 refine EL_do .plain rfl (D_allocOc (g := g3) 2009 (⟨⟨0, []⟩, 0⟩ : ChainChainBelt) Try.zeroValue236 (fun m w => ⟨_, (rep_two (rep_two rep_int rep_nil) rep_int), rfl⟩) fun g5 w5 p5 hs b5 cb => ?_)
 have hfr := hfr.stp hs
 have rp2 := rp2.stp hs
 have q1 := q1.stp hs
 have a9 := a9.stp hs
 have eG : OSF 2009 60901 1 g5 w5 137 236 ([] : List ChainCard) p5 := cb.osf (by rfl)
 clear cb
 refine EL_do .plain rfl (D_storeOc (g := g5) (v := x8) Try.sizeOf236 rfl b5 rfl a9 fun g6 w6 hs b6 cb => ?_)
 clear cb
 have hfr := hfr.stp hs
 have rp2 := rp2.stp hs
 have q1 := q1.stp hs
 refine EL_at (.int .i64 (y4.2)) rfl rfl ?_
 refine EL_nil (thn_n (E_joinC h (fun (s : (List Int)) e w => ∃ (g : Gh) (v6 : Value), Fr gI wI g w ∧ e 1 = .int .i64 (x1) ∧ e 2 = up2 ∧ RV g.m w (x2 : List Int) up2 ∧ e 6 = v6 ∧ RV g.m w (s : List Int) v6 ∧ OS 1006 g w 3 (s : List Int) v6 ∧ e 9 = p5 ∧ OB 2009 g w 236 (y4.1 : ChainChainBelt) p5) (fun X18 k18 xD h => ?_) ?_))
 ·refine E_block ?_
  refine E_seq (E_region (EL_mw (.int .i64 (y4.2)) rfl rfl ?_))
  refine EL_in (.bool ((y4.2 != (0 : Int)))) rfl rfl rfl rfl ?_
  refine EL_at (.bool ((y4.2 != (0 : Int)))) rfl rfl ?_
  refine EL_nil (thn_n ?_)
  rcases csome h with ⟨d9, h⟩ | ⟨d9, h⟩
  ·refine E_ct d9 rfl ?_
   refine E_seq (E_region (EL_mw (.int .i64 (y4.2)) rfl rfl ?_))
   refine EL_at (.slice none 0 0) rfl rfl ?_
   refine EL_at (.int .i64 (0)) rfl rfl ?_
   refine EL_at (.int .i64 (y4.2)) rfl rfl ?_
   refine EL_nil (thn_n (E_ret (blk_r ?_)))
   refine thn_r ?_
   obtain rfl := sinj h
   exact end3 rfl rfl (show _ = .slice none 0 0 from rfl) (show _ = .int .i64 (0) from rfl) (show _ = .int .i64 (y4.2) from rfl) ⟨_, hfr, _, _, _, rfl, RV_nil, rfl, rfl⟩
  ·refine E_cf d9 rfl ?_
   refine E_seq (E_region (EL_p (fPtr p1 1) (P_fieldAddr at_110_1 rfl (PT.ptr q1)) rfl ?_))
   have oE := PT_field (part_ChainBelt_1).1 q1
   refine EL_do .plain rfl (D_load (g := g6) Try.isAgg108 Try.sizeOf108 rfl oE fun xG rE => ?_)
   refine EL_p (.int .i64 (((x0).Cards).length : Int)) (P_len Try.underlying108 rfl rE) rfl ?_
   refine EL_p (.int .i64 ((w64 ((((x0).Cards).length : Int) - (1 : Int))))) (P_int rfl rfl rfl) rfl ?_
   refine EL_mw (.int .i64 (x1)) rfl rfl ?_
   refine EL_do .plain rfl (D_buildSlice (g := g6) 3027 (xs := ([x1] : List Int)) (vs := [.int .i64 (x1)]) Try.underlying26 Try.sizeOf3 Try.zeroValue3 rfl rfl (.cons rfl .nil) (RVs.cons (RV_int.2 rfl) RVs.nil) rfl rfl fun uE yG vE hs o22 xE hxt hfl => ?_)
   have hfr := hfr.stp hs
   have rp2 := rp2.stp hs
   have b6 := b6.stp hs rfl
   obtain ⟨z9, yD, h⟩ := bsome h
   refine EL_do .plain rfl (D_call (g := uE) (vs := [.int .i64 (0), .int .i64 ((w64 ((((x0).Cards).length : Int) - (1 : Int)))), vE]) en112 (.cons rfl (.cons rfl (.cons rfl .nil))) (wk112 xE yD) fun yE gG zG hs hr => ?_)
   have hfr := hfr.ext hs
   have rp2 := rp2.ext hs
   have b6 := b6.ext hs
   subst hr
   refine EL_p (.bool (!z9)) (P_not rfl) rfl ?_
   refine EL_at (.bool (!z9)) rfl rfl ?_
   refine EL_nil (thn_n ?_)
   rcases csome h with ⟨k9, h⟩ | ⟨k9, h⟩
   ·refine E_ct k9 rfl ?_
    refine E_seq (E_region (EL_at (.slice none 0 0) rfl rfl ?_))
    refine EL_at (.int .i64 (0)) rfl rfl ?_
    refine EL_at (.int .i64 (7)) rfl rfl ?_
    refine EL_nil (thn_n (E_ret (blk_r ?_)))
    refine thn_r ?_
    obtain rfl := sinj h
    exact end3 rfl rfl (show _ = .slice none 0 0 from rfl) (show _ = .int .i64 (0) from rfl) (show _ = .int .i64 (7) from rfl) ⟨_, hfr, _, _, _, rfl, RV_nil, rfl, rfl⟩
   ·refine E_cf k9 rfl ?_
    refine E_seq (E_region (EL_mw up2 rfl rfl ?_))
    refine EL_p (.int .i64 ((x2).length : Int)) (P_len Try.underlying26 rfl rp2) rfl ?_
    refine EL_in (.bool ((decide (((x2).length : Int) > (60 : Int))))) rfl rfl rfl rfl ?_
    refine EL_at (.bool ((decide (((x2).length : Int) > (60 : Int))))) rfl rfl ?_
    refine EL_nil (thn_n ?_)
    rcases csome h with ⟨l9, h⟩ | ⟨l9, h⟩
    ·refine E_ct l9 rfl ?_
     refine E_seq (E_region (EL_at (.slice none 0 0) rfl rfl ?_))
     refine EL_at (.int .i64 (0)) rfl rfl ?_
     refine EL_at (.int .i64 (5)) rfl rfl ?_
     refine EL_nil (thn_n (E_ret (blk_r ?_)))
     refine thn_r ?_
     obtain rfl := sinj h
     exact end3 rfl rfl (show _ = .slice none 0 0 from rfl) (show _ = .int .i64 (0) from rfl) (show _ = .int .i64 (5) from rfl) ⟨_, hfr, _, _, _, rfl, RV_nil, rfl, rfl⟩
    ·refine E_cf l9 rfl ?_
     refine E_seq (E_region (EL_mw up2 rfl rfl ?_))
     obtain ⟨bA, zD, h⟩ := bsome h
     refine EL_do .plain rfl (D_call (g := yE) (vs := [.int .i64 (0), .int .i64 (2), up2]) en112 (.cons rfl (.cons rfl (.cons rfl .nil))) (wk112 rp2 zD) fun zE hG aH hs hr => ?_)
     have hfr := hfr.ext hs
     have rp2 := rp2.ext hs
     have b6 := b6.ext hs
     subst hr
     refine EL_p (.bool (!bA)) (P_not rfl) rfl ?_
     refine EL_at (.bool (!bA)) rfl rfl ?_
     refine EL_nil (thn_n ?_)
     rcases csome h with ⟨n9, h⟩ | ⟨n9, h⟩
     ·refine E_ct n9 rfl ?_
      refine E_seq (E_region (EL_at (.slice none 0 0) rfl rfl ?_))
      refine EL_at (.int .i64 (0)) rfl rfl ?_
      refine EL_at (.int .i64 (2)) rfl rfl ?_
      refine EL_nil (thn_n (E_ret (blk_r ?_)))
      refine thn_r ?_
      obtain rfl := sinj h
      exact end3 rfl rfl (show _ = .slice none 0 0 from rfl) (show _ = .int .i64 (0) from rfl) (show _ = .int .i64 (2) from rfl) ⟨_, hfr, _, _, _, rfl, RV_nil, rfl, rfl⟩
     ·refine E_cf n9 rfl ?_
      exact E_skip (blk_n (thn_n (xD ([]) _ _ ⟨zE, (.slice none 0 0), hfr, rfl, rfl, rp2, rfl, RV_nil, OS.nil, rfl, b6⟩ h)))
 ·rintro y9 iG cH ⟨cF, vB, hfr, yB, zB, iA, cC, mC, qC, rC, uC⟩ h
  refine E_seq (E_region (EL_mv yB rfl ?_))
  refine EL_at (.int .i64 (x1)) rfl rfl ?_
  refine EL_nil (thn_n ?_)
  obtain ⟨⟨m7, y6⟩, hx, h⟩ := bsome h
  refine E_join (fun e w => ∃ (g : Gh) (v6 : Value), Fr gI wI g w ∧ e 6 = v6 ∧ RV g.m w (m7 : List Int) v6 ∧ OS 1006 g w 3 (m7 : List Int) v6 ∧ e 7 = .int .i64 (y6)) (fun Q' hQ => ?_) (fun jG dH hR => ?_)
  ·replace h := hx
   clear hx
   refine E_seq (E_region (EL_mv zB rfl ?_))
   refine EL_p (.int .i64 ((x2).length : Int)) (P_len Try.underlying26 rfl iA) rfl ?_
   refine EL_mw (.int .i64 (0)) rfl rfl ?_
   refine EL_nil (thn_n (E_block ?_))
   refine E_lp h (fun (s : (List Int) × Int × Int) e w => ∃ (g : Gh) (v6 : Value), Fr gI wI g w ∧ e 6 = v6 ∧ RV g.m w (s.1 : List Int) v6 ∧ OS 1006 g w 3 (s.1 : List Int) v6 ∧ e 7 = .int .i64 (s.2.1) ∧ e 9 = p5 ∧ OB 2009 g w 236 (y4.1 : ChainChainBelt) p5 ∧ e 39 = up2 ∧ RV g.m w (x2 : List Int) up2 ∧ e 40 = .int .i64 (((x2).length : Int)) ∧ e 41 = .int .i64 (s.2.2)) ⟨cF, (vB), hfr, cC, mC, qC, rfl, rC, uC, rfl, iA, rfl, rfl⟩ (fun X59 sD aE => ?_)
   rintro ⟨k8, t5, u3⟩ kG gH ⟨rA, vC, hfr, yA, x5, i6, l8, m8, l5, r8, o0, v8, g8⟩ h
   refine E_seq (E_region (EL_in (.bool ((decide (u3 < ((x2).length : Int))))) g8 v8 rfl rfl ?_))
   refine EL_nil (thn_n (E_seq ?_))
   rcases csome h with ⟨u9, h⟩ | ⟨u9, h⟩
   ·refine E_ct u9 rfl ?_
    refine E_skip (thn_n ?_)
    obtain ⟨⟨x6, i7⟩, hx, h⟩ := bsome h
    refine E_join (fun e w => ∃ (g : Gh) (v6 : Value), Fr gI wI g w ∧ e 6 = v6 ∧ RV g.m w (x6 : List Int) v6 ∧ OS 1006 g w 3 (x6 : List Int) v6 ∧ e 7 = .int .i64 (i7) ∧ e 9 = p5 ∧ OB 2009 g w 236 (y4.1 : ChainChainBelt) p5 ∧ e 39 = up2 ∧ RV g.m w (x2 : List Int) up2 ∧ e 40 = .int .i64 (((x2).length : Int)) ∧ e 41 = .int .i64 (u3)) (fun Q' hQ => ?_) (fun lG iH hR => ?_)
    ·replace h := hx
     clear hx
     refine E_block ?_
     refine E_seq (E_region ?_)
     obtain ⟨n8, iB, h⟩ := bsome h
     refine EL_p (ePtr up2 u3 1) (P_indexAddr (α := Int) Try.underlying26 Try.sizeOf3 r8 o0 g8 iB) rfl ?_
     have dF := PT_idx o0 iB
     refine EL_do .plain rfl (D_load (g := rA) Try.isAgg3 Try.sizeOf3 rfl dF fun jH eF => ?_)
     obtain rfl := RV_int.1 eF
     refine EL_at (.int .i64 (n8)) rfl rfl ?_
     refine EL_nil (thn_n (E_seq (E_region (EL_mv yA rfl ?_))))
     refine EL_do .plain rfl (D_loadO (g := rA) Try.isAgg236 Try.sizeOf236 m8 l5 fun rF sF => ?_)
     refine EL_mv l8 rfl ?_
     obtain ⟨y80, bE, h⟩ := bsome h
     refine EL_do .plain rfl (D_call (g := rA) (vs := [rF, .int .i64 (t5)]) en113 (.cons rfl (.cons rfl .nil)) (wk113 sF bE) fun tF mG kH hs hr => ?_)
     have hfr := hfr.ext hs
     have x5 := x5.ext hs
     have i6 := i6.ext hs
     have l5 := l5.ext hs
     have o0 := o0.ext hs
     subst hr
     refine EL_do .plain rfl (D_buildSlice (g := tF) 3049 (xs := ([y80] : List Int)) (vs := [.int .i64 (y80)]) Try.underlying26 Try.sizeOf3 Try.zeroValue3 rfl rfl (.cons rfl .nil) (RVs.cons (RV_int.2 rfl) RVs.nil) rfl rfl fun uF lH mH hs o81 vF hxt hfl => ?_)
     have hfr := hfr.stp hs
     have x5 := x5.stp hs
     have i6 := i6.stp hs rfl
     have l5 := l5.stp hs rfl
     have o0 := o0.stp hs
     obtain ⟨tD, iE, h⟩ := bsome h
     refine EL_do .plain rfl (D_append (g := uF) (i := 1006) Try.underlying26 info_3 rfl rfl i6 x5 rfl vF iE fun uD nH vD hs o82 lB _ => ?_)
     have hfr := hfr.stp hs
     have l5 := l5.stp hs rfl
     have o0 := o0.stp hs
     refine EL_at vD rfl rfl ?_
     refine EL_nil (thn_n (E_region (EL_do .plain rfl (D_loadO (g := uD) Try.isAgg236 Try.sizeOf236 m8 l5 fun xF yF => ?_))))
     refine EL_mv l8 rfl ?_
     refine EL_mw (.int .i64 (n8)) rfl rfl ?_
     obtain ⟨dB, lE, h⟩ := bsome h
     refine EL_do .plain rfl (D_call (g := uD) (vs := [xF, .int .i64 (t5), .int .i64 (n8)]) en114 (.cons rfl (.cons rfl (.cons rfl .nil))) (wk114 yF lE) fun zF sG oH hs hr => ?_)
     have hfr := hfr.ext hs
     have lB := lB.ext hs
     have o82 := o82.ext hs
     have l5 := l5.ext hs
     have o0 := o0.ext hs
     subst hr
     refine EL_at (.int .i64 (dB)) rfl rfl ?_
     refine EL_nil (blk_n ?_)
     obtain ⟨rfl, rfl⟩ := pairs2 h
     exact hQ _ _ ⟨zF, (vD), hfr, rfl, lB, o82, rfl, m8, l5, r8, o0, v8, g8⟩
    ·clear hx
     obtain ⟨aG, aD, hfr, bD, cD, eD, gD, iD, jD, mB, nB, oB, tB⟩ := hR
     refine E_region (EL_in (.int .i64 ((w64 (u3 + (1 : Int))))) tB rfl rfl rfl ?_)
     refine EL_mw (.int .i64 ((w64 (u3 + (1 : Int))))) rfl rfl ?_
     exact EL_nil (thn_n (aE (x6, i7, (w64 (u3 + (1 : Int)))) _ _ ⟨aG, (aD), hfr, bD, cD, eD, gD, iD, jD, mB, nB, oB, rfl⟩ h))
   ·refine E_cf u9 rfl ?_
    refine E_exit ?_
    refine thn_e ?_
    refine thn_e ?_
    refine blk_hit ?_
    obtain ⟨rfl, rfl⟩ := pairs2 h
    exact hQ _ _ ⟨rA, (vC), hfr, yA, x5, i6, l8⟩
  ·clear hx
   obtain ⟨pH, aB, hfr, lD, nD, bG, oD⟩ := hR
   refine E_seq (E_region (EL_mv lD rfl ?_))
   refine EL_mv oD rfl ?_
   refine EL_at aB rfl rfl ?_
   refine EL_at (.int .i64 (y6)) rfl rfl ?_
   refine EL_at (.int .i64 (0)) rfl rfl ?_
   refine EL_nil (thn_n (E_ret ?_))
   obtain rfl := sinj h
   exact end3 rfl rfl (show _ = aB from rfl) (show _ = .int .i64 (y6) from rfl) (show _ = .int .i64 (0) from rfl) ⟨_, hfr, _, _, _, rfl, nD, rfl, rfl⟩
theorem O264 {iO : Nat} {gI : Gh} {wI : World} {x1 : It ChainCard} {up1 : Value} (rp1 : ItV Try.prog (RA1 (α := ChainCard)) x1 up1 gI.m wI) {r : (List ChainCard)} (h : f264 x1 = some r) : FnG Try.prog 264 #[.slice none 0 0, up1] gI wI (fun g w v => OA iO g w 137 (r) v) := by
 unfold f264 at h
 refine fnGD_of_E Try.func264 rfl (Nat.le_of_ble_eq_true rfl) fun g0 hm hfr => ?_
 have hmk : MkF g0 wI [] := MkF.start
 have rp1 : ItV Try.prog (RA1 (α := ChainCard)) x1 up1 g0.m wI := hm ▸ rp1
 show E _ 13 none _ _ _ _ _
 refine E_seq (E_region (EL_do .plain rfl (D_boxOc (g := g0) (a := (([] : List ChainCard) : List ChainCard)) 2002 rfl RV_nil fun g1 w1 p1 hs b1 cb => ?_)))
 have hfr := hfr.stp hs
 have hmk := hmk.stp hs
 have rp1 := rp1.stp hs
 have a9 : OSF 2002 60200 0 g1 w1 137 108 (([] : List ChainCard) : List ChainCard) p1 := cb.osfr rfl (OS.nil : OS 60200 g1 w1 137 (([] : List ChainCard) : List ChainCard) (.slice none 0 0))
 clear cb
 refine EL_at (.slice none 0 0) rfl rfl ?_
 refine EL_nil (thn_n ?_)
 obtain ⟨x5, hx, h⟩ := bsome h
 refine E_joinD (fun e ds w => ∃ (g : Gh) , Fr gI wI g w ∧ MkF g w ds ∧ e 2 = p1 ∧ OB 2002 g w 108 (x5 : List ChainCard) p1 ∧ OSF 2002 60200 0 g w 137 108 (x5) p1) (fun Q' hQ => ?_) (fun zB mB mC hR => ?_)
 ·replace h := hx
  clear hx
  refine E_seq (E_region (EL_mw up1 rfl rfl ?_))
  refine EL_nil (thn_n (E_block ?_))
  have hB0 := hfr.size
  have hmk0 := hmk
  obtain ⟨nB, hφ, h⟩ := bsome h
  refine E_rangeFunc (σ := ((List ChainCard))) (s0 := ((([] : List ChainCard) : List ChainCard))) 10 rfl (fun _ => 0) [] (fun (s : (List ChainCard)) (g : Gh) (w : World) => Fr gI wI g w ∧ MkF g w [] ∧ OB 2002 g w 108 (s : List ChainCard) p1 ∧ OSF 2002 60200 0 g w 137 108 (s) p1 ∧ ItV Try.prog (RA1 (α := ChainCard)) x1 up1 g.m w) rfl rp1 hφ (fun _ _ _ _ => rfl) rfl ra1_size rfl (fun _ _ _ _ _ hx hR => by obtain ⟨hfr, hmk, z2, z3, z4⟩ := hR; exact ⟨hfr.ist hx hB0, hmk.ist hx, z2.ist hx, z3.ist hx, z4.ist hx⟩) (fun _ _ _ _ _ hx hR => by obtain ⟨hfr, hmk, z2, z3, z4⟩ := hR; exact ⟨hfr.stp hx, hmk.stp hx, z2.stp hx rfl, z3.stp hx rfl, z4.stp hx⟩) ⟨hfr, hmk, b1, a9, rp1⟩ (fun _ h => by cases h) ?_ ?_
  ·intro cC oB s x b s2 r8 k9 vs hsz h hR hrec_0 i6 hrd
   obtain ⟨tB, hse⟩ : ∃ y, y = s := ⟨s, rfl⟩
   subst hse
   obtain ⟨hfr, hmk, l5, u2_0_34, o0⟩ := hR
   obtain ⟨m7, hxe⟩ : ∃ y, y = x := ⟨x, rfl⟩
   subst hxe
   obtain ⟨g8, rfl, t5⟩ := ra1_get hrd
   have u3 := RFr.refl r8 k9
   refine E_region (EL_do .plain rfl (D_allocOc (g := r8) 2005 (⟨0, 0, false⟩ : ChainCard) Try.zeroValue137 (fun m w => ⟨_, (rep_two rep_int (rep_two rep_int rep_bool)), rfl⟩) fun l9 qC rC hs b35 cb => ?_))
   have hfr := hfr.stp hs
   have hmk := hmk.stp hs
   have u3 := u3.stp hs
   have hrec_0 := hrec_0.stp hs rfl
   have u2_0_34 := u2_0_34.stp hs rfl
   have l5 := l5.stp hs rfl
   have o0 := o0.stp hs
   have t5 := t5.stp hs
   clear cb
   refine EL_do .plain rfl (D_storeOc (g := l9) (v := g8) Try.sizeOf137 rfl b35 rfl t5 fun x6 uC hs b36 cb => ?_)
   clear cb
   have hfr := hfr.stp hs
   have hmk := hmk.stp hs
   have u3 := u3.stp hs
   have hrec_0 := hrec_0.stp hs rfl
   have u2_0_34 := u2_0_34.stp hs rfl
   have l5 := l5.stp hs rfl
   have o0 := o0.stp hs
   refine EL_nil (thn_n ?_)
   obtain ⟨n9, hbr, hs, hrN⟩ := begin_round hrec_0 i6
   refine ⟨n9, hbr, ?_⟩
   have hfr := hfr.stp hs
   have hmk := hmk.stp hs
   have u3 := u3.stp hs
   have u2_0_34 := u2_0_34.stp hs rfl
   have l5 := l5.stp hs rfl
   have o0 := o0.stp hs
   have b36 := b36.stp hs rfl
   have hrec_0 := hrN
   clear hbr hs hrN
   refine E_block ?_
   refine E_region (EL_do .plain rfl (D_loadOS (g := x6) Try.isAgg108 Try.sizeOf108 rfl l5 u2_0_34 fun vC y6 o38 => ?_))
   refine EL_do .plain rfl (D_loadO (g := x6) Try.isAgg137 Try.sizeOf137 rfl b36 fun u9 y9 => ?_)
   refine EL_do .plain rfl (D_buildSlice (g := x6) 3010 (xs := ([m7] : List ChainCard)) (vs := [u9]) Try.underlying108 Try.sizeOf137 Try.zeroValue137 rfl rfl (.cons rfl .nil) (RVs.cons y9 RVs.nil) rfl rfl fun z9 aD bD hs o40 bA hxt hfl => ?_)
   have hfr := hfr.stp hs
   have hmk := hmk.stp hs
   have u3 := u3.stp hs
   have hrec_0 := hrec_0.stp hs rfl
   have l5 := l5.stp hs rfl
   have o0 := o0.stp hs
   have y6 := y6.stp hs
   have o38 := o38.stp hs rfl
   obtain ⟨iA, d9, h⟩ := bsome h
   refine EL_do .plain rfl (D_append (g := z9) (i := 60200) Try.underlying108 info_137 rfl rfl o38 y6 rfl bA d9 fun rA cD yA hs o41 v8 _ => ?_)
   have hfr := hfr.stp hs
   have hmk := hmk.stp hs
   have u3 := u3.stp hs
   have hrec_0 := hrec_0.stp hs rfl
   have l5 := l5.stp hs rfl
   have o0 := o0.stp hs
   refine EL_do .plain rfl (D_storeOc (g := rA) (v := yA) Try.sizeOf108 rfl l5 rfl v8 fun aB dB hs b43 cb => ?_)
   have k8 : OSF 2002 60200 0 aB dB 137 108 (iA : List ChainCard) p1 := cb.osfr (rv_cells1 v8) (o41.stp hs rfl)
   clear cb
   have hfr := hfr.stp hs
   have hmk := hmk.stp hs
   have u3 := u3.stp hs
   have hrec_0 := hrec_0.stp hs rfl
   have o0 := o0.stp hs
   refine EL_nil (blk_n ?_)
   obtain ⟨rfl, rfl⟩ := pairs2 h
   exact ⟨_, u3, ⟨hfr, hmk, b43, k8, o0⟩, hrec_0, rfl, rfl⟩
  ·intro iB eD ds45 hsz hR hds
   obtain ⟨hfr, hmk, l8, u2_0_45, vB⟩ := hR
   obtain ⟨D, hdse, hD, hDb⟩ := hds.1 rfl
   subst hdse
   replace hmk := MkF.push hmk0 hmk hD hDb
   clear hD hDb hds
   revert hmk
   generalize ({ target := .collected D, args := #[] } :: [] : List Deferred) = yB
   intro hmk
   refine ⟨fun _ => ?_, fun k c hs _ => absurd hs (Nat.succ_ne_zero k).symm⟩
   refine blk_n ?_
   obtain rfl := sinj h
   exact hQ _ _ _ ⟨iB, hfr, hmk, rfl, l8, u2_0_45⟩
 ·clear hx
  obtain ⟨lB, hfr, hmk, m8, n8, u2_0_46⟩ := hR
  refine E_seq (E_region (EL_do .plain rfl (D_loadOS (g := lB) Try.isAgg108 Try.sizeOf108 m8 n8 u2_0_46 fun x8 i7 o47 => ?_)))
  refine EL_at x8 rfl rfl ?_
  refine EL_nil (thn_n (E_ret (endM (.inr rfl) hmk fun gD iD hs => ?_)))
  have hfr := hfr.stp hs
  have i7 := i7.stp hs
  have o47 := o47.stp hs rfl
  obtain rfl := sinj h
  obtain ⟨gh, hxh, homh⟩ := OA.handS (i := iO) plain_ChainCard hfr o47 i7
  exact end1 rfl rfl (show _ = x8 from rfl) ⟨gh, hxh, homh⟩
theorem O209 {iO : Nat} {gI : Gh} {wI : World} {x0 : It ChainCard} {up0 : Value} (rp0 : ItV Try.prog (RA1 (α := ChainCard)) x0 up0 gI.m wI) {r : (List ChainCard)} (h : f209 x0 = some r) : FnG Try.prog 209 #[up0] gI wI (fun g w v => OA iO g w 137 (r) v) := by
 unfold f209 at h
 refine fnG_of_E Try.func209 rfl (Nat.le_of_ble_eq_true rfl) fun g0 hm hfr => ?_
 have rp0 : ItV Try.prog (RA1 (α := ChainCard)) x0 up0 g0.m wI := hm ▸ rp0
 show E _ 5 none _ _ _ _ _
 refine E_seq (E_region (EL_at (.slice none 0 0) rfl rfl ?_))
 have b1 : OA 4002 g0 wI 137 ([] : List ChainCard) (.slice none 0 0) := OA.nil
 refine EL_nil (thn_n (E_seq (E_region (EL_mw up0 rfl rfl ?_))))
 obtain ⟨y3, hy3, h⟩ := bsome h
 refine EL_do .plain rfl (D_callG (g := g0) (vs := [.slice none 0 0, up0]) en264 (.cons rfl (.cons rfl .nil)) (O264 (iO := 9004) rp0 hy3) fun g2 w2_ v2 hs hr => ?_)
 have hfr := hfr.ext hs
 have hm2 := hr
 refine EL_at v2 rfl rfl ?_
 refine EL_nil (thn_n (E_ret ?_))
 obtain rfl := sinj h
 obtain ⟨gh, hxh, hmh, homh⟩ := OA.handA (i := iO) hfr hm2
 exact end1 rfl rfl (show _ = v2 from rfl) ⟨gh, hxh, homh⟩
theorem A289 {iI : Nat} {gI : Gh} {wI : World} {x0 : List ChainCard} {x1 : Int} {x2 : Int} {x3 : ChainCard → ChainCard → Option Int} {up0 : Value} (mp0 : OA iI gI wI 137 x0 up0) {up3 : Value} (rp3 : FnV2 Try.prog x3 up3 gI wI) {r : (List ChainCard)} (h : f289 x0 x1 x2 x3 = some r) : FnM Try.prog 289 #[up0, .int .i64 (x1), .int .i64 (x2), up3] iI gI wI (fun g w v => v = .tuple #[] ∧ OA iI g w 137 r up0) := by
 unfold f289 at h
 refine fnM_of_E Try.func289 rfl (Nat.le_of_ble_eq_true rfl) fun g0 hm hfr => ?_
 have yD := mp0
 replace mp0 := mp0.enter
 rw [← hm] at mp0
 replace hm : g0.m = gI.m := by rw [hm]
 obtain ⟨ff3, fa3, fc3, rfl, fen3, fcl3⟩ := rp3
 show E _ 53 none _ _ _ _ _
 refine E_seq (E_region (EL_mw (.int .i64 (x1)) rfl rfl ?_))
 refine EL_in (.int .i64 ((w64 (x1 + (1 : Int))))) rfl rfl rfl rfl ?_
 refine EL_at (.int .i64 ((w64 (x1 + (1 : Int))))) rfl rfl ?_
 refine EL_nil (thn_n (E_block ?_))
 refine E_lp h (fun (s : (List ChainCard) × Int) e w => ∃ (g : Gh) , FrM iI gI wI g w ∧ e 0 = up0 ∧ OA 1 g w 137 (s.1 : List ChainCard) up0 ∧ e 1 = .int .i64 (x1) ∧ e 2 = .int .i64 (x2) ∧ e 3 = (.func (.func ff3) fa3 fc3) ∧ e 8 = .int .i64 (s.2)) ⟨g0, hfr, rfl, mp0, rfl, rfl, rfl, rfl⟩ (fun X1 k1 hk1 => ?_)
 rintro ⟨rE, x5⟩ pH w2 ⟨g2, hfr, uE, mB, vE, nB, xE, oB⟩ h
 refine E_joinC h (fun (s : Unit) e w => ∃ (g : Gh) , FrM iI gI wI g w ∧ e 0 = up0 ∧ OA 1 g w 137 (rE : List ChainCard) up0 ∧ e 1 = .int .i64 (x1) ∧ e 2 = .int .i64 (x2) ∧ e 3 = (.func (.func ff3) fa3 fc3) ∧ e 8 = .int .i64 (x5)) (fun X4 k4 hk4 h => ?_) ?_
 ·refine E_seq (E_region (EL_mv oB rfl ?_))
  refine EL_mv nB rfl ?_
  refine EL_in (.bool ((decide (x5 < x2)))) rfl rfl rfl rfl ?_
  refine EL_nil (thn_n ?_)
  rcases csome h with ⟨hc5, h⟩ | ⟨hc5, h⟩
  ·refine E_ct hc5 rfl ?_
   exact E_skip (thn_n (hk4 () _ _ ⟨g2, hfr, uE, mB, vE, nB, xE, oB⟩ h))
  ·refine E_cf hc5 rfl ?_
   refine E_exit ?_
   refine thn_e ?_
   refine thn_e ?_
   refine blk_hit ?_
   obtain rfl := sinj h
   exact end0n rfl rfl ⟨_, hfr, rfl, yD.back mB⟩
 ·rintro _ qH w6 ⟨g6, hfr, yE, zE, cF, dF, eF, tB⟩ h
  obtain ⟨v8, hx, h⟩ := bsome h
  refine E_join (fun e w => ∃ (g : Gh) , FrM iI gI wI g w ∧ e 0 = up0 ∧ OA 1 g w 137 (v8 : List ChainCard) up0 ∧ e 1 = .int .i64 (x1) ∧ e 2 = .int .i64 (x2) ∧ e 3 = (.func (.func ff3) fa3 fc3) ∧ e 8 = .int .i64 (x5)) (fun Q' hQ => ?_) (fun iG sG hR => ?_)
  ·replace h := hx
   clear hx
   refine E_block ?_
   refine E_seq (E_region (EL_mv tB rfl ?_))
   refine EL_at (.int .i64 (x5)) rfl rfl ?_
   refine EL_nil (thn_n (E_block ?_))
   refine E_lp h (fun (s : (List ChainCard) × Int) e w => ∃ (g : Gh) , FrM iI gI wI g w ∧ e 0 = up0 ∧ OA 1 g w 137 (s.1 : List ChainCard) up0 ∧ e 1 = .int .i64 (x1) ∧ e 2 = .int .i64 (x2) ∧ e 3 = (.func (.func ff3) fa3 fc3) ∧ e 8 = .int .i64 (x5) ∧ e 9 = .int .i64 (s.2)) ⟨g6, hfr, yE, zE, cF, dF, eF, tB, rfl⟩ (fun X297 xG zD => ?_)
   rintro ⟨x8, o0⟩ jG yG ⟨vB, hfr, i7, l5, m7, a9, k8, d9, i6⟩ h
   refine E_joinC h (fun (s : Unit) e w => ∃ (g : Gh) , FrM iI gI wI g w ∧ e 0 = up0 ∧ OA 1 g w 137 (x8 : List ChainCard) up0 ∧ e 1 = .int .i64 (x1) ∧ e 2 = .int .i64 (x2) ∧ e 3 = (.func (.func ff3) fa3 fc3) ∧ e 8 = .int .i64 (x5) ∧ e 9 = .int .i64 (o0)) (fun X411 zG aE h => ?_) ?_
   ·obtain ⟨g8, hx, h⟩ := bsome h
    refine E_join (fun e w => ∃ (g : Gh) , FrM iI gI wI g w ∧ e 0 = up0 ∧ OA 1 g w 137 (x8 : List ChainCard) up0 ∧ e 1 = .int .i64 (x1) ∧ e 2 = .int .i64 (x2) ∧ e 3 = (.func (.func ff3) fa3 fc3) ∧ e 8 = .int .i64 (x5) ∧ e 9 = .int .i64 (o0) ∧ e 34 = .bool (g8)) (fun Q' hQ => ?_) (fun kG aH hR => ?_)
    ·replace h := hx
     clear hx
     rcases csome h with ⟨u3, h⟩ | ⟨u3, h⟩
     ·obtain ⟨cH, rA, h⟩ := bsome h
      refine L_loadM (x := .tmp 25) Try.isAgg137 Try.sizeOf137 (l5.toM) rA fun yB rF bE => ?_
      obtain ⟨dH, yA, h⟩ := bsome h
      refine L_loadM (x := .tmp 30) Try.isAgg137 Try.sizeOf137 (l5.toM) yA fun zB sF iE => ?_
      obtain ⟨n8, lE, h⟩ := bsome h
      refine E_drawL (g := vB) (n := 17) [(14, (fun v g w => v = .int .i64 (n8)))] [0, 1, 2, 3, 4, 5, 6, 7, 8, 9, 10, 11, 12, 13, 14, 15, 16] rfl mixed (by kernel_rfl) (⟨fun _ => up_eq _, trivial⟩) ?_
      refine L_p (.int .i64 (o0)) rfl rfl (P_move i6) ?_
      refine L_p (.int .i64 (x1)) rfl rfl (P_move m7) ?_
      refine L_p (.bool ((decide (o0 > x1)))) rfl rfl (P_int rfl rfl rfl) ?_
      refine L_p (.bool ((decide (o0 > x1)))) rfl rfl (P_move rfl) ?_
      refine L_y ((.func (.func ff3) fa3 fc3)) rfl rfl rfl rfl u3 (P_move k8) ?_
      refine L_y up0 rfl rfl rfl rfl u3 (P_move i7) ?_
      refine L_y (.int .i64 (o0)) rfl rfl rfl rfl u3 (P_move i6) ?_
      refine L_y (ePtr up0 o0 3) rfl rfl rfl rfl u3 (P_indexAddrM (α := ChainCard) Try.underlying108 Try.sizeOf137 rfl (l5.toM) rfl rA) ?_
      refine L_ld (c := yB) rfl rfl (.yes2 rfl rfl u3) (fun _ _ h => ⟨h.ch, fun b hb _ => h.below.block b hb⟩) bE rfl ?_
      refine L_y up0 rfl rfl rfl rfl u3 (P_move i7) ?_
      refine L_y (.int .i64 (o0)) rfl rfl rfl rfl u3 (P_move i6) ?_
      refine L_y (.int .i64 ((w64 (o0 - (1 : Int))))) rfl rfl rfl rfl u3 (P_int rfl rfl rfl) ?_
      refine L_y (ePtr up0 (w64 (o0 - (1 : Int))) 3) rfl rfl rfl rfl u3 (P_indexAddrM (α := ChainCard) Try.underlying108 Try.sizeOf137 rfl (l5.toM) rfl yA) ?_
      refine L_ld (c := zB) rfl rfl (.yes2 rfl rfl u3) (fun _ _ h => ⟨h.ch, fun b hb _ => h.below.block b hb⟩) iE rfl ?_
      refine L_do (φ := fun v g w => v = .int .i64 (n8)) rfl rfl (.yes2 rfl rfl u3) (fun g w hd => D_callv (g := g) (vs := [yB, zB]) rfl fen3 (.cons rfl (.cons rfl .nil)) (fcl3 _ _ (hfr.ext hd.1).ch _ _ _ _ _  (rF.ext hd.1) (sF.ext hd.1) lE) fun g' w' v hs hr => ⟨g', hs, RV_int.1 hr⟩) (fun gH hv => ?_)
      obtain ⟨_, _, _, rfl⟩ := hv
      refine L_y (.bool ((decide (n8 < (0 : Int))))) rfl rfl rfl rfl u3 (P_int rfl rfl rfl) ?_
      refine L_p (.bool ((decide (n8 < (0 : Int))))) rfl rfl (P_pick (b := (decide (o0 > x1))) rfl (pick_t u3 rfl)) ?_
      refine L_nl fun tF iH hs => ?_
      have hfr := hfr.ext hs
      have l5 := l5.ext hs
      clear hs
      refine EL_nil ?_
      obtain rfl := sinj h
      exact hQ _ _ ⟨tF, hfr, i7, l5, m7, a9, k8, d9, i6, rfl⟩
     ·refine E_drawL (g := vB) (n := 17) [] [0, 1, 2, 3, 4, 5, 6, 7, 8, 9, 10, 11, 12, 13, 14, 15, 16] rfl mixed (by kernel_rfl) trivial ?_
      refine L_p (.int .i64 (o0)) rfl rfl (P_move i6) ?_
      refine L_p (.int .i64 (x1)) rfl rfl (P_move m7) ?_
      refine L_p (.bool ((decide (o0 > x1)))) rfl rfl (P_int rfl rfl rfl) ?_
      refine L_p (.bool ((decide (o0 > x1)))) rfl rfl (P_move rfl) ?_
      iterate 12 refine L_s rfl rfl rfl u3 rfl ?_
      refine L_p (.bool false) rfl rfl (P_pick (b := (decide (o0 > x1))) rfl (pick_f u3 rfl)) ?_
      refine L_nl fun uF jH hs => ?_
      have hfr := hfr.ext hs
      have l5 := l5.ext hs
      clear hs
      refine EL_nil ?_
      obtain rfl := sinj h
      exact hQ _ _ ⟨uF, hfr, i7, l5, m7, a9, k8, d9, i6, rfl⟩
    ·clear hx
     obtain ⟨cC, hfr, k9, l9, n9, u9, y9, z9, mC, m8⟩ := hR
     rcases csome h with ⟨r8, h⟩ | ⟨r8, h⟩
     ·refine E_cond_true (Eq.trans (show ev _ _ = .bool (g8) from m8) (congrArg Value.bool r8)) ?_
      exact E_skip (thn_n (aE () _ _ ⟨cC, hfr, k9, l9, n9, u9, y9, z9, mC⟩ h))
     ·refine E_cond_false (Eq.trans (show ev _ _ = .bool (g8) from m8) (congrArg Value.bool r8)) ?_
      refine E_exit ?_
      refine thn_e ?_
      refine thn_e ?_
      refine blk_hit ?_
      refine blk_n ?_
      obtain rfl := sinj h
      exact hQ _ _ ⟨cC, hfr, k9, l9, n9, u9, y9, z9⟩
   ·rintro _ lG vF ⟨qC, hfr, x6, t5, rC, uC, vC, aD, y6⟩ h
    obtain ⟨bA, hx, h⟩ := bsome h
    refine E_join (fun e w => ∃ (g : Gh) , FrM iI gI wI g w ∧ e 0 = up0 ∧ OA 1 g w 137 (bA : List ChainCard) up0 ∧ e 1 = .int .i64 (x1) ∧ e 2 = .int .i64 (x2) ∧ e 3 = (.func (.func ff3) fa3 fc3) ∧ e 8 = .int .i64 (x5) ∧ e 9 = .int .i64 (o0)) (fun Q' hQ => ?_) (fun mG kH hR => ?_)
    ·replace h := hx
     clear hx
     refine E_block ?_
     obtain ⟨xF, aB, h⟩ := bsome h
     refine L_loadM (x := .tmp 45) Try.isAgg137 Try.sizeOf137 (t5.toM) aB fun yF iA mE => ?_
     obtain ⟨zF, dB, h⟩ := bsome h
     refine L_loadM (x := .tmp 49) Try.isAgg137 Try.sizeOf137 (t5.toM) dB fun aG l8 oE => ?_
     obtain ⟨lH, iB, h⟩ := bsome h
     refine E_drawTL (g := qC) (n := 15) [2, 3, 4] [] [0, 1, 2, 3, 4, 5, 6, 7, 8, 9, 10, 11, 12, 13, 14] rfl mixed (by kernel_rfl) trivial rfl ?_
     refine L_p up0 rfl rfl (P_move x6) ?_
     refine L_p (.int .i64 (o0)) rfl rfl (P_move y6) ?_
     refine L_purL (c := up0) rfl rfl .plain (P_move x6) ?_
     refine L_purL (c := .int .i64 (o0)) rfl rfl .plain (P_move y6) ?_
     refine L_purL (c := .int .i64 ((w64 (o0 - (1 : Int))))) rfl rfl .plain (P_int rfl rfl rfl) ?_
     refine L_p up0 rfl rfl (P_move x6) ?_
     refine L_p (.int .i64 (o0)) rfl rfl (P_move y6) ?_
     refine L_p (.int .i64 ((w64 (o0 - (1 : Int))))) rfl rfl (P_int rfl rfl rfl) ?_
     refine L_p (ePtr up0 (w64 (o0 - (1 : Int))) 3) rfl rfl (P_indexAddrM (α := ChainCard) Try.underlying108 Try.sizeOf137 rfl (t5.toM) rfl aB) ?_
     refine L_ld (c := yF) rfl rfl .plain (fun _ _ h => ⟨h.ch, fun b hb _ => h.below.block b hb⟩) mE rfl ?_
     refine L_p up0 rfl rfl (P_move x6) ?_
     refine L_p (.int .i64 (o0)) rfl rfl (P_move y6) ?_
     refine L_p (ePtr up0 o0 3) rfl rfl (P_indexAddrM (α := ChainCard) Try.underlying108 Try.sizeOf137 rfl (t5.toM) rfl dB) ?_
     refine L_ld (c := aG) rfl rfl .plain (fun _ _ h => ⟨h.ch, fun b hb _ => h.below.block b hb⟩) oE rfl ?_
     refine L_p (ePtr up0 o0 3) rfl rfl (P_indexAddrM (α := ChainCard) Try.underlying108 Try.sizeOf137 rfl (t5.toM) rfl iB) ?_
     refine L_nl fun bD bG hs => ?_
     have hlt : Lt qC.m vF bD bG := hs.ch
     have hfr := hfr.ext hs
     have t5 := t5.ext hs
     have iA := iA.ext hs
     have l8 := l8.ext hs
     clear hs
     refine TL_do hlt.w .plain rfl (D_storeA (g := bD) (α := ChainCard) (a' := xF) Try.sizeOf137 rfl t5 iB rfl iA fun cG mH hs b582 => ?_)
     have hfr := hfr.stp hs
     have hlt := hlt.stp hs
     have l8 := l8.stp hs
     obtain ⟨nH, lB, h⟩ := bsome h
     refine TL_pur hlt.w (v := ePtr up0 (w64 (o0 - (1 : Int))) 3) (P_indexAddrM (α := ChainCard) Try.underlying108 Try.sizeOf137 rfl (b582.toM) rfl lB) .plain rfl ?_
     refine TL_do hlt.w .plain rfl (D_storeA (g := cG) (α := ChainCard) (a' := zF) Try.sizeOf137 rfl b582 lB rfl l8 fun eG oH hs b584 => ?_)
     have hfr := hfr.stp hs
     have hlt := hlt.stp hs
     refine TL_nil hlt.w ?_
     clear hlt
     refine blk_n ?_
     obtain rfl := sinj h
     exact hQ _ _ ⟨eG, hfr, x6, b584, rC, uC, vC, aD, y6⟩
    ·clear hx
     obtain ⟨gG, hfr, cD, eD, gD, iD, jD, lD, nD⟩ := hR
     refine E_region (EL_mv nD rfl ?_)
     refine EL_in (.int .i64 ((w64 (o0 - (1 : Int))))) rfl rfl rfl rfl ?_
     refine EL_at (.int .i64 ((w64 (o0 - (1 : Int))))) rfl rfl ?_
     exact EL_nil (thn_n (zD (bA, (w64 (o0 - (1 : Int)))) _ _ ⟨gG, hfr, cD, eD, gD, iD, jD, lD, rfl⟩ h))
  ·clear hx
   obtain ⟨hG, hfr, oD, sD, tD, uD, vD, xD⟩ := hR
   refine E_region (EL_mv xD rfl ?_)
   refine EL_in (.int .i64 ((w64 (x5 + (1 : Int))))) rfl rfl rfl rfl ?_
   refine EL_at (.int .i64 ((w64 (x5 + (1 : Int))))) rfl rfl ?_
   exact EL_nil (thn_n (hk1 (v8, (w64 (x5 + (1 : Int)))) _ _ ⟨hG, hfr, oD, sD, tD, uD, vD, rfl⟩ h))
theorem A265 (n : Nat) : ∀ {iI : Nat} {gI : Gh} {wI : World} {x0 : List ChainCard} {x1 : Int} {x2 : Int} {x3 : Int} {x4 : ChainCard → ChainCard → Option Int} {up0 : Value} (mp0 : OA iI gI wI 137 x0 up0) {up4 : Value} (rp4 : FnV2 Try.prog x4 up4 gI wI) {r : (List ChainCard)} (h : f265 n x0 x1 x2 x3 x4 = some r), FnM Try.prog 265 #[up0, .int .i64 (x1), .int .i64 (x2), .int .i64 (x3), up4] iI gI wI (fun g w v => v = .tuple #[] ∧ OA iI g w 137 r up0) := by
 induction n with
 | zero => intros; rename_i h; cases h
 | succ n ih =>
 intro iI gI wI x0 x1 x2 x3 x4 up0 mp0 up4 rp4 r h
 simp only [f265] at h
 refine fnM_of_E Try.func265 rfl (Nat.le_of_ble_eq_true rfl) fun g0 hm hfr => ?_
 have iB := mp0
 replace mp0 := mp0.enter
 rw [← hm] at mp0
 replace hm : g0.m = gI.m := by rw [hm]
 obtain ⟨ff4, fa4, fc4, rfl, fen4, fcl4⟩ := rp4
 show E _ 148 none _ _ _ _ _
 refine E_seq (E_region (EL_at (.bool true) rfl rfl ?_))
 refine EL_nil (thn_n (E_seq (E_region (EL_at (.bool true) rfl rfl ?_))))
 refine EL_nil (thn_n (E_block ?_))
 refine E_lp h (fun (s : (List ChainCard) × Int × Int × Int × Bool × Bool) e w => ∃ (g : Gh) , FrM iI gI wI g w ∧ e 0 = up0 ∧ OA 1 g w 137 (s.1 : List ChainCard) up0 ∧ e 1 = .int .i64 (s.2.1) ∧ e 2 = .int .i64 (s.2.2.1) ∧ e 3 = .int .i64 (s.2.2.2.1) ∧ e 4 = (.func (.func ff4) fa4 fc4) ∧ e 10 = .bool (s.2.2.2.2.1) ∧ e 11 = .bool (s.2.2.2.2.2)) ⟨g0, hfr, rfl, mp0, rfl, rfl, rfl, rfl, rfl, rfl⟩ (fun X1 k1 hk1 => ?_)
 rintro ⟨qC, o0, u3, i6, l5, t5⟩ sD w2 ⟨g2, hfr, n9, u9, x6, y6, rC, z9, lB, mB⟩ h
 refine E_block ?_
 refine E_seq (E_region (EL_mv y6 rfl ?_))
 refine EL_mv x6 rfl ?_
 refine EL_in (.int .i64 ((w64 (u3 - o0)))) rfl rfl rfl rfl ?_
 refine EL_at (.int .i64 ((w64 (u3 - o0)))) rfl rfl ?_
 refine EL_nil (thn_n (E_joinC h (fun (s : (List ChainCard)) e w => ∃ (g : Gh) , FrM iI gI wI g w ∧ e 0 = up0 ∧ OA 1 g w 137 (s : List ChainCard) up0 ∧ e 1 = .int .i64 (o0) ∧ e 2 = .int .i64 (u3) ∧ e 3 = .int .i64 (i6) ∧ e 4 = (.func (.func ff4) fa4 fc4) ∧ e 10 = .bool (l5) ∧ e 11 = .bool (t5) ∧ e 12 = .int .i64 ((w64 (u3 - o0)))) (fun X6 k6 hk6 h => ?_) ?_))
 ·refine E_seq (E_region (EL_mw (.int .i64 ((w64 (u3 - o0)))) rfl rfl ?_))
  refine EL_in (.bool ((decide ((w64 (u3 - o0)) ≤ (12 : Int))))) rfl rfl rfl rfl ?_
  refine EL_nil (thn_n ?_)
  rcases csome h with ⟨bA, h⟩ | ⟨bA, h⟩
  ·refine E_ct bA rfl ?_
   refine E_seq (E_region (EL_mv n9 rfl ?_))
   refine EL_mv x6 rfl ?_
   refine EL_mv y6 rfl ?_
   refine EL_mv z9 rfl ?_
   obtain ⟨y9, vC, h⟩ := bsome h
   refine EL_do .plain rfl (D_callM (g := g2) (i := 1) (vs := [up0, .int .i64 (o0), .int .i64 (u3), (.func (.func ff4) fa4 fc4)]) en289 (.cons rfl (.cons rfl (.cons rfl (.cons rfl .nil)))) (A289 u9 (FnV2.ch ⟨_, _, _, rfl, fen4, fcl4⟩ hfr.ch) vC) fun g8 w8_ v8 hs hr => ?_)
   obtain ⟨hrv, b8⟩ := hr
   have hfr := hfr.stp hs
   subst hrv
   refine EL_nil (thn_n (E_ret (thn_r ?_)))
   refine blk_r ?_
   refine thn_r ?_
   refine blk_r ?_
   obtain rfl := sinj h
   exact end0 rfl rfl ⟨_, hfr, rfl, iB.back b8⟩
  ·refine E_cf bA rfl ?_
   exact E_skip (thn_n (hk6 (qC) _ _ ⟨g2, hfr, n9, u9, x6, y6, rC, z9, lB, mB, rfl⟩ h))
 ·rintro k8 lD tD ⟨aD, hfr, l8, nB, m8, n8, r8, x8, iA, rA, yA⟩ h
  refine E_joinC h (fun (s : Unit) e w => ∃ (g : Gh) , FrM iI gI wI g w ∧ e 0 = up0 ∧ OA 1 g w 137 (k8 : List ChainCard) up0 ∧ e 1 = .int .i64 (o0) ∧ e 2 = .int .i64 (u3) ∧ e 3 = .int .i64 (i6) ∧ e 4 = (.func (.func ff4) fa4 fc4) ∧ e 10 = .bool (l5) ∧ e 11 = .bool (t5) ∧ e 12 = .int .i64 ((w64 (u3 - o0)))) (fun X12 uD uC h => ?_) ?_
  ·refine E_seq (E_region (EL_mv r8 rfl ?_))
   refine EL_in (.bool ((i6 == (0 : Int)))) rfl rfl rfl rfl ?_
   refine EL_nil (thn_n ?_)
   rcases csome h with ⟨i7, h⟩ | ⟨i7, h⟩
   ·refine E_ct i7 rfl ?_
    refine E_seq (E_region (EL_mv l8 rfl ?_))
    refine EL_mv m8 rfl ?_
    refine EL_mv n8 rfl ?_
    refine EL_mv x8 rfl ?_
    cases h
   ·refine E_cf i7 rfl ?_
    exact E_skip (thn_n (uC () _ _ ⟨aD, hfr, l8, nB, m8, n8, r8, x8, iA, rA, yA⟩ h))
  ·rintro _ nD vD ⟨bD, hfr, a9, oB, d9, k9, tB, l9, x5, aB, dB⟩ h
   obtain ⟨vB, hx, h⟩ := bsome h
   refine E_join (fun e w => ∃ (g : Gh) , FrM iI gI wI g w ∧ e 0 = up0 ∧ OA 1 g w 137 (k8 : List ChainCard) up0 ∧ e 1 = .int .i64 (o0) ∧ e 2 = .int .i64 (u3) ∧ e 3 = .int .i64 (vB) ∧ e 4 = (.func (.func ff4) fa4 fc4) ∧ e 10 = .bool (l5) ∧ e 11 = .bool (t5) ∧ e 12 = .int .i64 ((w64 (u3 - o0)))) (fun Q' hQ => ?_) (fun oD xD hR => ?_)
   ·replace h := hx
    clear hx
    refine E_seq (E_region (EL_mv x5 rfl ?_))
    refine EL_p (.bool (!l5)) (P_not rfl) rfl ?_
    refine EL_nil (thn_n ?_)
    rcases csome h with ⟨m7, h⟩ | ⟨m7, h⟩
    ·refine E_ct m7 rfl ?_
     refine E_seq (E_region (EL_mv a9 rfl ?_))
     refine EL_mv d9 rfl ?_
     refine EL_mv k9 rfl ?_
     refine EL_mv l9 rfl ?_
     cases h
    ·refine E_cf m7 rfl ?_
     refine E_skip ?_
     obtain rfl := sinj h
     exact hQ _ _ ⟨bD, hfr, a9, oB, d9, k9, tB, l9, x5, aB, dB⟩
   ·clear hx
    obtain ⟨yD, hfr, yB, iD, zB, cC, jD, mC, cD, eD, gD⟩ := hR
    refine E_seq (E_region (EL_mv yB rfl ?_))
    refine EL_mv zB rfl ?_
    refine EL_mv cC rfl ?_
    refine EL_mv mC rfl ?_
    cases h
theorem A210 {iI : Nat} {gI : Gh} {wI : World} {x0 : List ChainCard} {x1 : ChainCard → ChainCard → Option Int} {up0 : Value} (mp0 : OA iI gI wI 137 x0 up0) {up1 : Value} (rp1 : FnV2 Try.prog x1 up1 gI wI) {r : (List ChainCard)} (h : f210 x0 x1 = some r) : FnM Try.prog 210 #[up0, up1] iI gI wI (fun g w v => v = .tuple #[] ∧ OA iI g w 137 r up0) := by
 unfold f210 at h
 refine fnM_of_E Try.func210 rfl (Nat.le_of_ble_eq_true rfl) fun g0 hm hfr => ?_
 have o0 := mp0
 replace mp0 := mp0.enter
 rw [← hm] at mp0
 replace hm : g0.m = gI.m := by rw [hm]
 obtain ⟨ff1, fa1, fc1, rfl, fen1, fcl1⟩ := rp1
 show E _ 14 none _ _ _ _ _
 refine E_seq (E_region (EL_mw up0 rfl rfl ?_))
 refine EL_p (.int .i64 ((x0).length : Int)) (P_lenM Try.underlying108 rfl (mp0.toM)) rfl ?_
 refine EL_at (.int .i64 ((x0).length : Int)) rfl rfl ?_
 refine EL_nil (thn_n (E_region (EL_mw up0 rfl rfl ?_)))
 refine EL_mw (.int .i64 ((x0).length : Int)) rfl rfl ?_
 refine EL_mw (.int .i64 ((x0).length : Int)) rfl rfl ?_
 refine EL_p (.int .u64 (wu64 ((x0).length : Int))) (P_intu64 Try.underlying3 Try.underlying95 rfl) rfl ?_
 obtain ⟨y2, hy2, h⟩ := bsome h
 refine EL_do .plain rfl (D_call (g := g0) (vs := [.int .u64 (wu64 ((x0).length : Int))]) en266 (.cons rfl .nil) (wk266  hy2) fun g1 w1_ v1 hs hr => ?_)
 have hfr := hfr.ext hs
 have mp0 := mp0.ext hs
 subst hr
 refine EL_mw ((.func (.func ff1) fa1 fc1)) rfl rfl ?_
 obtain ⟨y4, u3, h⟩ := bsome h
 refine EL_do .plain rfl (D_callM (g := g1) (i := 1) (vs := [up0, .int .i64 (0), .int .i64 ((x0).length : Int), .int .i64 (y2), (.func (.func ff1) fa1 fc1)]) en265 (.cons rfl (.cons rfl (.cons rfl (.cons rfl (.cons rfl .nil))))) (A265 big mp0 (FnV2.ch ⟨_, _, _, rfl, fen1, fcl1⟩ hfr.ch) u3) fun g3 w3_ v3 hs hr => ?_)
 obtain ⟨hrv, b3⟩ := hr
 have hfr := hfr.stp hs
 subst hrv
 refine EL_nil ?_
 obtain rfl := sinj h
 exact end0n rfl rfl ⟨_, hfr, rfl, o0.back b3⟩
theorem W130 {iO : Nat} {gI : Gh} {wI : World} {x0 : It ChainCard} {x1 : ChainCard → ChainCard → Option Int} {up0 : Value} (rp0 : ItV Try.prog (RA1 (α := ChainCard)) x0 up0 gI.m wI) {up1 : Value} (rp1 : FnV2 Try.prog x1 up1 gI wI) {r : (List ChainCard)} (h : f130 x0 x1 = some r) : FnG Try.prog 130 #[up0, up1] gI wI (fun g w v => OWx (Ow.list 137 (Ow.sh ChainCard)) iO g w r v) := by
 unfold f130 at h
 refine fnG_of_E Try.func130 rfl (Nat.le_of_ble_eq_true rfl) fun g0 hm hfr => ?_
 have rp0 : ItV Try.prog (RA1 (α := ChainCard)) x0 up0 g0.m wI := hm ▸ rp0
 obtain ⟨ff1, fa1, fc1, rfl, fen1, fcl1⟩ := rp1
 show E _ 12 none _ _ _ _ _
 refine E_seq (E_region (EL_at (.slice none 0 0) rfl rfl ?_))
 have b1 : OA 4004 g0 wI 137 ([] : List ChainCard) (.slice none 0 0) := OA.nil
 refine EL_nil (thn_n (E_seq (E_region (EL_mw up0 rfl rfl ?_))))
 obtain ⟨y3, hy3, h⟩ := bsome h
 refine EL_do .plain rfl (D_callG (g := g0) (vs := [up0]) en209 (.cons rfl .nil) (O209 (iO := 9007) rp0 hy3) fun g2 w2_ v2 hs hr => ?_)
 have hfr := hfr.ext hs
 have hm2 := hr
 refine EL_at v2 rfl rfl ?_
 refine EL_nil (thn_n (E_seq (E_region (EL_mw v2 rfl rfl ?_))))
 refine EL_mw ((.func (.func ff1) fa1 fc1)) rfl rfl ?_
 obtain ⟨y5, hy5, h⟩ := bsome h
 refine EL_do .plain rfl (D_callM (g := g2) (i := 9007) (vs := [v2, (.func (.func ff1) fa1 fc1)]) en210 (.cons rfl (.cons rfl .nil)) (A210 hm2 (FnV2.ch ⟨_, _, _, rfl, fen1, fcl1⟩ hfr.ch) hy5) fun g4 w4_ v4 hs hr => ?_)
 obtain ⟨hrv, b4⟩ := hr
 have hfr := hfr.stp hs
 subst hrv
 refine EL_nil (thn_n (E_seq (E_region (EL_mw v2 rfl rfl ?_))))
 refine EL_at v2 rfl rfl ?_
 refine EL_nil (thn_n (E_ret ?_))
 obtain rfl := sinj h
 obtain ⟨sk6, ow6, ok6⟩ := OA.toW b4
 obtain ⟨gh, hxh, _, homh⟩ := OW.hand (i := iO) hfr ow6 ok6
 exact end1 rfl rfl (show _ = v2 from rfl) ⟨gh, hxh, homh⟩
def f58 (x0 : ChainBelt) : Option (ChainBelt × Int) :=
 jn (σ := ChainBelt) (fun x5 =>
  (f131 ((x0).Cards)).bind fun mC =>
  (f130 mC ((fun a0 a1 => f132 a0 a1))).bind fun y6 =>
  Option.bind (α := ChainBelt) (
   lp (σ := ChainBelt × Int) (fun qC (u3, o0) =>
    bif (decide (o0 < (((({ x0 with Cards := y6 } : ChainBelt)).Cards).length : Int))) then
     Option.bind (α := ChainBelt) (
      (idx ((u3).Cards) o0).bind fun y9 =>
      some (({ u3 with Cards := (List.set ((u3).Cards) (Int.toNat o0) ({ y9 with Turned := false } : ChainCard)) } : ChainBelt))
      ) fun g8 =>
     qC (g8, (w64 (o0 + (1 : Int))))
    else
     some (u3)
    ) big (({ x0 with Cards := y6 } : ChainBelt), (0 : Int))
   ) fun r8 =>
  some (r8, (0 : Int))
  ) fun rC =>
 (f129 x0).bind fun x6 =>
 bif (x6.2 != (0 : Int)) then
  some ((⟨0, []⟩ : ChainBelt), x6.2)
 else
  rC ((⟨0, []⟩ : ChainBelt))
theorem en58 : Enters Try.prog 58 := enters_of Try.func58 (by kernel_rfl) rfl
theorem wk58 {gI : Gh} {wI : World} {x0 : ChainBelt} {up0 : Value} (rp0 : RV gI.m wI x0 up0) {r : ChainBelt × Int} (h : f58 x0 = some r) : Fn Try.prog 58 #[up0] gI wI (fun m w v => ∃ y0 y1, v = .tuple #[y0, y1] ∧ RV m w (r.1) y0 ∧ y1 = .int .i64 (r.2)) := by
 unfold f58 at h
 refine fn_of_E Try.func58 rfl (Nat.le_of_ble_eq_true rfl) fun g0 hm hfr => ?_
 have rp0 : RV g0.m wI x0 up0 := hm ▸ rp0
 show E _ 34 none _ _ _ _ _
 refine E_seq (E_region (EL_do .plain rfl (D_boxO (g := g0) 2001 rfl rp0 fun g1 w1 p1 hs b1 => ?_)))
 have hfr := hfr.stp hs
 refine EL_do .plain rfl (D_allocOc (g := g1) 2002 (⟨0, []⟩ : ChainBelt) Try.zeroValue110 (fun m w => ⟨_, (rep_two rep_int rep_nil), rfl⟩) fun g2 w2 p2 hs b2 cb => ?_)
 have hfr := hfr.stp hs
 have b1 := b1.stp hs rfl
 have i7 : OSF 2002 60201 1 g2 w2 137 110 ([] : List ChainCard) p2 := cb.osf (by rfl)
 clear cb
 refine EL_at (.int .i64 (0)) rfl rfl ?_
 refine EL_nil (thn_n (E_joinC h (fun (s : ChainBelt) e w => ∃ (g : Gh) , Fr gI wI g w ∧ e 1 = p1 ∧ OB 2001 g w 110 (x0 : ChainBelt) p1 ∧ e 2 = p2 ∧ OB 2002 g w 110 (s : ChainBelt) p2 ∧ OSF 2002 60201 1 g w 137 110 ((s).Cards) p2) (fun X12 rC eD h => ?_) ?_))
 ·refine E_seq (E_region (EL_do .plain rfl (D_loadO (g := g2) Try.isAgg110 Try.sizeOf110 rfl b1 fun tD uD => ?_)))
  obtain ⟨x6, gD, h⟩ := bsome h
  refine EL_do .plain rfl (D_call (g := g2) (vs := [tD]) en129 (.cons rfl .nil) (wk129 uD gD) fun vD uF bG hs hr => ?_)
  have hfr := hfr.ext hs
  have b1 := b1.ext hs
  have i7 := i7.ext hs
  have b2 := b2.ext hs
  obtain ⟨v8, rF, rfl, x8, rfl⟩ := hr
  refine EL_mw (.tuple #[v8, .int .i64 (x6.2)]) rfl rfl ?_
  refine EL_p v8 (P_extract rfl rfl) rfl ?_
  refine EL_p (.int .i64 (x6.2)) (P_extract rfl rfl) rfl ?_
  refine EL_do .plain rfl (D_allocOc (g := vD) 2004 (⟨⟨0, []⟩, 0⟩ : ChainChainBelt) Try.zeroValue236 (fun m w => ⟨_, (rep_two (rep_two rep_int rep_nil) rep_int), rfl⟩) fun uC xD yD hs b16 cb => ?_)
  have hfr := hfr.stp hs
  have b1 := b1.stp hs rfl
  have i7 := i7.stp hs rfl
  have b2 := b2.stp hs rfl
  have x8 := x8.stp hs
  have sF : OSF 2004 60401 1 uC xD 137 236 ([] : List ChainCard) yD := cb.osf (by rfl)
  clear cb
  refine EL_do .plain rfl (D_storeOc (g := uC) (v := v8) Try.sizeOf236 rfl b16 rfl x8 fun iA zD hs b17 cb => ?_)
  clear cb
  have hfr := hfr.stp hs
  have b1 := b1.stp hs rfl
  have i7 := i7.stp hs rfl
  have b2 := b2.stp hs rfl
  refine EL_at (.int .i64 (x6.2)) rfl rfl ?_
  refine EL_nil (thn_n (E_seq (E_region (EL_mw (.int .i64 (x6.2)) rfl rfl ?_))))
  refine EL_in (.bool ((x6.2 != (0 : Int)))) rfl rfl rfl rfl ?_
  refine EL_nil (thn_n ?_)
  rcases csome h with ⟨n9, h⟩ | ⟨n9, h⟩
  ·refine E_ct n9 rfl ?_
   refine E_seq (E_region ?_)
   have vC : RV iA.m zD (⟨0, []⟩ : ChainBelt) (.agg (setCh [[.int .i64 0], [.slice none 0 0]] []).flatten.toArray) := RV_build rfl (rep_pair (rep_int) (rep_last (rep_nil)))
   generalize rA : (Value.agg (setCh [[.int .i64 0], [.slice none 0 0]] []).flatten.toArray) = aD at vC
   refine EL_p aD (rA ▸ P_build (vs := []) [[.int .i64 0], [.slice none 0 0]] lay_110 rfl rfl .nil trivial) rfl ?_
   refine EL_mw (.int .i64 (x6.2)) rfl rfl ?_
   refine EL_do .plain rfl (D_storeOc (g := iA) (v := aD) Try.sizeOf110 rfl b2 rfl vC fun aE bE hs b20 cb => ?_)
   have tF : OSF 2002 60201 1 aE bE 137 110 ([] : List ChainCard) p2 := cb.osf (by rw [← rA]; rfl)
   clear cb
   have hfr := hfr.stp hs
   refine EL_at (.int .i64 (x6.2)) rfl rfl ?_
   refine EL_nil (thn_n (E_ret (thn_r ?_)))
   obtain rfl := sinj h
   obtain ⟨ad21, cv21, hp21, iD, cr21⟩ := ob_read Try.isAgg110 Try.sizeOf110 b20
   exact endm_ct rfl rfl ((show _ = p2 from rfl).trans hp21) iD (show _ = .int .i64 (x6.2) from rfl) ⟨_, hfr, _, _, rfl, cr21, rfl⟩
  ·refine E_cf n9 rfl ?_
   exact E_skip (thn_n (eD ((⟨0, []⟩ : ChainBelt)) _ _ ⟨iA, hfr, rfl, b1, rfl, b2, i7⟩ h))
 ·rintro x5 vF cG ⟨bD, hfr, k8, i6, nB, l5, u2_1_22⟩ h
  refine E_seq (E_region (EL_p (fPtr p1 1) (P_fieldAddr at_110_1 k8 (OB.ptr i6)) rfl ?_))
  refine EL_do .plain rfl (D_loadF (g := bD) part_ChainBelt_1.1 Try.isAgg108 Try.sizeOf108 rfl i6 fun iE lE => ?_)
  obtain ⟨mC, jD, h⟩ := bsome h
  refine EL_do .plain rfl (D_call (g := bD) (vs := [iE]) en131 (.cons rfl .nil) (wk131 lE jD) fun mE xF oE hs hr => ?_)
  have hfr := hfr.ext hs
  have i6 := i6.ext hs
  have u2_1_22 := u2_1_22.ext hs
  have l5 := l5.ext hs
  have rE := hr
  obtain ⟨y6, lD, h⟩ := bsome h
  refine EL_do .plain rfl (D_callG (g := mE) (vs := [oE, .func (.func 132) #[] #[]]) en130 (.cons rfl (.cons rfl .nil)) (W130 (iO := 4019) rE ⟨132, #[], #[], rfl, en132, fun g' w' hch a0 a1 b0 b1 r hu0 hu1 hr => by exact Fn.mono (wk132 hu0 hu1  hr) fun _ _ _ h => RV_int.2 h⟩ lD) fun uE eG gG hs hm27 => ?_)
  have hfr := hfr.ext hs
  have i6 := i6.ext hs
  have u2_1_22 := u2_1_22.ext hs
  have l5 := l5.ext hs
  obtain ⟨sk27, ow27, ok27⟩ := hm27
  obtain ⟨bk30, hpp, b30⟩ := OV.ofOB ow_ChainBelt i6
  subst hpp
  refine EL_p ((.pointer (some ⟨bk30, (0 + 1), none⟩))) (P_fieldAddrH at_110_1 k8) rfl ?_
  refine EL_do .plain rfl (D_storeW (g := uE) (Cxt.fld (Cxt.root ow_ChainBelt bk30) fl_ChainBelt_1 (x0) ((ow_ChainBelt).s0)) rfl rfl Try.sizeOf108 rfl b30 rfl ow27 rfl fun gj33 yA vE hsa hsb b33 => ?_)
  have hfr := hfr.stp hsa
  have u2_1_22 := u2_1_22.stp hsa rfl
  have l5 := l5.stp hsa rfl
  have hfr := hfr.stp hsb
  have u2_1_22 := u2_1_22.stp hsb rfl
  have l5 := l5.stp hsb rfl
  clear hsa hsb
  replace b33 : OV ow_ChainBelt 2001 yA vE 110 (({ x0 with Cards := y6 } : ChainBelt) : ChainBelt) bk30 ((Prod.fst (ow_ChainBelt).s0), sk27) := b33
  refine EL_nil (thn_n ?_)
  obtain ⟨r8, hx, h⟩ := bsome h
  refine E_join (fun e w => ∃ (g : Gh) , Fr gI wI g w ∧ e 1 = (Value.pointer (some ⟨bk30, 0, none⟩)) ∧ OVb ow_ChainBelt 2001 g w 110 (r8 : ChainBelt) bk30 ∧ e 2 = p2 ∧ OB 2002 g w 110 (x5 : ChainBelt) p2 ∧ OSF 2002 60201 1 g w 137 110 ((x5).Cards) p2) (fun Q' hQ => ?_) (fun yF hG hR => ?_)
  ·replace h := hx
   clear hx
   refine E_seq (E_region (EL_p ((.pointer (some ⟨bk30, (0 + 1), none⟩))) (P_fieldAddrH at_110_1 k8) rfl ?_))
   refine EL_do .plain rfl (D_loadH (g := yA) (Cxt.fld (Cxt.root ow_ChainBelt bk30) fl_ChainBelt_1 (({ x0 with Cards := y6 } : ChainBelt)) (((Prod.fst (ow_ChainBelt).s0), sk27))) rfl rfl ok27 Try.isAgg108 rfl b33 ?_)
   have hz61 := (OV.slice b33 (Cxt.fld (Cxt.root ow_ChainBelt bk30) fl_ChainBelt_1 (({ x0 with Cards := y6 } : ChainBelt)) (((Prod.fst (ow_ChainBelt).s0), sk27))) rfl rfl ok27).1
   refine EL_p (.int .i64 (((({ x0 with Cards := y6 } : ChainBelt)).Cards).length : Int)) (P_lenH Try.underlying108 rfl hz61) rfl ?_
   refine EL_mw (.int .i64 (0)) rfl rfl ?_
   refine EL_nil (thn_n (E_block ?_))
   refine E_lp h (fun (s : ChainBelt × Int) e w => ∃ (g : Gh) , Fr gI wI g w ∧ e 1 = (Value.pointer (some ⟨bk30, 0, none⟩)) ∧ OVb ow_ChainBelt 2001 g w 110 (s.1 : ChainBelt) bk30 ∧ e 2 = p2 ∧ OB 2002 g w 110 (x5 : ChainBelt) p2 ∧ OSF 2002 60201 1 g w 137 110 ((x5).Cards) p2 ∧ e 23 = .int .i64 ((((({ x0 with Cards := y6 } : ChainBelt)).Cards).length : Int)) ∧ e 24 = .int .i64 (s.2)) ⟨yA, hfr, k8, ⟨_, b33, ⟨trivial, ok27⟩⟩, nB, l5, u2_1_22, rfl, rfl⟩ (fun X62 qC nD => ?_)
   rintro ⟨u3, o0⟩ zF iG ⟨aB, hfr, a9, ⟨t5, l8, m7⟩, z9, m8, u2_1_63, l9, n8⟩ h
   refine E_seq (E_region (EL_p (.bool ((decide (o0 < (((({ x0 with Cards := y6 } : ChainBelt)).Cards).length : Int))))) (P_int n8 l9 rfl) rfl ?_))
   refine EL_nil (thn_n (E_seq ?_))
   rcases csome h with ⟨u9, h⟩ | ⟨u9, h⟩
   ·refine E_ct u9 rfl ?_
    refine E_skip (thn_n ?_)
    obtain ⟨g8, hx, h⟩ := bsome h
    refine E_join (fun e w => ∃ (g : Gh) , Fr gI wI g w ∧ e 1 = (Value.pointer (some ⟨bk30, 0, none⟩)) ∧ OVb ow_ChainBelt 2001 g w 110 (g8 : ChainBelt) bk30 ∧ e 2 = p2 ∧ OB 2002 g w 110 (x5 : ChainBelt) p2 ∧ OSF 2002 60201 1 g w 137 110 ((x5).Cards) p2 ∧ e 23 = .int .i64 ((((({ x0 with Cards := y6 } : ChainBelt)).Cards).length : Int)) ∧ e 24 = .int .i64 (o0)) (fun Q' hQ => ?_) (fun aG jG hR => ?_)
    ·replace h := hx
     clear hx
     refine E_block ?_
     refine E_seq (E_region (EL_mv n8 rfl ?_))
     refine EL_at (.int .i64 (o0)) rfl rfl ?_
     refine EL_nil (thn_n (E_region (EL_p ((.pointer (some ⟨bk30, (0 + 1), none⟩))) (P_fieldAddrH at_110_1 a9) rfl ?_)))
     refine EL_do .plain rfl (D_loadH (g := aB) (Cxt.fld (Cxt.root ow_ChainBelt bk30) fl_ChainBelt_1 (u3) (t5)) rfl rfl (m7.2) Try.isAgg108 rfl l8 ?_)
     refine EL_mw (.int .i64 (o0)) rfl rfl ?_
     obtain ⟨y9, d9, h⟩ := bsome h
     obtain ⟨bb78, cc78, ss78, hq78, oD⟩ := (OV.slice l8 (Cxt.fld (Cxt.root ow_ChainBelt bk30) fl_ChainBelt_1 (u3) (t5)) rfl rfl (m7.2)).2 d9
     refine EL_p ((.pointer (some ⟨bb78, ((Int.toNat o0) * 3), none⟩))) (P_indexH Try.underlying108 Try.sizeOf137 (rfl.trans (hdr_at hq78 _)) rfl (idx_nat d9)) rfl ?_
     refine EL_p ((.pointer (some ⟨bb78, (((Int.toNat o0) * 3) + 2), none⟩))) (P_fieldAddrH at_137_2 rfl) rfl ?_
     refine EL_do .plain rfl (D_storeOV (g := aB) (u' := (false : Bool)) (Cxt.fld (Cxt.idx (Cxt.fld (Cxt.root ow_ChainBelt bk30) fl_ChainBelt_1 (u3) (t5)) ((u3).Cards) (Int.toNat o0) bb78 cc78 ss78 (idx_nat d9).2 oD) fl_ChainCard_2 (y9) (())) ((congrArg (fun q => ({ u3 with Cards := q } : ChainBelt)) (set_idx d9)).trans rfl) (((congrArg (fun q => ((Prod.fst t5), (Sl.at bb78 cc78 q))) set_unit).trans (congrArg (fun q => ((Prod.fst t5), q)) (hq78).symm)).trans rfl) Try.sizeOf4 rfl l8 rfl (RV_bool.2 rfl) fun cD xE hs b81 => ?_)
     have hfr := hfr.stp hs
     have u2_1_63 := u2_1_63.stp hs rfl
     have m8 := m8.stp hs rfl
     replace b81 : OV ow_ChainBelt 2001 cD xE 110 (({ u3 with Cards := (List.set ((u3).Cards) (Int.toNat o0) ({ y9 with Turned := false } : ChainCard)) } : ChainBelt) : ChainBelt) bk30 t5 := b81
     refine EL_nil (blk_n ?_)
     obtain rfl := sinj h
     exact hQ _ _ ⟨cD, hfr, a9, ⟨_, b81, m7⟩, z9, m8, u2_1_63, l9, n8⟩
    ·clear hx
     obtain ⟨yE, hfr, oB, ⟨zE, tB, dB⟩, vB, yB, u2_1_82, iB, lB⟩ := hR
     refine E_region (EL_in (.int .i64 ((w64 (o0 + (1 : Int))))) lB rfl rfl rfl ?_)
     refine EL_mw (.int .i64 ((w64 (o0 + (1 : Int))))) rfl rfl ?_
     exact EL_nil (thn_n (nD (g8, (w64 (o0 + (1 : Int)))) _ _ ⟨yE, hfr, oB, ⟨_, tB, dB⟩, vB, yB, u2_1_82, iB, rfl⟩ h))
   ·refine E_cf u9 rfl ?_
    refine E_exit ?_
    refine thn_e ?_
    refine thn_e ?_
    refine blk_hit ?_
    obtain rfl := sinj h
    exact hQ _ _ ⟨aB, hfr, a9, ⟨_, l8, m7⟩, z9, m8, u2_1_63⟩
  ·clear hx
   obtain ⟨kG, hfr, zB, ⟨cF, cC, mB⟩, bA, k9, u2_1_83⟩ := hR
   refine E_seq (E_region ?_)
   obtain ⟨go85, hs, b85⟩ := OV.toOB cC mB
   have hfr := hfr.stp hs
   have k9 := k9.stp hs rfl
   refine EL_do .plain rfl (D_loadO (g := go85) Try.isAgg110 Try.sizeOf110 zB b85 fun dF eF => ?_)
   refine EL_do .plain rfl (D_storeOc (g := go85) (v := dF) Try.sizeOf110 bA k9 rfl eF fun lG mG hs b87 cb => ?_)
   clear cb
   have hfr := hfr.stp hs
   refine EL_at (.int .i64 (0)) rfl rfl ?_
   refine EL_nil (thn_n (E_ret ?_))
   obtain rfl := sinj h
   obtain ⟨ad88, cv88, hp88, sD, cr88⟩ := ob_read Try.isAgg110 Try.sizeOf110 b87
   exact endm_ct rfl rfl ((show _ = p2 from bA).trans hp88) sD (show _ = .int .i64 (0) from rfl) ⟨_, hfr, _, _, rfl, cr88, rfl⟩
def f8 (x0 : Loom) : Option (Bool) :=
 (f54 x0).bind fun y4 =>
 (f55 x0).bind fun y7 =>
 (f31 y7).bind fun zO =>
 (f42 zO).bind fun x8 =>
 jn (σ := Unit) (fun _ =>
  (f56 (x8.1) ((x0).Cards)).bind fun y74 =>
  Option.bind (α := ChainBelt) (
   lp (σ := ChainBelt × Int) (fun eJ (y6, x5) =>
    jn (σ := Unit) (fun _ =>
     Option.bind (α := ChainBelt) (
      (f57 ((x0).Cards) ((w64 (x5 + (5 : Int))))).bind fun iG =>
      (rem64 iG (8 : Int)).bind fun aE =>
      (idx ((y6).Cards) x5).bind fun jG =>
      some (({ y6 with Cards := (List.set ((y6).Cards) (Int.toNat x5) ({ jG with Turned := (aE == (7 : Int)) } : ChainCard)) } : ChainBelt))
      ) fun oD =>
     eJ (oD, (w64 (x5 + (1 : Int))))
     ) fun gJ =>
    bif (decide (x5 < (((y7).Rows).length : Int))) then
     gJ ()
    else
     some (y6)
    ) big (y74, (0 : Int))
   ) fun yB =>
  (f59 yB).bind fun iJ =>
  (f58 iJ).bind fun a9 =>
  jn (σ := Unit) (fun _ =>
   (f30 y4).bind fun bE =>
   (f31 y7).bind fun iE =>
   (f39 bE iE).bind fun i6 =>
   (f60 ((((y7).Rows).length : Int)) ((1 : Int))).bind fun lE =>
   (f45 (a9.1) ((0 : Int)) lE).bind fun t5 =>
   (f30 y4).bind fun mE =>
   (f39 mE ((⟨(y7).Hooks, (t5.1 : List Int)⟩ : Design))).bind fun x6 =>
   (f60 ((((y7).Rows).length : Int)) ((1 : Int))).bind fun oE =>
   (f45 yB ((0 : Int)) oE).bind fun u3 =>
   jn (σ := Unit) (fun _ =>
    (f39 y4 ((⟨(y7).Hooks, (u3.1 : List Int)⟩ : Design))).bind fun k8 =>
    Option.bind (α := Bool) (
     bif (k8.2 == (0 : Int)) then
      bif (((k8.1).length : Int) == (((y7).Rows).length : Int)) then
       (f13 ((u3.1 : List Int)) ((y7).Rows)).bind fun rE =>
       bif (!rE) then
        (f40).bind fun uE =>
        bif uE then
         (f61).bind fun vE =>
         bif vE then
          (f41).bind fun kG =>
          some (kG)
         else
          some (false)
        else
         some (false)
       else
        (f32 (k8.1) ((i6.1 : List Str))).bind fun jD =>
        bif jD then
         (f40).bind fun xE =>
         bif xE then
          (f61).bind fun yE =>
          bif yE then
           (f41).bind fun lG =>
           some (lG)
          else
           some (false)
         else
          some (false)
        else
         some (false)
      else
       some (false)
     else
      some (false)
     ) fun sD =>
    some (sD)
    ) fun jJ =>
   Option.bind (α := Bool) (
    bif (i6.2 != (0 : Int)) then
     some (true)
    else
     bif (t5.2.2 != (0 : Int)) then
      some (true)
     else
      bif (x6.2 != (0 : Int)) then
       some (true)
      else
       bif (u3.2.2 != (0 : Int)) then
        some (true)
       else
        (f13 ((t5.1 : List Int)) ((y7).Rows)).bind fun lD =>
        bif (!lD) then
         some (true)
        else
         (f32 ((x6.1 : List Str)) ((i6.1 : List Str))).bind fun mG =>
         some ((!mG))
    ) fun iB =>
   bif iB then
    some (false)
   else
    jJ ()
   ) fun kJ =>
  Option.bind (α := Bool) (
   bif (a9.2 != (0 : Int)) then
    some (true)
   else
    some (((((a9.1).Cards).length : Int) != (((y7).Rows).length : Int)))
   ) fun zB =>
  bif zB then
   some (false)
  else
   kJ ()
  ) fun aP =>
 Option.bind (α := Bool) (
  bif (x8.2 != (0 : Int)) then
   some (true)
  else
   bif ((x8.1).Hooks != (y7).Hooks) then
    some (true)
   else
    some (((((x8.1).Cards).length : Int) != (((y7).Rows).length : Int)))
  ) fun cD =>
 bif cD then
  some (false)
 else
  aP ()
theorem wk8 {gI : Gh} {wI : World} {x0 : Loom} {up0 : Value} (rp0 : RV gI.m wI x0 up0) {r : Bool} (h : f8 x0 = some r) : Fn Try.prog 8 #[up0] gI wI (fun _ _ v => v = .bool (r)) := by
 unfold f8 at h
 refine fn_of_E Try.func8 rfl (Nat.le_of_ble_eq_true rfl) fun g0 hm hfr => ?_
 have rp0 : RV g0.m wI x0 up0 := hm ▸ rp0
 show E _ 188 none _ _ _ _ _
 refine E_seq (E_region (EL_do .plain rfl (D_box (g := g0) rfl rp0 fun g1 w1 p1 hs q1 => ?_)))
 have hfr := hfr.ext hs
 refine EL_at (.bool false) rfl rfl ?_
 refine EL_nil (thn_n (E_seq (L_load (x := .tmp 1) Try.isAgg25 Try.sizeOf25 q1 fun v2 r2 hl2 => ?_)))
 obtain ⟨y4, gR, h⟩ := bsome h
 refine L_load (x := .tmp 1) Try.isAgg25 Try.sizeOf25 q1 fun v5 r5 iR => ?_
 obtain ⟨y7, jR, h⟩ := bsome h
 refine E_drawL (g := g1) (n := 6) [(1, (fun v g w => RV g.m w y4 v)), (3, (fun v g w => RV g.m w y7 v)), (4, (fun v g w => OB 2003 g w 28 (⟨0, []⟩ : TieHarness) v)), (5, (fun v g w => OB 2004 g w 30 (⟨0, []⟩ : Design) v))] [0, 1, 2, 3, 4, 5] rfl mixed (by kernel_rfl) (⟨fun _ => up_rv, fun _ => up_rv, fun _ => up_ob, fun _ => up_ob, trivial⟩) ?_
 refine L_ld (c := v2) rfl rfl .plain (fun _ _ h => h.ch) hl2 rfl ?_
 refine L_do (φ := fun v g w => RV g.m w y4 v) rfl rfl .plain (fun g w hd => D_call (g := g) (vs := [v2]) en54 (.cons rfl .nil) (wk54 (r2.ext hd.1) gR) fun g' w' v hs hr => ⟨g', hs, hr⟩) (fun v3 hv => ?_)
 obtain ⟨_, _, _, rq3⟩ := hv
 refine L_ld (c := v5) rfl rfl .plain (fun _ _ h => h.ch) iR rfl ?_
 refine L_do (φ := fun v g w => RV g.m w y7 v) rfl rfl .plain (fun g w hd => D_call (g := g) (vs := [v5]) en55 (.cons rfl .nil) (wk55 (r5.ext hd.1) jR) fun g' w' v hs hr => ⟨g', hs, hr⟩) (fun v6 hv => ?_)
 obtain ⟨_, _, _, rq6⟩ := hv
 refine L_do (φ := fun v g w => OB 2003 g w 28 (⟨0, []⟩ : TieHarness) v) rfl rfl .plain (fun g w hd => D_allocX (g := g) 2003 (⟨0, []⟩ : TieHarness) Try.zeroValue28 (fun m w => ⟨_, (rep_two rep_int rep_nil), rfl⟩) fun g' w' v hs b => ⟨g', hs, b⟩) (fun v8 hv => ?_)
 clear hv
 refine L_do (φ := fun v g w => OB 2004 g w 30 (⟨0, []⟩ : Design) v) rfl rfl .plain (fun g w hd => D_allocX (g := g) 2004 (⟨0, []⟩ : Design) Try.zeroValue30 (fun m w => ⟨_, (rep_two rep_int rep_nil), rfl⟩) fun g' w' v hs b => ⟨g', hs, b⟩) (fun v9 hv => ?_)
 clear hv
 refine L_nil fun lR iW hall => ?_
 have hs := hall.1
 have hfr := hfr.ext hs
 have q1 := q1.ext hs
 have mR := (word_all (A := fun g w => RV g.m w y4 v3) 1 rfl hall)
 have lJ := (word_all (A := fun g w => RV g.m w y7 v6) 3 rfl hall)
 have b18 := (word_all (A := fun g w => OB 2003 g w 28 (⟨0, []⟩ : TieHarness) v8) 4 rfl hall)
 have b19 := (word_all (A := fun g w => OB 2004 g w 30 (⟨0, []⟩ : Design) v9) 5 rfl hall)
 clear hs hall
 refine EL_do .plain rfl (D_storeOc (g := lR) (v := v3) Try.sizeOf28 rfl b18 rfl mR fun nR jW hs b20 cb => ?_)
 clear cb
 have hfr := hfr.stp hs
 have q1 := q1.stp hs
 have lJ := lJ.stp hs
 have b19 := b19.stp hs rfl
 refine EL_do .plain rfl (D_storeOc (g := nR) (v := v6) Try.sizeOf30 rfl b19 rfl lJ fun mJ kW hs b21 cb => ?_)
 clear cb
 have hfr := hfr.stp hs
 have q1 := q1.stp hs
 have b20 := b20.stp hs rfl
 refine EL_nil (thn_n (E_seq (E_region (EL_p (fPtr v9 1) (P_fieldAddr at_30_1 rfl (OB.ptr b21)) rfl ?_))))
 refine EL_do .plain rfl (D_loadF (g := mJ) part_Design_1.1 Try.isAgg26 Try.sizeOf26 rfl b21 fun lW oR => ?_)
 refine EL_p (.int .i64 (((y7).Rows).length : Int)) (P_len Try.underlying26 rfl oR) rfl ?_
 refine EL_at (.int .i64 (((y7).Rows).length : Int)) rfl rfl ?_
 refine EL_nil (thn_n (E_seq (E_region (EL_do .plain rfl (D_loadO (g := mJ) Try.isAgg30 Try.sizeOf30 rfl b21 fun pR qR => ?_)))))
 obtain ⟨zO, dP, h⟩ := bsome h
 refine EL_do .plain rfl (D_call (g := mJ) (vs := [pR]) en31 (.cons rfl .nil) (wk31 qR dP) fun rR dU tR hs hr => ?_)
 have hfr := hfr.ext hs
 have q1 := q1.ext hs
 have b20 := b20.ext hs
 have b21 := b21.ext hs
 have uR := hr
 obtain ⟨x8, eP, h⟩ := bsome h
 refine EL_do .plain rfl (D_call (g := rR) (vs := [tR]) en42 (.cons rfl .nil) (wk42 uR eP) fun vR eU mW hs hr => ?_)
 have hfr := hfr.ext hs
 have q1 := q1.ext hs
 have b20 := b20.ext hs
 have b21 := b21.ext hs
 obtain ⟨sG, qS, rfl, xG, rfl⟩ := hr
 refine EL_mw (.tuple #[sG, .int .i64 (x8.2)]) rfl rfl ?_
 refine EL_p sG (P_extract rfl rfl) rfl ?_
 refine EL_p (.int .i64 (x8.2)) (P_extract rfl rfl) rfl ?_
 refine EL_do .plain rfl (D_allocOc (g := vR) 2006 (⟨0, []⟩ : ChainBelt) Try.zeroValue110 (fun m w => ⟨_, (rep_two rep_int rep_nil), rfl⟩) fun bP w29 tF hs b29 cb => ?_)
 have hfr := hfr.stp hs
 have q1 := q1.stp hs
 have b20 := b20.stp hs rfl
 have b21 := b21.stp hs rfl
 have xG := xG.stp hs
 have rS : OSF 2006 60601 1 bP w29 137 110 ([] : List ChainCard) tF := cb.osf (by rfl)
 clear cb
 refine EL_do .plain rfl (D_storeOc (g := bP) (v := sG) Try.sizeOf110 rfl b29 rfl xG fun cG nW hs b30 cb => ?_)
 clear cb
 have hfr := hfr.stp hs
 have q1 := q1.stp hs
 have b20 := b20.stp hs rfl
 have b21 := b21.stp hs rfl
 refine EL_at (.int .i64 (x8.2)) rfl rfl ?_
 refine EL_nil (thn_n (E_joinC h (fun (s : Unit) e w => ∃ (g : Gh) , Fr gI wI g w ∧ e 1 = p1 ∧ PT g.m w (x0 : Loom) p1 ∧ e 3 = v8 ∧ OB 2003 g w 28 (y4 : TieHarness) v8 ∧ e 4 = v9 ∧ OB 2004 g w 30 (y7 : Design) v9 ∧ e 5 = .int .i64 ((((y7).Rows).length : Int)) ∧ e 6 = tF ∧ OB 2006 g w 110 (x8.1 : ChainBelt) tF) (fun X49 aP gP h => ?_) ?_))
 ·obtain ⟨cD, hx, h⟩ := bsome h
  refine E_join (fun e w => ∃ (g : Gh) , Fr gI wI g w ∧ e 1 = p1 ∧ PT g.m w (x0 : Loom) p1 ∧ e 3 = v8 ∧ OB 2003 g w 28 (y4 : TieHarness) v8 ∧ e 4 = v9 ∧ OB 2004 g w 30 (y7 : Design) v9 ∧ e 5 = .int .i64 ((((y7).Rows).length : Int)) ∧ e 6 = tF ∧ OB 2006 g w 110 (x8.1 : ChainBelt) tF ∧ e 52 = .bool (cD)) (fun Q' hQ => ?_) (fun gU oW hR => ?_)
  ·replace h := hx
   clear hx
   refine E_region (EL_mw (.int .i64 (x8.2)) rfl rfl ?_)
   refine EL_in (.bool ((x8.2 != (0 : Int)))) rfl rfl rfl rfl ?_
   refine EL_mw (.bool ((x8.2 != (0 : Int)))) rfl rfl ?_
   rcases csome h with ⟨oB, h⟩ | ⟨oB, h⟩
   ·refine EL_s rfl rfl oB rfl rfl ?_
    iterate 4 refine EL_s rfl rfl oB rfl rfl ?_
    refine EL_p (.bool true) (P_pick (b := (x8.2 != (0 : Int))) rfl (pick_t oB rfl)) rfl ?_
    refine EL_dead 7 rfl ?_
    refine EL_nil ?_
    obtain rfl := sinj h
    exact hQ _ _ ⟨cG, hfr, rfl, q1, rfl, b20, rfl, b21, rfl, rfl, b30, rfl⟩
   ·refine EL_y (fPtr tF 0) (P_fieldAddr at_110_0 rfl (OB.ptr b30)) rfl rfl oB rfl ?_
    refine EL_do (.yes2 rfl rfl oB) rfl (D_loadF (g := cG) part_ChainBelt_0.1 Try.isAgg3 Try.sizeOf3 rfl b30 fun pW xR => ?_)
    obtain rfl := RV_int.1 xR
    refine EL_y (fPtr v9 0) (P_fieldAddr at_30_0 rfl (OB.ptr b21)) rfl rfl oB rfl ?_
    refine EL_do (.yes2 rfl rfl oB) rfl (D_loadF (g := cG) part_Design_0.1 Try.isAgg3 Try.sizeOf3 rfl b21 fun v62 yR => ?_)
    obtain rfl := RV_int.1 yR
    refine EL_y (.bool (((x8.1).Hooks != (y7).Hooks))) (P_int rfl rfl rfl) rfl rfl oB rfl ?_
    refine EL_p (.bool (((x8.1).Hooks != (y7).Hooks))) (P_pick (b := (x8.2 != (0 : Int))) rfl (pick_f oB rfl)) rfl ?_
    refine EL_mw (.bool (((x8.1).Hooks != (y7).Hooks))) rfl rfl ?_
    rcases csome h with ⟨tB, h⟩ | ⟨tB, h⟩
    ·refine EL_s rfl rfl tB rfl rfl ?_
     iterate 4 refine EL_s rfl rfl tB rfl rfl ?_
     refine EL_p (.bool true) (P_pick (b := ((x8.1).Hooks != (y7).Hooks)) rfl (pick_t tB rfl)) rfl ?_
     refine EL_nil ?_
     obtain rfl := sinj h
     exact hQ _ _ ⟨cG, hfr, rfl, q1, rfl, b20, rfl, b21, rfl, rfl, b30, rfl⟩
    ·refine EL_y (fPtr tF 1) (P_fieldAddr at_110_1 rfl (OB.ptr b30)) rfl rfl tB rfl ?_
     refine EL_do (.yes2 rfl rfl tB) rfl (D_loadF (g := cG) part_ChainBelt_1.1 Try.isAgg108 Try.sizeOf108 rfl b30 fun qW zR => ?_)
     refine EL_y (.int .i64 (((x8.1).Cards).length : Int)) (P_len Try.underlying108 rfl zR) rfl rfl tB rfl ?_
     refine EL_y (.int .i64 (((y7).Rows).length : Int)) (P_move rfl) rfl rfl tB rfl ?_
     refine EL_y (.bool (((((x8.1).Cards).length : Int) != (((y7).Rows).length : Int)))) (P_int rfl rfl rfl) rfl rfl tB rfl ?_
     refine EL_p (.bool (((((x8.1).Cards).length : Int) != (((y7).Rows).length : Int)))) (P_pick (b := ((x8.1).Hooks != (y7).Hooks)) rfl (pick_f tB rfl)) rfl ?_
     refine EL_nil ?_
     obtain rfl := sinj h
     exact hQ _ _ ⟨cG, hfr, rfl, q1, rfl, b20, rfl, b21, rfl, rfl, b30, rfl⟩
  ·clear hx
   obtain ⟨aS, hfr, mM, nM, oM, pM, qM, rM, sM, tM, uM, iH⟩ := hR
   rcases csome h with ⟨yH, h⟩ | ⟨yH, h⟩
   ·refine E_cond_true (Eq.trans (show ev _ _ = .bool (cD) from iH) (congrArg Value.bool yH)) ?_
    refine E_seq (E_region (EL_at (.bool false) rfl rfl ?_))
    refine EL_nil (thn_n (E_ret (thn_r ?_)))
    obtain rfl := sinj h
    exact end1 rfl rfl (show _ = .bool false from rfl) ⟨_, hfr, rfl⟩
   ·refine E_cond_false (Eq.trans (show ev _ _ = .bool (cD) from iH) (congrArg Value.bool yH)) ?_
    exact E_skip (thn_n (gP () _ _ ⟨aS, hfr, mM, nM, oM, pM, qM, rM, sM, tM, uM⟩ h))
 ·rintro _ iU sW ⟨nJ, hfr, kI, k9, vM, iA, xM, rA, bN, cN, dN⟩ h
  refine E_seq (E_region (EL_do .plain rfl (D_loadO (g := nJ) Try.isAgg110 Try.sizeOf110 cN dN fun bS cS => ?_)))
  refine EL_p (fPtr p1 3) (P_fieldAddr at_25_3 kI (PT.ptr k9)) rfl ?_
  have dS := PT_field (part_Loom_3).1 k9
  refine EL_do .plain rfl (D_load (g := nJ) Try.isAgg22 Try.sizeOf22 rfl dS fun eS gS => ?_)
  obtain ⟨y74, iP, h⟩ := bsome h
  refine EL_do .plain rfl (D_callG (g := nJ) (vs := [bS, eS]) en56 (.cons rfl (.cons rfl .nil)) (W56 (iO := 4056) cS gS iP) fun iS tW uW hs hm73 => ?_)
  have hfr := hfr.ext hs
  have k9 := k9.ext hs
  have iA := iA.ext hs
  have rA := rA.ext hs
  obtain ⟨sk73, ow73, ok73⟩ := hm73
  refine EL_do .plain rfl (D_allocOc (g := iS) 2008 (⟨0, []⟩ : ChainBelt) Try.zeroValue110 (fun m w => ⟨_, (rep_two rep_int rep_nil), rfl⟩) fun cP jS lS hs b75 cb => ?_)
  have hfr := hfr.stp hs
  have k9 := k9.stp hs
  have iA := iA.stp hs rfl
  have rA := rA.stp hs rfl
  have ow73 := ow73.stp hs rfl
  have sS : OSF 2008 60801 1 cP jS 137 110 ([] : List ChainCard) lS := cb.osf (by rfl)
  clear cb
  refine EL_do .plain rfl (D_storeOW (g := cP) Try.sizeOf110 rfl b75 rfl ow73 rfl fun gj76 mS vW bk76 hsa hsb hpp b76 => ?_)
  have hfr := hfr.stp hsa
  have k9 := k9.stp hsa
  have iA := iA.stp hsa rfl
  have rA := rA.stp hsa rfl
  have hfr := hfr.stp hsb
  have k9 := k9.stp hsb
  have iA := iA.stp hsb rfl
  have rA := rA.stp hsb rfl
  clear hsa hsb
  subst hpp
  refine EL_nil (thn_n ?_)
  obtain ⟨yB, hx, h⟩ := bsome h
  refine E_join (fun e w => ∃ (g : Gh) , Fr gI wI g w ∧ e 3 = v8 ∧ OB 2003 g w 28 (y4 : TieHarness) v8 ∧ e 4 = v9 ∧ OB 2004 g w 30 (y7 : Design) v9 ∧ e 5 = .int .i64 ((((y7).Rows).length : Int)) ∧ e 8 = (Value.pointer (some ⟨bk76, 0, none⟩)) ∧ OVb ow_ChainBelt 2008 g w 110 (yB : ChainBelt) bk76) (fun Q' hQ => ?_) (fun tS oJ hR => ?_)
  ·replace h := hx
   clear hx
   refine E_seq (E_region (EL_at (.int .i64 (0)) rfl rfl ?_))
   refine EL_nil (thn_n (E_block ?_))
   refine E_lp h (fun (s : ChainBelt × Int) e w => ∃ (g : Gh) , Fr gI wI g w ∧ e 1 = p1 ∧ PT g.m w (x0 : Loom) p1 ∧ e 3 = v8 ∧ OB 2003 g w 28 (y4 : TieHarness) v8 ∧ e 4 = v9 ∧ OB 2004 g w 30 (y7 : Design) v9 ∧ e 5 = .int .i64 ((((y7).Rows).length : Int)) ∧ e 8 = (Value.pointer (some ⟨bk76, 0, none⟩)) ∧ OVb ow_ChainBelt 2008 g w 110 (s.1 : ChainBelt) bk76 ∧ e 9 = .int .i64 (s.2)) ⟨mS, hfr, kI, k9, vM, iA, xM, rA, bN, rfl, ⟨_, b76, ok73⟩, rfl⟩ (fun X148 eJ eN => ?_)
   rintro ⟨y6, x5⟩ uS jU ⟨pJ, hfr, qJ, rJ, jH, kH, lH, mH, uF, nH, ⟨vQ, oH, eG⟩, pH⟩ h
   refine E_joinC h (fun (s : Unit) e w => ∃ (g : Gh) , Fr gI wI g w ∧ e 1 = p1 ∧ PT g.m w (x0 : Loom) p1 ∧ e 3 = v8 ∧ OB 2003 g w 28 (y4 : TieHarness) v8 ∧ e 4 = v9 ∧ OB 2004 g w 30 (y7 : Design) v9 ∧ e 5 = .int .i64 ((((y7).Rows).length : Int)) ∧ e 8 = (Value.pointer (some ⟨bk76, 0, none⟩)) ∧ OVb ow_ChainBelt 2008 g w 110 (y6 : ChainBelt) bk76 ∧ e 9 = .int .i64 (x5)) (fun X151 gJ gN h => ?_) ?_
   ·refine E_seq (E_region (EL_mv pH rfl ?_))
    refine EL_mv uF rfl ?_
    refine EL_p (.bool ((decide (x5 < (((y7).Rows).length : Int))))) (P_int rfl rfl rfl) rfl ?_
    refine EL_nil (thn_n ?_)
    rcases csome h with ⟨yG, h⟩ | ⟨yG, h⟩
    ·refine E_ct yG rfl ?_
     exact E_skip (thn_n (gN () _ _ ⟨pJ, hfr, qJ, rJ, jH, kH, lH, mH, uF, nH, ⟨_, oH, eG⟩, pH⟩ h))
    ·refine E_cf yG rfl ?_
     refine E_exit ?_
     refine thn_e ?_
     refine thn_e ?_
     refine blk_hit ?_
     obtain rfl := sinj h
     exact hQ _ _ ⟨pJ, hfr, jH, kH, lH, mH, uF, nH, ⟨_, oH, eG⟩⟩
   ·rintro _ vS kU ⟨jP, hfr, qH, lB, sJ, eD, vJ, gD, xJ, sH, ⟨n9, iD, zE⟩, vF⟩ h
    obtain ⟨oD, hx, h⟩ := bsome h
    refine E_join (fun e w => ∃ (g : Gh) , Fr gI wI g w ∧ e 1 = p1 ∧ PT g.m w (x0 : Loom) p1 ∧ e 3 = v8 ∧ OB 2003 g w 28 (y4 : TieHarness) v8 ∧ e 4 = v9 ∧ OB 2004 g w 30 (y7 : Design) v9 ∧ e 5 = .int .i64 ((((y7).Rows).length : Int)) ∧ e 8 = (Value.pointer (some ⟨bk76, 0, none⟩)) ∧ OVb ow_ChainBelt 2008 g w 110 (oD : ChainBelt) bk76 ∧ e 9 = .int .i64 (x5)) (fun Q' hQ => ?_) (fun xS lU hR => ?_)
    ·replace h := hx
     clear hx
     refine E_block ?_
     refine L_loadH (x := .tmp 62) (Cxt.fld (Cxt.root ow_ChainBelt bk76) fl_ChainBelt_1 (y6) (n9)) rfl rfl (zE.2) Try.isAgg108 iD fun iN => ?_
     have kP := PT_field (part_Loom_3).1 lB
     refine L_load (x := .tmp 65) Try.isAgg22 Try.sizeOf22 kP fun yJ lP jN => ?_
     obtain ⟨iG, kN, h⟩ := bsome h
     obtain ⟨aE, lN, h⟩ := bsome h
     obtain ⟨jG, sF, h⟩ := bsome h
     obtain ⟨bb195, cc195, ss195, hq195, mN⟩ := (OV.slice iD (Cxt.fld (Cxt.root ow_ChainBelt bk76) fl_ChainBelt_1 (y6) (n9)) rfl rfl (zE.2)).2 sF
     refine E_drawL (g := jP) (n := 12) [(7, (fun v g w => v = .int .i64 (iG)))] [0, 1, 2, 3, 4, 5, 6, 7, 8, 9, 10, 11] rfl mixed (by kernel_rfl) (⟨fun _ => up_eq _, trivial⟩) ?_
     refine L_p ((.pointer (some ⟨bk76, (0 + 1), none⟩))) rfl rfl (P_fieldAddrH at_110_1 sH) ?_
     refine L_ld (c := (hdrV (Prod.snd n9) ((y6).Cards).length)) rfl rfl .plain (fun _ _ h => ⟨h.ch, fun b hb _ => h.below.block b hb⟩) iN rfl ?_
     refine L_p (.int .i64 (x5)) rfl rfl (P_move vF) ?_
     refine L_p (fPtr p1 3) rfl rfl (P_fieldAddr at_25_3 qH (PT.ptr lB)) ?_
     refine L_ld (c := yJ) rfl rfl .plain (fun _ _ h => h.ch) jN rfl ?_
     refine L_p (.int .i64 (x5)) rfl rfl (P_move vF) ?_
     refine L_p (.int .i64 ((w64 (x5 + (5 : Int))))) rfl rfl (P_int rfl rfl rfl) ?_
     refine L_do (φ := fun v g w => v = .int .i64 (iG)) rfl rfl .plain (fun g w hd => D_call (g := g) (vs := [yJ, .int .i64 ((w64 (x5 + (5 : Int))))]) en57 (.cons rfl (.cons rfl .nil)) (wk57 (lP.ext hd.1) kN) fun g' w' v hs hr => ⟨g', hs, hr⟩) (fun mU hv => ?_)
     obtain ⟨_, _, _, rfl⟩ := hv
     refine L_p (.int .i64 (aE)) rfl rfl (P_int rfl rfl (congrArg (Option.map (Value.int .i64)) lN)) ?_
     refine L_p (.bool ((aE == (7 : Int)))) rfl rfl (P_int rfl rfl rfl) ?_
     refine L_p ((.pointer (some ⟨bb195, ((Int.toNat x5) * 3), none⟩))) rfl rfl (P_indexH Try.underlying108 Try.sizeOf137 (rfl.trans (hdr_at hq195 _)) rfl (idx_nat sF)) ?_
     refine L_p ((.pointer (some ⟨bb195, (((Int.toNat x5) * 3) + 2), none⟩))) rfl rfl (P_fieldAddrH at_137_2 rfl) ?_
     refine L_nl fun mP nU hs => ?_
     have hfr := hfr.ext hs
     have lB := lB.ext hs
     have eD := eD.ext hs
     have gD := gD.ext hs
     have iD := iD.ext hs
     clear hs
     refine EL_do .plain rfl (D_storeOV (g := mP) (u' := ((aE == (7 : Int)) : Bool)) (Cxt.fld (Cxt.idx (Cxt.fld (Cxt.root ow_ChainBelt bk76) fl_ChainBelt_1 (y6) (n9)) ((y6).Cards) (Int.toNat x5) bb195 cc195 ss195 (idx_nat sF).2 mN) fl_ChainCard_2 (jG) (())) ((congrArg (fun q => ({ y6 with Cards := q } : ChainBelt)) (set_idx sF)).trans rfl) (((congrArg (fun q => ((Prod.fst n9), (Sl.at bb195 cc195 q))) set_unit).trans (congrArg (fun q => ((Prod.fst n9), q)) (hq195).symm)).trans rfl) Try.sizeOf4 rfl iD rfl (RV_bool.2 rfl) fun zJ nP hs b217 => ?_)
     have hfr := hfr.stp hs
     have lB := lB.stp hs
     have eD := eD.stp hs rfl
     have gD := gD.stp hs rfl
     replace b217 : OV ow_ChainBelt 2008 zJ nP 110 (({ y6 with Cards := (List.set ((y6).Cards) (Int.toNat x5) ({ jG with Turned := (aE == (7 : Int)) } : ChainCard)) } : ChainBelt) : ChainBelt) bk76 n9 := b217
     refine EL_nil (blk_n ?_)
     obtain rfl := sinj h
     exact hQ _ _ ⟨zJ, hfr, qH, lB, sJ, eD, vJ, gD, xJ, sH, ⟨_, b217, zE⟩, vF⟩
    ·clear hx
     obtain ⟨oP, hfr, aK, bK, cK, dK, lK, mK, nK, oK, ⟨xQ, pK, lI⟩, qK⟩ := hR
     refine E_region (EL_mv qK rfl ?_)
     refine EL_in (.int .i64 ((w64 (x5 + (1 : Int))))) rfl rfl rfl rfl ?_
     refine EL_at (.int .i64 ((w64 (x5 + (1 : Int))))) rfl rfl ?_
     exact EL_nil (thn_n (eN (oD, (w64 (x5 + (1 : Int)))) _ _ ⟨oP, hfr, aK, bK, cK, dK, lK, mK, nK, oK, ⟨_, pK, lI⟩, rfl⟩ h))
  ·clear hx
   obtain ⟨zG, hfr, tH, n8, uH, r8, xF, yF, ⟨yQ, i7, cF⟩⟩ := hR
   refine E_seq (E_region (EL_do .plain rfl (D_loadAL (g := zG) Try.isAgg110 Try.sizeOf110 yF i7 fun pP al221 => ?_)))
   obtain ⟨iJ, nN, h⟩ := bsome h
   refine EL_do .plain rfl (D_callGF (g := zG) (vs := [pP]) en59 (.cons rfl .nil) (W59 (iO := 4076) (AL.lent al221 i7 cF rfl) nN) fun gl222 oN sP hxl hr => ?_)
   have hm222 := OWx.unlend fw_ow_ChainBelt hxl hr
   obtain ⟨tP, hge222⟩ : ∃ g, g = { m := fun b => if b < oJ.heap.size then zG.m b else gl222.m b, o := gl222.o : Gh } := ⟨_, rfl⟩
   rw [← hge222] at hm222
   have hs : Ext zG oJ tP oN := hge222 ▸ unlend hxl
   clear hxl hr hge222
   have hfr := hfr.ext hs
   have n8 := n8.ext hs
   have r8 := r8.ext hs
   have i7 := i7.ext hs
   obtain ⟨sk222, ow222, ok222⟩ := hm222
   obtain ⟨gp224, hs, rp224⟩ := OW.pub ow222 ok222
   have hfr := hfr.stp hs
   have n8 := n8.stp hs rfl
   have r8 := r8.stp hs rfl
   have i7 := i7.stp hs rfl
   obtain ⟨a9, pN, h⟩ := bsome h
   refine EL_do .plain rfl (D_call (g := gp224) (vs := [sP]) en58 (.cons rfl .nil) (wk58 rp224 pN) fun uP yS oU hs hr => ?_)
   have hfr := hfr.ext hs
   have n8 := n8.ext hs
   have r8 := r8.ext hs
   have i7 := i7.ext hs
   obtain ⟨zF, nS, rfl, aG, rfl⟩ := hr
   refine EL_mw (.tuple #[zF, .int .i64 (a9.2)]) rfl rfl ?_
   refine EL_p zF (P_extract rfl rfl) rfl ?_
   refine EL_p (.int .i64 (a9.2)) (P_extract rfl rfl) rfl ?_
   refine EL_do .plain rfl (D_allocOc (g := uP) 2010 (⟨0, []⟩ : ChainBelt) Try.zeroValue110 (fun m w => ⟨_, (rep_two rep_int rep_nil), rfl⟩) fun sK vP dF hs b227 cb => ?_)
   have hfr := hfr.stp hs
   have n8 := n8.stp hs rfl
   have r8 := r8.stp hs rfl
   have i7 := i7.stp hs rfl
   have aG := aG.stp hs
   have oS : OSF 2010 61001 1 sK vP 137 110 ([] : List ChainCard) dF := cb.osf (by rfl)
   clear cb
   refine EL_do .plain rfl (D_storeOc (g := sK) (v := zF) Try.sizeOf110 rfl b227 rfl aG fun zH pU hs b228 cb => ?_)
   clear cb
   have hfr := hfr.stp hs
   have n8 := n8.stp hs rfl
   have r8 := r8.stp hs rfl
   have i7 := i7.stp hs rfl
   refine EL_at (.int .i64 (a9.2)) rfl rfl ?_
   refine EL_nil (thn_n (E_joinC h (fun (s : Unit) e w => ∃ (g : Gh) , Fr gI wI g w ∧ e 3 = v8 ∧ OB 2003 g w 28 (y4 : TieHarness) v8 ∧ e 4 = v9 ∧ OB 2004 g w 30 (y7 : Design) v9 ∧ e 5 = .int .i64 ((((y7).Rows).length : Int)) ∧ e 8 = (Value.pointer (some ⟨bk76, 0, none⟩)) ∧ OVb ow_ChainBelt 2008 g w 110 (yB : ChainBelt) bk76 ∧ e 10 = dF ∧ OB 2010 g w 110 (a9.1 : ChainBelt) dF) (fun X237 kJ qN h => ?_) ?_))
   ·obtain ⟨zB, hx, h⟩ := bsome h
    refine E_join (fun e w => ∃ (g : Gh) , Fr gI wI g w ∧ e 3 = v8 ∧ OB 2003 g w 28 (y4 : TieHarness) v8 ∧ e 4 = v9 ∧ OB 2004 g w 30 (y7 : Design) v9 ∧ e 5 = .int .i64 ((((y7).Rows).length : Int)) ∧ e 8 = (Value.pointer (some ⟨bk76, 0, none⟩)) ∧ OVb ow_ChainBelt 2008 g w 110 (yB : ChainBelt) bk76 ∧ e 10 = dF ∧ OB 2010 g w 110 (a9.1 : ChainBelt) dF ∧ e 88 = .bool (zB)) (fun Q' hQ => ?_) (fun zS qU hR => ?_)
    ·replace h := hx
     clear hx
     refine E_region (EL_mw (.int .i64 (a9.2)) rfl rfl ?_)
     refine EL_in (.bool ((a9.2 != (0 : Int)))) rfl rfl rfl rfl ?_
     refine EL_mw (.bool ((a9.2 != (0 : Int)))) rfl rfl ?_
     rcases csome h with ⟨u9, h⟩ | ⟨u9, h⟩
     ·refine EL_s rfl rfl u9 rfl rfl ?_
      iterate 4 refine EL_s rfl rfl u9 rfl rfl ?_
      refine EL_p (.bool true) (P_pick (b := (a9.2 != (0 : Int))) rfl (pick_t u9 rfl)) rfl ?_
      refine EL_nil ?_
      obtain rfl := sinj h
      exact hQ _ _ ⟨zH, hfr, tH, n8, uH, r8, xF, yF, ⟨_, i7, cF⟩, rfl, b228, rfl⟩
     ·refine EL_y (fPtr dF 1) (P_fieldAddr at_110_1 rfl (OB.ptr b228)) rfl rfl u9 rfl ?_
      refine EL_do (.yes2 rfl rfl u9) rfl (D_loadF (g := zH) part_ChainBelt_1.1 Try.isAgg108 Try.sizeOf108 rfl b228 fun rU xP => ?_)
      refine EL_y (.int .i64 (((a9.1).Cards).length : Int)) (P_len Try.underlying108 rfl xP) rfl rfl u9 rfl ?_
      refine EL_y (.int .i64 ((((y7).Rows).length : Int))) (P_move xF) rfl rfl u9 rfl ?_
      refine EL_y (.bool (((((a9.1).Cards).length : Int) != (((y7).Rows).length : Int)))) (P_int rfl rfl rfl) rfl rfl u9 rfl ?_
      refine EL_p (.bool (((((a9.1).Cards).length : Int) != (((y7).Rows).length : Int)))) (P_pick (b := (a9.2 != (0 : Int))) rfl (pick_f u9 rfl)) rfl ?_
      refine EL_nil ?_
      obtain rfl := sinj h
      exact hQ _ _ ⟨zH, hfr, tH, n8, uH, r8, xF, yF, ⟨_, i7, cF⟩, rfl, b228, rfl⟩
    ·clear hx
     obtain ⟨yP, hfr, tK, uK, vK, xK, yK, zK, ⟨zQ, aL, mI⟩, nI, pI, gG⟩ := hR
     rcases csome h with ⟨aH, h⟩ | ⟨aH, h⟩
     ·refine E_cond_true (Eq.trans (show ev _ _ = .bool (zB) from gG) (congrArg Value.bool aH)) ?_
      refine E_seq (E_region (EL_at (.bool false) rfl rfl ?_))
      refine EL_nil (thn_n (E_ret (thn_r ?_)))
      obtain rfl := sinj h
      exact end1 rfl rfl (show _ = .bool false from rfl) ⟨_, hfr, rfl⟩
     ·refine E_cond_false (Eq.trans (show ev _ _ = .bool (zB) from gG) (congrArg Value.bool aH)) ?_
      exact E_skip (thn_n (qN () _ _ ⟨yP, hfr, tK, uK, vK, xK, yK, zK, ⟨_, aL, mI⟩, nI, pI⟩ h))
   ·rintro _ eT sU ⟨zP, hfr, z9, l5, l9, o0, bA, bL, ⟨aR, mB, qI⟩, sI, eF⟩ h
    refine E_seq (L_loadO0 (x := .tmp 3) Try.isAgg28 Try.sizeOf28 l5 fun dL bQ rN => ?_)
    obtain ⟨bE, sN, h⟩ := bsome h
    refine L_loadO0 (x := .tmp 4) Try.isAgg30 Try.sizeOf30 o0 fun eL cQ tN => ?_
    obtain ⟨iE, uN, h⟩ := bsome h
    obtain ⟨i6, vN, h⟩ := bsome h
    refine E_drawL (g := zP) (n := 10) [(1, (fun v g w => RV g.m w bE v)), (3, (fun v g w => RV g.m w iE v)), (4, (fun v g w => ∃ y0 y1 : Value, v = .tuple #[y0, y1] ∧ RV g.m w (i6.1 : List Str) y0 ∧ y1 = .int .i64 (i6.2)))] [0, 1, 2, 3, 4, 5, 6, 7, 8, 9] rfl mixed (by kernel_rfl) (⟨fun _ => up_rv, fun _ => up_rv, fun _ => (up_ex fun _ => (up_ex fun _ => (up_and (up_eq _) (up_and up_rv (up_eq _))))), trivial⟩) ?_
    refine L_ld (c := dL) rfl rfl .plain (fun _ _ h => ⟨h.ch, fun b hb _ => h.below.block b hb⟩) rN z9 ?_
    refine L_do (φ := fun v g w => RV g.m w bE v) rfl rfl .plain (fun g w hd => D_call (g := g) (vs := [dL]) en30 (.cons rfl .nil) (wk30 (bQ.ext hd.1) sN) fun g' w' v hs hr => ⟨g', hs, hr⟩) (fun aI hv => ?_)
    obtain ⟨_, _, _, rq248⟩ := hv
    refine L_ld (c := eL) rfl rfl .plain (fun _ _ h => ⟨h.ch, fun b hb _ => h.below.block b hb⟩) tN l9 ?_
    refine L_do (φ := fun v g w => RV g.m w iE v) rfl rfl .plain (fun g w hd => D_call (g := g) (vs := [eL]) en31 (.cons rfl .nil) (wk31 (cQ.ext hd.1) uN) fun g' w' v hs hr => ⟨g', hs, hr⟩) (fun bI hv => ?_)
    obtain ⟨_, _, _, rq251⟩ := hv
    refine L_do (φ := fun v g w => ∃ y0 y1 : Value, v = .tuple #[y0, y1] ∧ RV g.m w (i6.1 : List Str) y0 ∧ y1 = .int .i64 (i6.2)) rfl rfl .plain (fun g w hd => D_call (g := g) (vs := [aI, bI]) en39 (.cons rfl (.cons rfl .nil)) (wk39 (word (A := fun g w => RV g.m w bE aI) 1 rfl rfl (deps_of hd)) (word (A := fun g w => RV g.m w iE bI) 3 rfl rfl (deps_of hd)) vN) fun g' w' v hs hr => ⟨g', hs, hr⟩) (fun tU hv => ?_)
    obtain ⟨_, _, _, g8, _, rfl, bR, rfl⟩ := hv
    refine L_p (.tuple #[g8, .int .i64 (i6.2)]) rfl rfl (P_move rfl) ?_
    refine L_p g8 rfl rfl (P_extract rfl rfl) ?_
    refine L_p (.int .i64 (i6.2)) rfl rfl (P_extract rfl rfl) ?_
    refine L_p g8 rfl rfl (P_assign rfl) ?_
    refine L_p (.int .i64 (i6.2)) rfl rfl (P_assign rfl) ?_
    refine L_nil fun dQ uU hall => ?_
    have hs := hall.1
    have hfr := hfr.ext hs
    have l5 := l5.ext hs
    have o0 := o0.ext hs
    have mB := mB.ext hs
    have eF := eF.ext hs
    have vU := (word_all (A := fun g w => RV g.m w bE aI) 1 rfl hall)
    have xU := (word_all (A := fun g w => RV g.m w iE bI) 3 rfl hall)
    have yU := (tup2_0 (word_all (A := fun g w => ∃ y0 y1 : Value, Value.tuple #[g8, .int .i64 (i6.2)] = .tuple #[y0, y1] ∧ RV g.m w (i6.1 : List Str) y0 ∧ y1 = .int .i64 (i6.2)) 4 rfl hall))
    have l8 := (tup2_0 (word_all (A := fun g w => ∃ y0 y1 : Value, Value.tuple #[g8, .int .i64 (i6.2)] = .tuple #[y0, y1] ∧ RV g.m w (i6.1 : List Str) y0 ∧ y1 = .int .i64 (i6.2)) 4 rfl hall))
    clear hs hall
    refine EL_nil (thn_n (E_seq (L_loadO0 (x := .tmp 10) Try.isAgg110 Try.sizeOf110 eF fun gL eQ xN => ?_)))
    obtain ⟨lE, yN, h⟩ := bsome h
    obtain ⟨t5, zN, h⟩ := bsome h
    refine E_drawL (g := dQ) (n := 11) [(2, (fun v g w => RV g.m w lE v)), (3, (fun v g w => ∃ y0 y1 y2 : Value, v = .tuple #[y0, y1, y2] ∧ RV g.m w (t5.1 : List Int) y0 ∧ y1 = .int .i64 (t5.2.1) ∧ y2 = .int .i64 (t5.2.2)))] [0, 1, 2, 3, 4, 5, 6, 7, 8, 9, 10] rfl mixed (by kernel_rfl) (⟨fun _ => up_rv, fun _ => (up_ex fun _ => (up_ex fun _ => (up_ex fun _ => (up_and (up_eq _) (up_and up_rv (up_and (up_eq _) (up_eq _))))))), trivial⟩) ?_
    refine L_ld (c := gL) rfl rfl .plain (fun _ _ h => ⟨h.ch, fun b hb _ => h.below.block b hb⟩) xN sI ?_
    refine L_p (.int .i64 ((((y7).Rows).length : Int))) rfl rfl (P_move bA) ?_
    refine L_do (φ := fun v g w => RV g.m w lE v) rfl rfl .plain (fun g w hd => D_call (g := g) (vs := [.int .i64 ((((y7).Rows).length : Int)), .int .i64 (1)]) en60 (.cons rfl (.cons rfl .nil)) (wk60  yN) fun g' w' v hs hr => ⟨g', hs, hr⟩) (fun dI hv => ?_)
    obtain ⟨_, _, _, rq272⟩ := hv
    refine L_do (φ := fun v g w => ∃ y0 y1 y2 : Value, v = .tuple #[y0, y1, y2] ∧ RV g.m w (t5.1 : List Int) y0 ∧ y1 = .int .i64 (t5.2.1) ∧ y2 = .int .i64 (t5.2.2)) rfl rfl .plain (fun g w hd => D_call (g := g) (vs := [gL, .int .i64 (0), dI]) en45 (.cons rfl (.cons rfl (.cons rfl .nil))) (wk45 (eQ.ext hd.1) (word (A := fun g w => RV g.m w lE dI) 2 rfl rfl (deps_of hd)) zN) fun g' w' v hs hr => ⟨g', hs, hr⟩) (fun zU hv => ?_)
    obtain ⟨_, _, _, d9, _, _, rfl, cR, rfl, rfl⟩ := hv
    refine L_p (.tuple #[d9, .int .i64 (t5.2.1), .int .i64 (t5.2.2)]) rfl rfl (P_move rfl) ?_
    refine L_p d9 rfl rfl (P_extract rfl rfl) ?_
    refine L_p (.int .i64 (t5.2.1)) rfl rfl (P_extract rfl rfl) ?_
    refine L_p (.int .i64 (t5.2.2)) rfl rfl (P_extract rfl rfl) ?_
    refine L_p d9 rfl rfl (P_assign rfl) ?_
    refine L_p (.int .i64 (t5.2.1)) rfl rfl (P_assign rfl) ?_
    refine L_p (.int .i64 (t5.2.2)) rfl rfl (P_assign rfl) ?_
    refine L_nil fun iL aV hall => ?_
    have hs := hall.1
    have hfr := hfr.ext hs
    have l5 := l5.ext hs
    have o0 := o0.ext hs
    have mB := mB.ext hs
    have l8 := l8.ext hs
    have bV := (word_all (A := fun g w => RV g.m w lE dI) 2 rfl hall)
    have cV := (tup3_0 (word_all (A := fun g w => ∃ y0 y1 y2 : Value, Value.tuple #[d9, .int .i64 (t5.2.1), .int .i64 (t5.2.2)] = .tuple #[y0, y1, y2] ∧ RV g.m w (t5.1 : List Int) y0 ∧ y1 = .int .i64 (t5.2.1) ∧ y2 = .int .i64 (t5.2.2)) 3 rfl hall))
    have uC := (tup3_0 (word_all (A := fun g w => ∃ y0 y1 y2 : Value, Value.tuple #[d9, .int .i64 (t5.2.1), .int .i64 (t5.2.2)] = .tuple #[y0, y1, y2] ∧ RV g.m w (t5.1 : List Int) y0 ∧ y1 = .int .i64 (t5.2.1) ∧ y2 = .int .i64 (t5.2.2)) 3 rfl hall))
    clear hs hall
    refine EL_nil (thn_n (E_seq (L_loadO0 (x := .tmp 3) Try.isAgg28 Try.sizeOf28 l5 fun jL gQ aO => ?_)))
    obtain ⟨mE, bO, h⟩ := bsome h
    refine L_loadO (x := .tmp 108) part_Design_0.1 Try.isAgg3 Try.sizeOf3 o0 fun dV iQ cO => ?_
    obtain rfl := RV_int.1 iQ
    have lL : RV iL.m _ (⟨(y7).Hooks, (t5.1 : List Int)⟩ : Design) (.agg (setCh [[.int .i64 0], [.slice none 0 0]] [(0, .int .i64 ((y7).Hooks)), (1, d9)]).flatten.toArray) := RV_build rfl (rep_pair (rfl) (rep_last (RV.cells uC)))
    generalize dO : (Value.agg (setCh [[.int .i64 0], [.slice none 0 0]] [(0, .int .i64 ((y7).Hooks)), (1, d9)]).flatten.toArray) = mL at lL
    obtain ⟨x6, eO, h⟩ := bsome h
    refine E_drawL (g := iL) (n := 12) [(1, (fun v g w => RV g.m w mE v)), (6, (fun v g w => ∃ y0 y1 : Value, v = .tuple #[y0, y1] ∧ RV g.m w (x6.1 : List Str) y0 ∧ y1 = .int .i64 (x6.2)))] [0, 1, 2, 3, 4, 5, 6, 7, 8, 9, 10, 11] rfl mixed (by kernel_rfl) (⟨fun _ => up_rv, fun _ => (up_ex fun _ => (up_ex fun _ => (up_and (up_eq _) (up_and up_rv (up_eq _))))), trivial⟩) ?_
    refine L_ld (c := jL) rfl rfl .plain (fun _ _ h => ⟨h.ch, fun b hb _ => h.below.block b hb⟩) aO z9 ?_
    refine L_do (φ := fun v g w => RV g.m w mE v) rfl rfl .plain (fun g w hd => D_call (g := g) (vs := [jL]) en30 (.cons rfl .nil) (wk30 (gQ.ext hd.1) bO) fun g' w' v hs hr => ⟨g', hs, hr⟩) (fun iI hv => ?_)
    obtain ⟨_, _, _, rq304⟩ := hv
    refine L_p (fPtr v9 0) rfl rfl (P_fieldAddr at_30_0 l9 (OB.ptr o0)) ?_
    refine L_ld (c := .int .i64 ((y7).Hooks)) rfl rfl .plain (fun _ _ h => ⟨h.ch, fun b hb _ => h.below.block b hb⟩) cO rfl ?_
    refine L_p d9 rfl rfl (P_move rfl) ?_
    refine L_p mL rfl rfl (dO ▸ P_build (vs := [(0, .int .i64 ((y7).Hooks)), (1, d9)]) [[.int .i64 0], [.slice none 0 0]] lay_30 rfl rfl (.cons rfl (.cons rfl .nil)) ⟨⟨_, rfl, rfl⟩, ⟨⟨_, rfl, cells_size uC⟩, trivial⟩⟩) ?_
    refine L_do (φ := fun v g w => ∃ y0 y1 : Value, v = .tuple #[y0, y1] ∧ RV g.m w (x6.1 : List Str) y0 ∧ y1 = .int .i64 (x6.2)) rfl rfl .plain (fun g w hd => D_call (g := g) (vs := [iI, mL]) en39 (.cons rfl (.cons rfl .nil)) (wk39 (word (A := fun g w => RV g.m w mE iI) 1 rfl rfl (deps_of hd)) (lL.ext hd.1) eO) fun g' w' v hs hr => ⟨g', hs, hr⟩) (fun eV hv => ?_)
    obtain ⟨_, _, _, nB, _, rfl, dR, rfl⟩ := hv
    refine L_p (.tuple #[nB, .int .i64 (x6.2)]) rfl rfl (P_move rfl) ?_
    refine L_p nB rfl rfl (P_extract rfl rfl) ?_
    refine L_p (.int .i64 (x6.2)) rfl rfl (P_extract rfl rfl) ?_
    refine L_p nB rfl rfl (P_assign rfl) ?_
    refine L_p (.int .i64 (x6.2)) rfl rfl (P_assign rfl) ?_
    refine L_nil fun gV iV hall => ?_
    have hs := hall.1
    have hfr := hfr.ext hs
    have l5 := l5.ext hs
    have o0 := o0.ext hs
    have mB := mB.ext hs
    have l8 := l8.ext hs
    have uC := uC.ext hs
    have jV := (word_all (A := fun g w => RV g.m w mE iI) 1 rfl hall)
    have kV := (tup2_0 (word_all (A := fun g w => ∃ y0 y1 : Value, Value.tuple #[nB, .int .i64 (x6.2)] = .tuple #[y0, y1] ∧ RV g.m w (x6.1 : List Str) y0 ∧ y1 = .int .i64 (x6.2)) 6 rfl hall))
    have nD := (tup2_0 (word_all (A := fun g w => ∃ y0 y1 : Value, Value.tuple #[nB, .int .i64 (x6.2)] = .tuple #[y0, y1] ∧ RV g.m w (x6.1 : List Str) y0 ∧ y1 = .int .i64 (x6.2)) 6 rfl hall))
    clear hs hall
    refine EL_nil (thn_n (E_seq ?_))
    obtain ⟨go350, hs, b350⟩ := OV.toOB mB qI
    have hfr := hfr.stp hs
    have l5 := l5.stp hs rfl
    have o0 := o0.stp hs rfl
    have l8 := l8.stp hs
    have uC := uC.stp hs
    have nD := nD.stp hs
    clear hs
    refine L_loadO0 (x := .tmp 8) Try.isAgg110 Try.sizeOf110 b350 fun nL jQ gO => ?_
    obtain ⟨oE, jO, h⟩ := bsome h
    obtain ⟨u3, kO, h⟩ := bsome h
    refine E_drawL (g := go350) (n := 11) [(2, (fun v g w => RV g.m w oE v)), (3, (fun v g w => ∃ y0 y1 y2 : Value, v = .tuple #[y0, y1, y2] ∧ RV g.m w (u3.1 : List Int) y0 ∧ y1 = .int .i64 (u3.2.1) ∧ y2 = .int .i64 (u3.2.2)))] [0, 1, 2, 3, 4, 5, 6, 7, 8, 9, 10] rfl mixed (by kernel_rfl) (⟨fun _ => up_rv, fun _ => (up_ex fun _ => (up_ex fun _ => (up_ex fun _ => (up_and (up_eq _) (up_and up_rv (up_and (up_eq _) (up_eq _))))))), trivial⟩) ?_
    refine L_ld (c := nL) rfl rfl .plain (fun _ _ h => ⟨h.ch, fun b hb _ => h.below.block b hb⟩) gO bL ?_
    refine L_p (.int .i64 ((((y7).Rows).length : Int))) rfl rfl (P_move bA) ?_
    refine L_do (φ := fun v g w => RV g.m w oE v) rfl rfl .plain (fun g w hd => D_call (g := g) (vs := [.int .i64 ((((y7).Rows).length : Int)), .int .i64 (1)]) en60 (.cons rfl (.cons rfl .nil)) (wk60  jO) fun g' w' v hs hr => ⟨g', hs, hr⟩) (fun jI hv => ?_)
    obtain ⟨_, _, _, rq352⟩ := hv
    refine L_do (φ := fun v g w => ∃ y0 y1 y2 : Value, v = .tuple #[y0, y1, y2] ∧ RV g.m w (u3.1 : List Int) y0 ∧ y1 = .int .i64 (u3.2.1) ∧ y2 = .int .i64 (u3.2.2)) rfl rfl .plain (fun g w hd => D_call (g := g) (vs := [nL, .int .i64 (0), jI]) en45 (.cons rfl (.cons rfl (.cons rfl .nil))) (wk45 (jQ.ext hd.1) (word (A := fun g w => RV g.m w oE jI) 2 rfl rfl (deps_of hd)) kO) fun g' w' v hs hr => ⟨g', hs, hr⟩) (fun lV hv => ?_)
    obtain ⟨_, _, _, m7, _, _, rfl, eR, rfl, rfl⟩ := hv
    refine L_p (.tuple #[m7, .int .i64 (u3.2.1), .int .i64 (u3.2.2)]) rfl rfl (P_move rfl) ?_
    refine L_p m7 rfl rfl (P_extract rfl rfl) ?_
    refine L_p (.int .i64 (u3.2.1)) rfl rfl (P_extract rfl rfl) ?_
    refine L_p (.int .i64 (u3.2.2)) rfl rfl (P_extract rfl rfl) ?_
    refine L_p m7 rfl rfl (P_assign rfl) ?_
    refine L_p (.int .i64 (u3.2.1)) rfl rfl (P_assign rfl) ?_
    refine L_p (.int .i64 (u3.2.2)) rfl rfl (P_assign rfl) ?_
    refine L_nil fun rF mV hall => ?_
    have hs := hall.1
    have hfr := hfr.ext hs
    have l5 := l5.ext hs
    have o0 := o0.ext hs
    have l8 := l8.ext hs
    have uC := uC.ext hs
    have nD := nD.ext hs
    have nV := (word_all (A := fun g w => RV g.m w oE jI) 2 rfl hall)
    have oV := (tup3_0 (word_all (A := fun g w => ∃ y0 y1 y2 : Value, Value.tuple #[m7, .int .i64 (u3.2.1), .int .i64 (u3.2.2)] = .tuple #[y0, y1, y2] ∧ RV g.m w (u3.1 : List Int) y0 ∧ y1 = .int .i64 (u3.2.1) ∧ y2 = .int .i64 (u3.2.2)) 3 rfl hall))
    have vB := (tup3_0 (word_all (A := fun g w => ∃ y0 y1 y2 : Value, Value.tuple #[m7, .int .i64 (u3.2.1), .int .i64 (u3.2.2)] = .tuple #[y0, y1, y2] ∧ RV g.m w (u3.1 : List Int) y0 ∧ y1 = .int .i64 (u3.2.1) ∧ y2 = .int .i64 (u3.2.2)) 3 rfl hall))
    clear hs hall
    refine EL_nil (thn_n (E_joinC h (fun (s : Unit) e w => ∃ (g : Gh) , Fr gI wI g w ∧ e 3 = v8 ∧ OB 2003 g w 28 (y4 : TieHarness) v8 ∧ e 4 = v9 ∧ OB 2004 g w 30 (y7 : Design) v9 ∧ e 5 = .int .i64 ((((y7).Rows).length : Int)) ∧ e 12 = g8 ∧ RV g.m w ((i6.1 : List Str) : List Str) g8 ∧ e 19 = m7 ∧ RV g.m w ((u3.1 : List Int) : List Int) m7) (fun X430 jJ lO h => ?_) ?_))
    ·obtain ⟨iB, hx, h⟩ := bsome h
     refine E_join (fun e w => ∃ (g : Gh) , Fr gI wI g w ∧ e 3 = v8 ∧ OB 2003 g w 28 (y4 : TieHarness) v8 ∧ e 4 = v9 ∧ OB 2004 g w 30 (y7 : Design) v9 ∧ e 5 = .int .i64 ((((y7).Rows).length : Int)) ∧ e 12 = g8 ∧ RV g.m w ((i6.1 : List Str) : List Str) g8 ∧ e 19 = m7 ∧ RV g.m w ((u3.1 : List Int) : List Int) m7 ∧ e 149 = .bool (iB)) (fun Q' hQ => ?_) (fun lT pV hR => ?_)
     ·replace h := hx
      clear hx
      refine E_region (EL_mw (.int .i64 (i6.2)) rfl rfl ?_)
      refine EL_in (.bool ((i6.2 != (0 : Int)))) rfl rfl rfl rfl ?_
      refine EL_mw (.bool ((i6.2 != (0 : Int)))) rfl rfl ?_
      rcases csome h with ⟨vC, h⟩ | ⟨vC, h⟩
      ·refine EL_s rfl rfl vC rfl rfl ?_
       refine EL_s rfl rfl vC rfl rfl ?_
       refine EL_p (.bool true) (P_pick (b := (i6.2 != (0 : Int))) rfl (pick_t vC rfl)) rfl ?_
       refine EL_dead 21 rfl ?_
       refine EL_nil ?_
       obtain rfl := sinj h
       exact hQ _ _ ⟨rF, hfr, z9, l5, l9, o0, bA, rfl, l8, rfl, vB, rfl⟩
      ·refine EL_y (.int .i64 (t5.2.2)) (P_move rfl) rfl rfl vC rfl ?_
       refine EL_y (.bool ((t5.2.2 != (0 : Int)))) (P_int rfl rfl rfl) rfl rfl vC rfl ?_
       refine EL_p (.bool ((t5.2.2 != (0 : Int)))) (P_pick (b := (i6.2 != (0 : Int))) rfl (pick_f vC rfl)) rfl ?_
       refine EL_mw (.bool ((t5.2.2 != (0 : Int)))) rfl rfl ?_
       rcases csome h with ⟨aD, h⟩ | ⟨aD, h⟩
       ·refine EL_s rfl rfl aD rfl rfl ?_
        refine EL_s rfl rfl aD rfl rfl ?_
        refine EL_p (.bool true) (P_pick (b := (t5.2.2 != (0 : Int))) rfl (pick_t aD rfl)) rfl ?_
        refine EL_dead 17 rfl ?_
        refine EL_nil ?_
        obtain rfl := sinj h
        exact hQ _ _ ⟨rF, hfr, z9, l5, l9, o0, bA, rfl, l8, rfl, vB, rfl⟩
       ·refine EL_y (.int .i64 (x6.2)) (P_move rfl) rfl rfl aD rfl ?_
        refine EL_y (.bool ((x6.2 != (0 : Int)))) (P_int rfl rfl rfl) rfl rfl aD rfl ?_
        refine EL_p (.bool ((x6.2 != (0 : Int)))) (P_pick (b := (t5.2.2 != (0 : Int))) rfl (pick_f aD rfl)) rfl ?_
        refine EL_mw (.bool ((x6.2 != (0 : Int)))) rfl rfl ?_
        rcases csome h with ⟨bD, h⟩ | ⟨bD, h⟩
        ·refine EL_s rfl rfl bD rfl rfl ?_
         refine EL_s rfl rfl bD rfl rfl ?_
         refine EL_p (.bool true) (P_pick (b := (x6.2 != (0 : Int))) rfl (pick_t bD rfl)) rfl ?_
         refine EL_dead 13 rfl ?_
         refine EL_nil ?_
         obtain rfl := sinj h
         exact hQ _ _ ⟨rF, hfr, z9, l5, l9, o0, bA, rfl, l8, rfl, vB, rfl⟩
        ·refine EL_y (.int .i64 (u3.2.2)) (P_move rfl) rfl rfl bD rfl ?_
         refine EL_y (.bool ((u3.2.2 != (0 : Int)))) (P_int rfl rfl rfl) rfl rfl bD rfl ?_
         refine EL_p (.bool ((u3.2.2 != (0 : Int)))) (P_pick (b := (x6.2 != (0 : Int))) rfl (pick_f bD rfl)) rfl ?_
         refine EL_mw (.bool ((u3.2.2 != (0 : Int)))) rfl rfl ?_
         rcases csome h with ⟨y9, h⟩ | ⟨y9, h⟩
         ·refine EL_s rfl rfl y9 rfl rfl ?_
          iterate 4 refine EL_s rfl rfl y9 rfl rfl ?_
          refine EL_p (.bool true) (P_pick (b := (u3.2.2 != (0 : Int))) rfl (pick_t y9 rfl)) rfl ?_
          refine EL_dead 6 rfl ?_
          refine EL_nil ?_
          obtain rfl := sinj h
          exact hQ _ _ ⟨rF, hfr, z9, l5, l9, o0, bA, rfl, l8, rfl, vB, rfl⟩
         ·refine EL_y d9 (P_move rfl) rfl rfl y9 rfl ?_
          refine EL_y (fPtr v9 1) (P_fieldAddr at_30_1 l9 (OB.ptr o0)) rfl rfl y9 rfl ?_
          refine EL_do (.yes2 rfl rfl y9) rfl (D_loadF (g := rF) part_Design_1.1 Try.isAgg26 Try.sizeOf26 rfl o0 fun kQ lQ => ?_)
          obtain ⟨lD, mO, h⟩ := bsome h
          refine EL_do (.yes2 rfl rfl y9) rfl (D_call (g := rF) (vs := [d9, kQ]) en13 (.cons rfl (.cons rfl .nil)) (wk13 uC lQ mO) fun oL mT qV hs hr => ?_)
          have hfr := hfr.ext hs
          have l5 := l5.ext hs
          have o0 := o0.ext hs
          have l8 := l8.ext hs
          have nD := nD.ext hs
          have vB := vB.ext hs
          subst hr
          refine EL_y (.bool (!lD)) (P_not rfl) rfl rfl y9 rfl ?_
          refine EL_p (.bool (!lD)) (P_pick (b := (u3.2.2 != (0 : Int))) rfl (pick_f y9 rfl)) rfl ?_
          refine EL_mw (.bool (!lD)) rfl rfl ?_
          rcases csome h with ⟨yA, h⟩ | ⟨yA, h⟩
          ·refine EL_s rfl rfl yA rfl rfl ?_
           iterate 3 refine EL_s rfl rfl yA rfl rfl ?_
           refine EL_p (.bool true) (P_pick (b := (!lD)) rfl (pick_t yA rfl)) rfl ?_
           refine EL_nil ?_
           obtain rfl := sinj h
           exact hQ _ _ ⟨oL, hfr, z9, l5, l9, o0, bA, rfl, l8, rfl, vB, rfl⟩
          ·refine EL_y nB (P_move rfl) rfl rfl yA rfl ?_
           refine EL_y g8 (P_move rfl) rfl rfl yA rfl ?_
           obtain ⟨mG, nO, h⟩ := bsome h
           refine EL_do (.yes2 rfl rfl yA) rfl (D_call (g := oL) (vs := [nB, g8]) en32 (.cons rfl (.cons rfl .nil)) (wk32 nD l8 nO) fun mQ nT rV hs hr => ?_)
           have hfr := hfr.ext hs
           have l5 := l5.ext hs
           have o0 := o0.ext hs
           have l8 := l8.ext hs
           have vB := vB.ext hs
           subst hr
           refine EL_y (.bool (!mG)) (P_not rfl) rfl rfl yA rfl ?_
           refine EL_p (.bool (!mG)) (P_pick (b := (!lD)) rfl (pick_f yA rfl)) rfl ?_
           refine EL_nil ?_
           obtain rfl := sinj h
           exact hQ _ _ ⟨mQ, hfr, z9, l5, l9, o0, bA, rfl, l8, rfl, vB, rfl⟩
     ·clear hx
      obtain ⟨nQ, hfr, pL, qL, rL, tL, uL, tI, uI, vI, yI, bG⟩ := hR
      rcases csome h with ⟨cH, h⟩ | ⟨cH, h⟩
      ·refine E_cond_true (Eq.trans (show ev _ _ = .bool (iB) from bG) (congrArg Value.bool cH)) ?_
       refine E_seq (E_region (EL_at (.bool false) rfl rfl ?_))
       refine EL_nil (thn_n (E_ret (thn_r ?_)))
       obtain rfl := sinj h
       exact end1 rfl rfl (show _ = .bool false from rfl) ⟨_, hfr, rfl⟩
      ·refine E_cond_false (Eq.trans (show ev _ _ = .bool (iB) from bG) (congrArg Value.bool cH)) ?_
       exact E_skip (thn_n (lO () _ _ ⟨nQ, hfr, pL, qL, rL, tL, uL, tI, uI, vI, yI⟩ h))
    ·rintro _ oT sV ⟨dH, hfr, vL, xL, xH, cC, yL, zI, mC, hG, qC⟩ h
     refine E_seq (E_region (EL_do .plain rfl (D_loadO (g := dH) Try.isAgg28 Try.sizeOf28 vL xL fun oQ pQ => ?_)))
     refine EL_p (fPtr v9 0) (P_fieldAddr at_30_0 xH (OB.ptr cC)) rfl ?_
     refine EL_do .plain rfl (D_loadF (g := dH) part_Design_0.1 Try.isAgg3 Try.sizeOf3 rfl cC fun tV qQ => ?_)
     obtain rfl := RV_int.1 qQ
     refine EL_mv hG rfl ?_
     have zL : RV dH.m _ (⟨(y7).Hooks, (u3.1 : List Int)⟩ : Design) (.agg (setCh [[.int .i64 0], [.slice none 0 0]] [(0, .int .i64 ((y7).Hooks)), (1, m7)]).flatten.toArray) := RV_build rfl (rep_pair (rfl) (rep_last (RV.cells qC)))
     generalize oO : (Value.agg (setCh [[.int .i64 0], [.slice none 0 0]] [(0, .int .i64 ((y7).Hooks)), (1, m7)]).flatten.toArray) = aM at zL
     refine EL_p aM (oO ▸ P_build (vs := [(0, .int .i64 ((y7).Hooks)), (1, m7)]) [[.int .i64 0], [.slice none 0 0]] lay_30 rfl rfl (.cons rfl (.cons rfl .nil)) ⟨⟨_, rfl, rfl⟩, ⟨⟨_, rfl, cells_size qC⟩, trivial⟩⟩) rfl ?_
     obtain ⟨k8, pO, h⟩ := bsome h
     refine EL_do .plain rfl (D_call (g := dH) (vs := [oQ, aM]) en39 (.cons rfl (.cons rfl .nil)) (wk39 pQ zL pO) fun gH pT uV hs hr => ?_)
     have hfr := hfr.ext hs
     have cC := cC.ext hs
     have mC := mC.ext hs
     have qC := qC.ext hs
     obtain ⟨rC, pS, rfl, tD, rfl⟩ := hr
     refine EL_mw (.tuple #[rC, .int .i64 (k8.2)]) rfl rfl ?_
     refine EL_p rC (P_extract rfl rfl) rfl ?_
     refine EL_p (.int .i64 (k8.2)) (P_extract rfl rfl) rfl ?_
     refine EL_at rC rfl rfl ?_
     refine EL_at (.int .i64 (k8.2)) rfl rfl ?_
     refine EL_nil (thn_n ?_)
     obtain ⟨sD, hx, h⟩ := bsome h
     refine E_join (fun e w => ∃ (g : Gh) , Fr gI wI g w ∧ e 2 = .bool (sD)) (fun Q' hQ => ?_) (fun sT vV hR => ?_)
     ·replace h := hx
      clear hx
      refine E_region (EL_mw (.int .i64 (k8.2)) rfl rfl ?_)
      refine EL_in (.bool ((k8.2 == (0 : Int)))) rfl rfl rfl rfl ?_
      refine EL_mw (.bool ((k8.2 == (0 : Int)))) rfl rfl ?_
      rcases csome h with ⟨aB, h⟩ | ⟨aB, h⟩
      ·refine EL_y rC (P_move rfl) rfl rfl aB rfl ?_
       refine EL_y (.int .i64 ((k8.1).length : Int)) (P_len Try.underlying50 rfl tD) rfl rfl aB rfl ?_
       refine EL_y (.int .i64 ((((y7).Rows).length : Int))) (P_move yL) rfl rfl aB rfl ?_
       refine EL_y (.bool ((((k8.1).length : Int) == (((y7).Rows).length : Int)))) (P_int rfl rfl rfl) rfl rfl aB rfl ?_
       refine EL_p (.bool ((((k8.1).length : Int) == (((y7).Rows).length : Int)))) (P_pick (b := (k8.2 == (0 : Int))) rfl (pick_t aB rfl)) rfl ?_
       refine EL_mw (.bool ((((k8.1).length : Int) == (((y7).Rows).length : Int)))) rfl rfl ?_
       rcases csome h with ⟨m8, h⟩ | ⟨m8, h⟩
       ·refine EL_y m7 (P_move hG) rfl rfl m8 rfl ?_
        refine EL_y (fPtr v9 1) (P_fieldAddr at_30_1 xH (OB.ptr cC)) rfl rfl m8 rfl ?_
        refine EL_do (.yes2 rfl rfl m8) rfl (D_loadF (g := gH) part_Design_1.1 Try.isAgg26 Try.sizeOf26 rfl cC fun rQ sQ => ?_)
        obtain ⟨rE, qO, h⟩ := bsome h
        refine EL_do (.yes2 rfl rfl m8) rfl (D_call (g := gH) (vs := [m7, rQ]) en13 (.cons rfl (.cons rfl .nil)) (wk13 qC sQ qO) fun bM tT xV hs hr => ?_)
        have hfr := hfr.ext hs
        have mC := mC.ext hs
        have tD := tD.ext hs
        subst hr
        refine EL_y (.bool (!rE)) (P_not rfl) rfl rfl m8 rfl ?_
        refine EL_y (.bool (!rE)) (P_move rfl) rfl rfl m8 rfl ?_
        rcases csome h with ⟨dB, h⟩ | ⟨dB, h⟩
        ·refine EL_s rfl rfl dB rfl rfl ?_
         refine EL_s rfl rfl dB rfl rfl ?_
         refine EL_s rfl rfl dB rfl rfl ?_
         refine EL_y (.bool true) (P_pick (b := (!rE)) rfl (pick_t dB rfl)) rfl rfl m8 rfl ?_
         refine EL_p (.bool true) (P_pick (b := (((k8.1).length : Int) == (((y7).Rows).length : Int))) rfl (pick_t m8 rfl)) rfl ?_
         refine EL_mw (.bool true) rfl rfl ?_
         obtain ⟨uE, rO, h⟩ := bsome h
         refine EL_do (.yes2 rfl rfl rfl) rfl (D_call (g := bM) (vs := []) en40 .nil (wk40  rO) fun cM uT yV hs hr => ?_)
         have hfr := hfr.ext hs
         subst hr
         refine EL_p (.bool (uE)) (P_pick (b := true) rfl (pick_t rfl rfl)) rfl ?_
         refine EL_mw (.bool (uE)) rfl rfl ?_
         rcases csome h with ⟨uD, h⟩ | ⟨uD, h⟩
         ·obtain ⟨vE, sO, h⟩ := bsome h
          refine EL_do (.yes2 rfl rfl uD) rfl (D_call (g := cM) (vs := []) en61 .nil (wk61  sO) fun dM xT zV hs hr => ?_)
          have hfr := hfr.ext hs
          subst hr
          refine EL_p (.bool (vE)) (P_pick (b := uE) rfl (pick_t uD rfl)) rfl ?_
          refine EL_mw (.bool (vE)) rfl rfl ?_
          rcases csome h with ⟨vD, h⟩ | ⟨vD, h⟩
          ·obtain ⟨kG, tO, h⟩ := bsome h
           refine EL_do (.yes2 rfl rfl vD) rfl (D_call (g := dM) (vs := []) en41 .nil (wk41  tO) fun tQ yT aW hs hr => ?_)
           have hfr := hfr.ext hs
           subst hr
           refine EL_p (.bool (kG)) (P_pick (b := vE) rfl (pick_t vD rfl)) rfl ?_
           refine EL_at (.bool (kG)) rfl rfl ?_
           refine EL_nil ?_
           obtain rfl := sinj h
           exact hQ _ _ ⟨tQ, hfr, rfl⟩
          ·refine EL_s rfl rfl vD rfl rfl ?_
           refine EL_p (.bool false) (P_pick (b := vE) rfl (pick_f vD rfl)) rfl ?_
           refine EL_at (.bool false) rfl rfl ?_
           refine EL_nil ?_
           obtain rfl := sinj h
           exact hQ _ _ ⟨dM, hfr, rfl⟩
         ·refine EL_s rfl rfl uD rfl rfl ?_
          refine EL_p (.bool false) (P_pick (b := uE) rfl (pick_f uD rfl)) rfl ?_
          refine EL_dead 3 rfl ?_
          refine EL_at (.bool false) rfl rfl ?_
          refine EL_nil ?_
          obtain rfl := sinj h
          exact hQ _ _ ⟨cM, hfr, rfl⟩
        ·refine EL_y rC (P_move rfl) rfl rfl dB rfl ?_
         refine EL_y g8 (P_move zI) rfl rfl dB rfl ?_
         obtain ⟨jD, uO, h⟩ := bsome h
         refine EL_do (.yes2 rfl rfl dB) rfl (D_call (g := bM) (vs := [rC, g8]) en32 (.cons rfl (.cons rfl .nil)) (wk32 tD mC uO) fun eM zT bW hs hr => ?_)
         have hfr := hfr.ext hs
         subst hr
         refine EL_y (.bool (jD)) (P_pick (b := (!rE)) rfl (pick_f dB rfl)) rfl rfl m8 rfl ?_
         refine EL_p (.bool (jD)) (P_pick (b := (((k8.1).length : Int) == (((y7).Rows).length : Int))) rfl (pick_t m8 rfl)) rfl ?_
         refine EL_mw (.bool (jD)) rfl rfl ?_
         rcases csome h with ⟨xD, h⟩ | ⟨xD, h⟩
         ·obtain ⟨xE, vO, h⟩ := bsome h
          refine EL_do (.yes2 rfl rfl xD) rfl (D_call (g := eM) (vs := []) en40 .nil (wk40  vO) fun iM aU cW hs hr => ?_)
          have hfr := hfr.ext hs
          subst hr
          refine EL_p (.bool (xE)) (P_pick (b := jD) rfl (pick_t xD rfl)) rfl ?_
          refine EL_mw (.bool (xE)) rfl rfl ?_
          rcases csome h with ⟨yD, h⟩ | ⟨yD, h⟩
          ·obtain ⟨yE, xO, h⟩ := bsome h
           refine EL_do (.yes2 rfl rfl yD) rfl (D_call (g := iM) (vs := []) en61 .nil (wk61  xO) fun jM bU dW hs hr => ?_)
           have hfr := hfr.ext hs
           subst hr
           refine EL_p (.bool (yE)) (P_pick (b := xE) rfl (pick_t yD rfl)) rfl ?_
           refine EL_mw (.bool (yE)) rfl rfl ?_
           rcases csome h with ⟨zD, h⟩ | ⟨zD, h⟩
           ·obtain ⟨lG, yO, h⟩ := bsome h
            refine EL_do (.yes2 rfl rfl zD) rfl (D_call (g := jM) (vs := []) en41 .nil (wk41  yO) fun uQ cU eW hs hr => ?_)
            have hfr := hfr.ext hs
            subst hr
            refine EL_p (.bool (lG)) (P_pick (b := yE) rfl (pick_t zD rfl)) rfl ?_
            refine EL_at (.bool (lG)) rfl rfl ?_
            refine EL_nil ?_
            obtain rfl := sinj h
            exact hQ _ _ ⟨uQ, hfr, rfl⟩
           ·refine EL_s rfl rfl zD rfl rfl ?_
            refine EL_p (.bool false) (P_pick (b := yE) rfl (pick_f zD rfl)) rfl ?_
            refine EL_at (.bool false) rfl rfl ?_
            refine EL_nil ?_
            obtain rfl := sinj h
            exact hQ _ _ ⟨jM, hfr, rfl⟩
          ·refine EL_s rfl rfl yD rfl rfl ?_
           refine EL_p (.bool false) (P_pick (b := xE) rfl (pick_f yD rfl)) rfl ?_
           refine EL_dead 3 rfl ?_
           refine EL_at (.bool false) rfl rfl ?_
           refine EL_nil ?_
           obtain rfl := sinj h
           exact hQ _ _ ⟨iM, hfr, rfl⟩
         ·refine EL_s rfl rfl xD rfl rfl ?_
          refine EL_p (.bool false) (P_pick (b := jD) rfl (pick_f xD rfl)) rfl ?_
          refine EL_dead 6 rfl ?_
          refine EL_at (.bool false) rfl rfl ?_
          refine EL_nil ?_
          obtain rfl := sinj h
          exact hQ _ _ ⟨eM, hfr, rfl⟩
       ·refine EL_s rfl rfl m8 rfl rfl ?_
        iterate 5 refine EL_s rfl rfl m8 rfl rfl ?_
        refine EL_dead 3 rfl ?_
        refine EL_s rfl rfl m8 rfl rfl ?_
        refine EL_p (.bool false) (P_pick (b := (((k8.1).length : Int) == (((y7).Rows).length : Int))) rfl (pick_f m8 rfl)) rfl ?_
        refine EL_dead 9 rfl ?_
        refine EL_at (.bool false) rfl rfl ?_
        refine EL_nil ?_
        obtain rfl := sinj h
        exact hQ _ _ ⟨gH, hfr, rfl⟩
      ·refine EL_s rfl rfl aB rfl rfl ?_
       iterate 3 refine EL_s rfl rfl aB rfl rfl ?_
       refine EL_p (.bool false) (P_pick (b := (k8.2 == (0 : Int))) rfl (pick_f aB rfl)) rfl ?_
       refine EL_dead 21 rfl ?_
       refine EL_at (.bool false) rfl rfl ?_
       refine EL_nil ?_
       obtain rfl := sinj h
       exact hQ _ _ ⟨gH, hfr, rfl⟩
     ·clear hx
      obtain ⟨gW, hfr, kM⟩ := hR
      refine E_ret ?_
      obtain rfl := sinj h
      exact end1 rfl rfl (show _ = .bool (sD) from kM) ⟨_, hfr, rfl⟩
end Go.Proofs.Ytjoniingnbmljaa
