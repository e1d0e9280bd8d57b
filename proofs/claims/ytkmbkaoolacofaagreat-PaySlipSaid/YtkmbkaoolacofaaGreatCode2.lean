import Derived.Test.YtkmbkaoolacofaaGreatCode1
set_option maxRecDepth 8000
set_option maxHeartbeats 4000000
namespace Go.Proofs.YtkmbkaoolacofaaGreat
open Go.RowKit
def f62 (x0 : PayTable) : Option (PayTable) :=
 (apnd 8 ([] : List Int) ((x0).Across)).bind fun y7 =>
 (apnd 8 ([] : List Int) ((x0).Down)).bind fun k8 =>
 Option.bind (α := PayTable) (
  lp (σ := PayTable × Int) (fun vB (t5, l5) =>
   jn (σ := Unit) (fun _ =>
    Option.bind (α := PayTable) (
     (idx ((x0).Rows) l5).bind fun yB =>
     (apnd 8 ([] : List Int) yB).bind fun zB =>
     (apnd 24 ((t5).Rows) (([zB] : List (List Int)))).bind fun aB =>
     some (({ (({ t5 with Rows := [] } : PayTable)) with Rows := aB } : PayTable))
     ) fun g8 =>
    vB (g8, (w64 (l5 + (1 : Int))))
    ) fun cC =>
   bif (decide (l5 < (((x0).Rows).length : Int))) then
    cC ()
   else
    some (t5)
   ) big ((⟨[], y7, k8, (x0).Total⟩ : PayTable), (0 : Int))
  ) fun l8 =>
 some (l8)
theorem en62 : Enters Tryz.prog 62 := enters_of Tryz.func62 (by kernel_rfl) rfl
theorem wk62 {gI : Gh} {wI : World} {x0 : PayTable} {up0 : Value} (rp0 : RV gI.m wI x0 up0) {r : PayTable} (h : f62 x0 = some r) : Fn Tryz.prog 62 #[up0] gI wI (fun m w v => RV m w (r) v) := by
 unfold f62 at h
 refine fn_of_E Tryz.func62 rfl (Nat.le_of_ble_eq_true rfl) fun g0 hm hfr => ?_
 have rp0 : RV g0.m wI x0 up0 := hm ▸ rp0
 show E _ 36 none _ _ _ _ _
 refine E_seq (E_region (EL_do .plain rfl (D_box (g := g0) rfl rp0 fun g1 w1 p1 hs q1 => ?_)))
 have hfr := hfr.ext hs
 refine EL_do .plain rfl (D_allocOc (g := g1) 2002 (⟨[], [], [], 0⟩ : PayTable) Tryz.zeroValue58 (fun m w => ⟨_, (rep_two rep_nil (rep_two rep_nil (rep_two rep_nil rep_int))), rfl⟩) fun g2 w2 p2 hs b2 cb => ?_)
 have hfr := hfr.stp hs
 have q1 := q1.stp hs
 have i6 : OSF 2002 60200 0 g2 w2 23 58 ([] : List (List Int)) p2 := cb.osf (by rfl)
 have x6 : OSF 2002 60201 1 g2 w2 3 58 ([] : List Int) p2 := cb.osf (by rfl)
 have y6 : OSF 2002 60202 2 g2 w2 3 58 ([] : List Int) p2 := cb.osf (by rfl)
 clear cb
 refine EL_nil (thn_n (E_seq ?_))
 have q4 := PT_field (part_PayTable_1).1 q1
 refine L_load (x := .tmp 6) Tryz.isAgg23 Tryz.sizeOf23 q4 fun v5 r5 tF => ?_
 obtain ⟨y7, uF, h⟩ := bsome h
 have q9 := PT_field (part_PayTable_2).1 q1
 refine L_load (x := .tmp 10) Tryz.isAgg23 Tryz.sizeOf23 q9 fun vF xF aE => ?_
 obtain ⟨k8, bE, h⟩ := bsome h
 have yF := PT_field (part_PayTable_3).1 q1
 refine L_load (x := .tmp 13) Tryz.isAgg3 Tryz.sizeOf3 yF fun lH zF iE => ?_
 obtain rfl := RV_int.1 zF
 refine E_drawL (g := g2) (n := 12) [(0, (fun v g w => RV g.m w ([] : List Int) v ∧ OS 3005 g w 3 ([] : List Int) v ∧ FullV v)), (3, (fun v g w => OA 3005 g w 3 y7 v)), (4, (fun v g w => RV g.m w ([] : List Int) v ∧ OS 3009 g w 3 ([] : List Int) v ∧ FullV v)), (7, (fun v g w => OA 3009 g w 3 k8 v)), (11, (fun v g w => OB 2003 g w 58 (⟨[], [], [], 0⟩ : PayTable) v))] [0, 1, 2, 3, 4, 5, 6, 7, 8, 9, 10, 11] rfl mixed (by kernel_rfl) (⟨fun _ => up_and up_rv (up_and up_os (up_eq _)), fun _ => up_oa, fun _ => up_and up_rv (up_and up_os (up_eq _)), fun _ => up_oa, fun _ => up_ob, trivial⟩) ?_
 refine L_do (φ := fun v g w => RV g.m w ([] : List Int) v ∧ OS 3005 g w 3 ([] : List Int) v ∧ FullV v) rfl rfl .plain (fun g w hd => D_buildSlice (g := g) 3005 (xs := ([] : List Int)) (vs := []) Tryz.underlying23 Tryz.sizeOf3 Tryz.zeroValue3 rfl rfl .nil RVs.nil rfl rfl fun g' w' v hs o r hxt hfl => ⟨g', hxt, r, o, hfl⟩) (fun v3 hv => ?_)
 clear hv
 refine L_p (fPtr p1 1) rfl rfl (P_fieldAddr at_58_1 rfl (PT.ptr q1)) ?_
 refine L_ld (c := v5) rfl rfl .plain (fun _ _ h => h.ch) tF rfl ?_
 refine L_do (φ := fun v g w => OA 3005 g w 3 y7 v) rfl rfl .plain (fun g w hd => D_appendE (g := g) plain_int (i := 3005) Tryz.underlying23 info_3 rfl rfl (word (A := fun g w => RV g.m w ([] : List Int) v3 ∧ OS 3005 g w 3 ([] : List Int) v3 ∧ FullV v3) 0 rfl rfl (deps_of hd)).2.1 (word (A := fun g w => RV g.m w ([] : List Int) v3 ∧ OS 3005 g w 3 ([] : List Int) v3 ∧ FullV v3) 0 rfl rfl (deps_of hd)).2.2 rfl (r5.ext hd.1) uF fun g' w' v hs b => ⟨g', hs, b⟩) (fun v6 hv => ?_)
 have sz6 : v6.cells.size = 1 := let ⟨_, _, _, hw⟩ := hv; OA.csz1 hw
 clear hv
 refine L_do (φ := fun v g w => RV g.m w ([] : List Int) v ∧ OS 3009 g w 3 ([] : List Int) v ∧ FullV v) rfl rfl .plain (fun g w hd => D_buildSlice (g := g) 3009 (xs := ([] : List Int)) (vs := []) Tryz.underlying23 Tryz.sizeOf3 Tryz.zeroValue3 rfl rfl .nil RVs.nil rfl rfl fun g' w' v hs o r hxt hfl => ⟨g', hxt, r, o, hfl⟩) (fun v8 hv => ?_)
 clear hv
 refine L_p (fPtr p1 2) rfl rfl (P_fieldAddr at_58_2 rfl (PT.ptr q1)) ?_
 refine L_ld (c := vF) rfl rfl .plain (fun _ _ h => h.ch) aE rfl ?_
 refine L_do (φ := fun v g w => OA 3009 g w 3 k8 v) rfl rfl .plain (fun g w hd => D_appendE (g := g) plain_int (i := 3009) Tryz.underlying23 info_3 rfl rfl (word (A := fun g w => RV g.m w ([] : List Int) v8 ∧ OS 3009 g w 3 ([] : List Int) v8 ∧ FullV v8) 4 rfl rfl (deps_of hd)).2.1 (word (A := fun g w => RV g.m w ([] : List Int) v8 ∧ OS 3009 g w 3 ([] : List Int) v8 ∧ FullV v8) 4 rfl rfl (deps_of hd)).2.2 rfl (xF.ext hd.1) bE fun g' w' v hs b => ⟨g', hs, b⟩) (fun k9 hv => ?_)
 have sz11 : k9.cells.size = 1 := let ⟨_, _, _, hw⟩ := hv; OA.csz1 hw
 clear hv
 refine L_p (fPtr p1 3) rfl rfl (P_fieldAddr at_58_3 rfl (PT.ptr q1)) ?_
 refine L_ld (c := .int .i64 ((x0).Total)) rfl rfl .plain (fun _ _ h => h.ch) iE rfl ?_
 refine L_p ((Value.agg (setCh [[.slice none 0 0], [.slice none 0 0], [.slice none 0 0], [.int .i64 0]] [(1, v6), (2, k9), (3, .int .i64 ((x0).Total))]).flatten.toArray)) rfl rfl (P_build (vs := [(1, v6), (2, k9), (3, .int .i64 ((x0).Total))]) [[.slice none 0 0], [.slice none 0 0], [.slice none 0 0], [.int .i64 0]] lay_58 rfl rfl (.cons rfl (.cons rfl (.cons rfl .nil))) ⟨⟨_, rfl, sz6⟩, ⟨⟨_, rfl, sz11⟩, ⟨⟨_, rfl, rfl⟩, trivial⟩⟩⟩) ?_
 refine L_do (φ := fun v g w => OB 2003 g w 58 (⟨[], [], [], 0⟩ : PayTable) v) rfl rfl .plain (fun g w hd => D_allocX (g := g) 2003 (⟨[], [], [], 0⟩ : PayTable) Tryz.zeroValue58 (fun m w => ⟨_, (rep_two rep_nil (rep_two rep_nil (rep_two rep_nil rep_int))), rfl⟩) fun g' w' v hs b => ⟨g', hs, b⟩) (fun aG hv => ?_)
 clear hv
 refine L_nil fun bG mC hall => ?_
 have hs := hall.1
 have hfr := hfr.ext hs
 have q1 := q1.ext hs
 have i6 := i6.ext hs
 have x6 := x6.ext hs
 have y6 := y6.ext hs
 have b2 := b2.ext hs
 have mH := (word_all (A := fun g w => RV g.m w ([] : List Int) v3 ∧ OS 3005 g w 3 ([] : List Int) v3 ∧ FullV v3) 0 rfl hall).1
 have o21 := (word_all (A := fun g w => RV g.m w ([] : List Int) v3 ∧ OS 3005 g w 3 ([] : List Int) v3 ∧ FullV v3) 0 rfl hall).2.1
 have b24 := (word_all (A := fun g w => OA 3005 g w 3 y7 v6) 3 rfl hall)
 have nH := (word_all (A := fun g w => RV g.m w ([] : List Int) v8 ∧ OS 3009 g w 3 ([] : List Int) v8 ∧ FullV v8) 4 rfl hall).1
 have o25 := (word_all (A := fun g w => RV g.m w ([] : List Int) v8 ∧ OS 3009 g w 3 ([] : List Int) v8 ∧ FullV v8) 4 rfl hall).2.1
 have b28 := (word_all (A := fun g w => OA 3009 g w 3 k8 k9) 7 rfl hall)
 have b32 := (word_all (A := fun g w => OB 2003 g w 58 (⟨[], [], [], 0⟩ : PayTable) aG) 11 rfl hall)
 clear hs hall
 obtain ⟨sk35, ow35, ok35⟩ := OA.toW b24
 obtain ⟨sk36, ow36, ok36⟩ := OA.toW b28
 have wn37 := Wn.fl (Wn.shl (y := ((x0).Total : Int)) (g := bG) (w := mC) (RV.cells (RV_int.2 rfl)) 804015)
 obtain ⟨gq38, hs, _, wn38⟩ := Wn.pair (OW.wn ow36) wn37 rfl
 have hfr := hfr.stp hs
 have q1 := q1.stp hs
 have i6 := i6.stp hs rfl
 have x6 := x6.stp hs rfl
 have y6 := y6.stp hs rfl
 have b2 := b2.stp hs rfl
 have b32 := b32.stp hs rfl
 have ow35 := ow35.stp hs rfl
 obtain ⟨gq39, hs, _, wn39⟩ := Wn.pair (OW.wn ow35) wn38 rfl
 have hfr := hfr.stp hs
 have q1 := q1.stp hs
 have i6 := i6.stp hs rfl
 have x6 := x6.stp hs rfl
 have y6 := y6.stp hs rfl
 have b2 := b2.stp hs rfl
 have b32 := b32.stp hs rfl
 obtain ⟨gq40, hs, _, wn40⟩ := Wn.pair (Wn.nil 23 (Ow.list 3 (Ow.sh Int)) 700 gq39 mC) wn39 rfl
 have hfr := hfr.stp hs
 have q1 := q1.stp hs
 have i6 := i6.stp hs rfl
 have x6 := x6.stp hs rfl
 have y6 := y6.stp hs rfl
 have b2 := b2.stp hs rfl
 have b32 := b32.stp hs rfl
 have ow34 : OW ow_PayTable 804015 gq40 mC (⟨[], y7, k8, (x0).Total⟩ : PayTable) (Sl.nil, (sk35, (sk36, ()))) (Value.agg (setCh [[.slice none 0 0], [.slice none 0 0], [.slice none 0 0], [.int .i64 0]] [(1, v6), (2, k9), (3, .int .i64 ((x0).Total))]).flatten.toArray) := Wn.mk_ (Wn.struct (x := ((⟨[], y7, k8, (x0).Total⟩ : PayTable))) wn40)
 refine EL_do .plain rfl (D_storeOW (g := gq40) Tryz.sizeOf58 rfl b32 rfl ow34 rfl fun gj41 cG oH bk41 hsa hsb hpp b41 => ?_)
 have hfr := hfr.stp hsa
 have q1 := q1.stp hsa
 have i6 := i6.stp hsa rfl
 have x6 := x6.stp hsa rfl
 have y6 := y6.stp hsa rfl
 have b2 := b2.stp hsa rfl
 have hfr := hfr.stp hsb
 have q1 := q1.stp hsb
 have i6 := i6.stp hsb rfl
 have x6 := x6.stp hsb rfl
 have y6 := y6.stp hsb rfl
 have b2 := b2.stp hsb rfl
 clear hsa hsb
 subst hpp
 refine EL_nil (thn_n ?_)
 obtain ⟨l8, hx, h⟩ := bsome h
 refine E_join (fun e w => ∃ (g : Gh) , Fr gI wI g w ∧ e 2 = p2 ∧ OB 2002 g w 58 ((⟨[], [], [], 0⟩ : PayTable) : PayTable) p2 ∧ OSF 2002 60200 0 g w 23 58 (((⟨[], [], [], 0⟩ : PayTable)).Rows) p2 ∧ OSF 2002 60201 1 g w 3 58 (((⟨[], [], [], 0⟩ : PayTable)).Across) p2 ∧ OSF 2002 60202 2 g w 3 58 (((⟨[], [], [], 0⟩ : PayTable)).Down) p2 ∧ e 3 = (Value.pointer (some ⟨bk41, 0, none⟩)) ∧ OVb ow_PayTable 2003 g w 58 (l8 : PayTable) bk41) (fun Q' hQ => ?_) (fun eG jG hR => ?_)
 ·replace h := hx
  clear hx
  refine E_seq (E_region (EL_at (.int .i64 (0)) rfl rfl ?_))
  refine EL_nil (thn_n (E_block ?_))
  refine E_lp h (fun (s : PayTable × Int) e w => ∃ (g : Gh) , Fr gI wI g w ∧ e 1 = p1 ∧ PT g.m w (x0 : PayTable) p1 ∧ e 2 = p2 ∧ OB 2002 g w 58 ((⟨[], [], [], 0⟩ : PayTable) : PayTable) p2 ∧ OSF 2002 60200 0 g w 23 58 (((⟨[], [], [], 0⟩ : PayTable)).Rows) p2 ∧ OSF 2002 60201 1 g w 3 58 (((⟨[], [], [], 0⟩ : PayTable)).Across) p2 ∧ OSF 2002 60202 2 g w 3 58 (((⟨[], [], [], 0⟩ : PayTable)).Down) p2 ∧ e 3 = (Value.pointer (some ⟨bk41, 0, none⟩)) ∧ OVb ow_PayTable 2003 g w 58 (s.1 : PayTable) bk41 ∧ e 4 = .int .i64 (s.2)) ⟨cG, hfr, rfl, q1, rfl, b2, i6, x6, y6, rfl, ⟨_, b41, (⟨trivial, ⟨ok35, ⟨ok36, trivial⟩⟩⟩ : (ow_PayTable).ok (Sl.nil, (sk35, (sk36, ()))))⟩, rfl⟩ (fun X118 vB oD => ?_)
  rintro ⟨t5, l5⟩ gG kG ⟨dB, hfr, l9, m8, n9, u9, u2_0_119, u2_1_119, u2_2_119, y9, ⟨eF, z9, x8⟩, bA⟩ h
  refine E_joinC h (fun (s : Unit) e w => ∃ (g : Gh) , Fr gI wI g w ∧ e 1 = p1 ∧ PT g.m w (x0 : PayTable) p1 ∧ e 2 = p2 ∧ OB 2002 g w 58 ((⟨[], [], [], 0⟩ : PayTable) : PayTable) p2 ∧ OSF 2002 60200 0 g w 23 58 (((⟨[], [], [], 0⟩ : PayTable)).Rows) p2 ∧ OSF 2002 60201 1 g w 3 58 (((⟨[], [], [], 0⟩ : PayTable)).Across) p2 ∧ OSF 2002 60202 2 g w 3 58 (((⟨[], [], [], 0⟩ : PayTable)).Down) p2 ∧ e 3 = (Value.pointer (some ⟨bk41, 0, none⟩)) ∧ OVb ow_PayTable 2003 g w 58 (t5 : PayTable) bk41 ∧ e 4 = .int .i64 (l5)) (fun X123 cC sD h => ?_) ?_
  ·refine E_seq (E_region (EL_mv bA rfl ?_))
   refine EL_p (fPtr p1 0) (P_fieldAddr at_58_0 l9 (PT.ptr m8)) rfl ?_
   have lE := PT_field (part_PayTable_0).1 m8
   refine EL_do .plain rfl (D_load (g := dB) Tryz.isAgg56 Tryz.sizeOf56 rfl lE fun lG mE => ?_)
   refine EL_p (.int .i64 (((x0).Rows).length : Int)) (P_len Tryz.underlying56 rfl mE) rfl ?_
   refine EL_p (.bool ((decide (l5 < (((x0).Rows).length : Int))))) (P_int rfl rfl rfl) rfl ?_
   refine EL_nil (thn_n ?_)
   rcases csome h with ⟨a9, h⟩ | ⟨a9, h⟩
   ·refine E_ct a9 rfl ?_
    exact E_skip (thn_n (sD () _ _ ⟨dB, hfr, l9, m8, n9, u9, u2_0_119, u2_1_119, u2_2_119, y9, ⟨_, z9, x8⟩, bA⟩ h))
   ·refine E_cf a9 rfl ?_
    refine E_exit ?_
    refine thn_e ?_
    refine thn_e ?_
    refine blk_hit ?_
    obtain rfl := sinj h
    exact hQ _ _ ⟨dB, hfr, n9, u9, u2_0_119, u2_1_119, u2_2_119, y9, ⟨_, z9, x8⟩⟩
  ·rintro _ hG nE ⟨qC, hfr, iA, o0, rC, u3, u2_0_127, u2_1_127, u2_2_127, n8, ⟨i7, x5, m7⟩, rA⟩ h
   obtain ⟨g8, hx, h⟩ := bsome h
   refine E_join (fun e w => ∃ (g : Gh) , Fr gI wI g w ∧ e 1 = p1 ∧ PT g.m w (x0 : PayTable) p1 ∧ e 2 = p2 ∧ OB 2002 g w 58 ((⟨[], [], [], 0⟩ : PayTable) : PayTable) p2 ∧ OSF 2002 60200 0 g w 23 58 (((⟨[], [], [], 0⟩ : PayTable)).Rows) p2 ∧ OSF 2002 60201 1 g w 3 58 (((⟨[], [], [], 0⟩ : PayTable)).Across) p2 ∧ OSF 2002 60202 2 g w 3 58 (((⟨[], [], [], 0⟩ : PayTable)).Down) p2 ∧ e 3 = (Value.pointer (some ⟨bk41, 0, none⟩)) ∧ OVb ow_PayTable 2003 g w 58 (g8 : PayTable) bk41 ∧ e 4 = .int .i64 (l5)) (fun Q' hQ => ?_) (fun iG mG hR => ?_)
   ·replace h := hx
    clear hx
    refine E_block ?_
    refine L_loadH (x := .tmp 23) (Cxt.fld (Cxt.root ow_PayTable bk41) fl_PayTable_0 (t5) (i7)) rfl rfl (m7.1) Tryz.isAgg56 x5 fun tD => ?_
    have iB := PT_field (part_PayTable_0).1 o0
    refine L_load (x := .tmp 26) Tryz.isAgg56 Tryz.sizeOf56 iB fun uC d9 uD => ?_
    obtain ⟨yB, nB, h⟩ := bsome h
    have lB := PT_idx d9 nB
    refine L_load (x := .tmp 29) Tryz.isAgg23 Tryz.sizeOf23 lB fun oE mB vD => ?_
    obtain ⟨zB, xD, h⟩ := bsome h
    refine E_drawC (g := qC) (w := nE) (n := 10) [0, 1, 3, 4, 5, 6, 7] [2003] [0, 1, 2, 3, 4, 5, 6, 7, 8, 9] rfl mixed (by kernel_rfl) fun w_c172 hs hlt => ?_
    have hfr := hfr.ext hs
    have o0 := o0.ext hs
    have u2_0_127 := u2_0_127.ext hs
    have u2_1_127 := u2_1_127.ext hs
    have u2_2_127 := u2_2_127.ext hs
    have u3 := u3.ext hs
    have x5 := x5.ext hs
    clear hs
    refine CH_pur (c := (.pointer (some ⟨bk41, (0 + 0), none⟩))) rfl rfl .plain (P_fieldAddrH at_58_0 n8) ?_
    refine CH_ldO (n := 2003) (c := (hdrV (Prod.fst i7) ((t5).Rows).length)) rfl rfl .plain tD rfl rfl ?_
    refine CH_do rfl rfl .plain (D_buildSlice (g := qC) 3025 (xs := ([] : List Int)) (vs := []) Tryz.underlying23 Tryz.sizeOf3 Tryz.zeroValue3 rfl rfl .nil RVs.nil rfl rfl fun rE sG xG hs o176 yG hxt hfl => ?_)
    have hfr := hfr.stp hs
    have hlt := hlt.stp hs
    have o0 := o0.stp hs
    have u2_0_127 := u2_0_127.stp hs rfl
    have u2_1_127 := u2_1_127.stp hs rfl
    have u2_2_127 := u2_2_127.stp hs rfl
    have u3 := u3.stp hs rfl
    have x5 := x5.stp hs rfl
    refine ⟨hlt.toW, ?_⟩
    refine CH_pur (c := fPtr p1 0) rfl rfl .plain (P_fieldAddr at_58_0 iA (PT.ptr o0)) ?_
    have iB := iB.ch hlt.1
    refine CH_ldP (c := uC) rfl rfl .plain uD rfl ?_
    have d9 := d9.ch hlt.1
    refine CH_pur (c := .int .i64 (l5)) rfl rfl .plain (P_move rA) ?_
    refine CH_pur (c := ePtr uC l5 1) rfl rfl .plain (P_indexAddr (α := List Int) Tryz.underlying56 Tryz.sizeOf23 rfl d9 rfl nB) ?_
    have lB := lB.ch hlt.1
    refine CH_ldP (c := oE) rfl rfl .plain vD rfl ?_
    have mB := mB.ch hlt.1
    have oa182 := OA.ofOS o176
    refine CH_do rfl rfl .plain (D_appendA (g := rE) plain_int (i := 3025) Tryz.underlying23 info_3 rfl rfl oa182 rfl mB xD fun uE zG aH hs b182 => ?_)
    have hfr := hfr.stp hs
    have hlt := hlt.stp hs
    have o0 := o0.stp hs
    have u2_0_127 := u2_0_127.stp hs rfl
    have u2_1_127 := u2_1_127.stp hs rfl
    have u2_2_127 := u2_2_127.stp hs rfl
    have u3 := u3.stp hs rfl
    have x5 := x5.stp hs rfl
    refine ⟨hlt.toW, ?_⟩
    obtain ⟨sk184, ow184, ok184⟩ := OA.toW b182
    refine CH_do rfl rfl .plain (D_buildSliceW (g := uE) (E := (Ow.list 3 (Ow.sh Int))) Tryz.underlying56 Tryz.sizeOf23 Tryz.zeroValue23 rfl rfl rfl rfl ow184 ok184 fun cH vE b184 hs bw184 bk184 => ?_)
    have hfr := hfr.stp hs
    have hlt := hlt.stp hs
    have o0 := o0.stp hs
    have u2_0_127 := u2_0_127.stp hs rfl
    have u2_1_127 := u2_1_127.stp hs rfl
    have u2_2_127 := u2_2_127.stp hs rfl
    have u3 := u3.stp hs rfl
    have x5 := x5.stp hs rfl
    refine ⟨hlt.toW, ?_⟩
    refine CH_nil ?_
    clear hlt
    obtain ⟨gt185, hs, b185, wt185⟩ := OV.take x5 (Cxt.fld (Cxt.root ow_PayTable bk41) fl_PayTable_0 (t5) (i7)) rfl rfl (m7.1) 704185 rfl
    have hfr := hfr.stp hs
    have o0 := o0.stp hs
    have u2_0_127 := u2_0_127.stp hs rfl
    have u2_1_127 := u2_1_127.stp hs rfl
    have u2_2_127 := u2_2_127.stp hs rfl
    have u3 := u3.stp hs rfl
    have bw184 := bw184.stp hs rfl
    replace b185 : OV ow_PayTable 2003 gt185 vE 58 (({ t5 with Rows := [] } : PayTable) : PayTable) bk41 (Sl.hole, (Prod.snd i7)) := b185
    obtain ⟨aB, yD, h⟩ := bsome h
    refine EL_do .plain rfl (D_appendW (g := gt185) Tryz.underlying56 info_23 rfl rfl wt185 (m7.1) rfl bw184 bk184 (by exact Nat.le_refl 1) rfl yD fun gm186 xE dH gH sk186 hs hs2 bw186 bk186 => ?_)
    have hfr := hfr.stp hs
    have o0 := o0.stp hs
    have u2_0_127 := u2_0_127.stp hs rfl
    have u2_1_127 := u2_1_127.stp hs rfl
    have u2_2_127 := u2_2_127.stp hs rfl
    have u3 := u3.stp hs rfl
    have b185 := b185.stp hs rfl
    clear hs
    have hs := hs2
    have hfr := hfr.stp hs
    have o0 := o0.stp hs
    have u2_0_127 := u2_0_127.stp hs rfl
    have u2_1_127 := u2_1_127.stp hs rfl
    have u2_2_127 := u2_2_127.stp hs rfl
    have u3 := u3.stp hs rfl
    have b185 := b185.stp hs rfl
    clear hs2
    refine EL_p ((.pointer (some ⟨bk41, (0 + 0), none⟩))) (P_fieldAddrH at_58_0 n8) rfl ?_
    refine EL_do .plain rfl (D_storeW (g := xE) (Cxt.fld (Cxt.root ow_PayTable bk41) fl_PayTable_0 (({ t5 with Rows := [] } : PayTable)) ((Sl.hole, (Prod.snd i7)))) rfl rfl Tryz.sizeOf56 rfl b185 rfl bw186 rfl fun gj191 vC yE hsa hsb b191 => ?_)
    have hfr := hfr.stp hsa
    have o0 := o0.stp hsa
    have u2_0_127 := u2_0_127.stp hsa rfl
    have u2_1_127 := u2_1_127.stp hsa rfl
    have u2_2_127 := u2_2_127.stp hsa rfl
    have u3 := u3.stp hsa rfl
    have hfr := hfr.stp hsb
    have o0 := o0.stp hsb
    have u2_0_127 := u2_0_127.stp hsb rfl
    have u2_1_127 := u2_1_127.stp hsb rfl
    have u2_2_127 := u2_2_127.stp hsb rfl
    have u3 := u3.stp hsb rfl
    clear hsa hsb
    replace b191 : OV ow_PayTable 2003 vC yE 58 (({ (({ t5 with Rows := [] } : PayTable)) with Rows := aB } : PayTable) : PayTable) bk41 (sk186, (Prod.snd i7)) := b191
    refine EL_nil (blk_n ?_)
    obtain rfl := sinj h
    exact hQ _ _ ⟨vC, hfr, iA, o0, rC, u3, u2_0_127, u2_1_127, u2_2_127, n8, ⟨_, b191, ⟨bk186, ⟨((m7.2).1), ⟨(((m7.2).2).1), (((m7.2).2).2)⟩⟩⟩⟩, rA⟩
   ·clear hx
    obtain ⟨zE, hfr, aD, bD, cD, eD, u2_0_192, u2_1_192, u2_2_192, gD, ⟨rF, iD, oB⟩, jD⟩ := hR
    refine E_region (EL_mv jD rfl ?_)
    refine EL_in (.int .i64 ((w64 (l5 + (1 : Int))))) rfl rfl rfl rfl ?_
    refine EL_at (.int .i64 ((w64 (l5 + (1 : Int))))) rfl rfl ?_
    exact EL_nil (thn_n (oD (g8, (w64 (l5 + (1 : Int)))) _ _ ⟨zE, hfr, aD, bD, cD, eD, u2_0_192, u2_1_192, u2_2_192, gD, ⟨_, iD, oB⟩, rfl⟩ h))
 ·clear hx
  obtain ⟨iH, hfr, yA, r8, u2_0_193, u2_1_193, u2_2_193, lD, ⟨sF, nD, tB⟩⟩ := hR
  refine E_seq (E_region ?_)
  obtain ⟨go195, hs, b195⟩ := OV.toOB nD tB
  have hfr := hfr.stp hs
  have r8 := r8.stp hs rfl
  refine EL_do .plain rfl (D_loadO (g := go195) Tryz.isAgg58 Tryz.sizeOf58 lD b195 fun cF dF => ?_)
  refine EL_do .plain rfl (D_storeOc (g := go195) (v := cF) Tryz.sizeOf58 yA r8 rfl dF fun jH kH hs b197 cb => ?_)
  clear cb
  have hfr := hfr.stp hs
  refine EL_nil (thn_n (E_ret ?_))
  obtain rfl := sinj h
  obtain ⟨ad198, cv198, hp198, zD, cr198⟩ := ob_read Tryz.isAgg58 Tryz.sizeOf58 b197
  exact endm_c rfl rfl ((show _ = p2 from yA).trans hp198) zD ⟨_, hfr, cr198⟩
def f70 (x0 : Int) : Option (Bool) :=
 some ((x0 != (0 : Int)))
theorem en70 : Enters Tryz.prog 70 := enters_of Tryz.func70 (by kernel_rfl) rfl
theorem wk70 {gI : Gh} {wI : World} {x0 : Int}  {r : Bool} (h : f70 x0 = some r) : Fn Tryz.prog 70 #[.int .i64 (x0)] gI wI (fun _ _ v => v = .bool (r)) := by
 unfold f70 at h
 refine fn_of_E Tryz.func70 rfl (Nat.le_of_ble_eq_true rfl) fun g0 hm hfr => ?_
 show E _ 5 none _ _ _ _ _
 refine E_seq (E_region (EL_at (.bool false) rfl rfl ?_))
 refine EL_nil (thn_n (E_seq (E_region (EL_mw (.int .i64 (x0)) rfl rfl ?_))))
 refine EL_in (.bool ((x0 != (0 : Int)))) rfl rfl rfl rfl ?_
 refine EL_at (.bool ((x0 != (0 : Int)))) rfl rfl ?_
 refine EL_nil (thn_n (E_ret ?_))
 obtain rfl := sinj h
 exact end1 rfl rfl (show _ = .bool ((x0 != (0 : Int))) from rfl) ⟨_, hfr, rfl⟩
def f71 (x0 : List Int) : Option (Int × Int) :=
 Option.bind (α := Int × Int) (
  lp (σ := Int × Int × Int) (fun z9 (i7, u3, o0) =>
   bif (decide (o0 < ((x0).length : Int))) then
    Option.bind (α := Int × Int) (
     (idx x0 o0).bind fun l8 =>
     bif (l8 != (0 : Int)) then
      some (o0, (w64 (u3 + (1 : Int))))
     else
      some (i7, u3)
     ) fun (i6, x6) =>
    z9 (i6, x6, (w64 (o0 + (1 : Int))))
   else
    some (i7, u3)
   ) big ((0 : Int), (0 : Int), (0 : Int))
  ) fun (l5, t5) =>
 some (l5, t5)
theorem en71 : Enters Tryz.prog 71 := enters_of Tryz.func71 (by kernel_rfl) rfl
theorem wk71 {gI : Gh} {wI : World} {x0 : List Int} {up0 : Value} (rp0 : RV gI.m wI x0 up0) {r : Int × Int} (h : f71 x0 = some r) : Fn Tryz.prog 71 #[up0] gI wI (fun m w v => ∃ y0 y1, v = .tuple #[y0, y1] ∧ y0 = .int .i64 (r.1) ∧ y1 = .int .i64 (r.2)) := by
 unfold f71 at h
 refine fn_of_E Tryz.func71 rfl (Nat.le_of_ble_eq_true rfl) fun g0 hm hfr => ?_
 have rp0 : RV g0.m wI x0 up0 := hm ▸ rp0
 show E _ 21 none _ _ _ _ _
 refine E_seq (E_region (EL_at (.int .i64 (0)) rfl rfl ?_))
 refine EL_at (.int .i64 (0)) rfl rfl ?_
 refine EL_nil (thn_n ?_)
 obtain ⟨⟨l5, t5⟩, hx, h⟩ := bsome h
 refine E_join (fun e w => ∃ (g : Gh) , Fr gI wI g w ∧ e 2 = .int .i64 (l5) ∧ e 3 = .int .i64 (t5)) (fun Q' hQ => ?_) (fun aB lB hR => ?_)
 ·replace h := hx
  clear hx
  refine E_seq (E_region (EL_mw up0 rfl rfl ?_))
  refine EL_p (.int .i64 ((x0).length : Int)) (P_len Tryz.underlying23 rfl rp0) rfl ?_
  refine EL_mw (.int .i64 (0)) rfl rfl ?_
  refine EL_nil (thn_n (E_block ?_))
  refine E_lp h (fun (s : Int × Int × Int) e w => ∃ (g : Gh) , Fr gI wI g w ∧ e 2 = .int .i64 (s.1) ∧ e 3 = .int .i64 (s.2.1) ∧ e 6 = up0 ∧ RV g.m w (x0 : List Int) up0 ∧ e 7 = .int .i64 (((x0).length : Int)) ∧ e 8 = .int .i64 (s.2.2)) ⟨g0, hfr, rfl, rfl, rfl, rp0, rfl, rfl⟩ (fun X13 z9 bA => ?_)
  rintro ⟨i7, u3, o0⟩ dB mB ⟨r8, hfr, v8, m7, g8, y6, k8, x5⟩ h
  refine E_seq (E_region (EL_in (.bool ((decide (o0 < ((x0).length : Int))))) x5 k8 rfl rfl ?_))
  refine EL_nil (thn_n (E_seq ?_))
  rcases csome h with ⟨m8, h⟩ | ⟨m8, h⟩
  ·refine E_ct m8 rfl ?_
   refine E_skip (thn_n ?_)
   obtain ⟨⟨i6, x6⟩, hx, h⟩ := bsome h
   refine E_join (fun e w => ∃ (g : Gh) , Fr gI wI g w ∧ e 2 = .int .i64 (i6) ∧ e 3 = .int .i64 (x6) ∧ e 6 = up0 ∧ RV g.m w (x0 : List Int) up0 ∧ e 7 = .int .i64 (((x0).length : Int)) ∧ e 8 = .int .i64 (o0)) (fun Q' hQ => ?_) (fun iB nB hR => ?_)
   ·replace h := hx
    clear hx
    refine E_block ?_
    refine E_seq (E_region (EL_mv x5 rfl ?_))
    obtain ⟨l8, hy20, h⟩ := bsome h
    refine EL_p (ePtr up0 o0 1) (P_indexAddr (α := Int) Tryz.underlying23 Tryz.sizeOf3 g8 y6 x5 hy20) rfl ?_
    have iA := PT_idx y6 hy20
    refine EL_do .plain rfl (D_load (g := r8) Tryz.isAgg3 Tryz.sizeOf3 rfl iA fun oB rA => ?_)
    obtain rfl := RV_int.1 rA
    refine EL_at (.int .i64 (o0)) rfl rfl ?_
    refine EL_at (.int .i64 (l8)) rfl rfl ?_
    refine EL_nil (thn_n (E_seq (E_region (EL_mw (.int .i64 (l8)) rfl rfl ?_))))
    refine EL_in (.bool ((l8 != (0 : Int)))) rfl rfl rfl rfl ?_
    refine EL_nil (thn_n ?_)
    rcases csome h with ⟨n8, h⟩ | ⟨n8, h⟩
    ·refine E_ct n8 rfl ?_
     refine E_seq (E_region (EL_mw (.int .i64 (o0)) rfl rfl ?_))
     refine EL_at (.int .i64 (o0)) rfl rfl ?_
     refine EL_nil (thn_n (E_region (EL_mv m7 rfl ?_)))
     refine EL_in (.int .i64 ((w64 (u3 + (1 : Int))))) rfl rfl rfl rfl ?_
     refine EL_at (.int .i64 ((w64 (u3 + (1 : Int))))) rfl rfl ?_
     refine EL_nil (blk_n ?_)
     obtain ⟨rfl, rfl⟩ := pairs2 h
     exact hQ _ _ ⟨r8, hfr, rfl, rfl, g8, y6, k8, x5⟩
    ·refine E_cf n8 rfl ?_
     refine E_skip (blk_n ?_)
     obtain ⟨rfl, rfl⟩ := pairs2 h
     exact hQ _ _ ⟨r8, hfr, v8, m7, g8, y6, k8, x5⟩
   ·clear hx
    obtain ⟨yA, hfr, x8, a9, d9, k9, l9, n9⟩ := hR
    refine E_region (EL_in (.int .i64 ((w64 (o0 + (1 : Int))))) n9 rfl rfl rfl ?_)
    refine EL_mw (.int .i64 ((w64 (o0 + (1 : Int))))) rfl rfl ?_
    exact EL_nil (thn_n (bA (i6, x6, (w64 (o0 + (1 : Int)))) _ _ ⟨yA, hfr, x8, a9, d9, k9, l9, rfl⟩ h))
  ·refine E_cf m8 rfl ?_
   refine E_exit ?_
   refine thn_e ?_
   refine thn_e ?_
   refine blk_hit ?_
   obtain ⟨rfl, rfl⟩ := pairs2 h
   exact hQ _ _ ⟨r8, hfr, v8, m7⟩
 ·clear hx
  obtain ⟨tB, hfr, u9, y9⟩ := hR
  refine E_seq (E_region (EL_mv u9 rfl ?_))
  refine EL_mv y9 rfl ?_
  refine EL_at (.int .i64 (l5)) rfl rfl ?_
  refine EL_at (.int .i64 (t5)) rfl rfl ?_
  refine EL_nil (thn_n (E_ret ?_))
  obtain rfl := sinj h
  exact end2 rfl rfl (show _ = .int .i64 (l5) from rfl) (show _ = .int .i64 (t5) from rfl) ⟨_, hfr, _, _, rfl, rfl, rfl⟩
theorem W62 {iO : Nat} {gI : Gh} {wI : World} {x0 : PayTable} {up0 : Value} (rp0 : RV gI.m wI x0 up0) {r : PayTable} (h : f62 x0 = some r) : FnG Tryz.prog 62 #[up0] gI wI (fun g w v => OWx ow_PayTable iO g w r v) := by
 unfold f62 at h
 refine fnG_of_E Tryz.func62 rfl (Nat.le_of_ble_eq_true rfl) fun g0 hm hfr => ?_
 have rp0 : RV g0.m wI x0 up0 := hm ▸ rp0
 show E _ 36 none _ _ _ _ _
 refine E_seq (E_region (EL_do .plain rfl (D_box (g := g0) rfl rp0 fun g1 w1 p1 hs q1 => ?_)))
 have hfr := hfr.ext hs
 refine EL_do .plain rfl (D_allocOc (g := g1) 2002 (⟨[], [], [], 0⟩ : PayTable) Tryz.zeroValue58 (fun m w => ⟨_, (rep_two rep_nil (rep_two rep_nil (rep_two rep_nil rep_int))), rfl⟩) fun g2 w2 p2 hs b2 cb => ?_)
 have hfr := hfr.stp hs
 have q1 := q1.stp hs
 have t5 : OSF 2002 60200 0 g2 w2 23 58 ([] : List (List Int)) p2 := cb.osf (by rfl)
 have x5 : OSF 2002 60201 1 g2 w2 3 58 ([] : List Int) p2 := cb.osf (by rfl)
 have i6 : OSF 2002 60202 2 g2 w2 3 58 ([] : List Int) p2 := cb.osf (by rfl)
 clear cb
 refine EL_nil (thn_n (E_seq ?_))
 have q4 := PT_field (part_PayTable_1).1 q1
 refine L_load (x := .tmp 6) Tryz.isAgg23 Tryz.sizeOf23 q4 fun v5 r5 dF => ?_
 obtain ⟨y7, eF, h⟩ := bsome h
 have q9 := PT_field (part_PayTable_2).1 q1
 refine L_load (x := .tmp 10) Tryz.isAgg23 Tryz.sizeOf23 q9 fun rF sF xD => ?_
 obtain ⟨r8, yD, h⟩ := bsome h
 have tF := PT_field (part_PayTable_3).1 q1
 refine L_load (x := .tmp 13) Tryz.isAgg3 Tryz.sizeOf3 tF fun mH uF zD => ?_
 obtain rfl := RV_int.1 uF
 refine E_drawL (g := g2) (n := 12) [(0, (fun v g w => RV g.m w ([] : List Int) v ∧ OS 3005 g w 3 ([] : List Int) v ∧ FullV v)), (3, (fun v g w => OA 3005 g w 3 y7 v)), (4, (fun v g w => RV g.m w ([] : List Int) v ∧ OS 3009 g w 3 ([] : List Int) v ∧ FullV v)), (7, (fun v g w => OA 3009 g w 3 r8 v)), (11, (fun v g w => OB 2003 g w 58 (⟨[], [], [], 0⟩ : PayTable) v))] [0, 1, 2, 3, 4, 5, 6, 7, 8, 9, 10, 11] rfl mixed (by kernel_rfl) (⟨fun _ => up_and up_rv (up_and up_os (up_eq _)), fun _ => up_oa, fun _ => up_and up_rv (up_and up_os (up_eq _)), fun _ => up_oa, fun _ => up_ob, trivial⟩) ?_
 refine L_do (φ := fun v g w => RV g.m w ([] : List Int) v ∧ OS 3005 g w 3 ([] : List Int) v ∧ FullV v) rfl rfl .plain (fun g w hd => D_buildSlice (g := g) 3005 (xs := ([] : List Int)) (vs := []) Tryz.underlying23 Tryz.sizeOf3 Tryz.zeroValue3 rfl rfl .nil RVs.nil rfl rfl fun g' w' v hs o r hxt hfl => ⟨g', hxt, r, o, hfl⟩) (fun v3 hv => ?_)
 clear hv
 refine L_p (fPtr p1 1) rfl rfl (P_fieldAddr at_58_1 rfl (PT.ptr q1)) ?_
 refine L_ld (c := v5) rfl rfl .plain (fun _ _ h => h.ch) dF rfl ?_
 refine L_do (φ := fun v g w => OA 3005 g w 3 y7 v) rfl rfl .plain (fun g w hd => D_appendE (g := g) plain_int (i := 3005) Tryz.underlying23 info_3 rfl rfl (word (A := fun g w => RV g.m w ([] : List Int) v3 ∧ OS 3005 g w 3 ([] : List Int) v3 ∧ FullV v3) 0 rfl rfl (deps_of hd)).2.1 (word (A := fun g w => RV g.m w ([] : List Int) v3 ∧ OS 3005 g w 3 ([] : List Int) v3 ∧ FullV v3) 0 rfl rfl (deps_of hd)).2.2 rfl (r5.ext hd.1) eF fun g' w' v hs b => ⟨g', hs, b⟩) (fun v6 hv => ?_)
 have sz6 : v6.cells.size = 1 := let ⟨_, _, _, hw⟩ := hv; OA.csz1 hw
 clear hv
 refine L_do (φ := fun v g w => RV g.m w ([] : List Int) v ∧ OS 3009 g w 3 ([] : List Int) v ∧ FullV v) rfl rfl .plain (fun g w hd => D_buildSlice (g := g) 3009 (xs := ([] : List Int)) (vs := []) Tryz.underlying23 Tryz.sizeOf3 Tryz.zeroValue3 rfl rfl .nil RVs.nil rfl rfl fun g' w' v hs o r hxt hfl => ⟨g', hxt, r, o, hfl⟩) (fun v8 hv => ?_)
 clear hv
 refine L_p (fPtr p1 2) rfl rfl (P_fieldAddr at_58_2 rfl (PT.ptr q1)) ?_
 refine L_ld (c := rF) rfl rfl .plain (fun _ _ h => h.ch) xD rfl ?_
 refine L_do (φ := fun v g w => OA 3009 g w 3 r8 v) rfl rfl .plain (fun g w hd => D_appendE (g := g) plain_int (i := 3009) Tryz.underlying23 info_3 rfl rfl (word (A := fun g w => RV g.m w ([] : List Int) v8 ∧ OS 3009 g w 3 ([] : List Int) v8 ∧ FullV v8) 4 rfl rfl (deps_of hd)).2.1 (word (A := fun g w => RV g.m w ([] : List Int) v8 ∧ OS 3009 g w 3 ([] : List Int) v8 ∧ FullV v8) 4 rfl rfl (deps_of hd)).2.2 rfl (sF.ext hd.1) yD fun g' w' v hs b => ⟨g', hs, b⟩) (fun x8 hv => ?_)
 have sz11 : x8.cells.size = 1 := let ⟨_, _, _, hw⟩ := hv; OA.csz1 hw
 clear hv
 refine L_p (fPtr p1 3) rfl rfl (P_fieldAddr at_58_3 rfl (PT.ptr q1)) ?_
 refine L_ld (c := .int .i64 ((x0).Total)) rfl rfl .plain (fun _ _ h => h.ch) zD rfl ?_
 refine L_p ((Value.agg (setCh [[.slice none 0 0], [.slice none 0 0], [.slice none 0 0], [.int .i64 0]] [(1, v6), (2, x8), (3, .int .i64 ((x0).Total))]).flatten.toArray)) rfl rfl (P_build (vs := [(1, v6), (2, x8), (3, .int .i64 ((x0).Total))]) [[.slice none 0 0], [.slice none 0 0], [.slice none 0 0], [.int .i64 0]] lay_58 rfl rfl (.cons rfl (.cons rfl (.cons rfl .nil))) ⟨⟨_, rfl, sz6⟩, ⟨⟨_, rfl, sz11⟩, ⟨⟨_, rfl, rfl⟩, trivial⟩⟩⟩) ?_
 refine L_do (φ := fun v g w => OB 2003 g w 58 (⟨[], [], [], 0⟩ : PayTable) v) rfl rfl .plain (fun g w hd => D_allocX (g := g) 2003 (⟨[], [], [], 0⟩ : PayTable) Tryz.zeroValue58 (fun m w => ⟨_, (rep_two rep_nil (rep_two rep_nil (rep_two rep_nil rep_int))), rfl⟩) fun g' w' v hs b => ⟨g', hs, b⟩) (fun vF hv => ?_)
 clear hv
 refine L_nil fun xF nB hall => ?_
 have hs := hall.1
 have hfr := hfr.ext hs
 have q1 := q1.ext hs
 have t5 := t5.ext hs
 have x5 := x5.ext hs
 have i6 := i6.ext hs
 have b2 := b2.ext hs
 have nH := (word_all (A := fun g w => RV g.m w ([] : List Int) v3 ∧ OS 3005 g w 3 ([] : List Int) v3 ∧ FullV v3) 0 rfl hall).1
 have o21 := (word_all (A := fun g w => RV g.m w ([] : List Int) v3 ∧ OS 3005 g w 3 ([] : List Int) v3 ∧ FullV v3) 0 rfl hall).2.1
 have b24 := (word_all (A := fun g w => OA 3005 g w 3 y7 v6) 3 rfl hall)
 have oH := (word_all (A := fun g w => RV g.m w ([] : List Int) v8 ∧ OS 3009 g w 3 ([] : List Int) v8 ∧ FullV v8) 4 rfl hall).1
 have o25 := (word_all (A := fun g w => RV g.m w ([] : List Int) v8 ∧ OS 3009 g w 3 ([] : List Int) v8 ∧ FullV v8) 4 rfl hall).2.1
 have b28 := (word_all (A := fun g w => OA 3009 g w 3 r8 x8) 7 rfl hall)
 have b32 := (word_all (A := fun g w => OB 2003 g w 58 (⟨[], [], [], 0⟩ : PayTable) vF) 11 rfl hall)
 clear hs hall
 obtain ⟨sk35, ow35, ok35⟩ := OA.toW b24
 obtain ⟨sk36, ow36, ok36⟩ := OA.toW b28
 have wn37 := Wn.fl (Wn.shl (y := ((x0).Total : Int)) (g := xF) (w := nB) (RV.cells (RV_int.2 rfl)) 804015)
 obtain ⟨gq38, hs, _, wn38⟩ := Wn.pair (OW.wn ow36) wn37 rfl
 have hfr := hfr.stp hs
 have q1 := q1.stp hs
 have t5 := t5.stp hs rfl
 have x5 := x5.stp hs rfl
 have i6 := i6.stp hs rfl
 have b2 := b2.stp hs rfl
 have b32 := b32.stp hs rfl
 have ow35 := ow35.stp hs rfl
 obtain ⟨gq39, hs, _, wn39⟩ := Wn.pair (OW.wn ow35) wn38 rfl
 have hfr := hfr.stp hs
 have q1 := q1.stp hs
 have t5 := t5.stp hs rfl
 have x5 := x5.stp hs rfl
 have i6 := i6.stp hs rfl
 have b2 := b2.stp hs rfl
 have b32 := b32.stp hs rfl
 obtain ⟨gq40, hs, _, wn40⟩ := Wn.pair (Wn.nil 23 (Ow.list 3 (Ow.sh Int)) 700 gq39 nB) wn39 rfl
 have hfr := hfr.stp hs
 have q1 := q1.stp hs
 have t5 := t5.stp hs rfl
 have x5 := x5.stp hs rfl
 have i6 := i6.stp hs rfl
 have b2 := b2.stp hs rfl
 have b32 := b32.stp hs rfl
 have ow34 : OW ow_PayTable 804015 gq40 nB (⟨[], y7, r8, (x0).Total⟩ : PayTable) (Sl.nil, (sk35, (sk36, ()))) (Value.agg (setCh [[.slice none 0 0], [.slice none 0 0], [.slice none 0 0], [.int .i64 0]] [(1, v6), (2, x8), (3, .int .i64 ((x0).Total))]).flatten.toArray) := Wn.mk_ (Wn.struct (x := ((⟨[], y7, r8, (x0).Total⟩ : PayTable))) wn40)
 refine EL_do .plain rfl (D_storeOW (g := gq40) Tryz.sizeOf58 rfl b32 rfl ow34 rfl fun gj41 yF pH bk41 hsa hsb hpp b41 => ?_)
 have hfr := hfr.stp hsa
 have q1 := q1.stp hsa
 have t5 := t5.stp hsa rfl
 have x5 := x5.stp hsa rfl
 have i6 := i6.stp hsa rfl
 have b2 := b2.stp hsa rfl
 have hfr := hfr.stp hsb
 have q1 := q1.stp hsb
 have t5 := t5.stp hsb rfl
 have x5 := x5.stp hsb rfl
 have i6 := i6.stp hsb rfl
 have b2 := b2.stp hsb rfl
 clear hsa hsb
 subst hpp
 refine EL_nil (thn_n ?_)
 obtain ⟨oB, hx, h⟩ := bsome h
 refine E_join (fun e w => ∃ (g : Gh) , Fr gI wI g w ∧ e 2 = p2 ∧ OB 2002 g w 58 ((⟨[], [], [], 0⟩ : PayTable) : PayTable) p2 ∧ OSF 2002 60200 0 g w 23 58 (((⟨[], [], [], 0⟩ : PayTable)).Rows) p2 ∧ OSF 2002 60201 1 g w 3 58 (((⟨[], [], [], 0⟩ : PayTable)).Across) p2 ∧ OSF 2002 60202 2 g w 3 58 (((⟨[], [], [], 0⟩ : PayTable)).Down) p2 ∧ e 3 = (Value.pointer (some ⟨bk41, 0, none⟩)) ∧ OVb ow_PayTable 2003 g w 58 (oB : PayTable) bk41) (fun Q' hQ => ?_) (fun zF eG hR => ?_)
 ·replace h := hx
  clear hx
  refine E_seq (E_region (EL_at (.int .i64 (0)) rfl rfl ?_))
  refine EL_nil (thn_n (E_block ?_))
  refine E_lp h (fun (s : PayTable × Int) e w => ∃ (g : Gh) , Fr gI wI g w ∧ e 1 = p1 ∧ PT g.m w (x0 : PayTable) p1 ∧ e 2 = p2 ∧ OB 2002 g w 58 ((⟨[], [], [], 0⟩ : PayTable) : PayTable) p2 ∧ OSF 2002 60200 0 g w 23 58 (((⟨[], [], [], 0⟩ : PayTable)).Rows) p2 ∧ OSF 2002 60201 1 g w 3 58 (((⟨[], [], [], 0⟩ : PayTable)).Across) p2 ∧ OSF 2002 60202 2 g w 3 58 (((⟨[], [], [], 0⟩ : PayTable)).Down) p2 ∧ e 3 = (Value.pointer (some ⟨bk41, 0, none⟩)) ∧ OVb ow_PayTable 2003 g w 58 (s.1 : PayTable) bk41 ∧ e 4 = .int .i64 (s.2)) ⟨yF, hfr, rfl, q1, rfl, b2, t5, x5, i6, rfl, ⟨_, b41, (⟨trivial, ⟨ok35, ⟨ok36, trivial⟩⟩⟩ : (ow_PayTable).ok (Sl.nil, (sk35, (sk36, ()))))⟩, rfl⟩ (fun X118 gG iD => ?_)
  rintro ⟨m7, x6⟩ aG hG ⟨rA, hfr, a9, g8, d9, k9, u2_0_119, u2_1_119, u2_2_119, l9, ⟨yE, n9, l8⟩, u9⟩ h
  refine E_joinC h (fun (s : Unit) e w => ∃ (g : Gh) , Fr gI wI g w ∧ e 1 = p1 ∧ PT g.m w (x0 : PayTable) p1 ∧ e 2 = p2 ∧ OB 2002 g w 58 ((⟨[], [], [], 0⟩ : PayTable) : PayTable) p2 ∧ OSF 2002 60200 0 g w 23 58 (((⟨[], [], [], 0⟩ : PayTable)).Rows) p2 ∧ OSF 2002 60201 1 g w 3 58 (((⟨[], [], [], 0⟩ : PayTable)).Across) p2 ∧ OSF 2002 60202 2 g w 3 58 (((⟨[], [], [], 0⟩ : PayTable)).Down) p2 ∧ e 3 = (Value.pointer (some ⟨bk41, 0, none⟩)) ∧ OVb ow_PayTable 2003 g w 58 (m7 : PayTable) bk41 ∧ e 4 = .int .i64 (x6)) (fun X123 iG jD h => ?_) ?_
  ·refine E_seq (E_region (EL_mv u9 rfl ?_))
   refine EL_p (fPtr p1 0) (P_fieldAddr at_58_0 a9 (PT.ptr g8)) rfl ?_
   have aE := PT_field (part_PayTable_0).1 g8
   refine EL_do .plain rfl (D_load (g := rA) Tryz.isAgg56 Tryz.sizeOf56 rfl aE fun jG bE => ?_)
   refine EL_p (.int .i64 (((x0).Rows).length : Int)) (P_len Tryz.underlying56 rfl bE) rfl ?_
   refine EL_p (.bool ((decide (x6 < (((x0).Rows).length : Int))))) (P_int rfl rfl rfl) rfl ?_
   refine EL_nil (thn_n ?_)
   rcases csome h with ⟨m8, h⟩ | ⟨m8, h⟩
   ·refine E_ct m8 rfl ?_
    exact E_skip (thn_n (jD () _ _ ⟨rA, hfr, a9, g8, d9, k9, u2_0_119, u2_1_119, u2_2_119, l9, ⟨_, n9, l8⟩, u9⟩ h))
   ·refine E_cf m8 rfl ?_
    refine E_exit ?_
    refine thn_e ?_
    refine thn_e ?_
    refine blk_hit ?_
    obtain rfl := sinj h
    exact hQ _ _ ⟨rA, hfr, d9, k9, u2_0_119, u2_1_119, u2_2_119, l9, ⟨_, n9, l8⟩⟩
  ·rintro _ bG iE ⟨tB, hfr, y9, o0, vB, u3, u2_0_127, u2_1_127, u2_2_127, k8, ⟨y6, l5, i7⟩, z9⟩ h
   obtain ⟨bA, hx, h⟩ := bsome h
   refine E_join (fun e w => ∃ (g : Gh) , Fr gI wI g w ∧ e 1 = p1 ∧ PT g.m w (x0 : PayTable) p1 ∧ e 2 = p2 ∧ OB 2002 g w 58 ((⟨[], [], [], 0⟩ : PayTable) : PayTable) p2 ∧ OSF 2002 60200 0 g w 23 58 (((⟨[], [], [], 0⟩ : PayTable)).Rows) p2 ∧ OSF 2002 60201 1 g w 3 58 (((⟨[], [], [], 0⟩ : PayTable)).Across) p2 ∧ OSF 2002 60202 2 g w 3 58 (((⟨[], [], [], 0⟩ : PayTable)).Down) p2 ∧ e 3 = (Value.pointer (some ⟨bk41, 0, none⟩)) ∧ OVb ow_PayTable 2003 g w 58 (bA : PayTable) bk41 ∧ e 4 = .int .i64 (x6)) (fun Q' hQ => ?_) (fun cG kG hR => ?_)
   ·replace h := hx
    clear hx
    refine E_block ?_
    refine L_loadH (x := .tmp 23) (Cxt.fld (Cxt.root ow_PayTable bk41) fl_PayTable_0 (m7) (y6)) rfl rfl (i7.1) Tryz.isAgg56 l5 fun lD => ?_
    have yA := PT_field (part_PayTable_0).1 o0
    refine L_load (x := .tmp 26) Tryz.isAgg56 Tryz.sizeOf56 yA fun yB n8 nD => ?_
    obtain ⟨lG, iB, h⟩ := bsome h
    have aB := PT_idx n8 iB
    refine L_load (x := .tmp 29) Tryz.isAgg23 Tryz.sizeOf23 aB fun lE dB oD => ?_
    obtain ⟨mG, sD, h⟩ := bsome h
    refine E_drawC (g := tB) (w := iE) (n := 10) [0, 1, 3, 4, 5, 6, 7] [2003] [0, 1, 2, 3, 4, 5, 6, 7, 8, 9] rfl mixed (by kernel_rfl) fun w_c172 hs hlt => ?_
    have hfr := hfr.ext hs
    have o0 := o0.ext hs
    have u2_0_127 := u2_0_127.ext hs
    have u2_1_127 := u2_1_127.ext hs
    have u2_2_127 := u2_2_127.ext hs
    have u3 := u3.ext hs
    have l5 := l5.ext hs
    clear hs
    refine CH_pur (c := (.pointer (some ⟨bk41, (0 + 0), none⟩))) rfl rfl .plain (P_fieldAddrH at_58_0 k8) ?_
    refine CH_ldO (n := 2003) (c := (hdrV (Prod.fst y6) ((m7).Rows).length)) rfl rfl .plain lD rfl rfl ?_
    refine CH_do rfl rfl .plain (D_buildSlice (g := tB) 3025 (xs := ([] : List Int)) (vs := []) Tryz.underlying23 Tryz.sizeOf3 Tryz.zeroValue3 rfl rfl .nil RVs.nil rfl rfl fun mE sG xG hs o176 yG hxt hfl => ?_)
    have hfr := hfr.stp hs
    have hlt := hlt.stp hs
    have o0 := o0.stp hs
    have u2_0_127 := u2_0_127.stp hs rfl
    have u2_1_127 := u2_1_127.stp hs rfl
    have u2_2_127 := u2_2_127.stp hs rfl
    have u3 := u3.stp hs rfl
    have l5 := l5.stp hs rfl
    refine ⟨hlt.toW, ?_⟩
    refine CH_pur (c := fPtr p1 0) rfl rfl .plain (P_fieldAddr at_58_0 y9 (PT.ptr o0)) ?_
    have yA := yA.ch hlt.1
    refine CH_ldP (c := yB) rfl rfl .plain nD rfl ?_
    have n8 := n8.ch hlt.1
    refine CH_pur (c := .int .i64 (x6)) rfl rfl .plain (P_move z9) ?_
    refine CH_pur (c := ePtr yB x6 1) rfl rfl .plain (P_indexAddr (α := List Int) Tryz.underlying56 Tryz.sizeOf23 rfl n8 rfl iB) ?_
    have aB := aB.ch hlt.1
    refine CH_ldP (c := lE) rfl rfl .plain oD rfl ?_
    have dB := dB.ch hlt.1
    have oa182 := OA.ofOS o176
    refine CH_do rfl rfl .plain (D_appendA (g := mE) plain_int (i := 3025) Tryz.underlying23 info_3 rfl rfl oa182 rfl dB sD fun nE zG aH hs b182 => ?_)
    have hfr := hfr.stp hs
    have hlt := hlt.stp hs
    have o0 := o0.stp hs
    have u2_0_127 := u2_0_127.stp hs rfl
    have u2_1_127 := u2_1_127.stp hs rfl
    have u2_2_127 := u2_2_127.stp hs rfl
    have u3 := u3.stp hs rfl
    have l5 := l5.stp hs rfl
    refine ⟨hlt.toW, ?_⟩
    obtain ⟨sk184, ow184, ok184⟩ := OA.toW b182
    refine CH_do rfl rfl .plain (D_buildSliceW (g := nE) (E := (Ow.list 3 (Ow.sh Int))) Tryz.underlying56 Tryz.sizeOf23 Tryz.zeroValue23 rfl rfl rfl rfl ow184 ok184 fun cH oE b184 hs bw184 bk184 => ?_)
    have hfr := hfr.stp hs
    have hlt := hlt.stp hs
    have o0 := o0.stp hs
    have u2_0_127 := u2_0_127.stp hs rfl
    have u2_1_127 := u2_1_127.stp hs rfl
    have u2_2_127 := u2_2_127.stp hs rfl
    have u3 := u3.stp hs rfl
    have l5 := l5.stp hs rfl
    refine ⟨hlt.toW, ?_⟩
    refine CH_nil ?_
    clear hlt
    obtain ⟨gt185, hs, b185, wt185⟩ := OV.take l5 (Cxt.fld (Cxt.root ow_PayTable bk41) fl_PayTable_0 (m7) (y6)) rfl rfl (i7.1) 704185 rfl
    have hfr := hfr.stp hs
    have o0 := o0.stp hs
    have u2_0_127 := u2_0_127.stp hs rfl
    have u2_1_127 := u2_1_127.stp hs rfl
    have u2_2_127 := u2_2_127.stp hs rfl
    have u3 := u3.stp hs rfl
    have bw184 := bw184.stp hs rfl
    replace b185 : OV ow_PayTable 2003 gt185 oE 58 (({ m7 with Rows := [] } : PayTable) : PayTable) bk41 (Sl.hole, (Prod.snd y6)) := b185
    obtain ⟨rE, tD, h⟩ := bsome h
    refine EL_do .plain rfl (D_appendW (g := gt185) Tryz.underlying56 info_23 rfl rfl wt185 (i7.1) rfl bw184 bk184 (by exact Nat.le_refl 1) rfl tD fun gm186 uE dH gH sk186 hs hs2 bw186 bk186 => ?_)
    have hfr := hfr.stp hs
    have o0 := o0.stp hs
    have u2_0_127 := u2_0_127.stp hs rfl
    have u2_1_127 := u2_1_127.stp hs rfl
    have u2_2_127 := u2_2_127.stp hs rfl
    have u3 := u3.stp hs rfl
    have b185 := b185.stp hs rfl
    clear hs
    have hs := hs2
    have hfr := hfr.stp hs
    have o0 := o0.stp hs
    have u2_0_127 := u2_0_127.stp hs rfl
    have u2_1_127 := u2_1_127.stp hs rfl
    have u2_2_127 := u2_2_127.stp hs rfl
    have u3 := u3.stp hs rfl
    have b185 := b185.stp hs rfl
    clear hs2
    refine EL_p ((.pointer (some ⟨bk41, (0 + 0), none⟩))) (P_fieldAddrH at_58_0 k8) rfl ?_
    refine EL_do .plain rfl (D_storeW (g := uE) (Cxt.fld (Cxt.root ow_PayTable bk41) fl_PayTable_0 (({ m7 with Rows := [] } : PayTable)) ((Sl.hole, (Prod.snd y6)))) rfl rfl Tryz.sizeOf56 rfl b185 rfl bw186 rfl fun gj191 zB vE hsa hsb b191 => ?_)
    have hfr := hfr.stp hsa
    have o0 := o0.stp hsa
    have u2_0_127 := u2_0_127.stp hsa rfl
    have u2_1_127 := u2_1_127.stp hsa rfl
    have u2_2_127 := u2_2_127.stp hsa rfl
    have u3 := u3.stp hsa rfl
    have hfr := hfr.stp hsb
    have o0 := o0.stp hsb
    have u2_0_127 := u2_0_127.stp hsb rfl
    have u2_1_127 := u2_1_127.stp hsb rfl
    have u2_2_127 := u2_2_127.stp hsb rfl
    have u3 := u3.stp hsb rfl
    clear hsa hsb
    replace b191 : OV ow_PayTable 2003 zB vE 58 (({ (({ m7 with Rows := [] } : PayTable)) with Rows := rE } : PayTable) : PayTable) bk41 (sk186, (Prod.snd y6)) := b191
    refine EL_nil (blk_n ?_)
    obtain rfl := sinj h
    exact hQ _ _ ⟨zB, hfr, y9, o0, vB, u3, u2_0_127, u2_1_127, u2_2_127, k8, ⟨_, b191, ⟨bk186, ⟨((i7.2).1), ⟨(((i7.2).2).1), (((i7.2).2).2)⟩⟩⟩⟩, z9⟩
   ·clear hx
    obtain ⟨xE, hfr, cC, mC, qC, rC, u2_0_192, u2_1_192, u2_2_192, uC, ⟨zE, vC, lB⟩, aD⟩ := hR
    refine E_region (EL_mv aD rfl ?_)
    refine EL_in (.int .i64 ((w64 (x6 + (1 : Int))))) rfl rfl rfl rfl ?_
    refine EL_at (.int .i64 ((w64 (x6 + (1 : Int))))) rfl rfl ?_
    exact EL_nil (thn_n (iD (bA, (w64 (x6 + (1 : Int)))) _ _ ⟨xE, hfr, cC, mC, qC, rC, u2_0_192, u2_1_192, u2_2_192, uC, ⟨_, vC, lB⟩, rfl⟩ h))
 ·clear hx
  obtain ⟨bD, hfr, iA, cD, u2_0_193, u2_1_193, u2_2_193, eD, ⟨cF, gD, mB⟩⟩ := hR
  refine E_seq (E_region (EL_do .plain rfl (D_loadW (g := bD) Tryz.isAgg58 Tryz.sizeOf58 eD gD rfl fun iH uD => ?_)))
  refine EL_do .plain rfl (D_storeOW (g := bD) Tryz.sizeOf58 iA cD rfl uD rfl fun gj196 jH kH bk196 hsa hsb hpp b196 => ?_)
  have hfr := hfr.stp hsa
  have hfr := hfr.stp hsb
  clear hsa hsb
  subst hpp
  refine EL_nil (thn_n (E_ret ?_))
  obtain rfl := sinj h
  obtain ⟨lH, vD, ow197⟩ := OV.read (t := 58) Tryz.isAgg58 Tryz.sizeOf58 b196 rfl
  obtain ⟨gh, hxh, _, homh⟩ := OW.hand (i := iO) hfr ow197 mB
  exact endm_c rfl rfl (show _ = (Value.pointer (some ⟨bk196, 0, none⟩)) from iA) vD ⟨gh, hxh, homh⟩
def f78 (x0 : Int) (z0 : Int) (z1 : Int) : Option (Bool) :=
 Option.bind (α := Bool) (
  bif (decide (x0 < z0)) then
   some (true)
  else
   some ((decide (x0 > z1)))
  ) fun o0 =>
 some (o0)
theorem en78 : Enters Tryz.prog 78 := enters_of Tryz.func78 (by kernel_rfl) rfl
theorem wk78 {gI : Gh} {wI : World} {x0 : Int} {z0 : Int} {z1 : Int} {pf0 : Value} (qf0 : PT gI.m wI z0 pf0) {pf1 : Value} (qf1 : PT gI.m wI z1 pf1) {r : Bool} (h : f78 x0 z0 z1 = some r) : Fn Tryz.prog 78 #[.int .i64 (x0), pf0, pf1] gI wI (fun _ _ v => v = .bool (r)) := by
 unfold f78 at h
 refine fn_of_E Tryz.func78 rfl (Nat.le_of_ble_eq_true rfl) fun g0 hm hfr => ?_
 have qf0 : PT g0.m wI z0 pf0 := hm ▸ qf0
 have qf1 : PT g0.m wI z1 pf1 := hm ▸ qf1
 show E _ 13 none _ _ _ _ _
 refine E_seq (E_region (EL_at (.bool false) rfl rfl ?_))
 refine EL_nil (thn_n ?_)
 obtain ⟨o0, hx, h⟩ := bsome h
 refine E_join (fun e w => ∃ (g : Gh) , Fr gI wI g w ∧ e 4 = .bool (o0)) (fun Q' hQ => ?_) (fun l5 w7 hR => ?_)
 ·replace h := hx
  clear hx
  refine E_region (EL_mw (.int .i64 (x0)) rfl rfl ?_)
  refine EL_do .plain rfl (D_load (g := g0) Tryz.isAgg3 Tryz.sizeOf3 rfl qf0 fun v4 r4 => ?_)
  obtain rfl := RV_int.1 r4
  refine EL_in (.bool ((decide (x0 < z0)))) rfl rfl rfl rfl ?_
  refine EL_mw (.bool ((decide (x0 < z0)))) rfl rfl ?_
  rcases csome h with ⟨hc5, h⟩ | ⟨hc5, h⟩
  ·refine EL_s rfl rfl hc5 rfl rfl ?_
   refine EL_s rfl rfl hc5 rfl rfl ?_
   refine EL_s rfl rfl hc5 rfl rfl ?_
   refine EL_p (.bool true) (P_pick (b := (decide (x0 < z0))) rfl (pick_t hc5 rfl)) rfl ?_
   refine EL_at (.bool true) rfl rfl ?_
   refine EL_nil ?_
   obtain rfl := sinj h
   exact hQ _ _ ⟨g0, hfr, rfl⟩
  ·refine EL_y (.int .i64 (x0)) (P_move rfl) rfl rfl hc5 rfl ?_
   refine EL_do (.yes2 rfl rfl hc5) rfl (D_load (g := g0) Tryz.isAgg3 Tryz.sizeOf3 rfl qf1 fun v6 r6 => ?_)
   obtain rfl := RV_int.1 r6
   refine EL_y (.bool ((decide (x0 > z1)))) (P_int rfl rfl rfl) rfl rfl hc5 rfl ?_
   refine EL_p (.bool ((decide (x0 > z1)))) (P_pick (b := (decide (x0 < z0))) rfl (pick_f hc5 rfl)) rfl ?_
   refine EL_at (.bool ((decide (x0 > z1)))) rfl rfl ?_
   refine EL_nil ?_
   obtain rfl := sinj h
   exact hQ _ _ ⟨g0, hfr, rfl⟩
 ·clear hx
  obtain ⟨g7, hfr, u3⟩ := hR
  refine E_ret ?_
  obtain rfl := sinj h
  exact end1 rfl rfl (show _ = .bool (o0) from u3) ⟨_, hfr, rfl⟩
def f87 (x0 : PaySheet) : Option ((List PayPlace)) :=
 Option.bind (α := (List PayPlace)) (
  lp (σ := (List PayPlace) × Int) (fun nE (d9, o0) =>
   bif (decide (o0 < ((((x0).PayTable).Rows).length : Int))) then
    Option.bind (α := (List PayPlace)) (
     (idx (((x0).PayTable).Rows) o0).bind fun y6 =>
     lp (σ := (List PayPlace) × Int) (fun oE (m8, u3) =>
      bif (decide (u3 < ((y6).length : Int))) then
       Option.bind (α := (List PayPlace)) (
        (idx y6 u3).bind fun z9 =>
        bif (z9 == (-1 : Int)) then
         (apnd 16 m8 (([(⟨o0, u3⟩ : PayPlace)] : List PayPlace))).bind fun uC =>
         some (uC)
        else
         some (m8)
        ) fun x5 =>
       oE (x5, (w64 (u3 + (1 : Int))))
      else
       some (m8)
      ) big (d9, (0 : Int))
     ) fun i6 =>
    nE (i6, (w64 (o0 + (1 : Int))))
   else
    some (d9)
   ) big ([], (0 : Int))
  ) fun i7 =>
 some (i7)
theorem en87 : Enters Tryz.prog 87 := enters_of Tryz.func87 (by kernel_rfl) rfl
theorem wk87 {gI : Gh} {wI : World} {x0 : PaySheet} {up0 : Value} (rp0 : RV gI.m wI x0 up0) {r : (List PayPlace)} (h : f87 x0 = some r) : Fn Tryz.prog 87 #[up0] gI wI (fun m w v => RV m w (r) v) := by
 unfold f87 at h
 refine fn_of_E Tryz.func87 rfl (Nat.le_of_ble_eq_true rfl) fun g0 hm hfr => ?_
 have rp0 : RV g0.m wI x0 up0 := hm ▸ rp0
 show E _ 34 none _ _ _ _ _
 refine E_seq (E_region (EL_do .plain rfl (D_box (g := g0) rfl rp0 fun g1 w1 p1 hs q1 => ?_)))
 have hfr := hfr.ext hs
 refine EL_at (.slice none 0 0) rfl rfl ?_
 refine EL_nil (thn_n ?_)
 obtain ⟨i7, hx, h⟩ := bsome h
 refine E_join (fun e w => ∃ (g : Gh) (v2 : Value), Fr gI wI g w ∧ e 2 = v2 ∧ RV g.m w (i7 : List PayPlace) v2 ∧ OS 1002 g w 165 (i7 : List PayPlace) v2) (fun Q' hQ => ?_) (fun aG eG hR => ?_)
 ·replace h := hx
  clear hx
  refine E_seq (E_region (EL_p (fPtr p1 0) (P_fieldAddr at_132_0 rfl (PT.ptr q1)) rfl ?_))
  have rE := PT_field (part_PaySheet_0).1 q1
  refine EL_p (fPtr (fPtr p1 0) 0) (P_fieldAddr at_58_0 rfl (PT.ptr rE)) rfl ?_
  have vF := PT_field (part_PayTable_0).1 rE
  refine EL_do .plain rfl (D_load (g := g1) Tryz.isAgg56 Tryz.sizeOf56 rfl vF fun m7 uE => ?_)
  refine EL_p (.int .i64 ((((x0).PayTable).Rows).length : Int)) (P_len Tryz.underlying56 rfl uE) rfl ?_
  refine EL_mw (.int .i64 (0)) rfl rfl ?_
  refine EL_nil (thn_n (E_block ?_))
  refine E_lp h (fun (s : (List PayPlace) × Int) e w => ∃ (g : Gh) (v2 : Value), Fr gI wI g w ∧ e 2 = v2 ∧ RV g.m w (s.1 : List PayPlace) v2 ∧ OS 1002 g w 165 (s.1 : List PayPlace) v2 ∧ e 9 = m7 ∧ RV g.m w (((x0).PayTable).Rows : List (List Int)) m7 ∧ e 10 = .int .i64 (((((x0).PayTable).Rows).length : Int)) ∧ e 11 = .int .i64 (s.2)) ⟨g1, (.slice none 0 0), hfr, rfl, RV_nil, OS.nil, rfl, uE, rfl, rfl⟩ (fun X58 nE xE => ?_)
  rintro ⟨d9, o0⟩ gG yG ⟨vC, dB, hfr, iB, lB, mB, nB, k9, bA, g8⟩ h
  refine E_seq (E_region (EL_p (.bool ((decide (o0 < ((((x0).PayTable).Rows).length : Int))))) (P_int g8 bA rfl) rfl ?_))
  refine EL_nil (thn_n (E_seq ?_))
  rcases csome h with ⟨yA, h⟩ | ⟨yA, h⟩
  ·refine E_ct yA rfl ?_
   refine E_skip (thn_n ?_)
   obtain ⟨i6, hx, h⟩ := bsome h
   refine E_join (fun e w => ∃ (g : Gh) (v2 : Value), Fr gI wI g w ∧ e 2 = v2 ∧ RV g.m w (i6 : List PayPlace) v2 ∧ OS 1002 g w 165 (i6 : List PayPlace) v2 ∧ e 9 = m7 ∧ RV g.m w (((x0).PayTable).Rows : List (List Int)) m7 ∧ e 10 = .int .i64 (((((x0).PayTable).Rows).length : Int)) ∧ e 11 = .int .i64 (o0)) (fun Q' hQ => ?_) (fun bG hG hR => ?_)
   ·replace h := hx
    clear hx
    refine E_block ?_
    refine E_seq (E_region (EL_mv g8 rfl ?_))
    obtain ⟨y6, aD, h⟩ := bsome h
    refine EL_p (ePtr m7 o0 1) (P_indexAddr (α := List Int) Tryz.underlying56 Tryz.sizeOf23 nB k9 g8 aD) rfl ?_
    have xF := PT_idx k9 aD
    refine EL_do .plain rfl (D_load (g := vC) Tryz.isAgg23 Tryz.sizeOf23 rfl xF fun n8 vE => ?_)
    refine EL_at (.int .i64 (o0)) rfl rfl ?_
    refine EL_at n8 rfl rfl ?_
    refine EL_nil (thn_n (E_seq (E_region (EL_mw n8 rfl rfl ?_))))
    refine EL_p (.int .i64 ((y6).length : Int)) (P_len Tryz.underlying23 rfl vE) rfl ?_
    refine EL_mw (.int .i64 (0)) rfl rfl ?_
    refine EL_nil (thn_n (E_block ?_))
    refine E_lp h (fun (s : (List PayPlace) × Int) e w => ∃ (g : Gh) (v2 : Value), Fr gI wI g w ∧ e 2 = v2 ∧ RV g.m w (s.1 : List PayPlace) v2 ∧ OS 1002 g w 165 (s.1 : List PayPlace) v2 ∧ e 3 = .int .i64 (o0) ∧ e 9 = m7 ∧ RV g.m w (((x0).PayTable).Rows : List (List Int)) m7 ∧ e 10 = .int .i64 (((((x0).PayTable).Rows).length : Int)) ∧ e 11 = .int .i64 (o0) ∧ e 16 = n8 ∧ RV g.m w (y6 : List Int) n8 ∧ e 17 = .int .i64 (((y6).length : Int)) ∧ e 18 = .int .i64 (s.2)) ⟨vC, (dB), hfr, iB, lB, mB, rfl, nB, k9, bA, g8, rfl, vE, rfl, rfl⟩ (fun X88 oE yE => ?_)
    rintro ⟨m8, u3⟩ iG yF ⟨iA, oB, hfr, l9, k8, l8, n9, u9, t5, r8, v8, x8, l5, a9, x6⟩ h
    refine E_seq (E_region (EL_in (.bool ((decide (u3 < ((y6).length : Int))))) x6 a9 rfl rfl ?_))
    refine EL_nil (thn_n (E_seq ?_))
    rcases csome h with ⟨aB, h⟩ | ⟨aB, h⟩
    ·refine E_ct aB rfl ?_
     refine E_skip (thn_n ?_)
     obtain ⟨x5, hx, h⟩ := bsome h
     refine E_join (fun e w => ∃ (g : Gh) (v2 : Value), Fr gI wI g w ∧ e 2 = v2 ∧ RV g.m w (x5 : List PayPlace) v2 ∧ OS 1002 g w 165 (x5 : List PayPlace) v2 ∧ e 3 = .int .i64 (o0) ∧ e 9 = m7 ∧ RV g.m w (((x0).PayTable).Rows : List (List Int)) m7 ∧ e 10 = .int .i64 (((((x0).PayTable).Rows).length : Int)) ∧ e 11 = .int .i64 (o0) ∧ e 16 = n8 ∧ RV g.m w (y6 : List Int) n8 ∧ e 17 = .int .i64 (((y6).length : Int)) ∧ e 18 = .int .i64 (u3)) (fun Q' hQ => ?_) (fun cG jG hR => ?_)
     ·replace h := hx
      clear hx
      refine E_block ?_
      refine E_seq (E_region (EL_mv x6 rfl ?_))
      obtain ⟨z9, bD, h⟩ := bsome h
      refine EL_p (ePtr n8 u3 1) (P_indexAddr (α := Int) Tryz.underlying23 Tryz.sizeOf3 x8 l5 x6 bD) rfl ?_
      have zE := PT_idx l5 bD
      refine EL_do .plain rfl (D_load (g := iA) Tryz.isAgg3 Tryz.sizeOf3 rfl zE fun kG cF => ?_)
      obtain rfl := RV_int.1 cF
      refine EL_at (.int .i64 (u3)) rfl rfl ?_
      refine EL_at (.int .i64 (z9)) rfl rfl ?_
      refine EL_nil (thn_n (E_seq (E_region (EL_mw (.int .i64 (z9)) rfl rfl ?_))))
      refine EL_in (.bool ((z9 == (-1 : Int)))) rfl rfl rfl rfl ?_
      refine EL_nil (thn_n ?_)
      rcases csome h with ⟨y9, h⟩ | ⟨y9, h⟩
      ·refine E_ct y9 rfl ?_
       refine E_region (EL_mv l9 rfl ?_)
       refine EL_mv n9 rfl ?_
       refine EL_mw (.int .i64 (u3)) rfl rfl ?_
       have cD : RV iA.m yF (⟨o0, u3⟩ : PayPlace) (.agg (setCh [[.int .i64 0], [.int .i64 0]] [(0, .int .i64 (o0)), (1, .int .i64 (u3))]).flatten.toArray) := RV_build rfl (rep_pair (rfl) (rep_last (rfl)))
       generalize lE : (Value.agg (setCh [[.int .i64 0], [.int .i64 0]] [(0, .int .i64 (o0)), (1, .int .i64 (u3))]).flatten.toArray) = eD at cD
       refine EL_p eD (lE ▸ P_build (vs := [(0, .int .i64 (o0)), (1, .int .i64 (u3))]) [[.int .i64 0], [.int .i64 0]] lay_165 rfl rfl (.cons rfl (.cons rfl .nil)) ⟨⟨_, rfl, rfl⟩, ⟨⟨_, rfl, rfl⟩, trivial⟩⟩) rfl ?_
       refine EL_do .plain rfl (D_buildSlice (g := iA) 3029 (xs := ([(⟨o0, u3⟩ : PayPlace)] : List PayPlace)) (vs := [eD]) Tryz.underlying138 Tryz.sizeOf165 Tryz.zeroValue165 rfl rfl (.cons rfl .nil) (RVs.cons cD RVs.nil) rfl rfl fun dF lG mG hs o104 eF hxt hfl => ?_)
       have hfr := hfr.stp hs
       have k8 := k8.stp hs
       have l8 := l8.stp hs rfl
       have t5 := t5.stp hs
       have l5 := l5.stp hs
       obtain ⟨uC, mE, h⟩ := bsome h
       refine EL_do .plain rfl (D_append (g := dF) (i := 1002) Tryz.underlying138 info_165 rfl rfl l8 k8 rfl eF mE fun rF sG gD hs o105 sF _ => ?_)
       have hfr := hfr.stp hs
       have t5 := t5.stp hs
       have l5 := l5.stp hs
       refine EL_at gD rfl rfl ?_
       refine EL_nil (blk_n ?_)
       obtain rfl := sinj h
       exact hQ _ _ ⟨rF, (gD), hfr, rfl, sF, o105, n9, u9, t5, r8, v8, x8, l5, a9, x6⟩
      ·refine E_cf y9 rfl ?_
       refine E_skip (blk_n ?_)
       obtain rfl := sinj h
       exact hQ _ _ ⟨iA, (oB), hfr, l9, k8, l8, n9, u9, t5, r8, v8, x8, l5, a9, x6⟩
     ·clear hx
      obtain ⟨tF, iD, hfr, jD, lD, nD, oD, sD, tD, tB, vB, yB, zB, cC, mC⟩ := hR
      refine E_region (EL_in (.int .i64 ((w64 (u3 + (1 : Int))))) mC rfl rfl rfl ?_)
      refine EL_mw (.int .i64 ((w64 (u3 + (1 : Int))))) rfl rfl ?_
      exact EL_nil (thn_n (yE (x5, (w64 (u3 + (1 : Int)))) _ _ ⟨tF, (iD), hfr, jD, lD, nD, oD, sD, tD, tB, vB, yB, zB, cC, rfl⟩ h))
    ·refine E_cf aB rfl ?_
     refine E_exit ?_
     refine thn_e ?_
     refine thn_e ?_
     refine blk_hit ?_
     refine blk_n ?_
     obtain rfl := sinj h
     exact hQ _ _ ⟨iA, (oB), hfr, l9, k8, l8, u9, t5, r8, v8⟩
   ·clear hx
    obtain ⟨uF, uD, hfr, vD, xD, yD, zD, aE, qC, rC⟩ := hR
    refine E_region (EL_in (.int .i64 ((w64 (o0 + (1 : Int))))) rC rfl rfl rfl ?_)
    refine EL_mw (.int .i64 ((w64 (o0 + (1 : Int))))) rfl rfl ?_
    exact EL_nil (thn_n (xE (i6, (w64 (o0 + (1 : Int)))) _ _ ⟨uF, (uD), hfr, vD, xD, yD, zD, aE, qC, rfl⟩ h))
  ·refine E_cf yA rfl ?_
   refine E_exit ?_
   refine thn_e ?_
   refine thn_e ?_
   refine blk_hit ?_
   obtain rfl := sinj h
   exact hQ _ _ ⟨vC, (dB), hfr, iB, lB, mB⟩
 ·clear hx
  obtain ⟨xG, rA, hfr, bE, iE, zF⟩ := hR
  refine E_seq (E_region (EL_mv bE rfl ?_))
  refine EL_at rA rfl rfl ?_
  refine EL_nil (thn_n (E_ret ?_))
  obtain rfl := sinj h
  exact end1 rfl rfl (show _ = rA from rfl) ⟨_, hfr, iE⟩
def f89 (x0 : List Int) : Option (Int) :=
 Option.bind (α := Int) (
  lp (σ := Int × Int) (fun d9 (u3, o0) =>
   bif (decide (o0 < ((x0).length : Int))) then
    Option.bind (α := Int) (
     (idx x0 o0).bind fun x5 =>
     some ((w64 (u3 + x5)))
     ) fun t5 =>
    d9 (t5, (w64 (o0 + (1 : Int))))
   else
    some (u3)
   ) big ((0 : Int), (0 : Int))
  ) fun l5 =>
 some (l5)
theorem en89 : Enters Tryz.prog 89 := enters_of Tryz.func89 (by kernel_rfl) rfl
theorem wk89 {gI : Gh} {wI : World} {x0 : List Int} {up0 : Value} (rp0 : RV gI.m wI x0 up0) {r : Int} (h : f89 x0 = some r) : Fn Tryz.prog 89 #[up0] gI wI (fun _ _ v => v = .int .i64 (r)) := by
 unfold f89 at h
 refine fn_of_E Tryz.func89 rfl (Nat.le_of_ble_eq_true rfl) fun g0 hm hfr => ?_
 have rp0 : RV g0.m wI x0 up0 := hm ▸ rp0
 show E _ 16 none _ _ _ _ _
 refine E_seq (E_region (EL_at (.int .i64 (0)) rfl rfl ?_))
 refine EL_nil (thn_n ?_)
 obtain ⟨l5, hx, h⟩ := bsome h
 refine E_join (fun e w => ∃ (g : Gh) , Fr gI wI g w ∧ e 2 = .int .i64 (l5)) (fun Q' hQ => ?_) (fun y9 iA hR => ?_)
 ·replace h := hx
  clear hx
  refine E_seq (E_region (EL_mw up0 rfl rfl ?_))
  refine EL_p (.int .i64 ((x0).length : Int)) (P_len Tryz.underlying23 rfl rp0) rfl ?_
  refine EL_mw (.int .i64 (0)) rfl rfl ?_
  refine EL_nil (thn_n (E_block ?_))
  refine E_lp h (fun (s : Int × Int) e w => ∃ (g : Gh) , Fr gI wI g w ∧ e 2 = .int .i64 (s.1) ∧ e 5 = up0 ∧ RV g.m w (x0 : List Int) up0 ∧ e 6 = .int .i64 (((x0).length : Int)) ∧ e 7 = .int .i64 (s.2)) ⟨g0, hfr, rfl, rfl, rp0, rfl, rfl⟩ (fun X11 d9 k9 => ?_)
  rintro ⟨u3, o0⟩ z9 rA ⟨k8, hfr, i7, m7, i6, g8, x6⟩ h
  refine E_seq (E_region (EL_in (.bool ((decide (o0 < ((x0).length : Int))))) x6 g8 rfl rfl ?_))
  refine EL_nil (thn_n (E_seq ?_))
  rcases csome h with ⟨y6, h⟩ | ⟨y6, h⟩
  ·refine E_ct y6 rfl ?_
   refine E_skip (thn_n ?_)
   obtain ⟨t5, hx, h⟩ := bsome h
   refine E_join (fun e w => ∃ (g : Gh) , Fr gI wI g w ∧ e 2 = .int .i64 (t5) ∧ e 5 = up0 ∧ RV g.m w (x0 : List Int) up0 ∧ e 6 = .int .i64 (((x0).length : Int)) ∧ e 7 = .int .i64 (o0)) (fun Q' hQ => ?_) (fun bA yA hR => ?_)
   ·replace h := hx
    clear hx
    refine E_block ?_
    refine E_seq (E_region ?_)
    obtain ⟨x5, l8, h⟩ := bsome h
    refine EL_p (ePtr up0 o0 1) (P_indexAddr (α := Int) Tryz.underlying23 Tryz.sizeOf3 m7 i6 x6 l8) rfl ?_
    have l9 := PT_idx i6 l8
    refine EL_do .plain rfl (D_load (g := k8) Tryz.isAgg3 Tryz.sizeOf3 rfl l9 fun aB n9 => ?_)
    obtain rfl := RV_int.1 n9
    refine EL_at (.int .i64 (x5)) rfl rfl ?_
    refine EL_nil (thn_n (E_region (EL_mv i7 rfl ?_)))
    refine EL_mw (.int .i64 (x5)) rfl rfl ?_
    refine EL_in (.int .i64 ((w64 (u3 + x5)))) rfl rfl rfl rfl ?_
    refine EL_at (.int .i64 ((w64 (u3 + x5)))) rfl rfl ?_
    refine EL_nil (blk_n ?_)
    obtain rfl := sinj h
    exact hQ _ _ ⟨k8, hfr, rfl, m7, i6, g8, x6⟩
   ·clear hx
    obtain ⟨u9, hfr, m8, n8, r8, v8, x8⟩ := hR
    refine E_region (EL_in (.int .i64 ((w64 (o0 + (1 : Int))))) x8 rfl rfl rfl ?_)
    refine EL_mw (.int .i64 ((w64 (o0 + (1 : Int))))) rfl rfl ?_
    exact EL_nil (thn_n (k9 (t5, (w64 (o0 + (1 : Int)))) _ _ ⟨u9, hfr, m8, n8, r8, v8, rfl⟩ h))
  ·refine E_cf y6 rfl ?_
   refine E_exit ?_
   refine thn_e ?_
   refine thn_e ?_
   refine blk_hit ?_
   obtain rfl := sinj h
   exact hQ _ _ ⟨k8, hfr, i7⟩
 ·clear hx
  obtain ⟨dB, hfr, a9⟩ := hR
  refine E_seq (E_region (EL_mv a9 rfl ?_))
  refine EL_at (.int .i64 (l5)) rfl rfl ?_
  refine EL_nil (thn_n (E_ret ?_))
  obtain rfl := sinj h
  exact end1 rfl rfl (show _ = .int .i64 (l5) from rfl) ⟨_, hfr, rfl⟩
def f97 (x0 : PaySheet) (x1 : Int) : Option ((List Int)) :=
 Option.bind (α := (List Int)) (
  lp (σ := (List Int) × Int) (fun iB (y6, o0) =>
   bif (decide (o0 < ((((x0).PayTable).Rows).length : Int))) then
    Option.bind (α := (List Int)) (
     (idx (((x0).PayTable).Rows) o0).bind fun lB =>
     (idx lB x1).bind fun k8 =>
     (apnd 8 y6 (([k8] : List Int))).bind fun mB =>
     some (mB)
     ) fun l5 =>
    iB (l5, (w64 (o0 + (1 : Int))))
   else
    some (y6)
   ) big ([], (0 : Int))
  ) fun t5 =>
 some (t5)
theorem en97 : Enters Tryz.prog 97 := enters_of Tryz.func97 (by kernel_rfl) rfl
theorem wk97 {gI : Gh} {wI : World} {x0 : PaySheet} {x1 : Int} {up0 : Value} (rp0 : RV gI.m wI x0 up0) {r : (List Int)} (h : f97 x0 x1 = some r) : Fn Tryz.prog 97 #[up0, .int .i64 (x1)] gI wI (fun m w v => RV m w (r) v) := by
 unfold f97 at h
 refine fn_of_E Tryz.func97 rfl (Nat.le_of_ble_eq_true rfl) fun g0 hm hfr => ?_
 have rp0 : RV g0.m wI x0 up0 := hm ▸ rp0
 show E _ 24 none _ _ _ _ _
 refine E_seq (E_region (EL_do .plain rfl (D_box (g := g0) rfl rp0 fun g1 w1 p1 hs q1 => ?_)))
 have hfr := hfr.ext hs
 refine EL_at (.slice none 0 0) rfl rfl ?_
 refine EL_nil (thn_n ?_)
 obtain ⟨t5, hx, h⟩ := bsome h
 refine E_join (fun e w => ∃ (g : Gh) (v4 : Value), Fr gI wI g w ∧ e 4 = v4 ∧ RV g.m w (t5 : List Int) v4 ∧ OS 1004 g w 3 (t5 : List Int) v4) (fun Q' hQ => ?_) (fun gD lD hR => ?_)
 ·replace h := hx
  clear hx
  refine E_seq (E_region (EL_p (fPtr p1 0) (P_fieldAddr at_132_0 rfl (PT.ptr q1)) rfl ?_))
  have nB := PT_field (part_PaySheet_0).1 q1
  refine EL_p (fPtr (fPtr p1 0) 0) (P_fieldAddr at_58_0 rfl (PT.ptr nB)) rfl ?_
  have cC := PT_field (part_PayTable_0).1 nB
  refine EL_do .plain rfl (D_load (g := g1) Tryz.isAgg56 Tryz.sizeOf56 rfl cC fun i7 oB => ?_)
  refine EL_p (.int .i64 ((((x0).PayTable).Rows).length : Int)) (P_len Tryz.underlying56 rfl oB) rfl ?_
  refine EL_mw (.int .i64 (0)) rfl rfl ?_
  refine EL_nil (thn_n (E_block ?_))
  refine E_lp h (fun (s : (List Int) × Int) e w => ∃ (g : Gh) (v4 : Value), Fr gI wI g w ∧ e 1 = .int .i64 (x1) ∧ e 4 = v4 ∧ RV g.m w (s.1 : List Int) v4 ∧ OS 1004 g w 3 (s.1 : List Int) v4 ∧ e 9 = i7 ∧ RV g.m w (((x0).PayTable).Rows : List (List Int)) i7 ∧ e 10 = .int .i64 (((((x0).PayTable).Rows).length : Int)) ∧ e 11 = .int .i64 (s.2)) ⟨g1, (.slice none 0 0), hfr, rfl, rfl, RV_nil, OS.nil, rfl, oB, rfl, rfl⟩ (fun X30 iB yB => ?_)
  rintro ⟨y6, o0⟩ iD nD ⟨l8, n9, hfr, m8, n8, x5, i6, r8, u3, m7, x6⟩ h
  refine E_seq (E_region (EL_p (.bool ((decide (o0 < ((((x0).PayTable).Rows).length : Int))))) (P_int x6 m7 rfl) rfl ?_))
  refine EL_nil (thn_n (E_seq ?_))
  rcases csome h with ⟨g8, h⟩ | ⟨g8, h⟩
  ·refine E_ct g8 rfl ?_
   refine E_skip (thn_n ?_)
   obtain ⟨l5, hx, h⟩ := bsome h
   refine E_join (fun e w => ∃ (g : Gh) (v4 : Value), Fr gI wI g w ∧ e 1 = .int .i64 (x1) ∧ e 4 = v4 ∧ RV g.m w (l5 : List Int) v4 ∧ OS 1004 g w 3 (l5 : List Int) v4 ∧ e 9 = i7 ∧ RV g.m w (((x0).PayTable).Rows : List (List Int)) i7 ∧ e 10 = .int .i64 (((((x0).PayTable).Rows).length : Int)) ∧ e 11 = .int .i64 (o0)) (fun Q' hQ => ?_) (fun jD oD hR => ?_)
   ·replace h := hx
    clear hx
    refine E_block ?_
    refine E_seq (E_region ?_)
    obtain ⟨lB, x8, h⟩ := bsome h
    refine EL_p (ePtr i7 o0 1) (P_indexAddr (α := List Int) Tryz.underlying56 Tryz.sizeOf23 r8 u3 x6 x8) rfl ?_
    have mC := PT_idx u3 x8
    refine EL_do .plain rfl (D_load (g := l8) Tryz.isAgg23 Tryz.sizeOf23 rfl mC fun a9 tB => ?_)
    refine EL_at a9 rfl rfl ?_
    refine EL_nil (thn_n (E_region (EL_mv n8 rfl ?_)))
    refine EL_mw a9 rfl rfl ?_
    refine EL_mv m8 rfl ?_
    obtain ⟨k8, d9, h⟩ := bsome h
    refine EL_p (ePtr a9 x1 1) (P_indexAddr (α := Int) Tryz.underlying23 Tryz.sizeOf3 rfl tB rfl d9) rfl ?_
    have qC := PT_idx tB d9
    refine EL_do .plain rfl (D_load (g := l8) Tryz.isAgg3 Tryz.sizeOf3 rfl qC fun sD rC => ?_)
    obtain rfl := RV_int.1 rC
    refine EL_do .plain rfl (D_buildSlice (g := l8) 3020 (xs := ([k8] : List Int)) (vs := [.int .i64 (k8)]) Tryz.underlying23 Tryz.sizeOf3 Tryz.zeroValue3 rfl rfl (.cons rfl .nil) (RVs.cons (RV_int.2 rfl) RVs.nil) rfl rfl fun uC tD uD hs o48 vC hxt hfl => ?_)
    have hfr := hfr.stp hs
    have x5 := x5.stp hs
    have i6 := i6.stp hs rfl
    have u3 := u3.stp hs
    obtain ⟨mB, zB, h⟩ := bsome h
    refine EL_do .plain rfl (D_append (g := uC) (i := 1004) Tryz.underlying23 info_3 rfl rfl i6 x5 rfl vC zB fun aD vD vB hs o49 bD _ => ?_)
    have hfr := hfr.stp hs
    have u3 := u3.stp hs
    refine EL_at vB rfl rfl ?_
    refine EL_nil (blk_n ?_)
    obtain rfl := sinj h
    exact hQ _ _ ⟨aD, (vB), hfr, m8, rfl, bD, o49, r8, u3, m7, x6⟩
   ·clear hx
    obtain ⟨cD, u9, hfr, y9, z9, bA, iA, rA, yA, k9, l9⟩ := hR
    refine E_region (EL_in (.int .i64 ((w64 (o0 + (1 : Int))))) l9 rfl rfl rfl ?_)
    refine EL_mw (.int .i64 ((w64 (o0 + (1 : Int))))) rfl rfl ?_
    exact EL_nil (thn_n (yB (l5, (w64 (o0 + (1 : Int)))) _ _ ⟨cD, (u9), hfr, y9, z9, bA, iA, rA, yA, k9, rfl⟩ h))
  ·refine E_cf g8 rfl ?_
   refine E_exit ?_
   refine thn_e ?_
   refine thn_e ?_
   refine blk_hit ?_
   obtain rfl := sinj h
   exact hQ _ _ ⟨l8, (n9), hfr, n8, x5, i6⟩
 ·clear hx
  obtain ⟨xD, v8, hfr, aB, dB, eD⟩ := hR
  refine E_seq (E_region (EL_mv aB rfl ?_))
  refine EL_at v8 rfl rfl ?_
  refine EL_nil (thn_n (E_ret ?_))
  obtain rfl := sinj h
  exact end1 rfl rfl (show _ = v8 from rfl) ⟨_, hfr, dB⟩
def f98 (x0 : List Int) (x1 : Int → Option Bool) : Option (Int) :=
 jn (σ := Unit) (fun _ =>
  some ((-1 : Int))
  ) fun k18 =>
 lp (σ := Int) (fun k19 o0 =>
  bif (decide (o0 < ((x0).length : Int))) then
   jn (σ := Unit) (fun _ =>
    k19 ((w64 (o0 + (1 : Int))))
    ) fun k28 =>
   (idx x0 o0).bind fun i7 =>
   (x1 i7).bind fun v8 =>
   bif v8 then
    some (o0)
   else
    k28 ()
  else
   k18 ()
  ) big ((0 : Int))
theorem en98 : Enters Tryz.prog 98 := enters_of Tryz.func98 (by kernel_rfl) rfl
theorem wk98 {gI : Gh} {wI : World} {x0 : List Int} {x1 : Int → Option Bool} {up0 : Value} (rp0 : RV gI.m wI x0 up0) {up1 : Value} (rp1 : FnV1 Tryz.prog x1 up1 gI wI) {r : Int} (h : f98 x0 x1 = some r) : Fn Tryz.prog 98 #[up0, up1] gI wI (fun _ _ v => v = .int .i64 (r)) := by
 unfold f98 at h
 refine fn_of_E Tryz.func98 rfl (Nat.le_of_ble_eq_true rfl) fun g0 hm hfr => ?_
 have rp0 : RV g0.m wI x0 up0 := hm ▸ rp0
 obtain ⟨ff1, fa1, fc1, rfl, fen1, fcl1⟩ := rp1
 show E _ 19 none _ _ _ _ _
 refine E_seq (E_region (EL_at (.int .i64 (0)) rfl rfl ?_))
 refine EL_nil (thn_n (E_joinC h (fun (s : Unit) e w => ∃ (g : Gh) , Fr gI wI g w) (fun X18 k18 x8 h => ?_) ?_))
 ·refine E_seq (E_region (EL_mw up0 rfl rfl ?_))
  refine EL_p (.int .i64 ((x0).length : Int)) (P_len Tryz.underlying23 rfl rp0) rfl ?_
  refine EL_mw (.int .i64 (0)) rfl rfl ?_
  refine EL_nil (thn_n (E_block ?_))
  refine E_lp h (fun (s : Int) e w => ∃ (g : Gh) , Fr gI wI g w ∧ e 0 = up0 ∧ RV g.m w (x0 : List Int) up0 ∧ e 1 = (.func (.func ff1) fa1 fc1) ∧ e 7 = .int .i64 (((x0).length : Int)) ∧ e 8 = .int .i64 (s)) ⟨g0, hfr, rfl, rp0, rfl, rfl, rfl⟩ (fun X19 k19 a9 => ?_)
  rintro o0 z9 rA ⟨m7, hfr, i6, u3, x6, y6, l5⟩ h
  refine E_seq (E_region (EL_in (.bool ((decide (o0 < ((x0).length : Int))))) l5 y6 rfl rfl ?_))
  refine EL_nil (thn_n (E_seq ?_))
  rcases csome h with ⟨t5, h⟩ | ⟨t5, h⟩
  ·refine E_ct t5 rfl ?_
   refine E_skip (thn_n (E_joinC h (fun (s : Unit) e w => ∃ (g : Gh) , Fr gI wI g w ∧ e 0 = up0 ∧ RV g.m w (x0 : List Int) up0 ∧ e 1 = (.func (.func ff1) fa1 fc1) ∧ e 7 = .int .i64 (((x0).length : Int)) ∧ e 8 = .int .i64 (o0)) (fun X28 k28 d9 h => ?_) ?_))
   ·refine E_block ?_
    refine E_seq (E_region (EL_mv l5 rfl ?_))
    refine EL_at (.int .i64 (o0)) rfl rfl ?_
    refine EL_nil (thn_n (E_seq (E_region (EL_mv x6 rfl ?_))))
    refine EL_mv i6 rfl ?_
    refine EL_mw (.int .i64 (o0)) rfl rfl ?_
    obtain ⟨i7, g8, h⟩ := bsome h
    refine EL_p (ePtr up0 o0 1) (P_indexAddr (α := Int) Tryz.underlying23 Tryz.sizeOf3 rfl u3 rfl g8) rfl ?_
    have l9 := PT_idx u3 g8
    refine EL_do .plain rfl (D_load (g := m7) Tryz.isAgg3 Tryz.sizeOf3 rfl l9 fun yA n9 => ?_)
    obtain rfl := RV_int.1 n9
    obtain ⟨v8, k9, h⟩ := bsome h
    refine EL_do .plain rfl (D_callv (g := m7) (vs := [.int .i64 (i7)]) rfl fen1 (.cons rfl .nil) (fcl1 _ _ hfr.ch _ _ _  (RV_int.2 rfl) k9) fun u9 aB dB hs hr => ?_)
    have hfr := hfr.ext hs
    have u3 := u3.ext hs
    obtain rfl := RV_bool.1 hr
    refine EL_nil (thn_n ?_)
    rcases csome h with ⟨x5, h⟩ | ⟨x5, h⟩
    ·refine E_ct x5 rfl ?_
     refine E_seq (E_region (EL_mw (.int .i64 (o0)) rfl rfl ?_))
     refine EL_at (.int .i64 (o0)) rfl rfl ?_
     refine EL_nil (thn_n (E_ret (blk_r ?_)))
     refine thn_r ?_
     refine thn_r ?_
     refine blk_r ?_
     refine thn_r ?_
     obtain rfl := sinj h
     exact end1 rfl rfl (show _ = .int .i64 (o0) from rfl) ⟨_, hfr, rfl⟩
    ·refine E_cf x5 rfl ?_
     exact E_skip (blk_n (thn_n (d9 () _ _ ⟨u9, hfr, i6, u3, x6, y6, l5⟩ h)))
   ·rintro _ bA iB ⟨y9, hfr, k8, l8, m8, n8, r8⟩ h
    refine E_region (EL_in (.int .i64 ((w64 (o0 + (1 : Int))))) r8 rfl rfl rfl ?_)
    refine EL_mw (.int .i64 ((w64 (o0 + (1 : Int))))) rfl rfl ?_
    exact EL_nil (thn_n (a9 ((w64 (o0 + (1 : Int)))) _ _ ⟨y9, hfr, k8, l8, m8, n8, rfl⟩ h))
  ·refine E_cf t5 rfl ?_
   refine E_exit ?_
   refine thn_e ?_
   refine thn_e ?_
   refine blk_hit ?_
   exact thn_n (x8 () _ _ ⟨m7, hfr⟩ h)
 ·rintro _ iA lB ⟨mB, hfr⟩ h
  refine E_seq (E_region (EL_at (.int .i64 (-1)) rfl rfl ?_))
  refine EL_nil (thn_n (E_ret ?_))
  obtain rfl := sinj h
  exact end1 rfl rfl (show _ = .int .i64 (-1) from rfl) ⟨_, hfr, rfl⟩
def f99 (x1 : Int) : Option ((List Int)) :=
 Option.bind (α := Unit) (
  bif (decide (x1 < (0 : Int))) then
   none
  else
   some ()
  ) fun (_ : Unit) =>
 Option.bind (α := (List Int)) (
  bif (decide ((w64 (x1 - (w64 (((0 : Nat) : Int) - ((([] : List Int)).length : Int))))) > (0 : Int))) then
   (grwz 8 ((w64 (x1 - (w64 (((0 : Nat) : Int) - ((([] : List Int)).length : Int))))))).bind fun _ =>
   some (([] : List Int))
  else
   some (([] : List Int))
  ) fun l5 =>
 some (l5)
theorem en99 : Enters Tryz.prog 99 := enters_of Tryz.func99 (by kernel_rfl) rfl
theorem wk99 {iO : Nat} {gI : Gh} {wI : World} {x1 : Int}  {r : (List Int)} (h : f99 x1 = some r) : FnG Tryz.prog 99 #[.slice none 0 0, .int .i64 (x1)] gI wI (fun g w v => OS iO g w 3 r v ∧ RV g.m w r v) := by
 unfold f99 at h
 refine fnG_of_E Tryz.func99 rfl (Nat.le_of_ble_eq_true rfl) fun g0 hm hfr => ?_
 show E _ 27 none _ _ _ _ _
 refine E_seq (E_region (EL_at (.slice none 0 0) rfl rfl ?_))
 refine EL_nil (thn_n ?_)
 obtain ⟨_, hx, h⟩ := bsome h
 refine E_join (fun e w => ∃ (g : Gh) , Fr gI wI g w ∧ e 0 = .slice none 0 0 ∧ RV g.m w (([] : List Int) : List Int) (Value.slice none 0 0) ∧ e 1 = .int .i64 (x1)) (fun Q' hQ => ?_) (fun l8 w3 hR => ?_)
 ·replace h := hx
  clear hx
  refine E_seq (E_region (EL_mw (.int .i64 (x1)) rfl rfl ?_))
  refine EL_in (.bool ((decide (x1 < (0 : Int))))) rfl rfl rfl rfl ?_
  refine EL_nil (thn_n ?_)
  rcases csome h with ⟨hc2, h⟩ | ⟨hc2, h⟩
  ·refine E_ct hc2 rfl ?_
   refine E_region ?_
   cases h
  ·refine E_cf hc2 rfl ?_
   refine E_skip ?_
   obtain rfl := sinj h
   exact hQ _ _ ⟨g0, hfr, rfl, RV_nil, rfl⟩
 ·clear hx
  obtain ⟨g3, hfr, o0, u3, i6⟩ := hR
  obtain ⟨l5, hx, h⟩ := bsome h
  refine E_join (fun e w => ∃ (g : Gh) (v0 : Value), Fr gI wI g w ∧ e 0 = v0 ∧ RV g.m w (l5 : List Int) v0 ∧ OS 4022 g w 3 (l5 : List Int) v0) (fun Q' hQ => ?_) (fun m8 w8 hR => ?_)
  ·replace h := hx
   clear hx
   refine E_seq (E_region (EL_mv i6 rfl ?_))
   refine EL_mv o0 rfl ?_
   refine EL_p (.int .i64 ((0 : Nat) : Int)) (P_cap Tryz.underlying23 rfl) rfl ?_
   refine EL_mv o0 rfl ?_
   refine EL_p (.int .i64 ((([] : List Int)).length : Int)) (P_len Tryz.underlying23 rfl u3) rfl ?_
   refine EL_p (.int .i64 ((w64 (((0 : Nat) : Int) - ((([] : List Int)).length : Int))))) (P_int rfl rfl rfl) rfl ?_
   refine EL_p (.int .i64 ((w64 (x1 - (w64 (((0 : Nat) : Int) - ((([] : List Int)).length : Int))))))) (P_int rfl rfl rfl) rfl ?_
   refine EL_p (.int .i64 ((w64 (x1 - (w64 (((0 : Nat) : Int) - ((([] : List Int)).length : Int))))))) (P_assign rfl) rfl ?_
   refine EL_nil (thn_n (E_seq (E_region (EL_p (.int .i64 ((w64 (x1 - (w64 (((0 : Nat) : Int) - ((([] : List Int)).length : Int))))))) (P_move rfl) rfl ?_))))
   refine EL_p (.bool ((decide ((w64 (x1 - (w64 (((0 : Nat) : Int) - ((([] : List Int)).length : Int))))) > (0 : Int))))) (P_int rfl rfl rfl) rfl ?_
   refine EL_nil (thn_n ?_)
   rcases csome h with ⟨t5, h⟩ | ⟨t5, h⟩
   ·refine E_ct t5 rfl ?_
    refine E_region (EL_mv o0 rfl ?_)
    refine EL_mv o0 rfl ?_
    refine EL_p (.int .i64 ((0 : Nat) : Int)) (P_cap Tryz.underlying23 rfl) rfl ?_
    refine EL_p (.slice none 0 0) (P_cutN Tryz.underlying23 Tryz.sizeOf3 rfl rfl (fun p hp => by cases hp)) rfl ?_
    refine EL_p (.int .i64 ((w64 (x1 - (w64 (((0 : Nat) : Int) - ((([] : List Int)).length : Int))))))) (P_move rfl) rfl ?_
    obtain ⟨y7, k8, h⟩ := bsome h
    refine EL_do .plain rfl (D_growZ (g := g3) (α := Int) 4022 Tryz.underlying23 Tryz.underlying3 info_3 rfl (Nat.le_of_ble_eq_true rfl) rfl rfl k8 fun g7 w7 b7 c7 m7 hs o7 r7 => ?_)
    have hfr := hfr.stp hs
    have u3 := u3.stp hs
    refine EL_mv o0 rfl ?_
    refine EL_p (.int .i64 ((([] : List Int)).length : Int)) (P_len Tryz.underlying23 rfl u3) rfl ?_
    refine EL_p ((.slice (some ⟨b7, 0, none⟩) 0 c7)) (P_cutN Tryz.underlying23 Tryz.sizeOf3 rfl rfl (fun p hp => by cases hp; rfl)) rfl ?_
    refine EL_at ((.slice (some ⟨b7, 0, none⟩) 0 c7)) rfl rfl ?_
    refine EL_nil ?_
    obtain rfl := sinj h
    exact hQ _ _ ⟨g7, ((.slice (some ⟨b7, 0, none⟩) 0 c7)), hfr, rfl, r7, o7⟩
   ·refine E_cf t5 rfl ?_
    refine E_skip ?_
    obtain rfl := sinj h
    exact hQ _ _ ⟨g3, (.slice none 0 0), hfr, o0, u3, OS.nil⟩
  ·clear hx
   obtain ⟨g8, x5, hfr, x6, y6, i7⟩ := hR
   refine E_seq (E_region (EL_mv x6 rfl ?_))
   refine EL_at x5 rfl rfl ?_
   refine EL_nil (thn_n (E_ret ?_))
   obtain rfl := sinj h
   obtain ⟨gh, hxh, homh, hrvh⟩ := OS.handn (i := iO) hfr i7 y6
   exact end1 rfl rfl (show _ = x5 from rfl) ⟨gh, hxh, homh, hrvh⟩
def f109 (x0 : List Int) : Option (Bool) :=
 some ((decide (((x0).length : Int) > (6 : Int))))
theorem en109 : Enters Tryz.prog 109 := enters_of Tryz.func109 (by kernel_rfl) rfl
theorem wk109 {gI : Gh} {wI : World} {x0 : List Int} {up0 : Value} (rp0 : RV gI.m wI x0 up0) {r : Bool} (h : f109 x0 = some r) : Fn Tryz.prog 109 #[up0] gI wI (fun _ _ v => v = .bool (r)) := by
 unfold f109 at h
 refine fn_of_E Tryz.func109 rfl (Nat.le_of_ble_eq_true rfl) fun g0 hm hfr => ?_
 have rp0 : RV g0.m wI x0 up0 := hm ▸ rp0
 show E _ 6 none _ _ _ _ _
 refine E_seq (E_region (EL_at (.bool false) rfl rfl ?_))
 refine EL_nil (thn_n (E_seq (E_region (EL_mw up0 rfl rfl ?_))))
 refine EL_p (.int .i64 ((x0).length : Int)) (P_len Tryz.underlying23 rfl rp0) rfl ?_
 refine EL_in (.bool ((decide (((x0).length : Int) > (6 : Int))))) rfl rfl rfl rfl ?_
 refine EL_at (.bool ((decide (((x0).length : Int) > (6 : Int))))) rfl rfl ?_
 refine EL_nil (thn_n (E_ret ?_))
 obtain rfl := sinj h
 exact end1 rfl rfl (show _ = .bool ((decide (((x0).length : Int) > (6 : Int)))) from rfl) ⟨_, hfr, rfl⟩
def f110 (x0 : List Int) (z0 : PaySheet) : Option (Bool) :=
 some ((((x0).length : Int) != ((((z0).PayTable).Down).length : Int)))
theorem en110 : Enters Tryz.prog 110 := enters_of Tryz.func110 (by kernel_rfl) rfl
theorem wk110 {gI : Gh} {wI : World} {x0 : List Int} {z0 : PaySheet} {up0 : Value} (rp0 : RV gI.m wI x0 up0) {pf0 : Value} (qf0 : PT gI.m wI z0 pf0) {r : Bool} (h : f110 x0 z0 = some r) : Fn Tryz.prog 110 #[up0, pf0] gI wI (fun _ _ v => v = .bool (r)) := by
 unfold f110 at h
 refine fn_of_E Tryz.func110 rfl (Nat.le_of_ble_eq_true rfl) fun g0 hm hfr => ?_
 have qf0 : PT g0.m wI z0 pf0 := hm ▸ qf0
 have rp0 : RV g0.m wI x0 up0 := hm ▸ rp0
 show E _ 11 none _ _ _ _ _
 refine E_seq (E_region (EL_at (.bool false) rfl rfl ?_))
 refine EL_nil (thn_n (E_seq (E_region (EL_mw up0 rfl rfl ?_))))
 refine EL_p (.int .i64 ((x0).length : Int)) (P_len Tryz.underlying23 rfl rp0) rfl ?_
 refine EL_p (fPtr pf0 0) (P_fieldAddr at_132_0 rfl (PT.ptr qf0)) rfl ?_
 have q1 := PT_field (part_PaySheet_0).1 qf0
 refine EL_p (fPtr (fPtr pf0 0) 2) (P_fieldAddr at_58_2 rfl (PT.ptr q1)) rfl ?_
 have q2 := PT_field (part_PayTable_2).1 q1
 refine EL_do .plain rfl (D_load (g := g0) Tryz.isAgg23 Tryz.sizeOf23 rfl q2 fun v3 r3 => ?_)
 refine EL_p (.int .i64 ((((z0).PayTable).Down).length : Int)) (P_len Tryz.underlying23 rfl r3) rfl ?_
 refine EL_p (.bool ((((x0).length : Int) != ((((z0).PayTable).Down).length : Int)))) (P_int rfl rfl rfl) rfl ?_
 refine EL_p (.bool ((((x0).length : Int) != ((((z0).PayTable).Down).length : Int)))) (P_assign rfl) rfl ?_
 refine EL_nil (thn_n (E_ret ?_))
 obtain rfl := sinj h
 exact end1 rfl rfl (show _ = .bool ((((x0).length : Int) != ((((z0).PayTable).Down).length : Int))) from rfl) ⟨_, hfr, rfl⟩
def f129 (x0 : List (List Int)) (x1 : (List Int) → Option Bool) : Option (Int) :=
 jn (σ := Unit) (fun _ =>
  some ((-1 : Int))
  ) fun k18 =>
 lp (σ := Int) (fun k19 o0 =>
  bif (decide (o0 < ((x0).length : Int))) then
   jn (σ := Unit) (fun _ =>
    k19 ((w64 (o0 + (1 : Int))))
    ) fun k28 =>
   (idx x0 o0).bind fun r8 =>
   (x1 r8).bind fun v8 =>
   bif v8 then
    some (o0)
   else
    k28 ()
  else
   k18 ()
  ) big ((0 : Int))
theorem en129 : Enters Tryz.prog 129 := enters_of Tryz.func129 (by kernel_rfl) rfl
theorem wk129 {gI : Gh} {wI : World} {x0 : List (List Int)} {x1 : (List Int) → Option Bool} {up0 : Value} (rp0 : RV gI.m wI x0 up0) {up1 : Value} (rp1 : FnV1 Tryz.prog x1 up1 gI wI) {r : Int} (h : f129 x0 x1 = some r) : Fn Tryz.prog 129 #[up0, up1] gI wI (fun _ _ v => v = .int .i64 (r)) := by
 unfold f129 at h
 refine fn_of_E Tryz.func129 rfl (Nat.le_of_ble_eq_true rfl) fun g0 hm hfr => ?_
 have rp0 : RV g0.m wI x0 up0 := hm ▸ rp0
 obtain ⟨ff1, fa1, fc1, rfl, fen1, fcl1⟩ := rp1
 show E _ 19 none _ _ _ _ _
 refine E_seq (E_region (EL_at (.int .i64 (0)) rfl rfl ?_))
 refine EL_nil (thn_n (E_joinC h (fun (s : Unit) e w => ∃ (g : Gh) , Fr gI wI g w) (fun X18 k18 x8 h => ?_) ?_))
 ·refine E_seq (E_region (EL_mw up0 rfl rfl ?_))
  refine EL_p (.int .i64 ((x0).length : Int)) (P_len Tryz.underlying56 rfl rp0) rfl ?_
  refine EL_mw (.int .i64 (0)) rfl rfl ?_
  refine EL_nil (thn_n (E_block ?_))
  refine E_lp h (fun (s : Int) e w => ∃ (g : Gh) , Fr gI wI g w ∧ e 0 = up0 ∧ RV g.m w (x0 : List (List Int)) up0 ∧ e 1 = (.func (.func ff1) fa1 fc1) ∧ e 7 = .int .i64 (((x0).length : Int)) ∧ e 8 = .int .i64 (s)) ⟨g0, hfr, rfl, rp0, rfl, rfl, rfl⟩ (fun X19 k19 a9 => ?_)
  rintro o0 bA yA ⟨i7, hfr, i6, u3, x6, y6, l5⟩ h
  refine E_seq (E_region (EL_in (.bool ((decide (o0 < ((x0).length : Int))))) l5 y6 rfl rfl ?_))
  refine EL_nil (thn_n (E_seq ?_))
  rcases csome h with ⟨t5, h⟩ | ⟨t5, h⟩
  ·refine E_ct t5 rfl ?_
   refine E_skip (thn_n (E_joinC h (fun (s : Unit) e w => ∃ (g : Gh) , Fr gI wI g w ∧ e 0 = up0 ∧ RV g.m w (x0 : List (List Int)) up0 ∧ e 1 = (.func (.func ff1) fa1 fc1) ∧ e 7 = .int .i64 (((x0).length : Int)) ∧ e 8 = .int .i64 (o0)) (fun X28 k28 d9 h => ?_) ?_))
   ·refine E_block ?_
    refine E_seq (E_region (EL_mv l5 rfl ?_))
    refine EL_at (.int .i64 (o0)) rfl rfl ?_
    refine EL_nil (thn_n (E_seq (E_region (EL_mv x6 rfl ?_))))
    refine EL_mv i6 rfl ?_
    refine EL_mw (.int .i64 (o0)) rfl rfl ?_
    obtain ⟨r8, m7, h⟩ := bsome h
    refine EL_p (ePtr up0 o0 1) (P_indexAddr (α := List Int) Tryz.underlying56 Tryz.sizeOf23 rfl u3 rfl m7) rfl ?_
    have l9 := PT_idx u3 m7
    refine EL_do .plain rfl (D_load (g := i7) Tryz.isAgg23 Tryz.sizeOf23 rfl l9 fun n9 u9 => ?_)
    obtain ⟨v8, k9, h⟩ := bsome h
    refine EL_do .plain rfl (D_callv (g := i7) (vs := [n9]) rfl fen1 (.cons rfl .nil) (fcl1 _ _ hfr.ch _ _ _  u9 k9) fun y9 aB dB hs hr => ?_)
    have hfr := hfr.ext hs
    have u3 := u3.ext hs
    obtain rfl := RV_bool.1 hr
    refine EL_nil (thn_n ?_)
    rcases csome h with ⟨x5, h⟩ | ⟨x5, h⟩
    ·refine E_ct x5 rfl ?_
     refine E_seq (E_region (EL_mw (.int .i64 (o0)) rfl rfl ?_))
     refine EL_at (.int .i64 (o0)) rfl rfl ?_
     refine EL_nil (thn_n (E_ret (blk_r ?_)))
     refine thn_r ?_
     refine thn_r ?_
     refine blk_r ?_
     refine thn_r ?_
     obtain rfl := sinj h
     exact end1 rfl rfl (show _ = .int .i64 (o0) from rfl) ⟨_, hfr, rfl⟩
    ·refine E_cf x5 rfl ?_
     exact E_skip (blk_n (thn_n (d9 () _ _ ⟨y9, hfr, i6, u3, x6, y6, l5⟩ h)))
   ·rintro _ iA iB ⟨z9, hfr, g8, k8, l8, m8, n8⟩ h
    refine E_region (EL_in (.int .i64 ((w64 (o0 + (1 : Int))))) n8 rfl rfl rfl ?_)
    refine EL_mw (.int .i64 ((w64 (o0 + (1 : Int))))) rfl rfl ?_
    exact EL_nil (thn_n (a9 ((w64 (o0 + (1 : Int)))) _ _ ⟨z9, hfr, g8, k8, l8, m8, rfl⟩ h))
  ·refine E_cf t5 rfl ?_
   refine E_exit ?_
   refine thn_e ?_
   refine thn_e ?_
   refine blk_hit ?_
   exact thn_n (x8 () _ _ ⟨i7, hfr⟩ h)
 ·rintro _ rA lB ⟨mB, hfr⟩ h
  refine E_seq (E_region (EL_at (.int .i64 (-1)) rfl rfl ?_))
  refine EL_nil (thn_n (E_ret ?_))
  obtain rfl := sinj h
  exact end1 rfl rfl (show _ = .int .i64 (-1) from rfl) ⟨_, hfr, rfl⟩
end Go.Proofs.YtkmbkaoolacofaaGreat
