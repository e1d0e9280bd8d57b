import Derived.Test.YtcjpochjapnoaaaGreatCode2
set_option maxRecDepth 8000
set_option maxHeartbeats 4000000
namespace Go.Proofs.YtcjpochjapnoaaaGreat
open Go.RowKit
def f124 (x0 : List Int) : Option (Bool) :=
 jn (σ := Unit) (fun _ =>
  some (true)
  ) fun k53 =>
 lp (σ := Int) (fun k54 o0 =>
  jn (σ := Unit) (fun _ =>
   jn (σ := Unit) (fun _ =>
    k54 ((w64 (o0 - (1 : Int))))
    ) fun i6 =>
   (idx x0 o0).bind fun y84 =>
   (idx x0 (w64 (o0 - (1 : Int)))).bind fun j3 =>
   (f138 y84 j3).bind fun o3 =>
   bif o3 then
    some (false)
   else
    i6 ()
   ) fun k57 =>
  bif (decide (o0 > (0 : Int))) then
   k57 ()
  else
   k53 ()
  ) big ((w64 (((x0).length : Int) - (1 : Int))))
theorem en124 : Enters Tryz.prog 124 := enters_of Tryz.func124 (by kernel_rfl) rfl
theorem wk124 {gI : Gh} {wI : World} {x0 : List Int} {up0 : Value} (rp0 : RV gI.m wI x0 up0) {r : Bool} (h : f124 x0 = some r) : Fn Tryz.prog 124 #[up0] gI wI (fun _ _ v => v = .bool (r)) := by
 unfold f124 at h
 refine fn_of_E Tryz.func124 rfl (Nat.le_of_ble_eq_true rfl) fun g0 hm hfr => ?_
 have rp0 : RV g0.m wI x0 up0 := hm ▸ rp0
 show E _ 21 none _ _ _ _ _
 refine E_seq (E_region (EL_at (.bool false) rfl rfl ?_))
 refine EL_nil (thn_n (E_joinC h (fun (s : Unit) e w => ∃ (g : Gh) , Fr gI wI g w) (fun X53 k53 v6 h => ?_) ?_))
 ·refine E_seq (E_region (EL_mw up0 rfl rfl ?_))
  refine EL_p (.int .i64 ((x0).length : Int)) (P_len Tryz.underlying25 rfl rp0) rfl ?_
  refine EL_in (.int .i64 ((w64 (((x0).length : Int) - (1 : Int))))) rfl rfl rfl rfl ?_
  refine EL_at (.int .i64 ((w64 (((x0).length : Int) - (1 : Int))))) rfl rfl ?_
  refine EL_nil (thn_n (E_block ?_))
  refine E_lp h (fun (s : Int) e w => ∃ (g : Gh) , Fr gI wI g w ∧ e 0 = up0 ∧ RV g.m w (x0 : List Int) up0 ∧ e 3 = .int .i64 (s)) ⟨g0, hfr, rfl, rp0, rfl⟩ (fun X54 k54 x6 => ?_)
  rintro o0 c8 l8 ⟨j6, hfr, t5, x5, u3⟩ h
  refine E_joinC h (fun (s : Unit) e w => ∃ (g : Gh) , Fr gI wI g w ∧ e 0 = up0 ∧ RV g.m w (x0 : List Int) up0 ∧ e 3 = .int .i64 (o0)) (fun X57 k57 y6 h => ?_) ?_
  ·refine E_seq (E_region (EL_mv u3 rfl ?_))
   refine EL_in (.bool ((decide (o0 > (0 : Int))))) rfl rfl rfl rfl ?_
   refine EL_nil (thn_n ?_)
   rcases csome h with ⟨i3, h⟩ | ⟨i3, h⟩
   ·refine E_ct i3 rfl ?_
    exact E_skip (thn_n (y6 () _ _ ⟨j6, hfr, t5, x5, u3⟩ h))
   ·refine E_cf i3 rfl ?_
    refine E_exit ?_
    refine thn_e ?_
    refine thn_e ?_
    refine blk_hit ?_
    exact thn_n (v6 () _ _ ⟨j6, hfr⟩ h)
  ·rintro _ e8 m8 ⟨g7, hfr, j1, u0, z2⟩ h
   refine E_joinC h (fun (s : Unit) e w => ∃ (g : Gh) , Fr gI wI g w ∧ e 0 = up0 ∧ RV g.m w (x0 : List Int) up0 ∧ e 3 = .int .i64 (o0)) (fun X83 i6 a7 h => ?_) ?_
   ·refine E_block ?_
    refine E_seq ?_
    obtain ⟨y84, z3, h⟩ := bsome h
    have i7 := PT_idx u0 z3
    refine L_load (x := .tmp 13) Tryz.isAgg3 Tryz.sizeOf3 i7 fun n8 j7 b7 => ?_
    obtain rfl := RV_int.1 j7
    obtain ⟨j3, z4, h⟩ := bsome h
    have m7 := PT_idx u0 z4
    refine L_load (x := .tmp 18) Tryz.isAgg3 Tryz.sizeOf3 m7 fun o8 n7 c7 => ?_
    obtain rfl := RV_int.1 n7
    obtain ⟨o3, d7, h⟩ := bsome h
    refine E_drawL (g := g7) (n := 10) [(9, (fun v g w => v = .bool (o3)))] [0, 1, 2, 3, 4, 5, 6, 7, 8, 9] rfl mixed (by kernel_rfl) (⟨fun _ => up_eq _, trivial⟩) ?_
    refine L_p up0 rfl rfl (P_move j1) ?_
    refine L_p (.int .i64 (o0)) rfl rfl (P_move z2) ?_
    refine L_p (ePtr up0 o0 1) rfl rfl (P_indexAddr (α := Int) Tryz.underlying25 Tryz.sizeOf3 rfl u0 rfl z3) ?_
    refine L_ld (c := .int .i64 (y84)) rfl rfl .plain (fun _ _ h => h.ch) b7 rfl ?_
    refine L_p up0 rfl rfl (P_move j1) ?_
    refine L_p (.int .i64 (o0)) rfl rfl (P_move z2) ?_
    refine L_p (.int .i64 ((w64 (o0 - (1 : Int))))) rfl rfl (P_int rfl rfl rfl) ?_
    refine L_p (ePtr up0 (w64 (o0 - (1 : Int))) 1) rfl rfl (P_indexAddr (α := Int) Tryz.underlying25 Tryz.sizeOf3 rfl u0 rfl z4) ?_
    refine L_ld (c := .int .i64 (j3)) rfl rfl .plain (fun _ _ h => h.ch) c7 rfl ?_
    refine L_do (φ := fun v g w => v = .bool (o3)) rfl rfl .plain (fun g w hd => D_call (g := g) (vs := [.int .i64 (y84), .int .i64 (j3)]) en138 (.cons rfl (.cons rfl .nil)) (wk138  d7) fun g' w' v hs hr => ⟨g', hs, hr⟩) (fun q8 hv => ?_)
    obtain ⟨_, _, _, rfl⟩ := hv
    refine L_nl fun o7 r8 hs => ?_
    have hfr := hfr.ext hs
    have u0 := u0.ext hs
    clear hs
    refine EL_nil (thn_n ?_)
    rcases csome h with ⟨d3, h⟩ | ⟨d3, h⟩
    ·refine E_ct d3 rfl ?_
     refine E_seq (E_region (EL_at (.bool false) rfl rfl ?_))
     refine EL_nil (thn_n (E_ret (blk_r ?_)))
     refine thn_r ?_
     refine thn_r ?_
     refine blk_r ?_
     refine thn_r ?_
     obtain rfl := sinj h
     exact end1 rfl rfl (show _ = .bool false from rfl) ⟨_, hfr, rfl⟩
    ·refine E_cf d3 rfl ?_
     exact E_skip (blk_n (thn_n (a7 () _ _ ⟨o7, hfr, j1, u0, z2⟩ h)))
   ·rintro _ u7 g8 ⟨e7, hfr, i5, l5, q5⟩ h
    refine E_region (EL_mv q5 rfl ?_)
    refine EL_in (.int .i64 ((w64 (o0 - (1 : Int))))) rfl rfl rfl rfl ?_
    refine EL_at (.int .i64 ((w64 (o0 - (1 : Int))))) rfl rfl ?_
    exact EL_nil (thn_n (x6 ((w64 (o0 - (1 : Int)))) _ _ ⟨e7, hfr, i5, l5, rfl⟩ h))
 ·rintro _ v7 i8 ⟨k8, hfr⟩ h
  refine E_seq (E_region (EL_at (.bool true) rfl rfl ?_))
  refine EL_nil (thn_n (E_ret ?_))
  obtain rfl := sinj h
  exact end1 rfl rfl (show _ = .bool true from rfl) ⟨_, hfr, rfl⟩
def f130 (x0 : List (List Int)) : Option ((List Int)) :=
 Option.bind (α := Int) (
  lp (σ := Int × Int) (fun k9 (j1, o0) =>
   bif (decide (o0 < ((x0).length : Int))) then
    Option.bind (α := Int) (
     (idx x0 o0).bind fun i3 =>
     bif (decide ((w64 (j1 + ((i3).length : Int))) < (0 : Int))) then
      none
     else
      some ((w64 (j1 + ((i3).length : Int))))
     ) fun j3 =>
    k9 (j3, (w64 (o0 + (1 : Int))))
   else
    some (j1)
   ) big ((0 : Int), (0 : Int))
  ) fun o3 =>
 (f153 o3).bind fun l9 =>
 Option.bind (α := (List Int)) (
  lp (σ := (List Int) × Int) (fun n9 (l5, u0) =>
   bif (decide (u0 < ((x0).length : Int))) then
    Option.bind (α := (List Int)) (
     (idx x0 u0).bind fun o9 =>
     (apnd 8 l5 o9).bind fun t9 =>
     some (t9)
     ) fun d3 =>
    n9 (d3, (w64 (u0 + (1 : Int))))
   else
    some (l5)
   ) big (l9, (0 : Int))
  ) fun u3 =>
 some (u3)
theorem en130 : Enters Tryz.prog 130 := enters_of Tryz.func130 (by kernel_rfl) rfl
theorem wk130 {gI : Gh} {wI : World} {x0 : List (List Int)} {up0 : Value} (rp0 : RV gI.m wI x0 up0) {r : (List Int)} (h : f130 x0 = some r) : Fn Tryz.prog 130 #[up0] gI wI (fun m w v => RV m w (r) v) := by
 unfold f130 at h
 refine fn_of_E Tryz.func130 rfl (Nat.le_of_ble_eq_true rfl) fun g0 hm hfr => ?_
 have rp0 : RV g0.m wI x0 up0 := hm ▸ rp0
 show E _ 36 none _ _ _ _ _
 refine E_seq (E_region (EL_at (.slice none 0 0) rfl rfl ?_))
 refine EL_nil (thn_n (E_seq (E_region (EL_at (.int .i64 (0)) rfl rfl ?_))))
 refine EL_nil (thn_n ?_)
 obtain ⟨o3, hx, h⟩ := bsome h
 refine E_join (fun e w => ∃ (g : Gh) , Fr gI wI g w ∧ e 0 = up0 ∧ RV g.m w (x0 : List (List Int)) up0 ∧ e 3 = .int .i64 (o3)) (fun Q' hQ => ?_) (fun aB jB hR => ?_)
 ·replace h := hx
  clear hx
  refine E_seq (E_region (EL_mw up0 rfl rfl ?_))
  refine EL_p (.int .i64 ((x0).length : Int)) (P_len Tryz.underlying110 rfl rp0) rfl ?_
  refine EL_mw (.int .i64 (0)) rfl rfl ?_
  refine EL_nil (thn_n (E_block ?_))
  refine E_lp h (fun (s : Int × Int) e w => ∃ (g : Gh) , Fr gI wI g w ∧ e 0 = up0 ∧ RV g.m w (x0 : List (List Int)) up0 ∧ e 3 = .int .i64 (s.1) ∧ e 9 = up0 ∧ RV g.m w (x0 : List (List Int)) up0 ∧ e 10 = .int .i64 (((x0).length : Int)) ∧ e 11 = .int .i64 (s.2)) ⟨g0, hfr, rfl, rp0, rfl, rfl, rp0, rfl, rfl⟩ (fun X13 k9 gA => ?_)
  rintro ⟨j1, o0⟩ bB kB ⟨m7, hfr, a7, b7, c7, d7, q5, t5, z4⟩ h
  refine E_seq (E_region (EL_in (.bool ((decide (o0 < ((x0).length : Int))))) z4 t5 rfl rfl ?_))
  refine EL_nil (thn_n (E_seq ?_))
  rcases csome h with ⟨j6, h⟩ | ⟨j6, h⟩
  ·refine E_ct j6 rfl ?_
   refine E_skip (thn_n ?_)
   obtain ⟨j3, hx, h⟩ := bsome h
   refine E_join (fun e w => ∃ (g : Gh) , Fr gI wI g w ∧ e 0 = up0 ∧ RV g.m w (x0 : List (List Int)) up0 ∧ e 3 = .int .i64 (j3) ∧ e 9 = up0 ∧ RV g.m w (x0 : List (List Int)) up0 ∧ e 10 = .int .i64 (((x0).length : Int)) ∧ e 11 = .int .i64 (o0)) (fun Q' hQ => ?_) (fun cB lB hR => ?_)
   ·replace h := hx
    clear hx
    refine E_block ?_
    refine E_seq (E_region ?_)
    obtain ⟨i3, n7, h⟩ := bsome h
    refine EL_p (ePtr up0 o0 1) (P_indexAddr (α := List Int) Tryz.underlying110 Tryz.sizeOf25 d7 q5 z4 n7) rfl ?_
    have lA := PT_idx q5 n7
    refine EL_do .plain rfl (D_load (g := m7) Tryz.isAgg25 Tryz.sizeOf25 rfl lA fun u9 mA => ?_)
    refine EL_at u9 rfl rfl ?_
    refine EL_nil (thn_n (E_seq (E_region (EL_mv c7 rfl ?_))))
    refine EL_mw u9 rfl rfl ?_
    refine EL_p (.int .i64 ((i3).length : Int)) (P_len Tryz.underlying25 rfl mA) rfl ?_
    refine EL_in (.int .i64 ((w64 (j1 + ((i3).length : Int))))) rfl rfl rfl rfl ?_
    refine EL_at (.int .i64 ((w64 (j1 + ((i3).length : Int))))) rfl rfl ?_
    refine EL_nil (thn_n (E_seq (E_region (EL_mw (.int .i64 ((w64 (j1 + ((i3).length : Int))))) rfl rfl ?_))))
    refine EL_p (.bool ((decide ((w64 (j1 + ((i3).length : Int))) < (0 : Int))))) (P_int rfl rfl rfl) rfl ?_
    refine EL_nil (thn_n ?_)
    rcases csome h with ⟨x6, h⟩ | ⟨x6, h⟩
    ·refine E_ct x6 rfl ?_
     refine E_region ?_
     cases h
    ·refine E_cf x6 rfl ?_
     refine E_skip (blk_n ?_)
     obtain rfl := sinj h
     exact hQ _ _ ⟨m7, hfr, a7, b7, rfl, d7, q5, t5, z4⟩
   ·clear hx
    obtain ⟨nA, hfr, l8, m8, n8, o8, q8, o7, u7⟩ := hR
    refine E_region (EL_in (.int .i64 ((w64 (o0 + (1 : Int))))) u7 rfl rfl rfl ?_)
    refine EL_mw (.int .i64 ((w64 (o0 + (1 : Int))))) rfl rfl ?_
    exact EL_nil (thn_n (gA (j3, (w64 (o0 + (1 : Int)))) _ _ ⟨nA, hfr, l8, m8, n8, o8, q8, o7, rfl⟩ h))
  ·refine E_cf j6 rfl ?_
   refine E_exit ?_
   refine thn_e ?_
   refine thn_e ?_
   refine blk_hit ?_
   obtain rfl := sinj h
   exact hQ _ _ ⟨m7, hfr, a7, b7, c7⟩
 ·clear hx
  obtain ⟨oA, hfr, r8, z3, t8⟩ := hR
  refine E_seq (E_region (EL_mv t8 rfl ?_))
  obtain ⟨l9, iA, h⟩ := bsome h
  refine EL_do .plain rfl (D_callG (g := oA) (vs := [.slice none 0 0, .int .i64 (o3)]) en153 (.cons rfl (.cons rfl .nil)) (wk153 (iO := 4024) iA) fun pA mB y9 hs m26 => ?_)
  obtain ⟨o26, qA⟩ := m26
  have hfr := hfr.ext hs
  have z3 := z3.ext hs
  refine EL_at y9 rfl rfl ?_
  refine EL_nil (thn_n ?_)
  obtain ⟨u3, hx, h⟩ := bsome h
  refine E_join (fun e w => ∃ (g : Gh) (v6 : Value), Fr gI wI g w ∧ e 6 = v6 ∧ RV g.m w (u3 : List Int) v6 ∧ OS 4024 g w 3 (u3 : List Int) v6) (fun Q' hQ => ?_) (fun dB nB hR => ?_)
  ·replace h := hx
   clear hx
   refine E_seq (E_region (EL_mv r8 rfl ?_))
   refine EL_p (.int .i64 ((x0).length : Int)) (P_len Tryz.underlying110 rfl z3) rfl ?_
   refine EL_mw (.int .i64 (0)) rfl rfl ?_
   refine EL_nil (thn_n (E_block ?_))
   refine E_lp h (fun (s : (List Int) × Int) e w => ∃ (g : Gh) (v6 : Value), Fr gI wI g w ∧ e 6 = v6 ∧ RV g.m w (s.1 : List Int) v6 ∧ OS 4024 g w 3 (s.1 : List Int) v6 ∧ e 25 = up0 ∧ RV g.m w (x0 : List (List Int)) up0 ∧ e 26 = .int .i64 (((x0).length : Int)) ∧ e 27 = .int .i64 (s.2)) ⟨pA, (y9), hfr, rfl, qA, o26, rfl, z3, rfl, rfl⟩ (fun X42 n9 jA => ?_)
   rintro ⟨l5, u0⟩ eB oB ⟨v7, v8, hfr, e7, g7, i7, x5, z2, i6, i5⟩ h
   refine E_seq (E_region (EL_in (.bool ((decide (u0 < ((x0).length : Int))))) i5 i6 rfl rfl ?_))
   refine EL_nil (thn_n (E_seq ?_))
   rcases csome h with ⟨y6, h⟩ | ⟨y6, h⟩
   ·refine E_ct y6 rfl ?_
    refine E_skip (thn_n ?_)
    obtain ⟨d3, hx, h⟩ := bsome h
    refine E_join (fun e w => ∃ (g : Gh) (v6 : Value), Fr gI wI g w ∧ e 6 = v6 ∧ RV g.m w (d3 : List Int) v6 ∧ OS 4024 g w 3 (d3 : List Int) v6 ∧ e 25 = up0 ∧ RV g.m w (x0 : List (List Int)) up0 ∧ e 26 = .int .i64 (((x0).length : Int)) ∧ e 27 = .int .i64 (u0)) (fun Q' hQ => ?_) (fun iB tB hR => ?_)
    ·replace h := hx
     clear hx
     refine E_block ?_
     refine E_seq (E_region ?_)
     obtain ⟨o9, c8, h⟩ := bsome h
     refine EL_p (ePtr up0 u0 1) (P_indexAddr (α := List Int) Tryz.underlying110 Tryz.sizeOf25 x5 z2 i5 c8) rfl ?_
     have rA := PT_idx z2 c8
     refine EL_do .plain rfl (D_load (g := v7) Tryz.isAgg25 Tryz.sizeOf25 rfl rA fun z9 sA => ?_)
     refine EL_at z9 rfl rfl ?_
     refine EL_nil (thn_n (E_region (EL_mv e7 rfl ?_)))
     refine EL_mw z9 rfl rfl ?_
     obtain ⟨t9, kA, h⟩ := bsome h
     refine EL_do .plain rfl (D_append (g := v7) (i := 4024) Tryz.underlying25 info_3 rfl rfl i7 g7 rfl sA kA fun uA vB bA hs o53 xA _ => ?_)
     have hfr := hfr.stp hs
     have z2 := z2.stp hs
     refine EL_at bA rfl rfl ?_
     refine EL_nil (blk_n ?_)
     obtain rfl := sinj h
     exact hQ _ _ ⟨uA, (bA), hfr, rfl, xA, o53, x5, z2, i6, i5⟩
    ·clear hx
     obtain ⟨yA, x8, hfr, y8, a9, d9, e8, g8, i8, k8⟩ := hR
     refine E_region (EL_in (.int .i64 ((w64 (u0 + (1 : Int))))) k8 rfl rfl rfl ?_)
     refine EL_mw (.int .i64 ((w64 (u0 + (1 : Int))))) rfl rfl ?_
     exact EL_nil (thn_n (jA (d3, (w64 (u0 + (1 : Int)))) _ _ ⟨yA, (x8), hfr, y8, a9, d9, e8, g8, i8, rfl⟩ h))
   ·refine E_cf y6 rfl ?_
    refine E_exit ?_
    refine thn_e ?_
    refine thn_e ?_
    refine blk_hit ?_
    obtain rfl := sinj h
    exact hQ _ _ ⟨v7, (v8), hfr, e7, g7, i7⟩
  ·clear hx
   obtain ⟨xB, j7, hfr, e9, i9, zA⟩ := hR
   refine E_seq (E_region (EL_mv e9 rfl ?_))
   refine EL_at j7 rfl rfl ?_
   refine EL_nil (thn_n (E_ret ?_))
   obtain rfl := sinj h
   exact end1 rfl rfl (show _ = j7 from rfl) ⟨_, hfr, i9⟩
def f143 (x0 : List Int) (x1 : Int) (x2 : Int) (x3 : Int) (x4 : Int → Int → Option Int) : Option ((List Int)) :=
 Option.bind (α := (List Int) × Int) (
  lp (σ := (List Int) × Int × Int) (fun a7 (j3, o0, u0) =>
   jn (σ := Unit) (fun _ =>
    bif (decide (o0 > u0)) then
     (f159 j3 ((w64 (x2 - o0))) x2 u0 x4).bind fun b7 =>
     a7 (b7, (w64 (o0 - u0)), u0)
    else
     (f159 j3 ((w64 (x2 - o0))) ((w64 ((w64 (x2 + u0)) - o0))) o0 x4).bind fun c7 =>
     a7 (c7, o0, (w64 (u0 - o0)))
    ) fun m7 =>
   bif (o0 != u0) then
    m7 ()
   else
    some (j3, o0)
   ) big (x0, (w64 (x2 - x1)), (w64 (x3 - x2)))
  ) fun (z4, z2) =>
 (f159 z4 ((w64 (x2 - z2))) x2 z2 x4).bind fun n7 =>
 some (n7)
theorem en143 : Enters Tryz.prog 143 := enters_of Tryz.func143 (by kernel_rfl) rfl
theorem wk143 {iI : Nat} {gI : Gh} {wI : World} {x0 : List Int} {x1 : Int} {x2 : Int} {x3 : Int} {x4 : Int → Int → Option Int} {up0 : Value} (mp0 : OM iI gI wI 3 x0 up0) {up4 : Value} (rp4 : FnV2 Tryz.prog x4 up4 gI wI) {r : (List Int)} (h : f143 x0 x1 x2 x3 x4 = some r) : FnM Tryz.prog 143 #[up0, .int .i64 (x1), .int .i64 (x2), .int .i64 (x3), up4] iI gI wI (fun g w v => v = .tuple #[] ∧ OM iI g w 3 r up0) := by
 unfold f143 at h
 refine fnM_of_E Tryz.func143 rfl (Nat.le_of_ble_eq_true rfl) fun g0 hm hfr => ?_
 have e7 := mp0
 replace mp0 := mp0.enter
 rw [← hm] at mp0
 replace hm : g0.m = gI.m := by rw [hm]
 obtain ⟨ff4, fa4, fc4, rfl, fen4, fcl4⟩ := rp4
 show E _ 58 none _ _ _ _ _
 refine E_seq (E_region (EL_mw (.int .i64 (x2)) rfl rfl ?_))
 refine EL_mw (.int .i64 (x1)) rfl rfl ?_
 refine EL_in (.int .i64 ((w64 (x2 - x1)))) rfl rfl rfl rfl ?_
 refine EL_at (.int .i64 ((w64 (x2 - x1)))) rfl rfl ?_
 refine EL_nil (thn_n (E_seq (E_region (EL_mw (.int .i64 (x3)) rfl rfl ?_))))
 refine EL_mw (.int .i64 (x2)) rfl rfl ?_
 refine EL_in (.int .i64 ((w64 (x3 - x2)))) rfl rfl rfl rfl ?_
 refine EL_at (.int .i64 ((w64 (x3 - x2)))) rfl rfl ?_
 refine EL_nil (thn_n ?_)
 obtain ⟨⟨z4, z2⟩, hx, h⟩ := bsome h
 refine E_join (fun e w => ∃ (g : Gh) , FrM iI gI wI g w ∧ e 0 = up0 ∧ OM 1 g w 3 (z4 : List Int) up0 ∧ e 2 = .int .i64 (x2) ∧ e 4 = (.func (.func ff4) fa4 fc4) ∧ e 10 = .int .i64 (z2)) (fun Q' hQ => ?_) (fun m8 v8 hR => ?_)
 ·replace h := hx
  clear hx
  refine E_block ?_
  refine E_lp h (fun (s : (List Int) × Int × Int) e w => ∃ (g : Gh) , FrM iI gI wI g w ∧ e 0 = up0 ∧ OM 1 g w 3 (s.1 : List Int) up0 ∧ e 2 = .int .i64 (x2) ∧ e 4 = (.func (.func ff4) fa4 fc4) ∧ e 10 = .int .i64 (s.2.1) ∧ e 11 = .int .i64 (s.2.2)) ⟨g0, hfr, rfl, mp0, rfl, rfl, rfl, rfl⟩ (fun X12 a7 d7 => ?_)
  rintro ⟨j3, o0, u0⟩ n8 x8 ⟨o7, hfr, x5, i6, j6, v6, z3, i5⟩ h
  refine E_joinC h (fun (s : Unit) e w => ∃ (g : Gh) , FrM iI gI wI g w ∧ e 0 = up0 ∧ OM 1 g w 3 (j3 : List Int) up0 ∧ e 2 = .int .i64 (x2) ∧ e 4 = (.func (.func ff4) fa4 fc4) ∧ e 10 = .int .i64 (o0) ∧ e 11 = .int .i64 (u0)) (fun X15 m7 v7 h => ?_) ?_
  ·refine E_seq (E_region (EL_mv z3 rfl ?_))
   refine EL_mv i5 rfl ?_
   refine EL_in (.bool ((o0 != u0))) rfl rfl rfl rfl ?_
   refine EL_nil (thn_n ?_)
   rcases csome h with ⟨q5, h⟩ | ⟨q5, h⟩
   ·refine E_ct q5 rfl ?_
    exact E_skip (thn_n (v7 () _ _ ⟨o7, hfr, x5, i6, j6, v6, z3, i5⟩ h))
   ·refine E_cf q5 rfl ?_
    refine E_exit ?_
    refine thn_e ?_
    refine thn_e ?_
    refine blk_hit ?_
    obtain ⟨rfl, rfl⟩ := pairs2 h
    exact hQ _ _ ⟨o7, hfr, x5, i6, j6, v6, z3⟩
  ·rintro _ o8 y8 ⟨u7, hfr, o3, x6, i3, u3, j1, d3⟩ h
   refine E_block ?_
   refine E_seq (E_region (EL_mv j1 rfl ?_))
   refine EL_mv d3 rfl ?_
   refine EL_in (.bool ((decide (o0 > u0)))) rfl rfl rfl rfl ?_
   refine EL_nil (thn_n ?_)
   rcases csome h with ⟨t5, h⟩ | ⟨t5, h⟩
   ·refine E_ct t5 rfl ?_
    refine E_seq (E_region (EL_mv o3 rfl ?_))
    refine EL_mv i3 rfl ?_
    refine EL_mv j1 rfl ?_
    refine EL_in (.int .i64 ((w64 (x2 - o0)))) rfl rfl rfl rfl ?_
    refine EL_mv i3 rfl ?_
    refine EL_mv d3 rfl ?_
    refine EL_mv u3 rfl ?_
    obtain ⟨b7, c8, h⟩ := bsome h
    refine EL_do .plain rfl (D_callM (g := u7) (i := 1) (vs := [up0, .int .i64 ((w64 (x2 - o0))), .int .i64 (x2), .int .i64 (u0), (.func (.func ff4) fa4 fc4)]) en159 (.cons rfl (.cons rfl (.cons rfl (.cons rfl (.cons rfl .nil))))) (wk159 x6 (FnV2.ch ⟨_, _, _, rfl, fen4, fcl4⟩ hfr.ch) c8) fun i8 q8 a9 hs hr => ?_)
    obtain ⟨hrv, b19⟩ := hr
    have hfr := hfr.stp hs
    subst hrv
    refine EL_nil (thn_n (E_region (EL_mv j1 rfl ?_)))
    refine EL_mv d3 rfl ?_
    refine EL_in (.int .i64 ((w64 (o0 - u0)))) rfl rfl rfl rfl ?_
    refine EL_at (.int .i64 ((w64 (o0 - u0)))) rfl rfl ?_
    exact EL_nil (blk_n (thn_n (d7 (b7, (w64 (o0 - u0)), u0) _ _ ⟨i8, hfr, o3, b19, i3, u3, rfl, d3⟩ h)))
   ·refine E_cf t5 rfl ?_
    refine E_seq (E_region (EL_mv o3 rfl ?_))
    refine EL_mv i3 rfl ?_
    refine EL_mv j1 rfl ?_
    refine EL_in (.int .i64 ((w64 (x2 - o0)))) rfl rfl rfl rfl ?_
    refine EL_mv i3 rfl ?_
    refine EL_mv d3 rfl ?_
    refine EL_in (.int .i64 ((w64 (x2 + u0)))) rfl rfl rfl rfl ?_
    refine EL_mv j1 rfl ?_
    refine EL_in (.int .i64 ((w64 ((w64 (x2 + u0)) - o0)))) rfl rfl rfl rfl ?_
    refine EL_mv j1 rfl ?_
    refine EL_mv u3 rfl ?_
    obtain ⟨c7, e8, h⟩ := bsome h
    refine EL_do .plain rfl (D_callM (g := u7) (i := 1) (vs := [up0, .int .i64 ((w64 (x2 - o0))), .int .i64 ((w64 ((w64 (x2 + u0)) - o0))), .int .i64 (o0), (.func (.func ff4) fa4 fc4)]) en159 (.cons rfl (.cons rfl (.cons rfl (.cons rfl (.cons rfl .nil))))) (wk159 x6 (FnV2.ch ⟨_, _, _, rfl, fen4, fcl4⟩ hfr.ch) e8) fun k8 r8 d9 hs hr => ?_)
    obtain ⟨hrv, b21⟩ := hr
    have hfr := hfr.stp hs
    subst hrv
    refine EL_nil (thn_n (E_region (EL_mv d3 rfl ?_)))
    refine EL_mv j1 rfl ?_
    refine EL_in (.int .i64 ((w64 (u0 - o0)))) rfl rfl rfl rfl ?_
    refine EL_at (.int .i64 ((w64 (u0 - o0)))) rfl rfl ?_
    exact EL_nil (blk_n (thn_n (d7 (c7, o0, (w64 (u0 - o0))) _ _ ⟨k8, hfr, o3, b21, i3, u3, j1, rfl⟩ h)))
 ·clear hx
  obtain ⟨l8, hfr, g7, i7, y6, j7, l5⟩ := hR
  refine E_region (EL_mv g7 rfl ?_)
  refine EL_mv y6 rfl ?_
  refine EL_mv l5 rfl ?_
  refine EL_in (.int .i64 ((w64 (x2 - z2)))) rfl rfl rfl rfl ?_
  refine EL_mv y6 rfl ?_
  refine EL_mv l5 rfl ?_
  refine EL_mv j7 rfl ?_
  obtain ⟨n7, g8, h⟩ := bsome h
  refine EL_do .plain rfl (D_callM (g := l8) (i := 1) (vs := [up0, .int .i64 ((w64 (x2 - z2))), .int .i64 (x2), .int .i64 (z2), (.func (.func ff4) fa4 fc4)]) en159 (.cons rfl (.cons rfl (.cons rfl (.cons rfl (.cons rfl .nil))))) (wk159 i7 (FnV2.ch ⟨_, _, _, rfl, fen4, fcl4⟩ hfr.ch) g8) fun e9 t8 i9 hs hr => ?_)
  obtain ⟨hrv, b24⟩ := hr
  have hfr := hfr.stp hs
  subst hrv
  refine EL_nil ?_
  obtain rfl := sinj h
  exact end0n rfl rfl ⟨_, hfr, rfl, e7.back b24⟩
def f150 (x0 : List (List Int)) (x1 : (List Int) → Option Bool) : Option (Bool) :=
 (f162 x0 x1).bind fun y2 =>
 some ((decide (y2 ≥ (0 : Int))))
theorem en150 : Enters Tryz.prog 150 := enters_of Tryz.func150 (by kernel_rfl) rfl
theorem wk150 {gI : Gh} {wI : World} {x0 : List (List Int)} {x1 : (List Int) → Option Bool} {up0 : Value} (rp0 : RV gI.m wI x0 up0) {up1 : Value} (rp1 : FnV1 Tryz.prog x1 up1 gI wI) {r : Bool} (h : f150 x0 x1 = some r) : Fn Tryz.prog 150 #[up0, up1] gI wI (fun _ _ v => v = .bool (r)) := by
 unfold f150 at h
 refine fn_of_E Tryz.func150 rfl (Nat.le_of_ble_eq_true rfl) fun g0 hm hfr => ?_
 have rp0 : RV g0.m wI x0 up0 := hm ▸ rp0
 obtain ⟨ff1, fa1, fc1, rfl, fen1, fcl1⟩ := rp1
 show E _ 9 none _ _ _ _ _
 refine E_seq (E_region (EL_at (.bool false) rfl rfl ?_))
 refine EL_nil (thn_n (E_seq (E_region (EL_mw up0 rfl rfl ?_))))
 refine EL_mw ((.func (.func ff1) fa1 fc1)) rfl rfl ?_
 obtain ⟨y2, hy2, h⟩ := bsome h
 refine EL_do .plain rfl (D_call (g := g0) (vs := [up0, (.func (.func ff1) fa1 fc1)]) en162 (.cons rfl (.cons rfl .nil)) (wk162 rp0 (FnV1.ch ⟨_, _, _, rfl, fen1, fcl1⟩ hfr.ch) hy2) fun g1 w1_ v1 hs hr => ?_)
 have hfr := hfr.ext hs
 subst hr
 refine EL_in (.bool ((decide (y2 ≥ (0 : Int))))) rfl rfl rfl rfl ?_
 refine EL_at (.bool ((decide (y2 ≥ (0 : Int))))) rfl rfl ?_
 refine EL_nil (thn_n (E_ret ?_))
 obtain rfl := sinj h
 exact end1 rfl rfl (show _ = .bool ((decide (y2 ≥ (0 : Int)))) from rfl) ⟨_, hfr, rfl⟩
def f160 (x0 : List FaultDamage) (x1 : Int) (x2 : Int) (x3 : Int) (x4 : FaultDamage → FaultDamage → Option Int) : Option ((List FaultDamage)) :=
 Option.bind (α := (List FaultDamage) × Int) (
  lp (σ := (List FaultDamage) × Int × Int) (fun a7 (j3, o0, u0) =>
   jn (σ := Unit) (fun _ =>
    bif (decide (o0 > u0)) then
     (f164 j3 ((w64 (x2 - o0))) x2 u0 x4).bind fun b7 =>
     a7 (b7, (w64 (o0 - u0)), u0)
    else
     (f164 j3 ((w64 (x2 - o0))) ((w64 ((w64 (x2 + u0)) - o0))) o0 x4).bind fun c7 =>
     a7 (c7, o0, (w64 (u0 - o0)))
    ) fun m7 =>
   bif (o0 != u0) then
    m7 ()
   else
    some (j3, o0)
   ) big (x0, (w64 (x2 - x1)), (w64 (x3 - x2)))
  ) fun (z4, z2) =>
 (f164 z4 ((w64 (x2 - z2))) x2 z2 x4).bind fun n7 =>
 some (n7)
theorem en160 : Enters Tryz.prog 160 := enters_of Tryz.func160 (by kernel_rfl) rfl
theorem wk160 {iI : Nat} {gI : Gh} {wI : World} {x0 : List FaultDamage} {x1 : Int} {x2 : Int} {x3 : Int} {x4 : FaultDamage → FaultDamage → Option Int} {up0 : Value} (mp0 : OM iI gI wI 39 x0 up0) {up4 : Value} (rp4 : FnV2 Tryz.prog x4 up4 gI wI) {r : (List FaultDamage)} (h : f160 x0 x1 x2 x3 x4 = some r) : FnM Tryz.prog 160 #[up0, .int .i64 (x1), .int .i64 (x2), .int .i64 (x3), up4] iI gI wI (fun g w v => v = .tuple #[] ∧ OM iI g w 39 r up0) := by
 unfold f160 at h
 refine fnM_of_E Tryz.func160 rfl (Nat.le_of_ble_eq_true rfl) fun g0 hm hfr => ?_
 have e7 := mp0
 replace mp0 := mp0.enter
 rw [← hm] at mp0
 replace hm : g0.m = gI.m := by rw [hm]
 obtain ⟨ff4, fa4, fc4, rfl, fen4, fcl4⟩ := rp4
 show E _ 58 none _ _ _ _ _
 refine E_seq (E_region (EL_mw (.int .i64 (x2)) rfl rfl ?_))
 refine EL_mw (.int .i64 (x1)) rfl rfl ?_
 refine EL_in (.int .i64 ((w64 (x2 - x1)))) rfl rfl rfl rfl ?_
 refine EL_at (.int .i64 ((w64 (x2 - x1)))) rfl rfl ?_
 refine EL_nil (thn_n (E_seq (E_region (EL_mw (.int .i64 (x3)) rfl rfl ?_))))
 refine EL_mw (.int .i64 (x2)) rfl rfl ?_
 refine EL_in (.int .i64 ((w64 (x3 - x2)))) rfl rfl rfl rfl ?_
 refine EL_at (.int .i64 ((w64 (x3 - x2)))) rfl rfl ?_
 refine EL_nil (thn_n ?_)
 obtain ⟨⟨z4, z2⟩, hx, h⟩ := bsome h
 refine E_join (fun e w => ∃ (g : Gh) , FrM iI gI wI g w ∧ e 0 = up0 ∧ OM 1 g w 39 (z4 : List FaultDamage) up0 ∧ e 2 = .int .i64 (x2) ∧ e 4 = (.func (.func ff4) fa4 fc4) ∧ e 10 = .int .i64 (z2)) (fun Q' hQ => ?_) (fun m8 v8 hR => ?_)
 ·replace h := hx
  clear hx
  refine E_block ?_
  refine E_lp h (fun (s : (List FaultDamage) × Int × Int) e w => ∃ (g : Gh) , FrM iI gI wI g w ∧ e 0 = up0 ∧ OM 1 g w 39 (s.1 : List FaultDamage) up0 ∧ e 2 = .int .i64 (x2) ∧ e 4 = (.func (.func ff4) fa4 fc4) ∧ e 10 = .int .i64 (s.2.1) ∧ e 11 = .int .i64 (s.2.2)) ⟨g0, hfr, rfl, mp0, rfl, rfl, rfl, rfl⟩ (fun X12 a7 d7 => ?_)
  rintro ⟨j3, o0, u0⟩ n8 x8 ⟨o7, hfr, x5, i6, j6, v6, z3, i5⟩ h
  refine E_joinC h (fun (s : Unit) e w => ∃ (g : Gh) , FrM iI gI wI g w ∧ e 0 = up0 ∧ OM 1 g w 39 (j3 : List FaultDamage) up0 ∧ e 2 = .int .i64 (x2) ∧ e 4 = (.func (.func ff4) fa4 fc4) ∧ e 10 = .int .i64 (o0) ∧ e 11 = .int .i64 (u0)) (fun X15 m7 v7 h => ?_) ?_
  ·refine E_seq (E_region (EL_mv z3 rfl ?_))
   refine EL_mv i5 rfl ?_
   refine EL_in (.bool ((o0 != u0))) rfl rfl rfl rfl ?_
   refine EL_nil (thn_n ?_)
   rcases csome h with ⟨q5, h⟩ | ⟨q5, h⟩
   ·refine E_ct q5 rfl ?_
    exact E_skip (thn_n (v7 () _ _ ⟨o7, hfr, x5, i6, j6, v6, z3, i5⟩ h))
   ·refine E_cf q5 rfl ?_
    refine E_exit ?_
    refine thn_e ?_
    refine thn_e ?_
    refine blk_hit ?_
    obtain ⟨rfl, rfl⟩ := pairs2 h
    exact hQ _ _ ⟨o7, hfr, x5, i6, j6, v6, z3⟩
  ·rintro _ o8 y8 ⟨u7, hfr, o3, x6, i3, u3, j1, d3⟩ h
   refine E_block ?_
   refine E_seq (E_region (EL_mv j1 rfl ?_))
   refine EL_mv d3 rfl ?_
   refine EL_in (.bool ((decide (o0 > u0)))) rfl rfl rfl rfl ?_
   refine EL_nil (thn_n ?_)
   rcases csome h with ⟨t5, h⟩ | ⟨t5, h⟩
   ·refine E_ct t5 rfl ?_
    refine E_seq (E_region (EL_mv o3 rfl ?_))
    refine EL_mv i3 rfl ?_
    refine EL_mv j1 rfl ?_
    refine EL_in (.int .i64 ((w64 (x2 - o0)))) rfl rfl rfl rfl ?_
    refine EL_mv i3 rfl ?_
    refine EL_mv d3 rfl ?_
    refine EL_mv u3 rfl ?_
    obtain ⟨b7, c8, h⟩ := bsome h
    refine EL_do .plain rfl (D_callM (g := u7) (i := 1) (vs := [up0, .int .i64 ((w64 (x2 - o0))), .int .i64 (x2), .int .i64 (u0), (.func (.func ff4) fa4 fc4)]) en164 (.cons rfl (.cons rfl (.cons rfl (.cons rfl (.cons rfl .nil))))) (wk164 x6 (FnV2.ch ⟨_, _, _, rfl, fen4, fcl4⟩ hfr.ch) c8) fun i8 q8 a9 hs hr => ?_)
    obtain ⟨hrv, b19⟩ := hr
    have hfr := hfr.stp hs
    subst hrv
    refine EL_nil (thn_n (E_region (EL_mv j1 rfl ?_)))
    refine EL_mv d3 rfl ?_
    refine EL_in (.int .i64 ((w64 (o0 - u0)))) rfl rfl rfl rfl ?_
    refine EL_at (.int .i64 ((w64 (o0 - u0)))) rfl rfl ?_
    exact EL_nil (blk_n (thn_n (d7 (b7, (w64 (o0 - u0)), u0) _ _ ⟨i8, hfr, o3, b19, i3, u3, rfl, d3⟩ h)))
   ·refine E_cf t5 rfl ?_
    refine E_seq (E_region (EL_mv o3 rfl ?_))
    refine EL_mv i3 rfl ?_
    refine EL_mv j1 rfl ?_
    refine EL_in (.int .i64 ((w64 (x2 - o0)))) rfl rfl rfl rfl ?_
    refine EL_mv i3 rfl ?_
    refine EL_mv d3 rfl ?_
    refine EL_in (.int .i64 ((w64 (x2 + u0)))) rfl rfl rfl rfl ?_
    refine EL_mv j1 rfl ?_
    refine EL_in (.int .i64 ((w64 ((w64 (x2 + u0)) - o0)))) rfl rfl rfl rfl ?_
    refine EL_mv j1 rfl ?_
    refine EL_mv u3 rfl ?_
    obtain ⟨c7, e8, h⟩ := bsome h
    refine EL_do .plain rfl (D_callM (g := u7) (i := 1) (vs := [up0, .int .i64 ((w64 (x2 - o0))), .int .i64 ((w64 ((w64 (x2 + u0)) - o0))), .int .i64 (o0), (.func (.func ff4) fa4 fc4)]) en164 (.cons rfl (.cons rfl (.cons rfl (.cons rfl (.cons rfl .nil))))) (wk164 x6 (FnV2.ch ⟨_, _, _, rfl, fen4, fcl4⟩ hfr.ch) e8) fun k8 r8 d9 hs hr => ?_)
    obtain ⟨hrv, b21⟩ := hr
    have hfr := hfr.stp hs
    subst hrv
    refine EL_nil (thn_n (E_region (EL_mv d3 rfl ?_)))
    refine EL_mv j1 rfl ?_
    refine EL_in (.int .i64 ((w64 (u0 - o0)))) rfl rfl rfl rfl ?_
    refine EL_at (.int .i64 ((w64 (u0 - o0)))) rfl rfl ?_
    exact EL_nil (blk_n (thn_n (d7 (c7, o0, (w64 (u0 - o0))) _ _ ⟨k8, hfr, o3, b21, i3, u3, j1, rfl⟩ h)))
 ·clear hx
  obtain ⟨l8, hfr, g7, i7, y6, j7, l5⟩ := hR
  refine E_region (EL_mv g7 rfl ?_)
  refine EL_mv y6 rfl ?_
  refine EL_mv l5 rfl ?_
  refine EL_in (.int .i64 ((w64 (x2 - z2)))) rfl rfl rfl rfl ?_
  refine EL_mv y6 rfl ?_
  refine EL_mv l5 rfl ?_
  refine EL_mv j7 rfl ?_
  obtain ⟨n7, g8, h⟩ := bsome h
  refine EL_do .plain rfl (D_callM (g := l8) (i := 1) (vs := [up0, .int .i64 ((w64 (x2 - z2))), .int .i64 (x2), .int .i64 (z2), (.func (.func ff4) fa4 fc4)]) en164 (.cons rfl (.cons rfl (.cons rfl (.cons rfl (.cons rfl .nil))))) (wk164 i7 (FnV2.ch ⟨_, _, _, rfl, fen4, fcl4⟩ hfr.ch) g8) fun e9 t8 i9 hs hr => ?_)
  obtain ⟨hrv, b24⟩ := hr
  have hfr := hfr.stp hs
  subst hrv
  refine EL_nil ?_
  obtain rfl := sinj h
  exact end0n rfl rfl ⟨_, hfr, rfl, e7.back b24⟩
def f45 (x0 : Int) (x1 : Int) (x2 : List Int) : Option (Bool) :=
 (f76 x2 ((fun a0 => f77 a0 x0 x1))).bind fun y4 =>
 some ((!y4))
theorem en45 : Enters Tryz.prog 45 := enters_of Tryz.func45 (by kernel_rfl) rfl
theorem wk45 {gI : Gh} {wI : World} {x0 : Int} {x1 : Int} {x2 : List Int} {up2 : Value} (rp2 : RV gI.m wI x2 up2) {r : Bool} (h : f45 x0 x1 x2 = some r) : Fn Tryz.prog 45 #[.int .i64 (x0), .int .i64 (x1), up2] gI wI (fun _ _ v => v = .bool (r)) := by
 unfold f45 at h
 refine fn_of_E Tryz.func45 rfl (Nat.le_of_ble_eq_true rfl) fun g0 hm hfr => ?_
 have rp2 : RV g0.m wI x2 up2 := hm ▸ rp2
 show E _ 11 none _ _ _ _ _
 refine E_seq (E_region (EL_do .plain rfl (D_box (g := g0) rfl (RV_int.2 rfl) fun g1 w1 p1 hs q1 => ?_)))
 have hfr := hfr.ext hs
 have rp2 := rp2.ext hs
 refine EL_do .plain rfl (D_box (g := g1) rfl (RV_int.2 rfl) fun g2 w2 p2 hs q2 => ?_)
 have hfr := hfr.ext hs
 have rp2 := rp2.ext hs
 have q1 := q1.ext hs
 refine EL_at (.bool false) rfl rfl ?_
 refine EL_nil (thn_n (E_seq (E_region (EL_mw up2 rfl rfl ?_))))
 refine EL_p ((.func (.func 77) #[] #[p1, p2])) (P_makeFunc (capf_0_2 (show ev _ _ = p1 from rfl) (show ev _ _ = p2 from rfl))) rfl ?_
 obtain ⟨y4, o0, h⟩ := bsome h
 refine EL_do .plain rfl (D_call (g := g2) (vs := [up2, (.func (.func 77) #[] #[p1, p2])]) en76 (.cons rfl (.cons rfl .nil)) (wk76 rp2 ⟨77, #[], #[p1, p2], rfl, en77, fun g' w' hch a0 b0 r hu0 hr => by obtain rfl := RV_int.1 hu0; exact Fn.mono (wk77  (q1.ch hch) (q2.ch hch) hr) fun _ _ _ h => RV_bool.2 h⟩ o0) fun g3 w3_ v3 hs hr => ?_)
 have hfr := hfr.ext hs
 subst hr
 refine EL_p (.bool (!y4)) (P_not rfl) rfl ?_
 refine EL_at (.bool (!y4)) rfl rfl ?_
 refine EL_nil (thn_n (E_ret ?_))
 obtain rfl := sinj h
 exact end1 rfl rfl (show _ = .bool (!y4) from rfl) ⟨_, hfr, rfl⟩
def f47 (x0 : Int) (x1 : Int) (z0 : Int) (z1 : List Int) (z2 : Int) : Option (Int) :=
 (idx z1 x1).bind fun y3 =>
 (rem64 (w64 (z0 * y3)) z2).bind fun y7 =>
 (idx z1 x0).bind fun u0 =>
 (rem64 (w64 (z0 * u0)) z2).bind fun j1 =>
 (f48 y7 j1).bind fun o0 =>
 some (o0)
theorem en47 : Enters Tryz.prog 47 := enters_of Tryz.func47 (by kernel_rfl) rfl
theorem wk47 {gI : Gh} {wI : World} {x0 : Int} {x1 : Int} {z0 : Int} {z1 : List Int} {z2 : Int} {pf0 : Value} (qf0 : PT gI.m wI z0 pf0) {pf1 : Value} (qf1 : PT gI.m wI z1 pf1) {pf2 : Value} (qf2 : PT gI.m wI z2 pf2) {r : Int} (h : f47 x0 x1 z0 z1 z2 = some r) : Fn Tryz.prog 47 #[.int .i64 (x0), .int .i64 (x1), pf0, pf1, pf2] gI wI (fun _ _ v => v = .int .i64 (r)) := by
 unfold f47 at h
 refine fn_of_E Tryz.func47 rfl (Nat.le_of_ble_eq_true rfl) fun g0 hm hfr => ?_
 have qf0 : PT g0.m wI z0 pf0 := hm ▸ qf0
 have qf1 : PT g0.m wI z1 pf1 := hm ▸ qf1
 have qf2 : PT g0.m wI z2 pf2 := hm ▸ qf2
 show E _ 25 none _ _ _ _ _
 refine E_seq (E_region (EL_at (.int .i64 (0)) rfl rfl ?_))
 refine EL_nil (thn_n (E_seq (L_load (x := .tmp 2) Tryz.isAgg3 Tryz.sizeOf3 qf0 fun v1 r1 hl1 => ?_)))
 obtain rfl := RV_int.1 r1
 refine L_load (x := .tmp 3) Tryz.isAgg25 Tryz.sizeOf25 qf1 fun v2 r2 hl2 => ?_
 obtain ⟨y3, hy3, h⟩ := bsome h
 have q4 := PT_idx r2 hy3
 refine L_load (x := .tmp 11) Tryz.isAgg3 Tryz.sizeOf3 q4 fun v5 r5 u3 => ?_
 obtain rfl := RV_int.1 r5
 refine L_load (x := .tmp 4) Tryz.isAgg3 Tryz.sizeOf3 qf2 fun v6 r6 z3 => ?_
 obtain rfl := RV_int.1 r6
 obtain ⟨y7, z4, h⟩ := bsome h
 refine L_load (x := .tmp 2) Tryz.isAgg3 Tryz.sizeOf3 qf0 fun v8 r8 i5 => ?_
 obtain rfl := RV_int.1 r8
 refine L_load (x := .tmp 3) Tryz.isAgg25 Tryz.sizeOf25 qf1 fun v9 r9 l5 => ?_
 obtain ⟨u0, d3, h⟩ := bsome h
 have q5 := PT_idx r9 d3
 refine L_load (x := .tmp 19) Tryz.isAgg3 Tryz.sizeOf3 q5 fun i6 t5 hl12 => ?_
 obtain rfl := RV_int.1 t5
 refine L_load (x := .tmp 4) Tryz.isAgg3 Tryz.sizeOf3 qf2 fun j6 x5 i3 => ?_
 obtain rfl := RV_int.1 x5
 obtain ⟨j1, j3, h⟩ := bsome h
 obtain ⟨o0, o3, h⟩ := bsome h
 refine E_drawL (g := g0) (n := 18) [(16, (fun v g w => v = .int .i64 (o0)))] [0, 1, 2, 3, 4, 5, 6, 7, 8, 9, 10, 11, 12, 13, 14, 15, 16, 17] rfl mixed (by kernel_rfl) (⟨fun _ => up_eq _, trivial⟩) ?_
 refine L_ld (c := .int .i64 (z0)) rfl rfl .plain (fun _ _ h => h.ch) hl1 rfl ?_
 refine L_ld (c := v2) rfl rfl .plain (fun _ _ h => h.ch) hl2 rfl ?_
 refine L_p (.int .i64 (x1)) rfl rfl (P_move rfl) ?_
 refine L_p (ePtr v2 x1 1) rfl rfl (P_indexAddr (α := Int) Tryz.underlying25 Tryz.sizeOf3 rfl r2 rfl hy3) ?_
 refine L_ld (c := .int .i64 (y3)) rfl rfl .plain (fun _ _ h => h.ch) u3 rfl ?_
 refine L_p (.int .i64 ((w64 (z0 * y3)))) rfl rfl (P_int rfl rfl rfl) ?_
 refine L_ld (c := .int .i64 (z2)) rfl rfl .plain (fun _ _ h => h.ch) z3 rfl ?_
 refine L_p (.int .i64 (y7)) rfl rfl (P_int rfl rfl (congrArg (Option.map (Value.int .i64)) z4)) ?_
 refine L_ld (c := .int .i64 (z0)) rfl rfl .plain (fun _ _ h => h.ch) i5 rfl ?_
 refine L_ld (c := v9) rfl rfl .plain (fun _ _ h => h.ch) l5 rfl ?_
 refine L_p (.int .i64 (x0)) rfl rfl (P_move rfl) ?_
 refine L_p (ePtr v9 x0 1) rfl rfl (P_indexAddr (α := Int) Tryz.underlying25 Tryz.sizeOf3 rfl r9 rfl d3) ?_
 refine L_ld (c := .int .i64 (u0)) rfl rfl .plain (fun _ _ h => h.ch) hl12 rfl ?_
 refine L_p (.int .i64 ((w64 (z0 * u0)))) rfl rfl (P_int rfl rfl rfl) ?_
 refine L_ld (c := .int .i64 (z2)) rfl rfl .plain (fun _ _ h => h.ch) i3 rfl ?_
 refine L_p (.int .i64 (j1)) rfl rfl (P_int rfl rfl (congrArg (Option.map (Value.int .i64)) j3)) ?_
 refine L_do (φ := fun v g w => v = .int .i64 (o0)) rfl rfl .plain (fun g w hd => D_call (g := g) (vs := [.int .i64 (y7), .int .i64 (j1)]) en48 (.cons rfl (.cons rfl .nil)) (wk48  o3) fun g' w' v hs hr => ⟨g', hs, hr⟩) (fun x6 hv => ?_)
 obtain ⟨_, _, _, rfl⟩ := hv
 refine L_p (.int .i64 (o0)) rfl rfl (P_assign rfl) ?_
 refine L_nl fun y6 a7 hs => ?_
 have hfr := hfr.ext hs
 clear hs
 refine EL_nil (thn_n (E_ret ?_))
 obtain rfl := sinj h
 exact end1 rfl rfl (show _ = .int .i64 (o0) from rfl) ⟨_, hfr, rfl⟩
def f50 (x0 : TieHarness) : Option (Int) :=
 jn (σ := Unit) (fun _ =>
  some ((0 : Int))
  ) fun o3 =>
 (f82 ((1 : Int)) ((24 : Int)) (([(x0).Hooks] : List Int))).bind fun i3 =>
 bif (!i3) then
  some ((2 : Int))
 else
  bif (decide ((((x0).Warps).length : Int) > (96 : Int))) then
   some ((5 : Int))
  else
   bif ((((x0).Warps).length : Int) == (0 : Int)) then
    some ((7 : Int))
   else
    (f82 ((0 : Int)) ((w64 ((x0).Hooks - (1 : Int)))) ((x0).Warps)).bind fun j3 =>
    bif (!j3) then
     some ((2 : Int))
    else
     o3 ()
theorem en50 : Enters Tryz.prog 50 := enters_of Tryz.func50 (by kernel_rfl) rfl
theorem wk50 {gI : Gh} {wI : World} {x0 : TieHarness} {up0 : Value} (rp0 : RV gI.m wI x0 up0) {r : Int} (h : f50 x0 = some r) : Fn Tryz.prog 50 #[up0] gI wI (fun _ _ v => v = .int .i64 (r)) := by
 unfold f50 at h
 refine fn_of_E Tryz.func50 rfl (Nat.le_of_ble_eq_true rfl) fun g0 hm hfr => ?_
 have rp0 : RV g0.m wI x0 up0 := hm ▸ rp0
 show E _ 27 none _ _ _ _ _
 refine E_seq (E_region (EL_do .plain rfl (D_box (g := g0) rfl rp0 fun g1 w1 p1 hs q1 => ?_)))
 have hfr := hfr.ext hs
 refine EL_at (.int .i64 (0)) rfl rfl ?_
 refine EL_nil (thn_n (E_joinC h (fun (s : Unit) e w => ∃ (g : Gh) , Fr gI wI g w) (fun X21 o3 u3 h => ?_) ?_))
 ·refine E_block ?_
  refine E_seq (E_region (EL_p (fPtr p1 0) (P_fieldAddr at_27_0 rfl (PT.ptr q1)) rfl ?_))
  have i5 := PT_field (part_TieHarness_0).1 q1
  refine EL_do .plain rfl (D_load (g := g1) Tryz.isAgg3 Tryz.sizeOf3 rfl i5 fun m7 l5 => ?_)
  obtain rfl := RV_int.1 l5
  refine EL_do .plain rfl (D_buildSlice (g := g1) 3006 (xs := ([(x0).Hooks] : List Int)) (vs := [.int .i64 ((x0).Hooks)]) Tryz.underlying25 Tryz.sizeOf3 Tryz.zeroValue3 rfl rfl (.cons rfl .nil) (RVs.cons (RV_int.2 rfl) RVs.nil) rfl rfl fun q5 n7 t5 hs o24 x5 hxt hfl => ?_)
  have hfr := hfr.stp hs
  have q1 := q1.stp hs
  obtain ⟨i3, z3, h⟩ := bsome h
  refine EL_do .plain rfl (D_call (g := q5) (vs := [.int .i64 (1), .int .i64 (24), t5]) en82 (.cons rfl (.cons rfl (.cons rfl .nil))) (wk82 x5 z3) fun o0 g7 o7 hs hr => ?_)
  have hfr := hfr.ext hs
  have q1 := q1.ext hs
  subst hr
  refine EL_p (.bool (!i3)) (P_not rfl) rfl ?_
  refine EL_at (.bool (!i3)) rfl rfl ?_
  refine EL_nil (thn_n ?_)
  rcases csome h with ⟨u0, h⟩ | ⟨u0, h⟩
  ·refine E_ct u0 rfl ?_
   refine E_seq (E_region (EL_at (.int .i64 (2)) rfl rfl ?_))
   refine EL_nil (thn_n (E_ret (blk_r ?_)))
   refine thn_r ?_
   obtain rfl := sinj h
   exact end1 rfl rfl (show _ = .int .i64 (2) from rfl) ⟨_, hfr, rfl⟩
  ·refine E_cf u0 rfl ?_
   refine E_seq (E_region (EL_p (fPtr p1 1) (P_fieldAddr at_27_1 rfl (PT.ptr q1)) rfl ?_))
   have i6 := PT_field (part_TieHarness_1).1 q1
   refine EL_do .plain rfl (D_load (g := o0) Tryz.isAgg25 Tryz.sizeOf25 rfl i6 fun u7 j6 => ?_)
   refine EL_p (.int .i64 (((x0).Warps).length : Int)) (P_len Tryz.underlying25 rfl j6) rfl ?_
   refine EL_p (.bool ((decide ((((x0).Warps).length : Int) > (96 : Int))))) (P_int rfl rfl rfl) rfl ?_
   refine EL_p (.bool ((decide ((((x0).Warps).length : Int) > (96 : Int))))) (P_assign rfl) rfl ?_
   refine EL_nil (thn_n ?_)
   rcases csome h with ⟨j1, h⟩ | ⟨j1, h⟩
   ·refine E_ct j1 rfl ?_
    refine E_seq (E_region (EL_at (.int .i64 (5)) rfl rfl ?_))
    refine EL_nil (thn_n (E_ret (blk_r ?_)))
    refine thn_r ?_
    obtain rfl := sinj h
    exact end1 rfl rfl (show _ = .int .i64 (5) from rfl) ⟨_, hfr, rfl⟩
   ·refine E_cf j1 rfl ?_
    refine E_seq (E_region (EL_p (fPtr p1 1) (P_fieldAddr at_27_1 rfl (PT.ptr q1)) rfl ?_))
    have v6 := PT_field (part_TieHarness_1).1 q1
    refine EL_do .plain rfl (D_load (g := o0) Tryz.isAgg25 Tryz.sizeOf25 rfl v6 fun v7 x6 => ?_)
    refine EL_p (.int .i64 (((x0).Warps).length : Int)) (P_len Tryz.underlying25 rfl x6) rfl ?_
    refine EL_in (.bool (((((x0).Warps).length : Int) == (0 : Int)))) rfl rfl rfl rfl ?_
    refine EL_at (.bool (((((x0).Warps).length : Int) == (0 : Int)))) rfl rfl ?_
    refine EL_nil (thn_n ?_)
    rcases csome h with ⟨z2, h⟩ | ⟨z2, h⟩
    ·refine E_ct z2 rfl ?_
     refine E_seq (E_region (EL_at (.int .i64 (7)) rfl rfl ?_))
     refine EL_nil (thn_n (E_ret (blk_r ?_)))
     refine thn_r ?_
     obtain rfl := sinj h
     exact end1 rfl rfl (show _ = .int .i64 (7) from rfl) ⟨_, hfr, rfl⟩
    ·refine E_cf z2 rfl ?_
     refine E_seq (E_region (EL_p (fPtr p1 0) (P_fieldAddr at_27_0 rfl (PT.ptr q1)) rfl ?_))
     have y6 := PT_field (part_TieHarness_0).1 q1
     refine EL_do .plain rfl (D_load (g := o0) Tryz.isAgg3 Tryz.sizeOf3 rfl y6 fun c8 a7 => ?_)
     obtain rfl := RV_int.1 a7
     refine EL_in (.int .i64 ((w64 ((x0).Hooks - (1 : Int))))) rfl rfl rfl rfl ?_
     refine EL_p (fPtr p1 1) (P_fieldAddr at_27_1 rfl (PT.ptr q1)) rfl ?_
     have b7 := PT_field (part_TieHarness_1).1 q1
     refine EL_do .plain rfl (D_load (g := o0) Tryz.isAgg25 Tryz.sizeOf25 rfl b7 fun c7 d7 => ?_)
     obtain ⟨j3, z4, h⟩ := bsome h
     refine EL_do .plain rfl (D_call (g := o0) (vs := [.int .i64 (0), .int .i64 ((w64 ((x0).Hooks - (1 : Int)))), c7]) en82 (.cons rfl (.cons rfl (.cons rfl .nil))) (wk82 d7 z4) fun e7 i7 e8 hs hr => ?_)
     have hfr := hfr.ext hs
     subst hr
     refine EL_p (.bool (!j3)) (P_not rfl) rfl ?_
     refine EL_at (.bool (!j3)) rfl rfl ?_
     refine EL_nil (thn_n ?_)
     rcases csome h with ⟨d3, h⟩ | ⟨d3, h⟩
     ·refine E_ct d3 rfl ?_
      refine E_seq (E_region (EL_at (.int .i64 (2)) rfl rfl ?_))
      refine EL_nil (thn_n (E_ret (blk_r ?_)))
      refine thn_r ?_
      obtain rfl := sinj h
      exact end1 rfl rfl (show _ = .int .i64 (2) from rfl) ⟨_, hfr, rfl⟩
     ·refine E_cf d3 rfl ?_
      exact E_skip (blk_n (thn_n (u3 () _ _ ⟨e7, hfr⟩ h)))
 ·rintro _ j7 g8 ⟨i8, hfr⟩ h
  refine E_seq (E_region (EL_at (.int .i64 (0)) rfl rfl ?_))
  refine EL_nil (thn_n (E_ret ?_))
  obtain rfl := sinj h
  exact end1 rfl rfl (show _ = .int .i64 (0) from rfl) ⟨_, hfr, rfl⟩
def f51 (x0 : Design) : Option (Int) :=
 jn (σ := Unit) (fun _ =>
  some ((0 : Int))
  ) fun o3 =>
 (f83 ((1 : Int)) ((24 : Int)) (([(x0).Hooks] : List Int))).bind fun i3 =>
 bif (!i3) then
  some ((2 : Int))
 else
  bif (decide ((((x0).Rows).length : Int) > (60 : Int))) then
   some ((5 : Int))
  else
   bif ((((x0).Rows).length : Int) == (0 : Int)) then
    some ((7 : Int))
   else
    (shl64 (1 : Int) (x0).Hooks).bind fun u0 =>
    (f83 ((0 : Int)) ((w64 (u0 - (1 : Int)))) ((x0).Rows)).bind fun y71 =>
    bif (!y71) then
     some ((2 : Int))
    else
     o3 ()
theorem en51 : Enters Tryz.prog 51 := enters_of Tryz.func51 (by kernel_rfl) rfl
theorem wk51 {gI : Gh} {wI : World} {x0 : Design} {up0 : Value} (rp0 : RV gI.m wI x0 up0) {r : Int} (h : f51 x0 = some r) : Fn Tryz.prog 51 #[up0] gI wI (fun _ _ v => v = .int .i64 (r)) := by
 unfold f51 at h
 refine fn_of_E Tryz.func51 rfl (Nat.le_of_ble_eq_true rfl) fun g0 hm hfr => ?_
 have rp0 : RV g0.m wI x0 up0 := hm ▸ rp0
 show E _ 28 none _ _ _ _ _
 refine E_seq (E_region (EL_do .plain rfl (D_box (g := g0) rfl rp0 fun g1 w1 p1 hs q1 => ?_)))
 have hfr := hfr.ext hs
 refine EL_at (.int .i64 (0)) rfl rfl ?_
 refine EL_nil (thn_n (E_joinC h (fun (s : Unit) e w => ∃ (g : Gh) , Fr gI wI g w) (fun X51 o3 z3 h => ?_) ?_))
 ·refine E_block ?_
  refine E_seq (E_region (EL_p (fPtr p1 0) (P_fieldAddr at_29_0 rfl (PT.ptr q1)) rfl ?_))
  have x5 := PT_field (part_Design_0).1 q1
  refine EL_do .plain rfl (D_load (g := g1) Tryz.isAgg3 Tryz.sizeOf3 rfl x5 fun v7 i6 => ?_)
  obtain rfl := RV_int.1 i6
  refine EL_do .plain rfl (D_buildSlice (g := g1) 3006 (xs := ([(x0).Hooks] : List Int)) (vs := [.int .i64 ((x0).Hooks)]) Tryz.underlying25 Tryz.sizeOf3 Tryz.zeroValue3 rfl rfl (.cons rfl .nil) (RVs.cons (RV_int.2 rfl) RVs.nil) rfl rfl fun j6 c8 v6 hs o54 x6 hxt hfl => ?_)
  have hfr := hfr.stp hs
  have q1 := q1.stp hs
  obtain ⟨i3, z4, h⟩ := bsome h
  refine EL_do .plain rfl (D_call (g := j6) (vs := [.int .i64 (1), .int .i64 (24), v6]) en83 (.cons rfl (.cons rfl (.cons rfl .nil))) (wk83 x6 z4) fun j3 n7 e8 hs hr => ?_)
  have hfr := hfr.ext hs
  have q1 := q1.ext hs
  subst hr
  refine EL_p (.bool (!i3)) (P_not rfl) rfl ?_
  refine EL_at (.bool (!i3)) rfl rfl ?_
  refine EL_nil (thn_n ?_)
  rcases csome h with ⟨j1, h⟩ | ⟨j1, h⟩
  ·refine E_ct j1 rfl ?_
   refine E_seq (E_region (EL_at (.int .i64 (2)) rfl rfl ?_))
   refine EL_nil (thn_n (E_ret (blk_r ?_)))
   refine thn_r ?_
   obtain rfl := sinj h
   exact end1 rfl rfl (show _ = .int .i64 (2) from rfl) ⟨_, hfr, rfl⟩
  ·refine E_cf j1 rfl ?_
   refine E_seq (E_region (EL_p (fPtr p1 1) (P_fieldAddr at_29_1 rfl (PT.ptr q1)) rfl ?_))
   have y6 := PT_field (part_Design_1).1 q1
   refine EL_do .plain rfl (D_load (g := j3) Tryz.isAgg25 Tryz.sizeOf25 rfl y6 fun g8 a7 => ?_)
   refine EL_p (.int .i64 (((x0).Rows).length : Int)) (P_len Tryz.underlying25 rfl a7) rfl ?_
   refine EL_p (.bool ((decide ((((x0).Rows).length : Int) > (60 : Int))))) (P_int rfl rfl rfl) rfl ?_
   refine EL_p (.bool ((decide ((((x0).Rows).length : Int) > (60 : Int))))) (P_assign rfl) rfl ?_
   refine EL_nil (thn_n ?_)
   rcases csome h with ⟨z2, h⟩ | ⟨z2, h⟩
   ·refine E_ct z2 rfl ?_
    refine E_seq (E_region (EL_at (.int .i64 (5)) rfl rfl ?_))
    refine EL_nil (thn_n (E_ret (blk_r ?_)))
    refine thn_r ?_
    obtain rfl := sinj h
    exact end1 rfl rfl (show _ = .int .i64 (5) from rfl) ⟨_, hfr, rfl⟩
   ·refine E_cf z2 rfl ?_
    refine E_seq (E_region (EL_p (fPtr p1 1) (P_fieldAddr at_29_1 rfl (PT.ptr q1)) rfl ?_))
    have b7 := PT_field (part_Design_1).1 q1
    refine EL_do .plain rfl (D_load (g := j3) Tryz.isAgg25 Tryz.sizeOf25 rfl b7 fun v62 c7 => ?_)
    refine EL_p (.int .i64 (((x0).Rows).length : Int)) (P_len Tryz.underlying25 rfl c7) rfl ?_
    refine EL_in (.bool (((((x0).Rows).length : Int) == (0 : Int)))) rfl rfl rfl rfl ?_
    refine EL_at (.bool (((((x0).Rows).length : Int) == (0 : Int)))) rfl rfl ?_
    refine EL_nil (thn_n ?_)
    rcases csome h with ⟨d3, h⟩ | ⟨d3, h⟩
    ·refine E_ct d3 rfl ?_
     refine E_seq (E_region (EL_at (.int .i64 (7)) rfl rfl ?_))
     refine EL_nil (thn_n (E_ret (blk_r ?_)))
     refine thn_r ?_
     obtain rfl := sinj h
     exact end1 rfl rfl (show _ = .int .i64 (7) from rfl) ⟨_, hfr, rfl⟩
    ·refine E_cf d3 rfl ?_
     refine E_seq ?_
     have d7 := PT_field (part_Design_0).1 q1
     refine L_load (x := .tmp 20) Tryz.isAgg3 Tryz.sizeOf3 d7 fun i8 e7 i5 => ?_
     obtain rfl := RV_int.1 e7
     obtain ⟨u0, l5, h⟩ := bsome h
     have g7 := PT_field (part_Design_1).1 q1
     refine L_load (x := .tmp 24) Tryz.isAgg25 Tryz.sizeOf25 g7 fun u3 i7 q5 => ?_
     obtain ⟨y71, t5, h⟩ := bsome h
     refine E_drawL (g := j3) (n := 9) [(6, (fun v g w => v = .bool (y71)))] [0, 1, 2, 3, 4, 5, 6, 7, 8] rfl mixed (by kernel_rfl) (⟨fun _ => up_eq _, trivial⟩) ?_
     refine L_p (fPtr p1 0) rfl rfl (P_fieldAddr at_29_0 rfl (PT.ptr q1)) ?_
     refine L_ld (c := .int .i64 ((x0).Hooks)) rfl rfl .plain (fun _ _ h => h.ch) i5 rfl ?_
     refine L_p (.int .i64 (u0)) rfl rfl (P_int rfl rfl (congrArg (Option.map (Value.int .i64)) l5)) ?_
     refine L_p (.int .i64 ((w64 (u0 - (1 : Int))))) rfl rfl (P_int rfl rfl rfl) ?_
     refine L_p (fPtr p1 1) rfl rfl (P_fieldAddr at_29_1 rfl (PT.ptr q1)) ?_
     refine L_ld (c := u3) rfl rfl .plain (fun _ _ h => h.ch) q5 rfl ?_
     refine L_do (φ := fun v g w => v = .bool (y71)) rfl rfl .plain (fun g w hd => D_call (g := g) (vs := [.int .i64 (0), .int .i64 ((w64 (u0 - (1 : Int)))), u3]) en83 (.cons rfl (.cons rfl (.cons rfl .nil))) (wk83 (i7.ext hd.1) t5) fun g' w' v hs hr => ⟨g', hs, hr⟩) (fun k8 hv => ?_)
     obtain ⟨_, _, _, rfl⟩ := hv
     refine L_p (.bool (!y71)) rfl rfl (P_not rfl) ?_
     refine L_p (.bool (!y71)) rfl rfl (P_assign rfl) ?_
     refine L_nl fun j7 l8 hs => ?_
     have hfr := hfr.ext hs
     clear hs
     refine EL_nil (thn_n ?_)
     rcases csome h with ⟨o0, h⟩ | ⟨o0, h⟩
     ·refine E_ct o0 rfl ?_
      refine E_seq (E_region (EL_at (.int .i64 (2)) rfl rfl ?_))
      refine EL_nil (thn_n (E_ret (blk_r ?_)))
      refine thn_r ?_
      obtain rfl := sinj h
      exact end1 rfl rfl (show _ = .int .i64 (2) from rfl) ⟨_, hfr, rfl⟩
     ·refine E_cf o0 rfl ?_
      exact E_skip (blk_n (thn_n (z3 () _ _ ⟨j7, hfr⟩ h)))
 ·rintro _ m7 o7 ⟨u7, hfr⟩ h
  refine E_seq (E_region (EL_at (.int .i64 (0)) rfl rfl ?_))
  refine EL_nil (thn_n (E_ret ?_))
  obtain rfl := sinj h
  exact end1 rfl rfl (show _ = .int .i64 (0) from rfl) ⟨_, hfr, rfl⟩
def f58 (x0 : PayPayList) (x1 : Int) : Option (Int) :=
 (f93 (((x0).PayList).Rates) x1 ((fun a0 a1 => f94 a0 a1))).bind fun y6 =>
 Option.bind (α := Int) (
  bif (!y6.2) then
   some ((w64 (y6.1 - (1 : Int))))
  else
   some (y6.1)
  ) fun o0 =>
 (idx (((x0).PayList).Rates) o0).bind fun u0 =>
 some ((u0).Rate)
theorem en58 : Enters Tryz.prog 58 := enters_of Tryz.func58 (by kernel_rfl) rfl
theorem wk58 {gI : Gh} {wI : World} {x0 : PayPayList} {x1 : Int} {up0 : Value} (rp0 : RV gI.m wI x0 up0) {r : Int} (h : f58 x0 x1 = some r) : Fn Tryz.prog 58 #[up0, .int .i64 (x1)] gI wI (fun _ _ v => v = .int .i64 (r)) := by
 unfold f58 at h
 refine fn_of_E Tryz.func58 rfl (Nat.le_of_ble_eq_true rfl) fun g0 hm hfr => ?_
 have rp0 : RV g0.m wI x0 up0 := hm ▸ rp0
 show E _ 26 none _ _ _ _ _
 refine E_seq (E_region (EL_do .plain rfl (D_box (g := g0) rfl rp0 fun g1 w1 p1 hs q1 => ?_)))
 have hfr := hfr.ext hs
 refine EL_at (.int .i64 (0)) rfl rfl ?_
 refine EL_nil (thn_n (E_seq (E_region (EL_p (fPtr p1 0) (P_fieldAddr at_96_0 rfl (PT.ptr q1)) rfl ?_))))
 have q2 := PT_field (part_PayPayList_0).1 q1
 refine EL_p (fPtr (fPtr p1 0) 0) (P_fieldAddr at_35_0 rfl (PT.ptr q2)) rfl ?_
 have q3 := PT_field (part_PayList_0).1 q2
 refine EL_do .plain rfl (D_load (g := g1) Tryz.isAgg33 Tryz.sizeOf33 rfl q3 fun v4 r4 => ?_)
 refine EL_mw (.int .i64 (x1)) rfl rfl ?_
 obtain ⟨y6, z4, h⟩ := bsome h
 refine EL_do .plain rfl (D_call (g := g1) (vs := [v4, .int .i64 (x1), .func (.func 94) #[] #[]]) en93 (.cons rfl (.cons rfl (.cons rfl .nil))) (wk93 r4 ⟨94, #[], #[], rfl, en94, fun g' w' hch a0 a1 b0 b1 r hu0 hu1 hr => by obtain rfl := RV_int.1 hu1; exact Fn.mono (wk94 hu0  hr) fun _ _ _ h => RV_int.2 h⟩ z4) fun g5 w5_ v5 hs hr => ?_)
 have hfr := hfr.ext hs
 have q1 := q1.ext hs
 obtain ⟨t5, x5, rfl, rfl, rfl⟩ := hr
 refine EL_mw (.tuple #[.int .i64 (y6.1), .bool (y6.2)]) rfl rfl ?_
 refine EL_p (.int .i64 (y6.1)) (P_extract rfl rfl) rfl ?_
 refine EL_p (.bool (y6.2)) (P_extract rfl rfl) rfl ?_
 refine EL_at (.int .i64 (y6.1)) rfl rfl ?_
 refine EL_at (.bool (y6.2)) rfl rfl ?_
 refine EL_nil (thn_n ?_)
 obtain ⟨o0, hx, h⟩ := bsome h
 refine E_join (fun e w => ∃ (g : Gh) , Fr gI wI g w ∧ e 2 = p1 ∧ PT g.m w (x0 : PayPayList) p1 ∧ e 5 = .int .i64 (o0)) (fun Q' hQ => ?_) (fun i6 w9 hR => ?_)
 ·replace h := hx
  clear hx
  refine E_seq (E_region (EL_mw (.bool (y6.2)) rfl rfl ?_))
  refine EL_p (.bool (!y6.2)) (P_not rfl) rfl ?_
  refine EL_nil (thn_n ?_)
  rcases csome h with ⟨hc8, h⟩ | ⟨hc8, h⟩
  ·refine E_ct hc8 rfl ?_
   refine E_region (EL_mw (.int .i64 (y6.1)) rfl rfl ?_)
   refine EL_in (.int .i64 ((w64 (y6.1 - (1 : Int))))) rfl rfl rfl rfl ?_
   refine EL_at (.int .i64 ((w64 (y6.1 - (1 : Int))))) rfl rfl ?_
   refine EL_nil ?_
   obtain rfl := sinj h
   exact hQ _ _ ⟨g5, hfr, rfl, q1, rfl⟩
  ·refine E_cf hc8 rfl ?_
   refine E_skip ?_
   obtain rfl := sinj h
   exact hQ _ _ ⟨g5, hfr, rfl, q1, rfl⟩
 ·clear hx
  obtain ⟨g9, hfr, u3, j1, z3⟩ := hR
  refine E_seq (E_region (EL_p (fPtr p1 0) (P_fieldAddr at_96_0 u3 (PT.ptr j1)) rfl ?_))
  have d3 := PT_field (part_PayPayList_0).1 j1
  refine EL_p (fPtr (fPtr p1 0) 0) (P_fieldAddr at_35_0 rfl (PT.ptr d3)) rfl ?_
  have i5 := PT_field (part_PayList_0).1 d3
  refine EL_do .plain rfl (D_load (g := g9) Tryz.isAgg33 Tryz.sizeOf33 rfl i5 fun i3 j3 => ?_)
  refine EL_mv z3 rfl ?_
  obtain ⟨u0, z2, h⟩ := bsome h
  refine EL_p (ePtr i3 o0 2) (P_indexAddr (α := PayRate) Tryz.underlying33 Tryz.sizeOf82 rfl j3 rfl z2) rfl ?_
  have o3 := PT_idx j3 z2
  refine EL_p (fPtr (ePtr i3 o0 2) 1) (P_fieldAddr at_82_1 rfl (PT.ptr o3)) rfl ?_
  have l5 := PT_field (part_PayRate_1).1 o3
  refine EL_do .plain rfl (D_load (g := g9) Tryz.isAgg3 Tryz.sizeOf3 rfl l5 fun j6 q5 => ?_)
  obtain rfl := RV_int.1 q5
  refine EL_at (.int .i64 ((u0).Rate)) rfl rfl ?_
  refine EL_nil (thn_n (E_ret ?_))
  obtain rfl := sinj h
  exact end1 rfl rfl (show _ = .int .i64 ((u0).Rate) from rfl) ⟨_, hfr, rfl⟩
def f63 (x0 : List Int) : Option (Bool) :=
 (f45 ((0 : Int)) ((1000000000 : Int)) x0).bind fun y2 =>
 some (y2)
theorem en63 : Enters Tryz.prog 63 := enters_of Tryz.func63 (by kernel_rfl) rfl
theorem wk63 {gI : Gh} {wI : World} {x0 : List Int} {up0 : Value} (rp0 : RV gI.m wI x0 up0) {r : Bool} (h : f63 x0 = some r) : Fn Tryz.prog 63 #[up0] gI wI (fun _ _ v => v = .bool (r)) := by
 unfold f63 at h
 refine fn_of_E Tryz.func63 rfl (Nat.le_of_ble_eq_true rfl) fun g0 hm hfr => ?_
 have rp0 : RV g0.m wI x0 up0 := hm ▸ rp0
 show E _ 5 none _ _ _ _ _
 refine E_seq (E_region (EL_at (.bool false) rfl rfl ?_))
 refine EL_nil (thn_n (E_seq (E_region (EL_mw up0 rfl rfl ?_))))
 obtain ⟨y2, hy2, h⟩ := bsome h
 refine EL_do .plain rfl (D_call (g := g0) (vs := [.int .i64 (0), .int .i64 (1000000000), up0]) en45 (.cons rfl (.cons rfl (.cons rfl .nil))) (wk45 rp0 hy2) fun g1 w1_ v1 hs hr => ?_)
 have hfr := hfr.ext hs
 subst hr
 refine EL_at (.bool (y2)) rfl rfl ?_
 refine EL_nil (thn_n (E_ret ?_))
 obtain rfl := sinj h
 exact end1 rfl rfl (show _ = .bool (y2) from rfl) ⟨_, hfr, rfl⟩
def f71 (x0 : PayPayList) : Option (Bool) :=
 jn (σ := Unit) (fun _ =>
  some ((decide (((((x0).PayList).Rates).length : Int) > (0 : Int))))
  ) fun v7 =>
 lp (σ := Int × Int × Int) (fun c8 (i5, l5, j1) =>
  bif (decide (j1 < ((((x0).PayList).Rates).length : Int))) then
   jn (σ := Int × Int) (fun (q5, t5) =>
    c8 (q5, t5, (w64 (j1 + (1 : Int))))
    ) fun e8 =>
   (idx (((x0).PayList).Rates) j1).bind fun z2 =>
   jn (σ := Unit) (fun _ =>
    e8 ((w64 ((z2).From + (1 : Int))), (1000 : Int))
    ) fun g8 =>
   Option.bind (α := Bool) (
    (f45 i5 l5 (([(z2).From] : List Int))).bind fun z3 =>
    bif (!z3) then
     some (true)
    else
     (f45 ((0 : Int)) ((10000 : Int)) (([(z2).Rate] : List Int))).bind fun v6 =>
     some ((!v6))
    ) fun i3 =>
   bif i3 then
    some (false)
   else
    g8 ()
  else
   v7 ()
  ) big ((0 : Int), (0 : Int), (0 : Int))
theorem en71 : Enters Tryz.prog 71 := enters_of Tryz.func71 (by kernel_rfl) rfl
theorem wk71 {gI : Gh} {wI : World} {x0 : PayPayList} {up0 : Value} (rp0 : RV gI.m wI x0 up0) {r : Bool} (h : f71 x0 = some r) : Fn Tryz.prog 71 #[up0] gI wI (fun _ _ v => v = .bool (r)) := by
 unfold f71 at h
 refine fn_of_E Tryz.func71 rfl (Nat.le_of_ble_eq_true rfl) fun g0 hm hfr => ?_
 have rp0 : RV g0.m wI x0 up0 := hm ▸ rp0
 show E _ 38 none _ _ _ _ _
 refine E_seq (E_region (EL_do .plain rfl (D_box (g := g0) rfl rp0 fun g1 w1 p1 hs q1 => ?_)))
 have hfr := hfr.ext hs
 refine EL_at (.bool false) rfl rfl ?_
 refine EL_nil (thn_n (E_seq (E_region (EL_at (.int .i64 (0)) rfl rfl ?_))))
 refine EL_at (.int .i64 (0)) rfl rfl ?_
 refine EL_nil (thn_n (E_joinC h (fun (s : Unit) e w => ∃ (g : Gh) , Fr gI wI g w ∧ e 1 = p1 ∧ PT g.m w (x0 : PayPayList) p1) (fun X125 v7 gA h => ?_) ?_))
 ·refine E_seq (E_region (EL_p (fPtr p1 0) (P_fieldAddr at_96_0 rfl (PT.ptr q1)) rfl ?_))
  have i8 := PT_field (part_PayPayList_0).1 q1
  refine EL_p (fPtr (fPtr p1 0) 0) (P_fieldAddr at_35_0 rfl (PT.ptr i8)) rfl ?_
  have nA := PT_field (part_PayList_0).1 i8
  refine EL_do .plain rfl (D_load (g := g1) Tryz.isAgg33 Tryz.sizeOf33 rfl nA fun j3 k8 => ?_)
  refine EL_p (.int .i64 ((((x0).PayList).Rates).length : Int)) (P_len Tryz.underlying33 rfl k8) rfl ?_
  refine EL_mw (.int .i64 (0)) rfl rfl ?_
  refine EL_nil (thn_n (E_block ?_))
  refine E_lp h (fun (s : Int × Int × Int) e w => ∃ (g : Gh) , Fr gI wI g w ∧ e 1 = p1 ∧ PT g.m w (x0 : PayPayList) p1 ∧ e 3 = .int .i64 (s.1) ∧ e 4 = .int .i64 (s.2.1) ∧ e 9 = j3 ∧ RV g.m w (((x0).PayList).Rates : List PayRate) j3 ∧ e 10 = .int .i64 (((((x0).PayList).Rates).length : Int)) ∧ e 11 = .int .i64 (s.2.2)) ⟨g1, hfr, rfl, q1, rfl, rfl, rfl, k8, rfl, rfl⟩ (fun X129 c8 iA => ?_)
  rintro ⟨i5, l5, j1⟩ mB zB ⟨c7, hfr, x5, u0, l8, m8, i6, o0, z4, o3⟩ h
  refine E_seq (E_region (EL_p (.bool ((decide (j1 < ((((x0).PayList).Rates).length : Int))))) (P_int o3 z4 rfl) rfl ?_))
  refine EL_nil (thn_n (E_seq ?_))
  rcases csome h with ⟨x6, h⟩ | ⟨x6, h⟩
  ·refine E_ct x6 rfl ?_
   refine E_skip (thn_n (E_joinC h (fun (s : Int × Int) e w => ∃ (g : Gh) , Fr gI wI g w ∧ e 1 = p1 ∧ PT g.m w (x0 : PayPayList) p1 ∧ e 3 = .int .i64 (s.1) ∧ e 4 = .int .i64 (s.2) ∧ e 9 = j3 ∧ RV g.m w (((x0).PayList).Rates : List PayRate) j3 ∧ e 10 = .int .i64 (((((x0).PayList).Rates).length : Int)) ∧ e 11 = .int .i64 (j1)) (fun X189 e8 jA h => ?_) ?_))
   ·refine E_block ?_
    refine E_seq (E_region ?_)
    obtain ⟨z2, g7, h⟩ := bsome h
    refine EL_p (ePtr j3 j1 2) (P_indexAddr (α := PayRate) Tryz.underlying33 Tryz.sizeOf82 i6 o0 o3 g7) rfl ?_
    have oA := PT_idx o0 g7
    refine EL_do .plain rfl (D_load (g := c7) Tryz.isAgg82 Tryz.sizeOf82 rfl oA fun pA d7 => ?_)
    refine EL_do .plain rfl (D_allocOc (g := c7) 2006 (⟨0, 0⟩ : PayRate) Tryz.zeroValue82 (fun m w => ⟨_, (rep_two rep_int rep_int), rfl⟩) fun qA aC u3 hs b193 cb => ?_)
    have hfr := hfr.stp hs
    have u0 := u0.stp hs
    have o0 := o0.stp hs
    have d7 := d7.stp hs
    clear cb
    refine EL_do .plain rfl (D_storeOc (g := qA) (v := pA) Tryz.sizeOf82 rfl b193 rfl d7 fun n8 cC hs b194 cb => ?_)
    clear cb
    have hfr := hfr.stp hs
    have u0 := u0.stp hs
    have o0 := o0.stp hs
    refine EL_nil (thn_n (E_joinC h (fun (s : Unit) e w => ∃ (g : Gh) , Fr gI wI g w ∧ e 1 = p1 ∧ PT g.m w (x0 : PayPayList) p1 ∧ e 6 = u3 ∧ OB 2006 g w 82 (z2 : PayRate) u3 ∧ e 9 = j3 ∧ RV g.m w (((x0).PayList).Rates : List PayRate) j3 ∧ e 10 = .int .i64 (((((x0).PayList).Rates).length : Int)) ∧ e 11 = .int .i64 (j1)) (fun X219 g8 kA h => ?_) ?_))
    ·obtain ⟨i3, hx, h⟩ := bsome h
     refine E_join (fun e w => ∃ (g : Gh) , Fr gI wI g w ∧ e 1 = p1 ∧ PT g.m w (x0 : PayPayList) p1 ∧ e 6 = u3 ∧ OB 2006 g w 82 (z2 : PayRate) u3 ∧ e 9 = j3 ∧ RV g.m w (((x0).PayList).Rates : List PayRate) j3 ∧ e 10 = .int .i64 (((((x0).PayList).Rates).length : Int)) ∧ e 11 = .int .i64 (j1) ∧ e 28 = .bool (i3)) (fun Q' hQ => ?_) (fun nB dC hR => ?_)
     ·replace h := hx
      clear hx
      refine E_region (EL_mv l8 rfl ?_)
      refine EL_mv m8 rfl ?_
      refine EL_p (fPtr u3 0) (P_fieldAddr at_82_0 rfl (OB.ptr b194)) rfl ?_
      refine EL_do .plain rfl (D_loadF (g := n8) part_PayRate_0.1 Tryz.isAgg3 Tryz.sizeOf3 rfl b194 fun eC rA => ?_)
      obtain rfl := RV_int.1 rA
      refine EL_do .plain rfl (D_buildSlice (g := n8) 3019 (xs := ([(z2).From] : List Int)) (vs := [.int .i64 ((z2).From)]) Tryz.underlying25 Tryz.sizeOf3 Tryz.zeroValue3 rfl rfl (.cons rfl .nil) (RVs.cons (RV_int.2 rfl) RVs.nil) rfl rfl fun sA iC uA hs o233 xA hxt hfl => ?_)
      have hfr := hfr.stp hs
      have u0 := u0.stp hs
      have o0 := o0.stp hs
      have b194 := b194.stp hs rfl
      obtain ⟨z3, lA, h⟩ := bsome h
      refine EL_do .plain rfl (D_call (g := sA) (vs := [.int .i64 (i5), .int .i64 (l5), uA]) en45 (.cons rfl (.cons rfl (.cons rfl .nil))) (wk45 xA lA) fun e7 oB jC hs hr => ?_)
      have hfr := hfr.ext hs
      have u0 := u0.ext hs
      have o0 := o0.ext hs
      have b194 := b194.ext hs
      subst hr
      refine EL_p (.bool (!z3)) (P_not rfl) rfl ?_
      refine EL_mw (.bool (!z3)) rfl rfl ?_
      rcases csome h with ⟨d3, h⟩ | ⟨d3, h⟩
      ·refine EL_s rfl rfl d3 rfl rfl ?_
       iterate 4 refine EL_s rfl rfl d3 rfl rfl ?_
       refine EL_p (.bool true) (P_pick (b := (!z3)) rfl (pick_t d3 rfl)) rfl ?_
       refine EL_nil ?_
       obtain rfl := sinj h
       exact hQ _ _ ⟨e7, hfr, x5, u0, rfl, b194, i6, o0, z4, o3, rfl⟩
      ·refine EL_y (fPtr u3 1) (P_fieldAddr at_82_1 rfl (OB.ptr b194)) rfl rfl d3 rfl ?_
       refine EL_do (.yes2 rfl rfl d3) rfl (D_loadF (g := e7) part_PayRate_1.1 Tryz.isAgg3 Tryz.sizeOf3 rfl b194 fun kC yA => ?_)
       obtain rfl := RV_int.1 yA
       refine EL_do (.yes2 rfl rfl d3) rfl (D_buildSlice (g := e7) 3025 (xs := ([(z2).Rate] : List Int)) (vs := [.int .i64 ((z2).Rate)]) Tryz.underlying25 Tryz.sizeOf3 Tryz.zeroValue3 rfl rfl (.cons rfl .nil) (RVs.cons (RV_int.2 rfl) RVs.nil) rfl rfl fun zA lC aB hs o239 bB hxt hfl => ?_)
       have hfr := hfr.stp hs
       have u0 := u0.stp hs
       have o0 := o0.stp hs
       have b194 := b194.stp hs rfl
       obtain ⟨v6, mA, h⟩ := bsome h
       refine EL_do (.yes2 rfl rfl d3) rfl (D_call (g := zA) (vs := [.int .i64 (0), .int .i64 (10000), aB]) en45 (.cons rfl (.cons rfl (.cons rfl .nil))) (wk45 bB mA) fun cB tB mC hs hr => ?_)
       have hfr := hfr.ext hs
       have u0 := u0.ext hs
       have o0 := o0.ext hs
       have b194 := b194.ext hs
       subst hr
       refine EL_y (.bool (!v6)) (P_not rfl) rfl rfl d3 rfl ?_
       refine EL_p (.bool (!v6)) (P_pick (b := (!z3)) rfl (pick_f d3 rfl)) rfl ?_
       refine EL_nil ?_
       obtain rfl := sinj h
       exact hQ _ _ ⟨cB, hfr, x5, u0, rfl, b194, i6, o0, z4, o3, rfl⟩
     ·clear hx
      obtain ⟨dB, hfr, o8, q8, r8, t8, v8, x8, i7, j7, j6⟩ := hR
      rcases csome h with ⟨y6, h⟩ | ⟨y6, h⟩
      ·refine E_cond_true (Eq.trans (show ev _ _ = .bool (i3) from j6) (congrArg Value.bool y6)) ?_
       refine E_seq (E_region (EL_at (.bool false) rfl rfl ?_))
       refine EL_nil (thn_n (E_ret (thn_r ?_)))
       refine blk_r ?_
       refine thn_r ?_
       refine thn_r ?_
       refine blk_r ?_
       refine thn_r ?_
       obtain rfl := sinj h
       exact end1 rfl rfl (show _ = .bool false from rfl) ⟨_, hfr, rfl⟩
      ·refine E_cond_false (Eq.trans (show ev _ _ = .bool (i3) from j6) (congrArg Value.bool y6)) ?_
       exact E_skip (thn_n (kA () _ _ ⟨dB, hfr, o8, q8, r8, t8, v8, x8, i7, j7⟩ h))
    ·rintro _ vB qC ⟨y8, hfr, a9, d9, e9, a7, i9, k9, m7, n7⟩ h
     refine E_region (EL_p (fPtr u3 0) (P_fieldAddr at_82_0 e9 (OB.ptr a7)) rfl ?_)
     refine EL_do .plain rfl (D_loadF (g := y8) part_PayRate_0.1 Tryz.isAgg3 Tryz.sizeOf3 rfl a7 fun rC eB => ?_)
     obtain rfl := RV_int.1 eB
     refine EL_in (.int .i64 ((w64 ((z2).From + (1 : Int))))) rfl rfl rfl rfl ?_
     refine EL_at (.int .i64 ((w64 ((z2).From + (1 : Int))))) rfl rfl ?_
     refine EL_at (.int .i64 (1000)) rfl rfl ?_
     exact EL_nil (blk_n (thn_n (jA ((w64 ((z2).From + (1 : Int))), (1000 : Int)) _ _ ⟨y8, hfr, a9, d9, rfl, rfl, i9, k9, m7, n7⟩ h)))
   ·rintro ⟨q5, t5⟩ xB tC ⟨iB, hfr, l9, n9, o9, t9, u9, y9, o7, u7⟩ h
    refine E_region (EL_in (.int .i64 ((w64 (j1 + (1 : Int))))) u7 rfl rfl rfl ?_)
    refine EL_mw (.int .i64 ((w64 (j1 + (1 : Int))))) rfl rfl ?_
    exact EL_nil (thn_n (iA (q5, t5, (w64 (j1 + (1 : Int)))) _ _ ⟨iB, hfr, l9, n9, o9, t9, u9, y9, o7, rfl⟩ h))
  ·refine E_cf x6 rfl ?_
   refine E_exit ?_
   refine thn_e ?_
   refine thn_e ?_
   refine blk_hit ?_
   exact thn_n (gA () _ _ ⟨c7, hfr, x5, u0⟩ h)
 ·rintro _ yB uC ⟨jB, hfr, z9, b7⟩ h
  refine E_seq (E_region (EL_p (fPtr p1 0) (P_fieldAddr at_96_0 z9 (PT.ptr b7)) rfl ?_))
  have bA := PT_field (part_PayPayList_0).1 b7
  refine EL_p (fPtr (fPtr p1 0) 0) (P_fieldAddr at_35_0 rfl (PT.ptr bA)) rfl ?_
  have kB := PT_field (part_PayList_0).1 bA
  refine EL_do .plain rfl (D_load (g := jB) Tryz.isAgg33 Tryz.sizeOf33 rfl kB fun vC lB => ?_)
  refine EL_p (.int .i64 ((((x0).PayList).Rates).length : Int)) (P_len Tryz.underlying33 rfl lB) rfl ?_
  refine EL_p (.bool ((decide (((((x0).PayList).Rates).length : Int) > (0 : Int))))) (P_int rfl rfl rfl) rfl ?_
  refine EL_p (.bool ((decide (((((x0).PayList).Rates).length : Int) > (0 : Int))))) (P_assign rfl) rfl ?_
  refine EL_nil (thn_n (E_ret ?_))
  obtain rfl := sinj h
  exact end1 rfl rfl (show _ = .bool ((decide (((((x0).PayList).Rates).length : Int) > (0 : Int)))) from rfl) ⟨_, hfr, rfl⟩
def f72 (x0 : List Int) : Option (Bool) :=
 (f45 ((0 : Int)) ((1000 : Int)) x0).bind fun y2 =>
 some (y2)
theorem en72 : Enters Tryz.prog 72 := enters_of Tryz.func72 (by kernel_rfl) rfl
theorem wk72 {gI : Gh} {wI : World} {x0 : List Int} {up0 : Value} (rp0 : RV gI.m wI x0 up0) {r : Bool} (h : f72 x0 = some r) : Fn Tryz.prog 72 #[up0] gI wI (fun _ _ v => v = .bool (r)) := by
 unfold f72 at h
 refine fn_of_E Tryz.func72 rfl (Nat.le_of_ble_eq_true rfl) fun g0 hm hfr => ?_
 have rp0 : RV g0.m wI x0 up0 := hm ▸ rp0
 show E _ 5 none _ _ _ _ _
 refine E_seq (E_region (EL_at (.bool false) rfl rfl ?_))
 refine EL_nil (thn_n (E_seq (E_region (EL_mw up0 rfl rfl ?_))))
 obtain ⟨y2, hy2, h⟩ := bsome h
 refine EL_do .plain rfl (D_call (g := g0) (vs := [.int .i64 (0), .int .i64 (1000), up0]) en45 (.cons rfl (.cons rfl (.cons rfl .nil))) (wk45 rp0 hy2) fun g1 w1_ v1 hs hr => ?_)
 have hfr := hfr.ext hs
 subst hr
 refine EL_at (.bool (y2)) rfl rfl ?_
 refine EL_nil (thn_n (E_ret ?_))
 obtain rfl := sinj h
 exact end1 rfl rfl (show _ = .bool (y2) from rfl) ⟨_, hfr, rfl⟩
def f90 (x0 : TieHarness) (x1 : Design) : Option ((List Str) × Int) :=
 jn (σ := (List Str)) (fun l5 =>
  jn (σ := (List Str)) (fun g7 =>
   Option.bind (α := (List Str)) (
    lp (σ := (List Str) × Int) (fun y9 (q5, o0) =>
     bif (decide (o0 < (((x1).Rows).length : Int))) then
      Option.bind (α := (List Str)) (
       (idx ((x1).Rows) o0).bind fun j6 =>
       (f122 ((⟨x0⟩ : TieTieHarness)) j6).bind fun y81 =>
       (apnd 16 q5 (([y81] : List Str))).bind fun y84 =>
       some (y84)
       ) fun o3 =>
      y9 (o3, (w64 (o0 + (1 : Int))))
     else
      some (q5)
     ) big (g7, (0 : Int))
    ) fun z4 =>
   some (z4, (0 : Int))
   ) fun z9 =>
  (f51 x1).bind fun j3 =>
  bif (j3 != (0 : Int)) then
   some ([], j3)
  else
   bif ((x1).Hooks != (x0).Hooks) then
    some ([], (4 : Int))
   else
    z9 (l5)
  ) fun k7 =>
 (f50 x0).bind fun u3 =>
 bif (u3 != (0 : Int)) then
  some ([], u3)
 else
  k7 ([])
theorem en90 : Enters Tryz.prog 90 := enters_of Tryz.func90 (by kernel_rfl) rfl
def f92 (x0 : List Int) : Option (Bool) :=
 Option.bind (α := Bool) (
  (f124 x0).bind fun y9 =>
  bif y9 then
   (f84 x0).bind fun d3 =>
   (f125 d3).bind fun j1 =>
   some ((((j1).length : Int) == ((x0).length : Int)))
  else
   some (false)
  ) fun u0 =>
 some (u0)
theorem en92 : Enters Tryz.prog 92 := enters_of Tryz.func92 (by kernel_rfl) rfl
theorem wk92 {gI : Gh} {wI : World} {x0 : List Int} {up0 : Value} (rp0 : RV gI.m wI x0 up0) {r : Bool} (h : f92 x0 = some r) : Fn Tryz.prog 92 #[up0] gI wI (fun _ _ v => v = .bool (r)) := by
 unfold f92 at h
 refine fn_of_E Tryz.func92 rfl (Nat.le_of_ble_eq_true rfl) fun g0 hm hfr => ?_
 have rp0 : RV g0.m wI x0 up0 := hm ▸ rp0
 show E _ 14 none _ _ _ _ _
 refine E_seq (E_region (EL_at (.bool false) rfl rfl ?_))
 refine EL_nil (thn_n ?_)
 obtain ⟨u0, hx, h⟩ := bsome h
 refine E_join (fun e w => ∃ (g : Gh) , Fr gI wI g w ∧ e 2 = .bool (u0)) (fun Q' hQ => ?_) (fun q5 w15 hR => ?_)
 ·replace h := hx
  clear hx
  refine E_region (EL_mw up0 rfl rfl ?_)
  obtain ⟨y9, o3, h⟩ := bsome h
  refine EL_do .plain rfl (D_call (g := g0) (vs := [up0]) en124 (.cons rfl .nil) (wk124 rp0 o3) fun g8 w8_ v8 hs hr => ?_)
  have hfr := hfr.ext hs
  have rp0 := rp0.ext hs
  subst hr
  refine EL_mw (.bool (y9)) rfl rfl ?_
  rcases csome h with ⟨o0, h⟩ | ⟨o0, h⟩
  ·refine EL_y up0 (P_move rfl) rfl rfl o0 rfl ?_
   obtain ⟨d3, i3, h⟩ := bsome h
   refine EL_do (.yes2 rfl rfl o0) rfl (D_call (g := g8) (vs := [up0]) en84 (.cons rfl .nil) (wk84 rp0 i3) fun u3 t5 z3 hs hr => ?_)
   have hfr := hfr.ext hs
   have rp0 := rp0.ext hs
   have z4 := hr
   obtain ⟨j1, j3, h⟩ := bsome h
   refine EL_do (.yes2 rfl rfl o0) rfl (D_call (g := u3) (vs := [z3]) en125 (.cons rfl .nil) (wk125 z4 j3) fun i5 x5 i6 hs hr => ?_)
   have hfr := hfr.ext hs
   have rp0 := rp0.ext hs
   have l5 := hr
   refine EL_y (.int .i64 ((j1).length : Int)) (P_len Tryz.underlying25 rfl l5) rfl rfl o0 rfl ?_
   refine EL_y up0 (P_move rfl) rfl rfl o0 rfl ?_
   refine EL_y (.int .i64 ((x0).length : Int)) (P_len Tryz.underlying25 rfl rp0) rfl rfl o0 rfl ?_
   refine EL_y (.bool ((((j1).length : Int) == ((x0).length : Int)))) (P_int rfl rfl rfl) rfl rfl o0 rfl ?_
   refine EL_p (.bool ((((j1).length : Int) == ((x0).length : Int)))) (P_pick (b := y9) rfl (pick_t o0 rfl)) rfl ?_
   refine EL_at (.bool ((((j1).length : Int) == ((x0).length : Int)))) rfl rfl ?_
   refine EL_nil ?_
   obtain rfl := sinj h
   exact hQ _ _ ⟨i5, hfr, rfl⟩
  ·refine EL_s rfl rfl o0 rfl rfl ?_
   iterate 6 refine EL_s rfl rfl o0 rfl rfl ?_
   refine EL_p (.bool false) (P_pick (b := y9) rfl (pick_f o0 rfl)) rfl ?_
   refine EL_at (.bool false) rfl rfl ?_
   refine EL_nil ?_
   obtain rfl := sinj h
   exact hQ _ _ ⟨g8, hfr, rfl⟩
 ·clear hx
  obtain ⟨j6, hfr, z2⟩ := hR
  refine E_ret ?_
  obtain rfl := sinj h
  exact end1 rfl rfl (show _ = .bool (u0) from z2) ⟨_, hfr, rfl⟩
def f95 (x0 : FaultDamage) (z0 : FaultLoom) : Option (Bool) :=
 (f96 ((⟨z0⟩ : FaultFaultLoom)) x0).bind fun y6 =>
 some ((!y6))
theorem en95 : Enters Tryz.prog 95 := enters_of Tryz.func95 (by kernel_rfl) rfl
theorem wk95 {gI : Gh} {wI : World} {x0 : FaultDamage} {z0 : FaultLoom} {up0 : Value} (rp0 : RV gI.m wI x0 up0) {pf0 : Value} (qf0 : PT gI.m wI z0 pf0) {r : Bool} (h : f95 x0 z0 = some r) : Fn Tryz.prog 95 #[up0, pf0] gI wI (fun _ _ v => v = .bool (r)) := by
 unfold f95 at h
 refine fn_of_E Tryz.func95 rfl (Nat.le_of_ble_eq_true rfl) fun g0 hm hfr => ?_
 have qf0 : PT g0.m wI z0 pf0 := hm ▸ qf0
 have rp0 : RV g0.m wI x0 up0 := hm ▸ rp0
 show E _ 9 none _ _ _ _ _
 refine E_seq (E_region (EL_do .plain rfl (D_box (g := g0) rfl rp0 fun g1 w1 p1 hs q1 => ?_)))
 have hfr := hfr.ext hs
 have qf0 := qf0.ext hs
 refine EL_at (.bool false) rfl rfl ?_
 refine EL_nil (thn_n (E_seq (E_region (EL_do .plain rfl (D_load (g := g1) Tryz.isAgg31 Tryz.sizeOf31 rfl qf0 fun v2 r2 => ?_)))))
 have r3 : RV g1.m _ (⟨z0⟩ : FaultFaultLoom) (.agg (setCh [[.int .i64 0, .slice none 0 0, .int .i64 0, .slice none 0 0]] [(0, v2)]).flatten.toArray) := RV_build rfl (rep_last (RV.cells r2))
 generalize hv3 : (Value.agg (setCh [[.int .i64 0, .slice none 0 0, .int .i64 0, .slice none 0 0]] [(0, v2)]).flatten.toArray) = v3 at r3
 refine EL_p v3 (hv3 ▸ P_build (vs := [(0, v2)]) [[.int .i64 0, .slice none 0 0, .int .i64 0, .slice none 0 0]] lay_86 rfl rfl (.cons rfl .nil) ⟨⟨_, rfl, cells_size r2⟩, trivial⟩) rfl ?_
 refine EL_do .plain rfl (D_load (g := g1) Tryz.isAgg39 Tryz.sizeOf39 rfl q1 fun v4 r4 => ?_)
 obtain ⟨y6, o0, h⟩ := bsome h
 refine EL_do .plain rfl (D_call (g := g1) (vs := [v3, v4]) en96 (.cons rfl (.cons rfl .nil)) (wk96 r3 r4 o0) fun g5 w5_ v5 hs hr => ?_)
 have hfr := hfr.ext hs
 subst hr
 refine EL_p (.bool (!y6)) (P_not rfl) rfl ?_
 refine EL_at (.bool (!y6)) rfl rfl ?_
 refine EL_nil (thn_n (E_ret ?_))
 obtain rfl := sinj h
 exact end1 rfl rfl (show _ = .bool (!y6) from rfl) ⟨_, hfr, rfl⟩
def f112 : Nat → (List Int) → (Int) → (Int) → (Int) → (Int → Int → Option Int) → Option ((List Int))
 | 0, _, _, _, _, _ => none
 | n + 1, x0, x1, x2, x3, x4 =>
  jn (σ := (List Int)) (fun x5 =>
   jn (σ := (List Int)) (fun q5 =>
    (shr64 (wu64 (w64 (x1 + x3))) (1 : Int)).bind fun u0 =>
    Option.bind (α := Int × Int) (
     bif (decide (x2 > (w64 u0))) then
      some ((w64 ((w64 ((w64 u0) + x2)) - x3)), (w64 u0))
     else
      some (x1, x2)
     ) fun (a9, d9) =>
    Option.bind (α := Int) (
     lp (σ := Int × Int) (fun eG (i3, u3) =>
      jn (σ := Unit) (fun _ =>
       (shr64 (wu64 (w64 (i3 + u3))) (1 : Int)).bind fun d3 =>
       (idx q5 (w64 ((w64 ((w64 ((w64 u0) + x2)) - (1 : Int))) - (w64 d3)))).bind fun qC =>
       (idx q5 (w64 d3)).bind fun rC =>
       (x4 qC rC).bind fun e9 =>
       bif (!(decide (e9 < (0 : Int)))) then
        eG ((w64 ((w64 d3) + (1 : Int))), u3)
       else
        eG (i3, (w64 d3))
       ) fun uH =>
      bif (decide (i3 < u3)) then
       uH ()
      else
       some (i3)
      ) big (a9, d9)
     ) fun o0 =>
    Option.bind (α := (List Int)) (
     Option.bind (α := Bool) (
      bif (decide (o0 < x2)) then
       some ((decide (x2 < (w64 ((w64 ((w64 u0) + x2)) - o0)))))
      else
       some (false)
      ) fun i7 =>
     bif i7 then
      (f143 q5 o0 x2 ((w64 ((w64 ((w64 u0) + x2)) - o0))) x4).bind fun vH =>
      some (vH)
     else
      some (q5)
     ) fun u7 =>
    Option.bind (α := (List Int)) (
     Option.bind (α := Bool) (
      bif (decide (x1 < o0)) then
       some ((decide (o0 < (w64 u0))))
      else
       some (false)
      ) fun j7 =>
     bif j7 then
      (f112 n u7 x1 o0 ((w64 u0)) x4).bind fun xH =>
      some (xH)
     else
      some (u7)
     ) fun v7 =>
    Option.bind (α := Bool) (
     bif (decide ((w64 u0) < (w64 ((w64 ((w64 u0) + x2)) - o0)))) then
      some ((decide ((w64 ((w64 ((w64 u0) + x2)) - o0)) < x3)))
     else
      some (false)
     ) fun m7 =>
    bif m7 then
     (f112 n v7 ((w64 u0)) ((w64 ((w64 ((w64 u0) + x2)) - o0))) x3 x4).bind fun yH =>
     some (yH)
    else
     some (v7)
    ) fun zH =>
   bif ((w64 (x3 - x2)) == (1 : Int)) then
    Option.bind (α := Int) (
     lp (σ := Int × Int) (fun gG (j3, z3) =>
      jn (σ := Unit) (fun _ =>
       (shr64 (wu64 (w64 (j3 + z3))) (1 : Int)).bind fun i5 =>
       (idx x5 x2).bind fun tC =>
       (idx x5 (w64 i5)).bind fun uC =>
       (x4 tC uC).bind fun i9 =>
       bif (!(decide (i9 < (0 : Int)))) then
        gG ((w64 ((w64 i5) + (1 : Int))), z3)
       else
        gG (j3, (w64 i5))
       ) fun aI =>
      bif (decide (j3 < z3)) then
       aI ()
      else
       some (j3)
      ) big (x1, x2)
     ) fun i6 =>
    Option.bind (α := (List Int)) (
     lp (σ := (List Int) × Int) (fun bI (j6, j1) =>
      jn (σ := Unit) (fun _ =>
       Option.bind (α := (List Int)) (
        (idx j6 (w64 (j1 - (1 : Int)))).bind fun iA =>
        (idx j6 j1).bind fun vC =>
        (idx j6 j1).bind fun xL =>
        (idx ((List.set j6 (Int.toNat j1) iA)) (w64 (j1 - (1 : Int)))).bind fun yL =>
        some ((List.set ((List.set j6 (Int.toNat j1) iA)) (Int.toNat (w64 (j1 - (1 : Int)))) vC))
        ) fun m8 =>
       bI (m8, (w64 (j1 - (1 : Int))))
       ) fun cI =>
      bif (decide (j1 > i6)) then
       cI ()
      else
       some (j6)
      ) big (x5, x2)
     ) fun jA =>
    some (jA)
   else
    zH (x5)
   ) fun dI =>
  bif ((w64 (x2 - x1)) == (1 : Int)) then
   Option.bind (α := Int) (
    lp (σ := Int × Int) (fun hG (o3, z4) =>
     jn (σ := Unit) (fun _ =>
      (shr64 (wu64 (w64 (o3 + z4))) (1 : Int)).bind fun l5 =>
      (idx x0 (w64 l5)).bind fun xC =>
      (idx x0 x1).bind fun yC =>
      (x4 xC yC).bind fun kA =>
      bif (decide (kA < (0 : Int))) then
       hG ((w64 ((w64 l5) + (1 : Int))), z4)
      else
       hG (o3, (w64 l5))
      ) fun jI =>
     bif (decide (o3 < z4)) then
      jI ()
     else
      some (o3)
     ) big (x2, x3)
    ) fun t5 =>
   Option.bind (α := (List Int)) (
    lp (σ := (List Int) × Int) (fun kI (v6, z2) =>
     jn (σ := Unit) (fun _ =>
      Option.bind (α := (List Int)) (
       (idx v6 (w64 (z2 + (1 : Int)))).bind fun lA =>
       (idx v6 z2).bind fun aD =>
       (idx v6 z2).bind fun zL =>
       (idx ((List.set v6 (Int.toNat z2) lA)) (w64 (z2 + (1 : Int)))).bind fun aM =>
       some ((List.set ((List.set v6 (Int.toNat z2) lA)) (Int.toNat (w64 (z2 + (1 : Int)))) aD))
       ) fun n8 =>
      kI (n8, (w64 (z2 + (1 : Int))))
      ) fun lI =>
     bif (decide (z2 < (w64 (t5 - (1 : Int))))) then
      lI ()
     else
      some (v6)
     ) big (x0, x1)
    ) fun mA =>
   some (mA)
  else
   dI (x0)
theorem en112 : Enters Tryz.prog 112 := enters_of Tryz.func112 (by kernel_rfl) rfl
theorem wk112 (n : Nat) : ∀ {iI : Nat} {gI : Gh} {wI : World} {x0 : List Int} {x1 : Int} {x2 : Int} {x3 : Int} {x4 : Int → Int → Option Int} {up0 : Value} (mp0 : OM iI gI wI 3 x0 up0) {up4 : Value} (rp4 : FnV2 Tryz.prog x4 up4 gI wI) {r : (List Int)} (h : f112 n x0 x1 x2 x3 x4 = some r), FnM Tryz.prog 112 #[up0, .int .i64 (x1), .int .i64 (x2), .int .i64 (x3), up4] iI gI wI (fun g w v => v = .tuple #[] ∧ OM iI g w 3 r up0) := by
 induction n with
 | zero => intros; rename_i h; cases h
 | succ n ih =>
 intro iI gI wI x0 x1 x2 x3 x4 up0 mp0 up4 rp4 r h
 simp only [f112] at h
 refine fnM_of_E Tryz.func112 rfl (Nat.le_of_ble_eq_true rfl) fun g0 hm hfr => ?_
 have gA := mp0
 replace mp0 := mp0.enter
 rw [← hm] at mp0
 replace hm : g0.m = gI.m := by rw [hm]
 obtain ⟨ff4, fa4, fc4, rfl, fen4, fcl4⟩ := rp4
 show E _ 220 none _ _ _ _ _
 refine E_joinC h (fun (s : (List Int)) e w => ∃ (g : Gh) , FrM iI gI wI g w ∧ e 0 = up0 ∧ OM 1 g w 3 (s : List Int) up0 ∧ e 1 = .int .i64 (x1) ∧ e 2 = .int .i64 (x2) ∧ e 3 = .int .i64 (x3) ∧ e 4 = (.func (.func ff4) fa4 fc4)) (fun X203 dI oK h => ?_) ?_
 ·refine E_seq (E_region (EL_mw (.int .i64 (x2)) rfl rfl ?_))
  refine EL_mw (.int .i64 (x1)) rfl rfl ?_
  refine EL_in (.int .i64 ((w64 (x2 - x1)))) rfl rfl rfl rfl ?_
  refine EL_in (.bool (((w64 (x2 - x1)) == (1 : Int)))) rfl rfl rfl rfl ?_
  refine EL_nil (thn_n ?_)
  rcases csome h with ⟨bD, h⟩ | ⟨bD, h⟩
  ·refine E_ct bD rfl ?_
   refine E_seq (E_region (EL_mw (.int .i64 (x2)) rfl rfl ?_))
   refine EL_at (.int .i64 (x2)) rfl rfl ?_
   refine EL_nil (thn_n (E_seq (E_region (EL_mw (.int .i64 (x3)) rfl rfl ?_))))
   refine EL_at (.int .i64 (x3)) rfl rfl ?_
   refine EL_nil (thn_n ?_)
   obtain ⟨t5, hx, h⟩ := bsome h
   refine E_join (fun e w => ∃ (g : Gh) , FrM iI gI wI g w ∧ e 0 = up0 ∧ OM 1 g w 3 (x0 : List Int) up0 ∧ e 1 = .int .i64 (x1) ∧ e 10 = .int .i64 (t5)) (fun Q' hQ => ?_) (fun nN sO hR => ?_)
   ·replace h := hx
    clear hx
    refine E_block ?_
    refine E_lp h (fun (s : Int × Int) e w => ∃ (g : Gh) , FrM iI gI wI g w ∧ e 0 = up0 ∧ OM 1 g w 3 (x0 : List Int) up0 ∧ e 1 = .int .i64 (x1) ∧ e 4 = (.func (.func ff4) fa4 fc4) ∧ e 10 = .int .i64 (s.1) ∧ e 11 = .int .i64 (s.2)) ⟨g0, hfr, rfl, mp0, rfl, rfl, rfl, rfl⟩ (fun X243 hG iG => ?_)
    rintro ⟨o3, z4⟩ oN tO ⟨mI, hfr, vD, xD, yD, nI, k9, eB⟩ h
    refine E_joinC h (fun (s : Unit) e w => ∃ (g : Gh) , FrM iI gI wI g w ∧ e 0 = up0 ∧ OM 1 g w 3 (x0 : List Int) up0 ∧ e 1 = .int .i64 (x1) ∧ e 4 = (.func (.func ff4) fa4 fc4) ∧ e 10 = .int .i64 (o3) ∧ e 11 = .int .i64 (z4)) (fun X246 jI pK h => ?_) ?_
    ·refine E_seq (E_region (EL_mv k9 rfl ?_))
     refine EL_mv eB rfl ?_
     refine EL_in (.bool ((decide (o3 < z4)))) rfl rfl rfl rfl ?_
     refine EL_nil (thn_n ?_)
     rcases csome h with ⟨cD, h⟩ | ⟨cD, h⟩
     ·refine E_ct cD rfl ?_
      exact E_skip (thn_n (pK () _ _ ⟨mI, hfr, vD, xD, yD, nI, k9, eB⟩ h))
     ·refine E_cf cD rfl ?_
      refine E_exit ?_
      refine thn_e ?_
      refine thn_e ?_
      refine blk_hit ?_
      obtain rfl := sinj h
      exact hQ _ _ ⟨mI, hfr, vD, xD, yD, k9⟩
    ·rintro _ pN uO ⟨bM, hfr, o8, x6, nA, oA, iB, jB⟩ h
     refine E_block ?_
     refine E_seq (E_region (EL_mv iB rfl ?_))
     refine EL_mv jB rfl ?_
     refine EL_in (.int .i64 ((w64 (o3 + z4)))) rfl rfl rfl rfl ?_
     refine EL_p (.int .u64 (wu64 (w64 (o3 + z4)))) (P_intu64 Tryz.underlying3 Tryz.underlying134 rfl) rfl ?_
     obtain ⟨l5, qK, h⟩ := bsome h
     refine EL_p (.int .u64 (l5)) (P_shrU rfl rfl qK) rfl ?_
     refine EL_p (.int .i64 ((w64 l5))) (P_u64int Tryz.underlying134 Tryz.underlying3 rfl) rfl ?_
     refine EL_at (.int .i64 ((w64 l5))) rfl rfl ?_
     refine EL_nil (thn_n (E_seq ?_))
     obtain ⟨xC, jG, h⟩ := bsome h
     refine L_loadM (x := .tmp 43) Tryz.isAgg3 Tryz.sizeOf3 x6 jG fun vO cM sK => ?_
     obtain rfl := RV_int.1 cM
     obtain ⟨yC, kG, h⟩ := bsome h
     refine L_loadM (x := .tmp 47) Tryz.isAgg3 Tryz.sizeOf3 x6 kG fun xO dM tK => ?_
     obtain rfl := RV_int.1 dM
     obtain ⟨kA, uK, h⟩ := bsome h
     refine E_drawL (g := bM) (n := 11) [(9, (fun v g w => v = .int .i64 (kA)))] [0, 1, 2, 3, 4, 5, 6, 7, 8, 9, 10] rfl mixed (by kernel_rfl) (⟨fun _ => up_eq _, trivial⟩) ?_
     refine L_p ((.func (.func ff4) fa4 fc4)) rfl rfl (P_move oA) ?_
     refine L_p up0 rfl rfl (P_move o8) ?_
     refine L_p (.int .i64 ((w64 l5))) rfl rfl (P_move rfl) ?_
     refine L_p (ePtr up0 (w64 l5) 1) rfl rfl (P_indexAddrM (α := Int) Tryz.underlying25 Tryz.sizeOf3 rfl x6 rfl jG) ?_
     refine L_ld (c := .int .i64 (xC)) rfl rfl .plain (fun _ _ h => ⟨h.ch, fun b hb _ => h.below.block b hb⟩) sK rfl ?_
     refine L_p up0 rfl rfl (P_move o8) ?_
     refine L_p (.int .i64 (x1)) rfl rfl (P_move nA) ?_
     refine L_p (ePtr up0 x1 1) rfl rfl (P_indexAddrM (α := Int) Tryz.underlying25 Tryz.sizeOf3 rfl x6 rfl kG) ?_
     refine L_ld (c := .int .i64 (yC)) rfl rfl .plain (fun _ _ h => ⟨h.ch, fun b hb _ => h.below.block b hb⟩) tK rfl ?_
     refine L_do (φ := fun v g w => v = .int .i64 (kA)) rfl rfl .plain (fun g w hd => D_callv (g := g) (vs := [.int .i64 (xC), .int .i64 (yC)]) rfl fen4 (.cons rfl (.cons rfl .nil)) (fcl4 _ _ (hfr.ext hd.1).ch _ _ _ _ _  (RV_int.2 rfl) (RV_int.2 rfl) uK) fun g' w' v hs hr => ⟨g', hs, RV_int.1 hr⟩) (fun yO hv => ?_)
     obtain ⟨_, _, _, rfl⟩ := hv
     refine L_p (.bool ((decide (kA < (0 : Int))))) rfl rfl (P_int rfl rfl rfl) ?_
     refine L_nl fun oI zO hs => ?_
     have hfr := hfr.ext hs
     have x6 := x6.ext hs
     clear hs
     refine EL_nil (thn_n ?_)
     rcases csome h with ⟨eD, h⟩ | ⟨eD, h⟩
     ·refine E_ct eD rfl ?_
      refine E_region (EL_mw (.int .i64 ((w64 l5))) rfl rfl ?_)
      refine EL_in (.int .i64 ((w64 ((w64 l5) + (1 : Int))))) rfl rfl rfl rfl ?_
      refine EL_at (.int .i64 ((w64 ((w64 l5) + (1 : Int))))) rfl rfl ?_
      exact EL_nil (blk_n (thn_n (iG ((w64 ((w64 l5) + (1 : Int))), z4) _ _ ⟨oI, hfr, o8, x6, nA, oA, rfl, jB⟩ h)))
     ·refine E_cf eD rfl ?_
      refine E_region (EL_mw (.int .i64 ((w64 l5))) rfl rfl ?_)
      refine EL_at (.int .i64 ((w64 l5))) rfl rfl ?_
      exact EL_nil (blk_n (thn_n (iG (o3, (w64 l5)) _ _ ⟨oI, hfr, o8, x6, nA, oA, iB, rfl⟩ h)))
   ·clear hx
    obtain ⟨eM, hfr, pI, qI, rI, aH⟩ := hR
    obtain ⟨mA, hx, h⟩ := bsome h
    refine E_join (fun e w => ∃ (g : Gh) , FrM iI gI wI g w ∧ e 0 = up0 ∧ OM 1 g w 3 (mA : List Int) up0) (fun Q' hQ => ?_) (fun qN aP hR => ?_)
    ·replace h := hx
     clear hx
     refine E_seq (E_region (EL_mv rI rfl ?_))
     refine EL_at (.int .i64 (x1)) rfl rfl ?_
     refine EL_nil (thn_n (E_block ?_))
     refine E_lp h (fun (s : (List Int) × Int) e w => ∃ (g : Gh) , FrM iI gI wI g w ∧ e 0 = up0 ∧ OM 1 g w 3 (s.1 : List Int) up0 ∧ e 10 = .int .i64 (t5) ∧ e 13 = .int .i64 (s.2)) ⟨eM, hfr, pI, qI, aH, rfl⟩ (fun X343 kI vK => ?_)
     rintro ⟨v6, z2⟩ rN bP ⟨sI, hfr, zD, aE, kB, lB⟩ h
     refine E_joinC h (fun (s : Unit) e w => ∃ (g : Gh) , FrM iI gI wI g w ∧ e 0 = up0 ∧ OM 1 g w 3 (v6 : List Int) up0 ∧ e 10 = .int .i64 (t5) ∧ e 13 = .int .i64 (z2)) (fun X346 lI xK h => ?_) ?_
     ·refine E_seq (E_region (EL_mv lB rfl ?_))
      refine EL_mv kB rfl ?_
      refine EL_in (.int .i64 ((w64 (t5 - (1 : Int))))) rfl rfl rfl rfl ?_
      refine EL_p (.bool ((decide (z2 < (w64 (t5 - (1 : Int))))))) (P_int rfl rfl rfl) rfl ?_
      refine EL_nil (thn_n ?_)
      rcases csome h with ⟨gD, h⟩ | ⟨gD, h⟩
      ·refine E_ct gD rfl ?_
       exact E_skip (thn_n (xK () _ _ ⟨sI, hfr, zD, aE, kB, lB⟩ h))
      ·refine E_cf gD rfl ?_
       refine E_exit ?_
       refine thn_e ?_
       refine thn_e ?_
       refine blk_hit ?_
       obtain rfl := sinj h
       exact hQ _ _ ⟨sI, hfr, zD, aE⟩
     ·rintro _ sN gM ⟨tI, hfr, c8, y6, bH, n7⟩ h
      obtain ⟨n8, hx, h⟩ := bsome h
      refine E_join (fun e w => ∃ (g : Gh) , FrM iI gI wI g w ∧ e 0 = up0 ∧ OM 1 g w 3 (n8 : List Int) up0 ∧ e 10 = .int .i64 (t5) ∧ e 13 = .int .i64 (z2)) (fun Q' hQ => ?_) (fun tN cP hR => ?_)
      ·replace h := hx
       clear hx
       refine E_block ?_
       obtain ⟨lA, lG, h⟩ := bsome h
       refine L_loadM (x := .tmp 69) Tryz.isAgg3 Tryz.sizeOf3 y6 lG fun dP iM yK => ?_
       obtain rfl := RV_int.1 iM
       obtain ⟨aD, mG, h⟩ := bsome h
       refine L_loadM (x := .tmp 73) Tryz.isAgg3 Tryz.sizeOf3 y6 mG fun eP jM zK => ?_
       obtain rfl := RV_int.1 jM
       obtain ⟨zL, nG, h⟩ := bsome h
       refine E_drawTL (g := tI) (n := 15) [2, 3, 4] [] [0, 1, 2, 3, 4, 5, 6, 7, 8, 9, 10, 11, 12, 13, 14] rfl mixed (by kernel_rfl) trivial rfl ?_
       refine L_p up0 rfl rfl (P_move c8) ?_
       refine L_p (.int .i64 (z2)) rfl rfl (P_move n7) ?_
       refine L_purL (c := up0) rfl rfl .plain (P_move c8) ?_
       refine L_purL (c := .int .i64 (z2)) rfl rfl .plain (P_move n7) ?_
       refine L_purL (c := .int .i64 ((w64 (z2 + (1 : Int))))) rfl rfl .plain (P_int rfl rfl rfl) ?_
       refine L_p up0 rfl rfl (P_move c8) ?_
       refine L_p (.int .i64 (z2)) rfl rfl (P_move n7) ?_
       refine L_p (.int .i64 ((w64 (z2 + (1 : Int))))) rfl rfl (P_int rfl rfl rfl) ?_
       refine L_p (ePtr up0 (w64 (z2 + (1 : Int))) 1) rfl rfl (P_indexAddrM (α := Int) Tryz.underlying25 Tryz.sizeOf3 rfl y6 rfl lG) ?_
       refine L_ld (c := .int .i64 (lA)) rfl rfl .plain (fun _ _ h => ⟨h.ch, fun b hb _ => h.below.block b hb⟩) yK rfl ?_
       refine L_p up0 rfl rfl (P_move c8) ?_
       refine L_p (.int .i64 (z2)) rfl rfl (P_move n7) ?_
       refine L_p (ePtr up0 z2 1) rfl rfl (P_indexAddrM (α := Int) Tryz.underlying25 Tryz.sizeOf3 rfl y6 rfl mG) ?_
       refine L_ld (c := .int .i64 (aD)) rfl rfl .plain (fun _ _ h => ⟨h.ch, fun b hb _ => h.below.block b hb⟩) zK rfl ?_
       refine L_p (ePtr up0 z2 1) rfl rfl (P_indexAddrM (α := Int) Tryz.underlying25 Tryz.sizeOf3 rfl y6 rfl nG) ?_
       refine L_nl fun uI kM hs => ?_
       have hlt : Lt tI.m gM uI kM := hs.ch
       have hfr := hfr.ext hs
       have y6 := y6.ext hs
       clear hs
       refine TL_do hlt.w .plain rfl (D_storeM (g := uI) (α := Int) (a' := lA) Tryz.sizeOf3 rfl y6 nG rfl (RV_int.2 rfl) fun mM gP hs b400 => ?_)
       have hfr := hfr.stp hs
       have hlt := hlt.stp hs
       obtain ⟨aM, oG, h⟩ := bsome h
       refine TL_pur hlt.w (v := ePtr up0 (w64 (z2 + (1 : Int))) 1) (P_indexAddrM (α := Int) Tryz.underlying25 Tryz.sizeOf3 rfl b400 rfl oG) .plain rfl ?_
       refine TL_do hlt.w .plain rfl (D_storeM (g := mM) (α := Int) (a' := aD) Tryz.sizeOf3 rfl b400 oG rfl (RV_int.2 rfl) fun nM iP hs b402 => ?_)
       have hfr := hfr.stp hs
       have hlt := hlt.stp hs
       refine TL_nil hlt.w ?_
       clear hlt
       refine blk_n ?_
       obtain rfl := sinj h
       exact hQ _ _ ⟨nM, hfr, c8, b402, bH, n7⟩
      ·clear hx
       obtain ⟨oM, hfr, vI, xI, cH, dH⟩ := hR
       refine E_region (EL_mv dH rfl ?_)
       refine EL_in (.int .i64 ((w64 (z2 + (1 : Int))))) rfl rfl rfl rfl ?_
       refine EL_at (.int .i64 ((w64 (z2 + (1 : Int))))) rfl rfl ?_
       exact EL_nil (thn_n (vK (n8, (w64 (z2 + (1 : Int)))) _ _ ⟨oM, hfr, vI, xI, cH, rfl⟩ h))
    ·clear hx
     obtain ⟨jP, hfr, lN, yI⟩ := hR
     refine E_ret (thn_r ?_)
     obtain rfl := sinj h
     exact end0 rfl rfl ⟨_, hfr, rfl, gA.back yI⟩
  ·refine E_cf bD rfl ?_
   exact E_skip (thn_n (oK (x0) _ _ ⟨g0, hfr, rfl, mp0, rfl, rfl, rfl, rfl⟩ h))
 ·rintro x5 uN kP ⟨zI, hfr, bE, cE, dE, q8, eE, gE⟩ h
  refine E_joinC h (fun (s : (List Int)) e w => ∃ (g : Gh) , FrM iI gI wI g w ∧ e 0 = up0 ∧ OM 1 g w 3 (s : List Int) up0 ∧ e 1 = .int .i64 (x1) ∧ e 2 = .int .i64 (x2) ∧ e 3 = .int .i64 (x3) ∧ e 4 = (.func (.func ff4) fa4 fc4)) (fun X609 zH aL h => ?_) ?_
  ·refine E_seq (E_region (EL_mv eE rfl ?_))
   refine EL_mv q8 rfl ?_
   refine EL_in (.int .i64 ((w64 (x3 - x2)))) rfl rfl rfl rfl ?_
   refine EL_in (.bool (((w64 (x3 - x2)) == (1 : Int)))) rfl rfl rfl rfl ?_
   refine EL_nil (thn_n ?_)
   rcases csome h with ⟨iD, h⟩ | ⟨iD, h⟩
   ·refine E_ct iD rfl ?_
    refine E_seq (E_region (EL_mv dE rfl ?_))
    refine EL_at (.int .i64 (x1)) rfl rfl ?_
    refine EL_nil (thn_n (E_seq (E_region (EL_mv q8 rfl ?_))))
    refine EL_at (.int .i64 (x2)) rfl rfl ?_
    refine EL_nil (thn_n ?_)
    obtain ⟨i6, hx, h⟩ := bsome h
    refine E_join (fun e w => ∃ (g : Gh) , FrM iI gI wI g w ∧ e 0 = up0 ∧ OM 1 g w 3 (x5 : List Int) up0 ∧ e 2 = .int .i64 (x2) ∧ e 14 = .int .i64 (i6)) (fun Q' hQ => ?_) (fun vN lP hR => ?_)
    ·replace h := hx
     clear hx
     refine E_block ?_
     refine E_lp h (fun (s : Int × Int) e w => ∃ (g : Gh) , FrM iI gI wI g w ∧ e 0 = up0 ∧ OM 1 g w 3 (x5 : List Int) up0 ∧ e 2 = .int .i64 (x2) ∧ e 4 = (.func (.func ff4) fa4 fc4) ∧ e 14 = .int .i64 (s.1) ∧ e 15 = .int .i64 (s.2)) ⟨zI, hfr, bE, cE, q8, gE, rfl, rfl⟩ (fun X650 gG pG => ?_)
     rintro ⟨j3, z3⟩ xN mP ⟨aJ, hfr, iE, jE, kE, bJ, l9, mB⟩ h
     refine E_joinC h (fun (s : Unit) e w => ∃ (g : Gh) , FrM iI gI wI g w ∧ e 0 = up0 ∧ OM 1 g w 3 (x5 : List Int) up0 ∧ e 2 = .int .i64 (x2) ∧ e 4 = (.func (.func ff4) fa4 fc4) ∧ e 14 = .int .i64 (j3) ∧ e 15 = .int .i64 (z3)) (fun X653 aI bL h => ?_) ?_
     ·refine E_seq (E_region (EL_mv l9 rfl ?_))
      refine EL_mv mB rfl ?_
      refine EL_in (.bool ((decide (j3 < z3)))) rfl rfl rfl rfl ?_
      refine EL_nil (thn_n ?_)
      rcases csome h with ⟨jD, h⟩ | ⟨jD, h⟩
      ·refine E_ct jD rfl ?_
       exact E_skip (thn_n (bL () _ _ ⟨aJ, hfr, iE, jE, kE, bJ, l9, mB⟩ h))
      ·refine E_cf jD rfl ?_
       refine E_exit ?_
       refine thn_e ?_
       refine thn_e ?_
       refine blk_hit ?_
       obtain rfl := sinj h
       exact hQ _ _ ⟨aJ, hfr, iE, jE, kE, l9⟩
     ·rintro _ yN nP ⟨pM, hfr, r8, a7, pA, qA, nB, oB⟩ h
      refine E_block ?_
      refine E_seq (E_region (EL_mv nB rfl ?_))
      refine EL_mv oB rfl ?_
      refine EL_in (.int .i64 ((w64 (j3 + z3)))) rfl rfl rfl rfl ?_
      refine EL_p (.int .u64 (wu64 (w64 (j3 + z3)))) (P_intu64 Tryz.underlying3 Tryz.underlying134 rfl) rfl ?_
      obtain ⟨i5, cL, h⟩ := bsome h
      refine EL_p (.int .u64 (i5)) (P_shrU rfl rfl cL) rfl ?_
      refine EL_p (.int .i64 ((w64 i5))) (P_u64int Tryz.underlying134 Tryz.underlying3 rfl) rfl ?_
      refine EL_at (.int .i64 ((w64 i5))) rfl rfl ?_
      refine EL_nil (thn_n (E_seq ?_))
      obtain ⟨tC, qG, h⟩ := bsome h
      refine L_loadM (x := .tmp 95) Tryz.isAgg3 Tryz.sizeOf3 a7 qG fun oP qM dL => ?_
      obtain rfl := RV_int.1 qM
      obtain ⟨uC, rG, h⟩ := bsome h
      refine L_loadM (x := .tmp 99) Tryz.isAgg3 Tryz.sizeOf3 a7 rG fun pP rM eL => ?_
      obtain rfl := RV_int.1 rM
      obtain ⟨i9, gL, h⟩ := bsome h
      refine E_drawL (g := pM) (n := 12) [(9, (fun v g w => v = .int .i64 (i9)))] [0, 1, 2, 3, 4, 5, 6, 7, 8, 9, 10, 11] rfl mixed (by kernel_rfl) (⟨fun _ => up_eq _, trivial⟩) ?_
      refine L_p ((.func (.func ff4) fa4 fc4)) rfl rfl (P_move qA) ?_
      refine L_p up0 rfl rfl (P_move r8) ?_
      refine L_p (.int .i64 (x2)) rfl rfl (P_move pA) ?_
      refine L_p (ePtr up0 x2 1) rfl rfl (P_indexAddrM (α := Int) Tryz.underlying25 Tryz.sizeOf3 rfl a7 rfl qG) ?_
      refine L_ld (c := .int .i64 (tC)) rfl rfl .plain (fun _ _ h => ⟨h.ch, fun b hb _ => h.below.block b hb⟩) dL rfl ?_
      refine L_p up0 rfl rfl (P_move r8) ?_
      refine L_p (.int .i64 ((w64 i5))) rfl rfl (P_move rfl) ?_
      refine L_p (ePtr up0 (w64 i5) 1) rfl rfl (P_indexAddrM (α := Int) Tryz.underlying25 Tryz.sizeOf3 rfl a7 rfl rG) ?_
      refine L_ld (c := .int .i64 (uC)) rfl rfl .plain (fun _ _ h => ⟨h.ch, fun b hb _ => h.below.block b hb⟩) eL rfl ?_
      refine L_do (φ := fun v g w => v = .int .i64 (i9)) rfl rfl .plain (fun g w hd => D_callv (g := g) (vs := [.int .i64 (tC), .int .i64 (uC)]) rfl fen4 (.cons rfl (.cons rfl .nil)) (fcl4 _ _ (hfr.ext hd.1).ch _ _ _ _ _  (RV_int.2 rfl) (RV_int.2 rfl) gL) fun g' w' v hs hr => ⟨g', hs, RV_int.1 hr⟩) (fun sP hv => ?_)
      obtain ⟨_, _, _, rfl⟩ := hv
      refine L_p (.bool ((decide (i9 < (0 : Int))))) rfl rfl (P_int rfl rfl rfl) ?_
      refine L_p (.bool (!(decide (i9 < (0 : Int))))) rfl rfl (P_not rfl) ?_
      refine L_nl fun cJ tP hs => ?_
      have hfr := hfr.ext hs
      have a7 := a7.ext hs
      clear hs
      refine EL_nil (thn_n ?_)
      rcases csome h with ⟨kD, h⟩ | ⟨kD, h⟩
      ·refine E_ct kD rfl ?_
       refine E_region (EL_mw (.int .i64 ((w64 i5))) rfl rfl ?_)
       refine EL_in (.int .i64 ((w64 ((w64 i5) + (1 : Int))))) rfl rfl rfl rfl ?_
       refine EL_at (.int .i64 ((w64 ((w64 i5) + (1 : Int))))) rfl rfl ?_
       exact EL_nil (blk_n (thn_n (pG ((w64 ((w64 i5) + (1 : Int))), z3) _ _ ⟨cJ, hfr, r8, a7, pA, qA, rfl, oB⟩ h)))
      ·refine E_cf kD rfl ?_
       refine E_region (EL_mw (.int .i64 ((w64 i5))) rfl rfl ?_)
       refine EL_at (.int .i64 ((w64 i5))) rfl rfl ?_
       exact EL_nil (blk_n (thn_n (pG (j3, (w64 i5)) _ _ ⟨cJ, hfr, r8, a7, pA, qA, nB, rfl⟩ h)))
    ·clear hx
     obtain ⟨sM, hfr, dJ, eJ, gJ, gH⟩ := hR
     obtain ⟨jA, hx, h⟩ := bsome h
     refine E_join (fun e w => ∃ (g : Gh) , FrM iI gI wI g w ∧ e 0 = up0 ∧ OM 1 g w 3 (jA : List Int) up0) (fun Q' hQ => ?_) (fun zN uP hR => ?_)
     ·replace h := hx
      clear hx
      refine E_seq (E_region (EL_mv gJ rfl ?_))
      refine EL_at (.int .i64 (x2)) rfl rfl ?_
      refine EL_nil (thn_n (E_block ?_))
      refine E_lp h (fun (s : (List Int) × Int) e w => ∃ (g : Gh) , FrM iI gI wI g w ∧ e 0 = up0 ∧ OM 1 g w 3 (s.1 : List Int) up0 ∧ e 14 = .int .i64 (i6) ∧ e 17 = .int .i64 (s.2)) ⟨sM, hfr, dJ, eJ, gH, rfl⟩ (fun X751 bI iL => ?_)
      rintro ⟨j6, j1⟩ aO vP ⟨iJ, hfr, lE, mE, tB, vB⟩ h
      refine E_joinC h (fun (s : Unit) e w => ∃ (g : Gh) , FrM iI gI wI g w ∧ e 0 = up0 ∧ OM 1 g w 3 (j6 : List Int) up0 ∧ e 14 = .int .i64 (i6) ∧ e 17 = .int .i64 (j1)) (fun X754 cI jL h => ?_) ?_
      ·refine E_seq (E_region (EL_mv vB rfl ?_))
       refine EL_mv tB rfl ?_
       refine EL_in (.bool ((decide (j1 > i6)))) rfl rfl rfl rfl ?_
       refine EL_nil (thn_n ?_)
       rcases csome h with ⟨lD, h⟩ | ⟨lD, h⟩
       ·refine E_ct lD rfl ?_
        exact E_skip (thn_n (jL () _ _ ⟨iJ, hfr, lE, mE, tB, vB⟩ h))
       ·refine E_cf lD rfl ?_
        refine E_exit ?_
        refine thn_e ?_
        refine thn_e ?_
        refine blk_hit ?_
        obtain rfl := sinj h
        exact hQ _ _ ⟨iJ, hfr, lE, mE⟩
      ·rintro _ bO tM ⟨jJ, hfr, e8, b7, iH, o7⟩ h
       obtain ⟨m8, hx, h⟩ := bsome h
       refine E_join (fun e w => ∃ (g : Gh) , FrM iI gI wI g w ∧ e 0 = up0 ∧ OM 1 g w 3 (m8 : List Int) up0 ∧ e 14 = .int .i64 (i6) ∧ e 17 = .int .i64 (j1)) (fun Q' hQ => ?_) (fun cO xP hR => ?_)
       ·replace h := hx
        clear hx
        refine E_block ?_
        obtain ⟨iA, sG, h⟩ := bsome h
        refine L_loadM (x := .tmp 121) Tryz.isAgg3 Tryz.sizeOf3 b7 sG fun yP uM kL => ?_
        obtain rfl := RV_int.1 uM
        obtain ⟨vC, tG, h⟩ := bsome h
        refine L_loadM (x := .tmp 125) Tryz.isAgg3 Tryz.sizeOf3 b7 tG fun zP vM lL => ?_
        obtain rfl := RV_int.1 vM
        obtain ⟨xL, uG, h⟩ := bsome h
        refine E_drawTL (g := jJ) (n := 15) [2, 3, 4] [] [0, 1, 2, 3, 4, 5, 6, 7, 8, 9, 10, 11, 12, 13, 14] rfl mixed (by kernel_rfl) trivial rfl ?_
        refine L_p up0 rfl rfl (P_move e8) ?_
        refine L_p (.int .i64 (j1)) rfl rfl (P_move o7) ?_
        refine L_purL (c := up0) rfl rfl .plain (P_move e8) ?_
        refine L_purL (c := .int .i64 (j1)) rfl rfl .plain (P_move o7) ?_
        refine L_purL (c := .int .i64 ((w64 (j1 - (1 : Int))))) rfl rfl .plain (P_int rfl rfl rfl) ?_
        refine L_p up0 rfl rfl (P_move e8) ?_
        refine L_p (.int .i64 (j1)) rfl rfl (P_move o7) ?_
        refine L_p (.int .i64 ((w64 (j1 - (1 : Int))))) rfl rfl (P_int rfl rfl rfl) ?_
        refine L_p (ePtr up0 (w64 (j1 - (1 : Int))) 1) rfl rfl (P_indexAddrM (α := Int) Tryz.underlying25 Tryz.sizeOf3 rfl b7 rfl sG) ?_
        refine L_ld (c := .int .i64 (iA)) rfl rfl .plain (fun _ _ h => ⟨h.ch, fun b hb _ => h.below.block b hb⟩) kL rfl ?_
        refine L_p up0 rfl rfl (P_move e8) ?_
        refine L_p (.int .i64 (j1)) rfl rfl (P_move o7) ?_
        refine L_p (ePtr up0 j1 1) rfl rfl (P_indexAddrM (α := Int) Tryz.underlying25 Tryz.sizeOf3 rfl b7 rfl tG) ?_
        refine L_ld (c := .int .i64 (vC)) rfl rfl .plain (fun _ _ h => ⟨h.ch, fun b hb _ => h.below.block b hb⟩) lL rfl ?_
        refine L_p (ePtr up0 j1 1) rfl rfl (P_indexAddrM (α := Int) Tryz.underlying25 Tryz.sizeOf3 rfl b7 rfl uG) ?_
        refine L_nl fun kJ xM hs => ?_
        have hlt : Lt jJ.m tM kJ xM := hs.ch
        have hfr := hfr.ext hs
        have b7 := b7.ext hs
        clear hs
        refine TL_do hlt.w .plain rfl (D_storeM (g := kJ) (α := Int) (a' := iA) Tryz.sizeOf3 rfl b7 uG rfl (RV_int.2 rfl) fun yM bQ hs b808 => ?_)
        have hfr := hfr.stp hs
        have hlt := hlt.stp hs
        obtain ⟨yL, vG, h⟩ := bsome h
        refine TL_pur hlt.w (v := ePtr up0 (w64 (j1 - (1 : Int))) 1) (P_indexAddrM (α := Int) Tryz.underlying25 Tryz.sizeOf3 rfl b808 rfl vG) .plain rfl ?_
        refine TL_do hlt.w .plain rfl (D_storeM (g := yM) (α := Int) (a' := vC) Tryz.sizeOf3 rfl b808 vG rfl (RV_int.2 rfl) fun zM cQ hs b810 => ?_)
        have hfr := hfr.stp hs
        have hlt := hlt.stp hs
        refine TL_nil hlt.w ?_
        clear hlt
        refine blk_n ?_
        obtain rfl := sinj h
        exact hQ _ _ ⟨zM, hfr, e8, b810, iH, o7⟩
       ·clear hx
        obtain ⟨bN, hfr, lJ, mJ, jH, kH⟩ := hR
        refine E_region (EL_mv kH rfl ?_)
        refine EL_in (.int .i64 ((w64 (j1 - (1 : Int))))) rfl rfl rfl rfl ?_
        refine EL_at (.int .i64 ((w64 (j1 - (1 : Int))))) rfl rfl ?_
        exact EL_nil (thn_n (iL (m8, (w64 (j1 - (1 : Int)))) _ _ ⟨bN, hfr, lJ, mJ, jH, rfl⟩ h))
     ·clear hx
      obtain ⟨dQ, hfr, mN, nJ⟩ := hR
      refine E_ret (thn_r ?_)
      obtain rfl := sinj h
      exact end0 rfl rfl ⟨_, hfr, rfl, gA.back nJ⟩
   ·refine E_cf iD rfl ?_
    exact E_skip (thn_n (aL (x5) _ _ ⟨zI, hfr, bE, cE, dE, q8, eE, gE⟩ h))
  ·rintro q5 dO eQ ⟨oJ, hfr, nE, oE, t8, g8, v8, rE⟩ h
   refine E_seq (E_region (EL_mv t8 rfl ?_))
   refine EL_mv v8 rfl ?_
   refine EL_in (.int .i64 ((w64 (x1 + x3)))) rfl rfl rfl rfl ?_
   refine EL_p (.int .u64 (wu64 (w64 (x1 + x3)))) (P_intu64 Tryz.underlying3 Tryz.underlying134 rfl) rfl ?_
   obtain ⟨u0, mL, h⟩ := bsome h
   refine EL_p (.int .u64 (u0)) (P_shrU rfl rfl mL) rfl ?_
   refine EL_p (.int .i64 ((w64 u0))) (P_u64int Tryz.underlying134 Tryz.underlying3 rfl) rfl ?_
   refine EL_at (.int .i64 ((w64 u0))) rfl rfl ?_
   refine EL_nil (thn_n (E_seq (E_region (EL_mw (.int .i64 ((w64 u0))) rfl rfl ?_))))
   refine EL_mv g8 rfl ?_
   refine EL_in (.int .i64 ((w64 ((w64 u0) + x2)))) rfl rfl rfl rfl ?_
   refine EL_at (.int .i64 ((w64 ((w64 u0) + x2)))) rfl rfl ?_
   refine EL_nil (thn_n (E_seq (E_region (EL_at (.int .i64 (0)) rfl rfl ?_))))
   refine EL_at (.int .i64 (0)) rfl rfl ?_
   refine EL_nil (thn_n ?_)
   obtain ⟨⟨a9, d9⟩, hx, h⟩ := bsome h
   refine E_join (fun e w => ∃ (g : Gh) , FrM iI gI wI g w ∧ e 0 = up0 ∧ OM 1 g w 3 (q5 : List Int) up0 ∧ e 1 = .int .i64 (x1) ∧ e 2 = .int .i64 (x2) ∧ e 3 = .int .i64 (x3) ∧ e 4 = (.func (.func ff4) fa4 fc4) ∧ e 18 = .int .i64 ((w64 u0)) ∧ e 19 = .int .i64 ((w64 ((w64 u0) + x2))) ∧ e 20 = .int .i64 (a9) ∧ e 21 = .int .i64 (d9)) (fun Q' hQ => ?_) (fun eO gQ hR => ?_)
   ·replace h := hx
    clear hx
    refine E_seq (E_region (EL_mv g8 rfl ?_))
    refine EL_mw (.int .i64 ((w64 u0))) rfl rfl ?_
    refine EL_in (.bool ((decide (x2 > (w64 u0))))) rfl rfl rfl rfl ?_
    refine EL_nil (thn_n ?_)
    rcases csome h with ⟨mD, h⟩ | ⟨mD, h⟩
    ·refine E_ct mD rfl ?_
     refine E_seq (E_region (EL_mw (.int .i64 ((w64 ((w64 u0) + x2)))) rfl rfl ?_))
     refine EL_mv v8 rfl ?_
     refine EL_p (.int .i64 ((w64 ((w64 ((w64 u0) + x2)) - x3)))) (P_int rfl rfl rfl) rfl ?_
     refine EL_p (.int .i64 ((w64 ((w64 ((w64 u0) + x2)) - x3)))) (P_assign rfl) rfl ?_
     refine EL_nil (thn_n (E_region (EL_mw (.int .i64 ((w64 u0))) rfl rfl ?_)))
     refine EL_at (.int .i64 ((w64 u0))) rfl rfl ?_
     refine EL_nil ?_
     obtain ⟨rfl, rfl⟩ := pairs2 h
     exact hQ _ _ ⟨oJ, hfr, nE, oE, t8, g8, v8, rE, rfl, rfl, rfl, rfl⟩
    ·refine E_cf mD rfl ?_
     refine E_seq (E_region (EL_mv t8 rfl ?_))
     refine EL_at (.int .i64 (x1)) rfl rfl ?_
     refine EL_nil (thn_n (E_region (EL_mv g8 rfl ?_)))
     refine EL_at (.int .i64 (x2)) rfl rfl ?_
     refine EL_nil ?_
     obtain ⟨rfl, rfl⟩ := pairs2 h
     exact hQ _ _ ⟨oJ, hfr, nE, oE, t8, g8, v8, rE, rfl, rfl, rfl, rfl⟩
   ·clear hx
    obtain ⟨cN, hfr, pJ, qJ, rJ, sJ, tJ, uJ, lH, xB, mH, nH⟩ := hR
    refine E_seq (E_region (EL_mv xB rfl ?_))
    refine EL_p (.int .i64 ((w64 ((w64 ((w64 u0) + x2)) - (1 : Int))))) (P_int rfl rfl rfl) rfl ?_
    refine EL_p (.int .i64 ((w64 ((w64 ((w64 u0) + x2)) - (1 : Int))))) (P_assign rfl) rfl ?_
    refine EL_nil (thn_n ?_)
    obtain ⟨o0, hx, h⟩ := bsome h
    refine E_join (fun e w => ∃ (g : Gh) , FrM iI gI wI g w ∧ e 0 = up0 ∧ OM 1 g w 3 (q5 : List Int) up0 ∧ e 1 = .int .i64 (x1) ∧ e 2 = .int .i64 (x2) ∧ e 3 = .int .i64 (x3) ∧ e 4 = (.func (.func ff4) fa4 fc4) ∧ e 18 = .int .i64 ((w64 u0)) ∧ e 19 = .int .i64 ((w64 ((w64 u0) + x2))) ∧ e 20 = .int .i64 (o0)) (fun Q' hQ => ?_) (fun gO iQ hR => ?_)
    ·replace h := hx
     clear hx
     refine E_block ?_
     refine E_lp h (fun (s : Int × Int) e w => ∃ (g : Gh) , FrM iI gI wI g w ∧ e 0 = up0 ∧ OM 1 g w 3 (q5 : List Int) up0 ∧ e 1 = .int .i64 (x1) ∧ e 2 = .int .i64 (x2) ∧ e 3 = .int .i64 (x3) ∧ e 4 = (.func (.func ff4) fa4 fc4) ∧ e 18 = .int .i64 ((w64 u0)) ∧ e 19 = .int .i64 ((w64 ((w64 u0) + x2))) ∧ e 20 = .int .i64 (s.1) ∧ e 21 = .int .i64 (s.2) ∧ e 22 = .int .i64 ((w64 ((w64 ((w64 u0) + x2)) - (1 : Int))))) ⟨cN, hfr, pJ, qJ, rJ, sJ, tJ, uJ, lH, xB, mH, nH, rfl⟩ (fun X864 eG xG => ?_)
     rintro ⟨i3, u3⟩ iO jQ ⟨vJ, hfr, sE, tE, uE, vE, xE, yE, yB, zB, n9, aC, oH⟩ h
     refine E_joinC h (fun (s : Unit) e w => ∃ (g : Gh) , FrM iI gI wI g w ∧ e 0 = up0 ∧ OM 1 g w 3 (q5 : List Int) up0 ∧ e 1 = .int .i64 (x1) ∧ e 2 = .int .i64 (x2) ∧ e 3 = .int .i64 (x3) ∧ e 4 = (.func (.func ff4) fa4 fc4) ∧ e 18 = .int .i64 ((w64 u0)) ∧ e 19 = .int .i64 ((w64 ((w64 u0) + x2))) ∧ e 20 = .int .i64 (i3) ∧ e 21 = .int .i64 (u3) ∧ e 22 = .int .i64 ((w64 ((w64 ((w64 u0) + x2)) - (1 : Int))))) (fun X867 uH nL h => ?_) ?_
     ·refine E_seq (E_region (EL_mv n9 rfl ?_))
      refine EL_mv aC rfl ?_
      refine EL_in (.bool ((decide (i3 < u3)))) rfl rfl rfl rfl ?_
      refine EL_nil (thn_n ?_)
      rcases csome h with ⟨nD, h⟩ | ⟨nD, h⟩
      ·refine E_ct nD rfl ?_
       exact E_skip (thn_n (nL () _ _ ⟨vJ, hfr, sE, tE, uE, vE, xE, yE, yB, zB, n9, aC, oH⟩ h))
      ·refine E_cf nD rfl ?_
       refine E_exit ?_
       refine thn_e ?_
       refine thn_e ?_
       refine blk_hit ?_
       obtain rfl := sinj h
       exact hQ _ _ ⟨vJ, hfr, sE, tE, uE, vE, xE, yE, yB, zB, n9⟩
     ·rintro _ jO kQ ⟨dN, hfr, x8, c7, zE, cF, dF, rA, cC, dC, eC, iC, o9⟩ h
      refine E_block ?_
      refine E_seq (E_region (EL_mv eC rfl ?_))
      refine EL_mv iC rfl ?_
      refine EL_in (.int .i64 ((w64 (i3 + u3)))) rfl rfl rfl rfl ?_
      refine EL_p (.int .u64 (wu64 (w64 (i3 + u3)))) (P_intu64 Tryz.underlying3 Tryz.underlying134 rfl) rfl ?_
      obtain ⟨d3, oL, h⟩ := bsome h
      refine EL_p (.int .u64 (d3)) (P_shrU rfl rfl oL) rfl ?_
      refine EL_p (.int .i64 ((w64 d3))) (P_u64int Tryz.underlying134 Tryz.underlying3 rfl) rfl ?_
      refine EL_at (.int .i64 ((w64 d3))) rfl rfl ?_
      refine EL_nil (thn_n (E_seq ?_))
      obtain ⟨qC, yG, h⟩ := bsome h
      refine L_loadM (x := .tmp 163) Tryz.isAgg3 Tryz.sizeOf3 c7 yG fun lQ eN pL => ?_
      obtain rfl := RV_int.1 eN
      obtain ⟨rC, zG, h⟩ := bsome h
      refine L_loadM (x := .tmp 167) Tryz.isAgg3 Tryz.sizeOf3 c7 zG fun mQ gN qL => ?_
      obtain rfl := RV_int.1 gN
      obtain ⟨e9, rL, h⟩ := bsome h
      refine E_drawL (g := dN) (n := 14) [(11, (fun v g w => v = .int .i64 (e9)))] [0, 1, 2, 3, 4, 5, 6, 7, 8, 9, 10, 11, 12, 13] rfl mixed (by kernel_rfl) (⟨fun _ => up_eq _, trivial⟩) ?_
      refine L_p ((.func (.func ff4) fa4 fc4)) rfl rfl (P_move rA) ?_
      refine L_p up0 rfl rfl (P_move x8) ?_
      refine L_p (.int .i64 ((w64 ((w64 ((w64 u0) + x2)) - (1 : Int))))) rfl rfl (P_move o9) ?_
      refine L_p (.int .i64 ((w64 d3))) rfl rfl (P_move rfl) ?_
      refine L_p (.int .i64 ((w64 ((w64 ((w64 ((w64 u0) + x2)) - (1 : Int))) - (w64 d3))))) rfl rfl (P_int rfl rfl rfl) ?_
      refine L_p (ePtr up0 (w64 ((w64 ((w64 ((w64 u0) + x2)) - (1 : Int))) - (w64 d3))) 1) rfl rfl (P_indexAddrM (α := Int) Tryz.underlying25 Tryz.sizeOf3 rfl c7 rfl yG) ?_
      refine L_ld (c := .int .i64 (qC)) rfl rfl .plain (fun _ _ h => ⟨h.ch, fun b hb _ => h.below.block b hb⟩) pL rfl ?_
      refine L_p up0 rfl rfl (P_move x8) ?_
      refine L_p (.int .i64 ((w64 d3))) rfl rfl (P_move rfl) ?_
      refine L_p (ePtr up0 (w64 d3) 1) rfl rfl (P_indexAddrM (α := Int) Tryz.underlying25 Tryz.sizeOf3 rfl c7 rfl zG) ?_
      refine L_ld (c := .int .i64 (rC)) rfl rfl .plain (fun _ _ h => ⟨h.ch, fun b hb _ => h.below.block b hb⟩) qL rfl ?_
      refine L_do (φ := fun v g w => v = .int .i64 (e9)) rfl rfl .plain (fun g w hd => D_callv (g := g) (vs := [.int .i64 (qC), .int .i64 (rC)]) rfl fen4 (.cons rfl (.cons rfl .nil)) (fcl4 _ _ (hfr.ext hd.1).ch _ _ _ _ _  (RV_int.2 rfl) (RV_int.2 rfl) rL) fun g' w' v hs hr => ⟨g', hs, RV_int.1 hr⟩) (fun nQ hv => ?_)
      obtain ⟨_, _, _, rfl⟩ := hv
      refine L_p (.bool ((decide (e9 < (0 : Int))))) rfl rfl (P_int rfl rfl rfl) ?_
      refine L_p (.bool (!(decide (e9 < (0 : Int))))) rfl rfl (P_not rfl) ?_
      refine L_nl fun xJ oQ hs => ?_
      have hfr := hfr.ext hs
      have c7 := c7.ext hs
      clear hs
      refine EL_nil (thn_n ?_)
      rcases csome h with ⟨oD, h⟩ | ⟨oD, h⟩
      ·refine E_ct oD rfl ?_
       refine E_region (EL_mw (.int .i64 ((w64 d3))) rfl rfl ?_)
       refine EL_in (.int .i64 ((w64 ((w64 d3) + (1 : Int))))) rfl rfl rfl rfl ?_
       refine EL_at (.int .i64 ((w64 ((w64 d3) + (1 : Int))))) rfl rfl ?_
       exact EL_nil (blk_n (thn_n (xG ((w64 ((w64 d3) + (1 : Int))), u3) _ _ ⟨xJ, hfr, x8, c7, zE, cF, dF, rA, cC, dC, rfl, iC, o9⟩ h)))
      ·refine E_cf oD rfl ?_
       refine E_region (EL_mw (.int .i64 ((w64 d3))) rfl rfl ?_)
       refine EL_at (.int .i64 ((w64 d3))) rfl rfl ?_
       exact EL_nil (blk_n (thn_n (xG (i3, (w64 d3)) _ _ ⟨xJ, hfr, x8, c7, zE, cF, dF, rA, cC, dC, eC, rfl, o9⟩ h)))
    ·clear hx
     obtain ⟨yJ, hfr, eF, iF, nF, y8, oF, pF, jC, pH, i8⟩ := hR
     refine E_seq (E_region (EL_mv pH rfl ?_))
     refine EL_mv i8 rfl ?_
     refine EL_p (.int .i64 ((w64 ((w64 ((w64 u0) + x2)) - o0)))) (P_int rfl rfl rfl) rfl ?_
     refine EL_p (.int .i64 ((w64 ((w64 ((w64 u0) + x2)) - o0)))) (P_assign rfl) rfl ?_
     refine EL_nil (thn_n ?_)
     obtain ⟨u7, hx, h⟩ := bsome h
     refine E_join (fun e w => ∃ (g : Gh) , FrM iI gI wI g w ∧ e 0 = up0 ∧ OM 1 g w 3 (u7 : List Int) up0 ∧ e 1 = .int .i64 (x1) ∧ e 3 = .int .i64 (x3) ∧ e 4 = (.func (.func ff4) fa4 fc4) ∧ e 18 = .int .i64 ((w64 u0)) ∧ e 20 = .int .i64 (o0) ∧ e 24 = .int .i64 ((w64 ((w64 ((w64 u0) + x2)) - o0)))) (fun Q' hQ => ?_) (fun kO pQ hR => ?_)
     ·replace h := hx
      clear hx
      obtain ⟨i7, hx, h⟩ := bsome h
      refine E_join (fun e w => ∃ (g : Gh) , FrM iI gI wI g w ∧ e 0 = up0 ∧ OM 1 g w 3 (q5 : List Int) up0 ∧ e 1 = .int .i64 (x1) ∧ e 2 = .int .i64 (x2) ∧ e 3 = .int .i64 (x3) ∧ e 4 = (.func (.func ff4) fa4 fc4) ∧ e 18 = .int .i64 ((w64 u0)) ∧ e 20 = .int .i64 (o0) ∧ e 24 = .int .i64 ((w64 ((w64 ((w64 u0) + x2)) - o0))) ∧ e 185 = .bool (i7)) (fun Q' hQ => ?_) (fun lO qQ hR => ?_)
      ·replace h := hx
       clear hx
       refine E_region (EL_mv i8 rfl ?_)
       refine EL_mv y8 rfl ?_
       refine EL_in (.bool ((decide (o0 < x2)))) rfl rfl rfl rfl ?_
       refine EL_mw (.bool ((decide (o0 < x2)))) rfl rfl ?_
       rcases csome h with ⟨d7, h⟩ | ⟨d7, h⟩
       ·refine EL_y (.int .i64 (x2)) (P_move y8) rfl rfl d7 rfl ?_
        refine EL_y (.int .i64 ((w64 ((w64 ((w64 u0) + x2)) - o0)))) (P_move rfl) rfl rfl d7 rfl ?_
        refine EL_y (.bool ((decide (x2 < (w64 ((w64 ((w64 u0) + x2)) - o0)))))) (P_int rfl rfl rfl) rfl rfl d7 rfl ?_
        refine EL_p (.bool ((decide (x2 < (w64 ((w64 ((w64 u0) + x2)) - o0)))))) (P_pick (b := (decide (o0 < x2))) rfl (pick_t d7 rfl)) rfl ?_
        refine EL_nil ?_
        obtain rfl := sinj h
        exact hQ _ _ ⟨yJ, hfr, eF, iF, nF, y8, oF, pF, jC, i8, rfl, rfl⟩
       ·refine EL_s rfl rfl d7 rfl rfl ?_
        refine EL_s rfl rfl d7 rfl rfl ?_
        refine EL_s rfl rfl d7 rfl rfl ?_
        refine EL_p (.bool false) (P_pick (b := (decide (o0 < x2))) rfl (pick_f d7 rfl)) rfl ?_
        refine EL_nil ?_
        obtain rfl := sinj h
        exact hQ _ _ ⟨yJ, hfr, eF, iF, nF, y8, oF, pF, jC, i8, rfl, rfl⟩
      ·clear hx
       obtain ⟨zJ, hfr, sA, qF, rF, aK, sF, uA, kC, t9, u9, xA⟩ := hR
       rcases csome h with ⟨sD, h⟩ | ⟨sD, h⟩
       ·refine E_cond_true (Eq.trans (show ev _ _ = .bool (i7) from xA) (congrArg Value.bool sD)) ?_
        refine E_region (EL_mv sA rfl ?_)
        refine EL_mv t9 rfl ?_
        refine EL_mv aK rfl ?_
        refine EL_p (.int .i64 ((w64 ((w64 ((w64 u0) + x2)) - o0)))) (P_move u9) rfl ?_
        refine EL_mv uA rfl ?_
        obtain ⟨vH, tL, h⟩ := bsome h
        refine EL_do .plain rfl (D_callM (g := zJ) (i := 1) (vs := [up0, .int .i64 (o0), .int .i64 (x2), .int .i64 ((w64 ((w64 ((w64 u0) + x2)) - o0))), (.func (.func ff4) fa4 fc4)]) en143 (.cons rfl (.cons rfl (.cons rfl (.cons rfl (.cons rfl .nil))))) (wk143 qF (FnV2.ch ⟨_, _, _, rfl, fen4, fcl4⟩ hfr.ch) tL) fun iN mO rQ hs hr => ?_)
        obtain ⟨hrv, b921⟩ := hr
        have hfr := hfr.stp hs
        subst hrv
        refine EL_nil ?_
        obtain rfl := sinj h
        exact hQ _ _ ⟨iN, hfr, sA, b921, rF, sF, uA, kC, t9, u9⟩
       ·refine E_cond_false (Eq.trans (show ev _ _ = .bool (i7) from xA) (congrArg Value.bool sD)) ?_
        refine E_skip ?_
        obtain rfl := sinj h
        exact hQ _ _ ⟨zJ, hfr, sA, qF, rF, sF, uA, kC, t9, u9⟩
     ·clear hx
      obtain ⟨bK, hfr, tF, uF, yA, vF, xF, y9, k8, lC⟩ := hR
      obtain ⟨v7, hx, h⟩ := bsome h
      refine E_join (fun e w => ∃ (g : Gh) , FrM iI gI wI g w ∧ e 0 = up0 ∧ OM 1 g w 3 (v7 : List Int) up0 ∧ e 3 = .int .i64 (x3) ∧ e 4 = (.func (.func ff4) fa4 fc4) ∧ e 18 = .int .i64 ((w64 u0)) ∧ e 24 = .int .i64 ((w64 ((w64 ((w64 u0) + x2)) - o0)))) (fun Q' hQ => ?_) (fun nO sQ hR => ?_)
      ·replace h := hx
       clear hx
       obtain ⟨j7, hx, h⟩ := bsome h
       refine E_join (fun e w => ∃ (g : Gh) , FrM iI gI wI g w ∧ e 0 = up0 ∧ OM 1 g w 3 (u7 : List Int) up0 ∧ e 1 = .int .i64 (x1) ∧ e 3 = .int .i64 (x3) ∧ e 4 = (.func (.func ff4) fa4 fc4) ∧ e 18 = .int .i64 ((w64 u0)) ∧ e 20 = .int .i64 (o0) ∧ e 24 = .int .i64 ((w64 ((w64 ((w64 u0) + x2)) - o0))) ∧ e 199 = .bool (j7)) (fun Q' hQ => ?_) (fun oO tQ hR => ?_)
       ·replace h := hx
        clear hx
        refine E_region (EL_mv yA rfl ?_)
        refine EL_mv k8 rfl ?_
        refine EL_in (.bool ((decide (x1 < o0)))) rfl rfl rfl rfl ?_
        refine EL_mw (.bool ((decide (x1 < o0)))) rfl rfl ?_
        rcases csome h with ⟨e7, h⟩ | ⟨e7, h⟩
        ·refine EL_y (.int .i64 (o0)) (P_move k8) rfl rfl e7 rfl ?_
         refine EL_y (.int .i64 ((w64 u0))) (P_move y9) rfl rfl e7 rfl ?_
         refine EL_y (.bool ((decide (o0 < (w64 u0))))) (P_int rfl rfl rfl) rfl rfl e7 rfl ?_
         refine EL_p (.bool ((decide (o0 < (w64 u0))))) (P_pick (b := (decide (x1 < o0))) rfl (pick_t e7 rfl)) rfl ?_
         refine EL_nil ?_
         obtain rfl := sinj h
         exact hQ _ _ ⟨bK, hfr, tF, uF, yA, vF, xF, y9, k8, lC, rfl⟩
        ·refine EL_s rfl rfl e7 rfl rfl ?_
         refine EL_s rfl rfl e7 rfl rfl ?_
         refine EL_s rfl rfl e7 rfl rfl ?_
         refine EL_p (.bool false) (P_pick (b := (decide (x1 < o0))) rfl (pick_f e7 rfl)) rfl ?_
         refine EL_nil ?_
         obtain rfl := sinj h
         exact hQ _ _ ⟨bK, hfr, tF, uF, yA, vF, xF, y9, k8, lC, rfl⟩
       ·clear hx
        obtain ⟨cK, hfr, zA, yF, dK, zF, aB, z9, qH, mC, bB⟩ := hR
        rcases csome h with ⟨tD, h⟩ | ⟨tD, h⟩
        ·refine E_cond_true (Eq.trans (show ev _ _ = .bool (j7) from bB) (congrArg Value.bool tD)) ?_
         refine E_region (EL_mv zA rfl ?_)
         refine EL_mv dK rfl ?_
         refine EL_mv qH rfl ?_
         refine EL_mv z9 rfl ?_
         refine EL_mv aB rfl ?_
         obtain ⟨xH, uL, h⟩ := bsome h
         refine EL_do .plain rfl (D_callM (g := cK) (i := 1) (vs := [up0, .int .i64 (x1), .int .i64 (o0), .int .i64 ((w64 u0)), (.func (.func ff4) fa4 fc4)]) en112 (.cons rfl (.cons rfl (.cons rfl (.cons rfl (.cons rfl .nil))))) (ih yF (FnV2.ch ⟨_, _, _, rfl, fen4, fcl4⟩ hfr.ch) uL) fun jN pO uQ hs hr => ?_)
         obtain ⟨hrv, b934⟩ := hr
         have hfr := hfr.stp hs
         subst hrv
         refine EL_nil ?_
         obtain rfl := sinj h
         exact hQ _ _ ⟨jN, hfr, zA, b934, zF, aB, z9, mC⟩
        ·refine E_cond_false (Eq.trans (show ev _ _ = .bool (j7) from bB) (congrArg Value.bool tD)) ?_
         refine E_skip ?_
         obtain rfl := sinj h
         exact hQ _ _ ⟨cK, hfr, zA, yF, zF, aB, z9, mC⟩
      ·clear hx
       obtain ⟨eK, hfr, aG, bG, cB, cG, bA, l8⟩ := hR
       obtain ⟨m7, hx, h⟩ := bsome h
       refine E_join (fun e w => ∃ (g : Gh) , FrM iI gI wI g w ∧ e 0 = up0 ∧ OM 1 g w 3 (v7 : List Int) up0 ∧ e 3 = .int .i64 (x3) ∧ e 4 = (.func (.func ff4) fa4 fc4) ∧ e 18 = .int .i64 ((w64 u0)) ∧ e 24 = .int .i64 ((w64 ((w64 ((w64 u0) + x2)) - o0))) ∧ e 213 = .bool (m7)) (fun Q' hQ => ?_) (fun qO vQ hR => ?_)
       ·replace h := hx
        clear hx
        refine E_region (EL_mv bA rfl ?_)
        refine EL_p (.int .i64 ((w64 ((w64 ((w64 u0) + x2)) - o0)))) (P_move l8) rfl ?_
        refine EL_p (.bool ((decide ((w64 u0) < (w64 ((w64 ((w64 u0) + x2)) - o0)))))) (P_int rfl rfl rfl) rfl ?_
        refine EL_p (.bool ((decide ((w64 u0) < (w64 ((w64 ((w64 u0) + x2)) - o0)))))) (P_move rfl) rfl ?_
        rcases csome h with ⟨g7, h⟩ | ⟨g7, h⟩
        ·refine EL_y (.int .i64 ((w64 ((w64 ((w64 u0) + x2)) - o0)))) (P_move l8) rfl rfl g7 rfl ?_
         refine EL_y (.int .i64 (x3)) (P_move cB) rfl rfl g7 rfl ?_
         refine EL_y (.bool ((decide ((w64 ((w64 ((w64 u0) + x2)) - o0)) < x3)))) (P_int rfl rfl rfl) rfl rfl g7 rfl ?_
         refine EL_p (.bool ((decide ((w64 ((w64 ((w64 u0) + x2)) - o0)) < x3)))) (P_pick (b := (decide ((w64 u0) < (w64 ((w64 ((w64 u0) + x2)) - o0))))) rfl (pick_t g7 rfl)) rfl ?_
         refine EL_nil ?_
         obtain rfl := sinj h
         exact hQ _ _ ⟨eK, hfr, aG, bG, cB, cG, bA, l8, rfl⟩
        ·refine EL_s rfl rfl g7 rfl rfl ?_
         refine EL_s rfl rfl g7 rfl rfl ?_
         refine EL_s rfl rfl g7 rfl rfl ?_
         refine EL_p (.bool false) (P_pick (b := (decide ((w64 u0) < (w64 ((w64 ((w64 u0) + x2)) - o0))))) rfl (pick_f g7 rfl)) rfl ?_
         refine EL_nil ?_
         obtain rfl := sinj h
         exact hQ _ _ ⟨eK, hfr, aG, bG, cB, cG, bA, l8, rfl⟩
       ·clear hx
        obtain ⟨kN, hfr, lK, dG, mK, nK, sH, tH, dB⟩ := hR
        rcases csome h with ⟨uD, h⟩ | ⟨uD, h⟩
        ·refine E_cond_true (Eq.trans (show ev _ _ = .bool (m7) from dB) (congrArg Value.bool uD)) ?_
         refine E_region (EL_mv lK rfl ?_)
         refine EL_mv sH rfl ?_
         refine EL_p (.int .i64 ((w64 ((w64 ((w64 u0) + x2)) - o0)))) (P_move tH) rfl ?_
         refine EL_mv mK rfl ?_
         refine EL_mv nK rfl ?_
         obtain ⟨yH, vL, h⟩ := bsome h
         refine EL_do .plain rfl (D_callM (g := kN) (i := 1) (vs := [up0, .int .i64 ((w64 u0)), .int .i64 ((w64 ((w64 ((w64 u0) + x2)) - o0))), .int .i64 (x3), (.func (.func ff4) fa4 fc4)]) en112 (.cons rfl (.cons rfl (.cons rfl (.cons rfl (.cons rfl .nil))))) (ih dG (FnV2.ch ⟨_, _, _, rfl, fen4, fcl4⟩ hfr.ch) vL) fun xQ rO yQ hs hr => ?_)
         obtain ⟨hrv, b941⟩ := hr
         have hfr := hfr.stp hs
         subst hrv
         refine EL_nil ?_
         obtain rfl := sinj h
         exact end0n rfl rfl ⟨_, hfr, rfl, gA.back b941⟩
        ·refine E_cond_false (Eq.trans (show ev _ _ = .bool (m7) from dB) (congrArg Value.bool uD)) ?_
         refine E_skip ?_
         obtain rfl := sinj h
         exact end0n rfl rfl ⟨_, hfr, rfl, gA.back dG⟩
def f127 (x0 : PaySheet) : Option (Bool) :=
 Option.bind (α := Bool) (
  bif (decide (((((x0).PayTable).Rows).length : Int) > (6 : Int))) then
   some (true)
  else
   (f150 (((x0).PayTable).Rows) ((fun a0 => f151 a0))).bind fun j1 =>
   some (j1)
  ) fun u0 =>
 some (u0)
theorem en127 : Enters Tryz.prog 127 := enters_of Tryz.func127 (by kernel_rfl) rfl
theorem wk127 {gI : Gh} {wI : World} {x0 : PaySheet} {up0 : Value} (rp0 : RV gI.m wI x0 up0) {r : Bool} (h : f127 x0 = some r) : Fn Tryz.prog 127 #[up0] gI wI (fun _ _ v => v = .bool (r)) := by
 unfold f127 at h
 refine fn_of_E Tryz.func127 rfl (Nat.le_of_ble_eq_true rfl) fun g0 hm hfr => ?_
 have rp0 : RV g0.m wI x0 up0 := hm ▸ rp0
 show E _ 14 none _ _ _ _ _
 refine E_seq (E_region (EL_do .plain rfl (D_box (g := g0) rfl rp0 fun g1 w1 p1 hs q1 => ?_)))
 have hfr := hfr.ext hs
 refine EL_at (.bool false) rfl rfl ?_
 refine EL_nil (thn_n ?_)
 obtain ⟨u0, hx, h⟩ := bsome h
 refine E_join (fun e w => ∃ (g : Gh) , Fr gI wI g w ∧ e 2 = .bool (u0)) (fun Q' hQ => ?_) (fun q5 x5 hR => ?_)
 ·replace h := hx
  clear hx
  refine E_region (EL_p (fPtr p1 0) (P_fieldAddr at_147_0 rfl (PT.ptr q1)) rfl ?_)
  have d3 := PT_field (part_PaySheet_0).1 q1
  refine EL_p (fPtr (fPtr p1 0) 0) (P_fieldAddr at_112_0 rfl (PT.ptr d3)) rfl ?_
  have o3 := PT_field (part_PayTable_0).1 d3
  refine EL_do .plain rfl (D_load (g := g1) Tryz.isAgg110 Tryz.sizeOf110 rfl o3 fun i6 u3 => ?_)
  refine EL_p (.int .i64 ((((x0).PayTable).Rows).length : Int)) (P_len Tryz.underlying110 rfl u3) rfl ?_
  refine EL_p (.bool ((decide (((((x0).PayTable).Rows).length : Int) > (6 : Int))))) (P_int rfl rfl rfl) rfl ?_
  refine EL_p (.bool ((decide (((((x0).PayTable).Rows).length : Int) > (6 : Int))))) (P_move rfl) rfl ?_
  rcases csome h with ⟨o0, h⟩ | ⟨o0, h⟩
  ·refine EL_s rfl rfl o0 rfl rfl ?_
   iterate 3 refine EL_s rfl rfl o0 rfl rfl ?_
   refine EL_p (.bool true) (P_pick (b := (decide (((((x0).PayTable).Rows).length : Int) > (6 : Int)))) rfl (pick_t o0 rfl)) rfl ?_
   refine EL_at (.bool true) rfl rfl ?_
   refine EL_nil ?_
   obtain rfl := sinj h
   exact hQ _ _ ⟨g1, hfr, rfl⟩
  ·refine EL_y (fPtr p1 0) (P_fieldAddr at_147_0 rfl (PT.ptr q1)) rfl rfl o0 rfl ?_
   have i3 := PT_field (part_PaySheet_0).1 q1
   refine EL_y (fPtr (fPtr p1 0) 0) (P_fieldAddr at_112_0 rfl (PT.ptr i3)) rfl rfl o0 rfl ?_
   have z3 := PT_field (part_PayTable_0).1 i3
   refine EL_do (.yes2 rfl rfl o0) rfl (D_load (g := g1) Tryz.isAgg110 Tryz.sizeOf110 rfl z3 fun z4 i5 => ?_)
   obtain ⟨j1, j3, h⟩ := bsome h
   refine EL_do (.yes2 rfl rfl o0) rfl (D_call (g := g1) (vs := [z4, .func (.func 151) #[] #[]]) en150 (.cons rfl (.cons rfl .nil)) (wk150 i5 ⟨151, #[], #[], rfl, en151, fun g' w' hch a0 b0 r hu0 hr => by exact Fn.mono (wk151 hu0  hr) fun _ _ _ h => RV_bool.2 h⟩ j3) fun l5 t5 j6 hs hr => ?_)
   have hfr := hfr.ext hs
   subst hr
   refine EL_p (.bool (j1)) (P_pick (b := (decide (((((x0).PayTable).Rows).length : Int) > (6 : Int)))) rfl (pick_f o0 rfl)) rfl ?_
   refine EL_at (.bool (j1)) rfl rfl ?_
   refine EL_nil ?_
   obtain rfl := sinj h
   exact hQ _ _ ⟨l5, hfr, rfl⟩
 ·clear hx
  obtain ⟨v6, hfr, z2⟩ := hR
  refine E_ret ?_
  obtain rfl := sinj h
  exact end1 rfl rfl (show _ = .bool (u0) from z2) ⟨_, hfr, rfl⟩
def f128 (x0 : PaySheet) : Option (Bool) :=
 jn (σ := Unit) (fun _ =>
  (f150 (((x0).PayTable).Rows) ((fun a0 => f152 a0 x0))).bind fun u3 =>
  some ((!u3))
  ) fun j7 =>
 Option.bind (α := Bool) (
  bif (((((x0).PayTable).Rows).length : Int) == (0 : Int)) then
   some (true)
  else
   (idx (((x0).PayTable).Rows) (0 : Int)).bind fun z2 =>
   bif (((z2).length : Int) == (0 : Int)) then
    some (true)
   else
    bif (((((x0).PayTable).Across).length : Int) != ((((x0).PayTable).Rows).length : Int)) then
     some (true)
    else
     (idx (((x0).PayTable).Rows) (0 : Int)).bind fun z3 =>
     some ((((((x0).PayTable).Down).length : Int) != ((z3).length : Int)))
  ) fun d3 =>
 bif d3 then
  some (false)
 else
  j7 ()
theorem en128 : Enters Tryz.prog 128 := enters_of Tryz.func128 (by kernel_rfl) rfl
theorem wk128 {gI : Gh} {wI : World} {x0 : PaySheet} {up0 : Value} (rp0 : RV gI.m wI x0 up0) {r : Bool} (h : f128 x0 = some r) : Fn Tryz.prog 128 #[up0] gI wI (fun _ _ v => v = .bool (r)) := by
 unfold f128 at h
 refine fn_of_E Tryz.func128 rfl (Nat.le_of_ble_eq_true rfl) fun g0 hm hfr => ?_
 have rp0 : RV g0.m wI x0 up0 := hm ▸ rp0
 show E _ 47 none _ _ _ _ _
 refine E_seq (E_region (EL_do .plain rfl (D_box (g := g0) rfl rp0 fun g1 w1 p1 hs q1 => ?_)))
 have hfr := hfr.ext hs
 refine EL_at (.bool false) rfl rfl ?_
 refine EL_nil (thn_n (E_joinC h (fun (s : Unit) e w => ∃ (g : Gh) , Fr gI wI g w ∧ e 1 = p1 ∧ PT g.m w (x0 : PaySheet) p1) (fun X395 j7 n8 h => ?_) ?_))
 ·obtain ⟨d3, hx, h⟩ := bsome h
  refine E_join (fun e w => ∃ (g : Gh) , Fr gI wI g w ∧ e 1 = p1 ∧ PT g.m w (x0 : PaySheet) p1 ∧ e 40 = .bool (d3)) (fun Q' hQ => ?_) (fun lA oA hR => ?_)
  ·replace h := hx
   clear hx
   have z4 := PT_field (part_PaySheet_0).1 q1
   have v8 := PT_field (part_PayTable_0).1 z4
   refine L_load (x := .tmp 4) Tryz.isAgg110 Tryz.sizeOf110 v8 fun q5 t5 j3 => ?_
   rcases csome h with ⟨o0, h⟩ | ⟨o0, h⟩
   ·refine E_drawL (g := g1) (n := 38) [] [0, 1, 2, 3, 4, 5, 6, 7, 8, 9, 10, 11, 12, 13, 14, 15, 16, 17, 18, 19, 20, 21, 22, 23, 24, 25, 26, 27, 28, 29, 30, 31, 32, 33, 34, 35, 36, 37] rfl mixed (by kernel_rfl) trivial ?_
    refine L_p (fPtr p1 0) rfl rfl (P_fieldAddr at_147_0 rfl (PT.ptr q1)) ?_
    refine L_p (fPtr (fPtr p1 0) 0) rfl rfl (P_fieldAddr at_112_0 rfl (PT.ptr z4)) ?_
    refine L_ld (c := q5) rfl rfl .plain (fun _ _ h => h.ch) j3 rfl ?_
    refine L_p (.int .i64 ((((x0).PayTable).Rows).length : Int)) rfl rfl (P_len Tryz.underlying110 rfl t5) ?_
    refine L_p (.bool ((((((x0).PayTable).Rows).length : Int) == (0 : Int)))) rfl rfl (P_int rfl rfl rfl) ?_
    refine L_p (.bool ((((((x0).PayTable).Rows).length : Int) == (0 : Int)))) rfl rfl (P_move rfl) ?_
    iterate 7 refine L_s rfl rfl rfl o0 rfl ?_
    refine L_p (.bool true) rfl rfl (P_pick (b := (((((x0).PayTable).Rows).length : Int) == (0 : Int))) rfl (pick_t o0 rfl)) ?_
    refine L_dead (fun _ => rfl) 24 rfl ?_
    refine L_nl fun x8 pA hs => ?_
    have hfr := hfr.ext hs
    have q1 := q1.ext hs
    clear hs
    refine EL_nil ?_
    obtain rfl := sinj h
    exact hQ _ _ ⟨x8, hfr, rfl, q1, rfl⟩
   ·have x5 := PT_field (part_PaySheet_0).1 q1
    have y8 := PT_field (part_PayTable_0).1 x5
    refine L_load (x := .tmp 10) Tryz.isAgg110 Tryz.sizeOf110 y8 fun i3 i6 j6 => ?_
    obtain ⟨z2, o3, h⟩ := bsome h
    have a9 := PT_idx i6 o3
    refine L_load (x := .tmp 12) Tryz.isAgg25 Tryz.sizeOf25 a9 fun a7 b7 v6 => ?_
    rcases csome h with ⟨u0, h⟩ | ⟨u0, h⟩
    ·refine E_drawL (g := g1) (n := 38) [] [0, 1, 2, 3, 4, 5, 6, 7, 8, 9, 10, 11, 12, 13, 14, 15, 16, 17, 18, 19, 20, 21, 22, 23, 24, 25, 26, 27, 28, 29, 30, 31, 32, 33, 34, 35, 36, 37] rfl mixed (by kernel_rfl) trivial ?_
     refine L_p (fPtr p1 0) rfl rfl (P_fieldAddr at_147_0 rfl (PT.ptr q1)) ?_
     refine L_p (fPtr (fPtr p1 0) 0) rfl rfl (P_fieldAddr at_112_0 rfl (PT.ptr z4)) ?_
     refine L_ld (c := q5) rfl rfl .plain (fun _ _ h => h.ch) j3 rfl ?_
     refine L_p (.int .i64 ((((x0).PayTable).Rows).length : Int)) rfl rfl (P_len Tryz.underlying110 rfl t5) ?_
     refine L_p (.bool ((((((x0).PayTable).Rows).length : Int) == (0 : Int)))) rfl rfl (P_int rfl rfl rfl) ?_
     refine L_p (.bool ((((((x0).PayTable).Rows).length : Int) == (0 : Int)))) rfl rfl (P_move rfl) ?_
     refine L_y (fPtr p1 0) rfl rfl rfl rfl o0 (P_fieldAddr at_147_0 rfl (PT.ptr q1)) ?_
     refine L_y (fPtr (fPtr p1 0) 0) rfl rfl rfl rfl o0 (P_fieldAddr at_112_0 rfl (PT.ptr x5)) ?_
     refine L_ld (c := i3) rfl rfl (.yes2 rfl rfl o0) (fun _ _ h => h.ch) j6 rfl ?_
     refine L_y (ePtr i3 (0 : Int) 1) rfl rfl rfl rfl o0 (P_indexAddr (α := List Int) Tryz.underlying110 Tryz.sizeOf25 rfl i6 rfl o3) ?_
     refine L_ld (c := a7) rfl rfl (.yes2 rfl rfl o0) (fun _ _ h => h.ch) v6 rfl ?_
     refine L_y (.int .i64 ((z2).length : Int)) rfl rfl rfl rfl o0 (P_len Tryz.underlying25 rfl b7) ?_
     refine L_y (.bool ((((z2).length : Int) == (0 : Int)))) rfl rfl rfl rfl o0 (P_int rfl rfl rfl) ?_
     refine L_p (.bool ((((z2).length : Int) == (0 : Int)))) rfl rfl (P_pick (b := (((((x0).PayTable).Rows).length : Int) == (0 : Int))) rfl (pick_f o0 rfl)) ?_
     refine L_p (.bool ((((z2).length : Int) == (0 : Int)))) rfl rfl (P_move rfl) ?_
     iterate 9 refine L_s rfl rfl rfl u0 rfl ?_
     refine L_p (.bool true) rfl rfl (P_pick (b := (((z2).length : Int) == (0 : Int))) rfl (pick_t u0 rfl)) ?_
     refine L_dead (fun _ => rfl) 13 rfl ?_
     refine L_nl fun d9 qA hs => ?_
     have hfr := hfr.ext hs
     have q1 := q1.ext hs
     clear hs
     refine EL_nil ?_
     obtain rfl := sinj h
     exact hQ _ _ ⟨d9, hfr, rfl, q1, rfl⟩
    ·have c7 := PT_field (part_PaySheet_0).1 q1
     have e9 := PT_field (part_PayTable_1).1 c7
     refine L_load (x := .tmp 19) Tryz.isAgg25 Tryz.sizeOf25 e9 fun m7 n7 e7 => ?_
     have d7 := PT_field (part_PaySheet_0).1 q1
     have i9 := PT_field (part_PayTable_0).1 d7
     refine L_load (x := .tmp 23) Tryz.isAgg110 Tryz.sizeOf110 i9 fun o7 u7 g7 => ?_
     rcases csome h with ⟨j1, h⟩ | ⟨j1, h⟩
     ·refine E_drawL (g := g1) (n := 38) [] [0, 1, 2, 3, 4, 5, 6, 7, 8, 9, 10, 11, 12, 13, 14, 15, 16, 17, 18, 19, 20, 21, 22, 23, 24, 25, 26, 27, 28, 29, 30, 31, 32, 33, 34, 35, 36, 37] rfl mixed (by kernel_rfl) trivial ?_
      refine L_p (fPtr p1 0) rfl rfl (P_fieldAddr at_147_0 rfl (PT.ptr q1)) ?_
      refine L_p (fPtr (fPtr p1 0) 0) rfl rfl (P_fieldAddr at_112_0 rfl (PT.ptr z4)) ?_
      refine L_ld (c := q5) rfl rfl .plain (fun _ _ h => h.ch) j3 rfl ?_
      refine L_p (.int .i64 ((((x0).PayTable).Rows).length : Int)) rfl rfl (P_len Tryz.underlying110 rfl t5) ?_
      refine L_p (.bool ((((((x0).PayTable).Rows).length : Int) == (0 : Int)))) rfl rfl (P_int rfl rfl rfl) ?_
      refine L_p (.bool ((((((x0).PayTable).Rows).length : Int) == (0 : Int)))) rfl rfl (P_move rfl) ?_
      refine L_y (fPtr p1 0) rfl rfl rfl rfl o0 (P_fieldAddr at_147_0 rfl (PT.ptr q1)) ?_
      refine L_y (fPtr (fPtr p1 0) 0) rfl rfl rfl rfl o0 (P_fieldAddr at_112_0 rfl (PT.ptr x5)) ?_
      refine L_ld (c := i3) rfl rfl (.yes2 rfl rfl o0) (fun _ _ h => h.ch) j6 rfl ?_
      refine L_y (ePtr i3 (0 : Int) 1) rfl rfl rfl rfl o0 (P_indexAddr (α := List Int) Tryz.underlying110 Tryz.sizeOf25 rfl i6 rfl o3) ?_
      refine L_ld (c := a7) rfl rfl (.yes2 rfl rfl o0) (fun _ _ h => h.ch) v6 rfl ?_
      refine L_y (.int .i64 ((z2).length : Int)) rfl rfl rfl rfl o0 (P_len Tryz.underlying25 rfl b7) ?_
      refine L_y (.bool ((((z2).length : Int) == (0 : Int)))) rfl rfl rfl rfl o0 (P_int rfl rfl rfl) ?_
      refine L_p (.bool ((((z2).length : Int) == (0 : Int)))) rfl rfl (P_pick (b := (((((x0).PayTable).Rows).length : Int) == (0 : Int))) rfl (pick_f o0 rfl)) ?_
      refine L_p (.bool ((((z2).length : Int) == (0 : Int)))) rfl rfl (P_move rfl) ?_
      refine L_y (fPtr p1 0) rfl rfl rfl rfl u0 (P_fieldAddr at_147_0 rfl (PT.ptr q1)) ?_
      refine L_y (fPtr (fPtr p1 0) 1) rfl rfl rfl rfl u0 (P_fieldAddr at_112_1 rfl (PT.ptr c7)) ?_
      refine L_ld (c := m7) rfl rfl (.yes2 rfl rfl u0) (fun _ _ h => h.ch) e7 rfl ?_
      refine L_y (.int .i64 ((((x0).PayTable).Across).length : Int)) rfl rfl rfl rfl u0 (P_len Tryz.underlying25 rfl n7) ?_
      refine L_y (fPtr p1 0) rfl rfl rfl rfl u0 (P_fieldAddr at_147_0 rfl (PT.ptr q1)) ?_
      refine L_y (fPtr (fPtr p1 0) 0) rfl rfl rfl rfl u0 (P_fieldAddr at_112_0 rfl (PT.ptr d7)) ?_
      refine L_ld (c := o7) rfl rfl (.yes2 rfl rfl u0) (fun _ _ h => h.ch) g7 rfl ?_
      refine L_y (.int .i64 ((((x0).PayTable).Rows).length : Int)) rfl rfl rfl rfl u0 (P_len Tryz.underlying110 rfl u7) ?_
      refine L_y (.bool ((((((x0).PayTable).Across).length : Int) != ((((x0).PayTable).Rows).length : Int)))) rfl rfl rfl rfl u0 (P_int rfl rfl rfl) ?_
      refine L_p (.bool ((((((x0).PayTable).Across).length : Int) != ((((x0).PayTable).Rows).length : Int)))) rfl rfl (P_pick (b := (((z2).length : Int) == (0 : Int))) rfl (pick_f u0 rfl)) ?_
      refine L_p (.bool ((((((x0).PayTable).Across).length : Int) != ((((x0).PayTable).Rows).length : Int)))) rfl rfl (P_move rfl) ?_
      iterate 11 refine L_s rfl rfl rfl j1 rfl ?_
      refine L_p (.bool true) rfl rfl (P_pick (b := (((((x0).PayTable).Across).length : Int) != ((((x0).PayTable).Rows).length : Int))) rfl (pick_t j1 rfl)) ?_
      refine L_nl fun k9 rA hs => ?_
      have hfr := hfr.ext hs
      have q1 := q1.ext hs
      clear hs
      refine EL_nil ?_
      obtain rfl := sinj h
      exact hQ _ _ ⟨k9, hfr, rfl, q1, rfl⟩
     ·have v7 := PT_field (part_PaySheet_0).1 q1
      have l9 := PT_field (part_PayTable_2).1 v7
      refine L_load (x := .tmp 30) Tryz.isAgg25 Tryz.sizeOf25 l9 fun n9 o9 o8 => ?_
      have c8 := PT_field (part_PaySheet_0).1 q1
      have t9 := PT_field (part_PayTable_0).1 c8
      refine L_load (x := .tmp 34) Tryz.isAgg110 Tryz.sizeOf110 t9 fun e8 g8 q8 => ?_
      obtain ⟨z3, i7, h⟩ := bsome h
      have u9 := PT_idx g8 i7
      refine L_load (x := .tmp 36) Tryz.isAgg25 Tryz.sizeOf25 u9 fun y9 z9 r8 => ?_
      refine E_drawL (g := g1) (n := 38) [] [0, 1, 2, 3, 4, 5, 6, 7, 8, 9, 10, 11, 12, 13, 14, 15, 16, 17, 18, 19, 20, 21, 22, 23, 24, 25, 26, 27, 28, 29, 30, 31, 32, 33, 34, 35, 36, 37] rfl mixed (by kernel_rfl) trivial ?_
      refine L_p (fPtr p1 0) rfl rfl (P_fieldAddr at_147_0 rfl (PT.ptr q1)) ?_
      refine L_p (fPtr (fPtr p1 0) 0) rfl rfl (P_fieldAddr at_112_0 rfl (PT.ptr z4)) ?_
      refine L_ld (c := q5) rfl rfl .plain (fun _ _ h => h.ch) j3 rfl ?_
      refine L_p (.int .i64 ((((x0).PayTable).Rows).length : Int)) rfl rfl (P_len Tryz.underlying110 rfl t5) ?_
      refine L_p (.bool ((((((x0).PayTable).Rows).length : Int) == (0 : Int)))) rfl rfl (P_int rfl rfl rfl) ?_
      refine L_p (.bool ((((((x0).PayTable).Rows).length : Int) == (0 : Int)))) rfl rfl (P_move rfl) ?_
      refine L_y (fPtr p1 0) rfl rfl rfl rfl o0 (P_fieldAddr at_147_0 rfl (PT.ptr q1)) ?_
      refine L_y (fPtr (fPtr p1 0) 0) rfl rfl rfl rfl o0 (P_fieldAddr at_112_0 rfl (PT.ptr x5)) ?_
      refine L_ld (c := i3) rfl rfl (.yes2 rfl rfl o0) (fun _ _ h => h.ch) j6 rfl ?_
      refine L_y (ePtr i3 (0 : Int) 1) rfl rfl rfl rfl o0 (P_indexAddr (α := List Int) Tryz.underlying110 Tryz.sizeOf25 rfl i6 rfl o3) ?_
      refine L_ld (c := a7) rfl rfl (.yes2 rfl rfl o0) (fun _ _ h => h.ch) v6 rfl ?_
      refine L_y (.int .i64 ((z2).length : Int)) rfl rfl rfl rfl o0 (P_len Tryz.underlying25 rfl b7) ?_
      refine L_y (.bool ((((z2).length : Int) == (0 : Int)))) rfl rfl rfl rfl o0 (P_int rfl rfl rfl) ?_
      refine L_p (.bool ((((z2).length : Int) == (0 : Int)))) rfl rfl (P_pick (b := (((((x0).PayTable).Rows).length : Int) == (0 : Int))) rfl (pick_f o0 rfl)) ?_
      refine L_p (.bool ((((z2).length : Int) == (0 : Int)))) rfl rfl (P_move rfl) ?_
      refine L_y (fPtr p1 0) rfl rfl rfl rfl u0 (P_fieldAddr at_147_0 rfl (PT.ptr q1)) ?_
      refine L_y (fPtr (fPtr p1 0) 1) rfl rfl rfl rfl u0 (P_fieldAddr at_112_1 rfl (PT.ptr c7)) ?_
      refine L_ld (c := m7) rfl rfl (.yes2 rfl rfl u0) (fun _ _ h => h.ch) e7 rfl ?_
      refine L_y (.int .i64 ((((x0).PayTable).Across).length : Int)) rfl rfl rfl rfl u0 (P_len Tryz.underlying25 rfl n7) ?_
      refine L_y (fPtr p1 0) rfl rfl rfl rfl u0 (P_fieldAddr at_147_0 rfl (PT.ptr q1)) ?_
      refine L_y (fPtr (fPtr p1 0) 0) rfl rfl rfl rfl u0 (P_fieldAddr at_112_0 rfl (PT.ptr d7)) ?_
      refine L_ld (c := o7) rfl rfl (.yes2 rfl rfl u0) (fun _ _ h => h.ch) g7 rfl ?_
      refine L_y (.int .i64 ((((x0).PayTable).Rows).length : Int)) rfl rfl rfl rfl u0 (P_len Tryz.underlying110 rfl u7) ?_
      refine L_y (.bool ((((((x0).PayTable).Across).length : Int) != ((((x0).PayTable).Rows).length : Int)))) rfl rfl rfl rfl u0 (P_int rfl rfl rfl) ?_
      refine L_p (.bool ((((((x0).PayTable).Across).length : Int) != ((((x0).PayTable).Rows).length : Int)))) rfl rfl (P_pick (b := (((z2).length : Int) == (0 : Int))) rfl (pick_f u0 rfl)) ?_
      refine L_p (.bool ((((((x0).PayTable).Across).length : Int) != ((((x0).PayTable).Rows).length : Int)))) rfl rfl (P_move rfl) ?_
      refine L_y (fPtr p1 0) rfl rfl rfl rfl j1 (P_fieldAddr at_147_0 rfl (PT.ptr q1)) ?_
      refine L_y (fPtr (fPtr p1 0) 2) rfl rfl rfl rfl j1 (P_fieldAddr at_112_2 rfl (PT.ptr v7)) ?_
      refine L_ld (c := n9) rfl rfl (.yes2 rfl rfl j1) (fun _ _ h => h.ch) o8 rfl ?_
      refine L_y (.int .i64 ((((x0).PayTable).Down).length : Int)) rfl rfl rfl rfl j1 (P_len Tryz.underlying25 rfl o9) ?_
      refine L_y (fPtr p1 0) rfl rfl rfl rfl j1 (P_fieldAddr at_147_0 rfl (PT.ptr q1)) ?_
      refine L_y (fPtr (fPtr p1 0) 0) rfl rfl rfl rfl j1 (P_fieldAddr at_112_0 rfl (PT.ptr c8)) ?_
      refine L_ld (c := e8) rfl rfl (.yes2 rfl rfl j1) (fun _ _ h => h.ch) q8 rfl ?_
      refine L_y (ePtr e8 (0 : Int) 1) rfl rfl rfl rfl j1 (P_indexAddr (α := List Int) Tryz.underlying110 Tryz.sizeOf25 rfl g8 rfl i7) ?_
      refine L_ld (c := y9) rfl rfl (.yes2 rfl rfl j1) (fun _ _ h => h.ch) r8 rfl ?_
      refine L_y (.int .i64 ((z3).length : Int)) rfl rfl rfl rfl j1 (P_len Tryz.underlying25 rfl z9) ?_
      refine L_y (.bool ((((((x0).PayTable).Down).length : Int) != ((z3).length : Int)))) rfl rfl rfl rfl j1 (P_int rfl rfl rfl) ?_
      refine L_p (.bool ((((((x0).PayTable).Down).length : Int) != ((z3).length : Int)))) rfl rfl (P_pick (b := (((((x0).PayTable).Across).length : Int) != ((((x0).PayTable).Rows).length : Int))) rfl (pick_f j1 rfl)) ?_
      refine L_nl fun bA sA hs => ?_
      have hfr := hfr.ext hs
      have q1 := q1.ext hs
      clear hs
      refine EL_nil ?_
      obtain rfl := sinj h
      exact hQ _ _ ⟨bA, hfr, rfl, q1, rfl⟩
  ·clear hx
   obtain ⟨gA, hfr, i8, k8, l5⟩ := hR
   rcases csome h with ⟨x6, h⟩ | ⟨x6, h⟩
   ·refine E_cond_true (Eq.trans (show ev _ _ = .bool (d3) from l5) (congrArg Value.bool x6)) ?_
    refine E_seq (E_region (EL_at (.bool false) rfl rfl ?_))
    refine EL_nil (thn_n (E_ret (thn_r ?_)))
    obtain rfl := sinj h
    exact end1 rfl rfl (show _ = .bool false from rfl) ⟨_, hfr, rfl⟩
   ·refine E_cond_false (Eq.trans (show ev _ _ = .bool (d3) from l5) (congrArg Value.bool x6)) ?_
    exact E_skip (thn_n (n8 () _ _ ⟨gA, hfr, i8, k8⟩ h))
 ·rintro _ mA uA ⟨l8, hfr, y6, i5⟩ h
  refine E_seq (E_region (EL_p (fPtr p1 0) (P_fieldAddr at_147_0 y6 (PT.ptr i5)) rfl ?_))
  have m8 := PT_field (part_PaySheet_0).1 i5
  refine EL_p (fPtr (fPtr p1 0) 0) (P_fieldAddr at_112_0 rfl (PT.ptr m8)) rfl ?_
  have iA := PT_field (part_PayTable_0).1 m8
  refine EL_do .plain rfl (D_load (g := l8) Tryz.isAgg110 Tryz.sizeOf110 rfl iA fun jA kA => ?_)
  refine EL_p ((.func (.func 152) #[] #[p1])) (P_makeFunc (capf_0_1 (show ev _ _ = p1 from y6))) rfl ?_
  obtain ⟨u3, t8, h⟩ := bsome h
  refine EL_do .plain rfl (D_call (g := l8) (vs := [jA, (.func (.func 152) #[] #[p1])]) en150 (.cons rfl (.cons rfl .nil)) (wk150 kA ⟨152, #[], #[p1], rfl, en152, fun g' w' hch a0 b0 r hu0 hr => by exact Fn.mono (wk152 hu0 (i5.ch hch) hr) fun _ _ _ h => RV_bool.2 h⟩ t8) fun xA nA yA hs hr => ?_)
  have hfr := hfr.ext hs
  subst hr
  refine EL_p (.bool (!u3)) (P_not rfl) rfl ?_
  refine EL_at (.bool (!u3)) rfl rfl ?_
  refine EL_nil (thn_n (E_ret ?_))
  obtain rfl := sinj h
  exact end1 rfl rfl (show _ = .bool (!u3) from rfl) ⟨_, hfr, rfl⟩
def f129 (x0 : List Int) : Option (Bool) :=
 (f45 ((-1 : Int)) ((1000000 : Int)) x0).bind fun y2 =>
 some (y2)
theorem en129 : Enters Tryz.prog 129 := enters_of Tryz.func129 (by kernel_rfl) rfl
theorem wk129 {gI : Gh} {wI : World} {x0 : List Int} {up0 : Value} (rp0 : RV gI.m wI x0 up0) {r : Bool} (h : f129 x0 = some r) : Fn Tryz.prog 129 #[up0] gI wI (fun _ _ v => v = .bool (r)) := by
 unfold f129 at h
 refine fn_of_E Tryz.func129 rfl (Nat.le_of_ble_eq_true rfl) fun g0 hm hfr => ?_
 have rp0 : RV g0.m wI x0 up0 := hm ▸ rp0
 show E _ 5 none _ _ _ _ _
 refine E_seq (E_region (EL_at (.bool false) rfl rfl ?_))
 refine EL_nil (thn_n (E_seq (E_region (EL_mw up0 rfl rfl ?_))))
 obtain ⟨y2, hy2, h⟩ := bsome h
 refine EL_do .plain rfl (D_call (g := g0) (vs := [.int .i64 (-1), .int .i64 (1000000), up0]) en45 (.cons rfl (.cons rfl (.cons rfl .nil))) (wk45 rp0 hy2) fun g1 w1_ v1 hs hr => ?_)
 have hfr := hfr.ext hs
 subst hr
 refine EL_at (.bool (y2)) rfl rfl ?_
 refine EL_nil (thn_n (E_ret ?_))
 obtain rfl := sinj h
 exact end1 rfl rfl (show _ = .bool (y2) from rfl) ⟨_, hfr, rfl⟩
end Go.Proofs.YtcjpochjapnoaaaGreat
