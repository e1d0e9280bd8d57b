import Derived.Test.YtkmbkaoolacofaaTypes
import Derived.Test.YtkmbkaoolacofaaKn
set_option maxRecDepth 8000
set_option maxHeartbeats 4000000
namespace Go.Proofs.Ytkmbkaoolacofaa
open Go.RowKit
theorem info_3 : (Try.prog.info? 3).map (fun i => (i.zero, i.size, i.bytes)) = some (some (.int .i64 0), 1, 8) := by kernel_rfl
theorem mixed : Try.prog.follows .mixedOrders = true := by kernel_rfl
theorem capf_0_2 {e : Env} {f : FuncId} {o0 : Operand} {u0 : Operand} {b0 : Value} {b1 : Value} (hb0 : ev e o0 = b0) (hb1 : ev e u0 = b1) : (Value.func (.func f) ((#[] : Array Operand).map (ev e)) ((#[o0, u0] : Array Operand).map (ev e))) = .func (.func f) #[] #[b0, b1] := by simp [hb0, hb1]
theorem capf_0_3 {e : Env} {f : FuncId} {o0 : Operand} {u0 : Operand} {j1 : Operand} {b0 : Value} {b1 : Value} {b2 : Value} (hb0 : ev e o0 = b0) (hb1 : ev e u0 = b1) (hb2 : ev e j1 = b2) : (Value.func (.func f) ((#[] : Array Operand).map (ev e)) ((#[o0, u0, j1] : Array Operand).map (ev e))) = .func (.func f) #[] #[b0, b1, b2] := by simp [hb0, hb1, hb2]
def f79 (x0 : List Int) : Option (List Int) := apnd 8 [] x0
def lenTab : Str := (⟨[0, 1, 2, 2, 3, 3, 3, 3, 4, 4, 4, 4, 4, 4, 4, 4, 5, 5, 5, 5, 5, 5, 5, 5, 5, 5, 5, 5, 5, 5, 5, 5, 6, 6, 6, 6, 6, 6, 6, 6, 6, 6, 6, 6, 6, 6, 6, 6, 6, 6, 6, 6, 6, 6, 6, 6, 6, 6, 6, 6, 6, 6, 6, 6, 7, 7, 7, 7, 7, 7, 7, 7, 7, 7, 7, 7, 7, 7, 7, 7, 7, 7, 7, 7, 7, 7, 7, 7, 7, 7, 7, 7, 7, 7, 7, 7, 7, 7, 7, 7, 7, 7, 7, 7, 7, 7, 7, 7, 7, 7, 7, 7, 7, 7, 7, 7, 7, 7, 7, 7, 7, 7, 7, 7, 7, 7, 7, 7, 8, 8, 8, 8, 8, 8, 8, 8, 8, 8, 8, 8, 8, 8, 8, 8, 8, 8, 8, 8, 8, 8, 8, 8, 8, 8, 8, 8, 8, 8, 8, 8, 8, 8, 8, 8, 8, 8, 8, 8, 8, 8, 8, 8, 8, 8, 8, 8, 8, 8, 8, 8, 8, 8, 8, 8, 8, 8, 8, 8, 8, 8, 8, 8, 8, 8, 8, 8, 8, 8, 8, 8, 8, 8, 8, 8, 8, 8, 8, 8, 8, 8, 8, 8, 8, 8, 8, 8, 8, 8, 8, 8, 8, 8, 8, 8, 8, 8, 8, 8, 8, 8, 8, 8, 8, 8, 8, 8, 8, 8, 8, 8, 8, 8, 8, 8, 8, 8, 8, 8, 8, 8, 8, 8, 8, 8, 8, 8]⟩ : Str)
def f95 (x : Int) : Option Int := if 0 ≤ x ∧ x < 256 then (idx lenTab.b x).map fun c => w64 (0 + (c.toNat : Int)) else none
def f75 (x : Int) : Option Int := f95 x
def f5 : Option Bool := some true
theorem en5 : Enters Try.prog 5 := enters_of Try.func5 (by kernel_rfl) rfl
theorem wk5 {gI : Gh} {wI : World} {r : Bool} (h : f5 = some r) : Fn Try.prog 5 #[] gI wI (fun _ _ v => v = .bool (r)) := by
 injection h with h
 subst h
 exact wkK5
def f6 (x0 : List Int) : Option ((List Int)) :=
 (apnd 8 (([] : List Int)) x0).bind fun y3 =>
 some (y3)
theorem en6 : Enters Try.prog 6 := enters_of Try.func6 (by kernel_rfl) rfl
theorem wk6 {gI : Gh} {wI : World} {x0 : List Int} {up0 : Value} (rp0 : RV gI.m wI x0 up0) {r : (List Int)} (h : f6 x0 = some r) : Fn Try.prog 6 #[up0] gI wI (fun m w v => RV m w (r) v) := by
 unfold f6 at h
 refine fn_of_E Try.func6 rfl (Nat.le_of_ble_eq_true rfl) fun g0 hm hfr => ?_
 have rp0 : RV g0.m wI x0 up0 := hm ▸ rp0
 show E _ 6 none _ _ _ _ _
 refine E_seq (E_region (EL_at (.slice none 0 0) rfl rfl ?_))
 refine EL_nil (thn_n (E_seq (E_region (EL_do .plain rfl (D_buildSlice (g := g0) 3003 (xs := ([] : List Int)) (vs := []) Try.underlying22 Try.sizeOf3 Try.zeroValue3 rfl rfl .nil RVs.nil rfl rfl fun g1 w1 v1 hs o1 r1 hxt hfl => ?_)))))
 have hfr := hfr.stp hs
 have rp0 := rp0.stp hs
 refine EL_mw up0 rfl rfl ?_
 obtain ⟨y3, hy3, h⟩ := bsome h
 refine EL_do .plain rfl (D_append (g := g1) (i := 3003) Try.underlying22 info_3 rfl rfl o1 r1 rfl rp0 hy3 fun g2 w2 v2 hs o2 r2 _ => ?_)
 have hfr := hfr.stp hs
 refine EL_at v2 rfl rfl ?_
 refine EL_nil (thn_n (E_ret ?_))
 obtain rfl := sinj h
 exact end1 rfl rfl (show _ = v2 from rfl) ⟨_, hfr, r2⟩
def f8 (x0 : List Int) (x1 : List Int) : Option (Bool) :=
 jn (σ := Unit) (fun _ =>
  jn (σ := Unit) (fun _ =>
   some (true)
   ) fun k53 =>
  lp (σ := Int) (fun k54 o0 =>
   jn (σ := Unit) (fun _ =>
    jn (σ := Unit) (fun _ =>
     k54 ((w64 (o0 + (1 : Int))))
     ) fun d7 =>
    (idx x0 o0).bind fun u3 =>
    (idx x1 o0).bind fun z3 =>
    bif (u3 != z3) then
     some (false)
    else
     d7 ()
    ) fun k57 =>
   bif (decide (o0 < ((x0).length : Int))) then
    k57 ()
   else
    k53 ()
   ) big ((0 : Int))
  ) fun k2 =>
 bif (((x0).length : Int) != ((x1).length : Int)) then
  some (false)
 else
  k2 ()
theorem en8 : Enters Try.prog 8 := enters_of Try.func8 (by kernel_rfl) rfl
theorem wk8 {gI : Gh} {wI : World} {x0 : List Int} {x1 : List Int} {up0 : Value} (rp0 : RV gI.m wI x0 up0) {up1 : Value} (rp1 : RV gI.m wI x1 up1) {r : Bool} (h : f8 x0 x1 = some r) : Fn Try.prog 8 #[up0, up1] gI wI (fun _ _ v => v = .bool (r)) := by
 unfold f8 at h
 refine fn_of_E Try.func8 rfl (Nat.le_of_ble_eq_true rfl) fun g0 hm hfr => ?_
 have rp0 : RV g0.m wI x0 up0 := hm ▸ rp0
 have rp1 : RV g0.m wI x1 up1 := hm ▸ rp1
 show E _ 26 none _ _ _ _ _
 refine E_seq (E_region (EL_at (.bool false) rfl rfl ?_))
 refine EL_nil (thn_n (E_joinC h (fun (s : Unit) e w => ∃ (g : Gh) , Fr gI wI g w ∧ e 0 = up0 ∧ RV g.m w (x0 : List Int) up0 ∧ e 1 = up1 ∧ RV g.m w (x1 : List Int) up1) (fun X2 k2 hk2 h => ?_) ?_))
 ·refine E_seq (E_region (EL_mw up0 rfl rfl ?_))
  refine EL_p (.int .i64 ((x0).length : Int)) (P_len Try.underlying22 rfl rp0) rfl ?_
  refine EL_mw up1 rfl rfl ?_
  refine EL_p (.int .i64 ((x1).length : Int)) (P_len Try.underlying22 rfl rp1) rfl ?_
  refine EL_in (.bool ((((x0).length : Int) != ((x1).length : Int)))) rfl rfl rfl rfl ?_
  refine EL_nil (thn_n ?_)
  rcases csome h with ⟨hc3, h⟩ | ⟨hc3, h⟩
  ·refine E_ct hc3 rfl ?_
   refine E_seq (E_region (EL_at (.bool false) rfl rfl ?_))
   refine EL_nil (thn_n (E_ret (thn_r ?_)))
   obtain rfl := sinj h
   exact end1 rfl rfl (show _ = .bool false from rfl) ⟨_, hfr, rfl⟩
  ·refine E_cf hc3 rfl ?_
   exact E_skip (thn_n (hk2 () _ _ ⟨g0, hfr, rfl, rp0, rfl, rp1⟩ h))
 ·rintro _ e9 w4 ⟨g4, hfr, g7, i7, j7, m7⟩ h
  refine E_joinC h (fun (s : Unit) e w => ∃ (g : Gh) , Fr gI wI g w) (fun X53 k53 n7 h => ?_) ?_
  ·refine E_seq (E_region (EL_at (.int .i64 (0)) rfl rfl ?_))
   refine EL_nil (thn_n (E_block ?_))
   refine E_lp h (fun (s : Int) e w => ∃ (g : Gh) , Fr gI wI g w ∧ e 0 = up0 ∧ RV g.m w (x0 : List Int) up0 ∧ e 1 = up1 ∧ RV g.m w (x1 : List Int) up1 ∧ e 5 = .int .i64 (s)) ⟨g4, hfr, g7, i7, j7, m7, rfl⟩ (fun X54 k54 o7 => ?_)
   rintro o0 v8 i9 ⟨e7, hfr, z4, i5, b7, c7, l5⟩ h
   refine E_joinC h (fun (s : Unit) e w => ∃ (g : Gh) , Fr gI wI g w ∧ e 0 = up0 ∧ RV g.m w (x0 : List Int) up0 ∧ e 1 = up1 ∧ RV g.m w (x1 : List Int) up1 ∧ e 5 = .int .i64 (o0)) (fun X57 k57 u7 h => ?_) ?_
   ·refine E_seq (E_region (EL_mv l5 rfl ?_))
    refine EL_mv z4 rfl ?_
    refine EL_p (.int .i64 ((x0).length : Int)) (P_len Try.underlying22 rfl i5) rfl ?_
    refine EL_in (.bool ((decide (o0 < ((x0).length : Int))))) rfl rfl rfl rfl ?_
    refine EL_nil (thn_n ?_)
    rcases csome h with ⟨o3, h⟩ | ⟨o3, h⟩
    ·refine E_ct o3 rfl ?_
     exact E_skip (thn_n (u7 () _ _ ⟨e7, hfr, z4, i5, b7, c7, l5⟩ h))
    ·refine E_cf o3 rfl ?_
     refine E_exit ?_
     refine thn_e ?_
     refine thn_e ?_
     refine blk_hit ?_
     exact thn_n (n7 () _ _ ⟨e7, hfr⟩ h)
   ·rintro _ x8 k9 ⟨k8, hfr, q5, u0, t5, j1, i3⟩ h
    refine E_joinC h (fun (s : Unit) e w => ∃ (g : Gh) , Fr gI wI g w ∧ e 0 = up0 ∧ RV g.m w (x0 : List Int) up0 ∧ e 1 = up1 ∧ RV g.m w (x1 : List Int) up1 ∧ e 5 = .int .i64 (o0)) (fun X81 d7 v7 h => ?_) ?_
    ·refine E_block ?_
     refine E_seq ?_
     obtain ⟨u3, x5, h⟩ := bsome h
     have l8 := PT_idx u0 x5
     refine L_load (x := .tmp 19) Try.isAgg3 Try.sizeOf3 l8 fun l9 m8 c8 => ?_
     obtain rfl := RV_int.1 m8
     obtain ⟨z3, i6, h⟩ := bsome h
     have n8 := PT_idx j1 i6
     refine L_load (x := .tmp 23) Try.isAgg3 Try.sizeOf3 n8 fun n9 o8 g8 => ?_
     obtain rfl := RV_int.1 o8
     refine E_drawL (g := k8) (n := 9) [] [0, 1, 2, 3, 4, 5, 6, 7, 8] rfl mixed (by kernel_rfl) trivial ?_
     refine L_p up0 rfl rfl (P_move q5) ?_
     refine L_p (.int .i64 (o0)) rfl rfl (P_move i3) ?_
     refine L_p (ePtr up0 o0 1) rfl rfl (P_indexAddr (α := Int) Try.underlying22 Try.sizeOf3 rfl u0 rfl x5) ?_
     refine L_ld (c := .int .i64 (u3)) rfl rfl .plain (fun _ _ h => h.ch) c8 rfl ?_
     refine L_p up1 rfl rfl (P_move t5) ?_
     refine L_p (.int .i64 (o0)) rfl rfl (P_move i3) ?_
     refine L_p (ePtr up1 o0 1) rfl rfl (P_indexAddr (α := Int) Try.underlying22 Try.sizeOf3 rfl j1 rfl i6) ?_
     refine L_ld (c := .int .i64 (z3)) rfl rfl .plain (fun _ _ h => h.ch) g8 rfl ?_
     refine L_p (.bool ((u3 != z3))) rfl rfl (P_int rfl rfl rfl) ?_
     refine L_nl fun q8 o9 hs => ?_
     have hfr := hfr.ext hs
     have u0 := u0.ext hs
     have j1 := j1.ext hs
     clear hs
     refine EL_nil (thn_n ?_)
     rcases csome h with ⟨j3, h⟩ | ⟨j3, h⟩
     ·refine E_ct j3 rfl ?_
      refine E_seq (E_region (EL_at (.bool false) rfl rfl ?_))
      refine EL_nil (thn_n (E_ret (blk_r ?_)))
      refine thn_r ?_
      refine thn_r ?_
      refine blk_r ?_
      refine thn_r ?_
      obtain rfl := sinj h
      exact end1 rfl rfl (show _ = .bool false from rfl) ⟨_, hfr, rfl⟩
     ·refine E_cf j3 rfl ?_
      exact E_skip (blk_n (thn_n (v7 () _ _ ⟨q8, hfr, q5, u0, t5, j1, i3⟩ h)))
    ·rintro _ r8 y8 ⟨i8, hfr, j6, v6, x6, y6, a7⟩ h
     refine E_region (EL_mv a7 rfl ?_)
     refine EL_in (.int .i64 ((w64 (o0 + (1 : Int))))) rfl rfl rfl rfl ?_
     refine EL_at (.int .i64 ((w64 (o0 + (1 : Int))))) rfl rfl ?_
     exact EL_nil (thn_n (o7 ((w64 (o0 + (1 : Int)))) _ _ ⟨i8, hfr, j6, v6, x6, y6, rfl⟩ h))
  ·rintro _ t8 a9 ⟨d9, hfr⟩ h
   refine E_seq (E_region (EL_at (.bool true) rfl rfl ?_))
   refine EL_nil (thn_n (E_ret ?_))
   obtain rfl := sinj h
   exact end1 rfl rfl (show _ = .bool true from rfl) ⟨_, hfr, rfl⟩
def f9 (x0 : Int) (x1 : Int) (x2 : Int) : Option (Bool) :=
 Option.bind (α := Bool) (
  bif (decide (x0 ≥ x1)) then
   some ((decide (x0 ≤ x2)))
  else
   some (false)
  ) fun o0 =>
 some (o0)
theorem en9 : Enters Try.prog 9 := enters_of Try.func9 (by kernel_rfl) rfl
theorem wk9 {gI : Gh} {wI : World} {x0 : Int} {x1 : Int} {x2 : Int}  {r : Bool} (h : f9 x0 x1 x2 = some r) : Fn Try.prog 9 #[.int .i64 (x0), .int .i64 (x1), .int .i64 (x2)] gI wI (fun _ _ v => v = .bool (r)) := by
 unfold f9 at h
 refine fn_of_E Try.func9 rfl (Nat.le_of_ble_eq_true rfl) fun g0 hm hfr => ?_
 show E _ 15 none _ _ _ _ _
 refine E_seq (E_region (EL_at (.bool false) rfl rfl ?_))
 refine EL_nil (thn_n ?_)
 obtain ⟨o0, hx, h⟩ := bsome h
 refine E_join (fun e w => ∃ (g : Gh) , Fr gI wI g w ∧ e 6 = .bool (o0)) (fun Q' hQ => ?_) (fun j1 w3 hR => ?_)
 ·replace h := hx
  clear hx
  refine E_region (EL_mw (.int .i64 (x0)) rfl rfl ?_)
  refine EL_mw (.int .i64 (x1)) rfl rfl ?_
  refine EL_in (.bool ((decide (x0 ≥ x1)))) rfl rfl rfl rfl ?_
  refine EL_mw (.bool ((decide (x0 ≥ x1)))) rfl rfl ?_
  rcases csome h with ⟨hc2, h⟩ | ⟨hc2, h⟩
  ·refine EL_y (.int .i64 (x0)) (P_move rfl) rfl rfl hc2 rfl ?_
   refine EL_y (.int .i64 (x2)) (P_move rfl) rfl rfl hc2 rfl ?_
   refine EL_y (.bool ((decide (x0 ≤ x2)))) (P_int rfl rfl rfl) rfl rfl hc2 rfl ?_
   refine EL_p (.bool ((decide (x0 ≤ x2)))) (P_pick (b := (decide (x0 ≥ x1))) rfl (pick_t hc2 rfl)) rfl ?_
   refine EL_at (.bool ((decide (x0 ≤ x2)))) rfl rfl ?_
   refine EL_nil ?_
   obtain rfl := sinj h
   exact hQ _ _ ⟨g0, hfr, rfl⟩
  ·refine EL_s rfl rfl hc2 rfl rfl ?_
   refine EL_s rfl rfl hc2 rfl rfl ?_
   refine EL_s rfl rfl hc2 rfl rfl ?_
   refine EL_p (.bool false) (P_pick (b := (decide (x0 ≥ x1))) rfl (pick_f hc2 rfl)) rfl ?_
   refine EL_at (.bool false) rfl rfl ?_
   refine EL_nil ?_
   obtain rfl := sinj h
   exact hQ _ _ ⟨g0, hfr, rfl⟩
 ·clear hx
  obtain ⟨g3, hfr, u0⟩ := hR
  refine E_ret ?_
  obtain rfl := sinj h
  exact end1 rfl rfl (show _ = .bool (o0) from u0) ⟨_, hfr, rfl⟩
def f10 (x0 : Int) (x1 : List Int) : Option ((List Int)) :=
 Option.bind (α := Int) (
  lp (σ := Int × Int) (fun kI (a7, l5) =>
   jn (σ := Unit) (fun _ =>
    Option.bind (α := Int) (
     (idx x1 l5).bind fun aC =>
     some ((w64 (a7 + aC)))
     ) fun q8 =>
    kI (q8, (w64 (l5 + (1 : Int))))
    ) fun k19 =>
   bif (decide (l5 < ((x1).length : Int))) then
    k19 ()
   else
    some (a7)
   ) big ((0 : Int), (0 : Int))
  ) fun x5 =>
 Option.bind (α := Int × (List Int) × (List Int)) (
  lp (σ := Int × (List Int) × (List Int) × Int) (fun nD (j6, x6, e7, o0) =>
   jn (σ := Unit) (fun _ =>
    Option.bind (α := Int × (List Int) × (List Int)) (
     (idx x1 o0).bind fun z9 =>
     (quo64 (w64 (x0 * z9)) x5).bind fun i5 =>
     (apnd 8 x6 (([i5] : List Int))).bind fun n8 =>
     (idx x1 o0).bind fun bA =>
     (rem64 (w64 (x0 * bA)) x5).bind fun q5 =>
     (apnd 8 e7 (([q5] : List Int))).bind fun y227 =>
     (idx x1 o0).bind fun xB =>
     (quo64 (w64 (x0 * xB)) x5).bind fun r8 =>
     some ((w64 (j6 - r8)), n8, y227)
     ) fun (g7, i7, j7) =>
    nD (g7, i7, j7, (w64 (o0 + (1 : Int))))
    ) fun oD =>
   bif (decide (o0 < ((x1).length : Int))) then
    oD ()
   else
    some (j6, x6, e7)
   ) big (x0, ([] : List Int), ([] : List Int), (0 : Int))
  ) fun (s6_233, t8, x8) =>
 Option.bind (α := (List Int)) (
  lp (σ := (List Int) × (List Int) × Int) (fun sD (z4, o3, j3) =>
   jn (σ := Unit) (fun _ =>
    Option.bind (α := (List Int) × (List Int)) (
     Option.bind (α := Int) (
      lp (σ := Int × Int) (fun tD (t5, i3) =>
       jn (σ := Unit) (fun _ =>
        Option.bind (α := Int) (
         (idx o3 i3).bind fun gA =>
         (idx o3 t5).bind fun iA =>
         bif (decide (gA > iA)) then
          some (i3)
         else
          some (t5)
         ) fun b7 =>
        tD (b7, (w64 (i3 + (1 : Int))))
        ) fun uD =>
       bif (decide (i3 < ((o3).length : Int))) then
        uD ()
       else
        some (t5)
       ) big ((0 : Int), (1 : Int))
      ) fun u3 =>
     (idx z4 u3).bind fun jA =>
     (idx z4 u3).bind fun nI =>
     (idx o3 u3).bind fun pI =>
     some ((List.set z4 (Int.toNat u3) ((w64 (jA + (1 : Int))))), (List.set o3 (Int.toNat u3) ((-1 : Int))))
     ) fun (m7, n7) =>
    sD (m7, n7, (w64 (j3 + (1 : Int))))
    ) fun vD =>
   bif (decide (j3 < s6_233)) then
    vD ()
   else
    some (z4)
   ) big (t8, x8, (0 : Int))
  ) fun y8 =>
 some (y8)
theorem en10 : Enters Try.prog 10 := enters_of Try.func10 (by kernel_rfl) rfl
theorem wk10 {gI : Gh} {wI : World} {x0 : Int} {x1 : List Int} {up1 : Value} (rp1 : RV gI.m wI x1 up1) {r : (List Int)} (h : f10 x0 x1 = some r) : Fn Try.prog 10 #[.int .i64 (x0), up1] gI wI (fun m w v => RV m w (r) v) := by
 unfold f10 at h
 refine fn_of_E Try.func10 rfl (Nat.le_of_ble_eq_true rfl) fun g0 hm hfr => ?_
 have rp1 : RV g0.m wI x1 up1 := hm ▸ rp1
 show E _ 98 none _ _ _ _ _
 refine E_seq (E_region (EL_at (.slice none 0 0) rfl rfl ?_))
 refine EL_nil (thn_n (E_seq (E_region (EL_mw (.int .i64 (x0)) rfl rfl ?_))))
 refine EL_do .plain rfl (D_buildSliceA (g := g0) 4007 (xs := ([] : List Int)) (vs := []) Try.underlying22 Try.sizeOf3 Try.zeroValue3 rfl rfl .nil RVs.nil rfl rfl fun g1 w1 v1 hs b1 _ => ?_)
 have hfr := hfr.stp hs
 have rp1 := rp1.stp hs
 refine EL_do .plain rfl (D_buildSliceA (g := g1) 4008 (xs := ([] : List Int)) (vs := []) Try.underlying22 Try.sizeOf3 Try.zeroValue3 rfl rfl .nil RVs.nil rfl rfl fun g2 w2 v2 hs b2 _ => ?_)
 have hfr := hfr.stp hs
 have rp1 := rp1.stp hs
 have b1 := b1.stp hs rfl
 refine EL_at (.int .i64 (0)) rfl rfl ?_
 refine EL_at (.int .i64 (x0)) rfl rfl ?_
 refine EL_at v1 rfl rfl ?_
 refine EL_at v2 rfl rfl ?_
 refine EL_nil (thn_n ?_)
 obtain ⟨x5, hx, h⟩ := bsome h
 refine E_join (fun e w => ∃ (g : Gh) , Fr gI wI g w ∧ e 0 = .int .i64 (x0) ∧ e 1 = up1 ∧ RV g.m w (x1 : List Int) up1 ∧ e 5 = .int .i64 (x5) ∧ e 6 = .int .i64 (x0) ∧ e 7 = v1 ∧ OA 4007 g w 3 (([] : List Int) : List Int) v1 ∧ e 8 = v2 ∧ OA 4008 g w 3 (([] : List Int) : List Int) v2) (fun Q' hQ => ?_) (fun nK vL hR => ?_)
 ·replace h := hx
  clear hx
  refine E_seq (E_region (EL_at (.int .i64 (0)) rfl rfl ?_))
  refine EL_nil (thn_n (E_block ?_))
  refine E_lp h (fun (s : Int × Int) e w => ∃ (g : Gh) , Fr gI wI g w ∧ e 0 = .int .i64 (x0) ∧ e 1 = up1 ∧ RV g.m w (x1 : List Int) up1 ∧ e 5 = .int .i64 (s.1) ∧ e 6 = .int .i64 (x0) ∧ e 7 = v1 ∧ OA 4007 g w 3 (([] : List Int) : List Int) v1 ∧ e 8 = v2 ∧ OA 4008 g w 3 (([] : List Int) : List Int) v2 ∧ e 9 = .int .i64 (s.2)) ⟨g2, hfr, rfl, rfl, rp1, rfl, rfl, rfl, b1, rfl, b2, rfl⟩ (fun X16 kI qI => ?_)
  rintro ⟨a7, l5⟩ oK xL ⟨lI, hfr, cC, lA, mA, dC, eC, iC, jC, kC, lC, mC⟩ h
  refine E_joinC h (fun (s : Unit) e w => ∃ (g : Gh) , Fr gI wI g w ∧ e 0 = .int .i64 (x0) ∧ e 1 = up1 ∧ RV g.m w (x1 : List Int) up1 ∧ e 5 = .int .i64 (a7) ∧ e 6 = .int .i64 (x0) ∧ e 7 = v1 ∧ OA 4007 g w 3 (([] : List Int) : List Int) v1 ∧ e 8 = v2 ∧ OA 4008 g w 3 (([] : List Int) : List Int) v2 ∧ e 9 = .int .i64 (l5)) (fun X19 k19 rI h => ?_) ?_
  ·refine E_seq (E_region (EL_mv mC rfl ?_))
   refine EL_mv lA rfl ?_
   refine EL_p (.int .i64 ((x1).length : Int)) (P_len Try.underlying22 rfl mA) rfl ?_
   refine EL_in (.bool ((decide (l5 < ((x1).length : Int))))) rfl rfl rfl rfl ?_
   refine EL_nil (thn_n ?_)
   rcases csome h with ⟨yB, h⟩ | ⟨yB, h⟩
   ·refine E_ct yB rfl ?_
    exact E_skip (thn_n (rI () _ _ ⟨lI, hfr, cC, lA, mA, dC, eC, iC, jC, kC, lC, mC⟩ h))
   ·refine E_cf yB rfl ?_
    refine E_exit ?_
    refine thn_e ?_
    refine thn_e ?_
    refine blk_hit ?_
    obtain rfl := sinj h
    exact hQ _ _ ⟨lI, hfr, cC, lA, mA, dC, eC, iC, jC, kC, lC⟩
  ·rintro _ pK yL ⟨mI, hfr, lG, qC, nA, mG, nG, oG, pG, qG, rG, rC⟩ h
   obtain ⟨q8, hx, h⟩ := bsome h
   refine E_join (fun e w => ∃ (g : Gh) , Fr gI wI g w ∧ e 0 = .int .i64 (x0) ∧ e 1 = up1 ∧ RV g.m w (x1 : List Int) up1 ∧ e 5 = .int .i64 (q8) ∧ e 6 = .int .i64 (x0) ∧ e 7 = v1 ∧ OA 4007 g w 3 (([] : List Int) : List Int) v1 ∧ e 8 = v2 ∧ OA 4008 g w 3 (([] : List Int) : List Int) v2 ∧ e 9 = .int .i64 (l5)) (fun Q' hQ => ?_) (fun qK zL hR => ?_)
   ·replace h := hx
    clear hx
    refine E_block ?_
    refine E_region (EL_mv mG rfl ?_)
    refine EL_mv qC rfl ?_
    refine EL_mv rC rfl ?_
    obtain ⟨aC, xD, h⟩ := bsome h
    refine EL_p (ePtr up1 l5 1) (P_indexAddr (α := Int) Try.underlying22 Try.sizeOf3 rfl nA rfl xD) rfl ?_
    have qJ := PT_idx nA xD
    refine EL_do .plain rfl (D_load (g := mI) Try.isAgg3 Try.sizeOf3 rfl qJ fun aM rJ => ?_)
    obtain rfl := RV_int.1 rJ
    refine EL_in (.int .i64 ((w64 (a7 + aC)))) rfl rfl rfl rfl ?_
    refine EL_at (.int .i64 ((w64 (a7 + aC)))) rfl rfl ?_
    refine EL_nil (blk_n ?_)
    obtain rfl := sinj h
    exact hQ _ _ ⟨mI, hfr, lG, qC, nA, rfl, nG, oG, pG, qG, rG, rC⟩
   ·clear hx
    obtain ⟨sJ, hfr, sG, tG, uG, vG, xG, yG, zG, aH, bH, cH⟩ := hR
    refine E_region (EL_mv cH rfl ?_)
    refine EL_in (.int .i64 ((w64 (l5 + (1 : Int))))) rfl rfl rfl rfl ?_
    refine EL_at (.int .i64 ((w64 (l5 + (1 : Int))))) rfl rfl ?_
    exact EL_nil (thn_n (qI (q8, (w64 (l5 + (1 : Int)))) _ _ ⟨sJ, hfr, sG, tG, uG, vG, xG, yG, zG, aH, bH, rfl⟩ h))
 ·clear hx
  obtain ⟨tJ, hfr, dH, gH, iH, jH, kH, lH, mH, nH, oH⟩ := hR
  obtain ⟨⟨s6_233, t8, x8⟩, hx, h⟩ := bsome h
  refine E_join (fun e w => ∃ (g : Gh) (v7 v8 : Value), Fr gI wI g w ∧ e 6 = .int .i64 (s6_233) ∧ e 7 = v7 ∧ OA 4007 g w 3 (t8 : List Int) v7 ∧ e 8 = v8 ∧ OA 4008 g w 3 (x8 : List Int) v8) (fun Q' hQ => ?_) (fun uJ sK hR => ?_)
  ·replace h := hx
   clear hx
   refine E_seq (E_region (EL_at (.int .i64 (0)) rfl rfl ?_))
   refine EL_nil (thn_n (E_block ?_))
   refine E_lp h (fun (s : Int × (List Int) × (List Int) × Int) e w => ∃ (g : Gh) (v7 v8 : Value), Fr gI wI g w ∧ e 0 = .int .i64 (x0) ∧ e 1 = up1 ∧ RV g.m w (x1 : List Int) up1 ∧ e 5 = .int .i64 (x5) ∧ e 6 = .int .i64 (s.1) ∧ e 7 = v7 ∧ OA 4007 g w 3 (s.2.1 : List Int) v7 ∧ e 8 = v8 ∧ OA 4008 g w 3 (s.2.2.1 : List Int) v8 ∧ e 10 = .int .i64 (s.2.2.2)) ⟨tJ, (v1), (v2), hfr, dH, gH, iH, jH, kH, lH, mH, nH, oH, rfl⟩ (fun X132 nD pH => ?_)
   rintro ⟨j6, x6, e7, o0⟩ vJ tK ⟨yD, y6, o7, hfr, zD, uA, xA, aE, yA, zA, aB, bB, cB, i9⟩ h
   refine E_joinC h (fun (s : Unit) e w => ∃ (g : Gh) , Fr gI wI g w ∧ e 0 = .int .i64 (x0) ∧ e 1 = up1 ∧ RV g.m w (x1 : List Int) up1 ∧ e 5 = .int .i64 (x5) ∧ e 6 = .int .i64 (j6) ∧ e 7 = y6 ∧ OA 4007 g w 3 (x6 : List Int) y6 ∧ e 8 = o7 ∧ OA 4008 g w 3 (e7 : List Int) o7 ∧ e 10 = .int .i64 (o0)) (fun X135 oD qH h => ?_) ?_
   ·refine E_seq (E_region (EL_mv i9 rfl ?_))
    refine EL_mv uA rfl ?_
    refine EL_p (.int .i64 ((x1).length : Int)) (P_len Try.underlying22 rfl xA) rfl ?_
    refine EL_in (.bool ((decide (o0 < ((x1).length : Int))))) rfl rfl rfl rfl ?_
    refine EL_nil (thn_n ?_)
    rcases csome h with ⟨oA, h⟩ | ⟨oA, h⟩
    ·refine E_ct oA rfl ?_
     exact E_skip (thn_n (qH () _ _ ⟨yD, hfr, zD, uA, xA, aE, yA, zA, aB, bB, cB, i9⟩ h))
    ·refine E_cf oA rfl ?_
     refine E_exit ?_
     refine thn_e ?_
     refine thn_e ?_
     refine blk_hit ?_
     obtain ⟨rfl, rfl, rfl⟩ := pairs3 h
     exact hQ _ _ ⟨yD, (y6), (o7), hfr, yA, zA, aB, bB, cB⟩
   ·rintro _ xJ sI ⟨tI, hfr, u7, c8, z3, g8, bE, cE, dE, eE, a9, c7⟩ h
    obtain ⟨⟨g7, i7, j7⟩, hx, h⟩ := bsome h
    refine E_join (fun e w => ∃ (g : Gh) (v7 v8 : Value), Fr gI wI g w ∧ e 0 = .int .i64 (x0) ∧ e 1 = up1 ∧ RV g.m w (x1 : List Int) up1 ∧ e 5 = .int .i64 (x5) ∧ e 6 = .int .i64 (g7) ∧ e 7 = v7 ∧ OA 4007 g w 3 (i7 : List Int) v7 ∧ e 8 = v8 ∧ OA 4008 g w 3 (j7 : List Int) v8 ∧ e 10 = .int .i64 (o0)) (fun Q' hQ => ?_) (fun yJ uK hR => ?_)
    ·replace h := hx
     clear hx
     refine E_block ?_
     refine E_seq ?_
     obtain ⟨z9, tC, h⟩ := bsome h
     have uI := PT_idx z3 tC
     refine L_load (x := .tmp 39) Try.isAgg3 Try.sizeOf3 uI fun vK vI sH => ?_
     obtain rfl := RV_int.1 vI
     obtain ⟨i5, tH, h⟩ := bsome h
     obtain ⟨n8, uH, h⟩ := bsome h
     obtain ⟨bA, uC, h⟩ := bsome h
     have xI := PT_idx z3 uC
     refine L_load (x := .tmp 50) Try.isAgg3 Try.sizeOf3 xI fun xK yI vH => ?_
     obtain rfl := RV_int.1 yI
     obtain ⟨q5, xH, h⟩ := bsome h
     refine E_drawA (g := tI) (w := sI) (i := 4007) (et := 3) (xs := (x6 : List Int)) (r := n8) (u := y6) dE (n := 21) [(9, (fun v g w => RV g.m w ([i5] : List Int) v ∧ OS 3044 g w 3 ([i5] : List Int) v ∧ FullV v)), (10, (fun v g w => OA 4007 g w 3 n8 v)), (20, (fun v g w => RV g.m w ([q5] : List Int) v ∧ OS 3055 g w 3 ([q5] : List Int) v ∧ FullV v))] [0, 1, 2, 3, 4, 5, 6, 7, 8, 9, 10, 11, 12, 13, 14, 15, 16, 17, 18, 19, 20] rfl mixed (by kernel_rfl) (⟨fun _ => up_and upA_rv (up_and upA_os (upA_eq _)), fun _ => up_ap, fun _ => up_and upA_rv (up_and upA_os (upA_eq _)), trivial⟩) ?_
     refine L_p y6 rfl rfl (P_move cE) ?_
     refine L_p (.int .i64 (x0)) rfl rfl (P_move u7) ?_
     refine L_p up1 rfl rfl (P_move c8) ?_
     refine L_p (.int .i64 (o0)) rfl rfl (P_move c7) ?_
     refine L_p (ePtr up1 o0 1) rfl rfl (P_indexAddr (α := Int) Try.underlying22 Try.sizeOf3 rfl z3 rfl tC) ?_
     refine L_ld (c := .int .i64 (z9)) rfl rfl .plain (fun _ _ h => h.1.ch) sH rfl ?_
     refine L_p (.int .i64 ((w64 (x0 * z9)))) rfl rfl (P_int rfl rfl rfl) ?_
     refine L_p (.int .i64 (x5)) rfl rfl (P_move g8) ?_
     refine L_p (.int .i64 (i5)) rfl rfl (P_int rfl rfl (congrArg (Option.map (Value.int .i64)) tH)) ?_
     refine L_do (φ := fun v g w => RV g.m w ([i5] : List Int) v ∧ OS 3044 g w 3 ([i5] : List Int) v ∧ FullV v) rfl rfl .plain (fun g w hd => D_buildSlice (g := g) 3044 (xs := ([i5] : List Int)) (vs := [.int .i64 (i5)]) Try.underlying22 Try.sizeOf3 Try.zeroValue3 rfl rfl (.cons rfl .nil) (RVs.cons (RV_int.2 rfl) RVs.nil) rfl rfl fun g' w' v hs o r hxt hfl => ⟨g', ap_ext hxt, r, o, hfl⟩) (fun v6 hv => ?_)
     clear hv
     refine L_do (φ := fun v g w => OA 4007 g w 3 n8 v) rfl rfl .plain (fun g w hd => D_appendR (g := g) plain_int Try.underlying22 info_3 rfl rfl hd.1.2 rfl (word (A := fun g w => RV g.m w ([i5] : List Int) v6 ∧ OS 3044 g w 3 ([i5] : List Int) v6 ∧ FullV v6) 9 rfl rfl (deps_of hd)).1 uH) (fun zB hv => ?_)
     clear hv
     refine L_p o7 rfl rfl (P_move eE) ?_
     refine L_p (.int .i64 (x0)) rfl rfl (P_move u7) ?_
     refine L_p up1 rfl rfl (P_move c8) ?_
     refine L_p (.int .i64 (o0)) rfl rfl (P_move c7) ?_
     refine L_p (ePtr up1 o0 1) rfl rfl (P_indexAddr (α := Int) Try.underlying22 Try.sizeOf3 rfl z3 rfl uC) ?_
     refine L_ld (c := .int .i64 (bA)) rfl rfl .plain (fun _ _ h => h.1.ch) vH rfl ?_
     refine L_p (.int .i64 ((w64 (x0 * bA)))) rfl rfl (P_int rfl rfl rfl) ?_
     refine L_p (.int .i64 (x5)) rfl rfl (P_move g8) ?_
     refine L_p (.int .i64 (q5)) rfl rfl (P_int rfl rfl (congrArg (Option.map (Value.int .i64)) xH)) ?_
     refine L_do (φ := fun v g w => RV g.m w ([q5] : List Int) v ∧ OS 3055 g w 3 ([q5] : List Int) v ∧ FullV v) rfl rfl .plain (fun g w hd => D_buildSlice (g := g) 3055 (xs := ([q5] : List Int)) (vs := [.int .i64 (q5)]) Try.underlying22 Try.sizeOf3 Try.zeroValue3 rfl rfl (.cons rfl .nil) (RVs.cons (RV_int.2 rfl) RVs.nil) rfl rfl fun g' w' v hs o r hxt hfl => ⟨g', ap_ext hxt, r, o, hfl⟩) (fun o8 hv => ?_)
     clear hv
     refine L_nil fun zI yK hall => ?_
     have hs := hall.1.1
     have hfr := hfr.stp hs
     have z3 := z3.stp hs
     have a9 := a9.stp hs rfl
     have zK := (word_all (A := fun g w => RV g.m w ([i5] : List Int) v6 ∧ OS 3044 g w 3 ([i5] : List Int) v6 ∧ FullV v6) 9 rfl hall).1
     have o214 := (word_all (A := fun g w => RV g.m w ([i5] : List Int) v6 ∧ OS 3044 g w 3 ([i5] : List Int) v6 ∧ FullV v6) 9 rfl hall).2.1
     have b215 := (word_all (A := fun g w => OA 4007 g w 3 n8 zB) 10 rfl hall)
     have aJ := (word_all (A := fun g w => RV g.m w ([q5] : List Int) o8 ∧ OS 3055 g w 3 ([q5] : List Int) o8 ∧ FullV o8) 20 rfl hall).1
     have o225 := (word_all (A := fun g w => RV g.m w ([q5] : List Int) o8 ∧ OS 3055 g w 3 ([q5] : List Int) o8 ∧ FullV o8) 20 rfl hall).2.1
     clear hs hall
     obtain ⟨y227, yH, h⟩ := bsome h
     refine EL_do .plain rfl (D_appendA (g := zI) plain_int (i := 4008) Try.underlying22 info_3 rfl rfl a9 rfl aJ yH fun gE aL iE hs b226 => ?_)
     have hfr := hfr.stp hs
     have z3 := z3.stp hs
     have b215 := b215.stp hs rfl
     refine EL_at zB rfl rfl ?_
     refine EL_at iE rfl rfl ?_
     refine EL_nil (thn_n (E_region (EL_mv bE rfl ?_)))
     refine EL_mv u7 rfl ?_
     refine EL_mv c8 rfl ?_
     refine EL_mv c7 rfl ?_
     obtain ⟨xB, vC, h⟩ := bsome h
     refine EL_p (ePtr up1 o0 1) (P_indexAddr (α := Int) Try.underlying22 Try.sizeOf3 rfl z3 rfl vC) rfl ?_
     have bJ := PT_idx z3 vC
     refine EL_do .plain rfl (D_load (g := gE) Try.isAgg3 Try.sizeOf3 rfl bJ fun bL cJ => ?_)
     obtain rfl := RV_int.1 cJ
     refine EL_in (.int .i64 ((w64 (x0 * xB)))) rfl rfl rfl rfl ?_
     refine EL_mv g8 rfl ?_
     obtain ⟨r8, zH, h⟩ := bsome h
     refine EL_p (.int .i64 (r8)) (P_int rfl rfl (congrArg (Option.map (Value.int .i64)) zH)) rfl ?_
     refine EL_in (.int .i64 ((w64 (j6 - r8)))) rfl rfl rfl rfl ?_
     refine EL_at (.int .i64 ((w64 (j6 - r8)))) rfl rfl ?_
     refine EL_nil (blk_n ?_)
     obtain ⟨rfl, rfl, rfl⟩ := pairs3 h
     exact hQ _ _ ⟨gE, (zB), (iE), hfr, u7, c8, z3, g8, rfl, rfl, b215, rfl, b226, c7⟩
    ·clear hx
     obtain ⟨dJ, jE, kE, hfr, lE, mE, nE, oE, rE, sE, tE, uE, vE, eD⟩ := hR
     refine E_region (EL_mv eD rfl ?_)
     refine EL_in (.int .i64 ((w64 (o0 + (1 : Int))))) rfl rfl rfl rfl ?_
     refine EL_at (.int .i64 ((w64 (o0 + (1 : Int))))) rfl rfl ?_
     exact EL_nil (thn_n (pH (g7, i7, j7, (w64 (o0 + (1 : Int)))) _ _ ⟨dJ, (jE), (kE), hfr, lE, mE, nE, oE, rE, sE, tE, uE, vE, rfl⟩ h))
  ·clear hx
   obtain ⟨eJ, u0, j1, hfr, xE, yE, zE, cF, dF⟩ := hR
   obtain ⟨y8, hx, h⟩ := bsome h
   refine E_join (fun e w => ∃ (g : Gh) , Fr gI wI g w ∧ e 7 = u0 ∧ OA 4007 g w 3 (y8 : List Int) u0) (fun Q' hQ => ?_) (fun zJ cL hR => ?_)
   ·replace h := hx
    clear hx
    refine E_seq (E_region (EL_at (.int .i64 (0)) rfl rfl ?_))
    refine EL_nil (thn_n (E_block ?_))
    refine E_lp h (fun (s : (List Int) × (List Int) × Int) e w => ∃ (g : Gh) , Fr gI wI g w ∧ e 6 = .int .i64 (s6_233) ∧ e 7 = u0 ∧ OA 4007 g w 3 (s.1 : List Int) u0 ∧ e 8 = j1 ∧ OA 4008 g w 3 (s.2.1 : List Int) j1 ∧ e 11 = .int .i64 (s.2.2)) ⟨eJ, hfr, xE, yE, zE, cF, dF, rfl⟩ (fun X451 sD aI => ?_)
    rintro ⟨z4, o3, j3⟩ aK dL ⟨eF, hfr, dB, eB, iB, iF, nF, k9⟩ h
    refine E_joinC h (fun (s : Unit) e w => ∃ (g : Gh) , Fr gI wI g w ∧ e 6 = .int .i64 (s6_233) ∧ e 7 = u0 ∧ OA 4007 g w 3 (z4 : List Int) u0 ∧ e 8 = j1 ∧ OA 4008 g w 3 (o3 : List Int) j1 ∧ e 11 = .int .i64 (j3)) (fun X454 vD bI h => ?_) ?_
    ·refine E_seq (E_region (EL_mv k9 rfl ?_))
     refine EL_mv dB rfl ?_
     refine EL_in (.bool ((decide (j3 < s6_233)))) rfl rfl rfl rfl ?_
     refine EL_nil (thn_n ?_)
     rcases csome h with ⟨pA, h⟩ | ⟨pA, h⟩
     ·refine E_ct pA rfl ?_
      exact E_skip (thn_n (bI () _ _ ⟨eF, hfr, dB, eB, iB, iF, nF, k9⟩ h))
     ·refine E_cf pA rfl ?_
      refine E_exit ?_
      refine thn_e ?_
      refine thn_e ?_
      refine blk_hit ?_
      obtain rfl := sinj h
      exact hQ _ _ ⟨eF, hfr, eB, iB⟩
    ·rintro _ bK eL ⟨gJ, hfr, oF, pF, qF, rF, sF, gD⟩ h
     obtain ⟨⟨m7, n7⟩, hx, h⟩ := bsome h
     refine E_join (fun e w => ∃ (g : Gh) , Fr gI wI g w ∧ e 6 = .int .i64 (s6_233) ∧ e 7 = u0 ∧ OA 4007 g w 3 (m7 : List Int) u0 ∧ e 8 = j1 ∧ OA 4008 g w 3 (n7 : List Int) j1 ∧ e 11 = .int .i64 (j3)) (fun Q' hQ => ?_) (fun cK gL hR => ?_)
     ·replace h := hx
      clear hx
      refine E_block ?_
      refine E_seq (E_region (EL_at (.int .i64 (0)) rfl rfl ?_))
      refine EL_nil (thn_n ?_)
      obtain ⟨u3, hx, h⟩ := bsome h
      refine E_join (fun e w => ∃ (g : Gh) , Fr gI wI g w ∧ e 6 = .int .i64 (s6_233) ∧ e 7 = u0 ∧ OA 4007 g w 3 (z4 : List Int) u0 ∧ e 8 = j1 ∧ OA 4008 g w 3 (o3 : List Int) j1 ∧ e 11 = .int .i64 (j3) ∧ e 12 = .int .i64 (u3)) (fun Q' hQ => ?_) (fun dK iL hR => ?_)
      ·replace h := hx
       clear hx
       refine E_seq (E_region (EL_at (.int .i64 (1)) rfl rfl ?_))
       refine EL_nil (thn_n (E_block ?_))
       refine E_lp h (fun (s : Int × Int) e w => ∃ (g : Gh) , Fr gI wI g w ∧ e 6 = .int .i64 (s6_233) ∧ e 7 = u0 ∧ OA 4007 g w 3 (z4 : List Int) u0 ∧ e 8 = j1 ∧ OA 4008 g w 3 (o3 : List Int) j1 ∧ e 11 = .int .i64 (j3) ∧ e 12 = .int .i64 (s.1) ∧ e 13 = .int .i64 (s.2)) ⟨gJ, hfr, oF, pF, qF, rF, sF, gD, rfl, rfl⟩ (fun X611 tD cI => ?_)
       rintro ⟨t5, i3⟩ eK jL ⟨tF, hfr, jB, lB, mB, d9, e9, l9, n9, o9⟩ h
       refine E_joinC h (fun (s : Unit) e w => ∃ (g : Gh) , Fr gI wI g w ∧ e 6 = .int .i64 (s6_233) ∧ e 7 = u0 ∧ OA 4007 g w 3 (z4 : List Int) u0 ∧ e 8 = j1 ∧ OA 4008 g w 3 (o3 : List Int) j1 ∧ e 11 = .int .i64 (j3) ∧ e 12 = .int .i64 (t5) ∧ e 13 = .int .i64 (i3)) (fun X614 uD dI h => ?_) ?_
       ·refine E_seq (E_region (EL_mv o9 rfl ?_))
        refine EL_mv d9 rfl ?_
        refine EL_p (.int .i64 ((o3).length : Int)) (P_lenM Try.underlying22 rfl (e9.toM)) rfl ?_
        refine EL_in (.bool ((decide (i3 < ((o3).length : Int))))) rfl rfl rfl rfl ?_
        refine EL_nil (thn_n ?_)
        rcases csome h with ⟨qA, h⟩ | ⟨qA, h⟩
        ·refine E_ct qA rfl ?_
         exact E_skip (thn_n (dI () _ _ ⟨tF, hfr, jB, lB, mB, d9, e9, l9, n9, o9⟩ h))
        ·refine E_cf qA rfl ?_
         refine E_exit ?_
         refine thn_e ?_
         refine thn_e ?_
         refine blk_hit ?_
         obtain rfl := sinj h
         exact hQ _ _ ⟨tF, hfr, jB, lB, mB, d9, e9, l9, n9⟩
       ·rintro _ lK lL ⟨iJ, hfr, nB, oB, i8, k8, i6, t9, u9, d7⟩ h
        obtain ⟨b7, hx, h⟩ := bsome h
        refine E_join (fun e w => ∃ (g : Gh) , Fr gI wI g w ∧ e 6 = .int .i64 (s6_233) ∧ e 7 = u0 ∧ OA 4007 g w 3 (z4 : List Int) u0 ∧ e 8 = j1 ∧ OA 4008 g w 3 (o3 : List Int) j1 ∧ e 11 = .int .i64 (j3) ∧ e 12 = .int .i64 (b7) ∧ e 13 = .int .i64 (i3)) (fun Q' hQ => ?_) (fun mK mL hR => ?_)
        ·replace h := hx
         clear hx
         refine E_block ?_
         refine E_seq ?_
         obtain ⟨gA, xC, h⟩ := bsome h
         refine L_loadM (x := .tmp 80) Try.isAgg3 Try.sizeOf3 (i6.toM) xC fun nL jJ iI => ?_
         obtain rfl := RV_int.1 jJ
         obtain ⟨iA, yC, h⟩ := bsome h
         refine L_loadM (x := .tmp 84) Try.isAgg3 Try.sizeOf3 (i6.toM) yC fun oL kJ jI => ?_
         obtain rfl := RV_int.1 kJ
         refine E_drawL (g := iJ) (n := 9) [] [0, 1, 2, 3, 4, 5, 6, 7, 8] rfl mixed (by kernel_rfl) trivial ?_
         refine L_p j1 rfl rfl (P_move k8) ?_
         refine L_p (.int .i64 (i3)) rfl rfl (P_move d7) ?_
         refine L_p (ePtr j1 i3 1) rfl rfl (P_indexAddrM (α := Int) Try.underlying22 Try.sizeOf3 rfl (i6.toM) rfl xC) ?_
         refine L_ld (c := .int .i64 (gA)) rfl rfl .plain (fun _ _ h => ⟨h.ch, fun b hb _ => h.below.block b hb⟩) iI rfl ?_
         refine L_p j1 rfl rfl (P_move k8) ?_
         refine L_p (.int .i64 (t5)) rfl rfl (P_move u9) ?_
         refine L_p (ePtr j1 t5 1) rfl rfl (P_indexAddrM (α := Int) Try.underlying22 Try.sizeOf3 rfl (i6.toM) rfl yC) ?_
         refine L_ld (c := .int .i64 (iA)) rfl rfl .plain (fun _ _ h => ⟨h.ch, fun b hb _ => h.below.block b hb⟩) jI rfl ?_
         refine L_p (.bool ((decide (gA > iA)))) rfl rfl (P_int rfl rfl rfl) ?_
         refine L_nl fun uF pL hs => ?_
         have hfr := hfr.ext hs
         have i8 := i8.ext hs
         have i6 := i6.ext hs
         clear hs
         refine EL_nil (thn_n ?_)
         rcases csome h with ⟨rA, h⟩ | ⟨rA, h⟩
         ·refine E_ct rA rfl ?_
          refine E_region (EL_mv d7 rfl ?_)
          refine EL_at (.int .i64 (i3)) rfl rfl ?_
          refine EL_nil (blk_n ?_)
          obtain rfl := sinj h
          exact hQ _ _ ⟨uF, hfr, nB, oB, i8, k8, i6, t9, rfl, d7⟩
         ·refine E_cf rA rfl ?_
          refine E_skip (blk_n ?_)
          obtain rfl := sinj h
          exact hQ _ _ ⟨uF, hfr, nB, oB, i8, k8, i6, t9, u9, d7⟩
        ·clear hx
         obtain ⟨lJ, hfr, vF, xF, yF, zF, aG, iD, jD, kD⟩ := hR
         refine E_region (EL_mv kD rfl ?_)
         refine EL_in (.int .i64 ((w64 (i3 + (1 : Int))))) rfl rfl rfl rfl ?_
         refine EL_at (.int .i64 ((w64 (i3 + (1 : Int))))) rfl rfl ?_
         exact EL_nil (thn_n (cI (b7, (w64 (i3 + (1 : Int)))) _ _ ⟨lJ, hfr, vF, xF, yF, zF, aG, iD, jD, rfl⟩ h))
      ·clear hx
       obtain ⟨bG, hfr, cG, tB, l8, vB, m8, lD, y9⟩ := hR
       refine E_seq (E_region (EL_mv tB rfl ?_))
       refine EL_mv y9 rfl ?_
       obtain ⟨jA, aD, h⟩ := bsome h
       refine EL_p (ePtr u0 u3 1) (P_indexAddrM (α := Int) Try.underlying22 Try.sizeOf3 rfl (l8.toM) rfl aD) rfl ?_
       refine EL_do .plain rfl (D_loadM (g := bG) Try.isAgg3 Try.sizeOf3 rfl (l8.toM) aD fun qL mJ => ?_)
       obtain rfl := RV_int.1 mJ
       refine EL_in (.int .i64 ((w64 (jA + (1 : Int))))) rfl rfl rfl rfl ?_
       obtain ⟨nI, bD, h⟩ := bsome h
       refine EL_p (ePtr u0 u3 1) (P_indexAddrM (α := Int) Try.underlying22 Try.sizeOf3 rfl (l8.toM) rfl bD) rfl ?_
       refine EL_do .plain rfl (D_storeA (g := bG) (α := Int) (a' := ((w64 (jA + (1 : Int))))) Try.sizeOf3 rfl l8 bD rfl (RV_int.2 rfl) fun nJ rL hs b664 => ?_)
       have hfr := hfr.stp hs
       have m8 := m8.stp hs rfl
       refine EL_nil (thn_n (E_region (EL_mv vB rfl ?_)))
       refine EL_mv y9 rfl ?_
       obtain ⟨pI, cD, h⟩ := bsome h
       refine EL_p (ePtr j1 u3 1) (P_indexAddrM (α := Int) Try.underlying22 Try.sizeOf3 rfl (m8.toM) rfl cD) rfl ?_
       refine EL_do .plain rfl (D_storeA (g := nJ) (α := Int) (a' := ((-1 : Int))) Try.sizeOf3 rfl m8 cD rfl (RV_int.2 rfl) fun oJ tL hs b666 => ?_)
       have hfr := hfr.stp hs
       have b664 := b664.stp hs rfl
       refine EL_nil (blk_n ?_)
       obtain ⟨rfl, rfl⟩ := pairs2 h
       exact hQ _ _ ⟨oJ, hfr, cG, tB, b664, vB, b666, lD⟩
     ·clear hx
      obtain ⟨pJ, hfr, dG, eG, gG, hG, iG, mD⟩ := hR
      refine E_region (EL_mv mD rfl ?_)
      refine EL_in (.int .i64 ((w64 (j3 + (1 : Int))))) rfl rfl rfl rfl ?_
      refine EL_at (.int .i64 ((w64 (j3 + (1 : Int))))) rfl rfl ?_
      exact EL_nil (thn_n (aI (m7, n7, (w64 (j3 + (1 : Int)))) _ _ ⟨pJ, hfr, dG, eG, gG, hG, iG, rfl⟩ h))
   ·clear hx
    obtain ⟨uL, hfr, jG, kG⟩ := hR
    refine E_seq (E_region (EL_mv jG rfl ?_))
    obtain ⟨gp669, hs, rp669⟩ := OM.pub (kG.toM)
    have hfr := hfr.stp hs
    refine EL_at u0 rfl rfl ?_
    refine EL_nil (thn_n (E_ret ?_))
    obtain rfl := sinj h
    exact end1 rfl rfl (show _ = u0 from rfl) ⟨_, hfr, rp669⟩
def f12  : Option (PayList) :=
 some ((⟨([(⟨0, (20 : Int)⟩ : PayRate), (⟨(60 : Int), (30 : Int)⟩ : PayRate)] : List PayRate), ([(100 : Int), (250 : Int)] : List Int), (12 : Int), (100 : Int)⟩ : PayList))
def f13 (x0 : Int) (x1 : Int) : Option (PayPiece) :=
 some ((⟨(3 : Int), x0, (50000 : Int), ([(0 : Int), (1 : Int)] : List Int), x1⟩ : PayPiece))
def f15 (x0 : Int) (x1 : Int) : Option (Span) :=
 some ((⟨x0, x1⟩ : Span))
def f18 (x0 : Int) (x1 : Int) (x2 : Int) (x3 : Int) : Option (PayTable) :=
 some ((⟨([([x0, x1] : List Int), ([x2, x3] : List Int)] : List (List Int)), ([(12 : Int), (3 : Int)] : List Int), ([(6 : Int), (9 : Int)] : List Int), (15 : Int)⟩ : PayTable))
def f27 (x0 : PayPayList) (x1 : Int) (x2 : Int) : Option (Int) :=
 (quo64 (w64 (x1 * ((x0).PayList).Cap)) (1000 : Int)).bind fun y8 =>
 some ((min64 (w64 (x2 * ((x0).PayList).Fine)) y8))
def f36 (x0 : Int) : Option (Bool) :=
 some ((x0 != (0 : Int)))
def f37 (x0 : List Int) : Option (Int × Int) :=
 Option.bind (α := Int × Int) (
  lp (σ := Int × Int × Int) (fun j7 (z4, u0, o0) =>
   bif (decide (o0 < ((x0).length : Int))) then
    Option.bind (α := Int × Int) (
     (idx x0 o0).bind fun t5 =>
     bif (t5 != (0 : Int)) then
      some (o0, (w64 (u0 + (1 : Int))))
     else
      some (z4, u0)
     ) fun (o3, u3) =>
    j7 (o3, u3, (w64 (o0 + (1 : Int))))
   else
    some (z4, u0)
   ) big ((0 : Int), (0 : Int), (0 : Int))
  ) fun (j1, i3) =>
 some (j1, i3)
def f42 (x0 : Int) (z0 : Int) (z1 : Int) : Option (Bool) :=
 Option.bind (α := Bool) (
  bif (decide (x0 < z0)) then
   some (true)
  else
   some ((decide (x0 > z1)))
  ) fun o0 =>
 some (o0)
theorem en42 : Enters Try.prog 42 := enters_of Try.func42 (by kernel_rfl) rfl
theorem wk42 {gI : Gh} {wI : World} {x0 : Int} {z0 : Int} {z1 : Int} {pf0 : Value} (qf0 : PT gI.m wI z0 pf0) {pf1 : Value} (qf1 : PT gI.m wI z1 pf1) {r : Bool} (h : f42 x0 z0 z1 = some r) : Fn Try.prog 42 #[.int .i64 (x0), pf0, pf1] gI wI (fun _ _ v => v = .bool (r)) := by
 unfold f42 at h
 refine fn_of_E Try.func42 rfl (Nat.le_of_ble_eq_true rfl) fun g0 hm hfr => ?_
 have qf0 : PT g0.m wI z0 pf0 := hm ▸ qf0
 have qf1 : PT g0.m wI z1 pf1 := hm ▸ qf1
 show E _ 13 none _ _ _ _ _
 refine E_seq (E_region (EL_at (.bool false) rfl rfl ?_))
 refine EL_nil (thn_n ?_)
 obtain ⟨o0, hx, h⟩ := bsome h
 refine E_join (fun e w => ∃ (g : Gh) , Fr gI wI g w ∧ e 4 = .bool (o0)) (fun Q' hQ => ?_) (fun j1 w7 hR => ?_)
 ·replace h := hx
  clear hx
  refine E_region (EL_mw (.int .i64 (x0)) rfl rfl ?_)
  refine EL_do .plain rfl (D_load (g := g0) Try.isAgg3 Try.sizeOf3 rfl qf0 fun v4 r4 => ?_)
  obtain rfl := RV_int.1 r4
  refine EL_in (.bool ((decide (x0 < z0)))) rfl rfl rfl rfl ?_
  refine EL_mw (.bool ((decide (x0 < z0)))) rfl rfl ?_
  rcases csome h with ⟨hc5, h⟩ | ⟨hc5, h⟩
  ·refine EL_s rfl rfl hc5 rfl rfl ?_
   refine EL_s rfl rfl hc5 rfl rfl ?_
   refine EL_s rfl rfl hc5 rfl rfl ?_
   refine EL_p (.bool true) (P_pick (b := (decide (x0 < z0))) rfl (pick_t hc5 rfl)) rfl ?_
   refine EL_at (.bool true) rfl rfl ?_
   refine EL_nil ?_
   obtain rfl := sinj h
   exact hQ _ _ ⟨g0, hfr, rfl⟩
  ·refine EL_y (.int .i64 (x0)) (P_move rfl) rfl rfl hc5 rfl ?_
   refine EL_do (.yes2 rfl rfl hc5) rfl (D_load (g := g0) Try.isAgg3 Try.sizeOf3 rfl qf1 fun v6 r6 => ?_)
   obtain rfl := RV_int.1 r6
   refine EL_y (.bool ((decide (x0 > z1)))) (P_int rfl rfl rfl) rfl rfl hc5 rfl ?_
   refine EL_p (.bool ((decide (x0 > z1)))) (P_pick (b := (decide (x0 < z0))) rfl (pick_f hc5 rfl)) rfl ?_
   refine EL_at (.bool ((decide (x0 > z1)))) rfl rfl ?_
   refine EL_nil ?_
   obtain rfl := sinj h
   exact hQ _ _ ⟨g0, hfr, rfl⟩
 ·clear hx
  obtain ⟨g7, hfr, u0⟩ := hR
  refine E_ret ?_
  obtain rfl := sinj h
  exact end1 rfl rfl (show _ = .bool (o0) from u0) ⟨_, hfr, rfl⟩
def f44 (x0 : Int) : Option (Bool) :=
 some ((x0 != x0))
theorem en44 : Enters Try.prog 44 := enters_of Try.func44 (by kernel_rfl) rfl
theorem wk44 {gI : Gh} {wI : World} {x0 : Int}  {r : Bool} (h : f44 x0 = some r) : Fn Try.prog 44 #[.int .i64 (x0)] gI wI (fun _ _ v => v = .bool (r)) := by
 unfold f44 at h
 refine fn_of_E Try.func44 rfl (Nat.le_of_ble_eq_true rfl) fun g0 hm hfr => ?_
 show E _ 6 none _ _ _ _ _
 refine E_seq (E_region (EL_at (.bool false) rfl rfl ?_))
 refine EL_nil (thn_n (E_seq (E_region (EL_mw (.int .i64 (x0)) rfl rfl ?_))))
 refine EL_mw (.int .i64 (x0)) rfl rfl ?_
 refine EL_in (.bool ((x0 != x0))) rfl rfl rfl rfl ?_
 refine EL_at (.bool ((x0 != x0))) rfl rfl ?_
 refine EL_nil (thn_n (E_ret ?_))
 obtain rfl := sinj h
 exact end1 rfl rfl (show _ = .bool ((x0 != x0)) from rfl) ⟨_, hfr, rfl⟩
def f52 (x0 : PaySheet) : Option ((List PayPlace)) :=
 Option.bind (α := (List PayPlace)) (
  lp (σ := (List PayPlace) × Int) (fun uA (a7, o0) =>
   bif (decide (o0 < ((((x0).PayTable).Rows).length : Int))) then
    Option.bind (α := (List PayPlace)) (
     (idx (((x0).PayTable).Rows) o0).bind fun z3 =>
     lp (σ := (List PayPlace) × Int) (fun xA (x5, u0) =>
      bif (decide (u0 < ((z3).length : Int))) then
       Option.bind (α := (List PayPlace)) (
        (idx z3 u0).bind fun i7 =>
        bif (i7 == (-1 : Int)) then
         (apnd 16 x5 (([(⟨o0, u0⟩ : PayPlace)] : List PayPlace))).bind fun y8 =>
         some (y8)
        else
         some (x5)
        ) fun j3 =>
       xA (j3, (w64 (u0 + (1 : Int))))
      else
       some (x5)
      ) big (a7, (0 : Int))
     ) fun o3 =>
    uA (o3, (w64 (o0 + (1 : Int))))
   else
    some (a7)
   ) big ([], (0 : Int))
  ) fun z4 =>
 some (z4)
def f53 (x0 : List Int) : Option (Int) :=
 Option.bind (α := Int) (
  lp (σ := Int × Int) (fun a7 (u0, o0) =>
   bif (decide (o0 < ((x0).length : Int))) then
    Option.bind (α := Int) (
     (idx x0 o0).bind fun j3 =>
     some ((w64 (u0 + j3)))
     ) fun i3 =>
    a7 (i3, (w64 (o0 + (1 : Int))))
   else
    some (u0)
   ) big ((0 : Int), (0 : Int))
  ) fun j1 =>
 some (j1)
def f54 (x0 : PaySheet) (x1 : Int) : Option ((List Int)) :=
 Option.bind (α := (List Int)) (
  lp (σ := (List Int) × Int) (fun c8 (z3, o0) =>
   bif (decide (o0 < ((((x0).PayTable).Rows).length : Int))) then
    Option.bind (α := (List Int)) (
     (idx (((x0).PayTable).Rows) o0).bind fun g8 =>
     (idx g8 x1).bind fun q5 =>
     (apnd 8 z3 (([q5] : List Int))).bind fun i8 =>
     some (i8)
     ) fun j1 =>
    c8 (j1, (w64 (o0 + (1 : Int))))
   else
    some (z3)
   ) big ([], (0 : Int))
  ) fun i3 =>
 some (i3)
def f55 (x0 : List Int) (x1 : Int → Option Bool) : Option (Int) :=
 jn (σ := Unit) (fun _ =>
  some ((-1 : Int))
  ) fun k18 =>
 lp (σ := Int) (fun k19 o0 =>
  bif (decide (o0 < ((x0).length : Int))) then
   jn (σ := Unit) (fun _ =>
    k19 ((w64 (o0 + (1 : Int))))
    ) fun k28 =>
   (idx x0 o0).bind fun z4 =>
   (x1 z4).bind fun v6 =>
   bif v6 then
    some (o0)
   else
    k28 ()
  else
   k18 ()
  ) big ((0 : Int))
theorem en55 : Enters Try.prog 55 := enters_of Try.func55 (by kernel_rfl) rfl
theorem wk55 {gI : Gh} {wI : World} {x0 : List Int} {x1 : Int → Option Bool} {up0 : Value} (rp0 : RV gI.m wI x0 up0) {up1 : Value} (rp1 : FnV1 Try.prog x1 up1 gI wI) {r : Int} (h : f55 x0 x1 = some r) : Fn Try.prog 55 #[up0, up1] gI wI (fun _ _ v => v = .int .i64 (r)) := by
 unfold f55 at h
 refine fn_of_E Try.func55 rfl (Nat.le_of_ble_eq_true rfl) fun g0 hm hfr => ?_
 have rp0 : RV g0.m wI x0 up0 := hm ▸ rp0
 obtain ⟨ff1, fa1, fc1, rfl, fen1, fcl1⟩ := rp1
 show E _ 19 none _ _ _ _ _
 refine E_seq (E_region (EL_at (.int .i64 (0)) rfl rfl ?_))
 refine EL_nil (thn_n (E_joinC h (fun (s : Unit) e w => ∃ (g : Gh) , Fr gI wI g w) (fun X18 k18 x6 h => ?_) ?_))
 ·refine E_seq (E_region (EL_mw up0 rfl rfl ?_))
  refine EL_p (.int .i64 ((x0).length : Int)) (P_len Try.underlying22 rfl rp0) rfl ?_
  refine EL_mw (.int .i64 (0)) rfl rfl ?_
  refine EL_nil (thn_n (E_block ?_))
  refine E_lp h (fun (s : Int) e w => ∃ (g : Gh) , Fr gI wI g w ∧ e 0 = up0 ∧ RV g.m w (x0 : List Int) up0 ∧ e 1 = (.func (.func ff1) fa1 fc1) ∧ e 7 = .int .i64 (((x0).length : Int)) ∧ e 8 = .int .i64 (s)) ⟨g0, hfr, rfl, rp0, rfl, rfl, rfl⟩ (fun X19 k19 y6 => ?_)
  rintro o0 i7 n7 ⟨i5, hfr, o3, u0, u3, z3, j1⟩ h
  refine E_seq (E_region (EL_in (.bool ((decide (o0 < ((x0).length : Int))))) j1 z3 rfl rfl ?_))
  refine EL_nil (thn_n (E_seq ?_))
  rcases csome h with ⟨i3, h⟩ | ⟨i3, h⟩
  ·refine E_ct i3 rfl ?_
   refine E_skip (thn_n (E_joinC h (fun (s : Unit) e w => ∃ (g : Gh) , Fr gI wI g w ∧ e 0 = up0 ∧ RV g.m w (x0 : List Int) up0 ∧ e 1 = (.func (.func ff1) fa1 fc1) ∧ e 7 = .int .i64 (((x0).length : Int)) ∧ e 8 = .int .i64 (o0)) (fun X28 k28 a7 h => ?_) ?_))
   ·refine E_block ?_
    refine E_seq (E_region (EL_mv j1 rfl ?_))
    refine EL_at (.int .i64 (o0)) rfl rfl ?_
    refine EL_nil (thn_n (E_seq (E_region (EL_mv u3 rfl ?_))))
    refine EL_mv o3 rfl ?_
    refine EL_mw (.int .i64 (o0)) rfl rfl ?_
    obtain ⟨z4, l5, h⟩ := bsome h
    refine EL_p (ePtr up0 o0 1) (P_indexAddr (α := Int) Try.underlying22 Try.sizeOf3 rfl u0 rfl l5) rfl ?_
    have c7 := PT_idx u0 l5
    refine EL_do .plain rfl (D_load (g := i5) Try.isAgg3 Try.sizeOf3 rfl c7 fun o7 d7 => ?_)
    obtain rfl := RV_int.1 d7
    obtain ⟨v6, b7, h⟩ := bsome h
    refine EL_do .plain rfl (D_callv (g := i5) (vs := [.int .i64 (z4)]) rfl fen1 (.cons rfl .nil) (fcl1 _ _ hfr.ch _ _ _  (RV_int.2 rfl) b7) fun e7 u7 v7 hs hr => ?_)
    have hfr := hfr.ext hs
    have u0 := u0.ext hs
    obtain rfl := RV_bool.1 hr
    refine EL_nil (thn_n ?_)
    rcases csome h with ⟨j3, h⟩ | ⟨j3, h⟩
    ·refine E_ct j3 rfl ?_
     refine E_seq (E_region (EL_mw (.int .i64 (o0)) rfl rfl ?_))
     refine EL_at (.int .i64 (o0)) rfl rfl ?_
     refine EL_nil (thn_n (E_ret (blk_r ?_)))
     refine thn_r ?_
     refine thn_r ?_
     refine blk_r ?_
     refine thn_r ?_
     obtain rfl := sinj h
     exact end1 rfl rfl (show _ = .int .i64 (o0) from rfl) ⟨_, hfr, rfl⟩
    ·refine E_cf j3 rfl ?_
     exact E_skip (blk_n (thn_n (a7 () _ _ ⟨e7, hfr, o3, u0, u3, z3, j1⟩ h)))
   ·rintro _ j7 c8 ⟨g7, hfr, q5, t5, x5, i6, j6⟩ h
    refine E_region (EL_in (.int .i64 ((w64 (o0 + (1 : Int))))) j6 rfl rfl rfl ?_)
    refine EL_mw (.int .i64 ((w64 (o0 + (1 : Int))))) rfl rfl ?_
    exact EL_nil (thn_n (y6 ((w64 (o0 + (1 : Int)))) _ _ ⟨g7, hfr, q5, t5, x5, i6, rfl⟩ h))
  ·refine E_cf i3 rfl ?_
   refine E_exit ?_
   refine thn_e ?_
   refine thn_e ?_
   refine blk_hit ?_
   exact thn_n (x6 () _ _ ⟨i5, hfr⟩ h)
 ·rintro _ m7 g8 ⟨i8, hfr⟩ h
  refine E_seq (E_region (EL_at (.int .i64 (-1)) rfl rfl ?_))
  refine EL_nil (thn_n (E_ret ?_))
  obtain rfl := sinj h
  exact end1 rfl rfl (show _ = .int .i64 (-1) from rfl) ⟨_, hfr, rfl⟩
def f56 (x1 : Int) : Option ((List Int)) :=
 Option.bind (α := Unit) (
  bif (decide (x1 < (0 : Int))) then
   none
  else
   some ()
  ) fun (_ : Unit) =>
 Option.bind (α := (List Int)) (
  bif (decide ((w64 (x1 - (w64 (((0 : Nat) : Int) - ((([] : List Int)).length : Int))))) > (0 : Int))) then
   (grwz 8 ((w64 (x1 - (w64 (((0 : Nat) : Int) - ((([] : List Int)).length : Int))))))).bind fun _ =>
   some (([] : List Int))
  else
   some (([] : List Int))
  ) fun j1 =>
 some (j1)
def f62 (x0 : PayEnd) (z0 : List Int) : Option (Bool) :=
 Option.bind (α := Bool) (
  bif (x0).isDown then
   (idx z0 (x0).at_).bind fun j1 =>
   some ((decide (j1 > (0 : Int))))
  else
   some (false)
  ) fun u0 =>
 some (u0)
def f65 (x0 : Int) : Option (Bool) :=
 some ((decide (x0 > (0 : Int))))
def f66 (x0 : PayFilling) (x1 : PayStep) : Option (Int) :=
 jn (σ := Unit) (fun _ =>
  (idx ((x0).amounts) (x1).blot).bind fun o0 =>
  some ((w64 ((1000000 : Int) - o0)))
  ) fun k28 =>
 bif (x1).less then
  (idx ((x0).amounts) (x1).blot).bind fun j1 =>
  some (j1)
 else
  k28 ()
def f67 (x0 : PayEnd) (z0 : PayEnd) : Option (Bool) :=
 some ((decide (x0 = z0)))
def f68 (x0 : List Int) (x1 : Int) (x2 : Int) (x3 : Int → Int → Option Int) : Option ((List Int)) :=
 lp (σ := (List Int) × Int) (fun k1 (y6, j3) =>
  jn (σ := Unit) (fun _ =>
   Option.bind (α := (List Int)) (
    lp (σ := (List Int) × Int) (fun m8 (j1, o0) =>
     jn (σ := Unit) (fun _ =>
      Option.bind (α := (List Int)) (
       (idx j1 (w64 (o0 - (1 : Int)))).bind fun j6 =>
       (idx j1 o0).bind fun a7 =>
       (idx j1 o0).bind fun aB =>
       (idx ((List.set j1 (Int.toNat o0) j6)) (w64 (o0 - (1 : Int)))).bind fun bB =>
       some ((List.set ((List.set j1 (Int.toNat o0) j6)) (Int.toNat (w64 (o0 - (1 : Int)))) a7))
       ) fun l5 =>
      m8 (l5, (w64 (o0 - (1 : Int))))
      ) fun n8 =>
     Option.bind (α := Bool) (
      bif (decide (o0 > x1)) then
       (idx j1 o0).bind fun b7 =>
       (idx j1 (w64 (o0 - (1 : Int)))).bind fun c7 =>
       (x3 b7 c7).bind fun i6 =>
       some ((decide (i6 < (0 : Int))))
      else
       some (false)
      ) fun u3 =>
     bif u3 then
      n8 ()
     else
      some (j1)
     ) big (y6, j3)
    ) fun q5 =>
   k1 (q5, (w64 (j3 + (1 : Int))))
   ) fun k4 =>
  bif (decide (j3 < x2)) then
   k4 ()
  else
   some (y6)
  ) big (x0, (w64 (x1 + (1 : Int))))
theorem en68 : Enters Try.prog 68 := enters_of Try.func68 (by kernel_rfl) rfl
theorem wk68 {iI : Nat} {gI : Gh} {wI : World} {x0 : List Int} {x1 : Int} {x2 : Int} {x3 : Int → Int → Option Int} {up0 : Value} (mp0 : OM iI gI wI 3 x0 up0) {up3 : Value} (rp3 : FnV2 Try.prog x3 up3 gI wI) {r : (List Int)} (h : f68 x0 x1 x2 x3 = some r) : FnM Try.prog 68 #[up0, .int .i64 (x1), .int .i64 (x2), up3] iI gI wI (fun g w v => v = .tuple #[] ∧ OM iI g w 3 r up0) := by
 unfold f68 at h
 refine fnM_of_E Try.func68 rfl (Nat.le_of_ble_eq_true rfl) fun g0 hm hfr => ?_
 have oA := mp0
 replace mp0 := mp0.enter
 rw [← hm] at mp0
 replace hm : g0.m = gI.m := by rw [hm]
 obtain ⟨ff3, fa3, fc3, rfl, fen3, fcl3⟩ := rp3
 show E _ 53 none _ _ _ _ _
 refine E_seq (E_region (EL_mw (.int .i64 (x1)) rfl rfl ?_))
 refine EL_in (.int .i64 ((w64 (x1 + (1 : Int))))) rfl rfl rfl rfl ?_
 refine EL_at (.int .i64 ((w64 (x1 + (1 : Int))))) rfl rfl ?_
 refine EL_nil (thn_n (E_block ?_))
 refine E_lp h (fun (s : (List Int) × Int) e w => ∃ (g : Gh) , FrM iI gI wI g w ∧ e 0 = up0 ∧ OM 1 g w 3 (s.1 : List Int) up0 ∧ e 1 = .int .i64 (x1) ∧ e 2 = .int .i64 (x2) ∧ e 3 = (.func (.func ff3) fa3 fc3) ∧ e 8 = .int .i64 (s.2)) ⟨g0, hfr, rfl, mp0, rfl, rfl, rfl, rfl⟩ (fun X1 k1 hk1 => ?_)
 rintro ⟨y6, j3⟩ lD w2 ⟨g2, hfr, cB, o8, dB, q8, eB, r8⟩ h
 refine E_joinC h (fun (s : Unit) e w => ∃ (g : Gh) , FrM iI gI wI g w ∧ e 0 = up0 ∧ OM 1 g w 3 (y6 : List Int) up0 ∧ e 1 = .int .i64 (x1) ∧ e 2 = .int .i64 (x2) ∧ e 3 = (.func (.func ff3) fa3 fc3) ∧ e 8 = .int .i64 (j3)) (fun X4 k4 hk4 h => ?_) ?_
 ·refine E_seq (E_region (EL_mv r8 rfl ?_))
  refine EL_mv q8 rfl ?_
  refine EL_in (.bool ((decide (j3 < x2)))) rfl rfl rfl rfl ?_
  refine EL_nil (thn_n ?_)
  rcases csome h with ⟨hc5, h⟩ | ⟨hc5, h⟩
  ·refine E_ct hc5 rfl ?_
   exact E_skip (thn_n (hk4 () _ _ ⟨g2, hfr, cB, o8, dB, q8, eB, r8⟩ h))
  ·refine E_cf hc5 rfl ?_
   refine E_exit ?_
   refine thn_e ?_
   refine thn_e ?_
   refine blk_hit ?_
   obtain rfl := sinj h
   exact end0n rfl rfl ⟨_, hfr, rfl, oA.back o8⟩
 ·rintro _ mD w6 ⟨g6, hfr, iB, jB, lB, mB, nB, t8⟩ h
  obtain ⟨q5, hx, h⟩ := bsome h
  refine E_join (fun e w => ∃ (g : Gh) , FrM iI gI wI g w ∧ e 0 = up0 ∧ OM 1 g w 3 (q5 : List Int) up0 ∧ e 1 = .int .i64 (x1) ∧ e 2 = .int .i64 (x2) ∧ e 3 = (.func (.func ff3) fa3 fc3) ∧ e 8 = .int .i64 (j3)) (fun Q' hQ => ?_) (fun kC tC hR => ?_)
  ·replace h := hx
   clear hx
   refine E_block ?_
   refine E_seq (E_region (EL_mv t8 rfl ?_))
   refine EL_at (.int .i64 (j3)) rfl rfl ?_
   refine EL_nil (thn_n (E_block ?_))
   refine E_lp h (fun (s : (List Int) × Int) e w => ∃ (g : Gh) , FrM iI gI wI g w ∧ e 0 = up0 ∧ OM 1 g w 3 (s.1 : List Int) up0 ∧ e 1 = .int .i64 (x1) ∧ e 2 = .int .i64 (x2) ∧ e 3 = (.func (.func ff3) fa3 fc3) ∧ e 8 = .int .i64 (j3) ∧ e 9 = .int .i64 (s.2)) ⟨g6, hfr, iB, jB, lB, mB, nB, t8, rfl⟩ (fun X297 m8 pA => ?_)
   rintro ⟨j1, o0⟩ lC uC ⟨v8, hfr, t5, i3, x5, e7, v6, g7, z3⟩ h
   refine E_joinC h (fun (s : Unit) e w => ∃ (g : Gh) , FrM iI gI wI g w ∧ e 0 = up0 ∧ OM 1 g w 3 (j1 : List Int) up0 ∧ e 1 = .int .i64 (x1) ∧ e 2 = .int .i64 (x2) ∧ e 3 = (.func (.func ff3) fa3 fc3) ∧ e 8 = .int .i64 (j3) ∧ e 9 = .int .i64 (o0)) (fun X411 n8 qA h => ?_) ?_
   ·obtain ⟨u3, hx, h⟩ := bsome h
    refine E_join (fun e w => ∃ (g : Gh) , FrM iI gI wI g w ∧ e 0 = up0 ∧ OM 1 g w 3 (j1 : List Int) up0 ∧ e 1 = .int .i64 (x1) ∧ e 2 = .int .i64 (x2) ∧ e 3 = (.func (.func ff3) fa3 fc3) ∧ e 8 = .int .i64 (j3) ∧ e 9 = .int .i64 (o0) ∧ e 34 = .bool (u3)) (fun Q' hQ => ?_) (fun mC vC hR => ?_)
    ·replace h := hx
     clear hx
     rcases csome h with ⟨u0, h⟩ | ⟨u0, h⟩
     ·obtain ⟨b7, v7, h⟩ := bsome h
      refine L_loadM (x := .tmp 25) Try.isAgg3 Try.sizeOf3 i3 v7 fun xC oB rA => ?_
      obtain rfl := RV_int.1 oB
      obtain ⟨c7, c8, h⟩ := bsome h
      refine L_loadM (x := .tmp 30) Try.isAgg3 Try.sizeOf3 i3 c8 fun yC tB uA => ?_
      obtain rfl := RV_int.1 tB
      obtain ⟨i6, xA, h⟩ := bsome h
      refine E_drawL (g := v8) (n := 17) [(14, (fun v g w => v = .int .i64 (i6)))] [0, 1, 2, 3, 4, 5, 6, 7, 8, 9, 10, 11, 12, 13, 14, 15, 16] rfl mixed (by kernel_rfl) (⟨fun _ => up_eq _, trivial⟩) ?_
      refine L_p (.int .i64 (o0)) rfl rfl (P_move z3) ?_
      refine L_p (.int .i64 (x1)) rfl rfl (P_move x5) ?_
      refine L_p (.bool ((decide (o0 > x1)))) rfl rfl (P_int rfl rfl rfl) ?_
      refine L_p (.bool ((decide (o0 > x1)))) rfl rfl (P_move rfl) ?_
      refine L_y ((.func (.func ff3) fa3 fc3)) rfl rfl rfl rfl u0 (P_move v6) ?_
      refine L_y up0 rfl rfl rfl rfl u0 (P_move t5) ?_
      refine L_y (.int .i64 (o0)) rfl rfl rfl rfl u0 (P_move z3) ?_
      refine L_y (ePtr up0 o0 1) rfl rfl rfl rfl u0 (P_indexAddrM (α := Int) Try.underlying22 Try.sizeOf3 rfl i3 rfl v7) ?_
      refine L_ld (c := .int .i64 (b7)) rfl rfl (.yes2 rfl rfl u0) (fun _ _ h => ⟨h.ch, fun b hb _ => h.below.block b hb⟩) rA rfl ?_
      refine L_y up0 rfl rfl rfl rfl u0 (P_move t5) ?_
      refine L_y (.int .i64 (o0)) rfl rfl rfl rfl u0 (P_move z3) ?_
      refine L_y (.int .i64 ((w64 (o0 - (1 : Int))))) rfl rfl rfl rfl u0 (P_int rfl rfl rfl) ?_
      refine L_y (ePtr up0 (w64 (o0 - (1 : Int))) 1) rfl rfl rfl rfl u0 (P_indexAddrM (α := Int) Try.underlying22 Try.sizeOf3 rfl i3 rfl c8) ?_
      refine L_ld (c := .int .i64 (c7)) rfl rfl (.yes2 rfl rfl u0) (fun _ _ h => ⟨h.ch, fun b hb _ => h.below.block b hb⟩) uA rfl ?_
      refine L_do (φ := fun v g w => v = .int .i64 (i6)) rfl rfl (.yes2 rfl rfl u0) (fun g w hd => D_callv (g := g) (vs := [.int .i64 (b7), .int .i64 (c7)]) rfl fen3 (.cons rfl (.cons rfl .nil)) (fcl3 _ _ (hfr.ext hd.1).ch _ _ _ _ _  (RV_int.2 rfl) (RV_int.2 rfl) xA) fun g' w' v hs hr => ⟨g', hs, RV_int.1 hr⟩) (fun aD hv => ?_)
      obtain ⟨_, _, _, rfl⟩ := hv
      refine L_y (.bool ((decide (i6 < (0 : Int))))) rfl rfl rfl rfl u0 (P_int rfl rfl rfl) ?_
      refine L_p (.bool ((decide (i6 < (0 : Int))))) rfl rfl (P_pick (b := (decide (o0 > x1))) rfl (pick_t u0 rfl)) ?_
      refine L_nl fun vB bD hs => ?_
      have hfr := hfr.ext hs
      have i3 := i3.ext hs
      clear hs
      refine EL_nil ?_
      obtain rfl := sinj h
      exact hQ _ _ ⟨vB, hfr, t5, i3, x5, e7, v6, g7, z3, rfl⟩
     ·refine E_drawL (g := v8) (n := 17) [] [0, 1, 2, 3, 4, 5, 6, 7, 8, 9, 10, 11, 12, 13, 14, 15, 16] rfl mixed (by kernel_rfl) trivial ?_
      refine L_p (.int .i64 (o0)) rfl rfl (P_move z3) ?_
      refine L_p (.int .i64 (x1)) rfl rfl (P_move x5) ?_
      refine L_p (.bool ((decide (o0 > x1)))) rfl rfl (P_int rfl rfl rfl) ?_
      refine L_p (.bool ((decide (o0 > x1)))) rfl rfl (P_move rfl) ?_
      iterate 12 refine L_s rfl rfl rfl u0 rfl ?_
      refine L_p (.bool false) rfl rfl (P_pick (b := (decide (o0 > x1))) rfl (pick_f u0 rfl)) ?_
      refine L_nl fun xB cD hs => ?_
      have hfr := hfr.ext hs
      have i3 := i3.ext hs
      clear hs
      refine EL_nil ?_
      obtain rfl := sinj h
      exact hQ _ _ ⟨xB, hfr, t5, i3, x5, e7, v6, g7, z3, rfl⟩
    ·clear hx
     obtain ⟨x8, hfr, i7, j7, m7, n7, o7, u7, y8, x6⟩ := hR
     rcases csome h with ⟨d7, h⟩ | ⟨d7, h⟩
     ·refine E_cond_true (Eq.trans (show ev _ _ = .bool (u3) from x6) (congrArg Value.bool d7)) ?_
      exact E_skip (thn_n (qA () _ _ ⟨x8, hfr, i7, j7, m7, n7, o7, u7, y8⟩ h))
     ·refine E_cond_false (Eq.trans (show ev _ _ = .bool (u3) from x6) (congrArg Value.bool d7)) ?_
      refine E_exit ?_
      refine thn_e ?_
      refine thn_e ?_
      refine blk_hit ?_
      refine blk_n ?_
      obtain rfl := sinj h
      exact hQ _ _ ⟨x8, hfr, i7, j7, m7, n7, o7, u7⟩
   ·rintro _ qC yB ⟨a9, hfr, z4, o3, d9, e9, i9, k9, i5⟩ h
    obtain ⟨l5, hx, h⟩ := bsome h
    refine E_join (fun e w => ∃ (g : Gh) , FrM iI gI wI g w ∧ e 0 = up0 ∧ OM 1 g w 3 (l5 : List Int) up0 ∧ e 1 = .int .i64 (x1) ∧ e 2 = .int .i64 (x2) ∧ e 3 = (.func (.func ff3) fa3 fc3) ∧ e 8 = .int .i64 (j3) ∧ e 9 = .int .i64 (o0)) (fun Q' hQ => ?_) (fun rC eD hR => ?_)
    ·replace h := hx
     clear hx
     refine E_block ?_
     obtain ⟨j6, g8, h⟩ := bsome h
     refine L_loadM (x := .tmp 45) Try.isAgg3 Try.sizeOf3 o3 g8 fun gD zB yA => ?_
     obtain rfl := RV_int.1 zB
     obtain ⟨a7, i8, h⟩ := bsome h
     refine L_loadM (x := .tmp 49) Try.isAgg3 Try.sizeOf3 o3 i8 fun iD aC zA => ?_
     obtain rfl := RV_int.1 aC
     obtain ⟨aB, k8, h⟩ := bsome h
     refine E_drawTL (g := a9) (n := 15) [2, 3, 4] [] [0, 1, 2, 3, 4, 5, 6, 7, 8, 9, 10, 11, 12, 13, 14] rfl mixed (by kernel_rfl) trivial rfl ?_
     refine L_p up0 rfl rfl (P_move z4) ?_
     refine L_p (.int .i64 (o0)) rfl rfl (P_move i5) ?_
     refine L_purL (c := up0) rfl rfl .plain (P_move z4) ?_
     refine L_purL (c := .int .i64 (o0)) rfl rfl .plain (P_move i5) ?_
     refine L_purL (c := .int .i64 ((w64 (o0 - (1 : Int))))) rfl rfl .plain (P_int rfl rfl rfl) ?_
     refine L_p up0 rfl rfl (P_move z4) ?_
     refine L_p (.int .i64 (o0)) rfl rfl (P_move i5) ?_
     refine L_p (.int .i64 ((w64 (o0 - (1 : Int))))) rfl rfl (P_int rfl rfl rfl) ?_
     refine L_p (ePtr up0 (w64 (o0 - (1 : Int))) 1) rfl rfl (P_indexAddrM (α := Int) Try.underlying22 Try.sizeOf3 rfl o3 rfl g8) ?_
     refine L_ld (c := .int .i64 (j6)) rfl rfl .plain (fun _ _ h => ⟨h.ch, fun b hb _ => h.below.block b hb⟩) yA rfl ?_
     refine L_p up0 rfl rfl (P_move z4) ?_
     refine L_p (.int .i64 (o0)) rfl rfl (P_move i5) ?_
     refine L_p (ePtr up0 o0 1) rfl rfl (P_indexAddrM (α := Int) Try.underlying22 Try.sizeOf3 rfl o3 rfl i8) ?_
     refine L_ld (c := .int .i64 (a7)) rfl rfl .plain (fun _ _ h => ⟨h.ch, fun b hb _ => h.below.block b hb⟩) zA rfl ?_
     refine L_p (ePtr up0 o0 1) rfl rfl (P_indexAddrM (α := Int) Try.underlying22 Try.sizeOf3 rfl o3 rfl k8) ?_
     refine L_nl fun l9 cC hs => ?_
     have hlt : Lt a9.m yB l9 cC := hs.ch
     have hfr := hfr.ext hs
     have o3 := o3.ext hs
     clear hs
     refine TL_do hlt.w .plain rfl (D_storeM (g := l9) (α := Int) (a' := j6) Try.sizeOf3 rfl o3 k8 rfl (RV_int.2 rfl) fun dC jD hs b582 => ?_)
     have hfr := hfr.stp hs
     have hlt := hlt.stp hs
     obtain ⟨bB, l8, h⟩ := bsome h
     refine TL_pur hlt.w (v := ePtr up0 (w64 (o0 - (1 : Int))) 1) (P_indexAddrM (α := Int) Try.underlying22 Try.sizeOf3 rfl b582 rfl l8) .plain rfl ?_
     refine TL_do hlt.w .plain rfl (D_storeM (g := dC) (α := Int) (a' := a7) Try.sizeOf3 rfl b582 l8 rfl (RV_int.2 rfl) fun eC kD hs b584 => ?_)
     have hfr := hfr.stp hs
     have hlt := hlt.stp hs
     refine TL_nil hlt.w ?_
     clear hlt
     refine blk_n ?_
     obtain rfl := sinj h
     exact hQ _ _ ⟨eC, hfr, z4, b584, d9, e9, i9, k9, i5⟩
    ·clear hx
     obtain ⟨iC, hfr, n9, o9, t9, u9, y9, z9, bA⟩ := hR
     refine E_region (EL_mv bA rfl ?_)
     refine EL_in (.int .i64 ((w64 (o0 - (1 : Int))))) rfl rfl rfl rfl ?_
     refine EL_at (.int .i64 ((w64 (o0 - (1 : Int))))) rfl rfl ?_
     exact EL_nil (thn_n (pA (l5, (w64 (o0 - (1 : Int)))) _ _ ⟨iC, hfr, n9, o9, t9, u9, y9, z9, rfl⟩ h))
  ·clear hx
   obtain ⟨jC, hfr, gA, iA, jA, lA, mA, nA⟩ := hR
   refine E_region (EL_mv nA rfl ?_)
   refine EL_in (.int .i64 ((w64 (j3 + (1 : Int))))) rfl rfl rfl rfl ?_
   refine EL_at (.int .i64 ((w64 (j3 + (1 : Int))))) rfl rfl ?_
   exact EL_nil (thn_n (hk1 (q5, (w64 (j3 + (1 : Int)))) _ _ ⟨jC, hfr, gA, iA, jA, lA, mA, rfl⟩ h))
def f71 (x0 : List PayRate) (x1 : Int) (x2 : PayRate → Int → Option Int) : Option (Int × Bool) :=
 Option.bind (α := Int) (
  lp (σ := Int × Int) (fun j7 (i3, u0) =>
   jn (σ := Unit) (fun _ =>
    (shr64 (wu64 (w64 (i3 + u0))) (1 : Int)).bind fun j3 =>
    (idx x0 (w64 j3)).bind fun n8 =>
    (x2 n8 x1).bind fun m7 =>
    bif (decide (m7 < (0 : Int))) then
     j7 ((w64 ((w64 j3) + (1 : Int))), u0)
    else
     j7 (i3, (w64 j3))
    ) fun o8 =>
   bif (decide (i3 < u0)) then
    o8 ()
   else
    some (i3)
   ) big ((0 : Int), ((x0).length : Int))
  ) fun o0 =>
 Option.bind (α := Int × Bool) (
  bif (decide (o0 < ((x0).length : Int))) then
   (idx x0 o0).bind fun q8 =>
   (x2 q8 x1).bind fun x5 =>
   some (o0, (x5 == (0 : Int)))
  else
   some (o0, false)
  ) fun (u3, z3) =>
 some (u3, z3)
def f73 (x1 : It Int) : Option ((List Int)) :=
 Option.bind (α := (List Int)) (
  (x1 ((List Int)) (fun o3 i3 =>
   (apnd 8 o3 (([i3] : List Int))).bind fun i5 =>
   some (true, (i5))
   ) ((([] : List Int) : List Int))).bind fun u3 =>
  some (u3)
  ) fun j3 =>
 some (j3)
def f77 (x0 : List Int) : Option (Bool) :=
 some ((decide (((x0).length : Int) > (6 : Int))))
def f78 (x0 : List Int) (z0 : PaySheet) : Option (Bool) :=
 some ((((x0).length : Int) != ((((z0).PayTable).Down).length : Int)))
def f84 (x0 : List Int) : Option ((List Int)) :=
 jn (σ := Unit) (fun _ =>
  jn (σ := Unit) (fun _ =>
   some (x0)
   ) fun k53 =>
  lp (σ := Int) (fun k54 o0 =>
   jn (σ := Unit) (fun _ =>
    jn (σ := Int) (fun j1 =>
     k54 ((w64 (j1 + (1 : Int))))
     ) fun a7 =>
    (idx x0 o0).bind fun i5 =>
    (idx x0 (w64 (o0 - (1 : Int)))).bind fun l5 =>
    bif (i5 == l5) then
     none
    else
     a7 (o0)
    ) fun k57 =>
   bif (decide (o0 < ((x0).length : Int))) then
    k57 ()
   else
    k53 ()
   ) big ((1 : Int))
  ) fun k2 =>
 bif (decide (((x0).length : Int) < (2 : Int))) then
  some (x0)
 else
  k2 ()
def f89 (x0 : List Int) (x1 : Int) (x2 : Int) : Option ((List Int)) :=
 lp (σ := (List Int) × Int × Int) (fun k1 (j1, o0, u0) =>
  jn (σ := Unit) (fun _ =>
   (idx j1 u0).bind fun y7 =>
   (idx j1 o0).bind fun y9 =>
   (idx j1 o0).bind fun y11 =>
   (idx ((List.set j1 (Int.toNat o0) y7)) u0).bind fun y6 =>
   k1 ((List.set ((List.set j1 (Int.toNat o0) y7)) (Int.toNat u0) y9), (w64 (o0 + (1 : Int))), (w64 (u0 - (1 : Int))))
   ) fun k4 =>
  bif (decide (o0 < u0)) then
   k4 ()
  else
   some (j1)
  ) big (x0, x1, (w64 (x2 - (1 : Int))))
def f91 (x0 : Int) (x1 : Int) : Option (Bool) :=
 Option.bind (α := Bool) (
  (f44 x0).bind fun y8 =>
  bif y8 then
   (f44 x1).bind fun y11 =>
   bif (!y11) then
    some (true)
   else
    some ((decide (x0 < x1)))
  else
   some ((decide (x0 < x1)))
  ) fun j1 =>
 some (j1)
def f92 (x0 : List Int) (x1 : Int) (x2 : Int) (x3 : Int) : Option (Int × (List Int)) :=
 (idx x0 x3).bind fun y1 =>
 (idx x0 x1).bind fun y3 =>
 (idx x0 x1).bind fun y5 =>
 (idx ((List.set x0 (Int.toNat x1) y1)) x3).bind fun oE =>
 Option.bind (α := (List Int) × Int) (
  lp (σ := (List Int) × Int × Int) (fun jC (j3, o9, o3) =>
   Option.bind (α := Int) (
    lp (σ := Int) (fun oA j1 =>
     jn (σ := Unit) (fun _ =>
      oA ((w64 (j1 + (1 : Int))))
      ) fun pA =>
     Option.bind (α := Bool) (
      bif (decide (j1 ≤ o3)) then
       (idx j3 x1).bind fun v7 =>
       (idx j3 j1).bind fun c8 =>
       (f91 v7 c8).bind fun y6 =>
       some ((!y6))
      else
       some (false)
      ) fun q5 =>
     bif q5 then
      pA ()
     else
      some (j1)
     ) big (o9)
    ) fun o0 =>
   Option.bind (α := Int) (
    lp (σ := Int) (fun qA u0 =>
     jn (σ := Unit) (fun _ =>
      qA ((w64 (u0 - (1 : Int))))
      ) fun rA =>
     Option.bind (α := Bool) (
      bif (decide (o0 ≤ u0)) then
       (idx j3 x1).bind fun g8 =>
       (idx j3 u0).bind fun i8 =>
       (f91 g8 i8).bind fun g7 =>
       some (g7)
      else
       some (false)
      ) fun t5 =>
     bif t5 then
      rA ()
     else
      some (u0)
     ) big (o3)
    ) fun i3 =>
   jn (σ := Unit) (fun _ =>
    (idx j3 i3).bind fun a7 =>
    (idx j3 o0).bind fun i7 =>
    (idx j3 o0).bind fun lD =>
    (idx ((List.set j3 (Int.toNat o0) a7)) i3).bind fun mD =>
    jC ((List.set ((List.set j3 (Int.toNat o0) a7)) (Int.toNat i3) i7), (w64 (o0 + (1 : Int))), (w64 (i3 - (1 : Int))))
    ) fun uA =>
   bif (decide (o0 > i3)) then
    some (j3, o0)
   else
    uA ()
   ) big ((List.set ((List.set x0 (Int.toNat x1) y1)) (Int.toNat x3) y3), (w64 (x1 + (1 : Int))), (w64 (x2 - (1 : Int))))
  ) fun (j7, i6) =>
 some (i6, j7)
def f93 (x0 : List Int) (x1 : Int) (x2 : Int) (x3 : Int) : Option (Int × Bool × (List Int)) :=
 (idx x0 x3).bind fun y1 =>
 (idx x0 x1).bind fun y3 =>
 (idx x0 x1).bind fun y5 =>
 (idx ((List.set x0 (Int.toNat x1) y1)) x3).bind fun cM =>
 Option.bind (α := Int) (
  lp (σ := Int) (fun xG z3 =>
   jn (σ := Unit) (fun _ =>
    xG ((w64 (z3 + (1 : Int))))
    ) fun yG =>
   Option.bind (α := Bool) (
    bif (decide (z3 ≤ (w64 (x2 - (1 : Int))))) then
     (idx ((List.set ((List.set x0 (Int.toNat x1) y1)) (Int.toNat x3) y3)) z3).bind fun rC =>
     (idx ((List.set ((List.set x0 (Int.toNat x1) y1)) (Int.toNat x3) y3)) x1).bind fun tC =>
     (f91 rC tC).bind fun qA =>
     some (qA)
    else
     some (false)
    ) fun n7 =>
   bif n7 then
    yG ()
   else
    some (z3)
   ) big ((w64 (x1 + (1 : Int))))
  ) fun u0 =>
 Option.bind (α := Int) (
  lp (σ := Int) (fun zG z4 =>
   jn (σ := Unit) (fun _ =>
    zG ((w64 (z4 - (1 : Int))))
    ) fun aH =>
   Option.bind (α := Bool) (
    bif (decide (u0 ≤ z4)) then
     (idx ((List.set ((List.set x0 (Int.toNat x1) y1)) (Int.toNat x3) y3)) z4).bind fun uC =>
     (idx ((List.set ((List.set x0 (Int.toNat x1) y1)) (Int.toNat x3) y3)) x1).bind fun vC =>
     (f91 uC vC).bind fun u9 =>
     some ((!u9))
    else
     some (false)
    ) fun o7 =>
   bif o7 then
    aH ()
   else
    some (z4)
   ) big ((w64 (x2 - (1 : Int))))
  ) fun j1 =>
 jn (σ := (List Int)) (fun u7 =>
  (idx u7 j1).bind fun rA =>
  (idx u7 u0).bind fun xC =>
  (idx u7 u0).bind fun xK =>
  (idx ((List.set u7 (Int.toNat u0) rA)) j1).bind fun yK =>
  Option.bind (α := (List Int) × Int) (
   lp (σ := (List Int) × Int × Int) (fun nE (o3, uA, i5) =>
    Option.bind (α := Int) (
     lp (σ := Int) (fun oE i3 =>
      jn (σ := Unit) (fun _ =>
       oE ((w64 (i3 + (1 : Int))))
       ) fun rE =>
      Option.bind (α := Bool) (
       bif (decide (i3 ≤ i5)) then
        (idx o3 i3).bind fun lA =>
        (idx o3 x1).bind fun mA =>
        (f91 lA mA).bind fun k9 =>
        some (k9)
       else
        some (false)
       ) fun e7 =>
      bif e7 then
       rE ()
      else
       some (i3)
      ) big (uA)
     ) fun o0 =>
    Option.bind (α := Int) (
     lp (σ := Int) (fun sE j3 =>
      jn (σ := Unit) (fun _ =>
       sE ((w64 (j3 - (1 : Int))))
       ) fun tE =>
      Option.bind (α := Bool) (
       bif (decide (o0 ≤ j3)) then
        (idx o3 j3).bind fun nA =>
        (idx o3 x1).bind fun oA =>
        (f91 nA oA).bind fun o8 =>
        some ((!o8))
       else
        some (false)
       ) fun g7 =>
      bif g7 then
       tE ()
      else
       some (j3)
      ) big (i5)
     ) fun u3 =>
    jn (σ := Unit) (fun _ =>
     (idx o3 u3).bind fun q8 =>
     (idx o3 o0).bind fun l9 =>
     (idx o3 o0).bind fun vI =>
     (idx ((List.set o3 (Int.toNat o0) q8)) u3).bind fun xI =>
     nE ((List.set ((List.set o3 (Int.toNat o0) q8)) (Int.toNat u3) l9), (w64 (o0 + (1 : Int))), (w64 (u3 - (1 : Int))))
     ) fun uE =>
    bif (decide (o0 > u3)) then
     some (o3, u3)
    else
     uE ()
    ) big ((List.set ((List.set u7 (Int.toNat u0) rA)) (Int.toNat j1) xC), (w64 (u0 + (1 : Int))), (w64 (j1 - (1 : Int))))
   ) fun (d7, l5) =>
  (idx d7 x1).bind fun n9 =>
  (idx d7 l5).bind fun pA =>
  (idx d7 l5).bind fun yI =>
  (idx ((List.set d7 (Int.toNat l5) n9)) x1).bind fun zI =>
  some (l5, false, (List.set ((List.set d7 (Int.toNat l5) n9)) (Int.toNat x1) pA))
  ) fun bH =>
 bif (decide (u0 > j1)) then
  (idx ((List.set ((List.set x0 (Int.toNat x1) y1)) (Int.toNat x3) y3)) x1).bind fun xA =>
  (idx ((List.set ((List.set x0 (Int.toNat x1) y1)) (Int.toNat x3) y3)) j1).bind fun yC =>
  (idx ((List.set ((List.set x0 (Int.toNat x1) y1)) (Int.toNat x3) y3)) j1).bind fun zK =>
  (idx ((List.set ((List.set ((List.set x0 (Int.toNat x1) y1)) (Int.toNat x3) y3)) (Int.toNat j1) xA)) x1).bind fun aL =>
  some (j1, true, (List.set ((List.set ((List.set ((List.set x0 (Int.toNat x1) y1)) (Int.toNat x3) y3)) (Int.toNat j1) xA)) (Int.toNat x1) yC))
 else
  bH ((List.set ((List.set x0 (Int.toNat x1) y1)) (Int.toNat x3) y3))
def f96 (x0 : List (List Int)) (x1 : (List Int) → Option Bool) : Option (Int) :=
 jn (σ := Unit) (fun _ =>
  some ((-1 : Int))
  ) fun k18 =>
 lp (σ := Int) (fun k19 o0 =>
  bif (decide (o0 < ((x0).length : Int))) then
   jn (σ := Unit) (fun _ =>
    k19 ((w64 (o0 + (1 : Int))))
    ) fun k28 =>
   (idx x0 o0).bind fun j6 =>
   (x1 j6).bind fun v6 =>
   bif v6 then
    some (o0)
   else
    k28 ()
  else
   k18 ()
  ) big ((0 : Int))
def f98 (x0 : List Int) (x1 : Int) (x2 : Int) (x3 : Int) (x4 : Int → Int → Option Int) : Option ((List Int)) :=
 lp (σ := (List Int) × Int) (fun k1 (u0, o0) =>
  jn (σ := Unit) (fun _ =>
   Option.bind (α := (List Int)) (
    (idx u0 (w64 (x2 + o0))).bind fun u3 =>
    (idx u0 (w64 (x1 + o0))).bind fun y44 =>
    (idx u0 (w64 (x1 + o0))).bind fun u7 =>
    (idx ((List.set u0 (Int.toNat (w64 (x1 + o0))) u3)) (w64 (x2 + o0))).bind fun v7 =>
    some ((List.set ((List.set u0 (Int.toNat (w64 (x1 + o0))) u3)) (Int.toNat (w64 (x2 + o0))) y44))
    ) fun j3 =>
   k1 (j3, (w64 (o0 + (1 : Int))))
   ) fun k4 =>
  bif (decide (o0 < x3)) then
   k4 ()
  else
   some (u0)
  ) big (x0, (0 : Int))
theorem en98 : Enters Try.prog 98 := enters_of Try.func98 (by kernel_rfl) rfl
theorem wk98 {iI : Nat} {gI : Gh} {wI : World} {x0 : List Int} {x1 : Int} {x2 : Int} {x3 : Int} {x4 : Int → Int → Option Int} {up0 : Value} (mp0 : OM iI gI wI 3 x0 up0) {up4 : Value} (rp4 : FnV2 Try.prog x4 up4 gI wI) {r : (List Int)} (h : f98 x0 x1 x2 x3 x4 = some r) : FnM Try.prog 98 #[up0, .int .i64 (x1), .int .i64 (x2), .int .i64 (x3), up4] iI gI wI (fun g w v => v = .tuple #[] ∧ OM iI g w 3 r up0) := by
 unfold f98 at h
 refine fnM_of_E Try.func98 rfl (Nat.le_of_ble_eq_true rfl) fun g0 hm hfr => ?_
 have x6 := mp0
 replace mp0 := mp0.enter
 rw [← hm] at mp0
 replace hm : g0.m = gI.m := by rw [hm]
 obtain ⟨ff4, fa4, fc4, rfl, fen4, fcl4⟩ := rp4
 show E _ 38 none _ _ _ _ _
 refine E_seq (E_region (EL_at (.int .i64 (0)) rfl rfl ?_))
 refine EL_nil (thn_n (E_block ?_))
 refine E_lp h (fun (s : (List Int) × Int) e w => ∃ (g : Gh) , FrM iI gI wI g w ∧ e 0 = up0 ∧ OM 1 g w 3 (s.1 : List Int) up0 ∧ e 1 = .int .i64 (x1) ∧ e 2 = .int .i64 (x2) ∧ e 3 = .int .i64 (x3) ∧ e 10 = .int .i64 (s.2)) ⟨g0, hfr, rfl, mp0, rfl, rfl, rfl, rfl⟩ (fun X1 k1 hk1 => ?_)
 rintro ⟨u0, o0⟩ o8 w2 ⟨g2, hfr, g7, l5, i7, j7, q5, i5⟩ h
 refine E_joinC h (fun (s : Unit) e w => ∃ (g : Gh) , FrM iI gI wI g w ∧ e 0 = up0 ∧ OM 1 g w 3 (u0 : List Int) up0 ∧ e 1 = .int .i64 (x1) ∧ e 2 = .int .i64 (x2) ∧ e 3 = .int .i64 (x3) ∧ e 10 = .int .i64 (o0)) (fun X4 k4 hk4 h => ?_) ?_
 ·refine E_seq (E_region (EL_mv i5 rfl ?_))
  refine EL_mv q5 rfl ?_
  refine EL_in (.bool ((decide (o0 < x3)))) rfl rfl rfl rfl ?_
  refine EL_nil (thn_n ?_)
  rcases csome h with ⟨hc5, h⟩ | ⟨hc5, h⟩
  ·refine E_ct hc5 rfl ?_
   exact E_skip (thn_n (hk4 () _ _ ⟨g2, hfr, g7, l5, i7, j7, q5, i5⟩ h))
  ·refine E_cf hc5 rfl ?_
   refine E_exit ?_
   refine thn_e ?_
   refine thn_e ?_
   refine blk_hit ?_
   obtain rfl := sinj h
   exact end0n rfl rfl ⟨_, hfr, rfl, x6.back l5⟩
 ·rintro _ q8 w6 ⟨g6, hfr, o3, j1, z3, z4, m7, i3⟩ h
  obtain ⟨j3, hx, h⟩ := bsome h
  refine E_join (fun e w => ∃ (g : Gh) , FrM iI gI wI g w ∧ e 0 = up0 ∧ OM 1 g w 3 (j3 : List Int) up0 ∧ e 1 = .int .i64 (x1) ∧ e 2 = .int .i64 (x2) ∧ e 3 = .int .i64 (x3) ∧ e 10 = .int .i64 (o0)) (fun Q' hQ => ?_) (fun n8 r8 hR => ?_)
  ·replace h := hx
   clear hx
   refine E_block ?_
   obtain ⟨u3, t5, h⟩ := bsome h
   refine L_loadM (x := .tmp 28) Try.isAgg3 Try.sizeOf3 j1 t5 fun t8 c8 n7 => ?_
   obtain rfl := RV_int.1 c8
   obtain ⟨y44, x5, h⟩ := bsome h
   refine L_loadM (x := .tmp 34) Try.isAgg3 Try.sizeOf3 j1 x5 fun v8 g8 o7 => ?_
   obtain rfl := RV_int.1 g8
   obtain ⟨u7, i6, h⟩ := bsome h
   refine E_drawTL (g := g6) (n := 21) [4, 5, 6, 7] [] [0, 1, 2, 3, 4, 5, 6, 7, 8, 9, 10, 11, 12, 13, 14, 15, 16, 17, 18, 19, 20] rfl mixed (by kernel_rfl) trivial rfl ?_
   refine L_p up0 rfl rfl (P_move o3) ?_
   refine L_p (.int .i64 (x1)) rfl rfl (P_move z3) ?_
   refine L_p (.int .i64 (o0)) rfl rfl (P_move i3) ?_
   refine L_p (.int .i64 ((w64 (x1 + o0)))) rfl rfl (P_int rfl rfl rfl) ?_
   refine L_purL (c := up0) rfl rfl .plain (P_move o3) ?_
   refine L_purL (c := .int .i64 (x2)) rfl rfl .plain (P_move z4) ?_
   refine L_purL (c := .int .i64 (o0)) rfl rfl .plain (P_move i3) ?_
   refine L_purL (c := .int .i64 ((w64 (x2 + o0)))) rfl rfl .plain (P_int rfl rfl rfl) ?_
   refine L_p up0 rfl rfl (P_move o3) ?_
   refine L_p (.int .i64 (x2)) rfl rfl (P_move z4) ?_
   refine L_p (.int .i64 (o0)) rfl rfl (P_move i3) ?_
   refine L_p (.int .i64 ((w64 (x2 + o0)))) rfl rfl (P_int rfl rfl rfl) ?_
   refine L_p (ePtr up0 (w64 (x2 + o0)) 1) rfl rfl (P_indexAddrM (α := Int) Try.underlying22 Try.sizeOf3 rfl j1 rfl t5) ?_
   refine L_ld (c := .int .i64 (u3)) rfl rfl .plain (fun _ _ h => ⟨h.ch, fun b hb _ => h.below.block b hb⟩) n7 rfl ?_
   refine L_p up0 rfl rfl (P_move o3) ?_
   refine L_p (.int .i64 (x1)) rfl rfl (P_move z3) ?_
   refine L_p (.int .i64 (o0)) rfl rfl (P_move i3) ?_
   refine L_p (.int .i64 ((w64 (x1 + o0)))) rfl rfl (P_int rfl rfl rfl) ?_
   refine L_p (ePtr up0 (w64 (x1 + o0)) 1) rfl rfl (P_indexAddrM (α := Int) Try.underlying22 Try.sizeOf3 rfl j1 rfl x5) ?_
   refine L_ld (c := .int .i64 (y44)) rfl rfl .plain (fun _ _ h => ⟨h.ch, fun b hb _ => h.below.block b hb⟩) o7 rfl ?_
   refine L_p (ePtr up0 (w64 (x1 + o0)) 1) rfl rfl (P_indexAddrM (α := Int) Try.underlying22 Try.sizeOf3 rfl j1 rfl i6) ?_
   refine L_nl fun e7 i8 hs => ?_
   have hlt : Lt g6.m w6 e7 i8 := hs.ch
   have hfr := hfr.ext hs
   have j1 := j1.ext hs
   clear hs
   refine TL_do hlt.w .plain rfl (D_storeM (g := e7) (α := Int) (a' := u3) Try.sizeOf3 rfl j1 i6 rfl (RV_int.2 rfl) fun k8 x8 hs b75 => ?_)
   have hfr := hfr.stp hs
   have hlt := hlt.stp hs
   obtain ⟨v7, j6, h⟩ := bsome h
   refine TL_pur hlt.w (v := ePtr up0 (w64 (x2 + o0)) 1) (P_indexAddrM (α := Int) Try.underlying22 Try.sizeOf3 rfl b75 rfl j6) .plain rfl ?_
   refine TL_do hlt.w .plain rfl (D_storeM (g := k8) (α := Int) (a' := y44) Try.sizeOf3 rfl b75 j6 rfl (RV_int.2 rfl) fun l8 y8 hs b77 => ?_)
   have hfr := hfr.stp hs
   have hlt := hlt.stp hs
   refine TL_nil hlt.w ?_
   clear hlt
   refine blk_n ?_
   obtain rfl := sinj h
   exact hQ _ _ ⟨l8, hfr, o3, b77, z3, z4, m7, i3⟩
  ·clear hx
   obtain ⟨m8, hfr, y6, a7, b7, c7, d7, v6⟩ := hR
   refine E_region (EL_mv v6 rfl ?_)
   refine EL_in (.int .i64 ((w64 (o0 + (1 : Int))))) rfl rfl rfl rfl ?_
   refine EL_at (.int .i64 ((w64 (o0 + (1 : Int))))) rfl rfl ?_
   exact EL_nil (thn_n (hk1 (j3, (w64 (o0 + (1 : Int)))) _ _ ⟨m8, hfr, y6, a7, b7, c7, d7, rfl⟩ h))
def f99 (x0 : List Int) (x1 : Int) (x2 : Int) (x3 : Int) : Option ((List Int)) :=
 lp (σ := (List Int) × Int) (fun k1 (i3, o0) =>
  jn (σ := Unit) (fun _ =>
   Option.bind (α := Int) (
    Option.bind (α := Bool) (
     bif (decide ((w64 ((w64 ((w64 ((2 : Int) * o0)) + (1 : Int))) + (1 : Int))) < x2)) then
      (idx i3 (w64 (x3 + (w64 ((w64 ((2 : Int) * o0)) + (1 : Int)))))).bind fun a7 =>
      (idx i3 (w64 ((w64 (x3 + (w64 ((w64 ((2 : Int) * o0)) + (1 : Int))))) + (1 : Int)))).bind fun b7 =>
      (f91 a7 b7).bind fun t5 =>
      some (t5)
     else
      some (false)
     ) fun z3 =>
    bif z3 then
     some ((w64 ((w64 ((w64 ((2 : Int) * o0)) + (1 : Int))) + (1 : Int))))
    else
     some ((w64 ((w64 ((2 : Int) * o0)) + (1 : Int))))
    ) fun u0 =>
   jn (σ := Unit) (fun _ =>
    (idx i3 (w64 (x3 + u0))).bind fun l5 =>
    (idx i3 (w64 (x3 + o0))).bind fun x5 =>
    (idx i3 (w64 (x3 + o0))).bind fun oA =>
    (idx ((List.set i3 (Int.toNat (w64 (x3 + o0))) l5)) (w64 (x3 + u0))).bind fun pA =>
    k1 ((List.set ((List.set i3 (Int.toNat (w64 (x3 + o0))) l5)) (Int.toNat (w64 (x3 + u0))) x5), u0)
    ) fun a9 =>
   (idx i3 (w64 (x3 + o0))).bind fun c7 =>
   (idx i3 (w64 (x3 + u0))).bind fun d7 =>
   (f91 c7 d7).bind fun i6 =>
   bif (!i6) then
    some (i3)
   else
    a9 ()
   ) fun k4 =>
  bif (decide ((w64 ((w64 ((2 : Int) * o0)) + (1 : Int))) ≥ x2)) then
   some (i3)
  else
   k4 ()
  ) big (x0, x1)
def f24 (x0 : Int) (x1 : Int) : Option (Int) :=
 (f44 x0).bind fun y2 =>
 (f44 x1).bind fun y4 =>
 jn (σ := Unit) (fun _ =>
  jn (σ := Unit) (fun _ =>
   jn (σ := Unit) (fun _ =>
    jn (σ := Unit) (fun _ =>
     some ((0 : Int))
     ) fun t5 =>
    bif (decide (x0 > x1)) then
     some ((1 : Int))
    else
     t5 ()
    ) fun x5 =>
   bif (decide (x0 < x1)) then
    some ((-1 : Int))
   else
    x5 ()
   ) fun k18 =>
  bif y4 then
   some ((1 : Int))
  else
   k18 ()
  ) fun i6 =>
 bif y2 then
  jn (σ := Unit) (fun _ =>
   some ((-1 : Int))
   ) fun j6 =>
  bif y4 then
   some ((0 : Int))
  else
   j6 ()
 else
  i6 ()
theorem en24 : Enters Try.prog 24 := enters_of Try.func24 (by kernel_rfl) rfl
theorem wk24 {gI : Gh} {wI : World} {x0 : Int} {x1 : Int}  {r : Int} (h : f24 x0 x1 = some r) : Fn Try.prog 24 #[.int .i64 (x0), .int .i64 (x1)] gI wI (fun _ _ v => v = .int .i64 (r)) := by
 unfold f24 at h
 refine fn_of_E Try.func24 rfl (Nat.le_of_ble_eq_true rfl) fun g0 hm hfr => ?_
 show E _ 20 none _ _ _ _ _
 refine E_seq (E_region (EL_at (.int .i64 (0)) rfl rfl ?_))
 refine EL_nil (thn_n (E_seq (E_region (EL_mw (.int .i64 (x0)) rfl rfl ?_))))
 obtain ⟨y2, hy2, h⟩ := bsome h
 refine EL_do .plain rfl (D_call (g := g0) (vs := [.int .i64 (x0)]) en44 (.cons rfl .nil) (wk44  hy2) fun g1 w1_ v1 hs hr => ?_)
 have hfr := hfr.ext hs
 subst hr
 refine EL_at (.bool (y2)) rfl rfl ?_
 refine EL_nil (thn_n (E_seq (E_region (EL_mw (.int .i64 (x1)) rfl rfl ?_))))
 obtain ⟨y4, c7, h⟩ := bsome h
 refine EL_do .plain rfl (D_call (g := g1) (vs := [.int .i64 (x1)]) en44 (.cons rfl .nil) (wk44  c7) fun g3 w3_ v3 hs hr => ?_)
 have hfr := hfr.ext hs
 subst hr
 refine EL_at (.bool (y4)) rfl rfl ?_
 refine EL_nil (thn_n (E_joinC h (fun (s : Unit) e w => ∃ (g : Gh) , Fr gI wI g w ∧ e 0 = .int .i64 (x0) ∧ e 1 = .int .i64 (x1) ∧ e 6 = .bool (y4)) (fun X10 i6 v6 h => ?_) ?_))
 ·refine E_seq (E_region (EL_mw (.bool (y2)) rfl rfl ?_))
  refine EL_nil (thn_n ?_)
  rcases csome h with ⟨o0, h⟩ | ⟨o0, h⟩
  ·refine E_ct o0 rfl ?_
   refine E_joinC h (fun (s : Unit) e w => ∃ (g : Gh) , Fr gI wI g w) (fun X13 j6 x6 h => ?_) ?_
   ·refine E_seq (E_region (EL_mw (.bool (y4)) rfl rfl ?_))
    refine EL_nil (thn_n ?_)
    rcases csome h with ⟨u0, h⟩ | ⟨u0, h⟩
    ·refine E_ct u0 rfl ?_
     refine E_seq (E_region (EL_at (.int .i64 (0)) rfl rfl ?_))
     refine EL_nil (thn_n (E_ret (thn_r ?_)))
     refine thn_r ?_
     obtain rfl := sinj h
     exact end1 rfl rfl (show _ = .int .i64 (0) from rfl) ⟨_, hfr, rfl⟩
    ·refine E_cf u0 rfl ?_
     exact E_skip (thn_n (x6 () _ _ ⟨g3, hfr⟩ h))
   ·rintro _ i7 w15 ⟨u7, hfr⟩ h
    refine E_seq (E_region (EL_at (.int .i64 (-1)) rfl rfl ?_))
    refine EL_nil (thn_n (E_ret (thn_r ?_)))
    obtain rfl := sinj h
    exact end1 rfl rfl (show _ = .int .i64 (-1) from rfl) ⟨_, hfr, rfl⟩
  ·refine E_cf o0 rfl ?_
   exact E_skip (thn_n (v6 () _ _ ⟨g3, hfr, rfl, rfl, rfl⟩ h))
 ·rintro _ j7 v7 ⟨d7, hfr, z3, z4, i5⟩ h
  refine E_joinC h (fun (s : Unit) e w => ∃ (g : Gh) , Fr gI wI g w ∧ e 0 = .int .i64 (x0) ∧ e 1 = .int .i64 (x1)) (fun X18 k18 y6 h => ?_) ?_
  ·refine E_seq (E_region (EL_mv i5 rfl ?_))
   refine EL_nil (thn_n ?_)
   rcases csome h with ⟨j1, h⟩ | ⟨j1, h⟩
   ·refine E_ct j1 rfl ?_
    refine E_seq (E_region (EL_at (.int .i64 (1)) rfl rfl ?_))
    refine EL_nil (thn_n (E_ret (thn_r ?_)))
    obtain rfl := sinj h
    exact end1 rfl rfl (show _ = .int .i64 (1) from rfl) ⟨_, hfr, rfl⟩
   ·refine E_cf j1 rfl ?_
    exact E_skip (thn_n (y6 () _ _ ⟨d7, hfr, z3, z4⟩ h))
  ·rintro _ m7 c8 ⟨e7, hfr, o3, u3⟩ h
   refine E_joinC h (fun (s : Unit) e w => ∃ (g : Gh) , Fr gI wI g w ∧ e 0 = .int .i64 (x0) ∧ e 1 = .int .i64 (x1)) (fun X22 x5 a7 h => ?_) ?_
   ·refine E_seq (E_region (EL_mv o3 rfl ?_))
    refine EL_mv u3 rfl ?_
    refine EL_in (.bool ((decide (x0 < x1)))) rfl rfl rfl rfl ?_
    refine EL_nil (thn_n ?_)
    rcases csome h with ⟨i3, h⟩ | ⟨i3, h⟩
    ·refine E_ct i3 rfl ?_
     refine E_seq (E_region (EL_at (.int .i64 (-1)) rfl rfl ?_))
     refine EL_nil (thn_n (E_ret (thn_r ?_)))
     obtain rfl := sinj h
     exact end1 rfl rfl (show _ = .int .i64 (-1) from rfl) ⟨_, hfr, rfl⟩
    ·refine E_cf i3 rfl ?_
     exact E_skip (thn_n (a7 () _ _ ⟨e7, hfr, o3, u3⟩ h))
   ·rintro _ n7 g8 ⟨g7, hfr, l5, q5⟩ h
    refine E_joinC h (fun (s : Unit) e w => ∃ (g : Gh) , Fr gI wI g w) (fun X26 t5 b7 h => ?_) ?_
    ·refine E_seq (E_region (EL_mv l5 rfl ?_))
     refine EL_mv q5 rfl ?_
     refine EL_in (.bool ((decide (x0 > x1)))) rfl rfl rfl rfl ?_
     refine EL_nil (thn_n ?_)
     rcases csome h with ⟨j3, h⟩ | ⟨j3, h⟩
     ·refine E_ct j3 rfl ?_
      refine E_seq (E_region (EL_at (.int .i64 (1)) rfl rfl ?_))
      refine EL_nil (thn_n (E_ret (thn_r ?_)))
      obtain rfl := sinj h
      exact end1 rfl rfl (show _ = .int .i64 (1) from rfl) ⟨_, hfr, rfl⟩
     ·refine E_cf j3 rfl ?_
      exact E_skip (thn_n (b7 () _ _ ⟨g7, hfr⟩ h))
    ·rintro _ o7 i8 ⟨k8, hfr⟩ h
     refine E_seq (E_region (EL_at (.int .i64 (0)) rfl rfl ?_))
     refine EL_nil (thn_n (E_ret ?_))
     obtain rfl := sinj h
     exact end1 rfl rfl (show _ = .int .i64 (0) from rfl) ⟨_, hfr, rfl⟩
def f33 (x0 : PaySheet) : Option ((List Int) × (List Int) × Int × Int) :=
 Option.bind (α := (List Int)) (
  lp (σ := (List Int) × Int) (fun yD (n8, u0) =>
   bif (decide (u0 < ((((x0).PayTable).Rows).length : Int))) then
    Option.bind (α := (List Int)) (
     (idx (((x0).PayTable).Rows) u0).bind fun y130 =>
     (f53 y130).bind fun z4 =>
     (idx (((x0).PayTable).Across) u0).bind fun i5 =>
     (apnd 8 n8 (([(w64 (z4 - i5))] : List Int))).bind fun nA =>
     some (nA)
     ) fun j6 =>
    yD (j6, (w64 (u0 + (1 : Int))))
   else
    some (n8)
   ) big ([], (0 : Int))
  ) fun o3 =>
 Option.bind (α := (List Int)) (
  lp (σ := (List Int) × Int) (fun oA (n7, o0) =>
   bif (decide (o0 < ((((x0).PayTable).Down).length : Int))) then
    Option.bind (α := (List Int)) (
     (idx (((x0).PayTable).Down) o0).bind fun a7 =>
     (f54 x0 o0).bind fun pA =>
     (f53 pA).bind fun o7 =>
     (apnd 8 n7 (([(w64 (o7 - a7))] : List Int))).bind fun qA =>
     some (qA)
     ) fun v6 =>
    oA (v6, (w64 (o0 + (1 : Int))))
   else
    some (n7)
   ) big ([], (0 : Int))
  ) fun d7 =>
 (f53 (((x0).PayTable).Across)).bind fun b7 =>
 (f53 (((x0).PayTable).Down)).bind fun c7 =>
 some (o3, d7, (w64 (b7 - ((x0).PayTable).Total)), (w64 (c7 - ((x0).PayTable).Total)))
def f34 (x0 : List Int) (x1 : Int → Option Bool) : Option (Bool) :=
 (f55 x0 x1).bind fun y2 =>
 some ((decide (y2 ≥ (0 : Int))))
theorem en34 : Enters Try.prog 34 := enters_of Try.func34 (by kernel_rfl) rfl
theorem wk34 {gI : Gh} {wI : World} {x0 : List Int} {x1 : Int → Option Bool} {up0 : Value} (rp0 : RV gI.m wI x0 up0) {up1 : Value} (rp1 : FnV1 Try.prog x1 up1 gI wI) {r : Bool} (h : f34 x0 x1 = some r) : Fn Try.prog 34 #[up0, up1] gI wI (fun _ _ v => v = .bool (r)) := by
 unfold f34 at h
 refine fn_of_E Try.func34 rfl (Nat.le_of_ble_eq_true rfl) fun g0 hm hfr => ?_
 have rp0 : RV g0.m wI x0 up0 := hm ▸ rp0
 obtain ⟨ff1, fa1, fc1, rfl, fen1, fcl1⟩ := rp1
 show E _ 9 none _ _ _ _ _
 refine E_seq (E_region (EL_at (.bool false) rfl rfl ?_))
 refine EL_nil (thn_n (E_seq (E_region (EL_mw up0 rfl rfl ?_))))
 refine EL_mw ((.func (.func ff1) fa1 fc1)) rfl rfl ?_
 obtain ⟨y2, hy2, h⟩ := bsome h
 refine EL_do .plain rfl (D_call (g := g0) (vs := [up0, (.func (.func ff1) fa1 fc1)]) en55 (.cons rfl (.cons rfl .nil)) (wk55 rp0 (FnV1.ch ⟨_, _, _, rfl, fen1, fcl1⟩ hfr.ch) hy2) fun g1 w1_ v1 hs hr => ?_)
 have hfr := hfr.ext hs
 subst hr
 refine EL_in (.bool ((decide (y2 ≥ (0 : Int))))) rfl rfl rfl rfl ?_
 refine EL_at (.bool ((decide (y2 ≥ (0 : Int))))) rfl rfl ?_
 refine EL_nil (thn_n (E_ret ?_))
 obtain rfl := sinj h
 exact end1 rfl rfl (show _ = .bool ((decide (y2 ≥ (0 : Int)))) from rfl) ⟨_, hfr, rfl⟩
def f35 (x0 : List (List Int)) : Option ((List Int)) :=
 Option.bind (α := Int) (
  lp (σ := Int × Int) (fun o9 (j1, o0) =>
   bif (decide (o0 < ((x0).length : Int))) then
    Option.bind (α := Int) (
     (idx x0 o0).bind fun o3 =>
     bif (decide ((w64 (j1 + ((o3).length : Int))) < (0 : Int))) then
      none
     else
      some ((w64 (j1 + ((o3).length : Int))))
     ) fun u3 =>
    o9 (u3, (w64 (o0 + (1 : Int))))
   else
    some (j1)
   ) big ((0 : Int), (0 : Int))
  ) fun z3 =>
 (f56 z3).bind fun t9 =>
 Option.bind (α := (List Int)) (
  lp (σ := (List Int) × Int) (fun u9 (t5, u0) =>
   bif (decide (u0 < ((x0).length : Int))) then
    Option.bind (α := (List Int)) (
     (idx x0 u0).bind fun y9 =>
     (apnd 8 t5 y9).bind fun z9 =>
     some (z9)
     ) fun j3 =>
    u9 (j3, (w64 (u0 + (1 : Int))))
   else
    some (t5)
   ) big (t9, (0 : Int))
  ) fun z4 =>
 some (z4)
def f63 (x0 : PayFilling) (x1 : Int) (x2 : List PayStep) : Option (Int) :=
 Option.bind (α := Int) (
  lp (σ := Int × Int) (fun g7 (i3, o0) =>
   bif (decide (o0 < ((x2).length : Int))) then
    Option.bind (α := Int) (
     (idx x2 o0).bind fun i7 =>
     (f66 x0 i7).bind fun i5 =>
     some ((min64 i3 i5))
     ) fun o3 =>
    g7 (o3, (w64 (o0 + (1 : Int))))
   else
    some (i3)
   ) big (x1, (0 : Int))
  ) fun j3 =>
 some (j3)
def f72 (x0 : PayRate) (x1 : Int) : Option (Int) :=
 (f24 ((x0).From) x1).bind fun y5 =>
 some (y5)
def f76 (x0 : List (List Int)) (x1 : (List Int) → Option Bool) : Option (Bool) :=
 (f96 x0 x1).bind fun y2 =>
 some ((decide (y2 ≥ (0 : Int))))
end Go.Proofs.Ytkmbkaoolacofaa
