import Derived.Test.YtkmbkaoolacofaaTypes
import Derived.Test.YtkmbkaoolacofaaKn
set_option maxRecDepth 8000
set_option maxHeartbeats 4000000
namespace Go.Proofs.Ytkmbkaoolacofaa
open Go.RowKit
theorem info_3 : (Try.prog.info? 3).map (fun i => (i.zero, i.size, i.bytes)) = some (some (.int .i64 0), 1, 8) := by kernel_rfl
theorem mixed : Try.prog.follows .mixedOrders = true := by kernel_rfl
theorem capf_0_2 {e : Env} {f : FuncId} {o0 : Operand} {u0 : Operand} {b0 : Value} {b1 : Value} (hb0 : ev e o0 = b0) (hb1 : ev e u0 = b1) : (Value.func (.func f) ((#[] : Array Operand).map (ev e)) ((#[o0, u0] : Array Operand).map (ev e))) = .func (.func f) #[] #[b0, b1] := by simp [hb0, hb1]
theorem capf_0_3 {e : Env} {f : FuncId} {o0 : Operand} {u0 : Operand} {j1 : Operand} {b0 : Value} {b1 : Value} {b2 : Value} (hb0 : ev e o0 = b0) (hb1 : ev e u0 = b1) (hb2 : ev e j1 = b2) : (Value.func (.func f) ((#[] : Array Operand).map (ev e)) ((#[o0, u0, j1] : Array Operand).map (ev e))) = .func (.func f) #[] #[b0, b1, b2] := by simp [hb0, hb1, hb2]
def f79 (x0 : List Int) : Option (List Int) := apnd 8 [] x0
def lenTab : Str := (⟨[0, 1, 2, 2, 3, 3, 3, 3, 4, 4, 4, 4, 4, 4, 4, 4, 5, 5, 5, 5, 5, 5, 5, 5, 5, 5, 5, 5, 5, 5, 5, 5, 6, 6, 6, 6, 6, 6, 6, 6, 6, 6, 6, 6, 6, 6, 6, 6, 6, 6, 6, 6, 6, 6, 6, 6, 6, 6, 6, 6, 6, 6, 6, 6, 7, 7, 7, 7, 7, 7, 7, 7, 7, 7, 7, 7, 7, 7, 7, 7, 7, 7, 7, 7, 7, 7, 7, 7, 7, 7, 7, 7, 7, 7, 7, 7, 7, 7, 7, 7, 7, 7, 7, 7, 7, 7, 7, 7, 7, 7, 7, 7, 7, 7, 7, 7, 7, 7, 7, 7, 7, 7, 7, 7, 7, 7, 7, 7, 8, 8, 8, 8, 8, 8, 8, 8, 8, 8, 8, 8, 8, 8, 8, 8, 8, 8, 8, 8, 8, 8, 8, 8, 8, 8, 8, 8, 8, 8, 8, 8, 8, 8, 8, 8, 8, 8, 8, 8, 8, 8, 8, 8, 8, 8, 8, 8, 8, 8, 8, 8, 8, 8, 8, 8, 8, 8, 8, 8, 8, 8, 8, 8, 8, 8, 8, 8, 8, 8, 8, 8, 8, 8, 8, 8, 8, 8, 8, 8, 8, 8, 8, 8, 8, 8, 8, 8, 8, 8, 8, 8, 8, 8, 8, 8, 8, 8, 8, 8, 8, 8, 8, 8, 8, 8, 8, 8, 8, 8, 8, 8, 8, 8, 8, 8, 8, 8, 8, 8, 8, 8, 8, 8, 8, 8, 8, 8]⟩ : Str)
def f95 (x : Int) : Option Int := if 0 ≤ x ∧ x < 256 then (idx lenTab.b x).map fun c => w64 (0 + (c.toNat : Int)) else none
def f75 (x : Int) : Option Int := f95 x
def f5 : Option Bool := some true
theorem en5 : Enters Try.prog 5 := enters_of Try.func5 (by kernel_rfl) rfl
theorem wk5 {gI : Gh} {wI : World} {r : Bool} (h : f5 = some r) : Fn Try.prog 5 #[] gI wI (fun _ _ v => v = .bool (r)) := by
 injection h with h
 subst h
 exact wkK5
def f6 (x0 : List Int) : Option ((List Int)) :=
 (apnd 8 (([] : List Int)) x0).bind fun y3 =>
 some (y3)
theorem en6 : Enters Try.prog 6 := enters_of Try.func6 (by kernel_rfl) rfl
theorem wk6 {gI : Gh} {wI : World} {x0 : List Int} {up0 : Value} (rp0 : RV gI.m wI x0 up0) {r : (List Int)} (h : f6 x0 = some r) : Fn Try.prog 6 #[up0] gI wI (fun m w v => RV m w (r) v) := by
 unfold f6 at h
 refine fn_of_E Try.func6 rfl (Nat.le_of_ble_eq_true rfl) fun g0 hm hfr => ?_
 have rp0 : RV g0.m wI x0 up0 := hm ▸ rp0
 show E _ 6 none _ _ _ _ _
 refine E_seq (E_region (EL_at (.slice none 0 0) rfl rfl ?_))
 refine EL_nil (thn_n (E_seq (E_region (EL_do .plain rfl (D_buildSlice (g := g0) 3003 (xs := ([] : List Int)) (vs := []) Try.underlying22 Try.sizeOf3 Try.zeroValue3 rfl rfl .nil RVs.nil rfl rfl fun g1 w1 v1 hs o1 r1 hxt hfl => ?_)))))
 have hfr := hfr.stp hs
 have rp0 := rp0.stp hs
 refine EL_mw up0 rfl rfl ?_
 obtain ⟨y3, hy3, h⟩ := bsome h
 refine EL_do .plain rfl (D_append (g := g1) (i := 3003) Try.underlying22 info_3 rfl rfl o1 r1 rfl rp0 hy3 fun g2 w2 v2 hs o2 r2 _ => ?_)
 have hfr := hfr.stp hs
 refine EL_at v2 rfl rfl ?_
 refine EL_nil (thn_n (E_ret ?_))
 obtain rfl := sinj h
 exact end1 rfl rfl (show _ = v2 from rfl) ⟨_, hfr, r2⟩
def f8 (x0 : List Int) (x1 : List Int) : Option (Bool) :=
 jn (σ := Unit) (fun _ =>
  jn (σ := Unit) (fun _ =>
   some (true)
   ) fun k53 =>
  lp (σ := Int) (fun k54 o0 =>
   jn (σ := Unit) (fun _ =>
    jn (σ := Unit) (fun _ =>
     k54 ((w64 (o0 + (1 : Int))))
     ) fun d7 =>
    (idx x0 o0).bind fun u3 =>
    (idx x1 o0).bind fun z3 =>
    bif (u3 != z3) then
     some (false)
    else
     d7 ()
    ) fun k57 =>
   bif (decide (o0 < ((x0).length : Int))) then
    k57 ()
   else
    k53 ()
   ) big ((0 : Int))
  ) fun k2 =>
 bif (((x0).length : Int) != ((x1).length : Int)) then
  some (false)
 else
  k2 ()
def f12  : Option (PayList) :=
 some ((⟨([(⟨0, (20 : Int)⟩ : PayRate), (⟨(60 : Int), (30 : Int)⟩ : PayRate)] : List PayRate), ([(100 : Int), (250 : Int)] : List Int), (12 : Int), (100 : Int)⟩ : PayList))
def f13 (x0 : Int) (x1 : Int) : Option (PayPiece) :=
 some ((⟨(3 : Int), x0, (50000 : Int), ([(0 : Int), (1 : Int)] : List Int), x1⟩ : PayPiece))
def f15 (x0 : Int) (x1 : Int) : Option (Span) :=
 some ((⟨x0, x1⟩ : Span))
def f18 (x0 : Int) (x1 : Int) (x2 : Int) (x3 : Int) : Option (PayTable) :=
 some ((⟨([([x0, x1] : List Int), ([x2, x3] : List Int)] : List (List Int)), ([(12 : Int), (3 : Int)] : List Int), ([(6 : Int), (9 : Int)] : List Int), (15 : Int)⟩ : PayTable))
def f27 (x0 : PayPayList) (x1 : Int) (x2 : Int) : Option (Int) :=
 (quo64 (w64 (x1 * ((x0).PayList).Cap)) (1000 : Int)).bind fun y8 =>
 some ((min64 (w64 (x2 * ((x0).PayList).Fine)) y8))
def f36 (x0 : Int) : Option (Bool) :=
 some ((x0 != (0 : Int)))
def f37 (x0 : List Int) : Option (Int × Int) :=
 Option.bind (α := Int × Int) (
  lp (σ := Int × Int × Int) (fun j7 (z4, u0, o0) =>
   bif (decide (o0 < ((x0).length : Int))) then
    Option.bind (α := Int × Int) (
     (idx x0 o0).bind fun t5 =>
     bif (t5 != (0 : Int)) then
      some (o0, (w64 (u0 + (1 : Int))))
     else
      some (z4, u0)
     ) fun (o3, u3) =>
    j7 (o3, u3, (w64 (o0 + (1 : Int))))
   else
    some (z4, u0)
   ) big ((0 : Int), (0 : Int), (0 : Int))
  ) fun (j1, i3) =>
 some (j1, i3)
def f42 (x0 : Int) (z0 : Int) (z1 : Int) : Option (Bool) :=
 Option.bind (α := Bool) (
  bif (decide (x0 < z0)) then
   some (true)
  else
   some ((decide (x0 > z1)))
  ) fun o0 =>
 some (o0)
theorem en42 : Enters Try.prog 42 := enters_of Try.func42 (by kernel_rfl) rfl
theorem wk42 {gI : Gh} {wI : World} {x0 : Int} {z0 : Int} {z1 : Int} {pf0 : Value} (qf0 : PT gI.m wI z0 pf0) {pf1 : Value} (qf1 : PT gI.m wI z1 pf1) {r : Bool} (h : f42 x0 z0 z1 = some r) : Fn Try.prog 42 #[.int .i64 (x0), pf0, pf1] gI wI (fun _ _ v => v = .bool (r)) := by
 unfold f42 at h
 refine fn_of_E Try.func42 rfl (Nat.le_of_ble_eq_true rfl) fun g0 hm hfr => ?_
 have qf0 : PT g0.m wI z0 pf0 := hm ▸ qf0
 have qf1 : PT g0.m wI z1 pf1 := hm ▸ qf1
 show E _ 13 none _ _ _ _ _
 refine E_seq (E_region (EL_at (.bool false) rfl rfl ?_))
 refine EL_nil (thn_n ?_)
 obtain ⟨o0, hx, h⟩ := bsome h
 refine E_join (fun e w => ∃ (g : Gh) , Fr gI wI g w ∧ e 4 = .bool (o0)) (fun Q' hQ => ?_) (fun j1 w7 hR => ?_)
 ·replace h := hx
  clear hx
  refine E_region (EL_mw (.int .i64 (x0)) rfl rfl ?_)
  refine EL_do .plain rfl (D_load (g := g0) Try.isAgg3 Try.sizeOf3 rfl qf0 fun v4 r4 => ?_)
  obtain rfl := RV_int.1 r4
  refine EL_in (.bool ((decide (x0 < z0)))) rfl rfl rfl rfl ?_
  refine EL_mw (.bool ((decide (x0 < z0)))) rfl rfl ?_
  rcases csome h with ⟨hc5, h⟩ | ⟨hc5, h⟩
  ·refine EL_s rfl rfl hc5 rfl rfl ?_
   refine EL_s rfl rfl hc5 rfl rfl ?_
   refine EL_s rfl rfl hc5 rfl rfl ?_
   refine EL_p (.bool true) (P_pick (b := (decide (x0 < z0))) rfl (pick_t hc5 rfl)) rfl ?_
   refine EL_at (.bool true) rfl rfl ?_
   refine EL_nil ?_
   obtain rfl := sinj h
   exact hQ _ _ ⟨g0, hfr, rfl⟩
  ·refine EL_y (.int .i64 (x0)) (P_move rfl) rfl rfl hc5 rfl ?_
   refine EL_do (.yes2 rfl rfl hc5) rfl (D_load (g := g0) Try.isAgg3 Try.sizeOf3 rfl qf1 fun v6 r6 => ?_)
   obtain rfl := RV_int.1 r6
   refine EL_y (.bool ((decide (x0 > z1)))) (P_int rfl rfl rfl) rfl rfl hc5 rfl ?_
   refine EL_p (.bool ((decide (x0 > z1)))) (P_pick (b := (decide (x0 < z0))) rfl (pick_f hc5 rfl)) rfl ?_
   refine EL_at (.bool ((decide (x0 > z1)))) rfl rfl ?_
   refine EL_nil ?_
   obtain rfl := sinj h
   exact hQ _ _ ⟨g0, hfr, rfl⟩
 ·clear hx
  obtain ⟨g7, hfr, u0⟩ := hR
  refine E_ret ?_
  obtain rfl := sinj h
  exact end1 rfl rfl (show _ = .bool (o0) from u0) ⟨_, hfr, rfl⟩
def f44 (x0 : Int) : Option (Bool) :=
 some ((x0 != x0))
theorem en44 : Enters Try.prog 44 := enters_of Try.func44 (by kernel_rfl) rfl
theorem wk44 {gI : Gh} {wI : World} {x0 : Int}  {r : Bool} (h : f44 x0 = some r) : Fn Try.prog 44 #[.int .i64 (x0)] gI wI (fun _ _ v => v = .bool (r)) := by
 unfold f44 at h
 refine fn_of_E Try.func44 rfl (Nat.le_of_ble_eq_true rfl) fun g0 hm hfr => ?_
 show E _ 6 none _ _ _ _ _
 refine E_seq (E_region (EL_at (.bool false) rfl rfl ?_))
 refine EL_nil (thn_n (E_seq (E_region (EL_mw (.int .i64 (x0)) rfl rfl ?_))))
 refine EL_mw (.int .i64 (x0)) rfl rfl ?_
 refine EL_in (.bool ((x0 != x0))) rfl rfl rfl rfl ?_
 refine EL_at (.bool ((x0 != x0))) rfl rfl ?_
 refine EL_nil (thn_n (E_ret ?_))
 obtain rfl := sinj h
 exact end1 rfl rfl (show _ = .bool ((x0 != x0)) from rfl) ⟨_, hfr, rfl⟩
def f52 (x0 : PaySheet) : Option ((List PayPlace)) :=
 Option.bind (α := (List PayPlace)) (
  lp (σ := (List PayPlace) × Int) (fun uA (a7, o0) =>
   bif (decide (o0 < ((((x0).PayTable).Rows).length : Int))) then
    Option.bind (α := (List PayPlace)) (
     (idx (((x0).PayTable).Rows) o0).bind fun z3 =>
     lp (σ := (List PayPlace) × Int) (fun xA (x5, u0) =>
      bif (decide (u0 < ((z3).length : Int))) then
       Option.bind (α := (List PayPlace)) (
        (idx z3 u0).bind fun i7 =>
        bif (i7 == (-1 : Int)) then
         (apnd 16 x5 (([(⟨o0, u0⟩ : PayPlace)] : List PayPlace))).bind fun y8 =>
         some (y8)
        else
         some (x5)
        ) fun j3 =>
       xA (j3, (w64 (u0 + (1 : Int))))
      else
       some (x5)
      ) big (a7, (0 : Int))
     ) fun o3 =>
    uA (o3, (w64 (o0 + (1 : Int))))
   else
    some (a7)
   ) big ([], (0 : Int))
  ) fun z4 =>
 some (z4)
def f53 (x0 : List Int) : Option (Int) :=
 Option.bind (α := Int) (
  lp (σ := Int × Int) (fun a7 (u0, o0) =>
   bif (decide (o0 < ((x0).length : Int))) then
    Option.bind (α := Int) (
     (idx x0 o0).bind fun j3 =>
     some ((w64 (u0 + j3)))
     ) fun i3 =>
    a7 (i3, (w64 (o0 + (1 : Int))))
   else
    some (u0)
   ) big ((0 : Int), (0 : Int))
  ) fun j1 =>
 some (j1)
def f54 (x0 : PaySheet) (x1 : Int) : Option ((List Int)) :=
 Option.bind (α := (List Int)) (
  lp (σ := (List Int) × Int) (fun c8 (z3, o0) =>
   bif (decide (o0 < ((((x0).PayTable).Rows).length : Int))) then
    Option.bind (α := (List Int)) (
     (idx (((x0).PayTable).Rows) o0).bind fun g8 =>
     (idx g8 x1).bind fun q5 =>
     (apnd 8 z3 (([q5] : List Int))).bind fun i8 =>
     some (i8)
     ) fun j1 =>
    c8 (j1, (w64 (o0 + (1 : Int))))
   else
    some (z3)
   ) big ([], (0 : Int))
  ) fun i3 =>
 some (i3)
def f55 (x0 : List Int) (x1 : Int → Option Bool) : Option (Int) :=
 jn (σ := Unit) (fun _ =>
  some ((-1 : Int))
  ) fun k18 =>
 lp (σ := Int) (fun k19 o0 =>
  bif (decide (o0 < ((x0).length : Int))) then
   jn (σ := Unit) (fun _ =>
    k19 ((w64 (o0 + (1 : Int))))
    ) fun k28 =>
   (idx x0 o0).bind fun z4 =>
   (x1 z4).bind fun v6 =>
   bif v6 then
    some (o0)
   else
    k28 ()
  else
   k18 ()
  ) big ((0 : Int))
theorem en55 : Enters Try.prog 55 := enters_of Try.func55 (by kernel_rfl) rfl
theorem wk55 {gI : Gh} {wI : World} {x0 : List Int} {x1 : Int → Option Bool} {up0 : Value} (rp0 : RV gI.m wI x0 up0) {up1 : Value} (rp1 : FnV1 Try.prog x1 up1 gI wI) {r : Int} (h : f55 x0 x1 = some r) : Fn Try.prog 55 #[up0, up1] gI wI (fun _ _ v => v = .int .i64 (r)) := by
 unfold f55 at h
 refine fn_of_E Try.func55 rfl (Nat.le_of_ble_eq_true rfl) fun g0 hm hfr => ?_
 have rp0 : RV g0.m wI x0 up0 := hm ▸ rp0
 obtain ⟨ff1, fa1, fc1, rfl, fen1, fcl1⟩ := rp1
 show E _ 19 none _ _ _ _ _
 refine E_seq (E_region (EL_at (.int .i64 (0)) rfl rfl ?_))
 refine EL_nil (thn_n (E_joinC h (fun (s : Unit) e w => ∃ (g : Gh) , Fr gI wI g w) (fun X18 k18 x6 h => ?_) ?_))
 ·refine E_seq (E_region (EL_mw up0 rfl rfl ?_))
  refine EL_p (.int .i64 ((x0).length : Int)) (P_len Try.underlying22 rfl rp0) rfl ?_
  refine EL_mw (.int .i64 (0)) rfl rfl ?_
  refine EL_nil (thn_n (E_block ?_))
  refine E_lp h (fun (s : Int) e w => ∃ (g : Gh) , Fr gI wI g w ∧ e 0 = up0 ∧ RV g.m w (x0 : List Int) up0 ∧ e 1 = (.func (.func ff1) fa1 fc1) ∧ e 7 = .int .i64 (((x0).length : Int)) ∧ e 8 = .int .i64 (s)) ⟨g0, hfr, rfl, rp0, rfl, rfl, rfl⟩ (fun X19 k19 y6 => ?_)
  rintro o0 i7 n7 ⟨i5, hfr, o3, u0, u3, z3, j1⟩ h
  refine E_seq (E_region (EL_in (.bool ((decide (o0 < ((x0).length : Int))))) j1 z3 rfl rfl ?_))
  refine EL_nil (thn_n (E_seq ?_))
  rcases csome h with ⟨i3, h⟩ | ⟨i3, h⟩
  ·refine E_ct i3 rfl ?_
   refine E_skip (thn_n (E_joinC h (fun (s : Unit) e w => ∃ (g : Gh) , Fr gI wI g w ∧ e 0 = up0 ∧ RV g.m w (x0 : List Int) up0 ∧ e 1 = (.func (.func ff1) fa1 fc1) ∧ e 7 = .int .i64 (((x0).length : Int)) ∧ e 8 = .int .i64 (o0)) (fun X28 k28 a7 h => ?_) ?_))
   ·refine E_block ?_
    refine E_seq (E_region (EL_mv j1 rfl ?_))
    refine EL_at (.int .i64 (o0)) rfl rfl ?_
    refine EL_nil (thn_n (E_seq (E_region (EL_mv u3 rfl ?_))))
    refine EL_mv o3 rfl ?_
    refine EL_mw (.int .i64 (o0)) rfl rfl ?_
    obtain ⟨z4, l5, h⟩ := bsome h
    refine EL_p (ePtr up0 o0 1) (P_indexAddr (α := Int) Try.underlying22 Try.sizeOf3 rfl u0 rfl l5) rfl ?_
    have c7 := PT_idx u0 l5
    refine EL_do .plain rfl (D_load (g := i5) Try.isAgg3 Try.sizeOf3 rfl c7 fun o7 d7 => ?_)
    obtain rfl := RV_int.1 d7
    obtain ⟨v6, b7, h⟩ := bsome h
    refine EL_do .plain rfl (D_callv (g := i5) (vs := [.int .i64 (z4)]) rfl fen1 (.cons rfl .nil) (fcl1 _ _ hfr.ch _ _ _  (RV_int.2 rfl) b7) fun e7 u7 v7 hs hr => ?_)
    have hfr := hfr.ext hs
    have u0 := u0.ext hs
    obtain rfl := RV_bool.1 hr
    refine EL_nil (thn_n ?_)
    rcases csome h with ⟨j3, h⟩ | ⟨j3, h⟩
    ·refine E_ct j3 rfl ?_
     refine E_seq (E_region (EL_mw (.int .i64 (o0)) rfl rfl ?_))
     refine EL_at (.int .i64 (o0)) rfl rfl ?_
     refine EL_nil (thn_n (E_ret (blk_r ?_)))
     refine thn_r ?_
     refine thn_r ?_
     refine blk_r ?_
     refine thn_r ?_
     obtain rfl := sinj h
     exact end1 rfl rfl (show _ = .int .i64 (o0) from rfl) ⟨_, hfr, rfl⟩
    ·refine E_cf j3 rfl ?_
     exact E_skip (blk_n (thn_n (a7 () _ _ ⟨e7, hfr, o3, u0, u3, z3, j1⟩ h)))
   ·rintro _ j7 c8 ⟨g7, hfr, q5, t5, x5, i6, j6⟩ h
    refine E_region (EL_in (.int .i64 ((w64 (o0 + (1 : Int))))) j6 rfl rfl rfl ?_)
    refine EL_mw (.int .i64 ((w64 (o0 + (1 : Int))))) rfl rfl ?_
    exact EL_nil (thn_n (y6 ((w64 (o0 + (1 : Int)))) _ _ ⟨g7, hfr, q5, t5, x5, i6, rfl⟩ h))
  ·refine E_cf i3 rfl ?_
   refine E_exit ?_
   refine thn_e ?_
   refine thn_e ?_
   refine blk_hit ?_
   exact thn_n (x6 () _ _ ⟨i5, hfr⟩ h)
 ·rintro _ m7 g8 ⟨i8, hfr⟩ h
  refine E_seq (E_region (EL_at (.int .i64 (-1)) rfl rfl ?_))
  refine EL_nil (thn_n (E_ret ?_))
  obtain rfl := sinj h
  exact end1 rfl rfl (show _ = .int .i64 (-1) from rfl) ⟨_, hfr, rfl⟩
def f56 (x1 : Int) : Option ((List Int)) :=
 Option.bind (α := Unit) (
  bif (decide (x1 < (0 : Int))) then
   none
  else
   some ()
  ) fun (_ : Unit) =>
 Option.bind (α := (List Int)) (
  bif (decide ((w64 (x1 - (w64 (((0 : Nat) : Int) - ((([] : List Int)).length : Int))))) > (0 : Int))) then
   (grwz 8 ((w64 (x1 - (w64 (((0 : Nat) : Int) - ((([] : List Int)).length : Int))))))).bind fun _ =>
   some (([] : List Int))
  else
   some (([] : List Int))
  ) fun j1 =>
 some (j1)
def f62 (x0 : PayEnd) (z0 : List Int) : Option (Bool) :=
 Option.bind (α := Bool) (
  bif (x0).isDown then
   (idx z0 (x0).at_).bind fun j1 =>
   some ((decide (j1 > (0 : Int))))
  else
   some (false)
  ) fun u0 =>
 some (u0)
def f65 (x0 : Int) : Option (Bool) :=
 some ((decide (x0 > (0 : Int))))
def f66 (x0 : PayFilling) (x1 : PayStep) : Option (Int) :=
 jn (σ := Unit) (fun _ =>
  (idx ((x0).amounts) (x1).blot).bind fun o0 =>
  some ((w64 ((1000000 : Int) - o0)))
  ) fun k28 =>
 bif (x1).less then
  (idx ((x0).amounts) (x1).blot).bind fun j1 =>
  some (j1)
 else
  k28 ()
def f67 (x0 : PayEnd) (z0 : PayEnd) : Option (Bool) :=
 some ((decide (x0 = z0)))
def f68 (x0 : List Int) (x1 : Int) (x2 : Int) (x3 : Int → Int → Option Int) : Option ((List Int)) :=
 lp (σ := (List Int) × Int) (fun k1 (y6, j3) =>
  jn (σ := Unit) (fun _ =>
   Option.bind (α := (List Int)) (
    lp (σ := (List Int) × Int) (fun m8 (j1, o0) =>
     jn (σ := Unit) (fun _ =>
      Option.bind (α := (List Int)) (
       (idx j1 (w64 (o0 - (1 : Int)))).bind fun j6 =>
       (idx j1 o0).bind fun a7 =>
       (idx j1 o0).bind fun aB =>
       (idx ((List.set j1 (Int.toNat o0) j6)) (w64 (o0 - (1 : Int)))).bind fun bB =>
       some ((List.set ((List.set j1 (Int.toNat o0) j6)) (Int.toNat (w64 (o0 - (1 : Int)))) a7))
       ) fun l5 =>
      m8 (l5, (w64 (o0 - (1 : Int))))
      ) fun n8 =>
     Option.bind (α := Bool) (
      bif (decide (o0 > x1)) then
       (idx j1 o0).bind fun b7 =>
       (idx j1 (w64 (o0 - (1 : Int)))).bind fun c7 =>
       (x3 b7 c7).bind fun i6 =>
       some ((decide (i6 < (0 : Int))))
      else
       some (false)
      ) fun u3 =>
     bif u3 then
      n8 ()
     else
      some (j1)
     ) big (y6, j3)
    ) fun q5 =>
   k1 (q5, (w64 (j3 + (1 : Int))))
   ) fun k4 =>
  bif (decide (j3 < x2)) then
   k4 ()
  else
   some (y6)
  ) big (x0, (w64 (x1 + (1 : Int))))
theorem en68 : Enters Try.prog 68 := enters_of Try.func68 (by kernel_rfl) rfl
theorem wk68 {iI : Nat} {gI : Gh} {wI : World} {x0 : List Int} {x1 : Int} {x2 : Int} {x3 : Int → Int → Option Int} {up0 : Value} (mp0 : OM iI gI wI 3 x0 up0) {up3 : Value} (rp3 : FnV2 Try.prog x3 up3 gI wI) {r : (List Int)} (h : f68 x0 x1 x2 x3 = some r) : FnM Try.prog 68 #[up0, .int .i64 (x1), .int .i64 (x2), up3] iI gI wI (fun g w v => v = .tuple #[] ∧ OM iI g w 3 r up0) := by
 unfold f68 at h
 refine fnM_of_E Try.func68 rfl (Nat.le_of_ble_eq_true rfl) fun g0 hm hfr => ?_
 have oA := mp0
 replace mp0 := mp0.enter
 rw [← hm] at mp0
 replace hm : g0.m = gI.m := by rw [hm]
 obtain ⟨ff3, fa3, fc3, rfl, fen3, fcl3⟩ := rp3
 show E _ 53 none _ _ _ _ _
 refine E_seq (E_region (EL_mw (.int .i64 (x1)) rfl rfl ?_))
 refine EL_in (.int .i64 ((w64 (x1 + (1 : Int))))) rfl rfl rfl rfl ?_
 refine EL_at (.int .i64 ((w64 (x1 + (1 : Int))))) rfl rfl ?_
 refine EL_nil (thn_n (E_block ?_))
 refine E_lp h (fun (s : (List Int) × Int) e w => ∃ (g : Gh) , FrM iI gI wI g w ∧ e 0 = up0 ∧ OM 1 g w 3 (s.1 : List Int) up0 ∧ e 1 = .int .i64 (x1) ∧ e 2 = .int .i64 (x2) ∧ e 3 = (.func (.func ff3) fa3 fc3) ∧ e 8 = .int .i64 (s.2)) ⟨g0, hfr, rfl, mp0, rfl, rfl, rfl, rfl⟩ (fun X1 k1 hk1 => ?_)
 rintro ⟨y6, j3⟩ lD w2 ⟨g2, hfr, cB, o8, dB, q8, eB, r8⟩ h
 refine E_joinC h (fun (s : Unit) e w => ∃ (g : Gh) , FrM iI gI wI g w ∧ e 0 = up0 ∧ OM 1 g w 3 (y6 : List Int) up0 ∧ e 1 = .int .i64 (x1) ∧ e 2 = .int .i64 (x2) ∧ e 3 = (.func (.func ff3) fa3 fc3) ∧ e 8 = .int .i64 (j3)) (fun X4 k4 hk4 h => ?_) ?_
 ·refine E_seq (E_region (EL_mv r8 rfl ?_))
  refine EL_mv q8 rfl ?_
  refine EL_in (.bool ((decide (j3 < x2)))) rfl rfl rfl rfl ?_
  refine EL_nil (thn_n ?_)
  rcases csome h with ⟨hc5, h⟩ | ⟨hc5, h⟩
  ·refine E_ct hc5 rfl ?_
   exact E_skip (thn_n (hk4 () _ _ ⟨g2, hfr, cB, o8, dB, q8, eB, r8⟩ h))
  ·refine E_cf hc5 rfl ?_
   refine E_exit ?_
   refine thn_e ?_
   refine thn_e ?_
   refine blk_hit ?_
   obtain rfl := sinj h
   exact end0n rfl rfl ⟨_, hfr, rfl, oA.back o8⟩
 ·rintro _ mD w6 ⟨g6, hfr, iB, jB, lB, mB, nB, t8⟩ h
  obtain ⟨q5, hx, h⟩ := bsome h
  refine E_join (fun e w => ∃ (g : Gh) , FrM iI gI wI g w ∧ e 0 = up0 ∧ OM 1 g w 3 (q5 : List Int) up0 ∧ e 1 = .int .i64 (x1) ∧ e 2 = .int .i64 (x2) ∧ e 3 = (.func (.func ff3) fa3 fc3) ∧ e 8 = .int .i64 (j3)) (fun Q' hQ => ?_) (fun kC tC hR => ?_)
  ·replace h := hx
   clear hx
   refine E_block ?_
   refine E_seq (E_region (EL_mv t8 rfl ?_))
   refine EL_at (.int .i64 (j3)) rfl rfl ?_
   refine EL_nil (thn_n (E_block ?_))
   refine E_lp h (fun (s : (List Int) × Int) e w => ∃ (g : Gh) , FrM iI gI wI g w ∧ e 0 = up0 ∧ OM 1 g w 3 (s.1 : List Int) up0 ∧ e 1 = .int .i64 (x1) ∧ e 2 = .int .i64 (x2) ∧ e 3 = (.func (.func ff3) fa3 fc3) ∧ e 8 = .int .i64 (j3) ∧ e 9 = .int .i64 (s.2)) ⟨g6, hfr, iB, jB, lB, mB, nB, t8, rfl⟩ (fun X297 m8 pA => ?_)
   rintro ⟨j1, o0⟩ lC uC ⟨v8, hfr, t5, i3, x5, e7, v6, g7, z3⟩ h
   refine E_joinC h (fun (s : Unit) e w => ∃ (g : Gh) , FrM iI gI wI g w ∧ e 0 = up0 ∧ OM 1 g w 3 (j1 : List Int) up0 ∧ e 1 = .int .i64 (x1) ∧ e 2 = .int .i64 (x2) ∧ e 3 = (.func (.func ff3) fa3 fc3) ∧ e 8 = .int .i64 (j3) ∧ e 9 = .int .i64 (o0)) (fun X411 n8 qA h => ?_) ?_
   ·obtain ⟨u3, hx, h⟩ := bsome h
    refine E_join (fun e w => ∃ (g : Gh) , FrM iI gI wI g w ∧ e 0 = up0 ∧ OM 1 g w 3 (j1 : List Int) up0 ∧ e 1 = .int .i64 (x1) ∧ e 2 = .int .i64 (x2) ∧ e 3 = (.func (.func ff3) fa3 fc3) ∧ e 8 = .int .i64 (j3) ∧ e 9 = .int .i64 (o0) ∧ e 34 = .bool (u3)) (fun Q' hQ => ?_) (fun mC vC hR => ?_)
    ·replace h := hx
     clear hx
     rcases csome h with ⟨u0, h⟩ | ⟨u0, h⟩
     ·obtain ⟨b7, v7, h⟩ := bsome h
      refine L_loadM (x := .tmp 25) Try.isAgg3 Try.sizeOf3 i3 v7 fun xC oB rA => ?_
      obtain rfl := RV_int.1 oB
      obtain ⟨c7, c8, h⟩ := bsome h
      refine L_loadM (x := .tmp 30) Try.isAgg3 Try.sizeOf3 i3 c8 fun yC tB uA => ?_
      obtain rfl := RV_int.1 tB
      obtain ⟨i6, xA, h⟩ := bsome h
      refine E_drawL (g := v8) (n := 17) [(14, (fun v g w => v = .int .i64 (i6)))] [0, 1, 2, 3, 4, 5, 6, 7, 8, 9, 10, 11, 12, 13, 14, 15, 16] rfl mixed (by kernel_rfl) (⟨fun _ => up_eq _, trivial⟩) ?_
      refine L_p (.int .i64 (o0)) rfl rfl (P_move z3) ?_
      refine L_p (.int .i64 (x1)) rfl rfl (P_move x5) ?_
      refine L_p (.bool ((decide (o0 > x1)))) rfl rfl (P_int rfl rfl rfl) ?_
      refine L_p (.bool ((decide (o0 > x1)))) rfl rfl (P_move rfl) ?_
      refine L_y ((.func (.func ff3) fa3 fc3)) rfl rfl rfl rfl u0 (P_move v6) ?_
      refine L_y up0 rfl rfl rfl rfl u0 (P_move t5) ?_
      refine L_y (.int .i64 (o0)) rfl rfl rfl rfl u0 (P_move z3) ?_
      refine L_y (ePtr up0 o0 1) rfl rfl rfl rfl u0 (P_indexAddrM (α := Int) Try.underlying22 Try.sizeOf3 rfl i3 rfl v7) ?_
      refine L_ld (c := .int .i64 (b7)) rfl rfl (.yes2 rfl rfl u0) (fun _ _ h => ⟨h.ch, fun b hb _ => h.below.block b hb⟩) rA rfl ?_
      refine L_y up0 rfl rfl rfl rfl u0 (P_move t5) ?_
      refine L_y (.int .i64 (o0)) rfl rfl rfl rfl u0 (P_move z3) ?_
      refine L_y (.int .i64 ((w64 (o0 - (1 : Int))))) rfl rfl rfl rfl u0 (P_int rfl rfl rfl) ?_
      refine L_y (ePtr up0 (w64 (o0 - (1 : Int))) 1) rfl rfl rfl rfl u0 (P_indexAddrM (α := Int) Try.underlying22 Try.sizeOf3 rfl i3 rfl c8) ?_
      refine L_ld (c := .int .i64 (c7)) rfl rfl (.yes2 rfl rfl u0) (fun _ _ h => ⟨h.ch, fun b hb _ => h.below.block b hb⟩) uA rfl ?_
      refine L_do (φ := fun v g w => v = .int .i64 (i6)) rfl rfl (.yes2 rfl rfl u0) (fun g w hd => D_callv (g := g) (vs := [.int .i64 (b7), .int .i64 (c7)]) rfl fen3 (.cons rfl (.cons rfl .nil)) (fcl3 _ _ (hfr.ext hd.1).ch _ _ _ _ _  (RV_int.2 rfl) (RV_int.2 rfl) xA) fun g' w' v hs hr => ⟨g', hs, RV_int.1 hr⟩) (fun aD hv => ?_)
      obtain ⟨_, _, _, rfl⟩ := hv
      refine L_y (.bool ((decide (i6 < (0 : Int))))) rfl rfl rfl rfl u0 (P_int rfl rfl rfl) ?_
      refine L_p (.bool ((decide (i6 < (0 : Int))))) rfl rfl (P_pick (b := (decide (o0 > x1))) rfl (pick_t u0 rfl)) ?_
      refine L_nl fun vB bD hs => ?_
      have hfr := hfr.ext hs
      have i3 := i3.ext hs
      clear hs
      refine EL_nil ?_
      obtain rfl := sinj h
      exact hQ _ _ ⟨vB, hfr, t5, i3, x5, e7, v6, g7, z3, rfl⟩
     ·refine E_drawL (g := v8) (n := 17) [] [0, 1, 2, 3, 4, 5, 6, 7, 8, 9, 10, 11, 12, 13, 14, 15, 16] rfl mixed (by kernel_rfl) trivial ?_
      refine L_p (.int .i64 (o0)) rfl rfl (P_move z3) ?_
      refine L_p (.int .i64 (x1)) rfl rfl (P_move x5) ?_
      refine L_p (.bool ((decide (o0 > x1)))) rfl rfl (P_int rfl rfl rfl) ?_
      refine L_p (.bool ((decide (o0 > x1)))) rfl rfl (P_move rfl) ?_
      iterate 12 refine L_s rfl rfl rfl u0 rfl ?_
      refine L_p (.bool false) rfl rfl (P_pick (b := (decide (o0 > x1))) rfl (pick_f u0 rfl)) ?_
      refine L_nl fun xB cD hs => ?_
      have hfr := hfr.ext hs
      have i3 := i3.ext hs
      clear hs
      refine EL_nil ?_
      obtain rfl := sinj h
      exact hQ _ _ ⟨xB, hfr, t5, i3, x5, e7, v6, g7, z3, rfl⟩
    ·clear hx
     obtain ⟨x8, hfr, i7, j7, m7, n7, o7, u7, y8, x6⟩ := hR
     rcases csome h with ⟨d7, h⟩ | ⟨d7, h⟩
     ·refine E_cond_true (Eq.trans (show ev _ _ = .bool (u3) from x6) (congrArg Value.bool d7)) ?_
      exact E_skip (thn_n (qA () _ _ ⟨x8, hfr, i7, j7, m7, n7, o7, u7, y8⟩ h))
     ·refine E_cond_false (Eq.trans (show ev _ _ = .bool (u3) from x6) (congrArg Value.bool d7)) ?_
      refine E_exit ?_
      refine thn_e ?_
      refine thn_e ?_
      refine blk_hit ?_
      refine blk_n ?_
      obtain rfl := sinj h
      exact hQ _ _ ⟨x8, hfr, i7, j7, m7, n7, o7, u7⟩
   ·rintro _ qC yB ⟨a9, hfr, z4, o3, d9, e9, i9, k9, i5⟩ h
    obtain ⟨l5, hx, h⟩ := bsome h
    refine E_join (fun e w => ∃ (g : Gh) , FrM iI gI wI g w ∧ e 0 = up0 ∧ OM 1 g w 3 (l5 : List Int) up0 ∧ e 1 = .int .i64 (x1) ∧ e 2 = .int .i64 (x2) ∧ e 3 = (.func (.func ff3) fa3 fc3) ∧ e 8 = .int .i64 (j3) ∧ e 9 = .int .i64 (o0)) (fun Q' hQ => ?_) (fun rC eD hR => ?_)
    ·replace h := hx
     clear hx
     refine E_block ?_
     obtain ⟨j6, g8, h⟩ := bsome h
     refine L_loadM (x := .tmp 45) Try.isAgg3 Try.sizeOf3 o3 g8 fun gD zB yA => ?_
     obtain rfl := RV_int.1 zB
     obtain ⟨a7, i8, h⟩ := bsome h
     refine L_loadM (x := .tmp 49) Try.isAgg3 Try.sizeOf3 o3 i8 fun iD aC zA => ?_
     obtain rfl := RV_int.1 aC
     obtain ⟨aB, k8, h⟩ := bsome h
     refine E_drawTL (g := a9) (n := 15) [2, 3, 4] [] [0, 1, 2, 3, 4, 5, 6, 7, 8, 9, 10, 11, 12, 13, 14] rfl mixed (by kernel_rfl) trivial rfl ?_
     refine L_p up0 rfl rfl (P_move z4) ?_
     refine L_p (.int .i64 (o0)) rfl rfl (P_move i5) ?_
     refine L_purL (c := up0) rfl rfl .plain (P_move z4) ?_
     refine L_purL (c := .int .i64 (o0)) rfl rfl .plain (P_move i5) ?_
     refine L_purL (c := .int .i64 ((w64 (o0 - (1 : Int))))) rfl rfl .plain (P_int rfl rfl rfl) ?_
     refine L_p up0 rfl rfl (P_move z4) ?_
     refine L_p (.int .i64 (o0)) rfl rfl (P_move i5) ?_
     refine L_p (.int .i64 ((w64 (o0 - (1 : Int))))) rfl rfl (P_int rfl rfl rfl) ?_
     refine L_p (ePtr up0 (w64 (o0 - (1 : Int))) 1) rfl rfl (P_indexAddrM (α := Int) Try.underlying22 Try.sizeOf3 rfl o3 rfl g8) ?_
     refine L_ld (c := .int .i64 (j6)) rfl rfl .plain (fun _ _ h => ⟨h.ch, fun b hb _ => h.below.block b hb⟩) yA rfl ?_
     refine L_p up0 rfl rfl (P_move z4) ?_
     refine L_p (.int .i64 (o0)) rfl rfl (P_move i5) ?_
     refine L_p (ePtr up0 o0 1) rfl rfl (P_indexAddrM (α := Int) Try.underlying22 Try.sizeOf3 rfl o3 rfl i8) ?_
     refine L_ld (c := .int .i64 (a7)) rfl rfl .plain (fun _ _ h => ⟨h.ch, fun b hb _ => h.below.block b hb⟩) zA rfl ?_
     refine L_p (ePtr up0 o0 1) rfl rfl (P_indexAddrM (α := Int) Try.underlying22 Try.sizeOf3 rfl o3 rfl k8) ?_
     refine L_nl fun l9 cC hs => ?_
     have hlt : Lt a9.m yB l9 cC := hs.ch
     have hfr := hfr.ext hs
     have o3 := o3.ext hs
     clear hs
     refine TL_do hlt.w .plain rfl (D_storeM (g := l9) (α := Int) (a' := j6) Try.sizeOf3 rfl o3 k8 rfl (RV_int.2 rfl) fun dC jD hs b582 => ?_)
     have hfr := hfr.stp hs
     have hlt := hlt.stp hs
     obtain ⟨bB, l8, h⟩ := bsome h
     refine TL_pur hlt.w (v := ePtr up0 (w64 (o0 - (1 : Int))) 1) (P_indexAddrM (α := Int) Try.underlying22 Try.sizeOf3 rfl b582 rfl l8) .plain rfl ?_
     refine TL_do hlt.w .plain rfl (D_storeM (g := dC) (α := Int) (a' := a7) Try.sizeOf3 rfl b582 l8 rfl (RV_int.2 rfl) fun eC kD hs b584 => ?_)
     have hfr := hfr.stp hs
     have hlt := hlt.stp hs
     refine TL_nil hlt.w ?_
     clear hlt
     refine blk_n ?_
     obtain rfl := sinj h
     exact hQ _ _ ⟨eC, hfr, z4, b584, d9, e9, i9, k9, i5⟩
    ·clear hx
     obtain ⟨iC, hfr, n9, o9, t9, u9, y9, z9, bA⟩ := hR
     refine E_region (EL_mv bA rfl ?_)
     refine EL_in (.int .i64 ((w64 (o0 - (1 : Int))))) rfl rfl rfl rfl ?_
     refine EL_at (.int .i64 ((w64 (o0 - (1 : Int))))) rfl rfl ?_
     exact EL_nil (thn_n (pA (l5, (w64 (o0 - (1 : Int)))) _ _ ⟨iC, hfr, n9, o9, t9, u9, y9, z9, rfl⟩ h))
  ·clear hx
   obtain ⟨jC, hfr, gA, iA, jA, lA, mA, nA⟩ := hR
   refine E_region (EL_mv nA rfl ?_)
   refine EL_in (.int .i64 ((w64 (j3 + (1 : Int))))) rfl rfl rfl rfl ?_
   refine EL_at (.int .i64 ((w64 (j3 + (1 : Int))))) rfl rfl ?_
   exact EL_nil (thn_n (hk1 (q5, (w64 (j3 + (1 : Int)))) _ _ ⟨jC, hfr, gA, iA, jA, lA, mA, rfl⟩ h))
def f71 (x0 : List PayRate) (x1 : Int) (x2 : PayRate → Int → Option Int) : Option (Int × Bool) :=
 Option.bind (α := Int) (
  lp (σ := Int × Int) (fun j7 (i3, u0) =>
   jn (σ := Unit) (fun _ =>
    (shr64 (wu64 (w64 (i3 + u0))) (1 : Int)).bind fun j3 =>
    (idx x0 (w64 j3)).bind fun n8 =>
    (x2 n8 x1).bind fun m7 =>
    bif (decide (m7 < (0 : Int))) then
     j7 ((w64 ((w64 j3) + (1 : Int))), u0)
    else
     j7 (i3, (w64 j3))
    ) fun o8 =>
   bif (decide (i3 < u0)) then
    o8 ()
   else
    some (i3)
   ) big ((0 : Int), ((x0).length : Int))
  ) fun o0 =>
 Option.bind (α := Int × Bool) (
  bif (decide (o0 < ((x0).length : Int))) then
   (idx x0 o0).bind fun q8 =>
   (x2 q8 x1).bind fun x5 =>
   some (o0, (x5 == (0 : Int)))
  else
   some (o0, false)
  ) fun (u3, z3) =>
 some (u3, z3)
def f73 (x1 : It Int) : Option ((List Int)) :=
 Option.bind (α := (List Int)) (
  (x1 ((List Int)) (fun o3 i3 =>
   (apnd 8 o3 (([i3] : List Int))).bind fun i5 =>
   some (true, (i5))
   ) ((([] : List Int) : List Int))).bind fun u3 =>
  some (u3)
  ) fun j3 =>
 some (j3)
def f77 (x0 : List Int) : Option (Bool) :=
 some ((decide (((x0).length : Int) > (6 : Int))))
def f78 (x0 : List Int) (z0 : PaySheet) : Option (Bool) :=
 some ((((x0).length : Int) != ((((z0).PayTable).Down).length : Int)))
def f84 (x0 : List Int) : Option ((List Int)) :=
 jn (σ := Unit) (fun _ =>
  jn (σ := Unit) (fun _ =>
   some (x0)
   ) fun k53 =>
  lp (σ := Int) (fun k54 o0 =>
   jn (σ := Unit) (fun _ =>
    jn (σ := Int) (fun j1 =>
     k54 ((w64 (j1 + (1 : Int))))
     ) fun a7 =>
    (idx x0 o0).bind fun i5 =>
    (idx x0 (w64 (o0 - (1 : Int)))).bind fun l5 =>
    bif (i5 == l5) then
     none
    else
     a7 (o0)
    ) fun k57 =>
   bif (decide (o0 < ((x0).length : Int))) then
    k57 ()
   else
    k53 ()
   ) big ((1 : Int))
  ) fun k2 =>
 bif (decide (((x0).length : Int) < (2 : Int))) then
  some (x0)
 else
  k2 ()
def f89 (x0 : List Int) (x1 : Int) (x2 : Int) : Option ((List Int)) :=
 lp (σ := (List Int) × Int × Int) (fun k1 (j1, o0, u0) =>
  jn (σ := Unit) (fun _ =>
   (idx j1 u0).bind fun y7 =>
   (idx j1 o0).bind fun y9 =>
   (idx j1 o0).bind fun y11 =>
   (idx ((List.set j1 (Int.toNat o0) y7)) u0).bind fun y6 =>
   k1 ((List.set ((List.set j1 (Int.toNat o0) y7)) (Int.toNat u0) y9), (w64 (o0 + (1 : Int))), (w64 (u0 - (1 : Int))))
   ) fun k4 =>
  bif (decide (o0 < u0)) then
   k4 ()
  else
   some (j1)
  ) big (x0, x1, (w64 (x2 - (1 : Int))))
def f91 (x0 : Int) (x1 : Int) : Option (Bool) :=
 Option.bind (α := Bool) (
  (f44 x0).bind fun y8 =>
  bif y8 then
   (f44 x1).bind fun y11 =>
   bif (!y11) then
    some (true)
   else
    some ((decide (x0 < x1)))
  else
   some ((decide (x0 < x1)))
  ) fun j1 =>
 some (j1)
def f92 (x0 : List Int) (x1 : Int) (x2 : Int) (x3 : Int) : Option (Int × (List Int)) :=
 (idx x0 x3).bind fun y1 =>
 (idx x0 x1).bind fun y3 =>
 (idx x0 x1).bind fun y5 =>
 (idx ((List.set x0 (Int.toNat x1) y1)) x3).bind fun oE =>
 Option.bind (α := (List Int) × Int) (
  lp (σ := (List Int) × Int × Int) (fun jC (j3, o9, o3) =>
   Option.bind (α := Int) (
    lp (σ := Int) (fun oA j1 =>
     jn (σ := Unit) (fun _ =>
      oA ((w64 (j1 + (1 : Int))))
      ) fun pA =>
     Option.bind (α := Bool) (
      bif (decide (j1 ≤ o3)) then
       (idx j3 x1).bind fun v7 =>
       (idx j3 j1).bind fun c8 =>
       (f91 v7 c8).bind fun y6 =>
       some ((!y6))
      else
       some (false)
      ) fun q5 =>
     bif q5 then
      pA ()
     else
      some (j1)
     ) big (o9)
    ) fun o0 =>
   Option.bind (α := Int) (
    lp (σ := Int) (fun qA u0 =>
     jn (σ := Unit) (fun _ =>
      qA ((w64 (u0 - (1 : Int))))
      ) fun rA =>
     Option.bind (α := Bool) (
      bif (decide (o0 ≤ u0)) then
       (idx j3 x1).bind fun g8 =>
       (idx j3 u0).bind fun i8 =>
       (f91 g8 i8).bind fun g7 =>
       some (g7)
      else
       some (false)
      ) fun t5 =>
     bif t5 then
      rA ()
     else
      some (u0)
     ) big (o3)
    ) fun i3 =>
   jn (σ := Unit) (fun _ =>
    (idx j3 i3).bind fun a7 =>
    (idx j3 o0).bind fun i7 =>
    (idx j3 o0).bind fun lD =>
    (idx ((List.set j3 (Int.toNat o0) a7)) i3).bind fun mD =>
    jC ((List.set ((List.set j3 (Int.toNat o0) a7)) (Int.toNat i3) i7), (w64 (o0 + (1 : Int))), (w64 (i3 - (1 : Int))))
    ) fun uA =>
   bif (decide (o0 > i3)) then
    some (j3, o0)
   else
    uA ()
   ) big ((List.set ((List.set x0 (Int.toNat x1) y1)) (Int.toNat x3) y3), (w64 (x1 + (1 : Int))), (w64 (x2 - (1 : Int))))
  ) fun (j7, i6) =>
 some (i6, j7)
def f93 (x0 : List Int) (x1 : Int) (x2 : Int) (x3 : Int) : Option (Int × Bool × (List Int)) :=
 (idx x0 x3).bind fun y1 =>
 (idx x0 x1).bind fun y3 =>
 (idx x0 x1).bind fun y5 =>
 (idx ((List.set x0 (Int.toNat x1) y1)) x3).bind fun cM =>
 Option.bind (α := Int) (
  lp (σ := Int) (fun xG z3 =>
   jn (σ := Unit) (fun _ =>
    xG ((w64 (z3 + (1 : Int))))
    ) fun yG =>
   Option.bind (α := Bool) (
    bif (decide (z3 ≤ (w64 (x2 - (1 : Int))))) then
     (idx ((List.set ((List.set x0 (Int.toNat x1) y1)) (Int.toNat x3) y3)) z3).bind fun rC =>
     (idx ((List.set ((List.set x0 (Int.toNat x1) y1)) (Int.toNat x3) y3)) x1).bind fun tC =>
     (f91 rC tC).bind fun qA =>
     some (qA)
    else
     some (false)
    ) fun n7 =>
   bif n7 then
    yG ()
   else
    some (z3)
   ) big ((w64 (x1 + (1 : Int))))
  ) fun u0 =>
 Option.bind (α := Int) (
  lp (σ := Int) (fun zG z4 =>
   jn (σ := Unit) (fun _ =>
    zG ((w64 (z4 - (1 : Int))))
    ) fun aH =>
   Option.bind (α := Bool) (
    bif (decide (u0 ≤ z4)) then
     (idx ((List.set ((List.set x0 (Int.toNat x1) y1)) (Int.toNat x3) y3)) z4).bind fun uC =>
     (idx ((List.set ((List.set x0 (Int.toNat x1) y1)) (Int.toNat x3) y3)) x1).bind fun vC =>
     (f91 uC vC).bind fun u9 =>
     some ((!u9))
    else
     some (false)
    ) fun o7 =>
   bif o7 then
    aH ()
   else
    some (z4)
   ) big ((w64 (x2 - (1 : Int))))
  ) fun j1 =>
 jn (σ := (List Int)) (fun u7 =>
  (idx u7 j1).bind fun rA =>
  (idx u7 u0).bind fun xC =>
  (idx u7 u0).bind fun xK =>
  (idx ((List.set u7 (Int.toNat u0) rA)) j1).bind fun yK =>
  Option.bind (α := (List Int) × Int) (
   lp (σ := (List Int) × Int × Int) (fun nE (o3, uA, i5) =>
    Option.bind (α := Int) (
     lp (σ := Int) (fun oE i3 =>
      jn (σ := Unit) (fun _ =>
       oE ((w64 (i3 + (1 : Int))))
       ) fun rE =>
      Option.bind (α := Bool) (
       bif (decide (i3 ≤ i5)) then
        (idx o3 i3).bind fun lA =>
        (idx o3 x1).bind fun mA =>
        (f91 lA mA).bind fun k9 =>
        some (k9)
       else
        some (false)
       ) fun e7 =>
      bif e7 then
       rE ()
      else
       some (i3)
      ) big (uA)
     ) fun o0 =>
    Option.bind (α := Int) (
     lp (σ := Int) (fun sE j3 =>
      jn (σ := Unit) (fun _ =>
       sE ((w64 (j3 - (1 : Int))))
       ) fun tE =>
      Option.bind (α := Bool) (
       bif (decide (o0 ≤ j3)) then
        (idx o3 j3).bind fun nA =>
        (idx o3 x1).bind fun oA =>
        (f91 nA oA).bind fun o8 =>
        some ((!o8))
       else
        some (false)
       ) fun g7 =>
      bif g7 then
       tE ()
      else
       some (j3)
      ) big (i5)
     ) fun u3 =>
    jn (σ := Unit) (fun _ =>
     (idx o3 u3).bind fun q8 =>
     (idx o3 o0).bind fun l9 =>
     (idx o3 o0).bind fun vI =>
     (idx ((List.set o3 (Int.toNat o0) q8)) u3).bind fun xI =>
     nE ((List.set ((List.set o3 (Int.toNat o0) q8)) (Int.toNat u3) l9), (w64 (o0 + (1 : Int))), (w64 (u3 - (1 : Int))))
     ) fun uE =>
    bif (decide (o0 > u3)) then
     some (o3, u3)
    else
     uE ()
    ) big ((List.set ((List.set u7 (Int.toNat u0) rA)) (Int.toNat j1) xC), (w64 (u0 + (1 : Int))), (w64 (j1 - (1 : Int))))
   ) fun (d7, l5) =>
  (idx d7 x1).bind fun n9 =>
  (idx d7 l5).bind fun pA =>
  (idx d7 l5).bind fun yI =>
  (idx ((List.set d7 (Int.toNat l5) n9)) x1).bind fun zI =>
  some (l5, false, (List.set ((List.set d7 (Int.toNat l5) n9)) (Int.toNat x1) pA))
  ) fun bH =>
 bif (decide (u0 > j1)) then
  (idx ((List.set ((List.set x0 (Int.toNat x1) y1)) (Int.toNat x3) y3)) x1).bind fun xA =>
  (idx ((List.set ((List.set x0 (Int.toNat x1) y1)) (Int.toNat x3) y3)) j1).bind fun yC =>
  (idx ((List.set ((List.set x0 (Int.toNat x1) y1)) (Int.toNat x3) y3)) j1).bind fun zK =>
  (idx ((List.set ((List.set ((List.set x0 (Int.toNat x1) y1)) (Int.toNat x3) y3)) (Int.toNat j1) xA)) x1).bind fun aL =>
  some (j1, true, (List.set ((List.set ((List.set ((List.set x0 (Int.toNat x1) y1)) (Int.toNat x3) y3)) (Int.toNat j1) xA)) (Int.toNat x1) yC))
 else
  bH ((List.set ((List.set x0 (Int.toNat x1) y1)) (Int.toNat x3) y3))
def f96 (x0 : List (List Int)) (x1 : (List Int) → Option Bool) : Option (Int) :=
 jn (σ := Unit) (fun _ =>
  some ((-1 : Int))
  ) fun k18 =>
 lp (σ := Int) (fun k19 o0 =>
  bif (decide (o0 < ((x0).length : Int))) then
   jn (σ := Unit) (fun _ =>
    k19 ((w64 (o0 + (1 : Int))))
    ) fun k28 =>
   (idx x0 o0).bind fun j6 =>
   (x1 j6).bind fun v6 =>
   bif v6 then
    some (o0)
   else
    k28 ()
  else
   k18 ()
  ) big ((0 : Int))
def f98 (x0 : List Int) (x1 : Int) (x2 : Int) (x3 : Int) (x4 : Int → Int → Option Int) : Option ((List Int)) :=
 lp (σ := (List Int) × Int) (fun k1 (u0, o0) =>
  jn (σ := Unit) (fun _ =>
   Option.bind (α := (List Int)) (
    (idx u0 (w64 (x2 + o0))).bind fun u3 =>
    (idx u0 (w64 (x1 + o0))).bind fun y44 =>
    (idx u0 (w64 (x1 + o0))).bind fun u7 =>
    (idx ((List.set u0 (Int.toNat (w64 (x1 + o0))) u3)) (w64 (x2 + o0))).bind fun v7 =>
    some ((List.set ((List.set u0 (Int.toNat (w64 (x1 + o0))) u3)) (Int.toNat (w64 (x2 + o0))) y44))
    ) fun j3 =>
   k1 (j3, (w64 (o0 + (1 : Int))))
   ) fun k4 =>
  bif (decide (o0 < x3)) then
   k4 ()
  else
   some (u0)
  ) big (x0, (0 : Int))
theorem en98 : Enters Try.prog 98 := enters_of Try.func98 (by kernel_rfl) rfl
theorem wk98 {iI : Nat} {gI : Gh} {wI : World} {x0 : List Int} {x1 : Int} {x2 : Int} {x3 : Int} {x4 : Int → Int → Option Int} {up0 : Value} (mp0 : OM iI gI wI 3 x0 up0) {up4 : Value} (rp4 : FnV2 Try.prog x4 up4 gI wI) {r : (List Int)} (h : f98 x0 x1 x2 x3 x4 = some r) : FnM Try.prog 98 #[up0, .int .i64 (x1), .int .i64 (x2), .int .i64 (x3), up4] iI gI wI (fun g w v => v = .tuple #[] ∧ OM iI g w 3 r up0) := by
 unfold f98 at h
 refine fnM_of_E Try.func98 rfl (Nat.le_of_ble_eq_true rfl) fun g0 hm hfr => ?_
 have x6 := mp0
 replace mp0 := mp0.enter
 rw [← hm] at mp0
 replace hm : g0.m = gI.m := by rw [hm]
 obtain ⟨ff4, fa4, fc4, rfl, fen4, fcl4⟩ := rp4
 show E _ 38 none _ _ _ _ _
 refine E_seq (E_region (EL_at (.int .i64 (0)) rfl rfl ?_))
 refine EL_nil (thn_n (E_block ?_))
 refine E_lp h (fun (s : (List Int) × Int) e w => ∃ (g : Gh) , FrM iI gI wI g w ∧ e 0 = up0 ∧ OM 1 g w 3 (s.1 : List Int) up0 ∧ e 1 = .int .i64 (x1) ∧ e 2 = .int .i64 (x2) ∧ e 3 = .int .i64 (x3) ∧ e 10 = .int .i64 (s.2)) ⟨g0, hfr, rfl, mp0, rfl, rfl, rfl, rfl⟩ (fun X1 k1 hk1 => ?_)
 rintro ⟨u0, o0⟩ o8 w2 ⟨g2, hfr, g7, l5, i7, j7, q5, i5⟩ h
 refine E_joinC h (fun (s : Unit) e w => ∃ (g : Gh) , FrM iI gI wI g w ∧ e 0 = up0 ∧ OM 1 g w 3 (u0 : List Int) up0 ∧ e 1 = .int .i64 (x1) ∧ e 2 = .int .i64 (x2) ∧ e 3 = .int .i64 (x3) ∧ e 10 = .int .i64 (o0)) (fun X4 k4 hk4 h => ?_) ?_
 ·refine E_seq (E_region (EL_mv i5 rfl ?_))
  refine EL_mv q5 rfl ?_
  refine EL_in (.bool ((decide (o0 < x3)))) rfl rfl rfl rfl ?_
  refine EL_nil (thn_n ?_)
  rcases csome h with ⟨hc5, h⟩ | ⟨hc5, h⟩
  ·refine E_ct hc5 rfl ?_
   exact E_skip (thn_n (hk4 () _ _ ⟨g2, hfr, g7, l5, i7, j7, q5, i5⟩ h))
  ·refine E_cf hc5 rfl ?_
   refine E_exit ?_
   refine thn_e ?_
   refine thn_e ?_
   refine blk_hit ?_
   obtain rfl := sinj h
   exact end0n rfl rfl ⟨_, hfr, rfl, x6.back l5⟩
 ·rintro _ q8 w6 ⟨g6, hfr, o3, j1, z3, z4, m7, i3⟩ h
  obtain ⟨j3, hx, h⟩ := bsome h
  refine E_join (fun e w => ∃ (g : Gh) , FrM iI gI wI g w ∧ e 0 = up0 ∧ OM 1 g w 3 (j3 : List Int) up0 ∧ e 1 = .int .i64 (x1) ∧ e 2 = .int .i64 (x2) ∧ e 3 = .int .i64 (x3) ∧ e 10 = .int .i64 (o0)) (fun Q' hQ => ?_) (fun n8 r8 hR => ?_)
  ·replace h := hx
   clear hx
   refine E_block ?_
   obtain ⟨u3, t5, h⟩ := bsome h
   refine L_loadM (x := .tmp 28) Try.isAgg3 Try.sizeOf3 j1 t5 fun t8 c8 n7 => ?_
   obtain rfl := RV_int.1 c8
   obtain ⟨y44, x5, h⟩ := bsome h
   refine L_loadM (x := .tmp 34) Try.isAgg3 Try.sizeOf3 j1 x5 fun v8 g8 o7 => ?_
   obtain rfl := RV_int.1 g8
   obtain ⟨u7, i6, h⟩ := bsome h
   refine E_drawTL (g := g6) (n := 21) [4, 5, 6, 7] [] [0, 1, 2, 3, 4, 5, 6, 7, 8, 9, 10, 11, 12, 13, 14, 15, 16, 17, 18, 19, 20] rfl mixed (by kernel_rfl) trivial rfl ?_
   refine L_p up0 rfl rfl (P_move o3) ?_
   refine L_p (.int .i64 (x1)) rfl rfl (P_move z3) ?_
   refine L_p (.int .i64 (o0)) rfl rfl (P_move i3) ?_
   refine L_p (.int .i64 ((w64 (x1 + o0)))) rfl rfl (P_int rfl rfl rfl) ?_
   refine L_purL (c := up0) rfl rfl .plain (P_move o3) ?_
   refine L_purL (c := .int .i64 (x2)) rfl rfl .plain (P_move z4) ?_
   refine L_purL (c := .int .i64 (o0)) rfl rfl .plain (P_move i3) ?_
   refine L_purL (c := .int .i64 ((w64 (x2 + o0)))) rfl rfl .plain (P_int rfl rfl rfl) ?_
   refine L_p up0 rfl rfl (P_move o3) ?_
   refine L_p (.int .i64 (x2)) rfl rfl (P_move z4) ?_
   refine L_p (.int .i64 (o0)) rfl rfl (P_move i3) ?_
   refine L_p (.int .i64 ((w64 (x2 + o0)))) rfl rfl (P_int rfl rfl rfl) ?_
   refine L_p (ePtr up0 (w64 (x2 + o0)) 1) rfl rfl (P_indexAddrM (α := Int) Try.underlying22 Try.sizeOf3 rfl j1 rfl t5) ?_
   refine L_ld (c := .int .i64 (u3)) rfl rfl .plain (fun _ _ h => ⟨h.ch, fun b hb _ => h.below.block b hb⟩) n7 rfl ?_
   refine L_p up0 rfl rfl (P_move o3) ?_
   refine L_p (.int .i64 (x1)) rfl rfl (P_move z3) ?_
   refine L_p (.int .i64 (o0)) rfl rfl (P_move i3) ?_
   refine L_p (.int .i64 ((w64 (x1 + o0)))) rfl rfl (P_int rfl rfl rfl) ?_
   refine L_p (ePtr up0 (w64 (x1 + o0)) 1) rfl rfl (P_indexAddrM (α := Int) Try.underlying22 Try.sizeOf3 rfl j1 rfl x5) ?_
   refine L_ld (c := .int .i64 (y44)) rfl rfl .plain (fun _ _ h => ⟨h.ch, fun b hb _ => h.below.block b hb⟩) o7 rfl ?_
   refine L_p (ePtr up0 (w64 (x1 + o0)) 1) rfl rfl (P_indexAddrM (α := Int) Try.underlying22 Try.sizeOf3 rfl j1 rfl i6) ?_
   refine L_nl fun e7 i8 hs => ?_
   have hlt : Lt g6.m w6 e7 i8 := hs.ch
   have hfr := hfr.ext hs
   have j1 := j1.ext hs
   clear hs
   refine TL_do hlt.w .plain rfl (D_storeM (g := e7) (α := Int) (a' := u3) Try.sizeOf3 rfl j1 i6 rfl (RV_int.2 rfl) fun k8 x8 hs b75 => ?_)
   have hfr := hfr.stp hs
   have hlt := hlt.stp hs
   obtain ⟨v7, j6, h⟩ := bsome h
   refine TL_pur hlt.w (v := ePtr up0 (w64 (x2 + o0)) 1) (P_indexAddrM (α := Int) Try.underlying22 Try.sizeOf3 rfl b75 rfl j6) .plain rfl ?_
   refine TL_do hlt.w .plain rfl (D_storeM (g := k8) (α := Int) (a' := y44) Try.sizeOf3 rfl b75 j6 rfl (RV_int.2 rfl) fun l8 y8 hs b77 => ?_)
   have hfr := hfr.stp hs
   have hlt := hlt.stp hs
   refine TL_nil hlt.w ?_
   clear hlt
   refine blk_n ?_
   obtain rfl := sinj h
   exact hQ _ _ ⟨l8, hfr, o3, b77, z3, z4, m7, i3⟩
  ·clear hx
   obtain ⟨m8, hfr, y6, a7, b7, c7, d7, v6⟩ := hR
   refine E_region (EL_mv v6 rfl ?_)
   refine EL_in (.int .i64 ((w64 (o0 + (1 : Int))))) rfl rfl rfl rfl ?_
   refine EL_at (.int .i64 ((w64 (o0 + (1 : Int))))) rfl rfl ?_
   exact EL_nil (thn_n (hk1 (j3, (w64 (o0 + (1 : Int)))) _ _ ⟨m8, hfr, y6, a7, b7, c7, d7, rfl⟩ h))
def f99 (x0 : List Int) (x1 : Int) (x2 : Int) (x3 : Int) : Option ((List Int)) :=
 lp (σ := (List Int) × Int) (fun k1 (i3, o0) =>
  jn (σ := Unit) (fun _ =>
   Option.bind (α := Int) (
    Option.bind (α := Bool) (
     bif (decide ((w64 ((w64 ((w64 ((2 : Int) * o0)) + (1 : Int))) + (1 : Int))) < x2)) then
      (idx i3 (w64 (x3 + (w64 ((w64 ((2 : Int) * o0)) + (1 : Int)))))).bind fun a7 =>
      (idx i3 (w64 ((w64 (x3 + (w64 ((w64 ((2 : Int) * o0)) + (1 : Int))))) + (1 : Int)))).bind fun b7 =>
      (f91 a7 b7).bind fun t5 =>
      some (t5)
     else
      some (false)
     ) fun z3 =>
    bif z3 then
     some ((w64 ((w64 ((w64 ((2 : Int) * o0)) + (1 : Int))) + (1 : Int))))
    else
     some ((w64 ((w64 ((2 : Int) * o0)) + (1 : Int))))
    ) fun u0 =>
   jn (σ := Unit) (fun _ =>
    (idx i3 (w64 (x3 + u0))).bind fun l5 =>
    (idx i3 (w64 (x3 + o0))).bind fun x5 =>
    (idx i3 (w64 (x3 + o0))).bind fun oA =>
    (idx ((List.set i3 (Int.toNat (w64 (x3 + o0))) l5)) (w64 (x3 + u0))).bind fun pA =>
    k1 ((List.set ((List.set i3 (Int.toNat (w64 (x3 + o0))) l5)) (Int.toNat (w64 (x3 + u0))) x5), u0)
    ) fun a9 =>
   (idx i3 (w64 (x3 + o0))).bind fun c7 =>
   (idx i3 (w64 (x3 + u0))).bind fun d7 =>
   (f91 c7 d7).bind fun i6 =>
   bif (!i6) then
    some (i3)
   else
    a9 ()
   ) fun k4 =>
  bif (decide ((w64 ((w64 ((2 : Int) * o0)) + (1 : Int))) ≥ x2)) then
   some (i3)
  else
   k4 ()
  ) big (x0, x1)
def f24 (x0 : Int) (x1 : Int) : Option (Int) :=
 (f44 x0).bind fun y2 =>
 (f44 x1).bind fun y4 =>
 jn (σ := Unit) (fun _ =>
  jn (σ := Unit) (fun _ =>
   jn (σ := Unit) (fun _ =>
    jn (σ := Unit) (fun _ =>
     some ((0 : Int))
     ) fun t5 =>
    bif (decide (x0 > x1)) then
     some ((1 : Int))
    else
     t5 ()
    ) fun x5 =>
   bif (decide (x0 < x1)) then
    some ((-1 : Int))
   else
    x5 ()
   ) fun k18 =>
  bif y4 then
   some ((1 : Int))
  else
   k18 ()
  ) fun i6 =>
 bif y2 then
  jn (σ := Unit) (fun _ =>
   some ((-1 : Int))
   ) fun j6 =>
  bif y4 then
   some ((0 : Int))
  else
   j6 ()
 else
  i6 ()
theorem en24 : Enters Try.prog 24 := enters_of Try.func24 (by kernel_rfl) rfl
theorem wk24 {gI : Gh} {wI : World} {x0 : Int} {x1 : Int}  {r : Int} (h : f24 x0 x1 = some r) : Fn Try.prog 24 #[.int .i64 (x0), .int .i64 (x1)] gI wI (fun _ _ v => v = .int .i64 (r)) := by
 unfold f24 at h
 refine fn_of_E Try.func24 rfl (Nat.le_of_ble_eq_true rfl) fun g0 hm hfr => ?_
 show E _ 20 none _ _ _ _ _
 refine E_seq (E_region (EL_at (.int .i64 (0)) rfl rfl ?_))
 refine EL_nil (thn_n (E_seq (E_region (EL_mw (.int .i64 (x0)) rfl rfl ?_))))
 obtain ⟨y2, hy2, h⟩ := bsome h
 refine EL_do .plain rfl (D_call (g := g0) (vs := [.int .i64 (x0)]) en44 (.cons rfl .nil) (wk44  hy2) fun g1 w1_ v1 hs hr => ?_)
 have hfr := hfr.ext hs
 subst hr
 refine EL_at (.bool (y2)) rfl rfl ?_
 refine EL_nil (thn_n (E_seq (E_region (EL_mw (.int .i64 (x1)) rfl rfl ?_))))
 obtain ⟨y4, c7, h⟩ := bsome h
 refine EL_do .plain rfl (D_call (g := g1) (vs := [.int .i64 (x1)]) en44 (.cons rfl .nil) (wk44  c7) fun g3 w3_ v3 hs hr => ?_)
 have hfr := hfr.ext hs
 subst hr
 refine EL_at (.bool (y4)) rfl rfl ?_
 refine EL_nil (thn_n (E_joinC h (fun (s : Unit) e w => ∃ (g : Gh) , Fr gI wI g w ∧ e 0 = .int .i64 (x0) ∧ e 1 = .int .i64 (x1) ∧ e 6 = .bool (y4)) (fun X10 i6 v6 h => ?_) ?_))
 ·refine E_seq (E_region (EL_mw (.bool (y2)) rfl rfl ?_))
  refine EL_nil (thn_n ?_)
  rcases csome h with ⟨o0, h⟩ | ⟨o0, h⟩
  ·refine E_ct o0 rfl ?_
   refine E_joinC h (fun (s : Unit) e w => ∃ (g : Gh) , Fr gI wI g w) (fun X13 j6 x6 h => ?_) ?_
   ·refine E_seq (E_region (EL_mw (.bool (y4)) rfl rfl ?_))
    refine EL_nil (thn_n ?_)
    rcases csome h with ⟨u0, h⟩ | ⟨u0, h⟩
    ·refine E_ct u0 rfl ?_
     refine E_seq (E_region (EL_at (.int .i64 (0)) rfl rfl ?_))
     refine EL_nil (thn_n (E_ret (thn_r ?_)))
     refine thn_r ?_
     obtain rfl := sinj h
     exact end1 rfl rfl (show _ = .int .i64 (0) from rfl) ⟨_, hfr, rfl⟩
    ·refine E_cf u0 rfl ?_
     exact E_skip (thn_n (x6 () _ _ ⟨g3, hfr⟩ h))
   ·rintro _ i7 w15 ⟨u7, hfr⟩ h
    refine E_seq (E_region (EL_at (.int .i64 (-1)) rfl rfl ?_))
    refine EL_nil (thn_n (E_ret (thn_r ?_)))
    obtain rfl := sinj h
    exact end1 rfl rfl (show _ = .int .i64 (-1) from rfl) ⟨_, hfr, rfl⟩
  ·refine E_cf o0 rfl ?_
   exact E_skip (thn_n (v6 () _ _ ⟨g3, hfr, rfl, rfl, rfl⟩ h))
 ·rintro _ j7 v7 ⟨d7, hfr, z3, z4, i5⟩ h
  refine E_joinC h (fun (s : Unit) e w => ∃ (g : Gh) , Fr gI wI g w ∧ e 0 = .int .i64 (x0) ∧ e 1 = .int .i64 (x1)) (fun X18 k18 y6 h => ?_) ?_
  ·refine E_seq (E_region (EL_mv i5 rfl ?_))
   refine EL_nil (thn_n ?_)
   rcases csome h with ⟨j1, h⟩ | ⟨j1, h⟩
   ·refine E_ct j1 rfl ?_
    refine E_seq (E_region (EL_at (.int .i64 (1)) rfl rfl ?_))
    refine EL_nil (thn_n (E_ret (thn_r ?_)))
    obtain rfl := sinj h
    exact end1 rfl rfl (show _ = .int .i64 (1) from rfl) ⟨_, hfr, rfl⟩
   ·refine E_cf j1 rfl ?_
    exact E_skip (thn_n (y6 () _ _ ⟨d7, hfr, z3, z4⟩ h))
  ·rintro _ m7 c8 ⟨e7, hfr, o3, u3⟩ h
   refine E_joinC h (fun (s : Unit) e w => ∃ (g : Gh) , Fr gI wI g w ∧ e 0 = .int .i64 (x0) ∧ e 1 = .int .i64 (x1)) (fun X22 x5 a7 h => ?_) ?_
   ·refine E_seq (E_region (EL_mv o3 rfl ?_))
    refine EL_mv u3 rfl ?_
    refine EL_in (.bool ((decide (x0 < x1)))) rfl rfl rfl rfl ?_
    refine EL_nil (thn_n ?_)
    rcases csome h with ⟨i3, h⟩ | ⟨i3, h⟩
    ·refine E_ct i3 rfl ?_
     refine E_seq (E_region (EL_at (.int .i64 (-1)) rfl rfl ?_))
     refine EL_nil (thn_n (E_ret (thn_r ?_)))
     obtain rfl := sinj h
     exact end1 rfl rfl (show _ = .int .i64 (-1) from rfl) ⟨_, hfr, rfl⟩
    ·refine E_cf i3 rfl ?_
     exact E_skip (thn_n (a7 () _ _ ⟨e7, hfr, o3, u3⟩ h))
   ·rintro _ n7 g8 ⟨g7, hfr, l5, q5⟩ h
    refine E_joinC h (fun (s : Unit) e w => ∃ (g : Gh) , Fr gI wI g w) (fun X26 t5 b7 h => ?_) ?_
    ·refine E_seq (E_region (EL_mv l5 rfl ?_))
     refine EL_mv q5 rfl ?_
     refine EL_in (.bool ((decide (x0 > x1)))) rfl rfl rfl rfl ?_
     refine EL_nil (thn_n ?_)
     rcases csome h with ⟨j3, h⟩ | ⟨j3, h⟩
     ·refine E_ct j3 rfl ?_
      refine E_seq (E_region (EL_at (.int .i64 (1)) rfl rfl ?_))
      refine EL_nil (thn_n (E_ret (thn_r ?_)))
      obtain rfl := sinj h
      exact end1 rfl rfl (show _ = .int .i64 (1) from rfl) ⟨_, hfr, rfl⟩
     ·refine E_cf j3 rfl ?_
      exact E_skip (thn_n (b7 () _ _ ⟨g7, hfr⟩ h))
    ·rintro _ o7 i8 ⟨k8, hfr⟩ h
     refine E_seq (E_region (EL_at (.int .i64 (0)) rfl rfl ?_))
     refine EL_nil (thn_n (E_ret ?_))
     obtain rfl := sinj h
     exact end1 rfl rfl (show _ = .int .i64 (0) from rfl) ⟨_, hfr, rfl⟩
def f33 (x0 : PaySheet) : Option ((List Int) × (List Int) × Int × Int) :=
 Option.bind (α := (List Int)) (
  lp (σ := (List Int) × Int) (fun yD (n8, u0) =>
   bif (decide (u0 < ((((x0).PayTable).Rows).length : Int))) then
    Option.bind (α := (List Int)) (
     (idx (((x0).PayTable).Rows) u0).bind fun y130 =>
     (f53 y130).bind fun z4 =>
     (idx (((x0).PayTable).Across) u0).bind fun i5 =>
     (apnd 8 n8 (([(w64 (z4 - i5))] : List Int))).bind fun nA =>
     some (nA)
     ) fun j6 =>
    yD (j6, (w64 (u0 + (1 : Int))))
   else
    some (n8)
   ) big ([], (0 : Int))
  ) fun o3 =>
 Option.bind (α := (List Int)) (
  lp (σ := (List Int) × Int) (fun oA (n7, o0) =>
   bif (decide (o0 < ((((x0).PayTable).Down).length : Int))) then
    Option.bind (α := (List Int)) (
     (idx (((x0).PayTable).Down) o0).bind fun a7 =>
     (f54 x0 o0).bind fun pA =>
     (f53 pA).bind fun o7 =>
     (apnd 8 n7 (([(w64 (o7 - a7))] : List Int))).bind fun qA =>
     some (qA)
     ) fun v6 =>
    oA (v6, (w64 (o0 + (1 : Int))))
   else
    some (n7)
   ) big ([], (0 : Int))
  ) fun d7 =>
 (f53 (((x0).PayTable).Across)).bind fun b7 =>
 (f53 (((x0).PayTable).Down)).bind fun c7 =>
 some (o3, d7, (w64 (b7 - ((x0).PayTable).Total)), (w64 (c7 - ((x0).PayTable).Total)))
def f34 (x0 : List Int) (x1 : Int → Option Bool) : Option (Bool) :=
 (f55 x0 x1).bind fun y2 =>
 some ((decide (y2 ≥ (0 : Int))))
theorem en34 : Enters Try.prog 34 := enters_of Try.func34 (by kernel_rfl) rfl
theorem wk34 {gI : Gh} {wI : World} {x0 : List Int} {x1 : Int → Option Bool} {up0 : Value} (rp0 : RV gI.m wI x0 up0) {up1 : Value} (rp1 : FnV1 Try.prog x1 up1 gI wI) {r : Bool} (h : f34 x0 x1 = some r) : Fn Try.prog 34 #[up0, up1] gI wI (fun _ _ v => v = .bool (r)) := by
 unfold f34 at h
 refine fn_of_E Try.func34 rfl (Nat.le_of_ble_eq_true rfl) fun g0 hm hfr => ?_
 have rp0 : RV g0.m wI x0 up0 := hm ▸ rp0
 obtain ⟨ff1, fa1, fc1, rfl, fen1, fcl1⟩ := rp1
 show E _ 9 none _ _ _ _ _
 refine E_seq (E_region (EL_at (.bool false) rfl rfl ?_))
 refine EL_nil (thn_n (E_seq (E_region (EL_mw up0 rfl rfl ?_))))
 refine EL_mw ((.func (.func ff1) fa1 fc1)) rfl rfl ?_
 obtain ⟨y2, hy2, h⟩ := bsome h
 refine EL_do .plain rfl (D_call (g := g0) (vs := [up0, (.func (.func ff1) fa1 fc1)]) en55 (.cons rfl (.cons rfl .nil)) (wk55 rp0 (FnV1.ch ⟨_, _, _, rfl, fen1, fcl1⟩ hfr.ch) hy2) fun g1 w1_ v1 hs hr => ?_)
 have hfr := hfr.ext hs
 subst hr
 refine EL_in (.bool ((decide (y2 ≥ (0 : Int))))) rfl rfl rfl rfl ?_
 refine EL_at (.bool ((decide (y2 ≥ (0 : Int))))) rfl rfl ?_
 refine EL_nil (thn_n (E_ret ?_))
 obtain rfl := sinj h
 exact end1 rfl rfl (show _ = .bool ((decide (y2 ≥ (0 : Int)))) from rfl) ⟨_, hfr, rfl⟩
def f35 (x0 : List (List Int)) : Option ((List Int)) :=
 Option.bind (α := Int) (
  lp (σ := Int × Int) (fun o9 (j1, o0) =>
   bif (decide (o0 < ((x0).length : Int))) then
    Option.bind (α := Int) (
     (idx x0 o0).bind fun o3 =>
     bif (decide ((w64 (j1 + ((o3).length : Int))) < (0 : Int))) then
      none
     else
      some ((w64 (j1 + ((o3).length : Int))))
     ) fun u3 =>
    o9 (u3, (w64 (o0 + (1 : Int))))
   else
    some (j1)
   ) big ((0 : Int), (0 : Int))
  ) fun z3 =>
 (f56 z3).bind fun t9 =>
 Option.bind (α := (List Int)) (
  lp (σ := (List Int) × Int) (fun u9 (t5, u0) =>
   bif (decide (u0 < ((x0).length : Int))) then
    Option.bind (α := (List Int)) (
     (idx x0 u0).bind fun y9 =>
     (apnd 8 t5 y9).bind fun z9 =>
     some (z9)
     ) fun j3 =>
    u9 (j3, (w64 (u0 + (1 : Int))))
   else
    some (t5)
   ) big (t9, (0 : Int))
  ) fun z4 =>
 some (z4)
def f63 (x0 : PayFilling) (x1 : Int) (x2 : List PayStep) : Option (Int) :=
 Option.bind (α := Int) (
  lp (σ := Int × Int) (fun g7 (i3, o0) =>
   bif (decide (o0 < ((x2).length : Int))) then
    Option.bind (α := Int) (
     (idx x2 o0).bind fun i7 =>
     (f66 x0 i7).bind fun i5 =>
     some ((min64 i3 i5))
     ) fun o3 =>
    g7 (o3, (w64 (o0 + (1 : Int))))
   else
    some (i3)
   ) big (x1, (0 : Int))
  ) fun j3 =>
 some (j3)
def f72 (x0 : PayRate) (x1 : Int) : Option (Int) :=
 (f24 ((x0).From) x1).bind fun y5 =>
 some (y5)
def f76 (x0 : List (List Int)) (x1 : (List Int) → Option Bool) : Option (Bool) :=
 (f96 x0 x1).bind fun y2 =>
 some ((decide (y2 ≥ (0 : Int))))
def f82 (x0 : List Int) (x1 : Int) (x2 : Int) (x3 : Int) (x4 : Int → Int → Option Int) : Option ((List Int)) :=
 Option.bind (α := (List Int) × Int) (
  lp (σ := (List Int) × Int × Int) (fun c7 (u3, o0, u0) =>
   jn (σ := Unit) (fun _ =>
    bif (decide (o0 > u0)) then
     (f98 u3 ((w64 (x2 - o0))) x2 u0 x4).bind fun d7 =>
     c7 (d7, (w64 (o0 - u0)), u0)
    else
     (f98 u3 ((w64 (x2 - o0))) ((w64 ((w64 (x2 + u0)) - o0))) o0 x4).bind fun e7 =>
     c7 (e7, o0, (w64 (u0 - o0)))
    ) fun o7 =>
   bif (o0 != u0) then
    o7 ()
   else
    some (u3, o0)
   ) big (x0, (w64 (x2 - x1)), (w64 (x3 - x2)))
  ) fun (l5, i3) =>
 (f98 l5 ((w64 (x2 - i3))) x2 i3 x4).bind fun u7 =>
 some (u7)
theorem en82 : Enters Try.prog 82 := enters_of Try.func82 (by kernel_rfl) rfl
theorem wk82 {iI : Nat} {gI : Gh} {wI : World} {x0 : List Int} {x1 : Int} {x2 : Int} {x3 : Int} {x4 : Int → Int → Option Int} {up0 : Value} (mp0 : OM iI gI wI 3 x0 up0) {up4 : Value} (rp4 : FnV2 Try.prog x4 up4 gI wI) {r : (List Int)} (h : f82 x0 x1 x2 x3 x4 = some r) : FnM Try.prog 82 #[up0, .int .i64 (x1), .int .i64 (x2), .int .i64 (x3), up4] iI gI wI (fun g w v => v = .tuple #[] ∧ OM iI g w 3 r up0) := by
 unfold f82 at h
 refine fnM_of_E Try.func82 rfl (Nat.le_of_ble_eq_true rfl) fun g0 hm hfr => ?_
 have i7 := mp0
 replace mp0 := mp0.enter
 rw [← hm] at mp0
 replace hm : g0.m = gI.m := by rw [hm]
 obtain ⟨ff4, fa4, fc4, rfl, fen4, fcl4⟩ := rp4
 show E _ 58 none _ _ _ _ _
 refine E_seq (E_region (EL_mw (.int .i64 (x2)) rfl rfl ?_))
 refine EL_mw (.int .i64 (x1)) rfl rfl ?_
 refine EL_in (.int .i64 ((w64 (x2 - x1)))) rfl rfl rfl rfl ?_
 refine EL_at (.int .i64 ((w64 (x2 - x1)))) rfl rfl ?_
 refine EL_nil (thn_n (E_seq (E_region (EL_mw (.int .i64 (x3)) rfl rfl ?_))))
 refine EL_mw (.int .i64 (x2)) rfl rfl ?_
 refine EL_in (.int .i64 ((w64 (x3 - x2)))) rfl rfl rfl rfl ?_
 refine EL_at (.int .i64 ((w64 (x3 - x2)))) rfl rfl ?_
 refine EL_nil (thn_n ?_)
 obtain ⟨⟨l5, i3⟩, hx, h⟩ := bsome h
 refine E_join (fun e w => ∃ (g : Gh) , FrM iI gI wI g w ∧ e 0 = up0 ∧ OM 1 g w 3 (l5 : List Int) up0 ∧ e 2 = .int .i64 (x2) ∧ e 4 = (.func (.func ff4) fa4 fc4) ∧ e 10 = .int .i64 (i3)) (fun Q' hQ => ?_) (fun q8 a9 hR => ?_)
 ·replace h := hx
  clear hx
  refine E_block ?_
  refine E_lp h (fun (s : (List Int) × Int × Int) e w => ∃ (g : Gh) , FrM iI gI wI g w ∧ e 0 = up0 ∧ OM 1 g w 3 (s.1 : List Int) up0 ∧ e 2 = .int .i64 (x2) ∧ e 4 = (.func (.func ff4) fa4 fc4) ∧ e 10 = .int .i64 (s.2.1) ∧ e 11 = .int .i64 (s.2.2)) ⟨g0, hfr, rfl, mp0, rfl, rfl, rfl, rfl⟩ (fun X12 c7 g7 => ?_)
  rintro ⟨u3, o0, u0⟩ r8 d9 ⟨v7, hfr, j6, v6, x6, y6, i5, q5⟩ h
  refine E_joinC h (fun (s : Unit) e w => ∃ (g : Gh) , FrM iI gI wI g w ∧ e 0 = up0 ∧ OM 1 g w 3 (u3 : List Int) up0 ∧ e 2 = .int .i64 (x2) ∧ e 4 = (.func (.func ff4) fa4 fc4) ∧ e 10 = .int .i64 (o0) ∧ e 11 = .int .i64 (u0)) (fun X15 o7 g8 h => ?_) ?_
  ·refine E_seq (E_region (EL_mv i5 rfl ?_))
   refine EL_mv q5 rfl ?_
   refine EL_in (.bool ((o0 != u0))) rfl rfl rfl rfl ?_
   refine EL_nil (thn_n ?_)
   rcases csome h with ⟨x5, h⟩ | ⟨x5, h⟩
   ·refine E_ct x5 rfl ?_
    exact E_skip (thn_n (g8 () _ _ ⟨v7, hfr, j6, v6, x6, y6, i5, q5⟩ h))
   ·refine E_cf x5 rfl ?_
    refine E_exit ?_
    refine thn_e ?_
    refine thn_e ?_
    refine blk_hit ?_
    obtain ⟨rfl, rfl⟩ := pairs2 h
    exact hQ _ _ ⟨v7, hfr, j6, v6, x6, y6, i5⟩
  ·rintro _ t8 e9 ⟨c8, hfr, z3, a7, o3, z4, j1, j3⟩ h
   refine E_block ?_
   refine E_seq (E_region (EL_mv j1 rfl ?_))
   refine EL_mv j3 rfl ?_
   refine EL_in (.bool ((decide (o0 > u0)))) rfl rfl rfl rfl ?_
   refine EL_nil (thn_n ?_)
   rcases csome h with ⟨i6, h⟩ | ⟨i6, h⟩
   ·refine E_ct i6 rfl ?_
    refine E_seq (E_region (EL_mv z3 rfl ?_))
    refine EL_mv o3 rfl ?_
    refine EL_mv j1 rfl ?_
    refine EL_in (.int .i64 ((w64 (x2 - o0)))) rfl rfl rfl rfl ?_
    refine EL_mv o3 rfl ?_
    refine EL_mv j3 rfl ?_
    refine EL_mv z4 rfl ?_
    obtain ⟨d7, i8, h⟩ := bsome h
    refine EL_do .plain rfl (D_callM (g := c8) (i := 1) (vs := [up0, .int .i64 ((w64 (x2 - o0))), .int .i64 (x2), .int .i64 (u0), (.func (.func ff4) fa4 fc4)]) en98 (.cons rfl (.cons rfl (.cons rfl (.cons rfl (.cons rfl .nil))))) (wk98 a7 (FnV2.ch ⟨_, _, _, rfl, fen4, fcl4⟩ hfr.ch) i8) fun m8 v8 i9 hs hr => ?_)
    obtain ⟨hrv, b19⟩ := hr
    have hfr := hfr.stp hs
    subst hrv
    refine EL_nil (thn_n (E_region (EL_mv j1 rfl ?_)))
    refine EL_mv j3 rfl ?_
    refine EL_in (.int .i64 ((w64 (o0 - u0)))) rfl rfl rfl rfl ?_
    refine EL_at (.int .i64 ((w64 (o0 - u0)))) rfl rfl ?_
    exact EL_nil (blk_n (thn_n (g7 (d7, (w64 (o0 - u0)), u0) _ _ ⟨m8, hfr, z3, b19, o3, z4, rfl, j3⟩ h)))
   ·refine E_cf i6 rfl ?_
    refine E_seq (E_region (EL_mv z3 rfl ?_))
    refine EL_mv o3 rfl ?_
    refine EL_mv j1 rfl ?_
    refine EL_in (.int .i64 ((w64 (x2 - o0)))) rfl rfl rfl rfl ?_
    refine EL_mv o3 rfl ?_
    refine EL_mv j3 rfl ?_
    refine EL_in (.int .i64 ((w64 (x2 + u0)))) rfl rfl rfl rfl ?_
    refine EL_mv j1 rfl ?_
    refine EL_in (.int .i64 ((w64 ((w64 (x2 + u0)) - o0)))) rfl rfl rfl rfl ?_
    refine EL_mv j1 rfl ?_
    refine EL_mv z4 rfl ?_
    obtain ⟨e7, k8, h⟩ := bsome h
    refine EL_do .plain rfl (D_callM (g := c8) (i := 1) (vs := [up0, .int .i64 ((w64 (x2 - o0))), .int .i64 ((w64 ((w64 (x2 + u0)) - o0))), .int .i64 (o0), (.func (.func ff4) fa4 fc4)]) en98 (.cons rfl (.cons rfl (.cons rfl (.cons rfl (.cons rfl .nil))))) (wk98 a7 (FnV2.ch ⟨_, _, _, rfl, fen4, fcl4⟩ hfr.ch) k8) fun n8 x8 k9 hs hr => ?_)
    obtain ⟨hrv, b21⟩ := hr
    have hfr := hfr.stp hs
    subst hrv
    refine EL_nil (thn_n (E_region (EL_mv j3 rfl ?_)))
    refine EL_mv j1 rfl ?_
    refine EL_in (.int .i64 ((w64 (u0 - o0)))) rfl rfl rfl rfl ?_
    refine EL_at (.int .i64 ((w64 (u0 - o0)))) rfl rfl ?_
    exact EL_nil (blk_n (thn_n (g7 (e7, o0, (w64 (u0 - o0))) _ _ ⟨n8, hfr, z3, b21, o3, z4, j1, rfl⟩ h)))
 ·clear hx
  obtain ⟨o8, hfr, j7, m7, b7, n7, t5⟩ := hR
  refine E_region (EL_mv j7 rfl ?_)
  refine EL_mv b7 rfl ?_
  refine EL_mv t5 rfl ?_
  refine EL_in (.int .i64 ((w64 (x2 - i3)))) rfl rfl rfl rfl ?_
  refine EL_mv b7 rfl ?_
  refine EL_mv t5 rfl ?_
  refine EL_mv n7 rfl ?_
  obtain ⟨u7, l8, h⟩ := bsome h
  refine EL_do .plain rfl (D_callM (g := o8) (i := 1) (vs := [up0, .int .i64 ((w64 (x2 - i3))), .int .i64 (x2), .int .i64 (i3), (.func (.func ff4) fa4 fc4)]) en98 (.cons rfl (.cons rfl (.cons rfl (.cons rfl (.cons rfl .nil))))) (wk98 m7 (FnV2.ch ⟨_, _, _, rfl, fen4, fcl4⟩ hfr.ch) l8) fun l9 y8 n9 hs hr => ?_)
  obtain ⟨hrv, b24⟩ := hr
  have hfr := hfr.stp hs
  subst hrv
  refine EL_nil ?_
  obtain rfl := sinj h
  exact end0n rfl rfl ⟨_, hfr, rfl, i7.back b24⟩
def f83 (x0 : List Int) : Option (Bool) :=
 jn (σ := Unit) (fun _ =>
  some (true)
  ) fun k53 =>
 lp (σ := Int) (fun k54 o0 =>
  jn (σ := Unit) (fun _ =>
   jn (σ := Unit) (fun _ =>
    k54 ((w64 (o0 - (1 : Int))))
    ) fun v6 =>
   (idx x0 o0).bind fun y84 =>
   (idx x0 (w64 (o0 - (1 : Int)))).bind fun u3 =>
   (f91 y84 u3).bind fun z3 =>
   bif z3 then
    some (false)
   else
    v6 ()
   ) fun k57 =>
  bif (decide (o0 > (0 : Int))) then
   k57 ()
  else
   k53 ()
  ) big ((w64 (((x0).length : Int) - (1 : Int))))
def f85 (x0 : List Int) (x1 : Int) (x2 : Int) : Option ((List Int)) :=
 lp (σ := (List Int) × Int) (fun k1 (x6, j3) =>
  jn (σ := Unit) (fun _ =>
   Option.bind (α := (List Int)) (
    lp (σ := (List Int) × Int) (fun k8 (j1, o0) =>
     jn (σ := Unit) (fun _ =>
      Option.bind (α := (List Int)) (
       (idx j1 (w64 (o0 - (1 : Int)))).bind fun i6 =>
       (idx j1 o0).bind fun y6 =>
       (idx j1 o0).bind fun rA =>
       (idx ((List.set j1 (Int.toNat o0) i6)) (w64 (o0 - (1 : Int)))).bind fun uA =>
       some ((List.set ((List.set j1 (Int.toNat o0) i6)) (Int.toNat (w64 (o0 - (1 : Int)))) y6))
       ) fun l5 =>
      k8 (l5, (w64 (o0 - (1 : Int))))
      ) fun l8 =>
     Option.bind (α := Bool) (
      bif (decide (o0 > x1)) then
       (idx j1 o0).bind fun a7 =>
       (idx j1 (w64 (o0 - (1 : Int)))).bind fun b7 =>
       (f91 a7 b7).bind fun j6 =>
       some (j6)
      else
       some (false)
      ) fun u3 =>
     bif u3 then
      l8 ()
     else
      some (j1)
     ) big (x6, j3)
    ) fun q5 =>
   k1 (q5, (w64 (j3 + (1 : Int))))
   ) fun k4 =>
  bif (decide (j3 < x2)) then
   k4 ()
  else
   some (x6)
  ) big (x0, (w64 (x1 + (1 : Int))))
end Go.Proofs.Ytkmbkaoolacofaa
