import Derived.Test.YticdblhibbaojaaDoorTypes
import Derived.Test.YticdblhibbaojaaDoorShelf
import Derived.Test.YticdblhibbaojaaDoorTz
set_option maxRecDepth 8000
set_option maxHeartbeats 4000000
namespace Go.Proofs.YticdblhibbaojaaDoor
open Go.RowKit
theorem info_3 : (Tryd.prog.info? 3).map (fun i => (i.zero, i.size, i.bytes)) = some (some (.int .i64 0), 1, 8) := by kernel_rfl
theorem lay_28 : layoutOf Tryd.prog 28 = some ([.int .i64 0, .int .i64 0], [(0, 1), (1, 1)]) := by kernel_rfl
theorem endm_c {P : Program} {e : Env} {ds : List Deferred} {w : World} {fn : Func} {R : Value → World → Prop} {t0 : Tmp} {v0 : Value} {y0 : TypeId} {a0 : Addr} (hres : fn.results = #[.cell t0 y0]) (hd : ds = []) (h0 : e t0 = .pointer (some a0)) (l0 : (loadVar y0 a0).run P w = .ok v0 w) (h : R v0 w) : atEnd P fn R .ret e ds w :=
 ⟨hd, fun tmps ht => ⟨_, by simp [results, hres, ht, asAddr, h0, l0], h⟩⟩
theorem lay_31 : layoutOf Tryd.prog 31 = some ([.int .i64 0, .int .i64 0, .int .i64 0, .int .i64 0], [(0, 1), (1, 2), (3, 1)]) := by kernel_rfl
theorem info_31 : (Tryd.prog.info? 31).map (fun i => (i.zero, i.size, i.bytes)) = some (some (.agg #[.int .i64 0, .int .i64 0, .int .i64 0, .int .i64 0]), 4, 32) := by kernel_rfl
theorem lay_33 : layoutOf Tryd.prog 33 = some ([.int .i64 0, .int .i64 0], [(0, 1), (1, 1)]) := by kernel_rfl
theorem lay_55 : layoutOf Tryd.prog 55 = some ([.int .i64 0, .int .i64 0], [(0, 1), (1, 1)]) := by kernel_rfl
theorem lay_58 : layoutOf Tryd.prog 58 = some ([.slice none 0 0, .slice none 0 0, .int .i64 0, .int .i64 0], [(0, 1), (1, 1), (2, 1), (3, 1)]) := by kernel_rfl
theorem mixed : Tryd.prog.follows .mixedOrders = true := by kernel_rfl
theorem info_55 : (Tryd.prog.info? 55).map (fun i => (i.zero, i.size, i.bytes)) = some (some (.agg #[.int .i64 0, .int .i64 0]), 2, 16) := by kernel_rfl
theorem capf_0_2 {e : Env} {f : FuncId} {o0 : Operand} {l5 : Operand} {b0 : Value} {b1 : Value} (hb0 : ev e o0 = b0) (hb1 : ev e l5 = b1) : (Value.func (.func f) ((#[] : Array Operand).map (ev e)) ((#[o0, l5] : Array Operand).map (ev e))) = .func (.func f) #[] #[b0, b1] := by simp [hb0, hb1]
theorem capf_0_1 {e : Env} {f : FuncId} {o0 : Operand} {b0 : Value} (hb0 : ev e o0 = b0) : (Value.func (.func f) ((#[] : Array Operand).map (ev e)) ((#[o0] : Array Operand).map (ev e))) = .func (.func f) #[] #[b0] := by simp [hb0]
theorem lay_91 : layoutOf Tryd.prog 91 = some ([.slice none 0 0, .slice none 0 0, .int .i64 0, .int .i64 0], [(0, 4)]) := by kernel_rfl
theorem lay_97 : layoutOf Tryd.prog 97 = some ([.slice none 0 0, .slice none 0 0, .slice none 0 0, .int .i64 0], [(0, 4)]) := by kernel_rfl
theorem lay_139 : layoutOf Tryd.prog 139 = some ([.int .i64 0, .int .i64 0], [(0, 1), (1, 1)]) := by kernel_rfl
theorem info_139 : (Tryd.prog.info? 139).map (fun i => (i.zero, i.size, i.bytes)) = some (some (.agg #[.int .i64 0, .int .i64 0]), 2, 16) := by kernel_rfl
theorem lay_63 : layoutOf Tryd.prog 63 = some ([.int .i64 0, .int .i64 0, .int .i64 0, .slice none 0 0, .int .i64 0], [(0, 1), (1, 1), (2, 1), (3, 1), (4, 1)]) := by kernel_rfl
theorem info_28 : (Tryd.prog.info? 28).map (fun i => (i.zero, i.size, i.bytes)) = some (some (.agg #[.int .i64 0, .int .i64 0]), 2, 16) := by kernel_rfl
theorem capf_0_3 {e : Env} {f : FuncId} {o0 : Operand} {l5 : Operand} {t5 : Operand} {b0 : Value} {b1 : Value} {b2 : Value} (hb0 : ev e o0 = b0) (hb1 : ev e l5 = b1) (hb2 : ev e t5 = b2) : (Value.func (.func f) ((#[] : Array Operand).map (ev e)) ((#[o0, l5, t5] : Array Operand).map (ev e))) = .func (.func f) #[] #[b0, b1, b2] := by simp [hb0, hb1, hb2]
theorem endm_ct {P : Program} {e : Env} {ds : List Deferred} {w : World} {fn : Func} {R : Value → World → Prop} {t0 : Tmp} {v0 : Value} {y0 : TypeId} {a0 : Addr} {t1 : Tmp} {v1 : Value} (hres : fn.results = #[.cell t0 y0, .tmp t1]) (hd : ds = []) (h0 : e t0 = .pointer (some a0)) (l0 : (loadVar y0 a0).run P w = .ok v0 w) (h1 : e t1 = v1) (h : R (.tuple #[v0, v1]) w) : atEnd P fn R .ret e ds w :=
 ⟨hd, fun tmps ht => ⟨_, by simp [results, hres, ht, asAddr, h0, l0, h1], h⟩⟩
theorem lay_76 : layoutOf Tryd.prog 76 = some ([.int .i64 0, .int .i64 0, .slice none 0 0], [(0, 1), (1, 1), (2, 1)]) := by kernel_rfl
theorem endm_ctt {P : Program} {e : Env} {ds : List Deferred} {w : World} {fn : Func} {R : Value → World → Prop} {t0 : Tmp} {v0 : Value} {y0 : TypeId} {a0 : Addr} {t1 : Tmp} {v1 : Value} {t2 : Tmp} {v2 : Value} (hres : fn.results = #[.cell t0 y0, .tmp t1, .tmp t2]) (hd : ds = []) (h0 : e t0 = .pointer (some a0)) (l0 : (loadVar y0 a0).run P w = .ok v0 w) (h1 : e t1 = v1) (h2 : e t2 = v2) (h : R (.tuple #[v0, v1, v2]) w) : atEnd P fn R .ret e ds w :=
 ⟨hd, fun tmps ht => ⟨_, by simp [results, hres, ht, asAddr, h0, l0, h1, h2], h⟩⟩
theorem lay_48 : layoutOf Tryd.prog 48 = some ([.slice none 0 0, .int .i64 0], [(0, 1), (1, 1)]) := by kernel_rfl
theorem lay_66 : layoutOf Tryd.prog 66 = some ([.int .i64 0, .int .i64 0, .int .i64 0, .int .i64 0], [(0, 1), (1, 1), (2, 1), (3, 1)]) := by kernel_rfl
theorem lay_45 : layoutOf Tryd.prog 45 = some ([.int .i64 0, .int .i64 0], [(0, 1), (1, 1)]) := by kernel_rfl
theorem fl_28 : Tryd.prog.fieldsOf 28 = #[{ name := "Low", type := 3, offset := 0, embedded := false, tag := "", pkgPath := "", byteOffset := 0 }, { name := "High", type := 3, offset := 1, embedded := false, tag := "", pkgPath := "", byteOffset := 8 }] := by kernel_rfl
theorem seq_28 : SEq (α := Span) Tryd.prog 28 := by
 intro d x y w a b m wx m2 wy hx hy;obtain ⟨_, ⟨_, _, rfl, rfl, rfl⟩, rfl⟩ := hx;obtain ⟨_, ⟨_, _, rfl, rfl, rfl⟩, rfl⟩ := hy;refine (run_equalIn_struct w (d + 1) 28 _ _ (by kernel_rfl) (by kernel_rfl)).trans ?_;rw [fl_28];obtain ⟨x0, x1⟩ := x;obtain ⟨y0, y1⟩ := y;show (Op.eqFields (d + 1) #[.int .i64 (x0), .int .i64 (x1)] #[.int .i64 (y0), .int .i64 (y1)] _).run _ _ = _;have x0p : (part 3 #[.int .i64 (x0), .int .i64 (x1)] 0).run Tryd.prog w = .ok (.int .i64 (x0)) w := part_one Tryd.isAgg3 rfl;have x1p : (part 3 #[.int .i64 (x0), .int .i64 (x1)] 1).run Tryd.prog w = .ok (.int .i64 (x1)) w := part_one Tryd.isAgg3 rfl;have y0p : (part 3 #[.int .i64 (y0), .int .i64 (y1)] 0).run Tryd.prog w = .ok (.int .i64 (y0)) w := part_one Tryd.isAgg3 rfl;have y1p : (part 3 #[.int .i64 (y0), .int .i64 (y1)] 1).run Tryd.prog w = .ok (.int .i64 (y1)) w := part_one Tryd.isAgg3 rfl;simp only [Op.eqFields, Sem.run_bind, Sem.run_ite, Sem.run_pure, x0p, x1p, y0p, y1p, Result.andThen_ok, run_equalIn_int _ _ _ _ _ _ _ Tryd.underlying3];simp;grind
theorem eg_28 : Tryd.prog.eqGuardType Tryd.prog.depth 28 = false := by kernel_rfl
theorem lay_71 : layoutOf Tryd.prog 71 = some ([.slice none 0 0, .slice none 0 0, .slice none 0 0, .int .i64 0], [(0, 1), (1, 1), (2, 1), (3, 1)]) := by kernel_rfl
theorem tup2_0 {b0 b1 : Value} {B0 : Value → Prop} {B1 : Value → Prop} (h : ∃ c0 c1 : Value, Value.tuple #[b0, b1] = .tuple #[c0, c1] ∧ B0 c0 ∧ B1 c1) : B0 b0 := by
 obtain ⟨c0, c1, he, h0, h1⟩ := h; simp at he; obtain ⟨rfl, rfl⟩ := he; exact h0
theorem info_45 : (Tryd.prog.info? 45).map (fun i => (i.zero, i.size, i.bytes)) = some (some (.agg #[.int .i64 0, .int .i64 0]), 2, 16) := by kernel_rfl
theorem tup3_0 {b0 b1 b2 : Value} {B0 : Value → Prop} {B1 : Value → Prop} {B2 : Value → Prop} (h : ∃ c0 c1 c2 : Value, Value.tuple #[b0, b1, b2] = .tuple #[c0, c1, c2] ∧ B0 c0 ∧ B1 c1 ∧ B2 c2) : B0 b0 := by
 obtain ⟨c0, c1, c2, he, h0, h1, h2⟩ := h; simp at he; obtain ⟨rfl, rfl, rfl⟩ := he; exact h0
def f81 (x0 : List Int) : Option (List Int) := apnd 8 [] x0
theorem en81 : Enters Tryd.prog 81 := enters_of Tryd.func81 (by kernel_rfl) rfl
theorem wk81 {gI : Gh} {wI : World} {x0 : List Int} {up0 : Value} (rp0 : RV gI.m wI x0 up0) {r : List Int} (h : f81 x0 = some r) : Fn Tryd.prog 81 #[up0] gI wI (fun m w v => RV m w r v) := by
 unfold f81 at h;refine fn_of_E Tryd.func81 rfl (Nat.le_of_ble_eq_true rfl) fun g0 hm hfr => ?_;have rp0 : RV g0.m wI x0 up0 := hm ▸ rp0;show E _ 8 none _ _ _ _ _;refine E_seq (E_region (EL_at (.slice none 0 0) rfl rfl (EL_nil (thn_n ?_))));refine E_seq (E_seq (E_region (EL_mw up0 rfl rfl ?_)));obtain ⟨a, c, hv, hc, hrow⟩ := RV_list rp0;refine EL_p (.bool a.isNone) (P_slnil Tryd.underlying34 (show ev _ _ = _ from hv)) rfl (EL_nil (thn_n ?_))
 cases a with
 | none =>
  have hx : x0 = [] := by
   cases x0 with
   | nil => rfl
   | cons y ys => obtain ⟨b, off, hb, _⟩ := hrow (by simp); cases hb
  subst hx
  have hr : r = [] := by unfold apnd at h; split at h <;> simp at h; exact h
  subst hr;refine E_cond_true rfl (E_seq (E_region ?_));refine EL_at (.slice none 0 0) rfl rfl (EL_nil (thn_n ?_));exact E_ret (thn_r (end1 rfl rfl (show _ = .slice none 0 0 from rfl) ⟨_, hfr, RV_nil⟩))
 | some a =>
  refine E_cond_false rfl (E_skip (thn_n ?_));refine E_seq (E_region (EL_do .plain rfl (D_buildSlice (g := g0) 1 (xs := ([] : List Int)) (vs := []) Tryd.underlying34 Tryd.sizeOf3 Tryd.zeroValue3 rfl rfl .nil RVs.nil rfl rfl fun g1 w1 v1 hs o1 r1 hxt hfl => ?_)));have hfr := hfr.stp hs;have rp0 := rp0.stp hs;refine EL_mw up0 rfl rfl ?_;refine EL_do .plain rfl (D_append (g := g1) (i := 1) Tryd.underlying34 info_3 rfl rfl o1 r1 rfl rp0 h fun g2 w2 v2 hs o2 r2 _ => ?_);have hfr := hfr.stp hs;refine EL_at v2 rfl rfl (EL_nil (thn_n ?_));exact E_ret (end1 rfl rfl (show _ = v2 from rfl) ⟨_, hfr, r2⟩)
theorem en49 : Enters Tryd.prog 49 := enters_of Tryd.func49 (by kernel_rfl) rfl
theorem tz_ok : TzOk Tryd.prog 49 1 := fun x hx w hT => Tryd.bits_TrailingZeros x hx w (fun _ j hj => hT j hj)
def f4 (x0 : Int) (x1 : Int) : Option (Span) :=
 some ((⟨x0, x1⟩ : Span))
theorem en4 : Enters Tryd.prog 4 := enters_of Tryd.func4 (by kernel_rfl) rfl
theorem wk4 {gI : Gh} {wI : World} {x0 : Int} {x1 : Int}  {r : Span} (h : f4 x0 x1 = some r) : Fn Tryd.prog 4 #[.int .i64 (x0), .int .i64 (x1)] gI wI (fun m w v => RV m w (r) v) := by
 unfold f4 at h;refine fn_of_E Tryd.func4 rfl (Nat.le_of_ble_eq_true rfl) fun g0 hm hfr => ?_;show E _ 8 none _ _ _ _ _;refine E_seq (E_region (EL_do .plain rfl (D_allocOc (g := g0) 2004 (⟨0, 0⟩ : Span) Tryd.zeroValue28 (fun m w => ⟨_, (rep_two rep_int rep_int), rfl⟩) fun g1 w1 p1 hs b1 cb => ?_)));have hfr := hfr.stp hs;clear cb;refine EL_nil (thn_n (E_seq (E_region (EL_mw (.int .i64 (x0)) rfl rfl ?_))));refine EL_mw (.int .i64 (x1)) rfl rfl ?_;have r2 : RV g1.m w1 (⟨x0, x1⟩ : Span) (.agg (setCh [[.int .i64 0], [.int .i64 0]] [(0, .int .i64 (x0)), (1, .int .i64 (x1))]).flatten.toArray) := RV_build rfl (rep_pair (rfl) (rep_last (rfl)));generalize hv2 : (Value.agg (setCh [[.int .i64 0], [.int .i64 0]] [(0, .int .i64 (x0)), (1, .int .i64 (x1))]).flatten.toArray) = v2 at r2;refine EL_p v2 (hv2 ▸ P_build (vs := [(0, .int .i64 (x0)), (1, .int .i64 (x1))]) [[.int .i64 0], [.int .i64 0]] lay_28 rfl rfl (.cons rfl (.cons rfl .nil)) ⟨⟨_, rfl, rfl⟩, ⟨⟨_, rfl, rfl⟩, trivial⟩⟩) rfl ?_;refine EL_do .plain rfl (D_storeOc (g := g1) (v := v2) Tryd.sizeOf28 rfl b1 rfl r2 fun g3 w3 hs b3 cb => ?_);clear cb;have hfr := hfr.stp hs;refine EL_nil (thn_n (E_ret ?_));obtain rfl := sinj h;obtain ⟨ad4, cv4, hp4, o0, cr4⟩ := ob_read Tryd.isAgg28 Tryd.sizeOf28 b3;exact endm_c rfl rfl ((show _ = p1 from rfl).trans hp4) o0 ⟨_, hfr, cr4⟩
def f13 (x0 : List Int) (x1 : List Int) : Option (Bool) :=
 jn (σ := Unit) (fun _ =>
  jn (σ := Unit) (fun _ =>
   some (true)
   ) fun k53 =>
  lp (σ := Int) (fun k54 o0 =>
   jn (σ := Unit) (fun _ =>
    jn (σ := Unit) (fun _ =>
     k54 ((w64 (o0 + (1 : Int))))
     ) fun cD =>
    (idx x0 o0).bind fun n8 =>
    (idx x1 o0).bind fun v8 =>
    bif (n8 != v8) then
     some (false)
    else
     cD ()
    ) fun k57 =>
   bif (decide (o0 < ((x0).length : Int))) then
    k57 ()
   else
    k53 ()
   ) big ((0 : Int))
  ) fun k2 =>
 bif (((x0).length : Int) != ((x1).length : Int)) then
  some (false)
 else
  k2 ()
theorem en13 : Enters Tryd.prog 13 := enters_of Tryd.func13 (by kernel_rfl) rfl
theorem wk13 {gI : Gh} {wI : World} {x0 : List Int} {x1 : List Int} {up0 : Value} (rp0 : RV gI.m wI x0 up0) {up1 : Value} (rp1 : RV gI.m wI x1 up1) {r : Bool} (h : f13 x0 x1 = some r) : Fn Tryd.prog 13 #[up0, up1] gI wI (fun _ _ v => v = .bool (r)) := by
 unfold f13 at h;refine fn_of_E Tryd.func13 rfl (Nat.le_of_ble_eq_true rfl) fun g0 hm hfr => ?_;have rp0 : RV g0.m wI x0 up0 := hm ▸ rp0;have rp1 : RV g0.m wI x1 up1 := hm ▸ rp1;show E _ 26 none _ _ _ _ _;refine E_seq (E_region (EL_at (.bool false) rfl rfl ?_));refine EL_nil (thn_n (E_joinC h (fun (s : Unit) e w => ∃ (g : Gh) , Fr gI wI g w ∧ e 0 = up0 ∧ RV g.m w (x0 : List Int) up0 ∧ e 1 = up1 ∧ RV g.m w (x1 : List Int) up1) (fun X2 k2 hk2 h => ?_) ?_))
 ·refine E_seq (E_region (EL_mw up0 rfl rfl ?_))
  refine EL_p (.int .i64 ((x0).length : Int)) (P_len Tryd.underlying34 rfl rp0) rfl ?_;refine EL_mw up1 rfl rfl ?_;refine EL_p (.int .i64 ((x1).length : Int)) (P_len Tryd.underlying34 rfl rp1) rfl ?_;refine EL_in (.bool ((((x0).length : Int) != ((x1).length : Int)))) rfl rfl rfl rfl ?_;refine EL_nil (thn_n ?_);rcases csome h with ⟨hc3, h⟩ | ⟨hc3, h⟩
  ·refine E_ct hc3 rfl ?_
   refine E_seq (E_region (EL_at (.bool false) rfl rfl ?_));refine EL_nil (thn_n (E_ret (thn_r ?_)));obtain rfl := sinj h;exact end1 rfl rfl (show _ = .bool false from rfl) ⟨_, hfr, rfl⟩
  ·refine E_cf hc3 rfl ?_
   exact E_skip (thn_n (hk2 () _ _ ⟨g0, hfr, rfl, rp0, rfl, rp1⟩ h))
 ·rintro _ xF w4 ⟨g4, hfr, nD, oD, yD, zD⟩ h
  refine E_joinC h (fun (s : Unit) e w => ∃ (g : Gh) , Fr gI wI g w) (fun X53 k53 aE h => ?_) ?_
  ·refine E_seq (E_region (EL_at (.int .i64 (0)) rfl rfl ?_))
   refine EL_nil (thn_n (E_block ?_));refine E_lp h (fun (s : Int) e w => ∃ (g : Gh) , Fr gI wI g w ∧ e 0 = up0 ∧ RV g.m w (x0 : List Int) up0 ∧ e 1 = up1 ∧ RV g.m w (x1 : List Int) up1 ∧ e 5 = .int .i64 (s)) ⟨g4, hfr, nD, oD, yD, zD, rfl⟩ (fun X54 k54 bE => ?_);rintro o0 rF yF ⟨lD, hfr, l9, n9, vC, bD, aB⟩ h;refine E_joinC h (fun (s : Unit) e w => ∃ (g : Gh) , Fr gI wI g w ∧ e 0 = up0 ∧ RV g.m w (x0 : List Int) up0 ∧ e 1 = up1 ∧ RV g.m w (x1 : List Int) up1 ∧ e 5 = .int .i64 (o0)) (fun X57 k57 iE h => ?_) ?_
   ·refine E_seq (E_region (EL_mv aB rfl ?_))
    refine EL_mv l9 rfl ?_;refine EL_p (.int .i64 ((x0).length : Int)) (P_len Tryd.underlying34 rfl n9) rfl ?_;refine EL_in (.bool ((decide (o0 < ((x0).length : Int))))) rfl rfl rfl rfl ?_;refine EL_nil (thn_n ?_);rcases csome h with ⟨l8, h⟩ | ⟨l8, h⟩
    ·refine E_ct l8 rfl ?_
     exact E_skip (thn_n (iE () _ _ ⟨lD, hfr, l9, n9, vC, bD, aB⟩ h))
    ·refine E_cf l8 rfl ?_
     refine E_exit ?_;refine thn_e ?_;refine thn_e ?_;refine blk_hit ?_;exact thn_n (aE () _ _ ⟨lD, hfr⟩ h)
   ·rintro _ sF aG ⟨uE, hfr, lB, l5, mB, t5, i6⟩ h
    refine E_joinC h (fun (s : Unit) e w => ∃ (g : Gh) , Fr gI wI g w ∧ e 0 = up0 ∧ RV g.m w (x0 : List Int) up0 ∧ e 1 = up1 ∧ RV g.m w (x1 : List Int) up1 ∧ e 5 = .int .i64 (o0)) (fun X81 cD lE h => ?_) ?_
    ·refine E_block ?_
     refine E_seq ?_;obtain ⟨n8, nB, h⟩ := bsome h;have vE := PT_idx l5 nB;refine L_load (x := .tmp 19) Tryd.isAgg3 Tryd.sizeOf3 vE fun bG xE mE => ?_;obtain rfl := RV_int.1 xE;obtain ⟨v8, oB, h⟩ := bsome h;have yE := PT_idx t5 oB;refine L_load (x := .tmp 23) Tryd.isAgg3 Tryd.sizeOf3 yE fun cG zE oE => ?_;obtain rfl := RV_int.1 zE;refine E_drawL (g := uE) (n := 9) [] [0, 1, 2, 3, 4, 5, 6, 7, 8] rfl mixed (by kernel_rfl) trivial ?_;refine L_p up0 rfl rfl (P_move lB) ?_;refine L_p (.int .i64 (o0)) rfl rfl (P_move i6) ?_;refine L_p (ePtr up0 o0 1) rfl rfl (P_indexAddr (α := Int) Tryd.underlying34 Tryd.sizeOf3 rfl l5 rfl nB) ?_;refine L_ld (c := .int .i64 (n8)) rfl rfl .plain (fun _ _ h => h.ch) mE rfl ?_;refine L_p up1 rfl rfl (P_move mB) ?_;refine L_p (.int .i64 (o0)) rfl rfl (P_move i6) ?_;refine L_p (ePtr up1 o0 1) rfl rfl (P_indexAddr (α := Int) Tryd.underlying34 Tryd.sizeOf3 rfl t5 rfl oB) ?_;refine L_ld (c := .int .i64 (v8)) rfl rfl .plain (fun _ _ h => h.ch) oE rfl ?_;refine L_p (.bool ((n8 != v8))) rfl rfl (P_int rfl rfl rfl) ?_;refine L_nl fun cF eG hs => ?_;have hfr := hfr.ext hs;have l5 := l5.ext hs;have t5 := t5.ext hs;clear hs;refine EL_nil (thn_n ?_);rcases csome h with ⟨g8, h⟩ | ⟨g8, h⟩
     ·refine E_ct g8 rfl ?_
      refine E_seq (E_region (EL_at (.bool false) rfl rfl ?_));refine EL_nil (thn_n (E_ret (blk_r ?_)));refine thn_r ?_;refine thn_r ?_;refine blk_r ?_;refine thn_r ?_;obtain rfl := sinj h;exact end1 rfl rfl (show _ = .bool false from rfl) ⟨_, hfr, rfl⟩
     ·refine E_cf g8 rfl ?_
      exact E_skip (blk_n (thn_n (lE () _ _ ⟨cF, hfr, lB, l5, mB, t5, i6⟩ h)))
    ·rintro _ dF tF ⟨rE, hfr, vB, yB, zB, cC, uC⟩ h
     refine E_region (EL_mv uC rfl ?_);refine EL_in (.int .i64 ((w64 (o0 + (1 : Int))))) rfl rfl rfl rfl ?_;refine EL_at (.int .i64 ((w64 (o0 + (1 : Int))))) rfl rfl ?_;exact EL_nil (thn_n (bE ((w64 (o0 + (1 : Int)))) _ _ ⟨rE, hfr, vB, yB, zB, cC, rfl⟩ h))
  ·rintro _ eF uF ⟨vF, hfr⟩ h
   refine E_seq (E_region (EL_at (.bool true) rfl rfl ?_));refine EL_nil (thn_n (E_ret ?_));obtain rfl := sinj h;exact end1 rfl rfl (show _ = .bool true from rfl) ⟨_, hfr, rfl⟩
def f15 (x0 : PayList) : Option (PayList) :=
 (apnd 16 (([] : List PayRate)) ((x0).Rates)).bind fun y7 =>
 (apnd 8 (([] : List Int)) ((x0).Extras)).bind fun o0 =>
 some ({ { x0 with Rates := y7 } with Extras := o0 })
theorem en15 : Enters Tryd.prog 15 := enters_of Tryd.func15 (by kernel_rfl) rfl
theorem wk15 {gI : Gh} {wI : World} {x0 : PayList} {up0 : Value} (rp0 : RV gI.m wI x0 up0) {r : PayList} (h : f15 x0 = some r) : Fn Tryd.prog 15 #[up0] gI wI (fun m w v => RV m w (r) v) := by
 unfold f15 at h;refine fn_of_E Tryd.func15 rfl (Nat.le_of_ble_eq_true rfl) fun g0 hm hfr => ?_;have rp0 : RV g0.m wI x0 up0 := hm ▸ rp0;show E _ 14 none _ _ _ _ _;refine E_seq (E_region (EL_do .plain rfl (D_boxO (g := g0) 2001 rfl rp0 fun g1 w1 p1 hs b1 => ?_)));have hfr := hfr.stp hs;refine EL_do .plain rfl (D_allocOc (g := g1) 2002 (⟨[], [], 0, 0⟩ : PayList) Tryd.zeroValue58 (fun m w => ⟨_, (rep_two rep_nil (rep_two rep_nil (rep_two rep_int rep_int))), rfl⟩) fun g2 w2 p2 hs b2 cb => ?_);have hfr := hfr.stp hs;have b1 := b1.stp hs rfl;have uC : OSF 2002 60200 0 g2 w2 55 58 ([] : List PayRate) p2 := cb.osf (by rfl);have vC : OSF 2002 60201 1 g2 w2 3 58 ([] : List Int) p2 := cb.osf (by rfl);clear cb;refine EL_nil (thn_n (E_seq (L_loadO (x := .tmp 4) part_PayList_0.1 Tryd.isAgg56 Tryd.sizeOf56 b1 fun v5 r5 aB => ?_)));obtain ⟨y7, lB, h⟩ := bsome h;refine L_loadO (x := .tmp 8) part_PayList_1.1 Tryd.isAgg34 Tryd.sizeOf34 b1 fun mB nB n8 => ?_;obtain ⟨o0, l9, h⟩ := bsome h;refine E_drawL (g := g2) (n := 9) [(0, (fun v g w => RV g.m w ([] : List PayRate) v ∧ OS 3003 g w 55 ([] : List PayRate) v ∧ FullV v)), (3, (fun v g w => RV g.m w y7 v ∧ OS 3003 g w 55 y7 v)), (4, (fun v g w => RV g.m w ([] : List Int) v ∧ OS 3007 g w 3 ([] : List Int) v ∧ FullV v)), (7, (fun v g w => RV g.m w o0 v ∧ OS 3007 g w 3 o0 v))] [0, 1, 2, 3, 4, 5, 6, 7, 8] rfl mixed (by kernel_rfl) (⟨fun _ => up_and up_rv (up_and up_os (up_eq _)), fun _ => up_and up_rv up_os, fun _ => up_and up_rv (up_and up_os (up_eq _)), fun _ => up_and up_rv up_os, trivial⟩) ?_;refine L_do (φ := fun v g w => RV g.m w ([] : List PayRate) v ∧ OS 3003 g w 55 ([] : List PayRate) v ∧ FullV v) rfl rfl .plain (fun g w hd => D_buildSlice (g := g) 3003 (xs := ([] : List PayRate)) (vs := []) Tryd.underlying56 Tryd.sizeOf55 Tryd.zeroValue55 rfl rfl .nil RVs.nil rfl rfl fun g' w' v hs o r hxt hfl => ⟨g', hxt, r, o, hfl⟩) (fun v3 hv => ?_);clear hv;refine L_p (fPtr p1 0) rfl rfl (P_fieldAddr at_58_0 rfl (OB.ptr b1)) ?_;refine L_ld (c := v5) rfl rfl .plain (fun _ _ h => ⟨h.ch, fun b hb _ => h.below.block b hb⟩) aB rfl ?_;refine L_do (φ := fun v g w => RV g.m w y7 v ∧ OS 3003 g w 55 y7 v) rfl rfl .plain (fun g w hd => D_append (g := g) (i := 3003) Tryd.underlying56 info_55 rfl rfl (word (A := fun g w => RV g.m w ([] : List PayRate) v3 ∧ OS 3003 g w 55 ([] : List PayRate) v3 ∧ FullV v3) 0 rfl rfl (deps_of hd)).2.1 (word (A := fun g w => RV g.m w ([] : List PayRate) v3 ∧ OS 3003 g w 55 ([] : List PayRate) v3 ∧ FullV v3) 0 rfl rfl (deps_of hd)).1 rfl (r5.ext hd.1) lB fun g' w' v hs o r hf => ⟨g', hf (word (A := fun g w => RV g.m w ([] : List PayRate) v3 ∧ OS 3003 g w 55 ([] : List PayRate) v3 ∧ FullV v3) 0 rfl rfl (deps_of hd)).2.2, r, o⟩) (fun v6 hv => ?_);clear hv;refine L_do (φ := fun v g w => RV g.m w ([] : List Int) v ∧ OS 3007 g w 3 ([] : List Int) v ∧ FullV v) rfl rfl .plain (fun g w hd => D_buildSlice (g := g) 3007 (xs := ([] : List Int)) (vs := []) Tryd.underlying34 Tryd.sizeOf3 Tryd.zeroValue3 rfl rfl .nil RVs.nil rfl rfl fun g' w' v hs o r hxt hfl => ⟨g', hxt, r, o, hfl⟩) (fun v8 hv => ?_);clear hv;refine L_p (fPtr p1 1) rfl rfl (P_fieldAddr at_58_1 rfl (OB.ptr b1)) ?_;refine L_ld (c := mB) rfl rfl .plain (fun _ _ h => ⟨h.ch, fun b hb _ => h.below.block b hb⟩) n8 rfl ?_;refine L_do (φ := fun v g w => RV g.m w o0 v ∧ OS 3007 g w 3 o0 v) rfl rfl .plain (fun g w hd => D_append (g := g) (i := 3007) Tryd.underlying34 info_3 rfl rfl (word (A := fun g w => RV g.m w ([] : List Int) v8 ∧ OS 3007 g w 3 ([] : List Int) v8 ∧ FullV v8) 4 rfl rfl (deps_of hd)).2.1 (word (A := fun g w => RV g.m w ([] : List Int) v8 ∧ OS 3007 g w 3 ([] : List Int) v8 ∧ FullV v8) 4 rfl rfl (deps_of hd)).1 rfl (nB.ext hd.1) l9 fun g' w' v hs o r hf => ⟨g', hf (word (A := fun g w => RV g.m w ([] : List Int) v8 ∧ OS 3007 g w 3 ([] : List Int) v8 ∧ FullV v8) 4 rfl rfl (deps_of hd)).2.2, r, o⟩) (fun l5 hv => ?_);clear hv;refine L_p (fPtr p1 0) rfl rfl (P_fieldAddr at_58_0 rfl (OB.ptr b1)) ?_;refine L_nil fun oB bD hall => ?_;have hs := hall.1
 have hfr := hfr.ext hs;have b1 := b1.ext hs;have b2 := b2.ext hs;have cD := (word_all (A := fun g w => RV g.m w ([] : List PayRate) v3 ∧ OS 3003 g w 55 ([] : List PayRate) v3 ∧ FullV v3) 0 rfl hall).1;have o18 := (word_all (A := fun g w => RV g.m w ([] : List PayRate) v3 ∧ OS 3003 g w 55 ([] : List PayRate) v3 ∧ FullV v3) 0 rfl hall).2.1;have g8 := (word_all (A := fun g w => RV g.m w y7 v6 ∧ OS 3003 g w 55 y7 v6) 3 rfl hall).1;have o21 := (word_all (A := fun g w => RV g.m w y7 v6 ∧ OS 3003 g w 55 y7 v6) 3 rfl hall).2;have lD := (word_all (A := fun g w => RV g.m w ([] : List Int) v8 ∧ OS 3007 g w 3 ([] : List Int) v8 ∧ FullV v8) 4 rfl hall).1;have o22 := (word_all (A := fun g w => RV g.m w ([] : List Int) v8 ∧ OS 3007 g w 3 ([] : List Int) v8 ∧ FullV v8) 4 rfl hall).2.1;have t5 := (word_all (A := fun g w => RV g.m w o0 l5 ∧ OS 3007 g w 3 o0 l5) 7 rfl hall).1;have o25 := (word_all (A := fun g w => RV g.m w o0 l5 ∧ OS 3007 g w 3 o0 l5) 7 rfl hall).2;clear hs hall;refine EL_do .plain rfl (D_storeFc (g := oB) part_PayList_0 Tryd.sizeOf56 rfl b1 rfl g8 fun vB nD hs b27 rst hos => ?_);have i6 := hos _ _ 3003 55 (y7 : List PayRate) (rv_cells1 g8) rfl o21;clear rst hos;have hfr := hfr.stp hs;have b2 := b2.stp hs rfl;have t5 := t5.stp hs;have o25 := o25.stp hs rfl;refine EL_p (fPtr p1 1) (P_fieldAddr at_58_1 rfl (OB.ptr b27)) rfl ?_;refine EL_do .plain rfl (D_storeFc (g := vB) part_PayList_1 Tryd.sizeOf34 rfl b27 rfl t5 fun l8 w29 hs b29 rst hos => ?_);have i6 := i6.rest hs rst;have cC := hos _ _ 3007 3 (o0 : List Int) (rv_cells1 t5) rfl o25;clear rst hos;have hfr := hfr.stp hs;have b2 := b2.stp hs rfl;refine EL_nil (thn_n (E_seq (E_region (EL_do .plain rfl (D_loadO (g := l8) Tryd.isAgg58 Tryd.sizeOf58 rfl b29 fun yB zB => ?_)))));refine EL_do .plain rfl (D_storeOc (g := l8) (v := yB) Tryd.sizeOf58 rfl b2 rfl zB fun oD yD hs b31 cb => ?_);clear cb;have hfr := hfr.stp hs;refine EL_nil (thn_n (E_ret ?_));obtain rfl := sinj h;obtain ⟨ad32, cv32, hp32, n9, cr32⟩ := ob_read Tryd.isAgg58 Tryd.sizeOf58 b31;exact endm_c rfl rfl ((show _ = p2 from rfl).trans hp32) n9 ⟨_, hfr, cr32⟩
def f25 (x0 : U64) : Option ((List Int)) :=
 Option.bind (α := (List Int)) (
  lp (σ := U64 × (List Int)) (fun lD (o0, l5) =>
   jn (σ := Unit) (fun _ =>
    Option.bind (α := (List Int)) (
     (ctzU ((o0).n)).bind fun l9 =>
     (apnd 8 l5 (([l9] : List Int))).bind fun nD =>
     some (nD)
     ) fun t5 =>
    lD ((⟨bitU .and ((o0).n) (wu64 (((o0).n) - ((1 : Int))))⟩ : U64), t5)
    ) fun k19 =>
   bif ((o0).n != (0 : Int)) then
    k19 ()
   else
    some (l5)
   ) big (x0, [])
  ) fun i6 =>
 some (i6)
theorem en25 : Enters Tryd.prog 25 := enters_of Tryd.func25 (by kernel_rfl) rfl
theorem wk25 {gI : Gh} {wI : World} {x0 : U64} (hT : TabF 1 gI.m wI) {r : (List Int)} (h : f25 x0 = some r) : Fn Tryd.prog 25 #[.int .u64 ((x0).n)] gI wI (fun m w v => RV m w (r) v) := by
 unfold f25 at h;refine fn_of_E Tryd.func25 rfl (Nat.le_of_ble_eq_true rfl) fun g0 hm hfr => ?_;have hT : TabF 1 g0.m wI := hm ▸ hT;show E _ 15 none _ _ _ _ _;refine E_seq (E_region (EL_at (.slice none 0 0) rfl rfl ?_));refine EL_nil (thn_n ?_);obtain ⟨i6, hx, h⟩ := bsome h;refine E_join (fun e w => ∃ (g : Gh) (v2 : Value), Fr gI wI g w ∧ e 2 = v2 ∧ RV g.m w (i6 : List Int) v2 ∧ OS 1002 g w 3 (i6 : List Int) v2 ∧ TabF 1 g.m w) (fun Q' hQ => ?_) (fun yE eF hR => ?_)
 ·replace h := hx
  clear hx;refine E_block ?_;refine E_lp h (fun (s : U64 × (List Int)) e w => ∃ (g : Gh) (v2 : Value), Fr gI wI g w ∧ e 0 = .int .u64 ((s.1).n) ∧ e 2 = v2 ∧ RV g.m w (s.2 : List Int) v2 ∧ OS 1002 g w 3 (s.2 : List Int) v2 ∧ TabF 1 g.m w) ⟨g0, (.slice none 0 0), hfr, rfl, rfl, RV_nil, OS.nil, hT⟩ (fun X16 lD aE => ?_);rintro ⟨o0, l5⟩ zE rF ⟨oD, g8, hfr, n9, aB, lB, mB, hT⟩ h;refine E_joinC h (fun (s : Unit) e w => ∃ (g : Gh) , Fr gI wI g w ∧ e 0 = .int .u64 ((o0).n) ∧ e 2 = g8 ∧ RV g.m w (l5 : List Int) g8 ∧ OS 1002 g w 3 (l5 : List Int) g8 ∧ TabF 1 g.m w) (fun X19 k19 bE h => ?_) ?_
  ·refine E_seq (E_region (EL_mv n9 rfl ?_))
   refine EL_p (.bool ((o0).n != (0 : Int))) (P_u64cmp rfl rfl rfl) rfl ?_;refine EL_nil (thn_n ?_);rcases csome h with ⟨v8, h⟩ | ⟨v8, h⟩
   ·refine E_ct v8 rfl ?_
    exact E_skip (thn_n (bE () _ _ ⟨oD, hfr, n9, aB, lB, mB, hT⟩ h))
   ·refine E_cf v8 rfl ?_
    refine E_exit ?_;refine thn_e ?_;refine thn_e ?_;refine blk_hit ?_;obtain rfl := sinj h;exact hQ _ _ ⟨oD, (g8), hfr, aB, lB, mB, hT⟩
  ·rintro _ cF sF ⟨yD, hfr, nB, yB, l8, n8, hT⟩ h
   obtain ⟨t5, hx, h⟩ := bsome h;refine E_join (fun e w => ∃ (g : Gh) (v2 : Value), Fr gI wI g w ∧ e 0 = .int .u64 ((o0).n) ∧ e 2 = v2 ∧ RV g.m w (t5 : List Int) v2 ∧ OS 1002 g w 3 (t5 : List Int) v2 ∧ TabF 1 g.m w) (fun Q' hQ => ?_) (fun dF tF hR => ?_)
   ·replace h := hx
    clear hx;refine E_block ?_;refine E_region (EL_mv yB rfl ?_);refine EL_mv nB rfl ?_;obtain ⟨l9, iE, h⟩ := bsome h;refine EL_do .plain rfl (D_ctz (g := yD) en49 tz_ok hT rfl iE ?_);refine EL_do .plain rfl (D_buildSlice (g := yD) 3012 (xs := ([l9] : List Int)) (vs := [.int .i64 l9]) Tryd.underlying34 Tryd.sizeOf3 Tryd.zeroValue3 rfl rfl (.cons rfl .nil) (RVs.cons (RV_int.2 rfl) RVs.nil) rfl rfl fun mE uF vF hs o27 oE hxt hfl => ?_);have hfr := hfr.stp hs;have l8 := l8.stp hs;have n8 := n8.stp hs rfl;have hT := hT.stp hs;obtain ⟨nD, lE, h⟩ := bsome h;refine EL_do .plain rfl (D_append (g := mE) (i := 1002) Tryd.underlying34 info_3 rfl rfl n8 l8 rfl oE lE fun rE xF zD hs o28 uE _ => ?_);have hfr := hfr.stp hs;have hT := hT.stp hs;refine EL_at zD rfl rfl ?_;refine EL_nil (blk_n ?_);obtain rfl := sinj h;exact hQ _ _ ⟨rE, (zD), hfr, nB, rfl, uE, o28, hT⟩
   ·clear hx
    obtain ⟨vE, zB, hfr, oB, cC, uC, vC, hT⟩ := hR;refine E_region (EL_mv oB rfl ?_);refine EL_mv oB rfl ?_;refine EL_p (.int .u64 (wu64 (((o0).n) - ((1 : Int))))) (P_usub rfl rfl) rfl ?_;refine EL_p (.int .u64 (bitU .and ((o0).n) (wu64 (((o0).n) - ((1 : Int)))))) (P_bitU (by simp) rfl rfl) rfl ?_;refine EL_at (.int .u64 (bitU .and ((o0).n) (wu64 (((o0).n) - ((1 : Int)))))) rfl rfl ?_;exact EL_nil (thn_n (aE ((⟨bitU .and ((o0).n) (wu64 (((o0).n) - ((1 : Int))))⟩ : U64), t5) _ _ ⟨vE, (zB), hfr, rfl, cC, uC, vC, hT⟩ h))
 ·clear hx
  obtain ⟨yF, vB, hfr, bD, cD, xE, hT⟩ := hR;refine E_seq (E_region (EL_mv bD rfl ?_));refine EL_at vB rfl rfl ?_;refine EL_nil (thn_n (E_ret ?_));obtain rfl := sinj h;exact end1 rfl rfl (show _ = vB from rfl) ⟨_, hfr, cD⟩
def f26 (x0 : ShadeStore) (x1 : U64) : Option (Int) :=
 Option.bind (α := Int) (
  (f25 x1).bind fun l5 =>
  lp (σ := Int × Int) (fun k28 (t5, o0) =>
   bif (decide (o0 < ((l5).length : Int))) then
    Option.bind (α := Int) (
     (idx l5 o0).bind fun y40 =>
     (idx ((x0).lots) y40).bind fun lB =>
     some ((w64 (t5 + (lB).Grams)))
     ) fun g8 =>
    k28 (g8, (w64 (o0 + (1 : Int))))
   else
    some (t5)
   ) big ((0 : Int), (0 : Int))
  ) fun i6 =>
 some (i6)
theorem en26 : Enters Tryd.prog 26 := enters_of Tryd.func26 (by kernel_rfl) rfl
theorem wk26 {gI : Gh} {wI : World} {x0 : ShadeStore} {x1 : U64} {up0 : Value} (rp0 : RV gI.m wI x0 up0) (hT : TabF 1 gI.m wI) {r : Int} (h : f26 x0 x1 = some r) : Fn Tryd.prog 26 #[up0, .int .u64 ((x1).n)] gI wI (fun _ _ v => v = .int .i64 (r)) := by
 unfold f26 at h;refine fn_of_E Tryd.func26 rfl (Nat.le_of_ble_eq_true rfl) fun g0 hm hfr => ?_;have hT : TabF 1 g0.m wI := hm ▸ hT;have rp0 : RV g0.m wI x0 up0 := hm ▸ rp0;show E _ 24 none _ _ _ _ _;refine E_seq (E_region (EL_do .plain rfl (D_box (g := g0) rfl rp0 fun g1 w1 p1 hs q1 => ?_)));have hfr := hfr.ext hs;have hT := hT.ext hs;refine EL_at (.int .i64 (0)) rfl rfl ?_;refine EL_nil (thn_n ?_);obtain ⟨i6, hx, h⟩ := bsome h;refine E_join (fun e w => ∃ (g : Gh) , Fr gI wI g w ∧ e 4 = .int .i64 (i6) ∧ TabF 1 g.m w) (fun Q' hQ => ?_) (fun zE rF hR => ?_)
 ·replace h := hx
  clear hx;refine E_seq (E_region (EL_mw (.int .u64 ((x1).n)) rfl rfl ?_));obtain ⟨l5, iE, h⟩ := bsome h;refine EL_do .plain rfl (D_call (g := g1) (vs := [.int .u64 ((x1).n)]) en25 (.cons rfl .nil) (wk25 (hT := hT)  iE) fun mE cF l9 hs hr => ?_);have hfr := hfr.ext hs;have hT := hT.ext hs;have q1 := q1.ext hs;have yD := hr;refine EL_p (.int .i64 ((l5).length : Int)) (P_len Tryd.underlying34 rfl yD) rfl ?_;refine EL_mw (.int .i64 (0)) rfl rfl ?_;refine EL_nil (thn_n (E_block ?_));refine E_lp h (fun (s : Int × Int) e w => ∃ (g : Gh) , Fr gI wI g w ∧ e 2 = p1 ∧ PT g.m w (x0 : ShadeStore) p1 ∧ e 4 = .int .i64 (s.1) ∧ e 8 = l9 ∧ RV g.m w (l5 : List Int) l9 ∧ e 9 = .int .i64 (((l5).length : Int)) ∧ e 10 = .int .i64 (s.2) ∧ TabF 1 g.m w) ⟨mE, hfr, rfl, q1, rfl, rfl, yD, rfl, rfl, hT⟩ (fun X28 k28 lE => ?_);rintro ⟨t5, o0⟩ dF w29 ⟨n9, hfr, mB, n8, nB, oB, v8, vB, l8, hT⟩ h;refine E_seq (E_region (EL_in (.bool ((decide (o0 < ((l5).length : Int))))) l8 vB rfl rfl ?_));refine EL_nil (thn_n (E_seq ?_));rcases csome h with ⟨aB, h⟩ | ⟨aB, h⟩
  ·refine E_ct aB rfl ?_
   refine E_skip (thn_n ?_);obtain ⟨g8, hx, h⟩ := bsome h;refine E_join (fun e w => ∃ (g : Gh) , Fr gI wI g w ∧ e 2 = p1 ∧ PT g.m w (x0 : ShadeStore) p1 ∧ e 4 = .int .i64 (g8) ∧ e 8 = l9 ∧ RV g.m w (l5 : List Int) l9 ∧ e 9 = .int .i64 (((l5).length : Int)) ∧ e 10 = .int .i64 (o0) ∧ TabF 1 g.m w) (fun Q' hQ => ?_) (fun eF sF hR => ?_)
   ·replace h := hx
    clear hx;refine E_block ?_;refine E_seq (E_region ?_);obtain ⟨y40, yB, h⟩ := bsome h;refine EL_p (ePtr l9 o0 1) (P_indexAddr (α := Int) Tryd.underlying34 Tryd.sizeOf3 oB v8 l8 yB) rfl ?_;have oE := PT_idx v8 yB;refine EL_do .plain rfl (D_load (g := n9) Tryd.isAgg3 Tryd.sizeOf3 rfl oE fun tF rE => ?_);obtain rfl := RV_int.1 rE;refine EL_at (.int .i64 (y40)) rfl rfl ?_;refine EL_nil (thn_n (E_region (EL_mv nB rfl ?_)));refine EL_p (fPtr p1 0) (P_fieldAddr at_48_0 mB (PT.ptr n8)) rfl ?_;have uE := PT_field (part_ShadeStore_0).1 n8;refine EL_do .plain rfl (D_load (g := n9) Tryd.isAgg25 Tryd.sizeOf25 rfl uE fun zD aE => ?_);refine EL_mw (.int .i64 (y40)) rfl rfl ?_;obtain ⟨lB, zB, h⟩ := bsome h;refine EL_p (ePtr zD y40 4) (P_indexAddr (α := ShadeLot) Tryd.underlying25 Tryd.sizeOf31 rfl aE rfl zB) rfl ?_;have bE := PT_idx aE zB;refine EL_p (fPtr (ePtr zD y40 4) 3) (P_fieldAddr at_31_2 rfl (PT.ptr bE)) rfl ?_;have vE := PT_field (part_ShadeLot_2).1 bE;refine EL_do .plain rfl (D_load (g := n9) Tryd.isAgg3 Tryd.sizeOf3 rfl vE fun uF xE => ?_);obtain rfl := RV_int.1 xE;refine EL_in (.int .i64 ((w64 (t5 + (lB).Grams)))) rfl rfl rfl rfl ?_;refine EL_at (.int .i64 ((w64 (t5 + (lB).Grams)))) rfl rfl ?_;refine EL_nil (blk_n ?_);obtain rfl := sinj h;exact hQ _ _ ⟨n9, hfr, mB, n8, rfl, oB, v8, vB, l8, hT⟩
   ·clear hx
    obtain ⟨yE, hfr, uC, vC, bD, cD, lD, nD, cC, hT⟩ := hR;refine E_region (EL_in (.int .i64 ((w64 (o0 + (1 : Int))))) cC rfl rfl rfl ?_);refine EL_mw (.int .i64 ((w64 (o0 + (1 : Int))))) rfl rfl ?_;exact EL_nil (thn_n (lE (g8, (w64 (o0 + (1 : Int)))) _ _ ⟨yE, hfr, uC, vC, bD, cD, lD, nD, rfl, hT⟩ h))
  ·refine E_cf aB rfl ?_
   refine E_exit ?_;refine thn_e ?_;refine thn_e ?_;refine blk_hit ?_;obtain rfl := sinj h;exact hQ _ _ ⟨n9, hfr, nB, hT⟩
 ·clear hx
  obtain ⟨vF, hfr, oD, hT⟩ := hR;refine E_seq (E_region (EL_mv oD rfl ?_));refine EL_at (.int .i64 (i6)) rfl rfl ?_;refine EL_nil (thn_n (E_ret ?_));obtain rfl := sinj h;exact end1 rfl rfl (show _ = .int .i64 (i6) from rfl) ⟨_, hfr, rfl⟩
def f28 (x0 : List Int) : Option (Int) :=
 jn (σ := Unit) (fun _ =>
  some ((0 : Int))
  ) fun k14 =>
 lp (σ := Int) (fun yB o0 =>
  bif (decide (o0 < ((x0).length : Int))) then
   jn (σ := Unit) (fun _ =>
    yB ((w64 (o0 + (1 : Int))))
    ) fun zB =>
   (idx x0 o0).bind fun y23 =>
   bif (y23 != (0 : Int)) then
    some (y23)
   else
    zB ()
  else
   k14 ()
  ) big ((0 : Int))
theorem en28 : Enters Tryd.prog 28 := enters_of Tryd.func28 (by kernel_rfl) rfl
theorem wk28 {gI : Gh} {wI : World} {x0 : List Int} {up0 : Value} (rp0 : RV gI.m wI x0 up0) {r : Int} (h : f28 x0 = some r) : Fn Tryd.prog 28 #[up0] gI wI (fun _ _ v => v = .int .i64 (r)) := by
 unfold f28 at h;refine fn_of_E Tryd.func28 rfl (Nat.le_of_ble_eq_true rfl) fun g0 hm hfr => ?_;have rp0 : RV g0.m wI x0 up0 := hm ▸ rp0;show E _ 18 none _ _ _ _ _;refine E_seq (E_region (EL_at (.int .i64 (0)) rfl rfl ?_));refine EL_nil (thn_n (E_seq (E_region (EL_at (.int .i64 (0)) rfl rfl ?_))));refine EL_nil (thn_n (E_joinC h (fun (s : Unit) e w => ∃ (g : Gh) , Fr gI wI g w ∧ e 3 = .int .i64 ((0 : Int))) (fun X14 k14 cC h => ?_) ?_))
 ·refine E_seq (E_region (EL_mw up0 rfl rfl ?_))
  refine EL_p (.int .i64 ((x0).length : Int)) (P_len Tryd.underlying34 rfl rp0) rfl ?_;refine EL_mw (.int .i64 (0)) rfl rfl ?_;refine EL_nil (thn_n (E_block ?_));refine E_lp h (fun (s : Int) e w => ∃ (g : Gh) , Fr gI wI g w ∧ e 3 = .int .i64 ((0 : Int)) ∧ e 6 = up0 ∧ RV g.m w (x0 : List Int) up0 ∧ e 7 = .int .i64 (((x0).length : Int)) ∧ e 8 = .int .i64 (s)) ⟨g0, hfr, rfl, rfl, rp0, rfl, rfl⟩ (fun X15 yB uC => ?_);rintro o0 nD zD ⟨l9, hfr, l5, n8, t5, v8, i6⟩ h;refine E_seq (E_region (EL_in (.bool ((decide (o0 < ((x0).length : Int))))) i6 v8 rfl rfl ?_));refine EL_nil (thn_n (E_seq ?_));rcases csome h with ⟨g8, h⟩ | ⟨g8, h⟩
  ·refine E_ct g8 rfl ?_
   refine E_skip (thn_n (E_joinC h (fun (s : Unit) e w => ∃ (g : Gh) , Fr gI wI g w ∧ e 3 = .int .i64 ((0 : Int)) ∧ e 6 = up0 ∧ RV g.m w (x0 : List Int) up0 ∧ e 7 = .int .i64 (((x0).length : Int)) ∧ e 8 = .int .i64 (o0)) (fun X22 zB vC h => ?_) ?_))
   ·refine E_block ?_
    refine E_seq (E_region ?_);obtain ⟨y23, n9, h⟩ := bsome h;refine EL_p (ePtr up0 o0 1) (P_indexAddr (α := Int) Tryd.underlying34 Tryd.sizeOf3 n8 t5 i6 n9) rfl ?_;have bD := PT_idx t5 n9;refine EL_do .plain rfl (D_load (g := l9) Tryd.isAgg3 Tryd.sizeOf3 rfl bD fun aE cD => ?_);obtain rfl := RV_int.1 cD;refine EL_at (.int .i64 (y23)) rfl rfl ?_;refine EL_nil (thn_n (E_seq (E_region (EL_mw (.int .i64 (y23)) rfl rfl ?_))));refine EL_mv l5 rfl ?_;refine EL_in (.bool ((y23 != (0 : Int)))) rfl rfl rfl rfl ?_;refine EL_nil (thn_n ?_);rcases csome h with ⟨l8, h⟩ | ⟨l8, h⟩
    ·refine E_ct l8 rfl ?_
     refine E_seq (E_region (EL_mw (.int .i64 (y23)) rfl rfl ?_));refine EL_at (.int .i64 (y23)) rfl rfl ?_;refine EL_nil (thn_n (E_ret (blk_r ?_)));refine thn_r ?_;refine thn_r ?_;refine blk_r ?_;refine thn_r ?_;obtain rfl := sinj h;exact end1 rfl rfl (show _ = .int .i64 (y23) from rfl) ⟨_, hfr, rfl⟩
    ·refine E_cf l8 rfl ?_
     exact E_skip (blk_n (thn_n (vC () _ _ ⟨l9, hfr, l5, n8, t5, v8, i6⟩ h)))
   ·rintro _ oD bE ⟨lD, hfr, aB, lB, mB, nB, oB⟩ h
    refine E_region (EL_in (.int .i64 ((w64 (o0 + (1 : Int))))) oB rfl rfl rfl ?_);refine EL_mw (.int .i64 ((w64 (o0 + (1 : Int))))) rfl rfl ?_;exact EL_nil (thn_n (uC ((w64 (o0 + (1 : Int)))) _ _ ⟨lD, hfr, aB, lB, mB, nB, rfl⟩ h))
  ·refine E_cf g8 rfl ?_
   refine E_exit ?_;refine thn_e ?_;refine thn_e ?_;refine blk_hit ?_;exact thn_n (cC () _ _ ⟨l9, hfr, l5⟩ h)
 ·rintro _ yD iE ⟨lE, hfr, vB⟩ h
  refine E_seq (E_region (EL_mv vB rfl ?_));refine EL_at (.int .i64 ((0 : Int))) rfl rfl ?_;refine EL_nil (thn_n (E_ret ?_));obtain rfl := sinj h;exact end1 rfl rfl (show _ = .int .i64 ((0 : Int)) from rfl) ⟨_, hfr, rfl⟩
def f32 (x0 : PayPayList) (x1 : Int) (x2 : Int) : Option (Int) :=
 (quo64 (w64 (x1 * ((x0).PayList).Cap)) (1000 : Int)).bind fun y8 =>
 some ((min64 (w64 (x2 * ((x0).PayList).Fine)) y8))
theorem en32 : Enters Tryd.prog 32 := enters_of Tryd.func32 (by kernel_rfl) rfl
theorem wk32 {gI : Gh} {wI : World} {x0 : PayPayList} {x1 : Int} {x2 : Int} {up0 : Value} (rp0 : RV gI.m wI x0 up0) {r : Int} (h : f32 x0 x1 x2 = some r) : Fn Tryd.prog 32 #[up0, .int .i64 (x1), .int .i64 (x2)] gI wI (fun _ _ v => v = .int .i64 (r)) := by
 unfold f32 at h;refine fn_of_E Tryd.func32 rfl (Nat.le_of_ble_eq_true rfl) fun g0 hm hfr => ?_;have rp0 : RV g0.m wI x0 up0 := hm ▸ rp0;show E _ 19 none _ _ _ _ _;refine E_seq (E_region (EL_do .plain rfl (D_box (g := g0) rfl rp0 fun g1 w1 p1 hs q1 => ?_)));have hfr := hfr.ext hs;refine EL_at (.int .i64 (0)) rfl rfl ?_;refine EL_nil (thn_n (E_seq (E_region (EL_mw (.int .i64 (x2)) rfl rfl ?_))));refine EL_p (fPtr p1 0) (P_fieldAddr at_91_0 rfl (PT.ptr q1)) rfl ?_;have q2 := PT_field (part_PayPayList_0).1 q1;refine EL_p (fPtr (fPtr p1 0) 2) (P_fieldAddr at_58_2 rfl (PT.ptr q2)) rfl ?_;have q3 := PT_field (part_PayList_2).1 q2;refine EL_do .plain rfl (D_load (g := g1) Tryd.isAgg3 Tryd.sizeOf3 rfl q3 fun v4 r4 => ?_);obtain rfl := RV_int.1 r4;refine EL_in (.int .i64 ((w64 (x2 * ((x0).PayList).Fine)))) rfl rfl rfl rfl ?_;refine EL_mw (.int .i64 (x1)) rfl rfl ?_;refine EL_p (fPtr p1 0) (P_fieldAddr at_91_0 rfl (PT.ptr q1)) rfl ?_;have q5 := PT_field (part_PayPayList_0).1 q1;refine EL_p (fPtr (fPtr p1 0) 3) (P_fieldAddr at_58_3 rfl (PT.ptr q5)) rfl ?_;have q6 := PT_field (part_PayList_3).1 q5;refine EL_do .plain rfl (D_load (g := g1) Tryd.isAgg3 Tryd.sizeOf3 rfl q6 fun v7 r7 => ?_);obtain rfl := RV_int.1 r7;refine EL_in (.int .i64 ((w64 (x1 * ((x0).PayList).Cap)))) rfl rfl rfl rfl ?_;obtain ⟨y8, o0, h⟩ := bsome h;refine EL_p (.int .i64 (y8)) (P_int rfl rfl (congrArg (Option.map (Value.int .i64)) o0)) rfl ?_;refine EL_p (.int .i64 (min64 (w64 (x2 * ((x0).PayList).Fine)) y8)) (P_min rfl rfl) rfl ?_;refine EL_at (.int .i64 (min64 (w64 (x2 * ((x0).PayList).Fine)) y8)) rfl rfl ?_;refine EL_nil (thn_n (E_ret ?_));obtain rfl := sinj h;exact end1 rfl rfl (show _ = .int .i64 (min64 (w64 (x2 * ((x0).PayList).Fine)) y8) from rfl) ⟨_, hfr, rfl⟩
def f36 (x0 : List Int) : Option (Int × Int) :=
 Option.bind (α := Int × Int) (
  lp (σ := Int × Int × Int) (fun oD (l9, l5, o0) =>
   bif (decide (o0 < ((x0).length : Int))) then
    Option.bind (α := Int × Int) (
     (idx x0 o0).bind fun mB =>
     bif (mB != (0 : Int)) then
      some (o0, (w64 (l5 + (1 : Int))))
     else
      some (l9, l5)
     ) fun (l8, n8) =>
    oD (l8, n8, (w64 (o0 + (1 : Int))))
   else
    some (l9, l5)
   ) big ((0 : Int), (0 : Int), (0 : Int))
  ) fun (t5, i6) =>
 some (t5, i6)
theorem en36 : Enters Tryd.prog 36 := enters_of Tryd.func36 (by kernel_rfl) rfl
theorem wk36 {gI : Gh} {wI : World} {x0 : List Int} {up0 : Value} (rp0 : RV gI.m wI x0 up0) {r : Int × Int} (h : f36 x0 = some r) : Fn Tryd.prog 36 #[up0] gI wI (fun m w v => ∃ y0 y1, v = .tuple #[y0, y1] ∧ y0 = .int .i64 (r.1) ∧ y1 = .int .i64 (r.2)) := by
 unfold f36 at h;refine fn_of_E Tryd.func36 rfl (Nat.le_of_ble_eq_true rfl) fun g0 hm hfr => ?_;have rp0 : RV g0.m wI x0 up0 := hm ▸ rp0;show E _ 21 none _ _ _ _ _;refine E_seq (E_region (EL_at (.int .i64 (0)) rfl rfl ?_));refine EL_at (.int .i64 (0)) rfl rfl ?_;refine EL_nil (thn_n ?_);obtain ⟨⟨t5, i6⟩, hx, h⟩ := bsome h;refine E_join (fun e w => ∃ (g : Gh) , Fr gI wI g w ∧ e 2 = .int .i64 (t5) ∧ e 3 = .int .i64 (i6)) (fun Q' hQ => ?_) (fun iE oE hR => ?_)
 ·replace h := hx
  clear hx;refine E_seq (E_region (EL_mw up0 rfl rfl ?_));refine EL_p (.int .i64 ((x0).length : Int)) (P_len Tryd.underlying34 rfl rp0) rfl ?_;refine EL_mw (.int .i64 (0)) rfl rfl ?_;refine EL_nil (thn_n (E_block ?_));refine E_lp h (fun (s : Int × Int × Int) e w => ∃ (g : Gh) , Fr gI wI g w ∧ e 2 = .int .i64 (s.1) ∧ e 3 = .int .i64 (s.2.1) ∧ e 6 = up0 ∧ RV g.m w (x0 : List Int) up0 ∧ e 7 = .int .i64 (((x0).length : Int)) ∧ e 8 = .int .i64 (s.2.2)) ⟨g0, hfr, rfl, rfl, rfl, rp0, rfl, rfl⟩ (fun X13 oD yD => ?_);rintro ⟨l9, l5, o0⟩ lE rE ⟨vB, hfr, yB, n9, aB, v8, lB, g8⟩ h;refine E_seq (E_region (EL_in (.bool ((decide (o0 < ((x0).length : Int))))) g8 lB rfl rfl ?_));refine EL_nil (thn_n (E_seq ?_));rcases csome h with ⟨nB, h⟩ | ⟨nB, h⟩
  ·refine E_ct nB rfl ?_
   refine E_skip (thn_n ?_);obtain ⟨⟨l8, n8⟩, hx, h⟩ := bsome h;refine E_join (fun e w => ∃ (g : Gh) , Fr gI wI g w ∧ e 2 = .int .i64 (l8) ∧ e 3 = .int .i64 (n8) ∧ e 6 = up0 ∧ RV g.m w (x0 : List Int) up0 ∧ e 7 = .int .i64 (((x0).length : Int)) ∧ e 8 = .int .i64 (o0)) (fun Q' hQ => ?_) (fun mE uE hR => ?_)
   ·replace h := hx
    clear hx;refine E_block ?_;refine E_seq (E_region (EL_mv g8 rfl ?_));obtain ⟨mB, hy20, h⟩ := bsome h;refine EL_p (ePtr up0 o0 1) (P_indexAddr (α := Int) Tryd.underlying34 Tryd.sizeOf3 aB v8 g8 hy20) rfl ?_;have zD := PT_idx v8 hy20;refine EL_do .plain rfl (D_load (g := vB) Tryd.isAgg3 Tryd.sizeOf3 rfl zD fun vE aE => ?_);obtain rfl := RV_int.1 aE;refine EL_at (.int .i64 (o0)) rfl rfl ?_;refine EL_at (.int .i64 (mB)) rfl rfl ?_;refine EL_nil (thn_n (E_seq (E_region (EL_mw (.int .i64 (mB)) rfl rfl ?_))));refine EL_in (.bool ((mB != (0 : Int)))) rfl rfl rfl rfl ?_;refine EL_nil (thn_n ?_);rcases csome h with ⟨oB, h⟩ | ⟨oB, h⟩
    ·refine E_ct oB rfl ?_
     refine E_seq (E_region (EL_mw (.int .i64 (o0)) rfl rfl ?_));refine EL_at (.int .i64 (o0)) rfl rfl ?_;refine EL_nil (thn_n (E_region (EL_mv n9 rfl ?_)));refine EL_in (.int .i64 ((w64 (l5 + (1 : Int))))) rfl rfl rfl rfl ?_;refine EL_at (.int .i64 ((w64 (l5 + (1 : Int))))) rfl rfl ?_;refine EL_nil (blk_n ?_);obtain ⟨rfl, rfl⟩ := pairs2 h;exact hQ _ _ ⟨vB, hfr, rfl, rfl, aB, v8, lB, g8⟩
    ·refine E_cf oB rfl ?_
     refine E_skip (blk_n ?_);obtain ⟨rfl, rfl⟩ := pairs2 h;exact hQ _ _ ⟨vB, hfr, yB, n9, aB, v8, lB, g8⟩
   ·clear hx
    obtain ⟨bE, hfr, zB, cC, uC, vC, bD, cD⟩ := hR;refine E_region (EL_in (.int .i64 ((w64 (o0 + (1 : Int))))) cD rfl rfl rfl ?_);refine EL_mw (.int .i64 ((w64 (o0 + (1 : Int))))) rfl rfl ?_;exact EL_nil (thn_n (yD (l8, n8, (w64 (o0 + (1 : Int)))) _ _ ⟨bE, hfr, zB, cC, uC, vC, bD, rfl⟩ h))
  ·refine E_cf nB rfl ?_
   refine E_exit ?_;refine thn_e ?_;refine thn_e ?_;refine blk_hit ?_;obtain ⟨rfl, rfl⟩ := pairs2 h;exact hQ _ _ ⟨vB, hfr, yB, n9⟩
 ·clear hx
  obtain ⟨xE, hfr, lD, nD⟩ := hR;refine E_seq (E_region (EL_mv lD rfl ?_));refine EL_mv nD rfl ?_;refine EL_at (.int .i64 (t5)) rfl rfl ?_;refine EL_at (.int .i64 (i6)) rfl rfl ?_;refine EL_nil (thn_n (E_ret ?_));obtain rfl := sinj h;exact end2 rfl rfl (show _ = .int .i64 (t5) from rfl) (show _ = .int .i64 (i6) from rfl) ⟨_, hfr, _, _, rfl, rfl, rfl⟩
def f39 (x0 : Int) (z0 : Int) (z1 : Int) : Option (Bool) :=
 Option.bind (α := Bool) (
  bif (decide (x0 < z0)) then
   some (true)
  else
   some ((decide (x0 > z1)))
  ) fun o0 =>
 some (o0)
theorem en39 : Enters Tryd.prog 39 := enters_of Tryd.func39 (by kernel_rfl) rfl
theorem wk39 {gI : Gh} {wI : World} {x0 : Int} {z0 : Int} {z1 : Int} {pf0 : Value} (qf0 : PT gI.m wI z0 pf0) {pf1 : Value} (qf1 : PT gI.m wI z1 pf1) {r : Bool} (h : f39 x0 z0 z1 = some r) : Fn Tryd.prog 39 #[.int .i64 (x0), pf0, pf1] gI wI (fun _ _ v => v = .bool (r)) := by
 unfold f39 at h;refine fn_of_E Tryd.func39 rfl (Nat.le_of_ble_eq_true rfl) fun g0 hm hfr => ?_;have qf0 : PT g0.m wI z0 pf0 := hm ▸ qf0;have qf1 : PT g0.m wI z1 pf1 := hm ▸ qf1;show E _ 13 none _ _ _ _ _;refine E_seq (E_region (EL_at (.bool false) rfl rfl ?_));refine EL_nil (thn_n ?_);obtain ⟨o0, hx, h⟩ := bsome h;refine E_join (fun e w => ∃ (g : Gh) , Fr gI wI g w ∧ e 4 = .bool (o0)) (fun Q' hQ => ?_) (fun t5 w7 hR => ?_)
 ·replace h := hx
  clear hx;refine E_region (EL_mw (.int .i64 (x0)) rfl rfl ?_);refine EL_do .plain rfl (D_load (g := g0) Tryd.isAgg3 Tryd.sizeOf3 rfl qf0 fun v4 r4 => ?_);obtain rfl := RV_int.1 r4;refine EL_in (.bool ((decide (x0 < z0)))) rfl rfl rfl rfl ?_;refine EL_mw (.bool ((decide (x0 < z0)))) rfl rfl ?_;rcases csome h with ⟨hc5, h⟩ | ⟨hc5, h⟩
  ·refine EL_s rfl rfl hc5 rfl rfl ?_
   refine EL_s rfl rfl hc5 rfl rfl ?_;refine EL_s rfl rfl hc5 rfl rfl ?_;refine EL_p (.bool true) (P_pick (b := (decide (x0 < z0))) rfl (pick_t hc5 rfl)) rfl ?_;refine EL_at (.bool true) rfl rfl ?_;refine EL_nil ?_;obtain rfl := sinj h;exact hQ _ _ ⟨g0, hfr, rfl⟩
  ·refine EL_y (.int .i64 (x0)) (P_move rfl) rfl rfl hc5 rfl ?_
   refine EL_do (.yes2 rfl rfl hc5) rfl (D_load (g := g0) Tryd.isAgg3 Tryd.sizeOf3 rfl qf1 fun v6 r6 => ?_);obtain rfl := RV_int.1 r6;refine EL_y (.bool ((decide (x0 > z1)))) (P_int rfl rfl rfl) rfl rfl hc5 rfl ?_;refine EL_p (.bool ((decide (x0 > z1)))) (P_pick (b := (decide (x0 < z0))) rfl (pick_f hc5 rfl)) rfl ?_;refine EL_at (.bool ((decide (x0 > z1)))) rfl rfl ?_;refine EL_nil ?_;obtain rfl := sinj h;exact hQ _ _ ⟨g0, hfr, rfl⟩
 ·clear hx
  obtain ⟨g7, hfr, l5⟩ := hR;refine E_ret ?_;obtain rfl := sinj h;exact end1 rfl rfl (show _ = .bool (o0) from l5) ⟨_, hfr, rfl⟩
def f41 (x0 : Int) : Option (Bool) :=
 some ((x0 != x0))
theorem en41 : Enters Tryd.prog 41 := enters_of Tryd.func41 (by kernel_rfl) rfl
theorem wk41 {gI : Gh} {wI : World} {x0 : Int}  {r : Bool} (h : f41 x0 = some r) : Fn Tryd.prog 41 #[.int .i64 (x0)] gI wI (fun _ _ v => v = .bool (r)) := by
 unfold f41 at h;refine fn_of_E Tryd.func41 rfl (Nat.le_of_ble_eq_true rfl) fun g0 hm hfr => ?_;show E _ 6 none _ _ _ _ _;refine E_seq (E_region (EL_at (.bool false) rfl rfl ?_));refine EL_nil (thn_n (E_seq (E_region (EL_mw (.int .i64 (x0)) rfl rfl ?_))));refine EL_mw (.int .i64 (x0)) rfl rfl ?_;refine EL_in (.bool ((x0 != x0))) rfl rfl rfl rfl ?_;refine EL_at (.bool ((x0 != x0))) rfl rfl ?_;refine EL_nil (thn_n (E_ret ?_));obtain rfl := sinj h;exact end1 rfl rfl (show _ = .bool ((x0 != x0)) from rfl) ⟨_, hfr, rfl⟩
def f48 (x0 : Int) (z0 : Int) (z1 : Int) : Option (Bool) :=
 Option.bind (α := Bool) (
  bif (decide (x0 < z0)) then
   some (true)
  else
   some ((decide (x0 > z1)))
  ) fun o0 =>
 some (o0)
theorem en48 : Enters Tryd.prog 48 := enters_of Tryd.func48 (by kernel_rfl) rfl
theorem wk48 {gI : Gh} {wI : World} {x0 : Int} {z0 : Int} {z1 : Int} {pf0 : Value} (qf0 : PT gI.m wI z0 pf0) {pf1 : Value} (qf1 : PT gI.m wI z1 pf1) {r : Bool} (h : f48 x0 z0 z1 = some r) : Fn Tryd.prog 48 #[.int .i64 (x0), pf0, pf1] gI wI (fun _ _ v => v = .bool (r)) := by
 unfold f48 at h;refine fn_of_E Tryd.func48 rfl (Nat.le_of_ble_eq_true rfl) fun g0 hm hfr => ?_;have qf0 : PT g0.m wI z0 pf0 := hm ▸ qf0;have qf1 : PT g0.m wI z1 pf1 := hm ▸ qf1;show E _ 13 none _ _ _ _ _;refine E_seq (E_region (EL_at (.bool false) rfl rfl ?_));refine EL_nil (thn_n ?_);obtain ⟨o0, hx, h⟩ := bsome h;refine E_join (fun e w => ∃ (g : Gh) , Fr gI wI g w ∧ e 4 = .bool (o0)) (fun Q' hQ => ?_) (fun t5 w7 hR => ?_)
 ·replace h := hx
  clear hx;refine E_region (EL_mw (.int .i64 (x0)) rfl rfl ?_);refine EL_do .plain rfl (D_load (g := g0) Tryd.isAgg3 Tryd.sizeOf3 rfl qf0 fun v4 r4 => ?_);obtain rfl := RV_int.1 r4;refine EL_in (.bool ((decide (x0 < z0)))) rfl rfl rfl rfl ?_;refine EL_mw (.bool ((decide (x0 < z0)))) rfl rfl ?_;rcases csome h with ⟨hc5, h⟩ | ⟨hc5, h⟩
  ·refine EL_s rfl rfl hc5 rfl rfl ?_
   refine EL_s rfl rfl hc5 rfl rfl ?_;refine EL_s rfl rfl hc5 rfl rfl ?_;refine EL_p (.bool true) (P_pick (b := (decide (x0 < z0))) rfl (pick_t hc5 rfl)) rfl ?_;refine EL_at (.bool true) rfl rfl ?_;refine EL_nil ?_;obtain rfl := sinj h;exact hQ _ _ ⟨g0, hfr, rfl⟩
  ·refine EL_y (.int .i64 (x0)) (P_move rfl) rfl rfl hc5 rfl ?_
   refine EL_do (.yes2 rfl rfl hc5) rfl (D_load (g := g0) Tryd.isAgg3 Tryd.sizeOf3 rfl qf1 fun v6 r6 => ?_);obtain rfl := RV_int.1 r6;refine EL_y (.bool ((decide (x0 > z1)))) (P_int rfl rfl rfl) rfl rfl hc5 rfl ?_;refine EL_p (.bool ((decide (x0 > z1)))) (P_pick (b := (decide (x0 < z0))) rfl (pick_f hc5 rfl)) rfl ?_;refine EL_at (.bool ((decide (x0 > z1)))) rfl rfl ?_;refine EL_nil ?_;obtain rfl := sinj h;exact hQ _ _ ⟨g0, hfr, rfl⟩
 ·clear hx
  obtain ⟨g7, hfr, l5⟩ := hR;refine E_ret ?_;obtain rfl := sinj h;exact end1 rfl rfl (show _ = .bool (o0) from l5) ⟨_, hfr, rfl⟩
def f50 (x0 : ShadeLot) (z0 : List ShadeLot) : Option (Bool) :=
 (idx z0 (0 : Int)).bind fun y5 =>
 some (((x0).Colour != (y5).Colour))
theorem en50 : Enters Tryd.prog 50 := enters_of Tryd.func50 (by kernel_rfl) rfl
theorem wk50 {gI : Gh} {wI : World} {x0 : ShadeLot} {z0 : List ShadeLot} {up0 : Value} (rp0 : RV gI.m wI x0 up0) {pf0 : Value} (qf0 : PT gI.m wI z0 pf0) {r : Bool} (h : f50 x0 z0 = some r) : Fn Tryd.prog 50 #[up0, pf0] gI wI (fun _ _ v => v = .bool (r)) := by
 unfold f50 at h;refine fn_of_E Tryd.func50 rfl (Nat.le_of_ble_eq_true rfl) fun g0 hm hfr => ?_;have qf0 : PT g0.m wI z0 pf0 := hm ▸ qf0;have rp0 : RV g0.m wI x0 up0 := hm ▸ rp0;show E _ 11 none _ _ _ _ _;refine E_seq (E_region (EL_do .plain rfl (D_box (g := g0) rfl rp0 fun g1 w1 p1 hs q1 => ?_)));have hfr := hfr.ext hs;have qf0 := qf0.ext hs;refine EL_at (.bool false) rfl rfl ?_;refine EL_nil (thn_n (E_seq ?_));have q2 := PT_field (part_ShadeLot_0).1 q1;refine L_load (x := .tmp 4) Tryd.isAgg3 Tryd.sizeOf3 q2 fun v3 r3 o0 => ?_;obtain rfl := RV_int.1 r3;refine L_load (x := .tmp 1) Tryd.isAgg25 Tryd.sizeOf25 qf0 fun v4 r4 l5 => ?_;obtain ⟨y5, hy5, h⟩ := bsome h;have q6 := PT_idx r4 hy5;have q7 := PT_field (part_ShadeLot_0).1 q6;refine L_load (x := .tmp 8) Tryd.isAgg3 Tryd.sizeOf3 q7 fun v8 r8 t5 => ?_;obtain rfl := RV_int.1 r8;refine E_drawL (g := g1) (n := 8) [] [0, 1, 2, 3, 4, 5, 6, 7] rfl mixed (by kernel_rfl) trivial ?_;refine L_p (fPtr p1 0) rfl rfl (P_fieldAddr at_31_0 rfl (PT.ptr q1)) ?_;refine L_ld (c := .int .i64 ((x0).Colour)) rfl rfl .plain (fun _ _ h => h.ch) o0 rfl ?_;refine L_ld (c := v4) rfl rfl .plain (fun _ _ h => h.ch) l5 rfl ?_;refine L_p (ePtr v4 (0 : Int) 4) rfl rfl (P_indexAddr (α := ShadeLot) Tryd.underlying25 Tryd.sizeOf31 rfl r4 rfl hy5) ?_;refine L_p (fPtr (ePtr v4 (0 : Int) 4) 0) rfl rfl (P_fieldAddr at_31_0 rfl (PT.ptr q6)) ?_;refine L_ld (c := .int .i64 ((y5).Colour)) rfl rfl .plain (fun _ _ h => h.ch) t5 rfl ?_;refine L_p (.bool (((x0).Colour != (y5).Colour))) rfl rfl (P_int rfl rfl rfl) ?_;refine L_p (.bool (((x0).Colour != (y5).Colour))) rfl rfl (P_assign rfl) ?_;refine L_nl fun g9 w9 hs => ?_;have hfr := hfr.ext hs;clear hs;refine EL_nil (thn_n (E_ret ?_));obtain rfl := sinj h;exact end1 rfl rfl (show _ = .bool (((x0).Colour != (y5).Colour)) from rfl) ⟨_, hfr, rfl⟩
def f51 (x0 : List ShadeLot) : Option (Span) :=
 (idx x0 (0 : Int)).bind fun y2 =>
 (idx x0 (0 : Int)).bind fun y6 =>
 Option.bind (α := Span × Span) (
  (cut x0 (1 : Int) ((x0).length : Int)).bind fun mB =>
  lp (σ := Span × Span × Int) (fun k94 (i6, m4_95, l8) =>
   bif (decide (l8 < ((mB).length : Int))) then
    Option.bind (α := Span × Span) (
     (idx mB l8).bind fun o0 =>
     some ((⟨(max64 (i6).Low ((o0).Shade).Low), (min64 (i6).High ((o0).Shade).High)⟩ : Span), (⟨(min64 (m4_95).Low ((o0).Shade).Low), (max64 (m4_95).High ((o0).Shade).High)⟩ : Span))
     ) fun (nB, oB) =>
    k94 (nB, oB, (w64 (l8 + (1 : Int))))
   else
    some (i6, m4_95)
   ) big ((y2).Shade, (y6).Shade, (0 : Int))
  ) fun (l5, t5) =>
 some ((⟨(max64 (0 : Int) (w64 ((l5).Low - (l5).High))), (w64 ((t5).High - (t5).Low))⟩ : Span))
theorem en51 : Enters Tryd.prog 51 := enters_of Tryd.func51 (by kernel_rfl) rfl
theorem wk51 {gI : Gh} {wI : World} {x0 : List ShadeLot} {up0 : Value} (rp0 : RV gI.m wI x0 up0) {r : Span} (h : f51 x0 = some r) : Fn Tryd.prog 51 #[up0] gI wI (fun m w v => RV m w (r) v) := by
 unfold f51 at h;refine fn_of_E Tryd.func51 rfl (Nat.le_of_ble_eq_true rfl) fun g0 hm hfr => ?_;have rp0 : RV g0.m wI x0 up0 := hm ▸ rp0;show E _ 61 none _ _ _ _ _;refine E_seq (E_region (EL_do .plain rfl (D_allocOc (g := g0) 2002 (⟨0, 0⟩ : Span) Tryd.zeroValue28 (fun m w => ⟨_, (rep_two rep_int rep_int), rfl⟩) fun g1 w1 p1 hs b1 cb => ?_)));have hfr := hfr.stp hs;have rp0 := rp0.stp hs;clear cb;refine EL_nil (thn_n (E_seq ?_));obtain ⟨y2, hy2, h⟩ := bsome h;have q3 := PT_idx rp0 hy2;have q4 := PT_field (part_ShadeLot_1).1 q3;refine L_load (x := .tmp 9) Tryd.isAgg28 Tryd.sizeOf28 q4 fun v5 r5 yH => ?_;obtain ⟨y6, iG, h⟩ := bsome h;have q7 := PT_idx rp0 iG;have q8 := PT_field (part_ShadeLot_1).1 q7;refine L_load (x := .tmp 13) Tryd.isAgg28 Tryd.sizeOf28 q8 fun v9 r9 zH => ?_;refine E_drawTL (g := g1) (n := 10) [4, 5, 6, 7] [(8, (fun v g w => OB 2003 g w 28 (⟨0, 0⟩ : Span) v)), (9, (fun v g w => OB 2004 g w 28 (⟨0, 0⟩ : Span) v))] [0, 1, 2, 3, 4, 5, 6, 7, 8, 9] rfl mixed (by kernel_rfl) (⟨fun _ => up_ob, fun _ => up_ob, trivial⟩) rfl ?_;refine L_p up0 rfl rfl (P_move rfl) ?_;refine L_p (ePtr up0 (0 : Int) 4) rfl rfl (P_indexAddr (α := ShadeLot) Tryd.underlying25 Tryd.sizeOf31 rfl rp0 rfl hy2) ?_;refine L_p (fPtr (ePtr up0 (0 : Int) 4) 1) rfl rfl (P_fieldAddr at_31_1 rfl (PT.ptr q3)) ?_;refine L_ld (c := v5) rfl rfl .plain (fun _ _ h => h.ch) yH rfl ?_;refine L_purL (c := up0) rfl rfl .plain (P_move rfl) ?_;refine L_purL (c := ePtr up0 (0 : Int) 4) rfl rfl .plain (P_indexAddr (α := ShadeLot) Tryd.underlying25 Tryd.sizeOf31 rfl rp0 rfl iG) ?_;refine L_purL (c := fPtr (ePtr up0 (0 : Int) 4) 1) rfl rfl .plain (P_fieldAddr at_31_1 rfl (PT.ptr q7)) ?_;refine L_ldL (c := v9) rfl rfl .plain (fun _ _ h => h.ch) rfl zH rfl ?_;refine L_do (φ := fun v g w => OB 2003 g w 28 (⟨0, 0⟩ : Span) v) rfl rfl .plain (fun g w hd => D_allocX (g := g) 2003 (⟨0, 0⟩ : Span) Tryd.zeroValue28 (fun m w => ⟨_, (rep_two rep_int rep_int), rfl⟩) fun g' w' v hs b => ⟨g', hs, b⟩) (fun n9 hv => ?_);clear hv;refine L_do (φ := fun v g w => OB 2004 g w 28 (⟨0, 0⟩ : Span) v) rfl rfl .plain (fun g w hd => D_allocX (g := g) 2004 (⟨0, 0⟩ : Span) Tryd.zeroValue28 (fun m w => ⟨_, (rep_two rep_int rep_int), rfl⟩) fun g' w' v hs b => ⟨g', hs, b⟩) (fun aB hv => ?_);clear hv;refine L_nil fun jG aI hall => ?_;have hs := hall.1;have hlt : Lt g1.m w1 jG aI := hs.ch;have hfr := hfr.ext hs;have rp0 := rp0.ext hs;have b1 := b1.ext hs;have r5 := r5.ext hs;have r9 := r9.ext hs;have b23 := (word_all (A := fun g w => OB 2003 g w 28 (⟨0, 0⟩ : Span) n9) 8 rfl hall);have b24 := (word_all (A := fun g w => OB 2004 g w 28 (⟨0, 0⟩ : Span) aB) 9 rfl hall);clear hs hall;refine TL_do hlt.w .plain rfl (D_storeOc (g := jG) (v := v5) Tryd.sizeOf28 rfl b23 rfl r5 fun bI xJ hs b25 cb => ?_);clear cb;have hfr := hfr.stp hs;have hlt := hlt.stp hs;have rp0 := rp0.stp hs;have b1 := b1.stp hs rfl;have r9 := r9.stp hs;have b24 := b24.stp hs rfl;refine TL_do hlt.w .plain rfl (D_storeOc (g := bI) (v := v9) Tryd.sizeOf28 rfl b24 rfl r9 fun dI zJ hs b26 cb => ?_);clear cb;have hfr := hfr.stp hs;have hlt := hlt.stp hs;have rp0 := rp0.stp hs;have b1 := b1.stp hs rfl;have b25 := b25.stp hs rfl;refine TL_nil hlt.w ?_;clear hlt;refine thn_n ?_;obtain ⟨⟨l5, t5⟩, hx, h⟩ := bsome h;refine E_join (fun e w => ∃ (g : Gh) , Fr gI wI g w ∧ e 2 = p1 ∧ OB 2002 g w 28 ((⟨0, 0⟩ : Span) : Span) p1 ∧ e 3 = n9 ∧ OB 2003 g w 28 (l5 : Span) n9 ∧ e 4 = aB ∧ OB 2004 g w 28 (t5 : Span) aB) (fun Q' hQ => ?_) (fun iI lG hR => ?_)
 ·replace h := hx
  clear hx;refine E_seq (E_region (EL_mw up0 rfl rfl ?_));obtain ⟨mB, vE, h⟩ := bsome h;have kG := RV_cut rp0 vE;refine EL_p ((cutV up0 (Int.toNat (1 : Int)) (Int.toNat ((x0).length : Int)) 4)) (P_slice Tryd.underlying25 Tryd.sizeOf31 rfl rp0 rfl rfl vE) rfl ?_;refine EL_p (.int .i64 ((mB).length : Int)) (P_len Tryd.underlying25 rfl kG) rfl ?_;refine EL_mw (.int .i64 (0)) rfl rfl ?_;refine EL_nil (thn_n (E_block ?_));refine E_lp h (fun (s : Span × Span × Int) e w => ∃ (g : Gh) , Fr gI wI g w ∧ e 2 = p1 ∧ OB 2002 g w 28 ((⟨0, 0⟩ : Span) : Span) p1 ∧ e 3 = n9 ∧ OB 2003 g w 28 (s.1 : Span) n9 ∧ e 4 = aB ∧ OB 2004 g w 28 (s.2.1 : Span) aB ∧ e 16 = (cutV up0 (Int.toNat (1 : Int)) (Int.toNat ((x0).length : Int)) 4) ∧ RV g.m w (mB : List ShadeLot) (cutV up0 (Int.toNat (1 : Int)) (Int.toNat ((x0).length : Int)) 4) ∧ e 17 = .int .i64 (((mB).length : Int)) ∧ e 18 = .int .i64 (s.2.2)) ⟨dI, hfr, rfl, b1, rfl, b25, rfl, b26, rfl, kG, rfl, rfl⟩ (fun X94 k94 mG => ?_);rintro ⟨i6, m4_95, l8⟩ kI aK ⟨xE, hfr, iE, v8, vB, l9, yB, n8, lD, g8, nD, cD⟩ h;refine E_seq (E_region (EL_in (.bool ((decide (l8 < ((mB).length : Int))))) cD nD rfl rfl ?_));refine EL_nil (thn_n (E_seq ?_));rcases csome h with ⟨aE, h⟩ | ⟨aE, h⟩
  ·refine E_ct aE rfl ?_
   refine E_skip (thn_n ?_);obtain ⟨⟨nB, oB⟩, hx, h⟩ := bsome h;refine E_join (fun e w => ∃ (g : Gh) , Fr gI wI g w ∧ e 2 = p1 ∧ OB 2002 g w 28 ((⟨0, 0⟩ : Span) : Span) p1 ∧ e 3 = n9 ∧ OB 2003 g w 28 (nB : Span) n9 ∧ e 4 = aB ∧ OB 2004 g w 28 (oB : Span) aB ∧ e 16 = (cutV up0 (Int.toNat (1 : Int)) (Int.toNat ((x0).length : Int)) 4) ∧ RV g.m w (mB : List ShadeLot) (cutV up0 (Int.toNat (1 : Int)) (Int.toNat ((x0).length : Int)) 4) ∧ e 17 = .int .i64 (((mB).length : Int)) ∧ e 18 = .int .i64 (l8)) (fun Q' hQ => ?_) (fun jI lI hR => ?_)
   ·replace h := hx
    clear hx;refine E_block ?_;refine E_seq (E_region ?_);obtain ⟨o0, lE, h⟩ := bsome h;refine EL_p (ePtr ((cutV up0 (Int.toNat (1 : Int)) (Int.toNat ((x0).length : Int)) 4)) l8 4) (P_indexAddr (α := ShadeLot) Tryd.underlying25 Tryd.sizeOf31 lD g8 cD lE) rfl ?_;have sG := PT_idx g8 lE;refine EL_do .plain rfl (D_load (g := xE) Tryd.isAgg31 Tryd.sizeOf31 rfl sG fun xG bE => ?_);refine EL_do .plain rfl (D_allocOc (g := xE) 2006 (⟨0, ⟨0, 0⟩, 0⟩ : ShadeLot) Tryd.zeroValue31 (fun m w => ⟨_, (rep_two rep_int (rep_two (rep_two rep_int rep_int) rep_int)), rfl⟩) fun yG mI lB hs b129 cb => ?_);have hfr := hfr.stp hs;have v8 := v8.stp hs rfl;have l9 := l9.stp hs rfl;have n8 := n8.stp hs rfl;have g8 := g8.stp hs;have bE := bE.stp hs;clear cb;refine EL_do .plain rfl (D_storeOc (g := yG) (v := xG) Tryd.sizeOf31 rfl b129 rfl bE fun uC zG hs b130 cb => ?_);clear cb;have hfr := hfr.stp hs;have v8 := v8.stp hs rfl;have l9 := l9.stp hs rfl;have n8 := n8.stp hs rfl;have g8 := g8.stp hs;refine EL_nil (thn_n (E_seq (E_region (EL_p (fPtr n9 0) (P_fieldAddr at_28_0 vB (OB.ptr l9)) rfl ?_))));refine EL_do .plain rfl (D_loadF (g := uC) part_Span_0.1 Tryd.isAgg3 Tryd.sizeOf3 rfl l9 fun nI aH => ?_);obtain rfl := RV_int.1 aH;refine EL_p (fPtr lB 1) (P_fieldAddr at_31_1 rfl (OB.ptr b130)) rfl ?_;refine EL_p (fPtr lB 1) (P_fieldAddr2 (o1 := 1) rfl at_28_0 rfl (OB.ptr b130)) rfl ?_;refine EL_do .plain rfl (D_loadF (g := uC) (SubS.comp part_ShadeLot_1 part_Span_0 rfl).1 Tryd.isAgg3 Tryd.sizeOf3 rfl b130 fun pI cH => ?_);obtain rfl := RV_int.1 cH;refine EL_p (.int .i64 (max64 (i6).Low ((o0).Shade).Low)) (P_max rfl rfl) rfl ?_;refine EL_p (fPtr n9 1) (P_fieldAddr at_28_1 vB (OB.ptr l9)) rfl ?_;refine EL_do .plain rfl (D_loadF (g := uC) part_Span_1.1 Tryd.isAgg3 Tryd.sizeOf3 rfl l9 fun qI gH => ?_);obtain rfl := RV_int.1 gH;refine EL_p (fPtr lB 1) (P_fieldAddr at_31_1 rfl (OB.ptr b130)) rfl ?_;refine EL_p (fPtr lB 2) (P_fieldAddr2 (o1 := 1) rfl at_28_1 rfl (OB.ptr b130)) rfl ?_;refine EL_do .plain rfl (D_loadF (g := uC) (SubS.comp part_ShadeLot_1 part_Span_1 rfl).1 Tryd.isAgg3 Tryd.sizeOf3 rfl b130 fun sI jH => ?_);obtain rfl := RV_int.1 jH;refine EL_p (.int .i64 (min64 (i6).High ((o0).Shade).High)) (P_min rfl rfl) rfl ?_;have yE : RV uC.m zG (⟨(max64 (i6).Low ((o0).Shade).Low), (min64 (i6).High ((o0).Shade).High)⟩ : Span) (.agg (setCh [[.int .i64 0], [.int .i64 0]] [(0, .int .i64 (max64 (i6).Low ((o0).Shade).Low)), (1, .int .i64 (min64 (i6).High ((o0).Shade).High))]).flatten.toArray) := RV_build rfl (rep_pair (rfl) (rep_last (rfl)));generalize bG : (Value.agg (setCh [[.int .i64 0], [.int .i64 0]] [(0, .int .i64 (max64 (i6).Low ((o0).Shade).Low)), (1, .int .i64 (min64 (i6).High ((o0).Shade).High))]).flatten.toArray) = zE at yE;refine EL_p zE (bG ▸ P_build (vs := [(0, .int .i64 (max64 (i6).Low ((o0).Shade).Low)), (1, .int .i64 (min64 (i6).High ((o0).Shade).High))]) [[.int .i64 0], [.int .i64 0]] lay_28 rfl rfl (.cons rfl (.cons rfl .nil)) ⟨⟨_, rfl, rfl⟩, ⟨⟨_, rfl, rfl⟩, trivial⟩⟩) rfl ?_;refine EL_do .plain rfl (D_storeOc (g := uC) (v := zE) Tryd.sizeOf28 vB l9 rfl yE fun vC kH hs b142 cb => ?_);clear cb;have hfr := hfr.stp hs;have v8 := v8.stp hs rfl;have n8 := n8.stp hs rfl;have g8 := g8.stp hs;have b130 := b130.stp hs rfl;refine EL_nil (thn_n (E_region (EL_p (fPtr aB 0) (P_fieldAddr at_28_0 yB (OB.ptr n8)) rfl ?_)));refine EL_do .plain rfl (D_loadF (g := vC) part_Span_0.1 Tryd.isAgg3 Tryd.sizeOf3 rfl n8 fun jJ lH => ?_);obtain rfl := RV_int.1 lH;refine EL_p (fPtr lB 1) (P_fieldAddr at_31_1 rfl (OB.ptr b130)) rfl ?_;refine EL_p (fPtr lB 1) (P_fieldAddr2 (o1 := 1) rfl at_28_0 rfl (OB.ptr b130)) rfl ?_;refine EL_do .plain rfl (D_loadF (g := vC) (SubS.comp part_ShadeLot_1 part_Span_0 rfl).1 Tryd.isAgg3 Tryd.sizeOf3 rfl b130 fun kJ mH => ?_);obtain rfl := RV_int.1 mH;refine EL_p (.int .i64 (min64 (m4_95).Low ((o0).Shade).Low)) (P_min rfl rfl) rfl ?_;refine EL_p (fPtr aB 1) (P_fieldAddr at_28_1 yB (OB.ptr n8)) rfl ?_;refine EL_do .plain rfl (D_loadF (g := vC) part_Span_1.1 Tryd.isAgg3 Tryd.sizeOf3 rfl n8 fun lJ nH => ?_)
    obtain rfl := RV_int.1 nH;refine EL_p (fPtr lB 1) (P_fieldAddr at_31_1 rfl (OB.ptr b130)) rfl ?_;refine EL_p (fPtr lB 2) (P_fieldAddr2 (o1 := 1) rfl at_28_1 rfl (OB.ptr b130)) rfl ?_;refine EL_do .plain rfl (D_loadF (g := vC) (SubS.comp part_ShadeLot_1 part_Span_1 rfl).1 Tryd.isAgg3 Tryd.sizeOf3 rfl b130 fun mJ oH => ?_);obtain rfl := RV_int.1 oH;refine EL_p (.int .i64 (max64 (m4_95).High ((o0).Shade).High)) (P_max rfl rfl) rfl ?_;have cF : RV vC.m kH (⟨(min64 (m4_95).Low ((o0).Shade).Low), (max64 (m4_95).High ((o0).Shade).High)⟩ : Span) (.agg (setCh [[.int .i64 0], [.int .i64 0]] [(0, .int .i64 (min64 (m4_95).Low ((o0).Shade).Low)), (1, .int .i64 (max64 (m4_95).High ((o0).Shade).High))]).flatten.toArray) := RV_build rfl (rep_pair (rfl) (rep_last (rfl)));generalize cG : (Value.agg (setCh [[.int .i64 0], [.int .i64 0]] [(0, .int .i64 (min64 (m4_95).Low ((o0).Shade).Low)), (1, .int .i64 (max64 (m4_95).High ((o0).Shade).High))]).flatten.toArray) = dF at cF;refine EL_p dF (cG ▸ P_build (vs := [(0, .int .i64 (min64 (m4_95).Low ((o0).Shade).Low)), (1, .int .i64 (max64 (m4_95).High ((o0).Shade).High))]) [[.int .i64 0], [.int .i64 0]] lay_28 rfl rfl (.cons rfl (.cons rfl .nil)) ⟨⟨_, rfl, rfl⟩, ⟨⟨_, rfl, rfl⟩, trivial⟩⟩) rfl ?_;refine EL_do .plain rfl (D_storeOc (g := vC) (v := dF) Tryd.sizeOf28 yB n8 rfl cF fun pH nJ hs b154 cb => ?_);clear cb;have hfr := hfr.stp hs;have v8 := v8.stp hs rfl;have b142 := b142.stp hs rfl;have g8 := g8.stp hs;refine EL_nil (blk_n ?_);obtain ⟨rfl, rfl⟩ := pairs2 h;exact hQ _ _ ⟨pH, hfr, iE, v8, vB, b142, yB, b154, lD, g8, nD, cD⟩
   ·clear hx
    obtain ⟨qH, hfr, eF, rF, sF, tF, uF, vF, mE, oE, rE, uE⟩ := hR;refine E_region (EL_in (.int .i64 ((w64 (l8 + (1 : Int))))) uE rfl rfl rfl ?_);refine EL_mw (.int .i64 ((w64 (l8 + (1 : Int))))) rfl rfl ?_;exact EL_nil (thn_n (mG (nB, oB, (w64 (l8 + (1 : Int)))) _ _ ⟨qH, hfr, eF, rF, sF, tF, uF, vF, mE, oE, rE, rfl⟩ h))
  ·refine E_cf aE rfl ?_
   refine E_exit ?_;refine thn_e ?_;refine thn_e ?_;refine blk_hit ?_;obtain ⟨rfl, rfl⟩ := pairs2 h;exact hQ _ _ ⟨xE, hfr, iE, v8, vB, l9, yB, n8⟩
 ·clear hx
  obtain ⟨bD, hfr, oD, xF, yD, zB, zD, cC⟩ := hR;refine E_seq (E_region (EL_p (fPtr n9 0) (P_fieldAddr at_28_0 yD (OB.ptr zB)) rfl ?_));refine EL_do .plain rfl (D_loadF (g := bD) part_Span_0.1 Tryd.isAgg3 Tryd.sizeOf3 rfl zB fun oJ sH => ?_);obtain rfl := RV_int.1 sH;refine EL_p (fPtr n9 1) (P_fieldAddr at_28_1 yD (OB.ptr zB)) rfl ?_;refine EL_do .plain rfl (D_loadF (g := bD) part_Span_1.1 Tryd.isAgg3 Tryd.sizeOf3 rfl zB fun pJ tH => ?_);obtain rfl := RV_int.1 tH;refine EL_in (.int .i64 ((w64 ((l5).Low - (l5).High)))) rfl rfl rfl rfl ?_;refine EL_p (.int .i64 (max64 (0 : Int) (w64 ((l5).Low - (l5).High)))) (P_max rfl rfl) rfl ?_;refine EL_p (fPtr aB 1) (P_fieldAddr at_28_1 zD (OB.ptr cC)) rfl ?_;refine EL_do .plain rfl (D_loadF (g := bD) part_Span_1.1 Tryd.isAgg3 Tryd.sizeOf3 rfl cC fun qJ uH => ?_);obtain rfl := RV_int.1 uH;refine EL_p (fPtr aB 0) (P_fieldAddr at_28_0 zD (OB.ptr cC)) rfl ?_;refine EL_do .plain rfl (D_loadF (g := bD) part_Span_0.1 Tryd.isAgg3 Tryd.sizeOf3 rfl cC fun rJ xH => ?_);obtain rfl := RV_int.1 xH;refine EL_in (.int .i64 ((w64 ((t5).High - (t5).Low)))) rfl rfl rfl rfl ?_;have yF : RV bD.m lG (⟨(max64 (0 : Int) (w64 ((l5).Low - (l5).High))), (w64 ((t5).High - (t5).Low))⟩ : Span) (.agg (setCh [[.int .i64 0], [.int .i64 0]] [(0, .int .i64 (max64 (0 : Int) (w64 ((l5).Low - (l5).High)))), (1, .int .i64 ((w64 ((t5).High - (t5).Low))))]).flatten.toArray) := RV_build rfl (rep_pair (rfl) (rep_last (rfl)));generalize eG : (Value.agg (setCh [[.int .i64 0], [.int .i64 0]] [(0, .int .i64 (max64 (0 : Int) (w64 ((l5).Low - (l5).High)))), (1, .int .i64 ((w64 ((t5).High - (t5).Low))))]).flatten.toArray) = aG at yF;refine EL_p aG (eG ▸ P_build (vs := [(0, .int .i64 (max64 (0 : Int) (w64 ((l5).Low - (l5).High)))), (1, .int .i64 ((w64 ((t5).High - (t5).Low))))]) [[.int .i64 0], [.int .i64 0]] lay_28 rfl rfl (.cons rfl (.cons rfl .nil)) ⟨⟨_, rfl, rfl⟩, ⟨⟨_, rfl, rfl⟩, trivial⟩⟩) rfl ?_;refine EL_do .plain rfl (D_storeOc (g := bD) (v := aG) Tryd.sizeOf28 oD xF rfl yF fun sJ vJ hs b166 cb => ?_);clear cb;have hfr := hfr.stp hs;refine EL_nil (thn_n (E_ret ?_));obtain rfl := sinj h;obtain ⟨ad167, cv167, hp167, gG, cr167⟩ := ob_read Tryd.isAgg28 Tryd.sizeOf28 b166;exact endm_c rfl rfl ((show _ = p1 from oD).trans hp167) gG ⟨_, hfr, cr167⟩
def f56 (x0 : PaySheet) : Option ((List PayPlace)) :=
 Option.bind (α := (List PayPlace)) (
  lp (σ := (List PayPlace) × Int) (fun lH (uC, o0) =>
   bif (decide (o0 < ((((x0).PayTable).Rows).length : Int))) then
    Option.bind (α := (List PayPlace)) (
     (idx (((x0).PayTable).Rows) o0).bind fun v8 =>
     lp (σ := (List PayPlace) × Int) (fun mH (nB, l5) =>
      bif (decide (l5 < ((v8).length : Int))) then
       Option.bind (α := (List PayPlace)) (
        (idx v8 l5).bind fun oD =>
        bif (oD == (-1 : Int)) then
         (apnd 16 nB (([(⟨o0, l5⟩ : PayPlace)] : List PayPlace))).bind fun tF =>
         some (tF)
        else
         some (nB)
        ) fun g8 =>
       mH (g8, (w64 (l5 + (1 : Int))))
      else
       some (nB)
      ) big (uC, (0 : Int))
     ) fun l8 =>
    lH (l8, (w64 (o0 + (1 : Int))))
   else
    some (uC)
   ) big ([], (0 : Int))
  ) fun l9 =>
 some (l9)
theorem en56 : Enters Tryd.prog 56 := enters_of Tryd.func56 (by kernel_rfl) rfl
theorem wk56 {gI : Gh} {wI : World} {x0 : PaySheet} {up0 : Value} (rp0 : RV gI.m wI x0 up0) {r : (List PayPlace)} (h : f56 x0 = some r) : Fn Tryd.prog 56 #[up0] gI wI (fun m w v => RV m w (r) v) := by
 unfold f56 at h;refine fn_of_E Tryd.func56 rfl (Nat.le_of_ble_eq_true rfl) fun g0 hm hfr => ?_;have rp0 : RV g0.m wI x0 up0 := hm ▸ rp0;show E _ 34 none _ _ _ _ _;refine E_seq (E_region (EL_do .plain rfl (D_box (g := g0) rfl rp0 fun g1 w1 p1 hs q1 => ?_)));have hfr := hfr.ext hs;refine EL_at (.slice none 0 0) rfl rfl ?_;refine EL_nil (thn_n ?_);obtain ⟨l9, hx, h⟩ := bsome h;refine E_join (fun e w => ∃ (g : Gh) (v2 : Value), Fr gI wI g w ∧ e 2 = v2 ∧ RV g.m w (l9 : List PayPlace) v2 ∧ OS 1002 g w 139 (l9 : List PayPlace) v2) (fun Q' hQ => ?_) (fun mI qI hR => ?_)
 ·replace h := hx
  clear hx;refine E_seq (E_region (EL_p (fPtr p1 0) (P_fieldAddr at_97_0 rfl (PT.ptr q1)) rfl ?_));have nH := PT_field (part_PaySheet_0).1 q1;refine EL_p (fPtr (fPtr p1 0) 0) (P_fieldAddr at_71_0 rfl (PT.ptr nH)) rfl ?_;have iI := PT_field (part_PayTable_0).1 nH;refine EL_do .plain rfl (D_load (g := g1) Tryd.isAgg69 Tryd.sizeOf69 rfl iI fun n9 oH => ?_);refine EL_p (.int .i64 ((((x0).PayTable).Rows).length : Int)) (P_len Tryd.underlying69 rfl oH) rfl ?_;refine EL_mw (.int .i64 (0)) rfl rfl ?_;refine EL_nil (thn_n (E_block ?_));refine E_lp h (fun (s : (List PayPlace) × Int) e w => ∃ (g : Gh) (v2 : Value), Fr gI wI g w ∧ e 2 = v2 ∧ RV g.m w (s.1 : List PayPlace) v2 ∧ OS 1002 g w 139 (s.1 : List PayPlace) v2 ∧ e 9 = n9 ∧ RV g.m w (((x0).PayTable).Rows : List (List Int)) n9 ∧ e 10 = .int .i64 (((((x0).PayTable).Rows).length : Int)) ∧ e 11 = .int .i64 (s.2)) ⟨g1, (.slice none 0 0), hfr, rfl, RV_nil, OS.nil, rfl, oH, rfl, rfl⟩ (fun X58 lH qH => ?_);rintro ⟨uC, o0⟩ sI rJ ⟨uF, lE, hfr, mE, oE, rE, uE, vC, yD, aB⟩ h;refine E_seq (E_region (EL_p (.bool ((decide (o0 < ((((x0).PayTable).Rows).length : Int))))) (P_int aB yD rfl) rfl ?_));refine EL_nil (thn_n (E_seq ?_));rcases csome h with ⟨bE, h⟩ | ⟨bE, h⟩
  ·refine E_ct bE rfl ?_
   refine E_skip (thn_n ?_);obtain ⟨l8, hx, h⟩ := bsome h;refine E_join (fun e w => ∃ (g : Gh) (v2 : Value), Fr gI wI g w ∧ e 2 = v2 ∧ RV g.m w (l8 : List PayPlace) v2 ∧ OS 1002 g w 139 (l8 : List PayPlace) v2 ∧ e 9 = n9 ∧ RV g.m w (((x0).PayTable).Rows : List (List Int)) n9 ∧ e 10 = .int .i64 (((((x0).PayTable).Rows).length : Int)) ∧ e 11 = .int .i64 (o0)) (fun Q' hQ => ?_) (fun nI jJ hR => ?_)
   ·replace h := hx
    clear hx;refine E_block ?_;refine E_seq (E_region (EL_mv aB rfl ?_));obtain ⟨v8, vF, h⟩ := bsome h;refine EL_p (ePtr n9 o0 1) (P_indexAddr (α := List Int) Tryd.underlying69 Tryd.sizeOf34 uE vC aB vF) rfl ?_;have jI := PT_idx vC vF;refine EL_do .plain rfl (D_load (g := uF) Tryd.isAgg34 Tryd.sizeOf34 rfl jI fun oB pH => ?_);refine EL_at (.int .i64 (o0)) rfl rfl ?_;refine EL_at oB rfl rfl ?_;refine EL_nil (thn_n (E_seq (E_region (EL_mw oB rfl rfl ?_))));refine EL_p (.int .i64 ((v8).length : Int)) (P_len Tryd.underlying34 rfl pH) rfl ?_;refine EL_mw (.int .i64 (0)) rfl rfl ?_;refine EL_nil (thn_n (E_block ?_));refine E_lp h (fun (s : (List PayPlace) × Int) e w => ∃ (g : Gh) (v2 : Value), Fr gI wI g w ∧ e 2 = v2 ∧ RV g.m w (s.1 : List PayPlace) v2 ∧ OS 1002 g w 139 (s.1 : List PayPlace) v2 ∧ e 3 = .int .i64 (o0) ∧ e 9 = n9 ∧ RV g.m w (((x0).PayTable).Rows : List (List Int)) n9 ∧ e 10 = .int .i64 (((((x0).PayTable).Rows).length : Int)) ∧ e 11 = .int .i64 (o0) ∧ e 16 = oB ∧ RV g.m w (v8 : List Int) oB ∧ e 17 = .int .i64 (((v8).length : Int)) ∧ e 18 = .int .i64 (s.2)) ⟨uF, (lE), hfr, mE, oE, rE, rfl, uE, vC, yD, aB, rfl, pH, rfl, rfl⟩ (fun X88 mH sH => ?_);rintro ⟨nB, l5⟩ kJ kI ⟨zD, vE, hfr, bD, lB, mB, cD, lD, i6, vB, yB, zB, t5, cC, n8⟩ h;refine E_seq (E_region (EL_in (.bool ((decide (l5 < ((v8).length : Int))))) n8 cC rfl rfl ?_));refine EL_nil (thn_n (E_seq ?_));rcases csome h with ⟨iE, h⟩ | ⟨iE, h⟩
    ·refine E_ct iE rfl ?_
     refine E_skip (thn_n ?_);obtain ⟨g8, hx, h⟩ := bsome h;refine E_join (fun e w => ∃ (g : Gh) (v2 : Value), Fr gI wI g w ∧ e 2 = v2 ∧ RV g.m w (g8 : List PayPlace) v2 ∧ OS 1002 g w 139 (g8 : List PayPlace) v2 ∧ e 3 = .int .i64 (o0) ∧ e 9 = n9 ∧ RV g.m w (((x0).PayTable).Rows : List (List Int)) n9 ∧ e 10 = .int .i64 (((((x0).PayTable).Rows).length : Int)) ∧ e 11 = .int .i64 (o0) ∧ e 16 = oB ∧ RV g.m w (v8 : List Int) oB ∧ e 17 = .int .i64 (((v8).length : Int)) ∧ e 18 = .int .i64 (l5)) (fun Q' hQ => ?_) (fun pI lJ hR => ?_)
     ·replace h := hx
      clear hx;refine E_block ?_;refine E_seq (E_region (EL_mv n8 rfl ?_));obtain ⟨oD, xF, h⟩ := bsome h;refine EL_p (ePtr oB l5 1) (P_indexAddr (α := Int) Tryd.underlying34 Tryd.sizeOf3 zB t5 n8 xF) rfl ?_;have tH := PT_idx t5 xF;refine EL_do .plain rfl (D_load (g := zD) Tryd.isAgg3 Tryd.sizeOf3 rfl tH fun mJ uH => ?_);obtain rfl := RV_int.1 uH;refine EL_at (.int .i64 (l5)) rfl rfl ?_;refine EL_at (.int .i64 (oD)) rfl rfl ?_;refine EL_nil (thn_n (E_seq (E_region (EL_mw (.int .i64 (oD)) rfl rfl ?_))));refine EL_in (.bool ((oD == (-1 : Int)))) rfl rfl rfl rfl ?_;refine EL_nil (thn_n ?_);rcases csome h with ⟨nD, h⟩ | ⟨nD, h⟩
      ·refine E_ct nD rfl ?_
       refine E_region (EL_mv bD rfl ?_);refine EL_mv cD rfl ?_;refine EL_mw (.int .i64 (l5)) rfl rfl ?_;have yF : RV zD.m kI (⟨o0, l5⟩ : PayPlace) (.agg (setCh [[.int .i64 0], [.int .i64 0]] [(0, .int .i64 (o0)), (1, .int .i64 (l5))]).flatten.toArray) := RV_build rfl (rep_pair (rfl) (rep_last (rfl)));generalize jH : (Value.agg (setCh [[.int .i64 0], [.int .i64 0]] [(0, .int .i64 (o0)), (1, .int .i64 (l5))]).flatten.toArray) = aG at yF;refine EL_p aG (jH ▸ P_build (vs := [(0, .int .i64 (o0)), (1, .int .i64 (l5))]) [[.int .i64 0], [.int .i64 0]] lay_139 rfl rfl (.cons rfl (.cons rfl .nil)) ⟨⟨_, rfl, rfl⟩, ⟨⟨_, rfl, rfl⟩, trivial⟩⟩) rfl ?_;refine EL_do .plain rfl (D_buildSlice (g := zD) 3029 (xs := ([(⟨o0, l5⟩ : PayPlace)] : List PayPlace)) (vs := [aG]) Tryd.underlying118 Tryd.sizeOf139 Tryd.zeroValue139 rfl rfl (.cons rfl .nil) (RVs.cons yF RVs.nil) rfl rfl fun xH nJ oJ hs o104 yH hxt hfl => ?_);have hfr := hfr.stp hs;have lB := lB.stp hs;have mB := mB.stp hs rfl;have i6 := i6.stp hs;have t5 := t5.stp hs;obtain ⟨tF, kH, h⟩ := bsome h;refine EL_do .plain rfl (D_append (g := xH) (i := 1002) Tryd.underlying118 info_139 rfl rfl mB lB rfl yH kH fun zH pJ bG hs o105 aI _ => ?_);have hfr := hfr.stp hs;have i6 := i6.stp hs;have t5 := t5.stp hs;refine EL_at bG rfl rfl ?_;refine EL_nil (blk_n ?_);obtain rfl := sinj h;exact hQ _ _ ⟨zH, (bG), hfr, rfl, aI, o105, cD, lD, i6, vB, yB, zB, t5, cC, n8⟩
      ·refine E_cf nD rfl ?_
       refine E_skip (blk_n ?_);obtain rfl := sinj h;exact hQ _ _ ⟨zD, (vE), hfr, bD, lB, mB, cD, lD, i6, vB, yB, zB, t5, cC, n8⟩
     ·clear hx
      obtain ⟨bI, cG, hfr, eG, gG, iG, jG, kG, lG, xE, yE, zE, cF, dF, eF⟩ := hR;refine E_region (EL_in (.int .i64 ((w64 (l5 + (1 : Int))))) eF rfl rfl rfl ?_);refine EL_mw (.int .i64 ((w64 (l5 + (1 : Int))))) rfl rfl ?_;exact EL_nil (thn_n (sH (g8, (w64 (l5 + (1 : Int)))) _ _ ⟨bI, (cG), hfr, eG, gG, iG, jG, kG, lG, xE, yE, zE, cF, dF, rfl⟩ h))
    ·refine E_cf iE rfl ?_
     refine E_exit ?_;refine thn_e ?_;refine thn_e ?_;refine blk_hit ?_;refine blk_n ?_;obtain rfl := sinj h;exact hQ _ _ ⟨zD, (vE), hfr, bD, lB, mB, lD, i6, vB, yB⟩
   ·clear hx
    obtain ⟨dI, mG, hfr, sG, xG, yG, zG, aH, rF, sF⟩ := hR;refine E_region (EL_in (.int .i64 ((w64 (o0 + (1 : Int))))) sF rfl rfl rfl ?_);refine EL_mw (.int .i64 ((w64 (o0 + (1 : Int))))) rfl rfl ?_;exact EL_nil (thn_n (qH (l8, (w64 (o0 + (1 : Int)))) _ _ ⟨dI, (mG), hfr, sG, xG, yG, zG, aH, rF, rfl⟩ h))
  ·refine E_cf bE rfl ?_
   refine E_exit ?_;refine thn_e ?_;refine thn_e ?_;refine blk_hit ?_;obtain rfl := sinj h;exact hQ _ _ ⟨uF, (lE), hfr, mE, oE, rE⟩
 ·clear hx
  obtain ⟨qJ, aE, hfr, cH, gH, lI⟩ := hR;refine E_seq (E_region (EL_mv cH rfl ?_));refine EL_at aE rfl rfl ?_;refine EL_nil (thn_n (E_ret ?_));obtain rfl := sinj h;exact end1 rfl rfl (show _ = aE from rfl) ⟨_, hfr, gH⟩
def f57 (x0 : List Int) : Option (Int) :=
 Option.bind (α := Int) (
  lp (σ := Int × Int) (fun uC (l5, o0) =>
   bif (decide (o0 < ((x0).length : Int))) then
    Option.bind (α := Int) (
     (idx x0 o0).bind fun g8 =>
     some ((w64 (l5 + g8)))
     ) fun i6 =>
    uC (i6, (w64 (o0 + (1 : Int))))
   else
    some (l5)
   ) big ((0 : Int), (0 : Int))
  ) fun t5 =>
 some (t5)
theorem en57 : Enters Tryd.prog 57 := enters_of Tryd.func57 (by kernel_rfl) rfl
theorem wk57 {gI : Gh} {wI : World} {x0 : List Int} {up0 : Value} (rp0 : RV gI.m wI x0 up0) {r : Int} (h : f57 x0 = some r) : Fn Tryd.prog 57 #[up0] gI wI (fun _ _ v => v = .int .i64 (r)) := by
 unfold f57 at h;refine fn_of_E Tryd.func57 rfl (Nat.le_of_ble_eq_true rfl) fun g0 hm hfr => ?_;have rp0 : RV g0.m wI x0 up0 := hm ▸ rp0;show E _ 16 none _ _ _ _ _;refine E_seq (E_region (EL_at (.int .i64 (0)) rfl rfl ?_));refine EL_nil (thn_n ?_);obtain ⟨t5, hx, h⟩ := bsome h;refine E_join (fun e w => ∃ (g : Gh) , Fr gI wI g w ∧ e 2 = .int .i64 (t5)) (fun Q' hQ => ?_) (fun nD zD hR => ?_)
 ·replace h := hx
  clear hx;refine E_seq (E_region (EL_mw up0 rfl rfl ?_));refine EL_p (.int .i64 ((x0).length : Int)) (P_len Tryd.underlying34 rfl rp0) rfl ?_;refine EL_mw (.int .i64 (0)) rfl rfl ?_;refine EL_nil (thn_n (E_block ?_));refine E_lp h (fun (s : Int × Int) e w => ∃ (g : Gh) , Fr gI wI g w ∧ e 2 = .int .i64 (s.1) ∧ e 5 = up0 ∧ RV g.m w (x0 : List Int) up0 ∧ e 6 = .int .i64 (((x0).length : Int)) ∧ e 7 = .int .i64 (s.2)) ⟨g0, hfr, rfl, rfl, rp0, rfl, rfl⟩ (fun X11 uC vC => ?_);rintro ⟨l5, o0⟩ oD aE ⟨lB, hfr, l9, n9, l8, aB, n8⟩ h;refine E_seq (E_region (EL_in (.bool ((decide (o0 < ((x0).length : Int))))) n8 aB rfl rfl ?_));refine EL_nil (thn_n (E_seq ?_));rcases csome h with ⟨v8, h⟩ | ⟨v8, h⟩
  ·refine E_ct v8 rfl ?_
   refine E_skip (thn_n ?_);obtain ⟨i6, hx, h⟩ := bsome h;refine E_join (fun e w => ∃ (g : Gh) , Fr gI wI g w ∧ e 2 = .int .i64 (i6) ∧ e 5 = up0 ∧ RV g.m w (x0 : List Int) up0 ∧ e 6 = .int .i64 (((x0).length : Int)) ∧ e 7 = .int .i64 (o0)) (fun Q' hQ => ?_) (fun yD bE hR => ?_)
   ·replace h := hx
    clear hx;refine E_block ?_;refine E_seq (E_region ?_);obtain ⟨g8, mB, h⟩ := bsome h;refine EL_p (ePtr up0 o0 1) (P_indexAddr (α := Int) Tryd.underlying34 Tryd.sizeOf3 n9 l8 n8 mB) rfl ?_;have bD := PT_idx l8 mB;refine EL_do .plain rfl (D_load (g := lB) Tryd.isAgg3 Tryd.sizeOf3 rfl bD fun iE cD => ?_);obtain rfl := RV_int.1 cD;refine EL_at (.int .i64 (g8)) rfl rfl ?_;refine EL_nil (thn_n (E_region (EL_mv l9 rfl ?_)));refine EL_mw (.int .i64 (g8)) rfl rfl ?_;refine EL_in (.int .i64 ((w64 (l5 + g8)))) rfl rfl rfl rfl ?_;refine EL_at (.int .i64 ((w64 (l5 + g8)))) rfl rfl ?_;refine EL_nil (blk_n ?_);obtain rfl := sinj h;exact hQ _ _ ⟨lB, hfr, rfl, n9, l8, aB, n8⟩
   ·clear hx
    obtain ⟨lD, hfr, nB, oB, vB, yB, zB⟩ := hR;refine E_region (EL_in (.int .i64 ((w64 (o0 + (1 : Int))))) zB rfl rfl rfl ?_);refine EL_mw (.int .i64 ((w64 (o0 + (1 : Int))))) rfl rfl ?_;exact EL_nil (thn_n (vC (i6, (w64 (o0 + (1 : Int)))) _ _ ⟨lD, hfr, nB, oB, vB, yB, rfl⟩ h))
  ·refine E_cf v8 rfl ?_
   refine E_exit ?_;refine thn_e ?_;refine thn_e ?_;refine blk_hit ?_;obtain rfl := sinj h;exact hQ _ _ ⟨lB, hfr, l9⟩
 ·clear hx
  obtain ⟨lE, hfr, cC⟩ := hR;refine E_seq (E_region (EL_mv cC rfl ?_));refine EL_at (.int .i64 (t5)) rfl rfl ?_;refine EL_nil (thn_n (E_ret ?_));obtain rfl := sinj h;exact end1 rfl rfl (show _ = .int .i64 (t5) from rfl) ⟨_, hfr, rfl⟩
def f58 (x0 : PaySheet) (x1 : Int) : Option ((List Int)) :=
 Option.bind (α := (List Int)) (
  lp (σ := (List Int) × Int) (fun mE (v8, o0) =>
   bif (decide (o0 < ((((x0).PayTable).Rows).length : Int))) then
    Option.bind (α := (List Int)) (
     (idx (((x0).PayTable).Rows) o0).bind fun oE =>
     (idx oE x1).bind fun lB =>
     (apnd 8 v8 (([lB] : List Int))).bind fun rE =>
     some (rE)
     ) fun t5 =>
    mE (t5, (w64 (o0 + (1 : Int))))
   else
    some (v8)
   ) big ([], (0 : Int))
  ) fun i6 =>
 some (i6)
theorem en58 : Enters Tryd.prog 58 := enters_of Tryd.func58 (by kernel_rfl) rfl
theorem wk58 {gI : Gh} {wI : World} {x0 : PaySheet} {x1 : Int} {up0 : Value} (rp0 : RV gI.m wI x0 up0) {r : (List Int)} (h : f58 x0 x1 = some r) : Fn Tryd.prog 58 #[up0, .int .i64 (x1)] gI wI (fun m w v => RV m w (r) v) := by
 unfold f58 at h;refine fn_of_E Tryd.func58 rfl (Nat.le_of_ble_eq_true rfl) fun g0 hm hfr => ?_;have rp0 : RV g0.m wI x0 up0 := hm ▸ rp0;show E _ 24 none _ _ _ _ _;refine E_seq (E_region (EL_do .plain rfl (D_box (g := g0) rfl rp0 fun g1 w1 p1 hs q1 => ?_)));have hfr := hfr.ext hs;refine EL_at (.slice none 0 0) rfl rfl ?_;refine EL_nil (thn_n ?_);obtain ⟨i6, hx, h⟩ := bsome h;refine E_join (fun e w => ∃ (g : Gh) (v4 : Value), Fr gI wI g w ∧ e 4 = v4 ∧ RV g.m w (i6 : List Int) v4 ∧ OS 1004 g w 3 (i6 : List Int) v4) (fun Q' hQ => ?_) (fun bG gG hR => ?_)
 ·replace h := hx
  clear hx;refine E_seq (E_region (EL_p (fPtr p1 0) (P_fieldAddr at_97_0 rfl (PT.ptr q1)) rfl ?_));have uE := PT_field (part_PaySheet_0).1 q1;refine EL_p (fPtr (fPtr p1 0) 0) (P_fieldAddr at_71_0 rfl (PT.ptr uE)) rfl ?_;have dF := PT_field (part_PayTable_0).1 uE;refine EL_do .plain rfl (D_load (g := g1) Tryd.isAgg69 Tryd.sizeOf69 rfl dF fun l9 vE => ?_);refine EL_p (.int .i64 ((((x0).PayTable).Rows).length : Int)) (P_len Tryd.underlying69 rfl vE) rfl ?_;refine EL_mw (.int .i64 (0)) rfl rfl ?_;refine EL_nil (thn_n (E_block ?_));refine E_lp h (fun (s : (List Int) × Int) e w => ∃ (g : Gh) (v4 : Value), Fr gI wI g w ∧ e 1 = .int .i64 (x1) ∧ e 4 = v4 ∧ RV g.m w (s.1 : List Int) v4 ∧ OS 1004 g w 3 (s.1 : List Int) v4 ∧ e 9 = l9 ∧ RV g.m w (((x0).PayTable).Rows : List (List Int)) l9 ∧ e 10 = .int .i64 (((((x0).PayTable).Rows).length : Int)) ∧ e 11 = .int .i64 (s.2)) ⟨g1, (.slice none 0 0), hfr, rfl, rfl, RV_nil, OS.nil, rfl, vE, rfl, rfl⟩ (fun X30 mE zE => ?_);rintro ⟨v8, o0⟩ cG iG ⟨mB, cD, hfr, nB, oB, g8, l8, vB, l5, n9, n8⟩ h;refine E_seq (E_region (EL_p (.bool ((decide (o0 < ((((x0).PayTable).Rows).length : Int))))) (P_int n8 n9 rfl) rfl ?_));refine EL_nil (thn_n (E_seq ?_));rcases csome h with ⟨aB, h⟩ | ⟨aB, h⟩
  ·refine E_ct aB rfl ?_
   refine E_skip (thn_n ?_);obtain ⟨t5, hx, h⟩ := bsome h;refine E_join (fun e w => ∃ (g : Gh) (v4 : Value), Fr gI wI g w ∧ e 1 = .int .i64 (x1) ∧ e 4 = v4 ∧ RV g.m w (t5 : List Int) v4 ∧ OS 1004 g w 3 (t5 : List Int) v4 ∧ e 9 = l9 ∧ RV g.m w (((x0).PayTable).Rows : List (List Int)) l9 ∧ e 10 = .int .i64 (((((x0).PayTable).Rows).length : Int)) ∧ e 11 = .int .i64 (o0)) (fun Q' hQ => ?_) (fun eG jG hR => ?_)
   ·replace h := hx
    clear hx;refine E_block ?_;refine E_seq (E_region ?_);obtain ⟨oE, zB, h⟩ := bsome h;refine EL_p (ePtr l9 o0 1) (P_indexAddr (α := List Int) Tryd.underlying69 Tryd.sizeOf34 vB l5 n8 zB) rfl ?_;have eF := PT_idx l5 zB;refine EL_do .plain rfl (D_load (g := mB) Tryd.isAgg34 Tryd.sizeOf34 rfl eF fun cC xE => ?_);refine EL_at cC rfl rfl ?_;refine EL_nil (thn_n (E_region (EL_mv oB rfl ?_)));refine EL_mw cC rfl rfl ?_;refine EL_mv nB rfl ?_;obtain ⟨lB, uC, h⟩ := bsome h;refine EL_p (ePtr cC x1 1) (P_indexAddr (α := Int) Tryd.underlying34 Tryd.sizeOf3 rfl xE rfl uC) rfl ?_;have rF := PT_idx xE uC;refine EL_do .plain rfl (D_load (g := mB) Tryd.isAgg3 Tryd.sizeOf3 rfl rF fun kG sF => ?_);obtain rfl := RV_int.1 sF;refine EL_do .plain rfl (D_buildSlice (g := mB) 3020 (xs := ([lB] : List Int)) (vs := [.int .i64 (lB)]) Tryd.underlying34 Tryd.sizeOf3 Tryd.zeroValue3 rfl rfl (.cons rfl .nil) (RVs.cons (RV_int.2 rfl) RVs.nil) rfl rfl fun tF lG mG hs o48 uF hxt hfl => ?_);have hfr := hfr.stp hs;have g8 := g8.stp hs;have l8 := l8.stp hs rfl;have l5 := l5.stp hs;obtain ⟨rE, cF, h⟩ := bsome h;refine EL_do .plain rfl (D_append (g := tF) (i := 1004) Tryd.underlying34 info_3 rfl rfl l8 g8 rfl uF cF fun vF sG yE hs o49 xF _ => ?_);have hfr := hfr.stp hs;have l5 := l5.stp hs;refine EL_at yE rfl rfl ?_;refine EL_nil (blk_n ?_);obtain rfl := sinj h;exact hQ _ _ ⟨vF, (yE), hfr, nB, rfl, xF, o49, vB, l5, n9, n8⟩
   ·clear hx
    obtain ⟨yF, lD, hfr, nD, oD, yD, zD, aE, bE, vC, bD⟩ := hR;refine E_region (EL_in (.int .i64 ((w64 (o0 + (1 : Int))))) bD rfl rfl rfl ?_);refine EL_mw (.int .i64 ((w64 (o0 + (1 : Int))))) rfl rfl ?_;exact EL_nil (thn_n (zE (t5, (w64 (o0 + (1 : Int)))) _ _ ⟨yF, (lD), hfr, nD, oD, yD, zD, aE, bE, vC, rfl⟩ h))
  ·refine E_cf aB rfl ?_
   refine E_exit ?_;refine thn_e ?_;refine thn_e ?_;refine blk_hit ?_;obtain rfl := sinj h;exact hQ _ _ ⟨mB, (cD), hfr, oB, g8, l8⟩
 ·clear hx
  obtain ⟨xG, yB, hfr, iE, lE, aG⟩ := hR;refine E_seq (E_region (EL_mv iE rfl ?_));refine EL_at yB rfl rfl ?_;refine EL_nil (thn_n (E_ret ?_));obtain rfl := sinj h;exact end1 rfl rfl (show _ = yB from rfl) ⟨_, hfr, lE⟩
def f59 (x0 : List Int) (x1 : Int → Option Bool) : Option (Int) :=
 jn (σ := Unit) (fun _ =>
  some ((-1 : Int))
  ) fun k18 =>
 lp (σ := Int) (fun k19 o0 =>
  bif (decide (o0 < ((x0).length : Int))) then
   jn (σ := Unit) (fun _ =>
    k19 ((w64 (o0 + (1 : Int))))
    ) fun k28 =>
   (idx x0 o0).bind fun l9 =>
   (x1 l9).bind fun yB =>
   bif yB then
    some (o0)
   else
    k28 ()
  else
   k18 ()
  ) big ((0 : Int))
theorem en59 : Enters Tryd.prog 59 := enters_of Tryd.func59 (by kernel_rfl) rfl
theorem wk59 {gI : Gh} {wI : World} {x0 : List Int} {x1 : Int → Option Bool} {up0 : Value} (rp0 : RV gI.m wI x0 up0) {up1 : Value} (rp1 : FnV1 Tryd.prog x1 up1 gI wI) {r : Int} (h : f59 x0 x1 = some r) : Fn Tryd.prog 59 #[up0, up1] gI wI (fun _ _ v => v = .int .i64 (r)) := by
 unfold f59 at h;refine fn_of_E Tryd.func59 rfl (Nat.le_of_ble_eq_true rfl) fun g0 hm hfr => ?_;have rp0 : RV g0.m wI x0 up0 := hm ▸ rp0;obtain ⟨ff1, fa1, fc1, rfl, fen1, fcl1⟩ := rp1;show E _ 19 none _ _ _ _ _;refine E_seq (E_region (EL_at (.int .i64 (0)) rfl rfl ?_));refine EL_nil (thn_n (E_joinC h (fun (s : Unit) e w => ∃ (g : Gh) , Fr gI wI g w) (fun X18 k18 zB h => ?_) ?_))
 ·refine E_seq (E_region (EL_mw up0 rfl rfl ?_))
  refine EL_p (.int .i64 ((x0).length : Int)) (P_len Tryd.underlying34 rfl rp0) rfl ?_;refine EL_mw (.int .i64 (0)) rfl rfl ?_;refine EL_nil (thn_n (E_block ?_));refine E_lp h (fun (s : Int) e w => ∃ (g : Gh) , Fr gI wI g w ∧ e 0 = up0 ∧ RV g.m w (x0 : List Int) up0 ∧ e 1 = (.func (.func ff1) fa1 fc1) ∧ e 7 = .int .i64 (((x0).length : Int)) ∧ e 8 = .int .i64 (s)) ⟨g0, hfr, rfl, rp0, rfl, rfl, rfl⟩ (fun X19 k19 cC => ?_);rintro o0 oD aE ⟨n9, hfr, l8, l5, n8, v8, t5⟩ h;refine E_seq (E_region (EL_in (.bool ((decide (o0 < ((x0).length : Int))))) t5 v8 rfl rfl ?_));refine EL_nil (thn_n (E_seq ?_));rcases csome h with ⟨i6, h⟩ | ⟨i6, h⟩
  ·refine E_ct i6 rfl ?_
   refine E_skip (thn_n (E_joinC h (fun (s : Unit) e w => ∃ (g : Gh) , Fr gI wI g w ∧ e 0 = up0 ∧ RV g.m w (x0 : List Int) up0 ∧ e 1 = (.func (.func ff1) fa1 fc1) ∧ e 7 = .int .i64 (((x0).length : Int)) ∧ e 8 = .int .i64 (o0)) (fun X28 k28 uC h => ?_) ?_))
   ·refine E_block ?_
    refine E_seq (E_region (EL_mv t5 rfl ?_));refine EL_at (.int .i64 (o0)) rfl rfl ?_;refine EL_nil (thn_n (E_seq (E_region (EL_mv n8 rfl ?_))));refine EL_mv l8 rfl ?_;refine EL_mw (.int .i64 (o0)) rfl rfl ?_;obtain ⟨l9, aB, h⟩ := bsome h;refine EL_p (ePtr up0 o0 1) (P_indexAddr (α := Int) Tryd.underlying34 Tryd.sizeOf3 rfl l5 rfl aB) rfl ?_;have bD := PT_idx l5 aB;refine EL_do .plain rfl (D_load (g := n9) Tryd.isAgg3 Tryd.sizeOf3 rfl bD fun bE cD => ?_);obtain rfl := RV_int.1 cD;obtain ⟨yB, vC, h⟩ := bsome h;refine EL_do .plain rfl (D_callv (g := n9) (vs := [.int .i64 (l9)]) rfl fen1 (.cons rfl .nil) (fcl1 _ _ hfr.ch _ _ _  (RV_int.2 rfl) vC) fun lD iE lE hs hr => ?_);have hfr := hfr.ext hs;have l5 := l5.ext hs;obtain rfl := RV_bool.1 hr;refine EL_nil (thn_n ?_);rcases csome h with ⟨g8, h⟩ | ⟨g8, h⟩
    ·refine E_ct g8 rfl ?_
     refine E_seq (E_region (EL_mw (.int .i64 (o0)) rfl rfl ?_));refine EL_at (.int .i64 (o0)) rfl rfl ?_;refine EL_nil (thn_n (E_ret (blk_r ?_)));refine thn_r ?_;refine thn_r ?_;refine blk_r ?_;refine thn_r ?_;obtain rfl := sinj h;exact end1 rfl rfl (show _ = .int .i64 (o0) from rfl) ⟨_, hfr, rfl⟩
    ·refine E_cf g8 rfl ?_
     exact E_skip (blk_n (thn_n (uC () _ _ ⟨lD, hfr, l8, l5, n8, v8, t5⟩ h)))
   ·rintro _ yD mE ⟨nD, hfr, lB, mB, nB, oB, vB⟩ h
    refine E_region (EL_in (.int .i64 ((w64 (o0 + (1 : Int))))) vB rfl rfl rfl ?_);refine EL_mw (.int .i64 ((w64 (o0 + (1 : Int))))) rfl rfl ?_;exact EL_nil (thn_n (cC ((w64 (o0 + (1 : Int)))) _ _ ⟨nD, hfr, lB, mB, nB, oB, rfl⟩ h))
  ·refine E_cf i6 rfl ?_
   refine E_exit ?_;refine thn_e ?_;refine thn_e ?_;refine blk_hit ?_;exact thn_n (zB () _ _ ⟨n9, hfr⟩ h)
 ·rintro _ zD oE ⟨rE, hfr⟩ h
  refine E_seq (E_region (EL_at (.int .i64 (-1)) rfl rfl ?_));refine EL_nil (thn_n (E_ret ?_));obtain rfl := sinj h;exact end1 rfl rfl (show _ = .int .i64 (-1) from rfl) ⟨_, hfr, rfl⟩
def f60 (x0 : List Int) (x1 : Int) (x2 : Int) (x3 : Int → Int → Option Int) : Option ((List Int)) :=
 lp (σ := (List Int) × Int) (fun k1 (cC, g8) =>
  jn (σ := Unit) (fun _ =>
   Option.bind (α := (List Int)) (
    lp (σ := (List Int) × Int) (fun xE (t5, o0) =>
     jn (σ := Unit) (fun _ =>
      Option.bind (α := (List Int)) (
       (idx t5 (w64 (o0 - (1 : Int)))).bind fun vB =>
       (idx t5 o0).bind fun uC =>
       (idx t5 o0).bind fun pH =>
       (idx ((List.set t5 (Int.toNat o0) vB)) (w64 (o0 - (1 : Int)))).bind fun qH =>
       some ((List.set ((List.set t5 (Int.toNat o0) vB)) (Int.toNat (w64 (o0 - (1 : Int)))) uC))
       ) fun aB =>
      xE (aB, (w64 (o0 - (1 : Int))))
      ) fun yE =>
     Option.bind (α := Bool) (
      bif (decide (o0 > x1)) then
       (idx t5 o0).bind fun vC =>
       (idx t5 (w64 (o0 - (1 : Int)))).bind fun bD =>
       (x3 vC bD).bind fun oB =>
       some ((decide (oB < (0 : Int))))
      else
       some (false)
      ) fun n8 =>
     bif n8 then
      yE ()
     else
      some (t5)
     ) big (cC, g8)
    ) fun lB =>
   k1 (lB, (w64 (g8 + (1 : Int))))
   ) fun k4 =>
  bif (decide (g8 < x2)) then
   k4 ()
  else
   some (cC)
  ) big (x0, (w64 (x1 + (1 : Int))))
theorem en60 : Enters Tryd.prog 60 := enters_of Tryd.func60 (by kernel_rfl) rfl
theorem wk60 {iI : Nat} {gI : Gh} {wI : World} {x0 : List Int} {x1 : Int} {x2 : Int} {x3 : Int → Int → Option Int} {up0 : Value} (mp0 : OM iI gI wI 3 x0 up0) {up3 : Value} (rp3 : FnV2 Tryd.prog x3 up3 gI wI) {r : (List Int)} (h : f60 x0 x1 x2 x3 = some r) : FnM Tryd.prog 60 #[up0, .int .i64 (x1), .int .i64 (x2), up3] iI gI wI (fun g w v => v = .tuple #[] ∧ OM iI g w 3 r up0) := by
 unfold f60 at h;refine fnM_of_E Tryd.func60 rfl (Nat.le_of_ble_eq_true rfl) fun g0 hm hfr => ?_;have cH := mp0;replace mp0 := mp0.enter;rw [← hm] at mp0
 replace hm : g0.m = gI.m := by rw [hm]
 obtain ⟨ff3, fa3, fc3, rfl, fen3, fcl3⟩ := rp3;show E _ 53 none _ _ _ _ _;refine E_seq (E_region (EL_mw (.int .i64 (x1)) rfl rfl ?_));refine EL_in (.int .i64 ((w64 (x1 + (1 : Int))))) rfl rfl rfl rfl ?_;refine EL_at (.int .i64 ((w64 (x1 + (1 : Int))))) rfl rfl ?_;refine EL_nil (thn_n (E_block ?_));refine E_lp h (fun (s : (List Int) × Int) e w => ∃ (g : Gh) , FrM iI gI wI g w ∧ e 0 = up0 ∧ OM 1 g w 3 (s.1 : List Int) up0 ∧ e 1 = .int .i64 (x1) ∧ e 2 = .int .i64 (x2) ∧ e 3 = (.func (.func ff3) fa3 fc3) ∧ e 8 = .int .i64 (s.2)) ⟨g0, hfr, rfl, mp0, rfl, rfl, rfl, rfl⟩ (fun X1 k1 hk1 => ?_);rintro ⟨cC, g8⟩ pK w2 ⟨g2, hfr, sH, zE, tH, cF, uH, dF⟩ h;refine E_joinC h (fun (s : Unit) e w => ∃ (g : Gh) , FrM iI gI wI g w ∧ e 0 = up0 ∧ OM 1 g w 3 (cC : List Int) up0 ∧ e 1 = .int .i64 (x1) ∧ e 2 = .int .i64 (x2) ∧ e 3 = (.func (.func ff3) fa3 fc3) ∧ e 8 = .int .i64 (g8)) (fun X4 k4 hk4 h => ?_) ?_
 ·refine E_seq (E_region (EL_mv dF rfl ?_))
  refine EL_mv cF rfl ?_;refine EL_in (.bool ((decide (g8 < x2)))) rfl rfl rfl rfl ?_;refine EL_nil (thn_n ?_);rcases csome h with ⟨hc5, h⟩ | ⟨hc5, h⟩
  ·refine E_ct hc5 rfl ?_
   exact E_skip (thn_n (hk4 () _ _ ⟨g2, hfr, sH, zE, tH, cF, uH, dF⟩ h))
  ·refine E_cf hc5 rfl ?_
   refine E_exit ?_;refine thn_e ?_;refine thn_e ?_;refine blk_hit ?_;obtain rfl := sinj h;exact end0n rfl rfl ⟨_, hfr, rfl, cH.back zE⟩
 ·rintro _ qK w6 ⟨g6, hfr, xH, yH, zH, aI, bI, eF⟩ h
  obtain ⟨lB, hx, h⟩ := bsome h;refine E_join (fun e w => ∃ (g : Gh) , FrM iI gI wI g w ∧ e 0 = up0 ∧ OM 1 g w 3 (lB : List Int) up0 ∧ e 1 = .int .i64 (x1) ∧ e 2 = .int .i64 (x2) ∧ e 3 = (.func (.func ff3) fa3 fc3) ∧ e 8 = .int .i64 (g8)) (fun Q' hQ => ?_) (fun mJ rJ hR => ?_)
  ·replace h := hx
   clear hx;refine E_block ?_;refine E_seq (E_region (EL_mv eF rfl ?_));refine EL_at (.int .i64 (g8)) rfl rfl ?_;refine EL_nil (thn_n (E_block ?_));refine E_lp h (fun (s : (List Int) × Int) e w => ∃ (g : Gh) , FrM iI gI wI g w ∧ e 0 = up0 ∧ OM 1 g w 3 (s.1 : List Int) up0 ∧ e 1 = .int .i64 (x1) ∧ e 2 = .int .i64 (x2) ∧ e 3 = (.func (.func ff3) fa3 fc3) ∧ e 8 = .int .i64 (g8) ∧ e 9 = .int .i64 (s.2)) ⟨g6, hfr, xH, yH, zH, aI, bI, eF, rfl⟩ (fun X297 xE gH => ?_);rintro ⟨t5, o0⟩ nJ sJ ⟨rF, hfr, mB, i6, nB, lD, yB, nD, v8⟩ h;refine E_joinC h (fun (s : Unit) e w => ∃ (g : Gh) , FrM iI gI wI g w ∧ e 0 = up0 ∧ OM 1 g w 3 (t5 : List Int) up0 ∧ e 1 = .int .i64 (x1) ∧ e 2 = .int .i64 (x2) ∧ e 3 = (.func (.func ff3) fa3 fc3) ∧ e 8 = .int .i64 (g8) ∧ e 9 = .int .i64 (o0)) (fun X411 yE jH h => ?_) ?_
   ·obtain ⟨n8, hx, h⟩ := bsome h
    refine E_join (fun e w => ∃ (g : Gh) , FrM iI gI wI g w ∧ e 0 = up0 ∧ OM 1 g w 3 (t5 : List Int) up0 ∧ e 1 = .int .i64 (x1) ∧ e 2 = .int .i64 (x2) ∧ e 3 = (.func (.func ff3) fa3 fc3) ∧ e 8 = .int .i64 (g8) ∧ e 9 = .int .i64 (o0) ∧ e 34 = .bool (n8)) (fun Q' hQ => ?_) (fun oJ vJ hR => ?_)
    ·replace h := hx
     clear hx;rcases csome h with ⟨l5, h⟩ | ⟨l5, h⟩
     ·obtain ⟨vC, lE, h⟩ := bsome h
      refine L_loadM (x := .tmp 25) Tryd.isAgg3 Tryd.sizeOf3 i6 lE fun xJ dI kH => ?_;obtain rfl := RV_int.1 dI;obtain ⟨bD, mE, h⟩ := bsome h;refine L_loadM (x := .tmp 30) Tryd.isAgg3 Tryd.sizeOf3 i6 mE fun zJ jI lH => ?_;obtain rfl := RV_int.1 jI;obtain ⟨oB, mH, h⟩ := bsome h;refine E_drawL (g := rF) (n := 17) [(14, (fun v g w => v = .int .i64 (oB)))] [0, 1, 2, 3, 4, 5, 6, 7, 8, 9, 10, 11, 12, 13, 14, 15, 16] rfl mixed (by kernel_rfl) (⟨fun _ => up_eq _, trivial⟩) ?_;refine L_p (.int .i64 (o0)) rfl rfl (P_move v8) ?_;refine L_p (.int .i64 (x1)) rfl rfl (P_move nB) ?_;refine L_p (.bool ((decide (o0 > x1)))) rfl rfl (P_int rfl rfl rfl) ?_;refine L_p (.bool ((decide (o0 > x1)))) rfl rfl (P_move rfl) ?_;refine L_y ((.func (.func ff3) fa3 fc3)) rfl rfl rfl rfl l5 (P_move yB) ?_;refine L_y up0 rfl rfl rfl rfl l5 (P_move mB) ?_;refine L_y (.int .i64 (o0)) rfl rfl rfl rfl l5 (P_move v8) ?_;refine L_y (ePtr up0 o0 1) rfl rfl rfl rfl l5 (P_indexAddrM (α := Int) Tryd.underlying34 Tryd.sizeOf3 rfl i6 rfl lE) ?_;refine L_ld (c := .int .i64 (vC)) rfl rfl (.yes2 rfl rfl l5) (fun _ _ h => ⟨h.ch, fun b hb _ => h.below.block b hb⟩) kH rfl ?_;refine L_y up0 rfl rfl rfl rfl l5 (P_move mB) ?_;refine L_y (.int .i64 (o0)) rfl rfl rfl rfl l5 (P_move v8) ?_;refine L_y (.int .i64 ((w64 (o0 - (1 : Int))))) rfl rfl rfl rfl l5 (P_int rfl rfl rfl) ?_;refine L_y (ePtr up0 (w64 (o0 - (1 : Int))) 1) rfl rfl rfl rfl l5 (P_indexAddrM (α := Int) Tryd.underlying34 Tryd.sizeOf3 rfl i6 rfl mE) ?_;refine L_ld (c := .int .i64 (bD)) rfl rfl (.yes2 rfl rfl l5) (fun _ _ h => ⟨h.ch, fun b hb _ => h.below.block b hb⟩) lH rfl ?_;refine L_do (φ := fun v g w => v = .int .i64 (oB)) rfl rfl (.yes2 rfl rfl l5) (fun g w hd => D_callv (g := g) (vs := [.int .i64 (vC), .int .i64 (bD)]) rfl fen3 (.cons rfl (.cons rfl .nil)) (fcl3 _ _ (hfr.ext hd.1).ch _ _ _ _ _  (RV_int.2 rfl) (RV_int.2 rfl) mH) fun g' w' v hs hr => ⟨g', hs, RV_int.1 hr⟩) (fun aK hv => ?_);obtain ⟨_, _, _, rfl⟩ := hv;refine L_y (.bool ((decide (oB < (0 : Int))))) rfl rfl rfl rfl l5 (P_int rfl rfl rfl) ?_;refine L_p (.bool ((decide (oB < (0 : Int))))) rfl rfl (P_pick (b := (decide (o0 > x1))) rfl (pick_t l5 rfl)) ?_;refine L_nl fun kI bK hs => ?_;have hfr := hfr.ext hs;have i6 := i6.ext hs;clear hs;refine EL_nil ?_;obtain rfl := sinj h;exact hQ _ _ ⟨kI, hfr, mB, i6, nB, lD, yB, nD, v8, rfl⟩
     ·refine E_drawL (g := rF) (n := 17) [] [0, 1, 2, 3, 4, 5, 6, 7, 8, 9, 10, 11, 12, 13, 14, 15, 16] rfl mixed (by kernel_rfl) trivial ?_
      refine L_p (.int .i64 (o0)) rfl rfl (P_move v8) ?_;refine L_p (.int .i64 (x1)) rfl rfl (P_move nB) ?_;refine L_p (.bool ((decide (o0 > x1)))) rfl rfl (P_int rfl rfl rfl) ?_;refine L_p (.bool ((decide (o0 > x1)))) rfl rfl (P_move rfl) ?_;iterate 12 refine L_s rfl rfl rfl l5 rfl ?_
      refine L_p (.bool false) rfl rfl (P_pick (b := (decide (o0 > x1))) rfl (pick_f l5 rfl)) ?_;refine L_nl fun lI cK hs => ?_;have hfr := hfr.ext hs;have i6 := i6.ext hs;clear hs;refine EL_nil ?_;obtain rfl := sinj h;exact hQ _ _ ⟨lI, hfr, mB, i6, nB, lD, yB, nD, v8, rfl⟩
    ·clear hx
     obtain ⟨sF, hfr, oD, yD, zD, aE, bE, iE, tF, zB⟩ := hR;rcases csome h with ⟨cD, h⟩ | ⟨cD, h⟩
     ·refine E_cond_true (Eq.trans (show ev _ _ = .bool (n8) from zB) (congrArg Value.bool cD)) ?_
      exact E_skip (thn_n (jH () _ _ ⟨sF, hfr, oD, yD, zD, aE, bE, iE, tF⟩ h))
     ·refine E_cond_false (Eq.trans (show ev _ _ = .bool (n8) from zB) (congrArg Value.bool cD)) ?_
      refine E_exit ?_;refine thn_e ?_;refine thn_e ?_;refine blk_hit ?_;refine blk_n ?_;obtain rfl := sinj h;exact hQ _ _ ⟨sF, hfr, oD, yD, zD, aE, bE, iE⟩
   ·rintro _ pJ mI ⟨uF, hfr, l9, l8, vF, xF, yF, aG, n9⟩ h
    obtain ⟨aB, hx, h⟩ := bsome h;refine E_join (fun e w => ∃ (g : Gh) , FrM iI gI wI g w ∧ e 0 = up0 ∧ OM 1 g w 3 (aB : List Int) up0 ∧ e 1 = .int .i64 (x1) ∧ e 2 = .int .i64 (x2) ∧ e 3 = (.func (.func ff3) fa3 fc3) ∧ e 8 = .int .i64 (g8) ∧ e 9 = .int .i64 (o0)) (fun Q' hQ => ?_) (fun qJ dK hR => ?_)
    ·replace h := hx
     clear hx;refine E_block ?_;obtain ⟨vB, oE, h⟩ := bsome h;refine L_loadM (x := .tmp 45) Tryd.isAgg3 Tryd.sizeOf3 l8 oE fun lK nI nH => ?_;obtain rfl := RV_int.1 nI;obtain ⟨uC, rE, h⟩ := bsome h;refine L_loadM (x := .tmp 49) Tryd.isAgg3 Tryd.sizeOf3 l8 rE fun mK pI oH => ?_;obtain rfl := RV_int.1 pI;obtain ⟨pH, uE, h⟩ := bsome h;refine E_drawTL (g := uF) (n := 15) [2, 3, 4] [] [0, 1, 2, 3, 4, 5, 6, 7, 8, 9, 10, 11, 12, 13, 14] rfl mixed (by kernel_rfl) trivial rfl ?_;refine L_p up0 rfl rfl (P_move l9) ?_;refine L_p (.int .i64 (o0)) rfl rfl (P_move n9) ?_;refine L_purL (c := up0) rfl rfl .plain (P_move l9) ?_;refine L_purL (c := .int .i64 (o0)) rfl rfl .plain (P_move n9) ?_;refine L_purL (c := .int .i64 ((w64 (o0 - (1 : Int))))) rfl rfl .plain (P_int rfl rfl rfl) ?_;refine L_p up0 rfl rfl (P_move l9) ?_;refine L_p (.int .i64 (o0)) rfl rfl (P_move n9) ?_;refine L_p (.int .i64 ((w64 (o0 - (1 : Int))))) rfl rfl (P_int rfl rfl rfl) ?_;refine L_p (ePtr up0 (w64 (o0 - (1 : Int))) 1) rfl rfl (P_indexAddrM (α := Int) Tryd.underlying34 Tryd.sizeOf3 rfl l8 rfl oE) ?_;refine L_ld (c := .int .i64 (vB)) rfl rfl .plain (fun _ _ h => ⟨h.ch, fun b hb _ => h.below.block b hb⟩) nH rfl ?_;refine L_p up0 rfl rfl (P_move l9) ?_;refine L_p (.int .i64 (o0)) rfl rfl (P_move n9) ?_;refine L_p (ePtr up0 o0 1) rfl rfl (P_indexAddrM (α := Int) Tryd.underlying34 Tryd.sizeOf3 rfl l8 rfl rE) ?_;refine L_ld (c := .int .i64 (uC)) rfl rfl .plain (fun _ _ h => ⟨h.ch, fun b hb _ => h.below.block b hb⟩) oH rfl ?_;refine L_p (ePtr up0 o0 1) rfl rfl (P_indexAddrM (α := Int) Tryd.underlying34 Tryd.sizeOf3 rfl l8 rfl uE) ?_;refine L_nl fun bG qI hs => ?_;have hlt : Lt uF.m mI bG qI := hs.ch;have hfr := hfr.ext hs;have l8 := l8.ext hs;clear hs;refine TL_do hlt.w .plain rfl (D_storeM (g := bG) (α := Int) (a' := vB) Tryd.sizeOf3 rfl l8 uE rfl (RV_int.2 rfl) fun sI nK hs b582 => ?_);have hfr := hfr.stp hs;have hlt := hlt.stp hs;obtain ⟨qH, vE, h⟩ := bsome h;refine TL_pur hlt.w (v := ePtr up0 (w64 (o0 - (1 : Int))) 1) (P_indexAddrM (α := Int) Tryd.underlying34 Tryd.sizeOf3 rfl b582 rfl vE) .plain rfl ?_;refine TL_do hlt.w .plain rfl (D_storeM (g := sI) (α := Int) (a' := uC) Tryd.sizeOf3 rfl b582 vE rfl (RV_int.2 rfl) fun jJ oK hs b584 => ?_);have hfr := hfr.stp hs;have hlt := hlt.stp hs;refine TL_nil hlt.w ?_;clear hlt;refine blk_n ?_;obtain rfl := sinj h;exact hQ _ _ ⟨jJ, hfr, l9, b584, vF, xF, yF, aG, n9⟩
    ·clear hx
     obtain ⟨kJ, hfr, cG, eG, gG, iG, jG, kG, lG⟩ := hR;refine E_region (EL_mv lG rfl ?_);refine EL_in (.int .i64 ((w64 (o0 - (1 : Int))))) rfl rfl rfl rfl ?_;refine EL_at (.int .i64 ((w64 (o0 - (1 : Int))))) rfl rfl ?_;exact EL_nil (thn_n (gH (aB, (w64 (o0 - (1 : Int)))) _ _ ⟨kJ, hfr, cG, eG, gG, iG, jG, kG, rfl⟩ h))
  ·clear hx
   obtain ⟨lJ, hfr, mG, sG, xG, yG, zG, aH⟩ := hR;refine E_region (EL_mv aH rfl ?_);refine EL_in (.int .i64 ((w64 (g8 + (1 : Int))))) rfl rfl rfl rfl ?_;refine EL_at (.int .i64 ((w64 (g8 + (1 : Int))))) rfl rfl ?_;exact EL_nil (thn_n (hk1 (lB, (w64 (g8 + (1 : Int)))) _ _ ⟨lJ, hfr, mG, sG, xG, yG, zG, rfl⟩ h))
def f62 (x0 : List ShadeEntry) (x1 : ShadeEntry → Option Bool) : Option (Int) :=
 jn (σ := Unit) (fun _ =>
  some ((-1 : Int))
  ) fun k18 =>
 lp (σ := Int) (fun k19 o0 =>
  bif (decide (o0 < ((x0).length : Int))) then
   jn (σ := Unit) (fun _ =>
    k19 ((w64 (o0 + (1 : Int))))
    ) fun k28 =>
   (idx x0 o0).bind fun vB =>
   (x1 vB).bind fun yB =>
   bif yB then
    some (o0)
   else
    k28 ()
  else
   k18 ()
  ) big ((0 : Int))
theorem en62 : Enters Tryd.prog 62 := enters_of Tryd.func62 (by kernel_rfl) rfl
theorem wk62 {gI : Gh} {wI : World} {x0 : List ShadeEntry} {x1 : ShadeEntry → Option Bool} {up0 : Value} (rp0 : RV gI.m wI x0 up0) {up1 : Value} (rp1 : FnV1 Tryd.prog x1 up1 gI wI) {r : Int} (h : f62 x0 x1 = some r) : Fn Tryd.prog 62 #[up0, up1] gI wI (fun _ _ v => v = .int .i64 (r)) := by
 unfold f62 at h;refine fn_of_E Tryd.func62 rfl (Nat.le_of_ble_eq_true rfl) fun g0 hm hfr => ?_;have rp0 : RV g0.m wI x0 up0 := hm ▸ rp0;obtain ⟨ff1, fa1, fc1, rfl, fen1, fcl1⟩ := rp1;show E _ 19 none _ _ _ _ _;refine E_seq (E_region (EL_at (.int .i64 (0)) rfl rfl ?_));refine EL_nil (thn_n (E_joinC h (fun (s : Unit) e w => ∃ (g : Gh) , Fr gI wI g w) (fun X18 k18 zB h => ?_) ?_))
 ·refine E_seq (E_region (EL_mw up0 rfl rfl ?_))
  refine EL_p (.int .i64 ((x0).length : Int)) (P_len Tryd.underlying39 rfl rp0) rfl ?_;refine EL_mw (.int .i64 (0)) rfl rfl ?_;refine EL_nil (thn_n (E_block ?_));refine E_lp h (fun (s : Int) e w => ∃ (g : Gh) , Fr gI wI g w ∧ e 0 = up0 ∧ RV g.m w (x0 : List ShadeEntry) up0 ∧ e 1 = (.func (.func ff1) fa1 fc1) ∧ e 7 = .int .i64 (((x0).length : Int)) ∧ e 8 = .int .i64 (s)) ⟨g0, hfr, rfl, rp0, rfl, rfl, rfl⟩ (fun X19 k19 cC => ?_);rintro o0 yD bE ⟨l9, hfr, l8, l5, n8, v8, t5⟩ h;refine E_seq (E_region (EL_in (.bool ((decide (o0 < ((x0).length : Int))))) t5 v8 rfl rfl ?_));refine EL_nil (thn_n (E_seq ?_));rcases csome h with ⟨i6, h⟩ | ⟨i6, h⟩
  ·refine E_ct i6 rfl ?_
   refine E_skip (thn_n (E_joinC h (fun (s : Unit) e w => ∃ (g : Gh) , Fr gI wI g w ∧ e 0 = up0 ∧ RV g.m w (x0 : List ShadeEntry) up0 ∧ e 1 = (.func (.func ff1) fa1 fc1) ∧ e 7 = .int .i64 (((x0).length : Int)) ∧ e 8 = .int .i64 (o0)) (fun X28 k28 uC h => ?_) ?_))
   ·refine E_block ?_
    refine E_seq (E_region (EL_mv t5 rfl ?_));refine EL_at (.int .i64 (o0)) rfl rfl ?_;refine EL_nil (thn_n (E_seq (E_region (EL_mv n8 rfl ?_))));refine EL_mv l8 rfl ?_;refine EL_mw (.int .i64 (o0)) rfl rfl ?_;obtain ⟨vB, n9, h⟩ := bsome h;refine EL_p (ePtr up0 o0 2) (P_indexAddr (α := ShadeEntry) Tryd.underlying39 Tryd.sizeOf45 rfl l5 rfl n9) rfl ?_;have bD := PT_idx l5 n9;refine EL_do .plain rfl (D_load (g := l9) Tryd.isAgg45 Tryd.sizeOf45 rfl bD fun cD lD => ?_);obtain ⟨yB, vC, h⟩ := bsome h;refine EL_do .plain rfl (D_callv (g := l9) (vs := [cD]) rfl fen1 (.cons rfl .nil) (fcl1 _ _ hfr.ch _ _ _  lD vC) fun nD iE lE hs hr => ?_);have hfr := hfr.ext hs;have l5 := l5.ext hs;obtain rfl := RV_bool.1 hr;refine EL_nil (thn_n ?_);rcases csome h with ⟨g8, h⟩ | ⟨g8, h⟩
    ·refine E_ct g8 rfl ?_
     refine E_seq (E_region (EL_mw (.int .i64 (o0)) rfl rfl ?_));refine EL_at (.int .i64 (o0)) rfl rfl ?_;refine EL_nil (thn_n (E_ret (blk_r ?_)));refine thn_r ?_;refine thn_r ?_;refine blk_r ?_;refine thn_r ?_;obtain rfl := sinj h;exact end1 rfl rfl (show _ = .int .i64 (o0) from rfl) ⟨_, hfr, rfl⟩
    ·refine E_cf g8 rfl ?_
     exact E_skip (blk_n (thn_n (uC () _ _ ⟨nD, hfr, l8, l5, n8, v8, t5⟩ h)))
   ·rintro _ zD mE ⟨oD, hfr, aB, lB, mB, nB, oB⟩ h
    refine E_region (EL_in (.int .i64 ((w64 (o0 + (1 : Int))))) oB rfl rfl rfl ?_);refine EL_mw (.int .i64 ((w64 (o0 + (1 : Int))))) rfl rfl ?_;exact EL_nil (thn_n (cC ((w64 (o0 + (1 : Int)))) _ _ ⟨oD, hfr, aB, lB, mB, nB, rfl⟩ h))
  ·refine E_cf i6 rfl ?_
   refine E_exit ?_;refine thn_e ?_;refine thn_e ?_;refine blk_hit ?_;exact thn_n (zB () _ _ ⟨l9, hfr⟩ h)
 ·rintro _ aE oE ⟨rE, hfr⟩ h
  refine E_seq (E_region (EL_at (.int .i64 (-1)) rfl rfl ?_));refine EL_nil (thn_n (E_ret ?_));obtain rfl := sinj h;exact end1 rfl rfl (show _ = .int .i64 (-1) from rfl) ⟨_, hfr, rfl⟩
def f63 (x0 : ShadeBook) (x1 : ShadeEntry) : Option (Span) :=
 some ((⟨(max64 (0 : Int) (w64 ((x1).Grams - (x0).scale))), (w64 ((x1).Grams + (x0).scale))⟩ : Span))
theorem en63 : Enters Tryd.prog 63 := enters_of Tryd.func63 (by kernel_rfl) rfl
theorem wk63 {gI : Gh} {wI : World} {x0 : ShadeBook} {x1 : ShadeEntry} {up0 : Value} (rp0 : RV gI.m wI x0 up0) {up1 : Value} (rp1 : RV gI.m wI x1 up1) {r : Span} (h : f63 x0 x1 = some r) : Fn Tryd.prog 63 #[up0, up1] gI wI (fun m w v => RV m w (r) v) := by
 unfold f63 at h;refine fn_of_E Tryd.func63 rfl (Nat.le_of_ble_eq_true rfl) fun g0 hm hfr => ?_;have rp0 : RV g0.m wI x0 up0 := hm ▸ rp0;have rp1 : RV g0.m wI x1 up1 := hm ▸ rp1;show E _ 17 none _ _ _ _ _;refine E_seq (E_region (EL_do .plain rfl (D_box (g := g0) rfl rp0 fun g1 w1 p1 hs q1 => ?_)));have hfr := hfr.ext hs;have rp1 := rp1.ext hs;refine EL_do .plain rfl (D_box (g := g1) rfl rp1 fun g2 w2 p2 hs q2 => ?_);have hfr := hfr.ext hs;have q1 := q1.ext hs;refine EL_do .plain rfl (D_allocOc (g := g2) 2004 (⟨0, 0⟩ : Span) Tryd.zeroValue28 (fun m w => ⟨_, (rep_two rep_int rep_int), rfl⟩) fun g3 w3 p3 hs b3 cb => ?_);have hfr := hfr.stp hs;have q1 := q1.stp hs;have q2 := q2.stp hs;clear cb;refine EL_nil (thn_n (E_seq (E_region (EL_p (fPtr p2 1) (P_fieldAddr at_45_1 rfl (PT.ptr q2)) rfl ?_))));have q4 := PT_field (part_ShadeEntry_1).1 q2;refine EL_do .plain rfl (D_load (g := g3) Tryd.isAgg3 Tryd.sizeOf3 rfl q4 fun v5 r5 => ?_);obtain rfl := RV_int.1 r5;refine EL_p (fPtr p1 1) (P_fieldAddr at_76_1 rfl (PT.ptr q1)) rfl ?_;have q6 := PT_field (part_ShadeBook_1).1 q1;refine EL_do .plain rfl (D_load (g := g3) Tryd.isAgg3 Tryd.sizeOf3 rfl q6 fun v7 r7 => ?_);obtain rfl := RV_int.1 r7;refine EL_in (.int .i64 ((w64 ((x1).Grams - (x0).scale)))) rfl rfl rfl rfl ?_;refine EL_p (.int .i64 (max64 (0 : Int) (w64 ((x1).Grams - (x0).scale)))) (P_max rfl rfl) rfl ?_;refine EL_p (fPtr p2 1) (P_fieldAddr at_45_1 rfl (PT.ptr q2)) rfl ?_;have q8 := PT_field (part_ShadeEntry_1).1 q2;refine EL_do .plain rfl (D_load (g := g3) Tryd.isAgg3 Tryd.sizeOf3 rfl q8 fun v9 r9 => ?_);obtain rfl := RV_int.1 r9;refine EL_p (fPtr p1 1) (P_fieldAddr at_76_1 rfl (PT.ptr q1)) rfl ?_;have g8 := PT_field (part_ShadeBook_1).1 q1;refine EL_do .plain rfl (D_load (g := g3) Tryd.isAgg3 Tryd.sizeOf3 rfl g8 fun n8 l8 => ?_);obtain rfl := RV_int.1 l8;refine EL_in (.int .i64 ((w64 ((x1).Grams + (x0).scale)))) rfl rfl rfl rfl ?_;have o0 : RV g3.m w3 (⟨(max64 (0 : Int) (w64 ((x1).Grams - (x0).scale))), (w64 ((x1).Grams + (x0).scale))⟩ : Span) (.agg (setCh [[.int .i64 0], [.int .i64 0]] [(0, .int .i64 (max64 (0 : Int) (w64 ((x1).Grams - (x0).scale)))), (1, .int .i64 ((w64 ((x1).Grams + (x0).scale))))]).flatten.toArray) := RV_build rfl (rep_pair (rfl) (rep_last (rfl)));generalize t5 : (Value.agg (setCh [[.int .i64 0], [.int .i64 0]] [(0, .int .i64 (max64 (0 : Int) (w64 ((x1).Grams - (x0).scale)))), (1, .int .i64 ((w64 ((x1).Grams + (x0).scale))))]).flatten.toArray) = l5 at o0;refine EL_p l5 (t5 ▸ P_build (vs := [(0, .int .i64 (max64 (0 : Int) (w64 ((x1).Grams - (x0).scale)))), (1, .int .i64 ((w64 ((x1).Grams + (x0).scale))))]) [[.int .i64 0], [.int .i64 0]] lay_28 rfl rfl (.cons rfl (.cons rfl .nil)) ⟨⟨_, rfl, rfl⟩, ⟨⟨_, rfl, rfl⟩, trivial⟩⟩) rfl ?_;refine EL_do .plain rfl (D_storeOc (g := g3) (v := l5) Tryd.sizeOf28 rfl b3 rfl o0 fun v8 l9 hs b13 cb => ?_);clear cb;have hfr := hfr.stp hs;refine EL_nil (thn_n (E_ret ?_));obtain rfl := sinj h;obtain ⟨ad14, cv14, hp14, i6, cr14⟩ := ob_read Tryd.isAgg28 Tryd.sizeOf28 b13;exact endm_c rfl rfl ((show _ = p3 from rfl).trans hp14) i6 ⟨_, hfr, cr14⟩
def f64 (x0 : Span) (x1 : Span) : Option (Span) :=
 some ((⟨(max64 (x0).Low (x1).Low), (min64 (x0).High (x1).High)⟩ : Span))
theorem en64 : Enters Tryd.prog 64 := enters_of Tryd.func64 (by kernel_rfl) rfl
theorem wk64 {gI : Gh} {wI : World} {x0 : Span} {x1 : Span} {up0 : Value} (rp0 : RV gI.m wI x0 up0) {up1 : Value} (rp1 : RV gI.m wI x1 up1) {r : Span} (h : f64 x0 x1 = some r) : Fn Tryd.prog 64 #[up0, up1] gI wI (fun m w v => RV m w (r) v) := by
 unfold f64 at h;refine fn_of_E Tryd.func64 rfl (Nat.le_of_ble_eq_true rfl) fun g0 hm hfr => ?_;have rp0 : RV g0.m wI x0 up0 := hm ▸ rp0;have rp1 : RV g0.m wI x1 up1 := hm ▸ rp1;show E _ 16 none _ _ _ _ _;refine E_seq (E_region (EL_do .plain rfl (D_box (g := g0) rfl rp0 fun g1 w1 p1 hs q1 => ?_)));have hfr := hfr.ext hs;have rp1 := rp1.ext hs;refine EL_do .plain rfl (D_box (g := g1) rfl rp1 fun g2 w2 p2 hs q2 => ?_);have hfr := hfr.ext hs;have q1 := q1.ext hs;refine EL_do .plain rfl (D_allocOc (g := g2) 2004 (⟨0, 0⟩ : Span) Tryd.zeroValue28 (fun m w => ⟨_, (rep_two rep_int rep_int), rfl⟩) fun g3 w3 p3 hs b3 cb => ?_);have hfr := hfr.stp hs;have q1 := q1.stp hs;have q2 := q2.stp hs;clear cb;refine EL_nil (thn_n (E_seq (E_region (EL_p (fPtr p1 0) (P_fieldAddr at_28_0 rfl (PT.ptr q1)) rfl ?_))));have q4 := PT_field (part_Span_0).1 q1;refine EL_do .plain rfl (D_load (g := g3) Tryd.isAgg3 Tryd.sizeOf3 rfl q4 fun v5 r5 => ?_);obtain rfl := RV_int.1 r5;refine EL_p (fPtr p2 0) (P_fieldAddr at_28_0 rfl (PT.ptr q2)) rfl ?_;have q6 := PT_field (part_Span_0).1 q2;refine EL_do .plain rfl (D_load (g := g3) Tryd.isAgg3 Tryd.sizeOf3 rfl q6 fun v7 r7 => ?_);obtain rfl := RV_int.1 r7;refine EL_p (.int .i64 (max64 (x0).Low (x1).Low)) (P_max rfl rfl) rfl ?_;refine EL_p (fPtr p1 1) (P_fieldAddr at_28_1 rfl (PT.ptr q1)) rfl ?_;have q8 := PT_field (part_Span_1).1 q1;refine EL_do .plain rfl (D_load (g := g3) Tryd.isAgg3 Tryd.sizeOf3 rfl q8 fun v9 r9 => ?_);obtain rfl := RV_int.1 r9;refine EL_p (fPtr p2 1) (P_fieldAddr at_28_1 rfl (PT.ptr q2)) rfl ?_;have g8 := PT_field (part_Span_1).1 q2;refine EL_do .plain rfl (D_load (g := g3) Tryd.isAgg3 Tryd.sizeOf3 rfl g8 fun n8 l8 => ?_);obtain rfl := RV_int.1 l8;refine EL_p (.int .i64 (min64 (x0).High (x1).High)) (P_min rfl rfl) rfl ?_;have o0 : RV g3.m w3 (⟨(max64 (x0).Low (x1).Low), (min64 (x0).High (x1).High)⟩ : Span) (.agg (setCh [[.int .i64 0], [.int .i64 0]] [(0, .int .i64 (max64 (x0).Low (x1).Low)), (1, .int .i64 (min64 (x0).High (x1).High))]).flatten.toArray) := RV_build rfl (rep_pair (rfl) (rep_last (rfl)));generalize t5 : (Value.agg (setCh [[.int .i64 0], [.int .i64 0]] [(0, .int .i64 (max64 (x0).Low (x1).Low)), (1, .int .i64 (min64 (x0).High (x1).High))]).flatten.toArray) = l5 at o0;refine EL_p l5 (t5 ▸ P_build (vs := [(0, .int .i64 (max64 (x0).Low (x1).Low)), (1, .int .i64 (min64 (x0).High (x1).High))]) [[.int .i64 0], [.int .i64 0]] lay_28 rfl rfl (.cons rfl (.cons rfl .nil)) ⟨⟨_, rfl, rfl⟩, ⟨⟨_, rfl, rfl⟩, trivial⟩⟩) rfl ?_;refine EL_do .plain rfl (D_storeOc (g := g3) (v := l5) Tryd.sizeOf28 rfl b3 rfl o0 fun v8 l9 hs b13 cb => ?_);clear cb;have hfr := hfr.stp hs;refine EL_nil (thn_n (E_ret ?_));obtain rfl := sinj h;obtain ⟨ad14, cv14, hp14, i6, cr14⟩ := ob_read Tryd.isAgg28 Tryd.sizeOf28 b13;exact endm_c rfl rfl ((show _ = p3 from rfl).trans hp14) i6 ⟨_, hfr, cr14⟩
def f65  : Option (Span) :=
 some ((⟨(0 : Int), (1099511627776 : Int)⟩ : Span))
theorem en65 : Enters Tryd.prog 65 := enters_of Tryd.func65 (by kernel_rfl) rfl
theorem wk65 {gI : Gh} {wI : World}   {r : Span} (h : f65  = some r) : Fn Tryd.prog 65 #[] gI wI (fun m w v => RV m w (r) v) := by
 unfold f65 at h;refine fn_of_E Tryd.func65 rfl (Nat.le_of_ble_eq_true rfl) fun g0 hm hfr => ?_;show E _ 2 none _ _ _ _ _;refine E_seq (E_region (EL_do .plain rfl (D_allocOc (g := g0) 2000 (⟨0, 0⟩ : Span) Tryd.zeroValue28 (fun m w => ⟨_, (rep_two rep_int rep_int), rfl⟩) fun g1 w1 p1 hs b1 cb => ?_)));have hfr := hfr.stp hs;clear cb;refine EL_nil (thn_n (E_seq (E_region ?_)));have r2 : RV g1.m w1 (⟨(0 : Int), (1099511627776 : Int)⟩ : Span) (.agg (setCh [[.int .i64 0], [.int .i64 0]] [(0, .int .i64 (0)), (1, .int .i64 (1099511627776))]).flatten.toArray) := RV_build rfl (rep_pair (rfl) (rep_last (rfl)));generalize hv2 : (Value.agg (setCh [[.int .i64 0], [.int .i64 0]] [(0, .int .i64 (0)), (1, .int .i64 (1099511627776))]).flatten.toArray) = v2 at r2;refine EL_p v2 (hv2 ▸ P_build (vs := [(0, .int .i64 (0)), (1, .int .i64 (1099511627776))]) [[.int .i64 0], [.int .i64 0]] lay_28 rfl rfl (.cons rfl (.cons rfl .nil)) ⟨⟨_, rfl, rfl⟩, ⟨⟨_, rfl, rfl⟩, trivial⟩⟩) rfl ?_;refine EL_do .plain rfl (D_storeOc (g := g1) (v := v2) Tryd.sizeOf28 rfl b1 rfl r2 fun g3 w3 hs b3 cb => ?_);clear cb;have hfr := hfr.stp hs;refine EL_nil (thn_n (E_ret ?_));obtain rfl := sinj h;obtain ⟨ad4, cv4, hp4, o0, cr4⟩ := ob_read Tryd.isAgg28 Tryd.sizeOf28 b3;exact endm_c rfl rfl ((show _ = p1 from rfl).trans hp4) o0 ⟨_, hfr, cr4⟩
def f66 (x0 : List ShadeLot) (x1 : ShadeLot → Option Bool) : Option (Int) :=
 jn (σ := Unit) (fun _ =>
  some ((-1 : Int))
  ) fun k18 =>
 lp (σ := Int) (fun k19 o0 =>
  bif (decide (o0 < ((x0).length : Int))) then
   jn (σ := Unit) (fun _ =>
    k19 ((w64 (o0 + (1 : Int))))
    ) fun k28 =>
   (idx x0 o0).bind fun vB =>
   (x1 vB).bind fun yB =>
   bif yB then
    some (o0)
   else
    k28 ()
  else
   k18 ()
  ) big ((0 : Int))
theorem en66 : Enters Tryd.prog 66 := enters_of Tryd.func66 (by kernel_rfl) rfl
theorem wk66 {gI : Gh} {wI : World} {x0 : List ShadeLot} {x1 : ShadeLot → Option Bool} {up0 : Value} (rp0 : RV gI.m wI x0 up0) {up1 : Value} (rp1 : FnV1 Tryd.prog x1 up1 gI wI) {r : Int} (h : f66 x0 x1 = some r) : Fn Tryd.prog 66 #[up0, up1] gI wI (fun _ _ v => v = .int .i64 (r)) := by
 unfold f66 at h;refine fn_of_E Tryd.func66 rfl (Nat.le_of_ble_eq_true rfl) fun g0 hm hfr => ?_;have rp0 : RV g0.m wI x0 up0 := hm ▸ rp0;obtain ⟨ff1, fa1, fc1, rfl, fen1, fcl1⟩ := rp1;show E _ 19 none _ _ _ _ _;refine E_seq (E_region (EL_at (.int .i64 (0)) rfl rfl ?_));refine EL_nil (thn_n (E_joinC h (fun (s : Unit) e w => ∃ (g : Gh) , Fr gI wI g w) (fun X18 k18 zB h => ?_) ?_))
 ·refine E_seq (E_region (EL_mw up0 rfl rfl ?_))
  refine EL_p (.int .i64 ((x0).length : Int)) (P_len Tryd.underlying25 rfl rp0) rfl ?_;refine EL_mw (.int .i64 (0)) rfl rfl ?_;refine EL_nil (thn_n (E_block ?_));refine E_lp h (fun (s : Int) e w => ∃ (g : Gh) , Fr gI wI g w ∧ e 0 = up0 ∧ RV g.m w (x0 : List ShadeLot) up0 ∧ e 1 = (.func (.func ff1) fa1 fc1) ∧ e 7 = .int .i64 (((x0).length : Int)) ∧ e 8 = .int .i64 (s)) ⟨g0, hfr, rfl, rp0, rfl, rfl, rfl⟩ (fun X19 k19 cC => ?_);rintro o0 yD bE ⟨l9, hfr, l8, l5, n8, v8, t5⟩ h;refine E_seq (E_region (EL_in (.bool ((decide (o0 < ((x0).length : Int))))) t5 v8 rfl rfl ?_));refine EL_nil (thn_n (E_seq ?_));rcases csome h with ⟨i6, h⟩ | ⟨i6, h⟩
  ·refine E_ct i6 rfl ?_
   refine E_skip (thn_n (E_joinC h (fun (s : Unit) e w => ∃ (g : Gh) , Fr gI wI g w ∧ e 0 = up0 ∧ RV g.m w (x0 : List ShadeLot) up0 ∧ e 1 = (.func (.func ff1) fa1 fc1) ∧ e 7 = .int .i64 (((x0).length : Int)) ∧ e 8 = .int .i64 (o0)) (fun X28 k28 uC h => ?_) ?_))
   ·refine E_block ?_
    refine E_seq (E_region (EL_mv t5 rfl ?_));refine EL_at (.int .i64 (o0)) rfl rfl ?_;refine EL_nil (thn_n (E_seq (E_region (EL_mv n8 rfl ?_))));refine EL_mv l8 rfl ?_;refine EL_mw (.int .i64 (o0)) rfl rfl ?_;obtain ⟨vB, n9, h⟩ := bsome h;refine EL_p (ePtr up0 o0 4) (P_indexAddr (α := ShadeLot) Tryd.underlying25 Tryd.sizeOf31 rfl l5 rfl n9) rfl ?_;have bD := PT_idx l5 n9;refine EL_do .plain rfl (D_load (g := l9) Tryd.isAgg31 Tryd.sizeOf31 rfl bD fun cD lD => ?_);obtain ⟨yB, vC, h⟩ := bsome h;refine EL_do .plain rfl (D_callv (g := l9) (vs := [cD]) rfl fen1 (.cons rfl .nil) (fcl1 _ _ hfr.ch _ _ _  lD vC) fun nD iE lE hs hr => ?_);have hfr := hfr.ext hs;have l5 := l5.ext hs;obtain rfl := RV_bool.1 hr;refine EL_nil (thn_n ?_);rcases csome h with ⟨g8, h⟩ | ⟨g8, h⟩
    ·refine E_ct g8 rfl ?_
     refine E_seq (E_region (EL_mw (.int .i64 (o0)) rfl rfl ?_));refine EL_at (.int .i64 (o0)) rfl rfl ?_;refine EL_nil (thn_n (E_ret (blk_r ?_)));refine thn_r ?_;refine thn_r ?_;refine blk_r ?_;refine thn_r ?_;obtain rfl := sinj h;exact end1 rfl rfl (show _ = .int .i64 (o0) from rfl) ⟨_, hfr, rfl⟩
    ·refine E_cf g8 rfl ?_
     exact E_skip (blk_n (thn_n (uC () _ _ ⟨nD, hfr, l8, l5, n8, v8, t5⟩ h)))
   ·rintro _ zD mE ⟨oD, hfr, aB, lB, mB, nB, oB⟩ h
    refine E_region (EL_in (.int .i64 ((w64 (o0 + (1 : Int))))) oB rfl rfl rfl ?_);refine EL_mw (.int .i64 ((w64 (o0 + (1 : Int))))) rfl rfl ?_;exact EL_nil (thn_n (cC ((w64 (o0 + (1 : Int)))) _ _ ⟨oD, hfr, aB, lB, mB, nB, rfl⟩ h))
  ·refine E_cf i6 rfl ?_
   refine E_exit ?_;refine thn_e ?_;refine thn_e ?_;refine blk_hit ?_;exact thn_n (zB () _ _ ⟨l9, hfr⟩ h)
 ·rintro _ aE oE ⟨rE, hfr⟩ h
  refine E_seq (E_region (EL_at (.int .i64 (-1)) rfl rfl ?_));refine EL_nil (thn_n (E_ret ?_));obtain rfl := sinj h;exact end1 rfl rfl (show _ = .int .i64 (-1) from rfl) ⟨_, hfr, rfl⟩
def f72 (x0 : List PayRate) (x1 : Int) (x2 : PayRate → Int → Option Int) : Option (Int × Bool) :=
 Option.bind (α := Int) (
  lp (σ := Int × Int) (fun k14 (i6, l5) =>
   jn (σ := Unit) (fun _ =>
    (shr64 ((wu64 (w64 (i6 + l5)))) ((1 : Int))).bind fun g8 =>
    (idx x0 (w64 g8)).bind fun xE =>
    (x2 xE x1).bind fun yD =>
    bif (decide (yD < (0 : Int))) then
     k14 ((w64 ((w64 g8) + (1 : Int))), l5)
    else
     k14 (i6, (w64 g8))
    ) fun yE =>
   bif (decide (i6 < l5)) then
    yE ()
   else
    some (i6)
   ) big ((0 : Int), ((x0).length : Int))
  ) fun o0 =>
 Option.bind (α := Int × Bool) (
  bif (decide (o0 < ((x0).length : Int))) then
   (idx x0 o0).bind fun zE =>
   (x2 zE x1).bind fun nB =>
   some (o0, (nB == (0 : Int)))
  else
   some (o0, false)
  ) fun (n8, v8) =>
 some (n8, v8)
theorem en72 : Enters Tryd.prog 72 := enters_of Tryd.func72 (by kernel_rfl) rfl
theorem wk72 {gI : Gh} {wI : World} {x0 : List PayRate} {x1 : Int} {x2 : PayRate → Int → Option Int} {up0 : Value} (rp0 : RV gI.m wI x0 up0) {up2 : Value} (rp2 : FnV2 Tryd.prog x2 up2 gI wI) {r : Int × Bool} (h : f72 x0 x1 x2 = some r) : Fn Tryd.prog 72 #[up0, .int .i64 (x1), up2] gI wI (fun m w v => ∃ y0 y1, v = .tuple #[y0, y1] ∧ y0 = .int .i64 (r.1) ∧ y1 = .bool (r.2)) := by
 unfold f72 at h;refine fn_of_E Tryd.func72 rfl (Nat.le_of_ble_eq_true rfl) fun g0 hm hfr => ?_;have rp0 : RV g0.m wI x0 up0 := hm ▸ rp0;obtain ⟨ff2, fa2, fc2, rfl, fen2, fcl2⟩ := rp2;show E _ 49 none _ _ _ _ _;refine E_seq (E_region (EL_at (.int .i64 (0)) rfl rfl ?_));refine EL_at (.bool false) rfl rfl ?_;refine EL_nil (thn_n (E_seq (E_region (EL_mw up0 rfl rfl ?_))));refine EL_p (.int .i64 ((x0).length : Int)) (P_len Tryd.underlying56 rfl rp0) rfl ?_;refine EL_at (.int .i64 ((x0).length : Int)) rfl rfl ?_;refine EL_nil (thn_n (E_seq (E_region (EL_mw (.int .i64 ((x0).length : Int)) rfl rfl ?_))));refine EL_at (.int .i64 (0)) rfl rfl ?_;refine EL_at (.int .i64 ((x0).length : Int)) rfl rfl ?_;refine EL_nil (thn_n ?_);obtain ⟨o0, hx, h⟩ := bsome h;refine E_join (fun e w => ∃ (g : Gh) , Fr gI wI g w ∧ e 0 = up0 ∧ RV g.m w (x0 : List PayRate) up0 ∧ e 1 = .int .i64 (x1) ∧ e 2 = (.func (.func ff2) fa2 fc2) ∧ e 8 = .int .i64 (((x0).length : Int)) ∧ e 9 = .int .i64 (o0)) (fun Q' hQ => ?_) (fun eG kG hR => ?_)
 ·replace h := hx
  clear hx;refine E_block ?_;refine E_lp h (fun (s : Int × Int) e w => ∃ (g : Gh) , Fr gI wI g w ∧ e 0 = up0 ∧ RV g.m w (x0 : List PayRate) up0 ∧ e 1 = .int .i64 (x1) ∧ e 2 = (.func (.func ff2) fa2 fc2) ∧ e 8 = .int .i64 (((x0).length : Int)) ∧ e 9 = .int .i64 (s.1) ∧ e 10 = .int .i64 (s.2)) ⟨g0, hfr, rfl, rp0, rfl, rfl, rfl, rfl, rfl⟩ (fun X14 k14 zD => ?_);rintro ⟨i6, l5⟩ gG w15 ⟨cF, hfr, cC, uC, vC, bD, cD, l9, oB⟩ h;refine E_joinC h (fun (s : Unit) e w => ∃ (g : Gh) , Fr gI wI g w ∧ e 0 = up0 ∧ RV g.m w (x0 : List PayRate) up0 ∧ e 1 = .int .i64 (x1) ∧ e 2 = (.func (.func ff2) fa2 fc2) ∧ e 8 = .int .i64 (((x0).length : Int)) ∧ e 9 = .int .i64 (i6) ∧ e 10 = .int .i64 (l5)) (fun X17 yE rF h => ?_) ?_
  ·refine E_seq (E_region (EL_mv l9 rfl ?_))
   refine EL_mv oB rfl ?_;refine EL_in (.bool ((decide (i6 < l5)))) rfl rfl rfl rfl ?_;refine EL_nil (thn_n ?_);rcases csome h with ⟨yB, h⟩ | ⟨yB, h⟩
   ·refine E_ct yB rfl ?_
    exact E_skip (thn_n (rF () _ _ ⟨cF, hfr, cC, uC, vC, bD, cD, l9, oB⟩ h))
   ·refine E_cf yB rfl ?_
    refine E_exit ?_;refine thn_e ?_;refine thn_e ?_;refine blk_hit ?_;obtain rfl := sinj h;exact hQ _ _ ⟨cF, hfr, cC, uC, vC, bD, cD, l9⟩
  ·rintro _ iG lG ⟨dF, hfr, n9, l8, aB, lB, lD, nD, vB⟩ h
   refine E_block ?_;refine E_seq (E_region (EL_mv nD rfl ?_));refine EL_mv vB rfl ?_;refine EL_in (.int .i64 ((w64 (i6 + l5)))) rfl rfl rfl rfl ?_;refine EL_p (.int .u64 (wu64 (w64 (i6 + l5)))) (P_intu64 Tryd.underlying3 Tryd.underlying83 rfl) rfl ?_;obtain ⟨g8, hy20, h⟩ := bsome h;refine EL_p (.int .u64 (g8)) (P_shrU rfl rfl hy20) rfl ?_;refine EL_p (.int .i64 ((w64 g8))) (P_u64int Tryd.underlying83 Tryd.underlying3 rfl) rfl ?_;refine EL_at (.int .i64 ((w64 g8))) rfl rfl ?_;refine EL_nil (thn_n (E_seq (E_region (EL_mv lB rfl ?_))));refine EL_mv n9 rfl ?_;refine EL_mw (.int .i64 ((w64 g8))) rfl rfl ?_;obtain ⟨xE, aE, h⟩ := bsome h;refine EL_p (ePtr up0 (w64 g8) 2) (P_indexAddr (α := PayRate) Tryd.underlying56 Tryd.sizeOf55 rfl l8 rfl aE) rfl ?_;have uF := PT_idx l8 aE;refine EL_do .plain rfl (D_load (g := dF) Tryd.isAgg55 Tryd.sizeOf55 rfl uF fun vF xF => ?_);refine EL_mv aB rfl ?_;obtain ⟨yD, sF, h⟩ := bsome h;refine EL_do .plain rfl (D_callv (g := dF) (vs := [vF, .int .i64 (x1)]) rfl fen2 (.cons rfl (.cons rfl .nil)) (fcl2 _ _ hfr.ch _ _ _ _ _  xF (RV_int.2 rfl) sF) fun eF mG sG hs hr => ?_);have hfr := hfr.ext hs;have l8 := l8.ext hs;obtain rfl := RV_int.1 hr;refine EL_in (.bool ((decide (yD < (0 : Int))))) rfl rfl rfl rfl ?_;refine EL_nil (thn_n ?_);rcases csome h with ⟨zB, h⟩ | ⟨zB, h⟩
   ·refine E_ct zB rfl ?_
    refine E_region (EL_mw (.int .i64 ((w64 g8))) rfl rfl ?_);refine EL_in (.int .i64 ((w64 ((w64 g8) + (1 : Int))))) rfl rfl rfl rfl ?_;refine EL_at (.int .i64 ((w64 ((w64 g8) + (1 : Int))))) rfl rfl ?_;exact EL_nil (blk_n (thn_n (zD ((w64 ((w64 g8) + (1 : Int))), l5) _ _ ⟨eF, hfr, n9, l8, aB, lB, lD, rfl, vB⟩ h)))
   ·refine E_cf zB rfl ?_
    refine E_region (EL_mw (.int .i64 ((w64 g8))) rfl rfl ?_);refine EL_at (.int .i64 ((w64 g8))) rfl rfl ?_;exact EL_nil (blk_n (thn_n (zD (i6, (w64 g8)) _ _ ⟨eF, hfr, n9, l8, aB, lB, lD, nD, rfl⟩ h)))
 ·clear hx
  obtain ⟨bE, hfr, lE, oD, mE, oE, rE, mB⟩ := hR;obtain ⟨⟨n8, v8⟩, hx, h⟩ := bsome h;refine E_join (fun e w => ∃ (g : Gh) , Fr gI wI g w ∧ e 6 = .int .i64 (n8) ∧ e 7 = .bool (v8)) (fun Q' hQ => ?_) (fun jG xG hR => ?_)
  ·replace h := hx
   clear hx;refine E_region (EL_mv mB rfl ?_);refine EL_mv mB rfl ?_;refine EL_mv rE rfl ?_;refine EL_in (.bool ((decide (o0 < ((x0).length : Int))))) rfl rfl rfl rfl ?_;refine EL_mw (.bool ((decide (o0 < ((x0).length : Int))))) rfl rfl ?_;rcases csome h with ⟨t5, h⟩ | ⟨t5, h⟩
   ·refine EL_y ((.func (.func ff2) fa2 fc2)) (P_move oE) rfl rfl t5 rfl ?_
    refine EL_y up0 (P_move lE) rfl rfl t5 rfl ?_;refine EL_y (.int .i64 (o0)) (P_move mB) rfl rfl t5 rfl ?_;obtain ⟨zE, iE, h⟩ := bsome h;refine EL_y (ePtr up0 o0 2) (P_indexAddr (α := PayRate) Tryd.underlying56 Tryd.sizeOf55 rfl oD rfl iE) rfl rfl t5 rfl ?_;have yF := PT_idx oD iE;refine EL_do (.yes2 rfl rfl t5) rfl (D_load (g := bE) Tryd.isAgg55 Tryd.sizeOf55 rfl yF fun aG bG => ?_);refine EL_y (.int .i64 (x1)) (P_move mE) rfl rfl t5 rfl ?_;obtain ⟨nB, tF, h⟩ := bsome h;refine EL_do (.yes2 rfl rfl t5) rfl (D_callv (g := bE) (vs := [aG, .int .i64 (x1)]) rfl fen2 (.cons rfl (.cons rfl .nil)) (fcl2 _ _ hfr.ch _ _ _ _ _  bG (RV_int.2 rfl) tF) fun cG yG zG hs hr => ?_);have hfr := hfr.ext hs;obtain rfl := RV_int.1 hr;refine EL_y (.bool ((nB == (0 : Int)))) (P_int rfl rfl rfl) rfl rfl t5 rfl ?_;refine EL_p (.bool ((nB == (0 : Int)))) (P_pick (b := (decide (o0 < ((x0).length : Int)))) rfl (pick_t t5 rfl)) rfl ?_;refine EL_at (.int .i64 (o0)) rfl rfl ?_;refine EL_at (.bool ((nB == (0 : Int)))) rfl rfl ?_;refine EL_nil ?_;obtain ⟨rfl, rfl⟩ := pairs2 h;exact hQ _ _ ⟨cG, hfr, rfl, rfl⟩
   ·refine EL_s rfl rfl t5 rfl rfl ?_
    iterate 7 refine EL_s rfl rfl t5 rfl rfl ?_
    refine EL_p (.bool false) (P_pick (b := (decide (o0 < ((x0).length : Int)))) rfl (pick_f t5 rfl)) rfl ?_;refine EL_at (.int .i64 (o0)) rfl rfl ?_;refine EL_at (.bool false) rfl rfl ?_;refine EL_nil ?_;obtain ⟨rfl, rfl⟩ := pairs2 h;exact hQ _ _ ⟨bE, hfr, rfl, rfl⟩
  ·clear hx
   obtain ⟨aH, hfr, uE, vE⟩ := hR;refine E_ret ?_;obtain rfl := sinj h;exact end2 rfl rfl (show _ = .int .i64 (n8) from uE) (show _ = .bool (v8) from vE) ⟨_, hfr, _, _, rfl, rfl, rfl⟩
def f80 (x0 : List Int) : Option ((List Int)) :=
 jn (σ := Unit) (fun _ =>
  jn (σ := Unit) (fun _ =>
   some (x0)
   ) fun k53 =>
  lp (σ := Int) (fun k54 o0 =>
   jn (σ := Unit) (fun _ =>
    jn (σ := Int) (fun t5 =>
     k54 ((w64 (t5 + (1 : Int))))
     ) fun uC =>
    (idx x0 o0).bind fun n9 =>
    (idx x0 (w64 (o0 - (1 : Int)))).bind fun aB =>
    bif (n9 == aB) then
     none
    else
     uC (o0)
    ) fun k57 =>
   bif (decide (o0 < ((x0).length : Int))) then
    k57 ()
   else
    k53 ()
   ) big ((1 : Int))
  ) fun k2 =>
 bif (decide (((x0).length : Int) < (2 : Int))) then
  some (x0)
 else
  k2 ()
theorem en80 : Enters Tryd.prog 80 := enters_of Tryd.func80 (by kernel_rfl) rfl
theorem wk80 {gI : Gh} {wI : World} {x0 : List Int} {up0 : Value} (rp0 : RV gI.m wI x0 up0) {r : (List Int)} (h : f80 x0 = some r) : Fn Tryd.prog 80 #[up0] gI wI (fun m w v => RV m w (r) v) := by
 unfold f80 at h;refine fn_of_E Tryd.func80 rfl (Nat.le_of_ble_eq_true rfl) fun g0 hm hfr => ?_;have rp0 : RV g0.m wI x0 up0 := hm ▸ rp0;show E _ 61 none _ _ _ _ _;refine E_seq (E_region (EL_at (.slice none 0 0) rfl rfl ?_));refine EL_nil (thn_n (E_joinC h (fun (s : Unit) e w => ∃ (g : Gh) , Fr gI wI g w ∧ e 0 = up0 ∧ RV g.m w (x0 : List Int) up0) (fun X2 k2 hk2 h => ?_) ?_))
 ·refine E_seq (E_region (EL_mw up0 rfl rfl ?_))
  refine EL_p (.int .i64 ((x0).length : Int)) (P_len Tryd.underlying34 rfl rp0) rfl ?_;refine EL_in (.bool ((decide (((x0).length : Int) < (2 : Int))))) rfl rfl rfl rfl ?_;refine EL_nil (thn_n ?_);rcases csome h with ⟨hc3, h⟩ | ⟨hc3, h⟩
  ·refine E_ct hc3 rfl ?_
   refine E_seq (E_region (EL_mw up0 rfl rfl ?_));refine EL_at up0 rfl rfl ?_;refine EL_nil (thn_n (E_ret (thn_r ?_)));obtain rfl := sinj h;exact end1 rfl rfl (show _ = up0 from rfl) ⟨_, hfr, rp0⟩
  ·refine E_cf hc3 rfl ?_
   exact E_skip (thn_n (hk2 () _ _ ⟨g0, hfr, rfl, rp0⟩ h))
 ·rintro _ rF w4 ⟨g4, hfr, bD, cD⟩ h
  refine E_joinC h (fun (s : Unit) e w => ∃ (g : Gh) , Fr gI wI g w ∧ e 0 = up0 ∧ RV g.m w (x0 : List Int) up0) (fun X53 k53 lD h => ?_) ?_
  ·refine E_seq (E_region (EL_at (.int .i64 (1)) rfl rfl ?_))
   refine EL_nil (thn_n (E_block ?_));refine E_lp h (fun (s : Int) e w => ∃ (g : Gh) , Fr gI wI g w ∧ e 0 = up0 ∧ RV g.m w (x0 : List Int) up0 ∧ e 3 = .int .i64 (s)) ⟨g4, hfr, bD, cD, rfl⟩ (fun X54 k54 nD => ?_);rintro o0 yE sF ⟨vC, hfr, l8, n8, lB⟩ h;refine E_joinC h (fun (s : Unit) e w => ∃ (g : Gh) , Fr gI wI g w ∧ e 0 = up0 ∧ RV g.m w (x0 : List Int) up0 ∧ e 3 = .int .i64 (o0)) (fun X57 k57 oD h => ?_) ?_
   ·refine E_seq (E_region (EL_mv lB rfl ?_))
    refine EL_mv l8 rfl ?_;refine EL_p (.int .i64 ((x0).length : Int)) (P_len Tryd.underlying34 rfl n8) rfl ?_;refine EL_in (.bool ((decide (o0 < ((x0).length : Int))))) rfl rfl rfl rfl ?_;refine EL_nil (thn_n ?_);rcases csome h with ⟨l9, h⟩ | ⟨l9, h⟩
    ·refine E_ct l9 rfl ?_
     exact E_skip (thn_n (oD () _ _ ⟨vC, hfr, l8, n8, lB⟩ h))
    ·refine E_cf l9 rfl ?_
     refine E_exit ?_;refine thn_e ?_;refine thn_e ?_;refine blk_hit ?_;exact thn_n (lD () _ _ ⟨vC, hfr, l8, n8⟩ h)
   ·rintro _ zE tF ⟨iE, hfr, i6, l5, g8⟩ h
    refine E_joinC h (fun (s : Int) e w => ∃ (g : Gh) , Fr gI wI g w ∧ e 0 = up0 ∧ RV g.m w (x0 : List Int) up0 ∧ e 3 = .int .i64 (s)) (fun X81 uC yD h => ?_) ?_
    ·refine E_block ?_
     refine E_seq ?_;obtain ⟨n9, mB, h⟩ := bsome h;have lE := PT_idx l5 mB;refine L_load (x := .tmp 18) Tryd.isAgg3 Tryd.sizeOf3 lE fun uF mE zD => ?_;obtain rfl := RV_int.1 mE;obtain ⟨aB, nB, h⟩ := bsome h;have oE := PT_idx l5 nB;refine L_load (x := .tmp 23) Tryd.isAgg3 Tryd.sizeOf3 oE fun vF rE aE => ?_;obtain rfl := RV_int.1 rE;refine E_drawL (g := iE) (n := 10) [] [0, 1, 2, 3, 4, 5, 6, 7, 8, 9] rfl mixed (by kernel_rfl) trivial ?_;refine L_p up0 rfl rfl (P_move i6) ?_;refine L_p (.int .i64 (o0)) rfl rfl (P_move g8) ?_;refine L_p (ePtr up0 o0 1) rfl rfl (P_indexAddr (α := Int) Tryd.underlying34 Tryd.sizeOf3 rfl l5 rfl mB) ?_;refine L_ld (c := .int .i64 (n9)) rfl rfl .plain (fun _ _ h => h.ch) zD rfl ?_;refine L_p up0 rfl rfl (P_move i6) ?_;refine L_p (.int .i64 (o0)) rfl rfl (P_move g8) ?_;refine L_p (.int .i64 ((w64 (o0 - (1 : Int))))) rfl rfl (P_int rfl rfl rfl) ?_;refine L_p (ePtr up0 (w64 (o0 - (1 : Int))) 1) rfl rfl (P_indexAddr (α := Int) Tryd.underlying34 Tryd.sizeOf3 rfl l5 rfl nB) ?_;refine L_ld (c := .int .i64 (aB)) rfl rfl .plain (fun _ _ h => h.ch) aE rfl ?_;refine L_p (.bool ((n9 == aB))) rfl rfl (P_int rfl rfl rfl) ?_;refine L_nl fun uE xF hs => ?_;have hfr := hfr.ext hs;have l5 := l5.ext hs;clear hs;refine EL_nil (thn_n ?_);rcases csome h with ⟨v8, h⟩ | ⟨v8, h⟩
     ·refine E_ct v8 rfl ?_
      refine E_seq (E_region (EL_mv i6 rfl ?_));refine EL_mv g8 rfl ?_
      cases h
     ·refine E_cf v8 rfl ?_
      exact E_skip (blk_n (thn_n (yD (o0) _ _ ⟨uE, hfr, i6, l5, g8⟩ h)))
    ·rintro t5 vE cF ⟨bE, hfr, oB, vB, yB⟩ h
     refine E_region (EL_mv yB rfl ?_);refine EL_in (.int .i64 ((w64 (t5 + (1 : Int))))) rfl rfl rfl rfl ?_;refine EL_at (.int .i64 ((w64 (t5 + (1 : Int))))) rfl rfl ?_;exact EL_nil (thn_n (nD ((w64 (t5 + (1 : Int)))) _ _ ⟨bE, hfr, oB, vB, rfl⟩ h))
  ·rintro _ xE dF ⟨eF, hfr, zB, cC⟩ h
   refine E_seq (E_region (EL_mv zB rfl ?_));refine EL_at up0 rfl rfl ?_;refine EL_nil (thn_n (E_ret ?_));obtain rfl := sinj h;exact end1 rfl rfl (show _ = up0 from rfl) ⟨_, hfr, cC⟩
def f83 (x0 : List Int) : Option (Bool) :=
 some ((decide (((x0).length : Int) > (6 : Int))))
theorem en83 : Enters Tryd.prog 83 := enters_of Tryd.func83 (by kernel_rfl) rfl
theorem wk83 {gI : Gh} {wI : World} {x0 : List Int} {up0 : Value} (rp0 : RV gI.m wI x0 up0) {r : Bool} (h : f83 x0 = some r) : Fn Tryd.prog 83 #[up0] gI wI (fun _ _ v => v = .bool (r)) := by
 unfold f83 at h;refine fn_of_E Tryd.func83 rfl (Nat.le_of_ble_eq_true rfl) fun g0 hm hfr => ?_;have rp0 : RV g0.m wI x0 up0 := hm ▸ rp0;show E _ 6 none _ _ _ _ _;refine E_seq (E_region (EL_at (.bool false) rfl rfl ?_));refine EL_nil (thn_n (E_seq (E_region (EL_mw up0 rfl rfl ?_))));refine EL_p (.int .i64 ((x0).length : Int)) (P_len Tryd.underlying34 rfl rp0) rfl ?_;refine EL_in (.bool ((decide (((x0).length : Int) > (6 : Int))))) rfl rfl rfl rfl ?_;refine EL_at (.bool ((decide (((x0).length : Int) > (6 : Int))))) rfl rfl ?_;refine EL_nil (thn_n (E_ret ?_));obtain rfl := sinj h;exact end1 rfl rfl (show _ = .bool ((decide (((x0).length : Int) > (6 : Int)))) from rfl) ⟨_, hfr, rfl⟩
def f84 (x0 : List Int) (z0 : PaySheet) : Option (Bool) :=
 some ((((x0).length : Int) != ((((z0).PayTable).Down).length : Int)))
theorem en84 : Enters Tryd.prog 84 := enters_of Tryd.func84 (by kernel_rfl) rfl
theorem wk84 {gI : Gh} {wI : World} {x0 : List Int} {z0 : PaySheet} {up0 : Value} (rp0 : RV gI.m wI x0 up0) {pf0 : Value} (qf0 : PT gI.m wI z0 pf0) {r : Bool} (h : f84 x0 z0 = some r) : Fn Tryd.prog 84 #[up0, pf0] gI wI (fun _ _ v => v = .bool (r)) := by
 unfold f84 at h;refine fn_of_E Tryd.func84 rfl (Nat.le_of_ble_eq_true rfl) fun g0 hm hfr => ?_;have qf0 : PT g0.m wI z0 pf0 := hm ▸ qf0;have rp0 : RV g0.m wI x0 up0 := hm ▸ rp0;show E _ 11 none _ _ _ _ _;refine E_seq (E_region (EL_at (.bool false) rfl rfl ?_));refine EL_nil (thn_n (E_seq (E_region (EL_mw up0 rfl rfl ?_))));refine EL_p (.int .i64 ((x0).length : Int)) (P_len Tryd.underlying34 rfl rp0) rfl ?_;refine EL_p (fPtr pf0 0) (P_fieldAddr at_97_0 rfl (PT.ptr qf0)) rfl ?_;have q1 := PT_field (part_PaySheet_0).1 qf0;refine EL_p (fPtr (fPtr pf0 0) 2) (P_fieldAddr at_71_2 rfl (PT.ptr q1)) rfl ?_;have q2 := PT_field (part_PayTable_2).1 q1;refine EL_do .plain rfl (D_load (g := g0) Tryd.isAgg34 Tryd.sizeOf34 rfl q2 fun v3 r3 => ?_);refine EL_p (.int .i64 ((((z0).PayTable).Down).length : Int)) (P_len Tryd.underlying34 rfl r3) rfl ?_;refine EL_p (.bool ((((x0).length : Int) != ((((z0).PayTable).Down).length : Int)))) (P_int rfl rfl rfl) rfl ?_;refine EL_p (.bool ((((x0).length : Int) != ((((z0).PayTable).Down).length : Int)))) (P_assign rfl) rfl ?_;refine EL_nil (thn_n (E_ret ?_));obtain rfl := sinj h;exact end1 rfl rfl (show _ = .bool ((((x0).length : Int) != ((((z0).PayTable).Down).length : Int))) from rfl) ⟨_, hfr, rfl⟩
def f85 (x1 : Int) : Option ((List Int)) :=
 Option.bind (α := Unit) (
  bif (decide (x1 < (0 : Int))) then
   none
  else
   some ()
  ) fun (_ : Unit) =>
 Option.bind (α := (List Int)) (
  bif (decide ((w64 (x1 - (w64 (((0 : Nat) : Int) - ((([] : List Int)).length : Int))))) > (0 : Int))) then
   (grwz 8 ((w64 (x1 - (w64 (((0 : Nat) : Int) - ((([] : List Int)).length : Int))))))).bind fun _ =>
   some (([] : List Int))
  else
   some (([] : List Int))
  ) fun t5 =>
 some (t5)
theorem en85 : Enters Tryd.prog 85 := enters_of Tryd.func85 (by kernel_rfl) rfl
theorem wk85 {iO : Nat} {gI : Gh} {wI : World} {x1 : Int}  {r : (List Int)} (h : f85 x1 = some r) : FnG Tryd.prog 85 #[.slice none 0 0, .int .i64 (x1)] gI wI (fun g w v => OS iO g w 3 r v ∧ RV g.m w r v) := by
 unfold f85 at h;refine fnG_of_E Tryd.func85 rfl (Nat.le_of_ble_eq_true rfl) fun g0 hm hfr => ?_;show E _ 27 none _ _ _ _ _;refine E_seq (E_region (EL_at (.slice none 0 0) rfl rfl ?_));refine EL_nil (thn_n ?_);obtain ⟨_, hx, h⟩ := bsome h;refine E_join (fun e w => ∃ (g : Gh) , Fr gI wI g w ∧ e 0 = .slice none 0 0 ∧ RV g.m w (([] : List Int) : List Int) (Value.slice none 0 0) ∧ e 1 = .int .i64 (x1)) (fun Q' hQ => ?_) (fun aB w3 hR => ?_)
 ·replace h := hx
  clear hx;refine E_seq (E_region (EL_mw (.int .i64 (x1)) rfl rfl ?_));refine EL_in (.bool ((decide (x1 < (0 : Int))))) rfl rfl rfl rfl ?_;refine EL_nil (thn_n ?_);rcases csome h with ⟨hc2, h⟩ | ⟨hc2, h⟩
  ·refine E_ct hc2 rfl ?_
   refine E_region ?_
   cases h
  ·refine E_cf hc2 rfl ?_
   refine E_skip ?_;obtain rfl := sinj h;exact hQ _ _ ⟨g0, hfr, rfl, RV_nil, rfl⟩
 ·clear hx
  obtain ⟨g3, hfr, o0, l5, l8⟩ := hR;obtain ⟨t5, hx, h⟩ := bsome h;refine E_join (fun e w => ∃ (g : Gh) (v0 : Value), Fr gI wI g w ∧ e 0 = v0 ∧ RV g.m w (t5 : List Int) v0 ∧ OS 4022 g w 3 (t5 : List Int) v0) (fun Q' hQ => ?_) (fun lB w8 hR => ?_)
  ·replace h := hx
   clear hx;refine E_seq (E_region (EL_mv l8 rfl ?_));refine EL_mv o0 rfl ?_;refine EL_p (.int .i64 ((0 : Nat) : Int)) (P_cap Tryd.underlying34 rfl) rfl ?_;refine EL_mv o0 rfl ?_;refine EL_p (.int .i64 ((([] : List Int)).length : Int)) (P_len Tryd.underlying34 rfl l5) rfl ?_;refine EL_p (.int .i64 ((w64 (((0 : Nat) : Int) - ((([] : List Int)).length : Int))))) (P_int rfl rfl rfl) rfl ?_;refine EL_p (.int .i64 ((w64 (x1 - (w64 (((0 : Nat) : Int) - ((([] : List Int)).length : Int))))))) (P_int rfl rfl rfl) rfl ?_;refine EL_p (.int .i64 ((w64 (x1 - (w64 (((0 : Nat) : Int) - ((([] : List Int)).length : Int))))))) (P_assign rfl) rfl ?_;refine EL_nil (thn_n (E_seq (E_region (EL_p (.int .i64 ((w64 (x1 - (w64 (((0 : Nat) : Int) - ((([] : List Int)).length : Int))))))) (P_move rfl) rfl ?_))));refine EL_p (.bool ((decide ((w64 (x1 - (w64 (((0 : Nat) : Int) - ((([] : List Int)).length : Int))))) > (0 : Int))))) (P_int rfl rfl rfl) rfl ?_;refine EL_nil (thn_n ?_);rcases csome h with ⟨hc6, h⟩ | ⟨hc6, h⟩
   ·refine E_ct hc6 rfl ?_
    refine E_region (EL_mv o0 rfl ?_);refine EL_mv o0 rfl ?_;refine EL_p (.int .i64 ((0 : Nat) : Int)) (P_cap Tryd.underlying34 rfl) rfl ?_;refine EL_p (.slice none 0 0) (P_cutN Tryd.underlying34 Tryd.sizeOf3 rfl rfl (fun p hp => by cases hp)) rfl ?_;refine EL_p (.int .i64 ((w64 (x1 - (w64 (((0 : Nat) : Int) - ((([] : List Int)).length : Int))))))) (P_move rfl) rfl ?_;obtain ⟨y7, n9, h⟩ := bsome h;refine EL_do .plain rfl (D_growZ (g := g3) (α := Int) 4022 Tryd.underlying34 Tryd.underlying3 info_3 rfl (Nat.le_of_ble_eq_true rfl) rfl rfl n9 fun g7 w7 b7 c7 m7 hs o7 r7 => ?_);have hfr := hfr.stp hs;have l5 := l5.stp hs;refine EL_mv o0 rfl ?_;refine EL_p (.int .i64 ((([] : List Int)).length : Int)) (P_len Tryd.underlying34 rfl l5) rfl ?_;refine EL_p ((.slice (some ⟨b7, 0, none⟩) 0 c7)) (P_cutN Tryd.underlying34 Tryd.sizeOf3 rfl rfl (fun p hp => by cases hp; rfl)) rfl ?_;refine EL_at ((.slice (some ⟨b7, 0, none⟩) 0 c7)) rfl rfl ?_;refine EL_nil ?_;obtain rfl := sinj h;exact hQ _ _ ⟨g7, ((.slice (some ⟨b7, 0, none⟩) 0 c7)), hfr, rfl, r7, o7⟩
   ·refine E_cf hc6 rfl ?_
    refine E_skip ?_;obtain rfl := sinj h;exact hQ _ _ ⟨g3, (.slice none 0 0), hfr, o0, l5, OS.nil⟩
  ·clear hx
   obtain ⟨g8, i6, hfr, n8, v8, l9⟩ := hR;refine E_seq (E_region (EL_mv n8 rfl ?_));refine EL_at i6 rfl rfl ?_;refine EL_nil (thn_n (E_ret ?_));obtain rfl := sinj h;obtain ⟨gh, hxh, homh, hrvh⟩ := OS.handn (i := iO) hfr l9 v8;exact end1 rfl rfl (show _ = i6 from rfl) ⟨gh, hxh, homh, hrvh⟩
def f86 (x0 : List Int) (x1 : Int) (x2 : Int) (x3 : Int) (x4 : Int → Int → Option Int) : Option ((List Int)) :=
 lp (σ := (List Int) × Int) (fun k1 (l5, o0) =>
  jn (σ := Unit) (fun _ =>
   Option.bind (α := (List Int)) (
    (idx l5 (w64 (x2 + o0))).bind fun n8 =>
    (idx l5 (w64 (x1 + o0))).bind fun y44 =>
    (idx l5 (w64 (x1 + o0))).bind fun iE =>
    (idx ((List.set l5 (Int.toNat (w64 (x1 + o0))) n8)) (w64 (x2 + o0))).bind fun lE =>
    some ((List.set ((List.set l5 (Int.toNat (w64 (x1 + o0))) n8)) (Int.toNat (w64 (x2 + o0))) y44))
    ) fun g8 =>
   k1 (g8, (w64 (o0 + (1 : Int))))
   ) fun k4 =>
  bif (decide (o0 < x3)) then
   k4 ()
  else
   some (l5)
  ) big (x0, (0 : Int))
theorem en86 : Enters Tryd.prog 86 := enters_of Tryd.func86 (by kernel_rfl) rfl
theorem wk86 {iI : Nat} {gI : Gh} {wI : World} {x0 : List Int} {x1 : Int} {x2 : Int} {x3 : Int} {x4 : Int → Int → Option Int} {up0 : Value} (mp0 : OM iI gI wI 3 x0 up0) {up4 : Value} (rp4 : FnV2 Tryd.prog x4 up4 gI wI) {r : (List Int)} (h : f86 x0 x1 x2 x3 x4 = some r) : FnM Tryd.prog 86 #[up0, .int .i64 (x1), .int .i64 (x2), .int .i64 (x3), up4] iI gI wI (fun g w v => v = .tuple #[] ∧ OM iI g w 3 r up0) := by
 unfold f86 at h;refine fnM_of_E Tryd.func86 rfl (Nat.le_of_ble_eq_true rfl) fun g0 hm hfr => ?_;have zB := mp0;replace mp0 := mp0.enter;rw [← hm] at mp0
 replace hm : g0.m = gI.m := by rw [hm]
 obtain ⟨ff4, fa4, fc4, rfl, fen4, fcl4⟩ := rp4;show E _ 38 none _ _ _ _ _;refine E_seq (E_region (EL_at (.int .i64 (0)) rfl rfl ?_));refine EL_nil (thn_n (E_block ?_));refine E_lp h (fun (s : (List Int) × Int) e w => ∃ (g : Gh) , FrM iI gI wI g w ∧ e 0 = up0 ∧ OM 1 g w 3 (s.1 : List Int) up0 ∧ e 1 = .int .i64 (x1) ∧ e 2 = .int .i64 (x2) ∧ e 3 = .int .i64 (x3) ∧ e 10 = .int .i64 (s.2)) ⟨g0, hfr, rfl, mp0, rfl, rfl, rfl, rfl⟩ (fun X1 k1 hk1 => ?_);rintro ⟨l5, o0⟩ zE w2 ⟨g2, hfr, nD, aB, oD, yD, lB, n9⟩ h;refine E_joinC h (fun (s : Unit) e w => ∃ (g : Gh) , FrM iI gI wI g w ∧ e 0 = up0 ∧ OM 1 g w 3 (l5 : List Int) up0 ∧ e 1 = .int .i64 (x1) ∧ e 2 = .int .i64 (x2) ∧ e 3 = .int .i64 (x3) ∧ e 10 = .int .i64 (o0)) (fun X4 k4 hk4 h => ?_) ?_
 ·refine E_seq (E_region (EL_mv n9 rfl ?_))
  refine EL_mv lB rfl ?_;refine EL_in (.bool ((decide (o0 < x3)))) rfl rfl rfl rfl ?_;refine EL_nil (thn_n ?_);rcases csome h with ⟨hc5, h⟩ | ⟨hc5, h⟩
  ·refine E_ct hc5 rfl ?_
   exact E_skip (thn_n (hk4 () _ _ ⟨g2, hfr, nD, aB, oD, yD, lB, n9⟩ h))
  ·refine E_cf hc5 rfl ?_
   refine E_exit ?_;refine thn_e ?_;refine thn_e ?_;refine blk_hit ?_;obtain rfl := sinj h;exact end0n rfl rfl ⟨_, hfr, rfl, zB.back aB⟩
 ·rintro _ cF w6 ⟨g6, hfr, l8, t5, v8, l9, zD, i6⟩ h
  obtain ⟨g8, hx, h⟩ := bsome h;refine E_join (fun e w => ∃ (g : Gh) , FrM iI gI wI g w ∧ e 0 = up0 ∧ OM 1 g w 3 (g8 : List Int) up0 ∧ e 1 = .int .i64 (x1) ∧ e 2 = .int .i64 (x2) ∧ e 3 = .int .i64 (x3) ∧ e 10 = .int .i64 (o0)) (fun Q' hQ => ?_) (fun yE dF hR => ?_)
  ·replace h := hx
   clear hx;refine E_block ?_;obtain ⟨n8, mB, h⟩ := bsome h;refine L_loadM (x := .tmp 28) Tryd.isAgg3 Tryd.sizeOf3 t5 mB fun eF mE aE => ?_;obtain rfl := RV_int.1 mE;obtain ⟨y44, nB, h⟩ := bsome h;refine L_loadM (x := .tmp 34) Tryd.isAgg3 Tryd.sizeOf3 t5 nB fun rF oE bE => ?_;obtain rfl := RV_int.1 oE;obtain ⟨iE, oB, h⟩ := bsome h;refine E_drawTL (g := g6) (n := 21) [4, 5, 6, 7] [] [0, 1, 2, 3, 4, 5, 6, 7, 8, 9, 10, 11, 12, 13, 14, 15, 16, 17, 18, 19, 20] rfl mixed (by kernel_rfl) trivial rfl ?_;refine L_p up0 rfl rfl (P_move l8) ?_;refine L_p (.int .i64 (x1)) rfl rfl (P_move v8) ?_;refine L_p (.int .i64 (o0)) rfl rfl (P_move i6) ?_;refine L_p (.int .i64 ((w64 (x1 + o0)))) rfl rfl (P_int rfl rfl rfl) ?_;refine L_purL (c := up0) rfl rfl .plain (P_move l8) ?_;refine L_purL (c := .int .i64 (x2)) rfl rfl .plain (P_move l9) ?_;refine L_purL (c := .int .i64 (o0)) rfl rfl .plain (P_move i6) ?_;refine L_purL (c := .int .i64 ((w64 (x2 + o0)))) rfl rfl .plain (P_int rfl rfl rfl) ?_;refine L_p up0 rfl rfl (P_move l8) ?_;refine L_p (.int .i64 (x2)) rfl rfl (P_move l9) ?_;refine L_p (.int .i64 (o0)) rfl rfl (P_move i6) ?_;refine L_p (.int .i64 ((w64 (x2 + o0)))) rfl rfl (P_int rfl rfl rfl) ?_;refine L_p (ePtr up0 (w64 (x2 + o0)) 1) rfl rfl (P_indexAddrM (α := Int) Tryd.underlying34 Tryd.sizeOf3 rfl t5 rfl mB) ?_;refine L_ld (c := .int .i64 (n8)) rfl rfl .plain (fun _ _ h => ⟨h.ch, fun b hb _ => h.below.block b hb⟩) aE rfl ?_;refine L_p up0 rfl rfl (P_move l8) ?_;refine L_p (.int .i64 (x1)) rfl rfl (P_move v8) ?_;refine L_p (.int .i64 (o0)) rfl rfl (P_move i6) ?_;refine L_p (.int .i64 ((w64 (x1 + o0)))) rfl rfl (P_int rfl rfl rfl) ?_;refine L_p (ePtr up0 (w64 (x1 + o0)) 1) rfl rfl (P_indexAddrM (α := Int) Tryd.underlying34 Tryd.sizeOf3 rfl t5 rfl nB) ?_;refine L_ld (c := .int .i64 (y44)) rfl rfl .plain (fun _ _ h => ⟨h.ch, fun b hb _ => h.below.block b hb⟩) bE rfl ?_;refine L_p (ePtr up0 (w64 (x1 + o0)) 1) rfl rfl (P_indexAddrM (α := Int) Tryd.underlying34 Tryd.sizeOf3 rfl t5 rfl oB) ?_;refine L_nl fun lD rE hs => ?_;have hlt : Lt g6.m w6 lD rE := hs.ch;have hfr := hfr.ext hs;have t5 := t5.ext hs;clear hs;refine TL_do hlt.w .plain rfl (D_storeM (g := lD) (α := Int) (a' := n8) Tryd.sizeOf3 rfl t5 oB rfl (RV_int.2 rfl) fun uE sF hs b75 => ?_);have hfr := hfr.stp hs;have hlt := hlt.stp hs;obtain ⟨lE, vB, h⟩ := bsome h;refine TL_pur hlt.w (v := ePtr up0 (w64 (x2 + o0)) 1) (P_indexAddrM (α := Int) Tryd.underlying34 Tryd.sizeOf3 rfl b75 rfl vB) .plain rfl ?_;refine TL_do hlt.w .plain rfl (D_storeM (g := uE) (α := Int) (a' := y44) Tryd.sizeOf3 rfl b75 vB rfl (RV_int.2 rfl) fun vE tF hs b77 => ?_);have hfr := hfr.stp hs;have hlt := hlt.stp hs;refine TL_nil hlt.w ?_;clear hlt;refine blk_n ?_;obtain rfl := sinj h;exact hQ _ _ ⟨vE, hfr, l8, b77, v8, l9, zD, i6⟩
  ·clear hx
   obtain ⟨xE, hfr, cC, uC, vC, bD, cD, yB⟩ := hR;refine E_region (EL_mv yB rfl ?_);refine EL_in (.int .i64 ((w64 (o0 + (1 : Int))))) rfl rfl rfl rfl ?_;refine EL_at (.int .i64 ((w64 (o0 + (1 : Int))))) rfl rfl ?_;exact EL_nil (thn_n (hk1 (g8, (w64 (o0 + (1 : Int)))) _ _ ⟨xE, hfr, cC, uC, vC, bD, cD, rfl⟩ h))
def f87 (x0 : Int) (x1 : Int) : Option (Bool) :=
 Option.bind (α := Bool) (
  (f41 x0).bind fun y8 =>
  bif y8 then
   (f41 x1).bind fun y11 =>
   bif (!y11) then
    some (true)
   else
    some ((decide (x0 < x1)))
  else
   some ((decide (x0 < x1)))
  ) fun l5 =>
 some (l5)
theorem en87 : Enters Tryd.prog 87 := enters_of Tryd.func87 (by kernel_rfl) rfl
theorem wk87 {gI : Gh} {wI : World} {x0 : Int} {x1 : Int}  {r : Bool} (h : f87 x0 x1 = some r) : Fn Tryd.prog 87 #[.int .i64 (x0), .int .i64 (x1)] gI wI (fun _ _ v => v = .bool (r)) := by
 unfold f87 at h;refine fn_of_E Tryd.func87 rfl (Nat.le_of_ble_eq_true rfl) fun g0 hm hfr => ?_;show E _ 17 none _ _ _ _ _;refine E_seq (E_region (EL_at (.bool false) rfl rfl ?_));refine EL_nil (thn_n ?_);obtain ⟨l5, hx, h⟩ := bsome h;refine E_join (fun e w => ∃ (g : Gh) , Fr gI wI g w ∧ e 4 = .bool (l5)) (fun Q' hQ => ?_) (fun n8 l9 hR => ?_)
 ·replace h := hx
  clear hx;refine E_region (EL_mw (.int .i64 (x0)) rfl rfl ?_);obtain ⟨y8, l8, h⟩ := bsome h;refine EL_do .plain rfl (D_call (g := g0) (vs := [.int .i64 (x0)]) en41 (.cons rfl .nil) (wk41  l8) fun g7 w7_ v7 hs hr => ?_);have hfr := hfr.ext hs;subst hr;refine EL_mw (.bool (y8)) rfl rfl ?_;rcases csome h with ⟨hc9, h⟩ | ⟨hc9, h⟩
  ·refine EL_y (.int .i64 (x1)) (P_move rfl) rfl rfl hc9 rfl ?_
   obtain ⟨y11, g8, h⟩ := bsome h;refine EL_do (.yes2 rfl rfl hc9) rfl (D_call (g := g7) (vs := [.int .i64 (x1)]) en41 (.cons rfl .nil) (wk41  g8) fun i6 v8 n9 hs hr => ?_);have hfr := hfr.ext hs;subst hr;refine EL_y (.bool (!y11)) (P_not rfl) rfl rfl hc9 rfl ?_;refine EL_p (.bool (!y11)) (P_pick (b := y8) rfl (pick_t hc9 rfl)) rfl ?_;refine EL_mw (.bool (!y11)) rfl rfl ?_;rcases csome h with ⟨o0, h⟩ | ⟨o0, h⟩
   ·refine EL_s rfl rfl o0 rfl rfl ?_
    refine EL_s rfl rfl o0 rfl rfl ?_;refine EL_s rfl rfl o0 rfl rfl ?_;refine EL_p (.bool true) (P_pick (b := (!y11)) rfl (pick_t o0 rfl)) rfl ?_;refine EL_at (.bool true) rfl rfl ?_;refine EL_nil ?_;obtain rfl := sinj h;exact hQ _ _ ⟨i6, hfr, rfl⟩
   ·refine EL_y (.int .i64 (x0)) (P_move rfl) rfl rfl o0 rfl ?_
    refine EL_y (.int .i64 (x1)) (P_move rfl) rfl rfl o0 rfl ?_;refine EL_y (.bool ((decide (x0 < x1)))) (P_int rfl rfl rfl) rfl rfl o0 rfl ?_;refine EL_p (.bool ((decide (x0 < x1)))) (P_pick (b := (!y11)) rfl (pick_f o0 rfl)) rfl ?_;refine EL_at (.bool ((decide (x0 < x1)))) rfl rfl ?_;refine EL_nil ?_;obtain rfl := sinj h;exact hQ _ _ ⟨i6, hfr, rfl⟩
  ·refine EL_s rfl rfl hc9 rfl rfl ?_
   refine EL_s rfl rfl hc9 rfl rfl ?_;refine EL_s rfl rfl hc9 rfl rfl ?_;refine EL_p (.bool false) (P_pick (b := y8) rfl (pick_f hc9 rfl)) rfl ?_;refine EL_mw (.bool false) rfl rfl ?_;refine EL_y (.int .i64 (x0)) (P_move rfl) rfl rfl rfl rfl ?_;refine EL_y (.int .i64 (x1)) (P_move rfl) rfl rfl rfl rfl ?_;refine EL_y (.bool ((decide (x0 < x1)))) (P_int rfl rfl rfl) rfl rfl rfl rfl ?_;refine EL_p (.bool ((decide (x0 < x1)))) (P_pick (b := false) rfl (pick_f rfl rfl)) rfl ?_;refine EL_at (.bool ((decide (x0 < x1)))) rfl rfl ?_;refine EL_nil ?_;obtain rfl := sinj h;exact hQ _ _ ⟨g7, hfr, rfl⟩
 ·clear hx
  obtain ⟨aB, hfr, t5⟩ := hR;refine E_ret ?_;obtain rfl := sinj h;exact end1 rfl rfl (show _ = .bool (l5) from t5) ⟨_, hfr, rfl⟩
def f88 (x0 : List (List Int)) (x1 : (List Int) → Option Bool) : Option (Int) :=
 jn (σ := Unit) (fun _ =>
  some ((-1 : Int))
  ) fun k18 =>
 lp (σ := Int) (fun k19 o0 =>
  bif (decide (o0 < ((x0).length : Int))) then
   jn (σ := Unit) (fun _ =>
    k19 ((w64 (o0 + (1 : Int))))
    ) fun k28 =>
   (idx x0 o0).bind fun vB =>
   (x1 vB).bind fun yB =>
   bif yB then
    some (o0)
   else
    k28 ()
  else
   k18 ()
  ) big ((0 : Int))
theorem en88 : Enters Tryd.prog 88 := enters_of Tryd.func88 (by kernel_rfl) rfl
theorem wk88 {gI : Gh} {wI : World} {x0 : List (List Int)} {x1 : (List Int) → Option Bool} {up0 : Value} (rp0 : RV gI.m wI x0 up0) {up1 : Value} (rp1 : FnV1 Tryd.prog x1 up1 gI wI) {r : Int} (h : f88 x0 x1 = some r) : Fn Tryd.prog 88 #[up0, up1] gI wI (fun _ _ v => v = .int .i64 (r)) := by
 unfold f88 at h;refine fn_of_E Tryd.func88 rfl (Nat.le_of_ble_eq_true rfl) fun g0 hm hfr => ?_;have rp0 : RV g0.m wI x0 up0 := hm ▸ rp0;obtain ⟨ff1, fa1, fc1, rfl, fen1, fcl1⟩ := rp1;show E _ 19 none _ _ _ _ _;refine E_seq (E_region (EL_at (.int .i64 (0)) rfl rfl ?_));refine EL_nil (thn_n (E_joinC h (fun (s : Unit) e w => ∃ (g : Gh) , Fr gI wI g w) (fun X18 k18 zB h => ?_) ?_))
 ·refine E_seq (E_region (EL_mw up0 rfl rfl ?_))
  refine EL_p (.int .i64 ((x0).length : Int)) (P_len Tryd.underlying69 rfl rp0) rfl ?_;refine EL_mw (.int .i64 (0)) rfl rfl ?_;refine EL_nil (thn_n (E_block ?_));refine E_lp h (fun (s : Int) e w => ∃ (g : Gh) , Fr gI wI g w ∧ e 0 = up0 ∧ RV g.m w (x0 : List (List Int)) up0 ∧ e 1 = (.func (.func ff1) fa1 fc1) ∧ e 7 = .int .i64 (((x0).length : Int)) ∧ e 8 = .int .i64 (s)) ⟨g0, hfr, rfl, rp0, rfl, rfl, rfl⟩ (fun X19 k19 cC => ?_);rintro o0 yD bE ⟨l9, hfr, l8, l5, n8, v8, t5⟩ h;refine E_seq (E_region (EL_in (.bool ((decide (o0 < ((x0).length : Int))))) t5 v8 rfl rfl ?_));refine EL_nil (thn_n (E_seq ?_));rcases csome h with ⟨i6, h⟩ | ⟨i6, h⟩
  ·refine E_ct i6 rfl ?_
   refine E_skip (thn_n (E_joinC h (fun (s : Unit) e w => ∃ (g : Gh) , Fr gI wI g w ∧ e 0 = up0 ∧ RV g.m w (x0 : List (List Int)) up0 ∧ e 1 = (.func (.func ff1) fa1 fc1) ∧ e 7 = .int .i64 (((x0).length : Int)) ∧ e 8 = .int .i64 (o0)) (fun X28 k28 uC h => ?_) ?_))
   ·refine E_block ?_
    refine E_seq (E_region (EL_mv t5 rfl ?_));refine EL_at (.int .i64 (o0)) rfl rfl ?_;refine EL_nil (thn_n (E_seq (E_region (EL_mv n8 rfl ?_))));refine EL_mv l8 rfl ?_;refine EL_mw (.int .i64 (o0)) rfl rfl ?_;obtain ⟨vB, n9, h⟩ := bsome h;refine EL_p (ePtr up0 o0 1) (P_indexAddr (α := List Int) Tryd.underlying69 Tryd.sizeOf34 rfl l5 rfl n9) rfl ?_;have bD := PT_idx l5 n9;refine EL_do .plain rfl (D_load (g := l9) Tryd.isAgg34 Tryd.sizeOf34 rfl bD fun cD lD => ?_);obtain ⟨yB, vC, h⟩ := bsome h;refine EL_do .plain rfl (D_callv (g := l9) (vs := [cD]) rfl fen1 (.cons rfl .nil) (fcl1 _ _ hfr.ch _ _ _  lD vC) fun nD iE lE hs hr => ?_);have hfr := hfr.ext hs;have l5 := l5.ext hs;obtain rfl := RV_bool.1 hr;refine EL_nil (thn_n ?_);rcases csome h with ⟨g8, h⟩ | ⟨g8, h⟩
    ·refine E_ct g8 rfl ?_
     refine E_seq (E_region (EL_mw (.int .i64 (o0)) rfl rfl ?_));refine EL_at (.int .i64 (o0)) rfl rfl ?_;refine EL_nil (thn_n (E_ret (blk_r ?_)));refine thn_r ?_;refine thn_r ?_;refine blk_r ?_;refine thn_r ?_;obtain rfl := sinj h;exact end1 rfl rfl (show _ = .int .i64 (o0) from rfl) ⟨_, hfr, rfl⟩
    ·refine E_cf g8 rfl ?_
     exact E_skip (blk_n (thn_n (uC () _ _ ⟨nD, hfr, l8, l5, n8, v8, t5⟩ h)))
   ·rintro _ zD mE ⟨oD, hfr, aB, lB, mB, nB, oB⟩ h
    refine E_region (EL_in (.int .i64 ((w64 (o0 + (1 : Int))))) oB rfl rfl rfl ?_);refine EL_mw (.int .i64 ((w64 (o0 + (1 : Int))))) rfl rfl ?_;exact EL_nil (thn_n (cC ((w64 (o0 + (1 : Int)))) _ _ ⟨oD, hfr, aB, lB, mB, nB, rfl⟩ h))
  ·refine E_cf i6 rfl ?_
   refine E_exit ?_;refine thn_e ?_;refine thn_e ?_;refine blk_hit ?_;exact thn_n (zB () _ _ ⟨l9, hfr⟩ h)
 ·rintro _ aE oE ⟨rE, hfr⟩ h
  refine E_seq (E_region (EL_at (.int .i64 (-1)) rfl rfl ?_));refine EL_nil (thn_n (E_ret ?_));obtain rfl := sinj h;exact end1 rfl rfl (show _ = .int .i64 (-1) from rfl) ⟨_, hfr, rfl⟩
def f20 (x0 : Int) (x1 : Int) : Option (Int) :=
 (f41 x0).bind fun y2 =>
 (f41 x1).bind fun y4 =>
 jn (σ := Unit) (fun _ =>
  jn (σ := Unit) (fun _ =>
   jn (σ := Unit) (fun _ =>
    jn (σ := Unit) (fun _ =>
     some ((0 : Int))
     ) fun mB =>
    bif (decide (x0 > x1)) then
     some ((1 : Int))
    else
     mB ()
    ) fun nB =>
   bif (decide (x0 < x1)) then
    some ((-1 : Int))
   else
    nB ()
   ) fun k18 =>
  bif y4 then
   some ((1 : Int))
  else
   k18 ()
  ) fun oB =>
 bif y2 then
  jn (σ := Unit) (fun _ =>
   some ((-1 : Int))
   ) fun vB =>
  bif y4 then
   some ((0 : Int))
  else
   vB ()
 else
  oB ()
theorem en20 : Enters Tryd.prog 20 := enters_of Tryd.func20 (by kernel_rfl) rfl
theorem wk20 {gI : Gh} {wI : World} {x0 : Int} {x1 : Int}  {r : Int} (h : f20 x0 x1 = some r) : Fn Tryd.prog 20 #[.int .i64 (x0), .int .i64 (x1)] gI wI (fun _ _ v => v = .int .i64 (r)) := by
 unfold f20 at h;refine fn_of_E Tryd.func20 rfl (Nat.le_of_ble_eq_true rfl) fun g0 hm hfr => ?_;show E _ 20 none _ _ _ _ _;refine E_seq (E_region (EL_at (.int .i64 (0)) rfl rfl ?_));refine EL_nil (thn_n (E_seq (E_region (EL_mw (.int .i64 (x0)) rfl rfl ?_))));obtain ⟨y2, hy2, h⟩ := bsome h;refine EL_do .plain rfl (D_call (g := g0) (vs := [.int .i64 (x0)]) en41 (.cons rfl .nil) (wk41  hy2) fun g1 w1_ v1 hs hr => ?_);have hfr := hfr.ext hs;subst hr;refine EL_at (.bool (y2)) rfl rfl ?_;refine EL_nil (thn_n (E_seq (E_region (EL_mw (.int .i64 (x1)) rfl rfl ?_))));obtain ⟨y4, bD, h⟩ := bsome h;refine EL_do .plain rfl (D_call (g := g1) (vs := [.int .i64 (x1)]) en41 (.cons rfl .nil) (wk41  bD) fun g3 w3_ v3 hs hr => ?_);have hfr := hfr.ext hs;subst hr;refine EL_at (.bool (y4)) rfl rfl ?_;refine EL_nil (thn_n (E_joinC h (fun (s : Unit) e w => ∃ (g : Gh) , Fr gI wI g w ∧ e 0 = .int .i64 (x0) ∧ e 1 = .int .i64 (x1) ∧ e 6 = .bool (y4)) (fun X10 oB yB h => ?_) ?_))
 ·refine E_seq (E_region (EL_mw (.bool (y2)) rfl rfl ?_))
  refine EL_nil (thn_n ?_);rcases csome h with ⟨o0, h⟩ | ⟨o0, h⟩
  ·refine E_ct o0 rfl ?_
   refine E_joinC h (fun (s : Unit) e w => ∃ (g : Gh) , Fr gI wI g w) (fun X13 vB zB h => ?_) ?_
   ·refine E_seq (E_region (EL_mw (.bool (y4)) rfl rfl ?_))
    refine EL_nil (thn_n ?_);rcases csome h with ⟨l5, h⟩ | ⟨l5, h⟩
    ·refine E_ct l5 rfl ?_
     refine E_seq (E_region (EL_at (.int .i64 (0)) rfl rfl ?_));refine EL_nil (thn_n (E_ret (thn_r ?_)));refine thn_r ?_;obtain rfl := sinj h;exact end1 rfl rfl (show _ = .int .i64 (0) from rfl) ⟨_, hfr, rfl⟩
    ·refine E_cf l5 rfl ?_
     exact E_skip (thn_n (zB () _ _ ⟨g3, hfr⟩ h))
   ·rintro _ oD w15 ⟨iE, hfr⟩ h
    refine E_seq (E_region (EL_at (.int .i64 (-1)) rfl rfl ?_));refine EL_nil (thn_n (E_ret (thn_r ?_)));obtain rfl := sinj h;exact end1 rfl rfl (show _ = .int .i64 (-1) from rfl) ⟨_, hfr, rfl⟩
  ·refine E_cf o0 rfl ?_
   exact E_skip (thn_n (yB () _ _ ⟨g3, hfr, rfl, rfl, rfl⟩ h))
 ·rintro _ yD lE ⟨cD, hfr, v8, l9, n9⟩ h
  refine E_joinC h (fun (s : Unit) e w => ∃ (g : Gh) , Fr gI wI g w ∧ e 0 = .int .i64 (x0) ∧ e 1 = .int .i64 (x1)) (fun X18 k18 cC h => ?_) ?_
  ·refine E_seq (E_region (EL_mv n9 rfl ?_))
   refine EL_nil (thn_n ?_);rcases csome h with ⟨t5, h⟩ | ⟨t5, h⟩
   ·refine E_ct t5 rfl ?_
    refine E_seq (E_region (EL_at (.int .i64 (1)) rfl rfl ?_));refine EL_nil (thn_n (E_ret (thn_r ?_)));obtain rfl := sinj h;exact end1 rfl rfl (show _ = .int .i64 (1) from rfl) ⟨_, hfr, rfl⟩
   ·refine E_cf t5 rfl ?_
    exact E_skip (thn_n (cC () _ _ ⟨cD, hfr, v8, l9⟩ h))
  ·rintro _ zD mE ⟨lD, hfr, l8, n8⟩ h
   refine E_joinC h (fun (s : Unit) e w => ∃ (g : Gh) , Fr gI wI g w ∧ e 0 = .int .i64 (x0) ∧ e 1 = .int .i64 (x1)) (fun X22 nB uC h => ?_) ?_
   ·refine E_seq (E_region (EL_mv l8 rfl ?_))
    refine EL_mv n8 rfl ?_;refine EL_in (.bool ((decide (x0 < x1)))) rfl rfl rfl rfl ?_;refine EL_nil (thn_n ?_);rcases csome h with ⟨i6, h⟩ | ⟨i6, h⟩
    ·refine E_ct i6 rfl ?_
     refine E_seq (E_region (EL_at (.int .i64 (-1)) rfl rfl ?_));refine EL_nil (thn_n (E_ret (thn_r ?_)));obtain rfl := sinj h;exact end1 rfl rfl (show _ = .int .i64 (-1) from rfl) ⟨_, hfr, rfl⟩
    ·refine E_cf i6 rfl ?_
     exact E_skip (thn_n (uC () _ _ ⟨lD, hfr, l8, n8⟩ h))
   ·rintro _ aE oE ⟨nD, hfr, aB, lB⟩ h
    refine E_joinC h (fun (s : Unit) e w => ∃ (g : Gh) , Fr gI wI g w) (fun X26 mB vC h => ?_) ?_
    ·refine E_seq (E_region (EL_mv aB rfl ?_))
     refine EL_mv lB rfl ?_;refine EL_in (.bool ((decide (x0 > x1)))) rfl rfl rfl rfl ?_;refine EL_nil (thn_n ?_);rcases csome h with ⟨g8, h⟩ | ⟨g8, h⟩
     ·refine E_ct g8 rfl ?_
      refine E_seq (E_region (EL_at (.int .i64 (1)) rfl rfl ?_));refine EL_nil (thn_n (E_ret (thn_r ?_)));obtain rfl := sinj h;exact end1 rfl rfl (show _ = .int .i64 (1) from rfl) ⟨_, hfr, rfl⟩
     ·refine E_cf g8 rfl ?_
      exact E_skip (thn_n (vC () _ _ ⟨nD, hfr⟩ h))
    ·rintro _ bE rE ⟨uE, hfr⟩ h
     refine E_seq (E_region (EL_at (.int .i64 (0)) rfl rfl ?_));refine EL_nil (thn_n (E_ret ?_));obtain rfl := sinj h;exact end1 rfl rfl (show _ = .int .i64 (0) from rfl) ⟨_, hfr, rfl⟩
def f29 (x0 : List Int) (x1 : List Int) : Option (Int) :=
 jn (σ := Unit) (fun _ =>
  jn (σ := Unit) (fun _ =>
   some ((0 : Int))
   ) fun dF =>
  bif (decide (((x0).length : Int) < ((x1).length : Int))) then
   some ((-1 : Int))
  else
   dF ()
  ) fun eF =>
 lp (σ := Int) (fun k33 o0 =>
  bif (decide (o0 < ((x0).length : Int))) then
   jn (σ := Unit) (fun _ =>
    k33 ((w64 (o0 + (1 : Int))))
    ) fun rF =>
   (idx x0 o0).bind fun n9 =>
   jn (σ := Unit) (fun _ =>
    (idx x1 o0).bind fun aB =>
    (f20 n9 aB).bind fun l5 =>
    bif (l5 != (0 : Int)) then
     some (l5)
    else
     rF ()
    ) fun k54 =>
   bif (decide (o0 ≥ ((x1).length : Int))) then
    some ((1 : Int))
   else
    k54 ()
  else
   eF ()
  ) big ((0 : Int))
theorem en29 : Enters Tryd.prog 29 := enters_of Tryd.func29 (by kernel_rfl) rfl
theorem wk29 {gI : Gh} {wI : World} {x0 : List Int} {x1 : List Int} {up0 : Value} (rp0 : RV gI.m wI x0 up0) {up1 : Value} (rp1 : RV gI.m wI x1 up1) {r : Int} (h : f29 x0 x1 = some r) : Fn Tryd.prog 29 #[up0, up1] gI wI (fun _ _ v => v = .int .i64 (r)) := by
 unfold f29 at h;refine fn_of_E Tryd.func29 rfl (Nat.le_of_ble_eq_true rfl) fun g0 hm hfr => ?_;have rp0 : RV g0.m wI x0 up0 := hm ▸ rp0;have rp1 : RV g0.m wI x1 up1 := hm ▸ rp1;show E _ 36 none _ _ _ _ _;refine E_seq (E_region (EL_at (.int .i64 (0)) rfl rfl ?_));refine EL_nil (thn_n (E_joinC h (fun (s : Unit) e w => ∃ (g : Gh) , Fr gI wI g w ∧ e 0 = up0 ∧ RV g.m w (x0 : List Int) up0 ∧ e 1 = up1 ∧ RV g.m w (x1 : List Int) up1) (fun X32 eF tF h => ?_) ?_))
 ·refine E_seq (E_region (EL_mw up0 rfl rfl ?_))
  refine EL_p (.int .i64 ((x0).length : Int)) (P_len Tryd.underlying34 rfl rp0) rfl ?_;refine EL_mw (.int .i64 (0)) rfl rfl ?_;refine EL_nil (thn_n (E_block ?_));refine E_lp h (fun (s : Int) e w => ∃ (g : Gh) , Fr gI wI g w ∧ e 0 = up0 ∧ RV g.m w (x0 : List Int) up0 ∧ e 1 = up1 ∧ RV g.m w (x1 : List Int) up1 ∧ e 9 = up0 ∧ RV g.m w (x0 : List Int) up0 ∧ e 10 = .int .i64 (((x0).length : Int)) ∧ e 11 = .int .i64 (s)) ⟨g0, hfr, rfl, rp0, rfl, rp1, rfl, rp0, rfl, rfl⟩ (fun X33 k33 uF => ?_);rintro o0 lG aH ⟨vC, hfr, yB, zB, g8, l8, cC, n8, lB, t5⟩ h;refine E_seq (E_region (EL_in (.bool ((decide (o0 < ((x0).length : Int))))) t5 lB rfl rfl ?_));refine EL_nil (thn_n (E_seq ?_));rcases csome h with ⟨mB, h⟩ | ⟨mB, h⟩
  ·refine E_ct mB rfl ?_
   refine E_skip (thn_n (E_joinC h (fun (s : Unit) e w => ∃ (g : Gh) , Fr gI wI g w ∧ e 0 = up0 ∧ RV g.m w (x0 : List Int) up0 ∧ e 1 = up1 ∧ RV g.m w (x1 : List Int) up1 ∧ e 9 = up0 ∧ RV g.m w (x0 : List Int) up0 ∧ e 10 = .int .i64 (((x0).length : Int)) ∧ e 11 = .int .i64 (o0)) (fun X49 rF vF h => ?_) ?_))
   ·refine E_block ?_
    refine E_seq (E_region (EL_mv t5 rfl ?_));obtain ⟨n9, bD, h⟩ := bsome h;refine EL_p (ePtr up0 o0 1) (P_indexAddr (α := Int) Tryd.underlying34 Tryd.sizeOf3 cC n8 t5 bD) rfl ?_;have bG := PT_idx n8 bD;refine EL_do .plain rfl (D_load (g := vC) Tryd.isAgg3 Tryd.sizeOf3 rfl bG fun cH cG => ?_);obtain rfl := RV_int.1 cG;refine EL_at (.int .i64 (o0)) rfl rfl ?_;refine EL_at (.int .i64 (n9)) rfl rfl ?_;refine EL_nil (thn_n (E_joinC h (fun (s : Unit) e w => ∃ (g : Gh) , Fr gI wI g w ∧ e 0 = up0 ∧ RV g.m w (x0 : List Int) up0 ∧ e 1 = up1 ∧ RV g.m w (x1 : List Int) up1 ∧ e 5 = .int .i64 (o0) ∧ e 6 = .int .i64 (n9) ∧ e 9 = up0 ∧ RV g.m w (x0 : List Int) up0 ∧ e 10 = .int .i64 (((x0).length : Int)) ∧ e 11 = .int .i64 (o0)) (fun X54 k54 xF h => ?_) ?_))
    ·refine E_seq (E_region (EL_mw (.int .i64 (o0)) rfl rfl ?_))
     refine EL_mv g8 rfl ?_;refine EL_p (.int .i64 ((x1).length : Int)) (P_len Tryd.underlying34 rfl l8) rfl ?_;refine EL_in (.bool ((decide (o0 ≥ ((x1).length : Int))))) rfl rfl rfl rfl ?_;refine EL_nil (thn_n ?_);rcases csome h with ⟨nB, h⟩ | ⟨nB, h⟩
     ·refine E_ct nB rfl ?_
      refine E_seq (E_region (EL_at (.int .i64 (1)) rfl rfl ?_));refine EL_nil (thn_n (E_ret (thn_r ?_)));refine blk_r ?_;refine thn_r ?_;refine thn_r ?_;refine blk_r ?_;refine thn_r ?_;obtain rfl := sinj h;exact end1 rfl rfl (show _ = .int .i64 (1) from rfl) ⟨_, hfr, rfl⟩
     ·refine E_cf nB rfl ?_
      exact E_skip (thn_n (xF () _ _ ⟨vC, hfr, yB, zB, g8, l8, rfl, rfl, cC, n8, lB, t5⟩ h))
    ·rintro _ mG gH ⟨sF, hfr, zD, v8, uC, i6, aE, bE, iE, l9, cD, lD⟩ h
     refine E_seq (E_region (EL_mv uC rfl ?_));refine EL_mv aE rfl ?_;obtain ⟨aB, nD, h⟩ := bsome h;refine EL_p (ePtr up1 o0 1) (P_indexAddr (α := Int) Tryd.underlying34 Tryd.sizeOf3 rfl i6 rfl nD) rfl ?_;have eG := PT_idx i6 nD;refine EL_do .plain rfl (D_load (g := sF) Tryd.isAgg3 Tryd.sizeOf3 rfl eG fun jH gG => ?_);obtain rfl := RV_int.1 gG;refine EL_at (.int .i64 (aB)) rfl rfl ?_;refine EL_nil (thn_n (E_seq (E_region (EL_mv bE rfl ?_))));refine EL_mw (.int .i64 (aB)) rfl rfl ?_;obtain ⟨l5, yF, h⟩ := bsome h;refine EL_do .plain rfl (D_call (g := sF) (vs := [.int .i64 (n9), .int .i64 (aB)]) en20 (.cons rfl (.cons rfl .nil)) (wk20  yF) fun iG sG kH hs hr => ?_);have hfr := hfr.ext hs;have v8 := v8.ext hs;have i6 := i6.ext hs;have l9 := l9.ext hs;subst hr;refine EL_at (.int .i64 (l5)) rfl rfl ?_;refine EL_nil (thn_n (E_seq (E_region (EL_mw (.int .i64 (l5)) rfl rfl ?_))));refine EL_in (.bool ((l5 != (0 : Int)))) rfl rfl rfl rfl ?_;refine EL_nil (thn_n ?_);rcases csome h with ⟨oB, h⟩ | ⟨oB, h⟩
     ·refine E_ct oB rfl ?_
      refine E_seq (E_region (EL_mw (.int .i64 (l5)) rfl rfl ?_));refine EL_at (.int .i64 (l5)) rfl rfl ?_;refine EL_nil (thn_n (E_ret (blk_r ?_)));refine thn_r ?_;refine thn_r ?_;refine blk_r ?_;refine thn_r ?_;obtain rfl := sinj h;exact end1 rfl rfl (show _ = .int .i64 (l5) from rfl) ⟨_, hfr, rfl⟩
     ·refine E_cf oB rfl ?_
      exact E_skip (blk_n (thn_n (vF () _ _ ⟨iG, hfr, zD, v8, uC, i6, iE, l9, cD, lD⟩ h)))
   ·rintro _ xG lH ⟨jG, hfr, lE, mE, oE, rE, uE, vE, oD, yD⟩ h
    refine E_region (EL_in (.int .i64 ((w64 (o0 + (1 : Int))))) yD rfl rfl rfl ?_);refine EL_mw (.int .i64 ((w64 (o0 + (1 : Int))))) rfl rfl ?_;exact EL_nil (thn_n (uF ((w64 (o0 + (1 : Int)))) _ _ ⟨jG, hfr, lE, mE, oE, rE, uE, vE, oD, rfl⟩ h))
  ·refine E_cf mB rfl ?_
   refine E_exit ?_;refine thn_e ?_;refine thn_e ?_;refine blk_hit ?_;exact thn_n (tF () _ _ ⟨vC, hfr, yB, zB, g8, l8⟩ h)
 ·rintro _ yG mH ⟨kG, hfr, xE, yE, zE, cF⟩ h
  refine E_joinC h (fun (s : Unit) e w => ∃ (g : Gh) , Fr gI wI g w) (fun X67 dF aG h => ?_) ?_
  ·refine E_seq (E_region (EL_mv xE rfl ?_))
   refine EL_p (.int .i64 ((x0).length : Int)) (P_len Tryd.underlying34 rfl yE) rfl ?_;refine EL_mv zE rfl ?_;refine EL_p (.int .i64 ((x1).length : Int)) (P_len Tryd.underlying34 rfl cF) rfl ?_;refine EL_in (.bool ((decide (((x0).length : Int) < ((x1).length : Int))))) rfl rfl rfl rfl ?_;refine EL_nil (thn_n ?_);rcases csome h with ⟨vB, h⟩ | ⟨vB, h⟩
   ·refine E_ct vB rfl ?_
    refine E_seq (E_region (EL_at (.int .i64 (-1)) rfl rfl ?_));refine EL_nil (thn_n (E_ret (thn_r ?_)));obtain rfl := sinj h;exact end1 rfl rfl (show _ = .int .i64 (-1) from rfl) ⟨_, hfr, rfl⟩
   ·refine E_cf vB rfl ?_
    exact E_skip (thn_n (aG () _ _ ⟨kG, hfr⟩ h))
  ·rintro _ zG nH ⟨oH, hfr⟩ h
   refine E_seq (E_region (EL_at (.int .i64 (0)) rfl rfl ?_));refine EL_nil (thn_n (E_ret ?_));obtain rfl := sinj h;exact end1 rfl rfl (show _ = .int .i64 (0) from rfl) ⟨_, hfr, rfl⟩
def f35 (x0 : PaySheet) : Option ((List Int) × (List Int) × Int × Int) :=
 Option.bind (α := (List Int)) (
  lp (σ := (List Int) × Int) (fun zK (yE, l5) =>
   bif (decide (l5 < ((((x0).PayTable).Rows).length : Int))) then
    Option.bind (α := (List Int)) (
     (idx (((x0).PayTable).Rows) l5).bind fun y130 =>
     (f57 y130).bind fun l9 =>
     (idx (((x0).PayTable).Across) l5).bind fun n9 =>
     (apnd 8 yE (([(w64 (l9 - n9))] : List Int))).bind fun aH =>
     some (aH)
     ) fun vB =>
    zK (vB, (w64 (l5 + (1 : Int))))
   else
    some (yE)
   ) big ([], (0 : Int))
  ) fun l8 =>
 Option.bind (α := (List Int)) (
  lp (σ := (List Int) × Int) (fun cH (aE, o0) =>
   bif (decide (o0 < ((((x0).PayTable).Down).length : Int))) then
    Option.bind (α := (List Int)) (
     (idx (((x0).PayTable).Down) o0).bind fun uC =>
     (f58 x0 o0).bind fun gH =>
     (f57 gH).bind fun bE =>
     (apnd 8 aE (([(w64 (bE - uC))] : List Int))).bind fun jH =>
     some (jH)
     ) fun yB =>
    cH (yB, (w64 (o0 + (1 : Int))))
   else
    some (aE)
   ) big ([], (0 : Int))
  ) fun cD =>
 (f57 (((x0).PayTable).Across)).bind fun vC =>
 (f57 (((x0).PayTable).Down)).bind fun bD =>
 some (l8, cD, (w64 (vC - ((x0).PayTable).Total)), (w64 (bD - ((x0).PayTable).Total)))
theorem en35 : Enters Tryd.prog 35 := enters_of Tryd.func35 (by kernel_rfl) rfl
theorem wk35 {gI : Gh} {wI : World} {x0 : PaySheet} {up0 : Value} (rp0 : RV gI.m wI x0 up0) {r : (List Int) × (List Int) × Int × Int} (h : f35 x0 = some r) : Fn Tryd.prog 35 #[up0] gI wI (fun m w v => ∃ y0 y1 y2 y3, v = .tuple #[y0, y1, y2, y3] ∧ RV m w (r.1) y0 ∧ RV m w (r.2.1) y1 ∧ y2 = .int .i64 (r.2.2.1) ∧ y3 = .int .i64 (r.2.2.2)) := by
 unfold f35 at h;refine fn_of_E Tryd.func35 rfl (Nat.le_of_ble_eq_true rfl) fun g0 hm hfr => ?_;have rp0 : RV g0.m wI x0 up0 := hm ▸ rp0;show E _ 69 none _ _ _ _ _;refine E_seq (E_region (EL_do .plain rfl (D_box (g := g0) rfl rp0 fun g1 w1 p1 hs q1 => ?_)));have hfr := hfr.ext hs;refine EL_at (.slice none 0 0) rfl rfl ?_;refine EL_at (.slice none 0 0) rfl rfl ?_;refine EL_at (.int .i64 (0)) rfl rfl ?_;refine EL_at (.int .i64 (0)) rfl rfl ?_;refine EL_nil (thn_n ?_);obtain ⟨l8, hx, h⟩ := bsome h;refine E_join (fun e w => ∃ (g : Gh) (v2 : Value), Fr gI wI g w ∧ e 1 = p1 ∧ PT g.m w (x0 : PaySheet) p1 ∧ e 2 = v2 ∧ RV g.m w (l8 : List Int) v2 ∧ OS 1002 g w 3 (l8 : List Int) v2 ∧ e 3 = .slice none 0 0 ∧ RV g.m w ([] : List Int) (Value.slice none 0 0)) (fun Q' hQ => ?_) (fun mN tN hR => ?_)
 ·replace h := hx
  clear hx;refine E_seq (E_region (EL_p (fPtr p1 0) (P_fieldAddr at_97_0 rfl (PT.ptr q1)) rfl ?_));have aL := PT_field (part_PaySheet_0).1 q1;refine EL_p (fPtr (fPtr p1 0) 0) (P_fieldAddr at_71_0 rfl (PT.ptr aL)) rfl ?_;have jN := PT_field (part_PayTable_0).1 aL;refine EL_do .plain rfl (D_load (g := g1) Tryd.isAgg69 Tryd.sizeOf69 rfl jN fun eF bL => ?_);refine EL_p (.int .i64 ((((x0).PayTable).Rows).length : Int)) (P_len Tryd.underlying69 rfl bL) rfl ?_;refine EL_mw (.int .i64 (0)) rfl rfl ?_;refine EL_nil (thn_n (E_block ?_));refine E_lp h (fun (s : (List Int) × Int) e w => ∃ (g : Gh) (v2 : Value), Fr gI wI g w ∧ e 1 = p1 ∧ PT g.m w (x0 : PaySheet) p1 ∧ e 2 = v2 ∧ RV g.m w (s.1 : List Int) v2 ∧ OS 1002 g w 3 (s.1 : List Int) v2 ∧ e 3 = .slice none 0 0 ∧ RV g.m w ([] : List Int) (Value.slice none 0 0) ∧ e 12 = eF ∧ RV g.m w (((x0).PayTable).Rows : List (List Int)) eF ∧ e 13 = .int .i64 (((((x0).PayTable).Rows).length : Int)) ∧ e 14 = .int .i64 (s.2)) ⟨g1, (.slice none 0 0), hfr, rfl, q1, rfl, RV_nil, OS.nil, rfl, RV_nil, rfl, bL, rfl, rfl⟩ (fun X89 zK dL => ?_);rintro ⟨yE, l5⟩ uN sO ⟨kH, aG, hfr, zE, oB, bG, yD, zD, cG, zB, rF, nB, sF, lD⟩ h;refine E_seq (E_region (EL_p (.bool ((decide (l5 < ((((x0).PayTable).Rows).length : Int))))) (P_int lD sF rfl) rfl ?_));refine EL_nil (thn_n (E_seq ?_));rcases csome h with ⟨xF, h⟩ | ⟨xF, h⟩
  ·refine E_ct xF rfl ?_
   refine E_skip (thn_n ?_);obtain ⟨vB, hx, h⟩ := bsome h;refine E_join (fun e w => ∃ (g : Gh) (v2 : Value), Fr gI wI g w ∧ e 1 = p1 ∧ PT g.m w (x0 : PaySheet) p1 ∧ e 2 = v2 ∧ RV g.m w (vB : List Int) v2 ∧ OS 1002 g w 3 (vB : List Int) v2 ∧ e 3 = .slice none 0 0 ∧ RV g.m w ([] : List Int) (Value.slice none 0 0) ∧ e 12 = eF ∧ RV g.m w (((x0).PayTable).Rows : List (List Int)) eF ∧ e 13 = .int .i64 (((((x0).PayTable).Rows).length : Int)) ∧ e 14 = .int .i64 (l5)) (fun Q' hQ => ?_) (fun nN vN hR => ?_)
   ·replace h := hx
    clear hx;refine E_block ?_;refine E_seq (E_region (EL_mv lD rfl ?_));obtain ⟨y130, eG, h⟩ := bsome h;refine EL_p (ePtr eF l5 1) (P_indexAddr (α := List Int) Tryd.underlying69 Tryd.sizeOf34 rF nB lD eG) rfl ?_;have eL := PT_idx nB eG;refine EL_do .plain rfl (D_load (g := kH) Tryd.isAgg34 Tryd.sizeOf34 rfl eL fun yF gL => ?_);refine EL_at (.int .i64 (l5)) rfl rfl ?_;refine EL_at yF rfl rfl ?_;refine EL_nil (thn_n ?_);obtain ⟨l9, cK, h⟩ := bsome h;have lH := PT_field (part_PaySheet_0).1 oB;have iL := PT_field (part_PayTable_1).1 lH;refine L_load (x := .tmp 23) Tryd.isAgg34 Tryd.sizeOf34 iL fun mH nH dK => ?_;obtain ⟨n9, gG, h⟩ := bsome h;have jL := PT_idx nH gG;refine L_load (x := .tmp 26) Tryd.isAgg3 Tryd.sizeOf3 jL fun xN lL lK => ?_;obtain rfl := RV_int.1 lL;refine E_drawL (g := kH) (n := 11) [(2, (fun v g w => v = .int .i64 (l9))), (10, (fun v g w => RV g.m w ([(w64 (l9 - n9))] : List Int) v ∧ OS 3029 g w 3 ([(w64 (l9 - n9))] : List Int) v ∧ FullV v))] [0, 1, 2, 3, 4, 5, 6, 7, 8, 9, 10] rfl mixed (by kernel_rfl) (⟨fun _ => up_eq _, fun _ => up_and up_rv (up_and up_os (up_eq _)), trivial⟩) ?_;refine L_p aG rfl rfl (P_move bG) ?_;refine L_p yF rfl rfl (P_move rfl) ?_;refine L_do (φ := fun v g w => v = .int .i64 (l9)) rfl rfl .plain (fun g w hd => D_call (g := g) (vs := [yF]) en57 (.cons rfl .nil) (wk57 (gL.ext hd.1) cK) fun g' w' v hs hr => ⟨g', hs, hr⟩) (fun yN hv => ?_);obtain ⟨_, _, _, rfl⟩ := hv;refine L_p (fPtr p1 0) rfl rfl (P_fieldAddr at_97_0 zE (PT.ptr oB)) ?_;refine L_p (fPtr (fPtr p1 0) 1) rfl rfl (P_fieldAddr at_71_1 rfl (PT.ptr lH)) ?_;refine L_ld (c := mH) rfl rfl .plain (fun _ _ h => h.ch) dK rfl ?_;refine L_p (.int .i64 (l5)) rfl rfl (P_move rfl) ?_;refine L_p (ePtr mH l5 1) rfl rfl (P_indexAddr (α := Int) Tryd.underlying34 Tryd.sizeOf3 rfl nH rfl gG) ?_;refine L_ld (c := .int .i64 (n9)) rfl rfl .plain (fun _ _ h => h.ch) lK rfl ?_;refine L_p (.int .i64 ((w64 (l9 - n9)))) rfl rfl (P_int rfl rfl rfl) ?_;refine L_do (φ := fun v g w => RV g.m w ([(w64 (l9 - n9))] : List Int) v ∧ OS 3029 g w 3 ([(w64 (l9 - n9))] : List Int) v ∧ FullV v) rfl rfl .plain (fun g w hd => D_buildSlice (g := g) 3029 (xs := ([(w64 (l9 - n9))] : List Int)) (vs := [.int .i64 ((w64 (l9 - n9)))]) Tryd.underlying34 Tryd.sizeOf3 Tryd.zeroValue3 rfl rfl (.cons rfl .nil) (RVs.cons (RV_int.2 rfl) RVs.nil) rfl rfl fun g' w' v hs o r hxt hfl => ⟨g', hxt, r, o, hfl⟩) (fun oD hv => ?_);clear hv;refine L_nil fun mL zN hall => ?_;have hs := hall.1;have hfr := hfr.ext hs;have oB := oB.ext hs;have yD := yD.ext hs;have zD := zD.ext hs;have zB := zB.ext hs;have nB := nB.ext hs;have nL := (word_all (A := fun g w => RV g.m w ([(w64 (l9 - n9))] : List Int) oD ∧ OS 3029 g w 3 ([(w64 (l9 - n9))] : List Int) oD ∧ FullV oD) 10 rfl hall).1;have o165 := (word_all (A := fun g w => RV g.m w ([(w64 (l9 - n9))] : List Int) oD ∧ OS 3029 g w 3 ([(w64 (l9 - n9))] : List Int) oD ∧ FullV oD) 10 rfl hall).2.1;clear hs hall;obtain ⟨aH, mK, h⟩ := bsome h;refine EL_do .plain rfl (D_append (g := mL) (i := 1002) Tryd.underlying34 info_3 rfl rfl zD yD rfl nL mK fun oL aO oH hs o166 xL _ => ?_);have hfr := hfr.stp hs;have oB := oB.stp hs;have zB := zB.stp hs;have nB := nB.stp hs;refine EL_at oH rfl rfl ?_;refine EL_nil (blk_n ?_);obtain rfl := sinj h;exact hQ _ _ ⟨oL, (oH), hfr, zE, oB, rfl, xL, o166, cG, zB, rF, nB, sF, lD⟩
   ·clear hx
    obtain ⟨yL, pH, hfr, qH, sH, tH, uH, xH, yH, zH, jG, kG, lG, mG⟩ := hR;refine E_region (EL_in (.int .i64 ((w64 (l5 + (1 : Int))))) mG rfl rfl rfl ?_);refine EL_mw (.int .i64 ((w64 (l5 + (1 : Int))))) rfl rfl ?_;exact EL_nil (thn_n (dL (vB, (w64 (l5 + (1 : Int)))) _ _ ⟨yL, (pH), hfr, qH, sH, tH, uH, xH, yH, zH, jG, kG, lG, rfl⟩ h))
  ·refine E_cf xF rfl ?_
   refine E_exit ?_;refine thn_e ?_;refine thn_e ?_;refine blk_hit ?_;obtain rfl := sinj h;exact hQ _ _ ⟨kH, (aG), hfr, zE, oB, bG, yD, zD, cG, zB⟩
 ·clear hx
  obtain ⟨aI, i6, hfr, tF, iE, bI, dI, iI, jI, kI⟩ := hR;obtain ⟨cD, hx, h⟩ := bsome h;refine E_join (fun e w => ∃ (g : Gh) (v3 : Value), Fr gI wI g w ∧ e 1 = p1 ∧ PT g.m w (x0 : PaySheet) p1 ∧ e 2 = i6 ∧ RV g.m w (l8 : List Int) i6 ∧ OS 1002 g w 3 (l8 : List Int) i6 ∧ e 3 = v3 ∧ RV g.m w (cD : List Int) v3 ∧ OS 1003 g w 3 (cD : List Int) v3) (fun Q' hQ => ?_) (fun oN bO hR => ?_)
  ·replace h := hx
   clear hx;refine E_seq (E_region (EL_p (fPtr p1 0) (P_fieldAddr at_97_0 tF (PT.ptr iE)) rfl ?_));have lI := PT_field (part_PaySheet_0).1 iE;refine EL_p (fPtr (fPtr p1 0) 2) (P_fieldAddr at_71_2 rfl (PT.ptr lI)) rfl ?_;have zL := PT_field (part_PayTable_2).1 lI;refine EL_do .plain rfl (D_load (g := aI) Tryd.isAgg34 Tryd.sizeOf34 rfl zL fun lE mI => ?_);refine EL_p (.int .i64 ((((x0).PayTable).Down).length : Int)) (P_len Tryd.underlying34 rfl mI) rfl ?_;refine EL_mw (.int .i64 (0)) rfl rfl ?_;refine EL_nil (thn_n (E_block ?_));refine E_lp h (fun (s : (List Int) × Int) e w => ∃ (g : Gh) (v3 : Value), Fr gI wI g w ∧ e 1 = p1 ∧ PT g.m w (x0 : PaySheet) p1 ∧ e 2 = i6 ∧ RV g.m w (l8 : List Int) i6 ∧ OS 1002 g w 3 (l8 : List Int) i6 ∧ e 3 = v3 ∧ RV g.m w (s.1 : List Int) v3 ∧ OS 1003 g w 3 (s.1 : List Int) v3 ∧ e 34 = lE ∧ RV g.m w (((x0).PayTable).Down : List Int) lE ∧ e 35 = .int .i64 (((((x0).PayTable).Down).length : Int)) ∧ e 36 = .int .i64 (s.2)) ⟨aI, (.slice none 0 0), hfr, tF, iE, bI, dI, iI, jI, kI, OS.nil, rfl, mI, rfl, rfl⟩ (fun X202 cH nK => ?_);rintro ⟨aE, o0⟩ pN cO ⟨cF, nI, hfr, mE, g8, uF, n8, v8, vF, aB, lB, vE, t5, xE, cC⟩ h;refine E_seq (E_region (EL_p (.bool ((decide (o0 < ((((x0).PayTable).Down).length : Int))))) (P_int cC xE rfl) rfl ?_));refine EL_nil (thn_n (E_seq ?_));rcases csome h with ⟨dF, h⟩ | ⟨dF, h⟩
   ·refine E_ct dF rfl ?_
    refine E_skip (thn_n ?_);obtain ⟨yB, hx, h⟩ := bsome h;refine E_join (fun e w => ∃ (g : Gh) (v3 : Value), Fr gI wI g w ∧ e 1 = p1 ∧ PT g.m w (x0 : PaySheet) p1 ∧ e 2 = i6 ∧ RV g.m w (l8 : List Int) i6 ∧ OS 1002 g w 3 (l8 : List Int) i6 ∧ e 3 = v3 ∧ RV g.m w (yB : List Int) v3 ∧ OS 1003 g w 3 (yB : List Int) v3 ∧ e 34 = lE ∧ RV g.m w (((x0).PayTable).Down : List Int) lE ∧ e 35 = .int .i64 (((((x0).PayTable).Down).length : Int)) ∧ e 36 = .int .i64 (o0)) (fun Q' hQ => ?_) (fun qN dO hR => ?_)
    ·replace h := hx
     clear hx;refine E_block ?_;refine E_seq (E_region (EL_mv cC rfl ?_));obtain ⟨uC, iG, h⟩ := bsome h;refine EL_p (ePtr lE o0 1) (P_indexAddr (α := Int) Tryd.underlying34 Tryd.sizeOf3 vE t5 cC iG) rfl ?_;have aM := PT_idx t5 iG;refine EL_do .plain rfl (D_load (g := cF) Tryd.isAgg3 Tryd.sizeOf3 rfl aM fun eO bM => ?_);obtain rfl := RV_int.1 bM;refine EL_at (.int .i64 (o0)) rfl rfl ?_;refine EL_at (.int .i64 (uC)) rfl rfl ?_;refine EL_nil (thn_n (E_region (EL_mv vF rfl ?_)));refine EL_do .plain rfl (D_load (g := cF) Tryd.isAgg97 Tryd.sizeOf97 mE g8 fun cM dM => ?_);refine EL_mw (.int .i64 (o0)) rfl rfl ?_;obtain ⟨gH, oK, h⟩ := bsome h;refine EL_do .plain rfl (D_call (g := cF) (vs := [cM, .int .i64 (o0)]) en58 (.cons rfl (.cons rfl .nil)) (wk58 dM oK) fun eM rN iM hs hr => ?_);have hfr := hfr.ext hs;have g8 := g8.ext hs;have n8 := n8.ext hs;have v8 := v8.ext hs;have aB := aB.ext hs;have lB := lB.ext hs;have t5 := t5.ext hs;have jM := hr;obtain ⟨bE, pK, h⟩ := bsome h;refine EL_do .plain rfl (D_call (g := eM) (vs := [iM]) en57 (.cons rfl .nil) (wk57 jM pK) fun kM sN gO hs hr => ?_);have hfr := hfr.ext hs;have g8 := g8.ext hs;have n8 := n8.ext hs;have v8 := v8.ext hs;have aB := aB.ext hs;have lB := lB.ext hs;have t5 := t5.ext hs;subst hr;refine EL_mw (.int .i64 (uC)) rfl rfl ?_;refine EL_in (.int .i64 ((w64 (bE - uC)))) rfl rfl rfl rfl ?_;refine EL_do .plain rfl (D_buildSlice (g := kM) 3048 (xs := ([(w64 (bE - uC))] : List Int)) (vs := [.int .i64 ((w64 (bE - uC)))]) Tryd.underlying34 Tryd.sizeOf3 Tryd.zeroValue3 rfl rfl (.cons rfl .nil) (RVs.cons (RV_int.2 rfl) RVs.nil) rfl rfl fun pM jO kO hs o224 qM hxt hfl => ?_);have hfr := hfr.stp hs;have g8 := g8.stp hs;have n8 := n8.stp hs;have v8 := v8.stp hs rfl;have aB := aB.stp hs;have lB := lB.stp hs rfl;have t5 := t5.stp hs;obtain ⟨jH, qK, h⟩ := bsome h;refine EL_do .plain rfl (D_append (g := pM) (i := 1003) Tryd.underlying34 info_3 rfl rfl lB aB rfl qM qK fun rM lO pI hs o225 sM _ => ?_);have hfr := hfr.stp hs;have g8 := g8.stp hs;have n8 := n8.stp hs;have v8 := v8.stp hs rfl;have t5 := t5.stp hs;refine EL_at pI rfl rfl ?_;refine EL_nil (blk_n ?_);obtain rfl := sinj h;exact hQ _ _ ⟨rM, (pI), hfr, mE, g8, uF, n8, v8, rfl, sM, o225, vE, t5, xE, cC⟩
    ·clear hx
     obtain ⟨tM, qI, hfr, sI, jJ, kJ, lJ, mJ, nJ, oJ, pJ, sG, xG, yG, zG⟩ := hR;refine E_region (EL_in (.int .i64 ((w64 (o0 + (1 : Int))))) zG rfl rfl rfl ?_);refine EL_mw (.int .i64 ((w64 (o0 + (1 : Int))))) rfl rfl ?_;exact EL_nil (thn_n (nK (yB, (w64 (o0 + (1 : Int)))) _ _ ⟨tM, (qI), hfr, sI, jJ, kJ, lJ, mJ, nJ, oJ, pJ, sG, xG, yG, rfl⟩ h))
   ·refine E_cf dF rfl ?_
    refine E_exit ?_;refine thn_e ?_;refine thn_e ?_;refine blk_hit ?_;obtain rfl := sinj h;exact hQ _ _ ⟨cF, (nI), hfr, mE, g8, uF, n8, v8, vF, aB, lB⟩
  ·clear hx
   obtain ⟨uM, oE, hfr, nD, mB, qJ, rE, kN, rJ, uE, lN⟩ := hR;refine E_seq ?_;have sJ := PT_field (part_PaySheet_0).1 mB;have vM := PT_field (part_PayTable_1).1 sJ;refine L_load (x := .tmp 54) Tryd.isAgg34 Tryd.sizeOf34 vM fun vJ xM sK => ?_;obtain ⟨vC, tK, h⟩ := bsome h;have xJ := PT_field (part_PaySheet_0).1 mB;have bN := PT_field (part_PayTable_3).1 xJ;refine L_load (x := .tmp 58) Tryd.isAgg3 Tryd.sizeOf3 bN fun mO cN uK => ?_;obtain rfl := RV_int.1 cN;have zJ := PT_field (part_PaySheet_0).1 mB;have dN := PT_field (part_PayTable_2).1 zJ;refine L_load (x := .tmp 62) Tryd.isAgg34 Tryd.sizeOf34 dN fun aK eN vK => ?_;obtain ⟨bD, xK, h⟩ := bsome h;have bK := PT_field (part_PaySheet_0).1 mB;have gN := PT_field (part_PayTable_3).1 bK;refine L_load (x := .tmp 66) Tryd.isAgg3 Tryd.sizeOf3 gN fun nO iN yK => ?_;obtain rfl := RV_int.1 iN;refine E_drawL (g := uM) (n := 22) [(5, (fun v g w => v = .int .i64 (vC))), (13, (fun v g w => v = .int .i64 (bD)))] [0, 1, 2, 3, 4, 5, 6, 7, 8, 9, 10, 11, 12, 13, 14, 15, 16, 17, 18, 19, 20, 21] rfl mixed (by kernel_rfl) (⟨fun _ => up_eq _, fun _ => up_eq _, trivial⟩) ?_;refine L_p i6 rfl rfl (P_move qJ) ?_;refine L_p oE rfl rfl (P_move rJ) ?_;refine L_p (fPtr p1 0) rfl rfl (P_fieldAddr at_97_0 nD (PT.ptr mB)) ?_;refine L_p (fPtr (fPtr p1 0) 1) rfl rfl (P_fieldAddr at_71_1 rfl (PT.ptr sJ)) ?_;refine L_ld (c := vJ) rfl rfl .plain (fun _ _ h => h.ch) sK rfl ?_;refine L_do (φ := fun v g w => v = .int .i64 (vC)) rfl rfl .plain (fun g w hd => D_call (g := g) (vs := [vJ]) en57 (.cons rfl .nil) (wk57 (xM.ext hd.1) tK) fun g' w' v hs hr => ⟨g', hs, hr⟩) (fun oO hv => ?_);obtain ⟨_, _, _, rfl⟩ := hv;refine L_p (fPtr p1 0) rfl rfl (P_fieldAddr at_97_0 nD (PT.ptr mB)) ?_;refine L_p (fPtr (fPtr p1 0) 3) rfl rfl (P_fieldAddr at_71_3 rfl (PT.ptr xJ)) ?_;refine L_ld (c := .int .i64 (((x0).PayTable).Total)) rfl rfl .plain (fun _ _ h => h.ch) uK rfl ?_;refine L_p (.int .i64 ((w64 (vC - ((x0).PayTable).Total)))) rfl rfl (P_int rfl rfl rfl) ?_;refine L_p (fPtr p1 0) rfl rfl (P_fieldAddr at_97_0 nD (PT.ptr mB)) ?_;refine L_p (fPtr (fPtr p1 0) 2) rfl rfl (P_fieldAddr at_71_2 rfl (PT.ptr zJ)) ?_;refine L_ld (c := aK) rfl rfl .plain (fun _ _ h => h.ch) vK rfl ?_;refine L_do (φ := fun v g w => v = .int .i64 (bD)) rfl rfl .plain (fun g w hd => D_call (g := g) (vs := [aK]) en57 (.cons rfl .nil) (wk57 (eN.ext hd.1) xK) fun g' w' v hs hr => ⟨g', hs, hr⟩) (fun pO hv => ?_);obtain ⟨_, _, _, rfl⟩ := hv;refine L_p (fPtr p1 0) rfl rfl (P_fieldAddr at_97_0 nD (PT.ptr mB)) ?_;refine L_p (fPtr (fPtr p1 0) 3) rfl rfl (P_fieldAddr at_71_3 rfl (PT.ptr bK)) ?_;refine L_ld (c := .int .i64 (((x0).PayTable).Total)) rfl rfl .plain (fun _ _ h => h.ch) yK rfl ?_;refine L_p (.int .i64 ((w64 (bD - ((x0).PayTable).Total)))) rfl rfl (P_int rfl rfl rfl) ?_;refine L_p i6 rfl rfl (P_assign rfl) ?_;refine L_p oE rfl rfl (P_assign rfl) ?_;refine L_p (.int .i64 ((w64 (vC - ((x0).PayTable).Total)))) rfl rfl (P_assign rfl) ?_;refine L_p (.int .i64 ((w64 (bD - ((x0).PayTable).Total)))) rfl rfl (P_assign rfl) ?_;refine L_nl fun qO rO hs => ?_;have hfr := hfr.ext hs;have rE := rE.ext hs;have uE := uE.ext hs;clear hs;refine EL_nil (thn_n (E_ret ?_));obtain rfl := sinj h;exact end4 rfl rfl (show _ = i6 from rfl) (show _ = oE from rfl) (show _ = .int .i64 ((w64 (vC - ((x0).PayTable).Total))) from rfl) (show _ = .int .i64 ((w64 (bD - ((x0).PayTable).Total))) from rfl) ⟨_, hfr, _, _, _, _, rfl, rE, uE, rfl, rfl⟩
def f38 (x0 : List Int) (x1 : Int → Option Bool) : Option (Bool) :=
 (f59 x0 x1).bind fun y2 =>
 some ((decide (y2 ≥ (0 : Int))))
theorem en38 : Enters Tryd.prog 38 := enters_of Tryd.func38 (by kernel_rfl) rfl
theorem wk38 {gI : Gh} {wI : World} {x0 : List Int} {x1 : Int → Option Bool} {up0 : Value} (rp0 : RV gI.m wI x0 up0) {up1 : Value} (rp1 : FnV1 Tryd.prog x1 up1 gI wI) {r : Bool} (h : f38 x0 x1 = some r) : Fn Tryd.prog 38 #[up0, up1] gI wI (fun _ _ v => v = .bool (r)) := by
 unfold f38 at h;refine fn_of_E Tryd.func38 rfl (Nat.le_of_ble_eq_true rfl) fun g0 hm hfr => ?_;have rp0 : RV g0.m wI x0 up0 := hm ▸ rp0;obtain ⟨ff1, fa1, fc1, rfl, fen1, fcl1⟩ := rp1;show E _ 9 none _ _ _ _ _;refine E_seq (E_region (EL_at (.bool false) rfl rfl ?_));refine EL_nil (thn_n (E_seq (E_region (EL_mw up0 rfl rfl ?_))));refine EL_mw ((.func (.func ff1) fa1 fc1)) rfl rfl ?_;obtain ⟨y2, hy2, h⟩ := bsome h;refine EL_do .plain rfl (D_call (g := g0) (vs := [up0, (.func (.func ff1) fa1 fc1)]) en59 (.cons rfl (.cons rfl .nil)) (wk59 rp0 (FnV1.ch ⟨_, _, _, rfl, fen1, fcl1⟩ hfr.ch) hy2) fun g1 w1_ v1 hs hr => ?_);have hfr := hfr.ext hs;subst hr;refine EL_in (.bool ((decide (y2 ≥ (0 : Int))))) rfl rfl rfl rfl ?_;refine EL_at (.bool ((decide (y2 ≥ (0 : Int))))) rfl rfl ?_;refine EL_nil (thn_n (E_ret ?_));obtain rfl := sinj h;exact end1 rfl rfl (show _ = .bool ((decide (y2 ≥ (0 : Int)))) from rfl) ⟨_, hfr, rfl⟩
def f43 (x0 : List ShadeEntry) (x1 : ShadeEntry → Option Bool) : Option (Bool) :=
 (f62 x0 x1).bind fun y2 =>
 some ((decide (y2 ≥ (0 : Int))))
theorem en43 : Enters Tryd.prog 43 := enters_of Tryd.func43 (by kernel_rfl) rfl
theorem wk43 {gI : Gh} {wI : World} {x0 : List ShadeEntry} {x1 : ShadeEntry → Option Bool} {up0 : Value} (rp0 : RV gI.m wI x0 up0) {up1 : Value} (rp1 : FnV1 Tryd.prog x1 up1 gI wI) {r : Bool} (h : f43 x0 x1 = some r) : Fn Tryd.prog 43 #[up0, up1] gI wI (fun _ _ v => v = .bool (r)) := by
 unfold f43 at h;refine fn_of_E Tryd.func43 rfl (Nat.le_of_ble_eq_true rfl) fun g0 hm hfr => ?_;have rp0 : RV g0.m wI x0 up0 := hm ▸ rp0;obtain ⟨ff1, fa1, fc1, rfl, fen1, fcl1⟩ := rp1;show E _ 9 none _ _ _ _ _;refine E_seq (E_region (EL_at (.bool false) rfl rfl ?_));refine EL_nil (thn_n (E_seq (E_region (EL_mw up0 rfl rfl ?_))));refine EL_mw ((.func (.func ff1) fa1 fc1)) rfl rfl ?_;obtain ⟨y2, hy2, h⟩ := bsome h;refine EL_do .plain rfl (D_call (g := g0) (vs := [up0, (.func (.func ff1) fa1 fc1)]) en62 (.cons rfl (.cons rfl .nil)) (wk62 rp0 (FnV1.ch ⟨_, _, _, rfl, fen1, fcl1⟩ hfr.ch) hy2) fun g1 w1_ v1 hs hr => ?_);have hfr := hfr.ext hs;subst hr;refine EL_in (.bool ((decide (y2 ≥ (0 : Int))))) rfl rfl rfl rfl ?_;refine EL_at (.bool ((decide (y2 ≥ (0 : Int))))) rfl rfl ?_;refine EL_nil (thn_n (E_ret ?_));obtain rfl := sinj h;exact end1 rfl rfl (show _ = .bool ((decide (y2 ≥ (0 : Int)))) from rfl) ⟨_, hfr, rfl⟩
def f44 (x0 : ShadeBook) (x1 : Span) (x2 : ShadeEntry) : Option (Span) :=
 (f63 x0 x2).bind fun y8 =>
 bif ((x2).Kind == (1 : Int)) then
  (f65).bind fun l5 =>
  (f64 l5 ((⟨(w64 ((x1).Low - (y8).High)), (w64 ((x1).High - (y8).Low))⟩ : Span))).bind fun t5 =>
  some (t5)
 else
  bif ((x2).Kind == (2 : Int)) then
   some ((⟨(w64 ((x1).Low + (y8).Low)), (w64 ((x1).High + (y8).High))⟩ : Span))
  else
   (f64 x1 y8).bind fun y74 =>
   some (y74)
theorem en44 : Enters Tryd.prog 44 := enters_of Tryd.func44 (by kernel_rfl) rfl
theorem wk44 {gI : Gh} {wI : World} {x0 : ShadeBook} {x1 : Span} {x2 : ShadeEntry} {up0 : Value} (rp0 : RV gI.m wI x0 up0) {up1 : Value} (rp1 : RV gI.m wI x1 up1) {up2 : Value} (rp2 : RV gI.m wI x2 up2) {r : Span} (h : f44 x0 x1 x2 = some r) : Fn Tryd.prog 44 #[up0, up1, up2] gI wI (fun m w v => RV m w (r) v) := by
 unfold f44 at h;refine fn_of_E Tryd.func44 rfl (Nat.le_of_ble_eq_true rfl) fun g0 hm hfr => ?_;have rp0 : RV g0.m wI x0 up0 := hm ▸ rp0;have rp1 : RV g0.m wI x1 up1 := hm ▸ rp1;have rp2 : RV g0.m wI x2 up2 := hm ▸ rp2;show E _ 44 none _ _ _ _ _;refine E_seq (E_region (EL_do .plain rfl (D_box (g := g0) rfl rp0 fun g1 w1 p1 hs q1 => ?_)));have hfr := hfr.ext hs;have rp1 := rp1.ext hs;have rp2 := rp2.ext hs;refine EL_do .plain rfl (D_box (g := g1) rfl rp1 fun g2 w2 p2 hs q2 => ?_);have hfr := hfr.ext hs;have rp2 := rp2.ext hs;have q1 := q1.ext hs;refine EL_do .plain rfl (D_box (g := g2) rfl rp2 fun g3 w3 p3 hs q3 => ?_);have hfr := hfr.ext hs;have q1 := q1.ext hs;have q2 := q2.ext hs;refine EL_do .plain rfl (D_allocOc (g := g3) 2006 (⟨0, 0⟩ : Span) Tryd.zeroValue28 (fun m w => ⟨_, (rep_two rep_int rep_int), rfl⟩) fun g4 w4 p4 hs b4 cb => ?_);have hfr := hfr.stp hs;have q1 := q1.stp hs;have q2 := q2.stp hs;have q3 := q3.stp hs;clear cb;refine EL_nil (thn_n (E_seq (E_region (EL_do .plain rfl (D_load (g := g4) Tryd.isAgg76 Tryd.sizeOf76 rfl q1 fun v5 r5 => ?_)))));refine EL_do .plain rfl (D_load (g := g4) Tryd.isAgg45 Tryd.sizeOf45 rfl q3 fun v6 r6 => ?_);obtain ⟨y8, nD, h⟩ := bsome h;refine EL_do .plain rfl (D_call (g := g4) (vs := [v5, v6]) en63 (.cons rfl (.cons rfl .nil)) (wk63 r5 r6 nD) fun g7 w7_ v7 hs hr => ?_);have hfr := hfr.ext hs;have q2 := q2.ext hs;have q3 := q3.ext hs;have b4 := b4.ext hs;have r7 := hr;refine EL_do .plain rfl (D_allocOc (g := g7) 2007 (⟨0, 0⟩ : Span) Tryd.zeroValue28 (fun m w => ⟨_, (rep_two rep_int rep_int), rfl⟩) fun g9 w9 p9 hs b9 cb => ?_);have hfr := hfr.stp hs;have q2 := q2.stp hs;have q3 := q3.stp hs;have b4 := b4.stp hs rfl;have r7 := r7.stp hs;clear cb;refine EL_do .plain rfl (D_storeOc (g := g9) (v := v7) Tryd.sizeOf28 rfl b9 rfl r7 fun o0 n8 hs b10 cb => ?_);clear cb;have hfr := hfr.stp hs;have q2 := q2.stp hs;have q3 := q3.stp hs;have b4 := b4.stp hs rfl;refine EL_nil (thn_n (E_seq (E_region (EL_p (fPtr p3 0) (P_fieldAddr at_45_0 rfl (PT.ptr q3)) rfl ?_))));have oD := PT_field (part_ShadeEntry_0).1 q3;refine EL_do .plain rfl (D_load (g := o0) Tryd.isAgg43 Tryd.sizeOf43 rfl oD fun yF yD => ?_);obtain rfl := RV_int.1 yD;refine EL_nil (thn_n (E_block ?_));refine E_seq (E_region (EL_in (.bool (((x2).Kind == (1 : Int)))) rfl rfl rfl rfl ?_));refine EL_at (.bool (((x2).Kind == (1 : Int)))) rfl rfl ?_;refine EL_nil (thn_n ?_);rcases csome h with ⟨i6, h⟩ | ⟨i6, h⟩
 ·refine E_ct i6 rfl ?_
  refine E_seq ?_;obtain ⟨l5, mB, h⟩ := bsome h;have zD := PT_field (part_Span_0).1 q2;refine L_load (x := .tmp 19) Tryd.isAgg3 Tryd.sizeOf3 zD fun aG aE nB => ?_;obtain rfl := RV_int.1 aE;refine L_loadO (x := .tmp 21) part_Span_1.1 Tryd.isAgg3 Tryd.sizeOf3 b10 fun bG bE oB => ?_;obtain rfl := RV_int.1 bE;have iE := PT_field (part_Span_1).1 q2;refine L_load (x := .tmp 24) Tryd.isAgg3 Tryd.sizeOf3 iE fun cG lE vB => ?_;obtain rfl := RV_int.1 lE;refine L_loadO (x := .tmp 26) part_Span_0.1 Tryd.isAgg3 Tryd.sizeOf3 b10 fun eG mE yB => ?_;obtain rfl := RV_int.1 mE;have v8 : RV o0.m n8 (⟨(w64 ((x1).Low - (y8).High)), (w64 ((x1).High - (y8).Low))⟩ : Span) (.agg (setCh [[.int .i64 0], [.int .i64 0]] [(0, .int .i64 ((w64 ((x1).Low - (y8).High)))), (1, .int .i64 ((w64 ((x1).High - (y8).Low))))]).flatten.toArray) := RV_build rfl (rep_pair (rfl) (rep_last (rfl)));generalize zB : (Value.agg (setCh [[.int .i64 0], [.int .i64 0]] [(0, .int .i64 ((w64 ((x1).Low - (y8).High)))), (1, .int .i64 ((w64 ((x1).High - (y8).Low))))]).flatten.toArray) = l9 at v8;obtain ⟨t5, cC, h⟩ := bsome h;refine E_drawL (g := o0) (n := 13) [(0, (fun v g w => RV g.m w l5 v)), (12, (fun v g w => RV g.m w t5 v))] [0, 1, 2, 3, 4, 5, 6, 7, 8, 9, 10, 11, 12] rfl mixed (by kernel_rfl) (⟨fun _ => up_rv, fun _ => up_rv, trivial⟩) ?_;refine L_do (φ := fun v g w => RV g.m w l5 v) rfl rfl .plain (fun g w hd => D_call (g := g) (vs := []) en65 .nil (wk65  mB) fun g' w' v hs hr => ⟨g', hs, hr⟩) (fun l8 hv => ?_);obtain ⟨_, _, _, rq14⟩ := hv;refine L_p (fPtr p2 0) rfl rfl (P_fieldAddr at_28_0 rfl (PT.ptr q2)) ?_;refine L_ld (c := .int .i64 ((x1).Low)) rfl rfl .plain (fun _ _ h => h.ch) nB rfl ?_;refine L_p (fPtr p9 1) rfl rfl (P_fieldAddr at_28_1 rfl (OB.ptr b10)) ?_;refine L_ld (c := .int .i64 ((y8).High)) rfl rfl .plain (fun _ _ h => ⟨h.ch, fun b hb _ => h.below.block b hb⟩) oB rfl ?_;refine L_p (.int .i64 ((w64 ((x1).Low - (y8).High)))) rfl rfl (P_int rfl rfl rfl) ?_;refine L_p (fPtr p2 1) rfl rfl (P_fieldAddr at_28_1 rfl (PT.ptr q2)) ?_;refine L_ld (c := .int .i64 ((x1).High)) rfl rfl .plain (fun _ _ h => h.ch) vB rfl ?_;refine L_p (fPtr p9 0) rfl rfl (P_fieldAddr at_28_0 rfl (OB.ptr b10)) ?_;refine L_ld (c := .int .i64 ((y8).Low)) rfl rfl .plain (fun _ _ h => ⟨h.ch, fun b hb _ => h.below.block b hb⟩) yB rfl ?_;refine L_p (.int .i64 ((w64 ((x1).High - (y8).Low)))) rfl rfl (P_int rfl rfl rfl) ?_;refine L_p l9 rfl rfl (zB ▸ P_build (vs := [(0, .int .i64 ((w64 ((x1).Low - (y8).High)))), (1, .int .i64 ((w64 ((x1).High - (y8).Low))))]) [[.int .i64 0], [.int .i64 0]] lay_28 rfl rfl (.cons rfl (.cons rfl .nil)) ⟨⟨_, rfl, rfl⟩, ⟨⟨_, rfl, rfl⟩, trivial⟩⟩) ?_;refine L_do (φ := fun v g w => RV g.m w t5 v) rfl rfl .plain (fun g w hd => D_call (g := g) (vs := [l8, l9]) en64 (.cons rfl (.cons rfl .nil)) (wk64 (word (A := fun g w => RV g.m w l5 l8) 0 rfl rfl (deps_of hd)) (v8.ext hd.1) cC) fun g' w' v hs hr => ⟨g', hs, hr⟩) (fun n9 hv => ?_);obtain ⟨_, _, _, rq25⟩ := hv;refine L_nil fun oE gG hall => ?_;have hs := hall.1;have hfr := hfr.ext hs;have b4 := b4.ext hs;have iG := (word_all (A := fun g w => RV g.m w l5 l8) 0 rfl hall);have rE := (word_all (A := fun g w => RV g.m w t5 n9) 12 rfl hall);clear hs hall;refine EL_do .plain rfl (D_storeOc (g := oE) (v := n9) Tryd.sizeOf28 rfl b4 rfl rE fun jG kG hs b56 cb => ?_);clear cb;have hfr := hfr.stp hs;refine EL_nil (thn_n (E_ret (blk_r ?_)));obtain rfl := sinj h;obtain ⟨ad57, cv57, hp57, uC, cr57⟩ := ob_read Tryd.isAgg28 Tryd.sizeOf28 b56;exact endm_c rfl rfl ((show _ = p4 from rfl).trans hp57) uC ⟨_, hfr, cr57⟩
 ·refine E_cf i6 rfl ?_
  refine E_seq (E_region (EL_in (.bool (((x2).Kind == (2 : Int)))) rfl rfl rfl rfl ?_));refine EL_at (.bool (((x2).Kind == (2 : Int)))) rfl rfl ?_;refine EL_nil (thn_n ?_);rcases csome h with ⟨g8, h⟩ | ⟨g8, h⟩
  ·refine E_ct g8 rfl ?_
   refine E_seq (E_region (EL_p (fPtr p2 0) (P_fieldAddr at_28_0 rfl (PT.ptr q2)) rfl ?_));have uE := PT_field (part_Span_0).1 q2;refine EL_do .plain rfl (D_load (g := o0) Tryd.isAgg3 Tryd.sizeOf3 rfl uE fun lG vE => ?_);obtain rfl := RV_int.1 vE;refine EL_p (fPtr p9 0) (P_fieldAddr at_28_0 rfl (OB.ptr b10)) rfl ?_;refine EL_do .plain rfl (D_loadF (g := o0) part_Span_0.1 Tryd.isAgg3 Tryd.sizeOf3 rfl b10 fun v62 xE => ?_);obtain rfl := RV_int.1 xE;refine EL_in (.int .i64 ((w64 ((x1).Low + (y8).Low)))) rfl rfl rfl rfl ?_;refine EL_p (fPtr p2 1) (P_fieldAddr at_28_1 rfl (PT.ptr q2)) rfl ?_;have yE := PT_field (part_Span_1).1 q2;refine EL_do .plain rfl (D_load (g := o0) Tryd.isAgg3 Tryd.sizeOf3 rfl yE fun mG zE => ?_);obtain rfl := RV_int.1 zE;refine EL_p (fPtr p9 1) (P_fieldAddr at_28_1 rfl (OB.ptr b10)) rfl ?_;refine EL_do .plain rfl (D_loadF (g := o0) part_Span_1.1 Tryd.isAgg3 Tryd.sizeOf3 rfl b10 fun sG cF => ?_);obtain rfl := RV_int.1 cF;refine EL_in (.int .i64 ((w64 ((x1).High + (y8).High)))) rfl rfl rfl rfl ?_;have aB : RV o0.m n8 (⟨(w64 ((x1).Low + (y8).Low)), (w64 ((x1).High + (y8).High))⟩ : Span) (.agg (setCh [[.int .i64 0], [.int .i64 0]] [(0, .int .i64 ((w64 ((x1).Low + (y8).Low)))), (1, .int .i64 ((w64 ((x1).High + (y8).High))))]).flatten.toArray) := RV_build rfl (rep_pair (rfl) (rep_last (rfl)));generalize vC : (Value.agg (setCh [[.int .i64 0], [.int .i64 0]] [(0, .int .i64 ((w64 ((x1).Low + (y8).Low)))), (1, .int .i64 ((w64 ((x1).High + (y8).High))))]).flatten.toArray) = lB at aB;refine EL_p lB (vC ▸ P_build (vs := [(0, .int .i64 ((w64 ((x1).Low + (y8).Low)))), (1, .int .i64 ((w64 ((x1).High + (y8).High))))]) [[.int .i64 0], [.int .i64 0]] lay_28 rfl rfl (.cons rfl (.cons rfl .nil)) ⟨⟨_, rfl, rfl⟩, ⟨⟨_, rfl, rfl⟩, trivial⟩⟩) rfl ?_;refine EL_do .plain rfl (D_storeOc (g := o0) (v := lB) Tryd.sizeOf28 rfl b4 rfl aB fun xG yG hs b69 cb => ?_);clear cb;have hfr := hfr.stp hs;refine EL_nil (thn_n (E_ret (blk_r ?_)));obtain rfl := sinj h;obtain ⟨ad70, cv70, hp70, bD, cr70⟩ := ob_read Tryd.isAgg28 Tryd.sizeOf28 b69;exact endm_c rfl rfl ((show _ = p4 from rfl).trans hp70) bD ⟨_, hfr, cr70⟩
  ·refine E_cf g8 rfl ?_
   refine E_seq (E_region (EL_do .plain rfl (D_load (g := o0) Tryd.isAgg28 Tryd.sizeOf28 rfl q2 fun dF eF => ?_)));refine EL_do .plain rfl (D_loadO (g := o0) Tryd.isAgg28 Tryd.sizeOf28 rfl b10 fun rF sF => ?_);obtain ⟨y74, cD, h⟩ := bsome h;refine EL_do .plain rfl (D_call (g := o0) (vs := [dF, rF]) en64 (.cons rfl (.cons rfl .nil)) (wk64 eF sF cD) fun tF xF uF hs hr => ?_);have hfr := hfr.ext hs;have b4 := b4.ext hs;have vF := hr;refine EL_do .plain rfl (D_storeOc (g := tF) (v := uF) Tryd.sizeOf28 rfl b4 rfl vF fun zG aH hs b75 cb => ?_);clear cb;have hfr := hfr.stp hs;refine EL_nil (thn_n (E_ret (blk_r ?_)));obtain rfl := sinj h;obtain ⟨ad76, cv76, hp76, lD, cr76⟩ := ob_read Tryd.isAgg28 Tryd.sizeOf28 b75;exact endm_c rfl rfl ((show _ = p4 from rfl).trans hp76) lD ⟨_, hfr, cr76⟩
def f45 (x0 : List ShadeLot) (x1 : ShadeLot → Option Bool) : Option (Bool) :=
 (f66 x0 x1).bind fun y2 =>
 some ((decide (y2 ≥ (0 : Int))))
theorem en45 : Enters Tryd.prog 45 := enters_of Tryd.func45 (by kernel_rfl) rfl
theorem wk45 {gI : Gh} {wI : World} {x0 : List ShadeLot} {x1 : ShadeLot → Option Bool} {up0 : Value} (rp0 : RV gI.m wI x0 up0) {up1 : Value} (rp1 : FnV1 Tryd.prog x1 up1 gI wI) {r : Bool} (h : f45 x0 x1 = some r) : Fn Tryd.prog 45 #[up0, up1] gI wI (fun _ _ v => v = .bool (r)) := by
 unfold f45 at h;refine fn_of_E Tryd.func45 rfl (Nat.le_of_ble_eq_true rfl) fun g0 hm hfr => ?_;have rp0 : RV g0.m wI x0 up0 := hm ▸ rp0;obtain ⟨ff1, fa1, fc1, rfl, fen1, fcl1⟩ := rp1;show E _ 9 none _ _ _ _ _;refine E_seq (E_region (EL_at (.bool false) rfl rfl ?_));refine EL_nil (thn_n (E_seq (E_region (EL_mw up0 rfl rfl ?_))));refine EL_mw ((.func (.func ff1) fa1 fc1)) rfl rfl ?_;obtain ⟨y2, hy2, h⟩ := bsome h;refine EL_do .plain rfl (D_call (g := g0) (vs := [up0, (.func (.func ff1) fa1 fc1)]) en66 (.cons rfl (.cons rfl .nil)) (wk66 rp0 (FnV1.ch ⟨_, _, _, rfl, fen1, fcl1⟩ hfr.ch) hy2) fun g1 w1_ v1 hs hr => ?_);have hfr := hfr.ext hs;subst hr;refine EL_in (.bool ((decide (y2 ≥ (0 : Int))))) rfl rfl rfl rfl ?_;refine EL_at (.bool ((decide (y2 ≥ (0 : Int))))) rfl rfl ?_;refine EL_nil (thn_n (E_ret ?_));obtain rfl := sinj h;exact end1 rfl rfl (show _ = .bool ((decide (y2 ≥ (0 : Int)))) from rfl) ⟨_, hfr, rfl⟩
def f73 (x0 : PayRate) (x1 : Int) : Option (Int) :=
 (f20 ((x0).From) x1).bind fun y5 =>
 some (y5)
theorem en73 : Enters Tryd.prog 73 := enters_of Tryd.func73 (by kernel_rfl) rfl
theorem wk73 {gI : Gh} {wI : World} {x0 : PayRate} {x1 : Int} {up0 : Value} (rp0 : RV gI.m wI x0 up0) {r : Int} (h : f73 x0 x1 = some r) : Fn Tryd.prog 73 #[up0, .int .i64 (x1)] gI wI (fun _ _ v => v = .int .i64 (r)) := by
 unfold f73 at h;refine fn_of_E Tryd.func73 rfl (Nat.le_of_ble_eq_true rfl) fun g0 hm hfr => ?_;have rp0 : RV g0.m wI x0 up0 := hm ▸ rp0;show E _ 9 none _ _ _ _ _;refine E_seq (E_region (EL_do .plain rfl (D_box (g := g0) rfl rp0 fun g1 w1 p1 hs q1 => ?_)));have hfr := hfr.ext hs;refine EL_at (.int .i64 (0)) rfl rfl ?_;refine EL_nil (thn_n (E_seq (E_region (EL_p (fPtr p1 0) (P_fieldAddr at_55_0 rfl (PT.ptr q1)) rfl ?_))));have q2 := PT_field (part_PayRate_0).1 q1;refine EL_do .plain rfl (D_load (g := g1) Tryd.isAgg3 Tryd.sizeOf3 rfl q2 fun v3 r3 => ?_);obtain rfl := RV_int.1 r3;refine EL_mw (.int .i64 (x1)) rfl rfl ?_;obtain ⟨y5, hy5, h⟩ := bsome h;refine EL_do .plain rfl (D_call (g := g1) (vs := [.int .i64 ((x0).From), .int .i64 (x1)]) en20 (.cons rfl (.cons rfl .nil)) (wk20  hy5) fun g4 w4_ v4 hs hr => ?_);have hfr := hfr.ext hs;subst hr;refine EL_at (.int .i64 (y5)) rfl rfl ?_;refine EL_nil (thn_n (E_ret ?_));obtain rfl := sinj h;exact end1 rfl rfl (show _ = .int .i64 (y5) from rfl) ⟨_, hfr, rfl⟩
def f77 (x0 : List (List Int)) : Option ((List Int)) :=
 Option.bind (α := Int) (
  lp (σ := Int × Int) (fun bG (t5, o0) =>
   bif (decide (o0 < ((x0).length : Int))) then
    Option.bind (α := Int) (
     (idx x0 o0).bind fun l8 =>
     bif (decide ((w64 (t5 + ((l8).length : Int))) < (0 : Int))) then
      none
     else
      some ((w64 (t5 + ((l8).length : Int))))
     ) fun n8 =>
    bG (n8, (w64 (o0 + (1 : Int))))
   else
    some (t5)
   ) big ((0 : Int), (0 : Int))
  ) fun v8 =>
 (f85 v8).bind fun cG =>
 Option.bind (α := (List Int)) (
  lp (σ := (List Int) × Int) (fun eG (mB, l5) =>
   bif (decide (l5 < ((x0).length : Int))) then
    Option.bind (α := (List Int)) (
     (idx x0 l5).bind fun gG =>
     (apnd 8 mB gG).bind fun iG =>
     some (iG)
     ) fun g8 =>
    eG (g8, (w64 (l5 + (1 : Int))))
   else
    some (mB)
   ) big (cG, (0 : Int))
  ) fun l9 =>
 some (l9)
theorem en77 : Enters Tryd.prog 77 := enters_of Tryd.func77 (by kernel_rfl) rfl
theorem wk77 {gI : Gh} {wI : World} {x0 : List (List Int)} {up0 : Value} (rp0 : RV gI.m wI x0 up0) {r : (List Int)} (h : f77 x0 = some r) : Fn Tryd.prog 77 #[up0] gI wI (fun m w v => RV m w (r) v) := by
 unfold f77 at h;refine fn_of_E Tryd.func77 rfl (Nat.le_of_ble_eq_true rfl) fun g0 hm hfr => ?_;have rp0 : RV g0.m wI x0 up0 := hm ▸ rp0;show E _ 36 none _ _ _ _ _;refine E_seq (E_region (EL_at (.slice none 0 0) rfl rfl ?_));refine EL_nil (thn_n (E_seq (E_region (EL_at (.int .i64 (0)) rfl rfl ?_))));refine EL_nil (thn_n ?_);obtain ⟨v8, hx, h⟩ := bsome h;refine E_join (fun e w => ∃ (g : Gh) , Fr gI wI g w ∧ e 0 = up0 ∧ RV g.m w (x0 : List (List Int)) up0 ∧ e 3 = .int .i64 (v8)) (fun Q' hQ => ?_) (fun tH bI hR => ?_)
 ·replace h := hx
  clear hx;refine E_seq (E_region (EL_mw up0 rfl rfl ?_));refine EL_p (.int .i64 ((x0).length : Int)) (P_len Tryd.underlying69 rfl rp0) rfl ?_;refine EL_mw (.int .i64 (0)) rfl rfl ?_;refine EL_nil (thn_n (E_block ?_));refine E_lp h (fun (s : Int × Int) e w => ∃ (g : Gh) , Fr gI wI g w ∧ e 0 = up0 ∧ RV g.m w (x0 : List (List Int)) up0 ∧ e 3 = .int .i64 (s.1) ∧ e 9 = up0 ∧ RV g.m w (x0 : List (List Int)) up0 ∧ e 10 = .int .i64 (((x0).length : Int)) ∧ e 11 = .int .i64 (s.2)) ⟨g0, hfr, rfl, rp0, rfl, rfl, rp0, rfl, rfl⟩ (fun X13 bG sG => ?_);rintro ⟨t5, o0⟩ uH dI ⟨aE, hfr, vC, bD, cD, lD, nB, oB, aB⟩ h;refine E_seq (E_region (EL_in (.bool ((decide (o0 < ((x0).length : Int))))) aB oB rfl rfl ?_));refine EL_nil (thn_n (E_seq ?_));rcases csome h with ⟨zB, h⟩ | ⟨zB, h⟩
  ·refine E_ct zB rfl ?_
   refine E_skip (thn_n ?_);obtain ⟨n8, hx, h⟩ := bsome h;refine E_join (fun e w => ∃ (g : Gh) , Fr gI wI g w ∧ e 0 = up0 ∧ RV g.m w (x0 : List (List Int)) up0 ∧ e 3 = .int .i64 (n8) ∧ e 9 = up0 ∧ RV g.m w (x0 : List (List Int)) up0 ∧ e 10 = .int .i64 (((x0).length : Int)) ∧ e 11 = .int .i64 (o0)) (fun Q' hQ => ?_) (fun xH iI hR => ?_)
   ·replace h := hx
    clear hx;refine E_block ?_;refine E_seq (E_region ?_);obtain ⟨l8, hy20, h⟩ := bsome h;refine EL_p (ePtr up0 o0 1) (P_indexAddr (α := List Int) Tryd.underlying69 Tryd.sizeOf34 lD nB aB hy20) rfl ?_;have aH := PT_idx nB hy20;refine EL_do .plain rfl (D_load (g := aE) Tryd.isAgg34 Tryd.sizeOf34 rfl aH fun jG cH => ?_);refine EL_at jG rfl rfl ?_;refine EL_nil (thn_n (E_seq (E_region (EL_mv cD rfl ?_))));refine EL_mw jG rfl rfl ?_;refine EL_p (.int .i64 ((l8).length : Int)) (P_len Tryd.underlying34 rfl cH) rfl ?_;refine EL_in (.int .i64 ((w64 (t5 + ((l8).length : Int))))) rfl rfl rfl rfl ?_;refine EL_at (.int .i64 ((w64 (t5 + ((l8).length : Int))))) rfl rfl ?_;refine EL_nil (thn_n (E_seq (E_region (EL_mw (.int .i64 ((w64 (t5 + ((l8).length : Int))))) rfl rfl ?_))));refine EL_p (.bool ((decide ((w64 (t5 + ((l8).length : Int))) < (0 : Int))))) (P_int rfl rfl rfl) rfl ?_;refine EL_nil (thn_n ?_);rcases csome h with ⟨cC, h⟩ | ⟨cC, h⟩
    ·refine E_ct cC rfl ?_
     refine E_region ?_
     cases h
    ·refine E_cf cC rfl ?_
     refine E_skip (blk_n ?_);obtain rfl := sinj h;exact hQ _ _ ⟨aE, hfr, vC, bD, rfl, lD, nB, oB, aB⟩
   ·clear hx
    obtain ⟨gH, hfr, xE, yE, zE, cF, dF, bE, iE⟩ := hR;refine E_region (EL_in (.int .i64 ((w64 (o0 + (1 : Int))))) iE rfl rfl rfl ?_);refine EL_mw (.int .i64 ((w64 (o0 + (1 : Int))))) rfl rfl ?_;exact EL_nil (thn_n (sG (n8, (w64 (o0 + (1 : Int)))) _ _ ⟨gH, hfr, xE, yE, zE, cF, dF, bE, rfl⟩ h))
  ·refine E_cf zB rfl ?_
   refine E_exit ?_;refine thn_e ?_;refine thn_e ?_;refine blk_hit ?_;obtain rfl := sinj h;exact hQ _ _ ⟨aE, hfr, vC, bD, cD⟩
 ·clear hx
  obtain ⟨jH, hfr, eF, n9, rF⟩ := hR;refine E_seq (E_region (EL_mv rF rfl ?_));obtain ⟨cG, xG, h⟩ := bsome h;refine EL_do .plain rfl (D_callG (g := jH) (vs := [.slice none 0 0, .int .i64 (v8)]) en85 (.cons rfl (.cons rfl .nil)) (wk85 (iO := 4024) xG) fun kH jI kG hs m26 => ?_);obtain ⟨o26, lH⟩ := m26;have hfr := hfr.ext hs;have n9 := n9.ext hs;refine EL_at kG rfl rfl ?_;refine EL_nil (thn_n ?_);obtain ⟨l9, hx, h⟩ := bsome h;refine E_join (fun e w => ∃ (g : Gh) (v6 : Value), Fr gI wI g w ∧ e 6 = v6 ∧ RV g.m w (l9 : List Int) v6 ∧ OS 4024 g w 3 (l9 : List Int) v6) (fun Q' hQ => ?_) (fun yH kI hR => ?_)
  ·replace h := hx
   clear hx;refine E_seq (E_region (EL_mv eF rfl ?_));refine EL_p (.int .i64 ((x0).length : Int)) (P_len Tryd.underlying69 rfl n9) rfl ?_;refine EL_mw (.int .i64 (0)) rfl rfl ?_;refine EL_nil (thn_n (E_block ?_));refine E_lp h (fun (s : (List Int) × Int) e w => ∃ (g : Gh) (v6 : Value), Fr gI wI g w ∧ e 6 = v6 ∧ RV g.m w (s.1 : List Int) v6 ∧ OS 4024 g w 3 (s.1 : List Int) v6 ∧ e 25 = up0 ∧ RV g.m w (x0 : List (List Int)) up0 ∧ e 26 = .int .i64 (((x0).length : Int)) ∧ e 27 = .int .i64 (s.2)) ⟨kH, (kG), hfr, rfl, lH, o26, rfl, n9, rfl, rfl⟩ (fun X42 eG yG => ?_);rintro ⟨mB, l5⟩ zH lI ⟨lE, sF, hfr, nD, oD, yD, vB, i6, yB, lB⟩ h;refine E_seq (E_region (EL_in (.bool ((decide (l5 < ((x0).length : Int))))) lB yB rfl rfl ?_));refine EL_nil (thn_n (E_seq ?_));rcases csome h with ⟨uC, h⟩ | ⟨uC, h⟩
   ·refine E_ct uC rfl ?_
    refine E_skip (thn_n ?_);obtain ⟨g8, hx, h⟩ := bsome h;refine E_join (fun e w => ∃ (g : Gh) (v6 : Value), Fr gI wI g w ∧ e 6 = v6 ∧ RV g.m w (g8 : List Int) v6 ∧ OS 4024 g w 3 (g8 : List Int) v6 ∧ e 25 = up0 ∧ RV g.m w (x0 : List (List Int)) up0 ∧ e 26 = .int .i64 (((x0).length : Int)) ∧ e 27 = .int .i64 (l5)) (fun Q' hQ => ?_) (fun aI mI hR => ?_)
    ·replace h := hx
     clear hx;refine E_block ?_;refine E_seq (E_region ?_);obtain ⟨gG, mE, h⟩ := bsome h;refine EL_p (ePtr up0 l5 1) (P_indexAddr (α := List Int) Tryd.underlying69 Tryd.sizeOf34 vB i6 lB mE) rfl ?_;have mH := PT_idx i6 mE;refine EL_do .plain rfl (D_load (g := lE) Tryd.isAgg34 Tryd.sizeOf34 rfl mH fun lG nH => ?_);refine EL_at lG rfl rfl ?_;refine EL_nil (thn_n (E_region (EL_mv nD rfl ?_)));refine EL_mw lG rfl rfl ?_;obtain ⟨iG, zG, h⟩ := bsome h;refine EL_do .plain rfl (D_append (g := lE) (i := 4024) Tryd.underlying34 info_3 rfl rfl yD oD rfl nH zG fun oH nI mG hs o53 pH _ => ?_);have hfr := hfr.stp hs;have i6 := i6.stp hs;refine EL_at mG rfl rfl ?_;refine EL_nil (blk_n ?_);obtain rfl := sinj h;exact hQ _ _ ⟨oH, (mG), hfr, rfl, pH, o53, vB, i6, yB, lB⟩
    ·clear hx
     obtain ⟨qH, tF, hfr, uF, vF, xF, oE, rE, uE, vE⟩ := hR;refine E_region (EL_in (.int .i64 ((w64 (l5 + (1 : Int))))) vE rfl rfl rfl ?_);refine EL_mw (.int .i64 ((w64 (l5 + (1 : Int))))) rfl rfl ?_;exact EL_nil (thn_n (yG (g8, (w64 (l5 + (1 : Int)))) _ _ ⟨qH, (tF), hfr, uF, vF, xF, oE, rE, uE, rfl⟩ h))
   ·refine E_cf uC rfl ?_
    refine E_exit ?_;refine thn_e ?_;refine thn_e ?_;refine blk_hit ?_;obtain rfl := sinj h;exact hQ _ _ ⟨lE, (sF), hfr, nD, oD, yD⟩
  ·clear hx
   obtain ⟨pI, zD, hfr, yF, aG, sH⟩ := hR;refine E_seq (E_region (EL_mv yF rfl ?_));refine EL_at zD rfl rfl ?_;refine EL_nil (thn_n (E_ret ?_));obtain rfl := sinj h;exact end1 rfl rfl (show _ = zD from rfl) ⟨_, hfr, aG⟩
def f78 (x0 : List Int) (x1 : Int) (x2 : Int) (x3 : Int) (x4 : Int → Int → Option Int) : Option ((List Int)) :=
 Option.bind (α := (List Int) × Int) (
  lp (σ := (List Int) × Int × Int) (fun bD (n8, o0, l5) =>
   jn (σ := Unit) (fun _ =>
    bif (decide (o0 > l5)) then
     (f86 n8 ((w64 (x2 - o0))) x2 l5 x4).bind fun cD =>
     bD (cD, (w64 (o0 - l5)), l5)
    else
     (f86 n8 ((w64 (x2 - o0))) ((w64 ((w64 (x2 + l5)) - o0))) o0 x4).bind fun lD =>
     bD (lD, o0, (w64 (l5 - o0)))
    ) fun bE =>
   bif (o0 != l5) then
    bE ()
   else
    some (n8, o0)
   ) big (x0, (w64 (x2 - x1)), (w64 (x3 - x2)))
  ) fun (aB, i6) =>
 (f86 aB ((w64 (x2 - i6))) x2 i6 x4).bind fun iE =>
 some (iE)
theorem en78 : Enters Tryd.prog 78 := enters_of Tryd.func78 (by kernel_rfl) rfl
theorem wk78 {iI : Nat} {gI : Gh} {wI : World} {x0 : List Int} {x1 : Int} {x2 : Int} {x3 : Int} {x4 : Int → Int → Option Int} {up0 : Value} (mp0 : OM iI gI wI 3 x0 up0) {up4 : Value} (rp4 : FnV2 Tryd.prog x4 up4 gI wI) {r : (List Int)} (h : f78 x0 x1 x2 x3 x4 = some r) : FnM Tryd.prog 78 #[up0, .int .i64 (x1), .int .i64 (x2), .int .i64 (x3), up4] iI gI wI (fun g w v => v = .tuple #[] ∧ OM iI g w 3 r up0) := by
 unfold f78 at h;refine fnM_of_E Tryd.func78 rfl (Nat.le_of_ble_eq_true rfl) fun g0 hm hfr => ?_;have oD := mp0;replace mp0 := mp0.enter;rw [← hm] at mp0
 replace hm : g0.m = gI.m := by rw [hm]
 obtain ⟨ff4, fa4, fc4, rfl, fen4, fcl4⟩ := rp4;show E _ 58 none _ _ _ _ _;refine E_seq (E_region (EL_mw (.int .i64 (x2)) rfl rfl ?_));refine EL_mw (.int .i64 (x1)) rfl rfl ?_;refine EL_in (.int .i64 ((w64 (x2 - x1)))) rfl rfl rfl rfl ?_;refine EL_at (.int .i64 ((w64 (x2 - x1)))) rfl rfl ?_;refine EL_nil (thn_n (E_seq (E_region (EL_mw (.int .i64 (x3)) rfl rfl ?_))));refine EL_mw (.int .i64 (x2)) rfl rfl ?_;refine EL_in (.int .i64 ((w64 (x3 - x2)))) rfl rfl rfl rfl ?_;refine EL_at (.int .i64 ((w64 (x3 - x2)))) rfl rfl ?_;refine EL_nil (thn_n ?_);obtain ⟨⟨aB, i6⟩, hx, h⟩ := bsome h;refine E_join (fun e w => ∃ (g : Gh) , FrM iI gI wI g w ∧ e 0 = up0 ∧ OM 1 g w 3 (aB : List Int) up0 ∧ e 2 = .int .i64 (x2) ∧ e 4 = (.func (.func ff4) fa4 fc4) ∧ e 10 = .int .i64 (i6)) (fun Q' hQ => ?_) (fun zE tF hR => ?_)
 ·replace h := hx
  clear hx;refine E_block ?_;refine E_lp h (fun (s : (List Int) × Int × Int) e w => ∃ (g : Gh) , FrM iI gI wI g w ∧ e 0 = up0 ∧ OM 1 g w 3 (s.1 : List Int) up0 ∧ e 2 = .int .i64 (x2) ∧ e 4 = (.func (.func ff4) fa4 fc4) ∧ e 10 = .int .i64 (s.2.1) ∧ e 11 = .int .i64 (s.2.2)) ⟨g0, hfr, rfl, mp0, rfl, rfl, rfl, rfl⟩ (fun X12 bD nD => ?_);rintro ⟨n8, o0, l5⟩ cF uF ⟨lE, hfr, vB, yB, zB, cC, n9, lB⟩ h;refine E_joinC h (fun (s : Unit) e w => ∃ (g : Gh) , FrM iI gI wI g w ∧ e 0 = up0 ∧ OM 1 g w 3 (n8 : List Int) up0 ∧ e 2 = .int .i64 (x2) ∧ e 4 = (.func (.func ff4) fa4 fc4) ∧ e 10 = .int .i64 (o0) ∧ e 11 = .int .i64 (l5)) (fun X15 bE oE h => ?_) ?_
  ·refine E_seq (E_region (EL_mv n9 rfl ?_))
   refine EL_mv lB rfl ?_;refine EL_in (.bool ((o0 != l5))) rfl rfl rfl rfl ?_;refine EL_nil (thn_n ?_);rcases csome h with ⟨nB, h⟩ | ⟨nB, h⟩
   ·refine E_ct nB rfl ?_
    exact E_skip (thn_n (oE () _ _ ⟨lE, hfr, vB, yB, zB, cC, n9, lB⟩ h))
   ·refine E_cf nB rfl ?_
    refine E_exit ?_;refine thn_e ?_;refine thn_e ?_;refine blk_hit ?_;obtain ⟨rfl, rfl⟩ := pairs2 h;exact hQ _ _ ⟨lE, hfr, vB, yB, zB, cC, n9⟩
  ·rintro _ dF vF ⟨mE, hfr, v8, uC, l8, l9, t5, g8⟩ h
   refine E_block ?_;refine E_seq (E_region (EL_mv t5 rfl ?_));refine EL_mv g8 rfl ?_;refine EL_in (.bool ((decide (o0 > l5)))) rfl rfl rfl rfl ?_;refine EL_nil (thn_n ?_);rcases csome h with ⟨oB, h⟩ | ⟨oB, h⟩
   ·refine E_ct oB rfl ?_
    refine E_seq (E_region (EL_mv v8 rfl ?_));refine EL_mv l8 rfl ?_;refine EL_mv t5 rfl ?_;refine EL_in (.int .i64 ((w64 (x2 - o0)))) rfl rfl rfl rfl ?_;refine EL_mv l8 rfl ?_;refine EL_mv g8 rfl ?_;refine EL_mv l9 rfl ?_;obtain ⟨cD, hy20, h⟩ := bsome h;refine EL_do .plain rfl (D_callM (g := mE) (i := 1) (vs := [up0, .int .i64 ((w64 (x2 - o0))), .int .i64 (x2), .int .i64 (l5), (.func (.func ff4) fa4 fc4)]) en86 (.cons rfl (.cons rfl (.cons rfl (.cons rfl (.cons rfl .nil))))) (wk86 uC (FnV2.ch ⟨_, _, _, rfl, fen4, fcl4⟩ hfr.ch) hy20) fun vE eF xF hs hr => ?_);obtain ⟨hrv, b19⟩ := hr;have hfr := hfr.stp hs;subst hrv;refine EL_nil (thn_n (E_region (EL_mv t5 rfl ?_)));refine EL_mv g8 rfl ?_;refine EL_in (.int .i64 ((w64 (o0 - l5)))) rfl rfl rfl rfl ?_;refine EL_at (.int .i64 ((w64 (o0 - l5)))) rfl rfl ?_;exact EL_nil (blk_n (thn_n (nD (cD, (w64 (o0 - l5)), l5) _ _ ⟨vE, hfr, v8, b19, l8, l9, rfl, g8⟩ h)))
   ·refine E_cf oB rfl ?_
    refine E_seq (E_region (EL_mv v8 rfl ?_));refine EL_mv l8 rfl ?_;refine EL_mv t5 rfl ?_;refine EL_in (.int .i64 ((w64 (x2 - o0)))) rfl rfl rfl rfl ?_;refine EL_mv l8 rfl ?_;refine EL_mv g8 rfl ?_;refine EL_in (.int .i64 ((w64 (x2 + l5)))) rfl rfl rfl rfl ?_;refine EL_mv t5 rfl ?_;refine EL_in (.int .i64 ((w64 ((w64 (x2 + l5)) - o0)))) rfl rfl rfl rfl ?_;refine EL_mv t5 rfl ?_;refine EL_mv l9 rfl ?_;obtain ⟨lD, rE, h⟩ := bsome h;refine EL_do .plain rfl (D_callM (g := mE) (i := 1) (vs := [up0, .int .i64 ((w64 (x2 - o0))), .int .i64 ((w64 ((w64 (x2 + l5)) - o0))), .int .i64 (o0), (.func (.func ff4) fa4 fc4)]) en86 (.cons rfl (.cons rfl (.cons rfl (.cons rfl (.cons rfl .nil))))) (wk86 uC (FnV2.ch ⟨_, _, _, rfl, fen4, fcl4⟩ hfr.ch) rE) fun xE rF yF hs hr => ?_);obtain ⟨hrv, b21⟩ := hr;have hfr := hfr.stp hs;subst hrv;refine EL_nil (thn_n (E_region (EL_mv g8 rfl ?_)));refine EL_mv t5 rfl ?_;refine EL_in (.int .i64 ((w64 (l5 - o0)))) rfl rfl rfl rfl ?_;refine EL_at (.int .i64 ((w64 (l5 - o0)))) rfl rfl ?_;exact EL_nil (blk_n (thn_n (nD (lD, o0, (w64 (l5 - o0))) _ _ ⟨xE, hfr, v8, b21, l8, l9, t5, rfl⟩ h)))
 ·clear hx
  obtain ⟨yE, hfr, yD, zD, vC, aE, mB⟩ := hR;refine E_region (EL_mv yD rfl ?_);refine EL_mv vC rfl ?_;refine EL_mv mB rfl ?_;refine EL_in (.int .i64 ((w64 (x2 - i6)))) rfl rfl rfl rfl ?_;refine EL_mv vC rfl ?_;refine EL_mv mB rfl ?_;refine EL_mv aE rfl ?_;obtain ⟨iE, uE, h⟩ := bsome h;refine EL_do .plain rfl (D_callM (g := yE) (i := 1) (vs := [up0, .int .i64 ((w64 (x2 - i6))), .int .i64 (x2), .int .i64 (i6), (.func (.func ff4) fa4 fc4)]) en86 (.cons rfl (.cons rfl (.cons rfl (.cons rfl (.cons rfl .nil))))) (wk86 zD (FnV2.ch ⟨_, _, _, rfl, fen4, fcl4⟩ hfr.ch) uE) fun aG sF bG hs hr => ?_);obtain ⟨hrv, b24⟩ := hr;have hfr := hfr.stp hs;subst hrv;refine EL_nil ?_;obtain rfl := sinj h;exact end0n rfl rfl ⟨_, hfr, rfl, oD.back b24⟩
def f79 (x0 : List Int) : Option (Bool) :=
 jn (σ := Unit) (fun _ =>
  some (true)
  ) fun k53 =>
 lp (σ := Int) (fun k54 o0 =>
  jn (σ := Unit) (fun _ =>
   jn (σ := Unit) (fun _ =>
    k54 ((w64 (o0 - (1 : Int))))
    ) fun yB =>
   (idx x0 o0).bind fun y84 =>
   (idx x0 (w64 (o0 - (1 : Int)))).bind fun n8 =>
   (f87 y84 n8).bind fun v8 =>
   bif v8 then
    some (false)
   else
    yB ()
   ) fun k57 =>
  bif (decide (o0 > (0 : Int))) then
   k57 ()
  else
   k53 ()
  ) big ((w64 (((x0).length : Int) - (1 : Int))))
theorem en79 : Enters Tryd.prog 79 := enters_of Tryd.func79 (by kernel_rfl) rfl
theorem wk79 {gI : Gh} {wI : World} {x0 : List Int} {up0 : Value} (rp0 : RV gI.m wI x0 up0) {r : Bool} (h : f79 x0 = some r) : Fn Tryd.prog 79 #[up0] gI wI (fun _ _ v => v = .bool (r)) := by
 unfold f79 at h;refine fn_of_E Tryd.func79 rfl (Nat.le_of_ble_eq_true rfl) fun g0 hm hfr => ?_;have rp0 : RV g0.m wI x0 up0 := hm ▸ rp0;show E _ 21 none _ _ _ _ _;refine E_seq (E_region (EL_at (.bool false) rfl rfl ?_));refine EL_nil (thn_n (E_joinC h (fun (s : Unit) e w => ∃ (g : Gh) , Fr gI wI g w) (fun X53 k53 cC h => ?_) ?_))
 ·refine E_seq (E_region (EL_mw up0 rfl rfl ?_))
  refine EL_p (.int .i64 ((x0).length : Int)) (P_len Tryd.underlying34 rfl rp0) rfl ?_;refine EL_in (.int .i64 ((w64 (((x0).length : Int) - (1 : Int))))) rfl rfl rfl rfl ?_;refine EL_at (.int .i64 ((w64 (((x0).length : Int) - (1 : Int))))) rfl rfl ?_;refine EL_nil (thn_n (E_block ?_));refine E_lp h (fun (s : Int) e w => ∃ (g : Gh) , Fr gI wI g w ∧ e 0 = up0 ∧ RV g.m w (x0 : List Int) up0 ∧ e 3 = .int .i64 (s)) ⟨g0, hfr, rfl, rp0, rfl⟩ (fun X54 k54 uC => ?_);rintro o0 rE zE ⟨zB, hfr, oB, vB, l9⟩ h;refine E_joinC h (fun (s : Unit) e w => ∃ (g : Gh) , Fr gI wI g w ∧ e 0 = up0 ∧ RV g.m w (x0 : List Int) up0 ∧ e 3 = .int .i64 (o0)) (fun X57 k57 vC h => ?_) ?_
  ·refine E_seq (E_region (EL_mv l9 rfl ?_))
   refine EL_in (.bool ((decide (o0 > (0 : Int))))) rfl rfl rfl rfl ?_;refine EL_nil (thn_n ?_);rcases csome h with ⟨l8, h⟩ | ⟨l8, h⟩
   ·refine E_ct l8 rfl ?_
    exact E_skip (thn_n (vC () _ _ ⟨zB, hfr, oB, vB, l9⟩ h))
   ·refine E_cf l8 rfl ?_
    refine E_exit ?_;refine thn_e ?_;refine thn_e ?_;refine blk_hit ?_;exact thn_n (cC () _ _ ⟨zB, hfr⟩ h)
  ·rintro _ uE cF ⟨yD, hfr, t5, l5, i6⟩ h
   refine E_joinC h (fun (s : Unit) e w => ∃ (g : Gh) , Fr gI wI g w ∧ e 0 = up0 ∧ RV g.m w (x0 : List Int) up0 ∧ e 3 = .int .i64 (o0)) (fun X83 yB bD h => ?_) ?_
   ·refine E_block ?_
    refine E_seq ?_;obtain ⟨y84, n9, h⟩ := bsome h;have zD := PT_idx l5 n9;refine L_load (x := .tmp 13) Tryd.isAgg3 Tryd.sizeOf3 zD fun dF aE cD => ?_;obtain rfl := RV_int.1 aE;obtain ⟨n8, aB, h⟩ := bsome h;have bE := PT_idx l5 aB;refine L_load (x := .tmp 18) Tryd.isAgg3 Tryd.sizeOf3 bE fun eF iE lD => ?_;obtain rfl := RV_int.1 iE;obtain ⟨v8, nD, h⟩ := bsome h;refine E_drawL (g := yD) (n := 10) [(9, (fun v g w => v = .bool (v8)))] [0, 1, 2, 3, 4, 5, 6, 7, 8, 9] rfl mixed (by kernel_rfl) (⟨fun _ => up_eq _, trivial⟩) ?_;refine L_p up0 rfl rfl (P_move t5) ?_;refine L_p (.int .i64 (o0)) rfl rfl (P_move i6) ?_;refine L_p (ePtr up0 o0 1) rfl rfl (P_indexAddr (α := Int) Tryd.underlying34 Tryd.sizeOf3 rfl l5 rfl n9) ?_;refine L_ld (c := .int .i64 (y84)) rfl rfl .plain (fun _ _ h => h.ch) cD rfl ?_;refine L_p up0 rfl rfl (P_move t5) ?_;refine L_p (.int .i64 (o0)) rfl rfl (P_move i6) ?_;refine L_p (.int .i64 ((w64 (o0 - (1 : Int))))) rfl rfl (P_int rfl rfl rfl) ?_;refine L_p (ePtr up0 (w64 (o0 - (1 : Int))) 1) rfl rfl (P_indexAddr (α := Int) Tryd.underlying34 Tryd.sizeOf3 rfl l5 rfl aB) ?_;refine L_ld (c := .int .i64 (n8)) rfl rfl .plain (fun _ _ h => h.ch) lD rfl ?_;refine L_do (φ := fun v g w => v = .bool (v8)) rfl rfl .plain (fun g w hd => D_call (g := g) (vs := [.int .i64 (y84), .int .i64 (n8)]) en87 (.cons rfl (.cons rfl .nil)) (wk87  nD) fun g' w' v hs hr => ⟨g', hs, hr⟩) (fun rF hv => ?_);obtain ⟨_, _, _, rfl⟩ := hv;refine L_nl fun lE sF hs => ?_;have hfr := hfr.ext hs;have l5 := l5.ext hs;clear hs;refine EL_nil (thn_n ?_);rcases csome h with ⟨g8, h⟩ | ⟨g8, h⟩
    ·refine E_ct g8 rfl ?_
     refine E_seq (E_region (EL_at (.bool false) rfl rfl ?_));refine EL_nil (thn_n (E_ret (blk_r ?_)));refine thn_r ?_;refine thn_r ?_;refine blk_r ?_;refine thn_r ?_;obtain rfl := sinj h;exact end1 rfl rfl (show _ = .bool false from rfl) ⟨_, hfr, rfl⟩
    ·refine E_cf g8 rfl ?_
     exact E_skip (blk_n (thn_n (bD () _ _ ⟨lE, hfr, t5, l5, i6⟩ h)))
   ·rintro _ mE vE ⟨oD, hfr, lB, mB, nB⟩ h
    refine E_region (EL_mv nB rfl ?_);refine EL_in (.int .i64 ((w64 (o0 - (1 : Int))))) rfl rfl rfl rfl ?_;refine EL_at (.int .i64 ((w64 (o0 - (1 : Int))))) rfl rfl ?_;exact EL_nil (thn_n (uC ((w64 (o0 - (1 : Int)))) _ _ ⟨oD, hfr, lB, mB, rfl⟩ h))
 ·rintro _ oE xE ⟨yE, hfr⟩ h
  refine E_seq (E_region (EL_at (.bool true) rfl rfl ?_));refine EL_nil (thn_n (E_ret ?_));obtain rfl := sinj h;exact end1 rfl rfl (show _ = .bool true from rfl) ⟨_, hfr, rfl⟩
def f82 (x0 : List (List Int)) (x1 : (List Int) → Option Bool) : Option (Bool) :=
 (f88 x0 x1).bind fun y2 =>
 some ((decide (y2 ≥ (0 : Int))))
theorem en82 : Enters Tryd.prog 82 := enters_of Tryd.func82 (by kernel_rfl) rfl
theorem wk82 {gI : Gh} {wI : World} {x0 : List (List Int)} {x1 : (List Int) → Option Bool} {up0 : Value} (rp0 : RV gI.m wI x0 up0) {up1 : Value} (rp1 : FnV1 Tryd.prog x1 up1 gI wI) {r : Bool} (h : f82 x0 x1 = some r) : Fn Tryd.prog 82 #[up0, up1] gI wI (fun _ _ v => v = .bool (r)) := by
 unfold f82 at h;refine fn_of_E Tryd.func82 rfl (Nat.le_of_ble_eq_true rfl) fun g0 hm hfr => ?_;have rp0 : RV g0.m wI x0 up0 := hm ▸ rp0;obtain ⟨ff1, fa1, fc1, rfl, fen1, fcl1⟩ := rp1;show E _ 9 none _ _ _ _ _;refine E_seq (E_region (EL_at (.bool false) rfl rfl ?_));refine EL_nil (thn_n (E_seq (E_region (EL_mw up0 rfl rfl ?_))));refine EL_mw ((.func (.func ff1) fa1 fc1)) rfl rfl ?_;obtain ⟨y2, hy2, h⟩ := bsome h;refine EL_do .plain rfl (D_call (g := g0) (vs := [up0, (.func (.func ff1) fa1 fc1)]) en88 (.cons rfl (.cons rfl .nil)) (wk88 rp0 (FnV1.ch ⟨_, _, _, rfl, fen1, fcl1⟩ hfr.ch) hy2) fun g1 w1_ v1 hs hr => ?_);have hfr := hfr.ext hs;subst hr;refine EL_in (.bool ((decide (y2 ≥ (0 : Int))))) rfl rfl rfl rfl ?_;refine EL_at (.bool ((decide (y2 ≥ (0 : Int))))) rfl rfl ?_;refine EL_nil (thn_n (E_ret ?_));obtain rfl := sinj h;exact end1 rfl rfl (show _ = .bool ((decide (y2 ≥ (0 : Int)))) from rfl) ⟨_, hfr, rfl⟩
def f17 (x0 : Int) (x1 : Int) (x2 : List Int) : Option (Bool) :=
 (f38 x2 ((fun a0 => f39 a0 x0 x1))).bind fun y4 =>
 some ((!y4))
theorem en17 : Enters Tryd.prog 17 := enters_of Tryd.func17 (by kernel_rfl) rfl
theorem wk17 {gI : Gh} {wI : World} {x0 : Int} {x1 : Int} {x2 : List Int} {up2 : Value} (rp2 : RV gI.m wI x2 up2) {r : Bool} (h : f17 x0 x1 x2 = some r) : Fn Tryd.prog 17 #[.int .i64 (x0), .int .i64 (x1), up2] gI wI (fun _ _ v => v = .bool (r)) := by
 unfold f17 at h;refine fn_of_E Tryd.func17 rfl (Nat.le_of_ble_eq_true rfl) fun g0 hm hfr => ?_;have rp2 : RV g0.m wI x2 up2 := hm ▸ rp2;show E _ 11 none _ _ _ _ _;refine E_seq (E_region (EL_do .plain rfl (D_box (g := g0) rfl (RV_int.2 rfl) fun g1 w1 p1 hs q1 => ?_)));have hfr := hfr.ext hs;have rp2 := rp2.ext hs;refine EL_do .plain rfl (D_box (g := g1) rfl (RV_int.2 rfl) fun g2 w2 p2 hs q2 => ?_);have hfr := hfr.ext hs;have rp2 := rp2.ext hs;have q1 := q1.ext hs;refine EL_at (.bool false) rfl rfl ?_;refine EL_nil (thn_n (E_seq (E_region (EL_mw up2 rfl rfl ?_))));refine EL_p ((.func (.func 39) #[] #[p1, p2])) (P_makeFunc (capf_0_2 (show ev _ _ = p1 from rfl) (show ev _ _ = p2 from rfl))) rfl ?_;obtain ⟨y4, o0, h⟩ := bsome h;refine EL_do .plain rfl (D_call (g := g2) (vs := [up2, (.func (.func 39) #[] #[p1, p2])]) en38 (.cons rfl (.cons rfl .nil)) (wk38 rp2 ⟨39, #[], #[p1, p2], rfl, en39, fun g' w' hch a0 b0 r hu0 hr => by obtain rfl := RV_int.1 hu0; exact Fn.mono (wk39  (q1.ch hch) (q2.ch hch) hr) fun _ _ _ h => RV_bool.2 h⟩ o0) fun g3 w3_ v3 hs hr => ?_);have hfr := hfr.ext hs;subst hr;refine EL_p (.bool (!y4)) (P_not rfl) rfl ?_;refine EL_at (.bool (!y4)) rfl rfl ?_;refine EL_nil (thn_n (E_ret ?_));obtain rfl := sinj h;exact end1 rfl rfl (show _ = .bool (!y4) from rfl) ⟨_, hfr, rfl⟩
def f19 (x0 : Int) (x1 : Int) (z0 : Int) (z1 : List Int) (z2 : Int) : Option (Int) :=
 (idx z1 x1).bind fun y3 =>
 (rem64 (w64 (z0 * y3)) z2).bind fun y7 =>
 (idx z1 x0).bind fun l5 =>
 (rem64 (w64 (z0 * l5)) z2).bind fun t5 =>
 (f20 y7 t5).bind fun o0 =>
 some (o0)
theorem en19 : Enters Tryd.prog 19 := enters_of Tryd.func19 (by kernel_rfl) rfl
theorem wk19 {gI : Gh} {wI : World} {x0 : Int} {x1 : Int} {z0 : Int} {z1 : List Int} {z2 : Int} {pf0 : Value} (qf0 : PT gI.m wI z0 pf0) {pf1 : Value} (qf1 : PT gI.m wI z1 pf1) {pf2 : Value} (qf2 : PT gI.m wI z2 pf2) {r : Int} (h : f19 x0 x1 z0 z1 z2 = some r) : Fn Tryd.prog 19 #[.int .i64 (x0), .int .i64 (x1), pf0, pf1, pf2] gI wI (fun _ _ v => v = .int .i64 (r)) := by
 unfold f19 at h;refine fn_of_E Tryd.func19 rfl (Nat.le_of_ble_eq_true rfl) fun g0 hm hfr => ?_;have qf0 : PT g0.m wI z0 pf0 := hm ▸ qf0;have qf1 : PT g0.m wI z1 pf1 := hm ▸ qf1;have qf2 : PT g0.m wI z2 pf2 := hm ▸ qf2;show E _ 25 none _ _ _ _ _;refine E_seq (E_region (EL_at (.int .i64 (0)) rfl rfl ?_));refine EL_nil (thn_n (E_seq (L_load (x := .tmp 2) Tryd.isAgg3 Tryd.sizeOf3 qf0 fun v1 r1 hl1 => ?_)));obtain rfl := RV_int.1 r1;refine L_load (x := .tmp 3) Tryd.isAgg34 Tryd.sizeOf34 qf1 fun v2 r2 hl2 => ?_;obtain ⟨y3, hy3, h⟩ := bsome h;have q4 := PT_idx r2 hy3;refine L_load (x := .tmp 11) Tryd.isAgg3 Tryd.sizeOf3 q4 fun v5 r5 l9 => ?_;obtain rfl := RV_int.1 r5;refine L_load (x := .tmp 4) Tryd.isAgg3 Tryd.sizeOf3 qf2 fun v6 r6 n9 => ?_;obtain rfl := RV_int.1 r6;obtain ⟨y7, aB, h⟩ := bsome h;refine L_load (x := .tmp 2) Tryd.isAgg3 Tryd.sizeOf3 qf0 fun v8 r8 lB => ?_;obtain rfl := RV_int.1 r8;refine L_load (x := .tmp 3) Tryd.isAgg34 Tryd.sizeOf34 qf1 fun v9 r9 mB => ?_;obtain ⟨l5, i6, h⟩ := bsome h;have nB := PT_idx r9 i6;refine L_load (x := .tmp 19) Tryd.isAgg3 Tryd.sizeOf3 nB fun yB oB hl12 => ?_;obtain rfl := RV_int.1 oB;refine L_load (x := .tmp 4) Tryd.isAgg3 Tryd.sizeOf3 qf2 fun zB vB g8 => ?_;obtain rfl := RV_int.1 vB;obtain ⟨t5, l8, h⟩ := bsome h;obtain ⟨o0, n8, h⟩ := bsome h;refine E_drawL (g := g0) (n := 18) [(16, (fun v g w => v = .int .i64 (o0)))] [0, 1, 2, 3, 4, 5, 6, 7, 8, 9, 10, 11, 12, 13, 14, 15, 16, 17] rfl mixed (by kernel_rfl) (⟨fun _ => up_eq _, trivial⟩) ?_;refine L_ld (c := .int .i64 (z0)) rfl rfl .plain (fun _ _ h => h.ch) hl1 rfl ?_;refine L_ld (c := v2) rfl rfl .plain (fun _ _ h => h.ch) hl2 rfl ?_;refine L_p (.int .i64 (x1)) rfl rfl (P_move rfl) ?_;refine L_p (ePtr v2 x1 1) rfl rfl (P_indexAddr (α := Int) Tryd.underlying34 Tryd.sizeOf3 rfl r2 rfl hy3) ?_;refine L_ld (c := .int .i64 (y3)) rfl rfl .plain (fun _ _ h => h.ch) l9 rfl ?_;refine L_p (.int .i64 ((w64 (z0 * y3)))) rfl rfl (P_int rfl rfl rfl) ?_;refine L_ld (c := .int .i64 (z2)) rfl rfl .plain (fun _ _ h => h.ch) n9 rfl ?_;refine L_p (.int .i64 (y7)) rfl rfl (P_int rfl rfl (congrArg (Option.map (Value.int .i64)) aB)) ?_;refine L_ld (c := .int .i64 (z0)) rfl rfl .plain (fun _ _ h => h.ch) lB rfl ?_;refine L_ld (c := v9) rfl rfl .plain (fun _ _ h => h.ch) mB rfl ?_;refine L_p (.int .i64 (x0)) rfl rfl (P_move rfl) ?_;refine L_p (ePtr v9 x0 1) rfl rfl (P_indexAddr (α := Int) Tryd.underlying34 Tryd.sizeOf3 rfl r9 rfl i6) ?_;refine L_ld (c := .int .i64 (l5)) rfl rfl .plain (fun _ _ h => h.ch) hl12 rfl ?_;refine L_p (.int .i64 ((w64 (z0 * l5)))) rfl rfl (P_int rfl rfl rfl) ?_;refine L_ld (c := .int .i64 (z2)) rfl rfl .plain (fun _ _ h => h.ch) g8 rfl ?_;refine L_p (.int .i64 (t5)) rfl rfl (P_int rfl rfl (congrArg (Option.map (Value.int .i64)) l8)) ?_;refine L_do (φ := fun v g w => v = .int .i64 (o0)) rfl rfl .plain (fun g w hd => D_call (g := g) (vs := [.int .i64 (y7), .int .i64 (t5)]) en20 (.cons rfl (.cons rfl .nil)) (wk20  n8) fun g' w' v hs hr => ⟨g', hs, hr⟩) (fun cC hv => ?_);obtain ⟨_, _, _, rfl⟩ := hv;refine L_p (.int .i64 (o0)) rfl rfl (P_assign rfl) ?_;refine L_nl fun uC vC hs => ?_;have hfr := hfr.ext hs;clear hs;refine EL_nil (thn_n (E_ret ?_));obtain rfl := sinj h;exact end1 rfl rfl (show _ = .int .i64 (o0) from rfl) ⟨_, hfr, rfl⟩
def f22 (x0 : ShadeBook) : Option ((List Span) × Int) :=
 jn (σ := (List Span)) (fun bD =>
  some (bD, (-1 : Int))
  ) fun yE =>
 lp (σ := (List Span) × Int) (fun zE (l8, o0) =>
  bif (decide (o0 < (((x0).entries).length : Int))) then
   jn (σ := (List Span)) (fun nB =>
    zE (nB, (w64 (o0 + (1 : Int))))
    ) fun cF =>
   (idx ((x0).entries) o0).bind fun dF =>
   (idx l8 o0).bind fun eF =>
   (f44 x0 eF dF).bind fun n8 =>
   jn (σ := (List Span)) (fun cD =>
    (apnd 16 cD (([n8] : List Span))).bind fun oD =>
    cF (oD)
    ) fun rF =>
   bif (decide ((n8).Low > (n8).High)) then
    some (l8, o0)
   else
    rF (l8)
  else
   yE (l8)
  ) big (([(⟨(x0).grams, (x0).grams⟩ : Span)] : List Span), (0 : Int))
theorem en22 : Enters Tryd.prog 22 := enters_of Tryd.func22 (by kernel_rfl) rfl
theorem wk22 {gI : Gh} {wI : World} {x0 : ShadeBook} {up0 : Value} (rp0 : RV gI.m wI x0 up0) {r : (List Span) × Int} (h : f22 x0 = some r) : Fn Tryd.prog 22 #[up0] gI wI (fun m w v => ∃ y0 y1, v = .tuple #[y0, y1] ∧ RV m w (r.1) y0 ∧ y1 = .int .i64 (r.2)) := by
 unfold f22 at h;refine fn_of_E Tryd.func22 rfl (Nat.le_of_ble_eq_true rfl) fun g0 hm hfr => ?_;have rp0 : RV g0.m wI x0 up0 := hm ▸ rp0;show E _ 41 none _ _ _ _ _;refine E_seq (E_region (EL_do .plain rfl (D_box (g := g0) rfl rp0 fun g1 w1 p1 hs q1 => ?_)));have hfr := hfr.ext hs;refine EL_at (.slice none 0 0) rfl rfl ?_;refine EL_at (.int .i64 (0)) rfl rfl ?_;refine EL_nil (thn_n (E_seq (E_region (EL_p (fPtr p1 0) (P_fieldAddr at_76_0 rfl (PT.ptr q1)) rfl ?_))));have q2 := PT_field (part_ShadeBook_0).1 q1;refine EL_do .plain rfl (D_load (g := g1) Tryd.isAgg3 Tryd.sizeOf3 rfl q2 fun v3 r3 => ?_);obtain rfl := RV_int.1 r3;refine EL_p (fPtr p1 0) (P_fieldAddr at_76_0 rfl (PT.ptr q1)) rfl ?_;have q4 := PT_field (part_ShadeBook_0).1 q1;refine EL_do .plain rfl (D_load (g := g1) Tryd.isAgg3 Tryd.sizeOf3 rfl q4 fun v5 r5 => ?_);obtain rfl := RV_int.1 r5;have r6 : RV g1.m w1 (⟨(x0).grams, (x0).grams⟩ : Span) (.agg (setCh [[.int .i64 0], [.int .i64 0]] [(0, .int .i64 ((x0).grams)), (1, .int .i64 ((x0).grams))]).flatten.toArray) := RV_build rfl (rep_pair (rfl) (rep_last (rfl)));generalize sI : (Value.agg (setCh [[.int .i64 0], [.int .i64 0]] [(0, .int .i64 ((x0).grams)), (1, .int .i64 ((x0).grams))]).flatten.toArray) = v6 at r6;refine EL_p v6 (sI ▸ P_build (vs := [(0, .int .i64 ((x0).grams)), (1, .int .i64 ((x0).grams))]) [[.int .i64 0], [.int .i64 0]] lay_28 rfl rfl (.cons rfl (.cons rfl .nil)) ⟨⟨_, rfl, rfl⟩, ⟨⟨_, rfl, rfl⟩, trivial⟩⟩) rfl ?_;refine EL_do .plain rfl (D_buildSlice (g := g1) 3012 (xs := ([(⟨(x0).grams, (x0).grams⟩ : Span)] : List Span)) (vs := [v6]) Tryd.underlying79 Tryd.sizeOf28 Tryd.zeroValue28 rfl rfl (.cons rfl .nil) (RVs.cons r6 RVs.nil) rfl rfl fun g7 w7 v7 hs o7 r7 hxt hfl => ?_);have hfr := hfr.stp hs;have q1 := q1.stp hs;refine EL_at v7 rfl rfl ?_;refine EL_nil (thn_n (E_joinC h (fun (s : (List Span)) e w => ∃ (g : Gh) (v2 : Value), Fr gI wI g w ∧ e 2 = v2 ∧ RV g.m w (s : List Span) v2 ∧ OS 3012 g w 28 (s : List Span) v2) (fun X116 yE zG h => ?_) ?_))
 ·refine E_seq (E_region (EL_p (fPtr p1 2) (P_fieldAddr at_76_2 rfl (PT.ptr q1)) rfl ?_))
  have oH := PT_field (part_ShadeBook_2).1 q1;refine EL_do .plain rfl (D_load (g := g7) Tryd.isAgg39 Tryd.sizeOf39 rfl oH fun lB sF => ?_);refine EL_p (.int .i64 (((x0).entries).length : Int)) (P_len Tryd.underlying39 rfl sF) rfl ?_;refine EL_mw (.int .i64 (0)) rfl rfl ?_;refine EL_nil (thn_n (E_block ?_));refine E_lp h (fun (s : (List Span) × Int) e w => ∃ (g : Gh) (v2 : Value), Fr gI wI g w ∧ e 1 = p1 ∧ PT g.m w (x0 : ShadeBook) p1 ∧ e 2 = v2 ∧ RV g.m w (s.1 : List Span) v2 ∧ OS 3012 g w 28 (s.1 : List Span) v2 ∧ e 14 = lB ∧ RV g.m w ((x0).entries : List ShadeEntry) lB ∧ e 15 = .int .i64 ((((x0).entries).length : Int)) ∧ e 16 = .int .i64 (s.2)) ⟨g7, (v7), hfr, rfl, q1, rfl, r7, o7, rfl, sF, rfl, rfl⟩ (fun X119 zE aH => ?_);rintro ⟨l8, o0⟩ lJ pJ ⟨yD, v8, hfr, lD, i6, mB, l5, g8, zB, t5, cC, aB⟩ h;refine E_seq (E_region (EL_p (.bool ((decide (o0 < (((x0).entries).length : Int))))) (P_int aB cC rfl) rfl ?_));refine EL_nil (thn_n (E_seq ?_));rcases csome h with ⟨uC, h⟩ | ⟨uC, h⟩
  ·refine E_ct uC rfl ?_
   refine E_skip (thn_n (E_joinC h (fun (s : (List Span)) e w => ∃ (g : Gh) (v2 : Value), Fr gI wI g w ∧ e 1 = p1 ∧ PT g.m w (x0 : ShadeBook) p1 ∧ e 2 = v2 ∧ RV g.m w (s : List Span) v2 ∧ OS 3012 g w 28 (s : List Span) v2 ∧ e 14 = lB ∧ RV g.m w ((x0).entries : List ShadeEntry) lB ∧ e 15 = .int .i64 ((((x0).entries).length : Int)) ∧ e 16 = .int .i64 (o0)) (fun X172 cF cH h => ?_) ?_))
   ·refine E_block ?_
    refine E_seq (E_region (EL_mv aB rfl ?_));obtain ⟨dF, bE, h⟩ := bsome h;refine EL_p (ePtr lB o0 2) (P_indexAddr (α := ShadeEntry) Tryd.underlying39 Tryd.sizeOf45 zB t5 aB bE) rfl ?_;have pH := PT_idx t5 bE;refine EL_do .plain rfl (D_load (g := yD) Tryd.isAgg45 Tryd.sizeOf45 rfl pH fun qH zD => ?_);refine EL_do .plain rfl (D_allocOc (g := yD) 2005 (⟨0, 0⟩ : ShadeEntry) Tryd.zeroValue45 (fun m w => ⟨_, (rep_two rep_int rep_int), rfl⟩) fun sH qJ rJ hs b176 cb => ?_);have hfr := hfr.stp hs;have i6 := i6.stp hs;have l5 := l5.stp hs;have g8 := g8.stp hs rfl;have t5 := t5.stp hs;have zD := zD.stp hs;clear cb;refine EL_at (.int .i64 (o0)) rfl rfl ?_;refine EL_do .plain rfl (D_storeOc (g := sH) (v := qH) Tryd.sizeOf45 rfl b176 rfl zD fun tH sJ hs b177 cb => ?_);clear cb;have hfr := hfr.stp hs;have i6 := i6.stp hs;have l5 := l5.stp hs;have g8 := g8.stp hs rfl;have t5 := t5.stp hs;refine EL_nil (thn_n (E_seq (L_load (x := .tmp 1) Tryd.isAgg76 Tryd.sizeOf76 i6 fun tF uH gH => ?_)));obtain ⟨eF, iE, h⟩ := bsome h;have xH := PT_idx l5 iE;refine L_load (x := .tmp 24) Tryd.isAgg28 Tryd.sizeOf28 xH fun uF yH jH => ?_;refine L_loadO0 (x := .tmp 5) Tryd.isAgg45 Tryd.sizeOf45 b177 fun vF zH kH => ?_;obtain ⟨n8, lH, h⟩ := bsome h;refine E_drawL (g := tH) (n := 8) [(6, (fun v g w => RV g.m w n8 v)), (7, (fun v g w => OB 2006 g w 28 (⟨0, 0⟩ : Span) v))] [0, 1, 2, 3, 4, 5, 6, 7] rfl mixed (by kernel_rfl) (⟨fun _ => up_rv, fun _ => up_ob, trivial⟩) ?_;refine L_ld (c := tF) rfl rfl .plain (fun _ _ h => h.ch) gH lD ?_;refine L_p v8 rfl rfl (P_move mB) ?_;refine L_p (.int .i64 (o0)) rfl rfl (P_move rfl) ?_;refine L_p (ePtr v8 o0 2) rfl rfl (P_indexAddr (α := Span) Tryd.underlying79 Tryd.sizeOf28 rfl l5 rfl iE) ?_;refine L_ld (c := uF) rfl rfl .plain (fun _ _ h => h.ch) jH rfl ?_;refine L_ld (c := vF) rfl rfl .plain (fun _ _ h => ⟨h.ch, fun b hb _ => h.below.block b hb⟩) kH rfl ?_;refine L_do (φ := fun v g w => RV g.m w n8 v) rfl rfl .plain (fun g w hd => D_call (g := g) (vs := [tF, uF, vF]) en44 (.cons rfl (.cons rfl (.cons rfl .nil))) (wk44 (uH.ext hd.1) (yH.ext hd.1) (zH.ext hd.1) lH) fun g' w' v hs hr => ⟨g', hs, hr⟩) (fun xF hv => ?_);obtain ⟨_, _, _, rq183⟩ := hv;refine L_do (φ := fun v g w => OB 2006 g w 28 (⟨0, 0⟩ : Span) v) rfl rfl .plain (fun g w hd => D_allocX (g := g) 2006 (⟨0, 0⟩ : Span) Tryd.zeroValue28 (fun m w => ⟨_, (rep_two rep_int rep_int), rfl⟩) fun g' w' v hs b => ⟨g', hs, b⟩) (fun oB hv => ?_);clear hv;refine L_nil fun aI vJ hall => ?_;have hs := hall.1;have hfr := hfr.ext hs;have i6 := i6.ext hs;have l5 := l5.ext hs;have g8 := g8.ext hs;have t5 := t5.ext hs;have bI := (word_all (A := fun g w => RV g.m w n8 xF) 6 rfl hall);have b205 := (word_all (A := fun g w => OB 2006 g w 28 (⟨0, 0⟩ : Span) oB) 7 rfl hall);clear hs hall;refine EL_do .plain rfl (D_storeOc (g := aI) (v := xF) Tryd.sizeOf28 rfl b205 rfl bI fun aE xJ hs b206 cb => ?_);clear cb;have hfr := hfr.stp hs;have i6 := i6.stp hs;have l5 := l5.stp hs;have g8 := g8.stp hs rfl;have t5 := t5.stp hs;refine EL_nil (thn_n (E_joinC h (fun (s : (List Span)) e w => ∃ (g : Gh) (v2 : Value), Fr gI wI g w ∧ e 1 = p1 ∧ PT g.m w (x0 : ShadeBook) p1 ∧ e 2 = v2 ∧ RV g.m w (s : List Span) v2 ∧ OS 3012 g w 28 (s : List Span) v2 ∧ e 6 = oB ∧ OB 2006 g w 28 (n8 : Span) oB ∧ e 14 = lB ∧ RV g.m w ((x0).entries : List ShadeEntry) lB ∧ e 15 = .int .i64 ((((x0).entries).length : Int)) ∧ e 16 = .int .i64 (o0)) (fun X212 rF mH h => ?_) ?_))
    ·refine E_seq (E_region (EL_p (fPtr oB 0) (P_fieldAddr at_28_0 rfl (OB.ptr b206)) rfl ?_))
     refine EL_do .plain rfl (D_loadF (g := aE) part_Span_0.1 Tryd.isAgg3 Tryd.sizeOf3 rfl b206 fun zJ dI => ?_);obtain rfl := RV_int.1 dI;refine EL_p (fPtr oB 1) (P_fieldAddr at_28_1 rfl (OB.ptr b206)) rfl ?_;refine EL_do .plain rfl (D_loadF (g := aE) part_Span_1.1 Tryd.isAgg3 Tryd.sizeOf3 rfl b206 fun aK iI => ?_);obtain rfl := RV_int.1 iI;refine EL_in (.bool ((decide ((n8).Low > (n8).High)))) rfl rfl rfl rfl ?_;refine EL_nil (thn_n ?_);rcases csome h with ⟨vC, h⟩ | ⟨vC, h⟩
     ·refine E_ct vC rfl ?_
      refine E_seq (E_region (EL_mv mB rfl ?_));refine EL_mw (.int .i64 (o0)) rfl rfl ?_;refine EL_at v8 rfl rfl ?_;refine EL_at (.int .i64 (o0)) rfl rfl ?_;refine EL_nil (thn_n (E_ret (thn_r ?_)));refine blk_r ?_;refine thn_r ?_;refine thn_r ?_;refine blk_r ?_;refine thn_r ?_;obtain rfl := sinj h;exact end2 rfl rfl (show _ = v8 from rfl) (show _ = .int .i64 (o0) from rfl) ⟨_, hfr, _, _, rfl, l5, rfl⟩
     ·refine E_cf vC rfl ?_
      exact E_skip (thn_n (mH (l8) _ _ ⟨aE, (v8), hfr, lD, i6, mB, l5, g8, rfl, b206, zB, t5, cC, aB⟩ h))
    ·rintro cD mJ bK ⟨yF, jJ, hfr, aG, n9, bG, vB, yB, cG, eG, lE, l9, mE, oE⟩ h
     refine E_region (EL_mv bG rfl ?_);refine EL_do .plain rfl (D_loadO (g := yF) Tryd.isAgg28 Tryd.sizeOf28 cG eG fun jI kI => ?_);refine EL_do .plain rfl (D_buildSlice (g := yF) 3037 (xs := ([n8] : List Span)) (vs := [jI]) Tryd.underlying79 Tryd.sizeOf28 Tryd.zeroValue28 rfl rfl (.cons rfl .nil) (RVs.cons kI RVs.nil) rfl rfl fun lI cK dK hs o220 mI hxt hfl => ?_);have hfr := hfr.stp hs;have n9 := n9.stp hs;have vB := vB.stp hs;have yB := yB.stp hs rfl;have l9 := l9.stp hs;obtain ⟨oD, nH, h⟩ := bsome h;refine EL_do .plain rfl (D_append (g := lI) (i := 3012) Tryd.underlying79 info_28 rfl rfl yB vB rfl mI nH fun nI lK gG hs o221 pI _ => ?_);have hfr := hfr.stp hs;have n9 := n9.stp hs;have l9 := l9.stp hs;refine EL_at gG rfl rfl ?_;exact EL_nil (blk_n (thn_n (cH (oD) _ _ ⟨nI, (gG), hfr, aG, n9, rfl, pI, o221, lE, l9, mE, oE⟩ h)))
   ·rintro nB nJ mK ⟨qI, iG, hfr, jG, kG, lG, mG, sG, rE, uE, vE, xE⟩ h
    refine E_region (EL_in (.int .i64 ((w64 (o0 + (1 : Int))))) xE rfl rfl rfl ?_);refine EL_mw (.int .i64 ((w64 (o0 + (1 : Int))))) rfl rfl ?_;exact EL_nil (thn_n (aH (nB, (w64 (o0 + (1 : Int)))) _ _ ⟨qI, (iG), hfr, jG, kG, lG, mG, sG, rE, uE, vE, rfl⟩ h))
  ·refine E_cf uC rfl ?_
   refine E_exit ?_;refine thn_e ?_;refine thn_e ?_;refine blk_hit ?_;exact thn_n (zG (l8) _ _ ⟨yD, (v8), hfr, mB, l5, g8⟩ h)
 ·rintro bD oJ nK ⟨oK, nD, hfr, xG, yG, kJ⟩ h
  refine E_seq (E_region (EL_mv xG rfl ?_));refine EL_at nD rfl rfl ?_;refine EL_at (.int .i64 (-1)) rfl rfl ?_;refine EL_nil (thn_n (E_ret ?_));obtain rfl := sinj h;exact end2 rfl rfl (show _ = nD from rfl) (show _ = .int .i64 (-1) from rfl) ⟨_, hfr, _, _, rfl, yG, rfl⟩
def f24 (x0 : Int) (x1 : Int) (x2 : List Int) : Option (Bool) :=
 (f38 x2 ((fun a0 => f48 a0 x0 x1))).bind fun y4 =>
 some ((!y4))
theorem en24 : Enters Tryd.prog 24 := enters_of Tryd.func24 (by kernel_rfl) rfl
theorem wk24 {gI : Gh} {wI : World} {x0 : Int} {x1 : Int} {x2 : List Int} {up2 : Value} (rp2 : RV gI.m wI x2 up2) {r : Bool} (h : f24 x0 x1 x2 = some r) : Fn Tryd.prog 24 #[.int .i64 (x0), .int .i64 (x1), up2] gI wI (fun _ _ v => v = .bool (r)) := by
 unfold f24 at h;refine fn_of_E Tryd.func24 rfl (Nat.le_of_ble_eq_true rfl) fun g0 hm hfr => ?_;have rp2 : RV g0.m wI x2 up2 := hm ▸ rp2;show E _ 11 none _ _ _ _ _;refine E_seq (E_region (EL_do .plain rfl (D_box (g := g0) rfl (RV_int.2 rfl) fun g1 w1 p1 hs q1 => ?_)));have hfr := hfr.ext hs;have rp2 := rp2.ext hs;refine EL_do .plain rfl (D_box (g := g1) rfl (RV_int.2 rfl) fun g2 w2 p2 hs q2 => ?_);have hfr := hfr.ext hs;have rp2 := rp2.ext hs;have q1 := q1.ext hs;refine EL_at (.bool false) rfl rfl ?_;refine EL_nil (thn_n (E_seq (E_region (EL_mw up2 rfl rfl ?_))));refine EL_p ((.func (.func 48) #[] #[p1, p2])) (P_makeFunc (capf_0_2 (show ev _ _ = p1 from rfl) (show ev _ _ = p2 from rfl))) rfl ?_;obtain ⟨y4, o0, h⟩ := bsome h;refine EL_do .plain rfl (D_call (g := g2) (vs := [up2, (.func (.func 48) #[] #[p1, p2])]) en38 (.cons rfl (.cons rfl .nil)) (wk38 rp2 ⟨48, #[], #[p1, p2], rfl, en48, fun g' w' hch a0 b0 r hu0 hr => by obtain rfl := RV_int.1 hu0; exact Fn.mono (wk48  (q1.ch hch) (q2.ch hch) hr) fun _ _ _ h => RV_bool.2 h⟩ o0) fun g3 w3_ v3 hs hr => ?_);have hfr := hfr.ext hs;subst hr;refine EL_p (.bool (!y4)) (P_not rfl) rfl ?_;refine EL_at (.bool (!y4)) rfl rfl ?_;refine EL_nil (thn_n (E_ret ?_));obtain rfl := sinj h;exact end1 rfl rfl (show _ = .bool (!y4) from rfl) ⟨_, hfr, rfl⟩
def f27 (x0 : ShadeStore) (x1 : U64) : Option (Bool) :=
 Option.bind (α := (List ShadeLot)) (
  (f25 x1).bind fun lB =>
  lp (σ := (List ShadeLot) × Int) (fun kG (cC, o0) =>
   bif (decide (o0 < ((lB).length : Int))) then
    Option.bind (α := (List ShadeLot)) (
     (idx lB o0).bind fun vB =>
     (idx ((x0).lots) vB).bind fun g8 =>
     (apnd 32 cC (([g8] : List ShadeLot))).bind fun y137 =>
     some (y137)
     ) fun aB =>
    kG (aB, (w64 (o0 + (1 : Int))))
   else
    some (cC)
   ) big (([] : List ShadeLot), (0 : Int))
  ) fun n8 =>
 (f45 n8 ((fun a0 => f50 a0 n8))).bind fun l8 =>
 Option.bind (α := Bool) (
  bif (!l8) then
   (f51 n8).bind fun l9 =>
   some ((decide ((l9).High ≤ (x0).tolerance)))
  else
   some (false)
  ) fun mB =>
 some (mB)
theorem en27 : Enters Tryd.prog 27 := enters_of Tryd.func27 (by kernel_rfl) rfl
theorem wk27 {gI : Gh} {wI : World} {x0 : ShadeStore} {x1 : U64} {up0 : Value} (rp0 : RV gI.m wI x0 up0) (hT : TabF 1 gI.m wI) {r : Bool} (h : f27 x0 x1 = some r) : Fn Tryd.prog 27 #[up0, .int .u64 ((x1).n)] gI wI (fun _ _ v => v = .bool (r)) := by
 unfold f27 at h;refine fn_of_E Tryd.func27 rfl (Nat.le_of_ble_eq_true rfl) fun g0 hm hfr => ?_;have hT : TabF 1 g0.m wI := hm ▸ hT;have rp0 : RV g0.m wI x0 up0 := hm ▸ rp0;show E _ 38 none _ _ _ _ _;refine E_seq (E_region (EL_do .plain rfl (D_box (g := g0) rfl rp0 fun g1 w1 p1 hs q1 => ?_)));have hfr := hfr.ext hs;have hT := hT.ext hs;refine EL_at (.bool false) rfl rfl ?_;refine EL_nil (thn_n (E_seq (E_region (EL_do .plain rfl (D_allocOc (g := g1) 2005 ([] : List ShadeLot) Tryd.zeroValue25 (fun m w => ⟨_, rep_nil, rfl⟩) fun g2 w2 p2 hs b2 cb => ?_)))));have hfr := hfr.stp hs;have hT := hT.stp hs;have q1 := q1.stp hs;have nD : OSF 2005 60500 0 g2 w2 31 25 ([] : List ShadeLot) p2 := cb.osf (by rfl);clear cb;refine EL_nil (thn_n ?_);obtain ⟨n8, hx, h⟩ := bsome h;refine E_join (fun e w => ∃ (g : Gh) , Fr gI wI g w ∧ e 2 = p1 ∧ PT g.m w (x0 : ShadeStore) p1 ∧ e 5 = p2 ∧ OB 2005 g w 25 (n8 : List ShadeLot) p2 ∧ OSF 2005 60500 0 g w 31 25 (n8) p2 ∧ TabF 1 g.m w) (fun Q' hQ => ?_) (fun bI kI hR => ?_)
 ·replace h := hx
  clear hx;refine E_seq (E_region (EL_mw (.int .u64 ((x1).n)) rfl rfl ?_));obtain ⟨lB, mG, h⟩ := bsome h;refine EL_do .plain rfl (D_call (g := g2) (vs := [.int .u64 ((x1).n)]) en25 (.cons rfl .nil) (wk25 (hT := hT)  mG) fun aI lI vC hs hr => ?_);have hfr := hfr.ext hs;have hT := hT.ext hs;have q1 := q1.ext hs;have nD := nD.ext hs;have b2 := b2.ext hs;have lG := hr;refine EL_p (.int .i64 ((lB).length : Int)) (P_len Tryd.underlying34 rfl lG) rfl ?_;refine EL_mw (.int .i64 (0)) rfl rfl ?_;refine EL_nil (thn_n (E_block ?_));refine E_lp h (fun (s : (List ShadeLot) × Int) e w => ∃ (g : Gh) , Fr gI wI g w ∧ e 2 = p1 ∧ PT g.m w (x0 : ShadeStore) p1 ∧ e 5 = p2 ∧ OB 2005 g w 25 (s.1 : List ShadeLot) p2 ∧ OSF 2005 60500 0 g w 31 25 (s.1) p2 ∧ e 10 = vC ∧ RV g.m w (lB : List Int) vC ∧ e 11 = .int .i64 (((lB).length : Int)) ∧ e 12 = .int .i64 (s.2) ∧ TabF 1 g.m w) ⟨aI, hfr, rfl, q1, rfl, b2, nD, rfl, lG, rfl, rfl, hT⟩ (fun X74 kG sG => ?_);rintro ⟨cC, o0⟩ mI qJ ⟨rE, hfr, uC, t5, oB, n9, u5_0_75, bD, l5, cD, yB, hT⟩ h;refine E_seq (E_region (EL_in (.bool ((decide (o0 < ((lB).length : Int))))) yB cD rfl rfl ?_));refine EL_nil (thn_n (E_seq ?_));rcases csome h with ⟨oD, h⟩ | ⟨oD, h⟩
  ·refine E_ct oD rfl ?_
   refine E_skip (thn_n ?_);obtain ⟨aB, hx, h⟩ := bsome h;refine E_join (fun e w => ∃ (g : Gh) , Fr gI wI g w ∧ e 2 = p1 ∧ PT g.m w (x0 : ShadeStore) p1 ∧ e 5 = p2 ∧ OB 2005 g w 25 (aB : List ShadeLot) p2 ∧ OSF 2005 60500 0 g w 31 25 (aB) p2 ∧ e 10 = vC ∧ RV g.m w (lB : List Int) vC ∧ e 11 = .int .i64 (((lB).length : Int)) ∧ e 12 = .int .i64 (o0) ∧ TabF 1 g.m w) (fun Q' hQ => ?_) (fun dI nI hR => ?_)
   ·replace h := hx
    clear hx;refine E_block ?_;refine E_seq (E_region ?_);obtain ⟨vB, aE, h⟩ := bsome h;refine EL_p (ePtr vC o0 1) (P_indexAddr (α := Int) Tryd.underlying34 Tryd.sizeOf3 bD l5 yB aE) rfl ?_;have xG := PT_idx l5 aE;refine EL_do .plain rfl (D_load (g := rE) Tryd.isAgg3 Tryd.sizeOf3 rfl xG fun pI yG => ?_);obtain rfl := RV_int.1 yG;refine EL_at (.int .i64 (vB)) rfl rfl ?_;refine EL_nil (thn_n (L_loadOS (x := .tmp 5) Tryd.isAgg25 Tryd.sizeOf25 n9 u5_0_75 fun zG yD o111 yF => ?_));have aH := PT_field (part_ShadeStore_0).1 t5;refine L_load (x := .tmp 17) Tryd.isAgg25 Tryd.sizeOf25 aH fun uE vE aG => ?_;obtain ⟨g8, bE, h⟩ := bsome h;have cH := PT_idx vE bE;refine L_load (x := .tmp 20) Tryd.isAgg31 Tryd.sizeOf31 cH fun xE gH bG => ?_;refine E_drawL (g := rE) (n := 7) [(6, (fun v g w => RV g.m w ([g8] : List ShadeLot) v ∧ OS 3022 g w 31 ([g8] : List ShadeLot) v ∧ FullV v))] [0, 1, 2, 3, 4, 5, 6] rfl mixed (by kernel_rfl) (⟨fun _ => up_and up_rv (up_and up_os (up_eq _)), trivial⟩) ?_;refine L_ld (c := zG) rfl rfl .plain (fun _ _ h => ⟨h.ch, fun b hb _ => h.below.block b hb⟩) yF oB ?_;refine L_p (fPtr p1 0) rfl rfl (P_fieldAddr at_48_0 uC (PT.ptr t5)) ?_;refine L_ld (c := uE) rfl rfl .plain (fun _ _ h => h.ch) aG rfl ?_;refine L_p (.int .i64 (vB)) rfl rfl (P_move rfl) ?_;refine L_p (ePtr uE vB 4) rfl rfl (P_indexAddr (α := ShadeLot) Tryd.underlying25 Tryd.sizeOf31 rfl vE rfl bE) ?_;refine L_ld (c := xE) rfl rfl .plain (fun _ _ h => h.ch) bG rfl ?_;refine L_do (φ := fun v g w => RV g.m w ([g8] : List ShadeLot) v ∧ OS 3022 g w 31 ([g8] : List ShadeLot) v ∧ FullV v) rfl rfl .plain (fun g w hd => D_buildSlice (g := g) 3022 (xs := ([g8] : List ShadeLot)) (vs := [xE]) Tryd.underlying25 Tryd.sizeOf31 Tryd.zeroValue31 rfl rfl (.cons rfl .nil) (RVs.cons (gH.ext hd.1) RVs.nil) rfl rfl fun g' w' v hs o r hxt hfl => ⟨g', hxt, r, o, hfl⟩) (fun nB hv => ?_);clear hv;refine L_nil fun jH qI hall => ?_;have hs := hall.1;have hfr := hfr.ext hs;have t5 := t5.ext hs;have n9 := n9.ext hs;have l5 := l5.ext hs;have hT := hT.ext hs;have yD := yD.ext hs;have o111 := o111.ext hs;have kH := (word_all (A := fun g w => RV g.m w ([g8] : List ShadeLot) nB ∧ OS 3022 g w 31 ([g8] : List ShadeLot) nB ∧ FullV nB) 6 rfl hall).1;have o135 := (word_all (A := fun g w => RV g.m w ([g8] : List ShadeLot) nB ∧ OS 3022 g w 31 ([g8] : List ShadeLot) nB ∧ FullV nB) 6 rfl hall).2.1;clear hs hall;obtain ⟨y137, cG, h⟩ := bsome h;refine EL_do .plain rfl (D_append (g := jH) (i := 60500) Tryd.underlying25 info_31 rfl rfl o111 yD rfl kH cG fun lH sI mH hs o136 yE _ => ?_);have hfr := hfr.stp hs;have t5 := t5.stp hs;have n9 := n9.stp hs rfl;have l5 := l5.stp hs;have hT := hT.stp hs;refine EL_do .plain rfl (D_storeOc (g := lH) (v := mH) Tryd.sizeOf25 oB n9 rfl yE fun zE nH hs b138 cb => ?_);have cF : OSF 2005 60500 0 zE nH 31 25 (y137 : List ShadeLot) p2 := cb.osfr (rv_cells1 yE) (o136.stp hs rfl);clear cb;have hfr := hfr.stp hs;have t5 := t5.stp hs;have l5 := l5.stp hs;have hT := hT.stp hs;refine EL_nil (blk_n ?_);obtain rfl := sinj h;exact hQ _ _ ⟨zE, hfr, uC, t5, oB, b138, cF, bD, l5, cD, yB, hT⟩
   ·clear hx
    obtain ⟨oH, hfr, dF, eF, rF, sF, u5_0_139, iE, lE, mE, oE, hT⟩ := hR;refine E_region (EL_in (.int .i64 ((w64 (o0 + (1 : Int))))) oE rfl rfl rfl ?_);refine EL_mw (.int .i64 ((w64 (o0 + (1 : Int))))) rfl rfl ?_;exact EL_nil (thn_n (sG (aB, (w64 (o0 + (1 : Int)))) _ _ ⟨oH, hfr, dF, eF, rF, sF, u5_0_139, iE, lE, mE, rfl, hT⟩ h))
  ·refine E_cf oD rfl ?_
   refine E_exit ?_;refine thn_e ?_;refine thn_e ?_;refine blk_hit ?_;obtain rfl := sinj h;exact hQ _ _ ⟨rE, hfr, uC, t5, oB, n9, u5_0_75, hT⟩
 ·clear hx
  obtain ⟨pH, hfr, tF, v8, zB, lD, u5_0_140, hT⟩ := hR;refine E_seq (E_region (EL_do .plain rfl (D_loadOS (g := pH) Tryd.isAgg25 Tryd.sizeOf25 zB lD u5_0_140 fun qH zD o141 => ?_)));obtain ⟨gp142, hs, rp142⟩ := OB.pub lD;have hfr := hfr.stp hs;have v8 := v8.stp hs;have hT := hT.stp hs;have zD := zD.stp hs;refine EL_p ((.func (.func 50) #[] #[p2])) (P_makeFunc (capf_0_1 (show ev _ _ = p2 from zB))) rfl ?_;obtain ⟨l8, eG, h⟩ := bsome h;refine EL_do .plain rfl (D_call (g := gp142) (vs := [qH, (.func (.func 50) #[] #[p2])]) en45 (.cons rfl (.cons rfl .nil)) (wk45 zD ⟨50, #[], #[p2], rfl, en50, fun g' w' hch a0 b0 r hu0 hr => by exact Fn.mono (wk50 hu0 (rp142.ch hch) hr) fun _ _ _ h => RV_bool.2 h⟩ eG) fun uF iI jJ hs hr => ?_);have hfr := hfr.ext hs;have v8 := v8.ext hs;have rp142 := rp142.ext hs;have hT := hT.ext hs;subst hr;refine EL_p (.bool (!l8)) (P_not rfl) rfl ?_;refine EL_at (.bool (!l8)) rfl rfl ?_;refine EL_nil (thn_n ?_);obtain ⟨mB, hx, h⟩ := bsome h;refine E_join (fun e w => ∃ (g : Gh) , Fr gI wI g w ∧ e 4 = .bool (mB) ∧ TabF 1 g.m w) (fun Q' hQ => ?_) (fun jI kJ hR => ?_)
  ·replace h := hx
   clear hx;rcases csome h with ⟨i6, h⟩ | ⟨i6, h⟩
   ·refine L_load (x := .tmp 5) Tryd.isAgg25 Tryd.sizeOf25 rp142 fun vF sH gG => ?_
    obtain ⟨l9, iG, h⟩ := bsome h;have tH := PT_field (part_ShadeStore_1).1 v8;refine L_load (x := .tmp 34) Tryd.isAgg3 Tryd.sizeOf3 tH fun lJ uH jG => ?_;obtain rfl := RV_int.1 uH;refine E_drawL (g := uF) (n := 10) [(3, (fun v g w => RV g.m w l9 v))] [0, 1, 2, 3, 4, 5, 6, 7, 8, 9] rfl mixed (by kernel_rfl) (⟨fun _ => up_rv, trivial⟩) ?_;refine L_p (.bool (!l8)) rfl rfl (P_move rfl) ?_;refine L_p (.bool (!l8)) rfl rfl (P_move rfl) ?_;refine L_ld (c := vF) rfl rfl (.yes2 rfl rfl i6) (fun _ _ h => h.ch) gG zB ?_;refine L_do (φ := fun v g w => RV g.m w l9 v) rfl rfl (.yes2 rfl rfl i6) (fun g w hd => D_call (g := g) (vs := [vF]) en51 (.cons rfl .nil) (wk51 (sH.ext hd.1) iG) fun g' w' v hs hr => ⟨g', hs, hr⟩) (fun xH hv => ?_);obtain ⟨_, _, _, rq192⟩ := hv;have rq194 := RV_field (part_Span_1).1 rq192;refine L_y (.int .i64 ((l9).High)) rfl rfl rfl rfl i6 ((RV_int.1 rq194) ▸ P_field (part_Span_1).1 rfl of_28_1 Tryd.isAgg3 Tryd.sizeOf3 rfl rq192) ?_;refine L_y (fPtr p1 1) rfl rfl rfl rfl i6 (P_fieldAddr at_48_1 tF (PT.ptr v8)) ?_;refine L_ld (c := .int .i64 ((x0).tolerance)) rfl rfl (.yes2 rfl rfl i6) (fun _ _ h => h.ch) jG rfl ?_;refine L_y (.bool ((decide ((l9).High ≤ (x0).tolerance)))) rfl rfl rfl rfl i6 (P_int rfl rfl rfl) ?_;refine L_p (.bool ((decide ((l9).High ≤ (x0).tolerance)))) rfl rfl (P_pick (b := (!l8)) rfl (pick_t i6 rfl)) ?_;refine L_p (.bool ((decide ((l9).High ≤ (x0).tolerance)))) rfl rfl (P_assign rfl) ?_;refine L_nil fun yH mJ hall => ?_;have hs := hall.1;have hfr := hfr.ext hs;have hT := hT.ext hs;have nJ := (word_all (A := fun g w => RV g.m w l9 xH) 3 rfl hall);clear hs hall;refine EL_nil ?_;obtain rfl := sinj h;exact hQ _ _ ⟨yH, hfr, rfl, hT⟩
   ·refine E_drawL (g := uF) (n := 10) [] [0, 1, 2, 3, 4, 5, 6, 7, 8, 9] rfl mixed (by kernel_rfl) trivial ?_
    refine L_p (.bool (!l8)) rfl rfl (P_move rfl) ?_;refine L_p (.bool (!l8)) rfl rfl (P_move rfl) ?_;iterate 6 refine L_s rfl rfl rfl i6 rfl ?_
    refine L_p (.bool false) rfl rfl (P_pick (b := (!l8)) rfl (pick_f i6 rfl)) ?_;refine L_p (.bool false) rfl rfl (P_assign rfl) ?_;refine L_nl fun zH oJ hs => ?_;have hfr := hfr.ext hs;have hT := hT.ext hs;clear hs;refine EL_nil ?_;obtain rfl := sinj h;exact hQ _ _ ⟨zH, hfr, rfl, hT⟩
  ·clear hx
   obtain ⟨pJ, hfr, xF, hT⟩ := hR;refine E_ret ?_;obtain rfl := sinj h;exact end1 rfl rfl (show _ = .bool (mB) from xF) ⟨_, hfr, rfl⟩
def f37 (x0 : List Int) : Option (Bool) :=
 (f17 ((0 : Int)) ((1000000000 : Int)) x0).bind fun y2 =>
 some (y2)
theorem en37 : Enters Tryd.prog 37 := enters_of Tryd.func37 (by kernel_rfl) rfl
theorem wk37 {gI : Gh} {wI : World} {x0 : List Int} {up0 : Value} (rp0 : RV gI.m wI x0 up0) {r : Bool} (h : f37 x0 = some r) : Fn Tryd.prog 37 #[up0] gI wI (fun _ _ v => v = .bool (r)) := by
 unfold f37 at h;refine fn_of_E Tryd.func37 rfl (Nat.le_of_ble_eq_true rfl) fun g0 hm hfr => ?_;have rp0 : RV g0.m wI x0 up0 := hm ▸ rp0;show E _ 5 none _ _ _ _ _;refine E_seq (E_region (EL_at (.bool false) rfl rfl ?_));refine EL_nil (thn_n (E_seq (E_region (EL_mw up0 rfl rfl ?_))));obtain ⟨y2, hy2, h⟩ := bsome h;refine EL_do .plain rfl (D_call (g := g0) (vs := [.int .i64 (0), .int .i64 (1000000000), up0]) en17 (.cons rfl (.cons rfl (.cons rfl .nil))) (wk17 rp0 hy2) fun g1 w1_ v1 hs hr => ?_);have hfr := hfr.ext hs;subst hr;refine EL_at (.bool (y2)) rfl rfl ?_;refine EL_nil (thn_n (E_ret ?_));obtain rfl := sinj h;exact end1 rfl rfl (show _ = .bool (y2) from rfl) ⟨_, hfr, rfl⟩
def f42 (x0 : ShadeEntry) : Option (Bool) :=
 Option.bind (α := Bool) (
  (f24 ((1 : Int)) ((3 : Int)) (([(x0).Kind] : List Int))).bind fun t5 =>
  bif (!t5) then
   some (true)
  else
   (f24 ((0 : Int)) ((12000000 : Int)) (([(x0).Grams] : List Int))).bind fun y23 =>
   some ((!y23))
  ) fun l5 =>
 some (l5)
theorem en42 : Enters Tryd.prog 42 := enters_of Tryd.func42 (by kernel_rfl) rfl
theorem wk42 {gI : Gh} {wI : World} {x0 : ShadeEntry} {up0 : Value} (rp0 : RV gI.m wI x0 up0) {r : Bool} (h : f42 x0 = some r) : Fn Tryd.prog 42 #[up0] gI wI (fun _ _ v => v = .bool (r)) := by
 unfold f42 at h;refine fn_of_E Tryd.func42 rfl (Nat.le_of_ble_eq_true rfl) fun g0 hm hfr => ?_;have rp0 : RV g0.m wI x0 up0 := hm ▸ rp0;show E _ 15 none _ _ _ _ _;refine E_seq (E_region (EL_do .plain rfl (D_box (g := g0) rfl rp0 fun g1 w1 p1 hs q1 => ?_)));have hfr := hfr.ext hs;refine EL_at (.bool false) rfl rfl ?_;refine EL_nil (thn_n ?_);obtain ⟨l5, hx, h⟩ := bsome h;refine E_join (fun e w => ∃ (g : Gh) , Fr gI wI g w ∧ e 2 = .bool (l5)) (fun Q' hQ => ?_) (fun cC bD hR => ?_)
 ·replace h := hx
  clear hx;refine E_region (EL_p (fPtr p1 0) (P_fieldAddr at_45_0 rfl (PT.ptr q1)) rfl ?_);have v8 := PT_field (part_ShadeEntry_0).1 q1;refine EL_do .plain rfl (D_load (g := g1) Tryd.isAgg43 Tryd.sizeOf43 rfl v8 fun cD l9 => ?_);obtain rfl := RV_int.1 l9;refine EL_do .plain rfl (D_buildSlice (g := g1) 3005 (xs := ([(x0).Kind] : List Int)) (vs := [.int .i64 ((x0).Kind)]) Tryd.underlying34 Tryd.sizeOf3 Tryd.zeroValue3 rfl rfl (.cons rfl .nil) (RVs.cons (RV_int.2 rfl) RVs.nil) rfl rfl fun n9 w15 aB hs o15 lB hxt hfl => ?_);have hfr := hfr.stp hs;have q1 := q1.stp hs;obtain ⟨t5, l8, h⟩ := bsome h;refine EL_do .plain rfl (D_call (g := n9) (vs := [.int .i64 (1), .int .i64 (3), aB]) en24 (.cons rfl (.cons rfl (.cons rfl .nil))) (wk24 lB l8) fun i6 uC lD hs hr => ?_);have hfr := hfr.ext hs;have q1 := q1.ext hs;subst hr;refine EL_p (.bool (!t5)) (P_not rfl) rfl ?_;refine EL_mw (.bool (!t5)) rfl rfl ?_;rcases csome h with ⟨o0, h⟩ | ⟨o0, h⟩
  ·refine EL_s rfl rfl o0 rfl rfl ?_
   iterate 4 refine EL_s rfl rfl o0 rfl rfl ?_
   refine EL_p (.bool true) (P_pick (b := (!t5)) rfl (pick_t o0 rfl)) rfl ?_;refine EL_at (.bool true) rfl rfl ?_;refine EL_nil ?_;obtain rfl := sinj h;exact hQ _ _ ⟨i6, hfr, rfl⟩
  ·refine EL_y (fPtr p1 1) (P_fieldAddr at_45_1 rfl (PT.ptr q1)) rfl rfl o0 rfl ?_
   have mB := PT_field (part_ShadeEntry_1).1 q1;refine EL_do (.yes2 rfl rfl o0) rfl (D_load (g := i6) Tryd.isAgg3 Tryd.sizeOf3 rfl mB fun nD nB => ?_);obtain rfl := RV_int.1 nB;refine EL_do (.yes2 rfl rfl o0) rfl (D_buildSlice (g := i6) 3011 (xs := ([(x0).Grams] : List Int)) (vs := [.int .i64 ((x0).Grams)]) Tryd.underlying34 Tryd.sizeOf3 Tryd.zeroValue3 rfl rfl (.cons rfl .nil) (RVs.cons (RV_int.2 rfl) RVs.nil) rfl rfl fun oB oD vB hs o21 yB hxt hfl => ?_);have hfr := hfr.stp hs;obtain ⟨y23, n8, h⟩ := bsome h;refine EL_do (.yes2 rfl rfl o0) rfl (D_call (g := oB) (vs := [.int .i64 (0), .int .i64 (12000000), vB]) en24 (.cons rfl (.cons rfl (.cons rfl .nil))) (wk24 yB n8) fun zB vC yD hs hr => ?_);have hfr := hfr.ext hs;subst hr;refine EL_y (.bool (!y23)) (P_not rfl) rfl rfl o0 rfl ?_;refine EL_p (.bool (!y23)) (P_pick (b := (!t5)) rfl (pick_f o0 rfl)) rfl ?_;refine EL_at (.bool (!y23)) rfl rfl ?_;refine EL_nil ?_;obtain rfl := sinj h;exact hQ _ _ ⟨zB, hfr, rfl⟩
 ·clear hx
  obtain ⟨zD, hfr, g8⟩ := hR;refine E_ret ?_;obtain rfl := sinj h;exact end1 rfl rfl (show _ = .bool (l5) from g8) ⟨_, hfr, rfl⟩
def f47 (x0 : ShadeLot) : Option (Bool) :=
 Option.bind (α := Bool) (
  (f24 ((0 : Int)) ((9 : Int)) (([(x0).Colour] : List Int))).bind fun l8 =>
  bif l8 then
   (f24 ((0 : Int)) ((1000 : Int)) (([((x0).Shade).Low, ((x0).Shade).High] : List Int))).bind fun y44 =>
   bif y44 then
    bif (decide (((x0).Shade).Low ≤ ((x0).Shade).High)) then
     (f24 ((1 : Int)) ((1000000 : Int)) (([(x0).Grams] : List Int))).bind fun n8 =>
     some (n8)
    else
     some (false)
   else
    some (false)
  else
   some (false)
  ) fun i6 =>
 some (i6)
theorem en47 : Enters Tryd.prog 47 := enters_of Tryd.func47 (by kernel_rfl) rfl
theorem wk47 {gI : Gh} {wI : World} {x0 : ShadeLot} {up0 : Value} (rp0 : RV gI.m wI x0 up0) {r : Bool} (h : f47 x0 = some r) : Fn Tryd.prog 47 #[up0] gI wI (fun _ _ v => v = .bool (r)) := by
 unfold f47 at h;refine fn_of_E Tryd.func47 rfl (Nat.le_of_ble_eq_true rfl) fun g0 hm hfr => ?_;have rp0 : RV g0.m wI x0 up0 := hm ▸ rp0;show E _ 32 none _ _ _ _ _;refine E_seq (E_region (EL_do .plain rfl (D_box (g := g0) rfl rp0 fun g1 w1 p1 hs q1 => ?_)));have hfr := hfr.ext hs;refine EL_at (.bool false) rfl rfl ?_;refine EL_nil (thn_n ?_);obtain ⟨i6, hx, h⟩ := bsome h;refine E_join (fun e w => ∃ (g : Gh) , Fr gI wI g w ∧ e 2 = .bool (i6)) (fun Q' hQ => ?_) (fun yE eF hR => ?_)
 ·replace h := hx
  clear hx;refine E_region (EL_p (fPtr p1 0) (P_fieldAddr at_31_0 rfl (PT.ptr q1)) rfl ?_);have yB := PT_field (part_ShadeLot_0).1 q1;refine EL_do .plain rfl (D_load (g := g1) Tryd.isAgg3 Tryd.sizeOf3 rfl yB fun rF zB => ?_);obtain rfl := RV_int.1 zB;refine EL_do .plain rfl (D_buildSlice (g := g1) 3005 (xs := ([(x0).Colour] : List Int)) (vs := [.int .i64 ((x0).Colour)]) Tryd.underlying34 Tryd.sizeOf3 Tryd.zeroValue3 rfl rfl (.cons rfl .nil) (RVs.cons (RV_int.2 rfl) RVs.nil) rfl rfl fun cC sF uC hs o32 vC hxt hfl => ?_);have hfr := hfr.stp hs;have q1 := q1.stp hs;obtain ⟨l8, nB, h⟩ := bsome h;refine EL_do .plain rfl (D_call (g := cC) (vs := [.int .i64 (0), .int .i64 (9), uC]) en24 (.cons rfl (.cons rfl (.cons rfl .nil))) (wk24 vC nB) fun v8 zE tF hs hr => ?_);have hfr := hfr.ext hs;have q1 := q1.ext hs;subst hr;refine EL_mw (.bool (l8)) rfl rfl ?_;rcases csome h with ⟨o0, h⟩ | ⟨o0, h⟩
  ·refine EL_y (fPtr p1 1) (P_fieldAddr at_31_1 rfl (PT.ptr q1)) rfl rfl o0 rfl ?_
   have n9 := PT_field (part_ShadeLot_1).1 q1;refine EL_y (fPtr (fPtr p1 1) 0) (P_fieldAddr at_28_0 rfl (PT.ptr n9)) rfl rfl o0 rfl ?_;have bD := PT_field (part_Span_0).1 n9;refine EL_do (.yes2 rfl rfl o0) rfl (D_load (g := v8) Tryd.isAgg3 Tryd.sizeOf3 rfl bD fun uF cD => ?_);obtain rfl := RV_int.1 cD;refine EL_y (fPtr p1 1) (P_fieldAddr at_31_1 rfl (PT.ptr q1)) rfl rfl o0 rfl ?_;have aB := PT_field (part_ShadeLot_1).1 q1;refine EL_y (fPtr (fPtr p1 1) 1) (P_fieldAddr at_28_1 rfl (PT.ptr aB)) rfl rfl o0 rfl ?_;have lD := PT_field (part_Span_1).1 aB;refine EL_do (.yes2 rfl rfl o0) rfl (D_load (g := v8) Tryd.isAgg3 Tryd.sizeOf3 rfl lD fun vF nD => ?_);obtain rfl := RV_int.1 nD;refine EL_do (.yes2 rfl rfl o0) rfl (D_buildSlice (g := v8) 3014 (xs := ([((x0).Shade).Low, ((x0).Shade).High] : List Int)) (vs := [.int .i64 (((x0).Shade).Low), .int .i64 (((x0).Shade).High)]) Tryd.underlying34 Tryd.sizeOf3 Tryd.zeroValue3 rfl rfl (.cons rfl (.cons rfl .nil)) (RVs.cons (RV_int.2 rfl) (RVs.cons (RV_int.2 rfl) RVs.nil)) rfl rfl fun oD xF yD hs o42 zD hxt hfl => ?_);have hfr := hfr.stp hs;have q1 := q1.stp hs;obtain ⟨y44, oB, h⟩ := bsome h;refine EL_do (.yes2 rfl rfl o0) rfl (D_call (g := oD) (vs := [.int .i64 (0), .int .i64 (1000), yD]) en24 (.cons rfl (.cons rfl (.cons rfl .nil))) (wk24 zD oB) fun g8 cF yF hs hr => ?_);have hfr := hfr.ext hs;have q1 := q1.ext hs;subst hr;refine EL_p (.bool (y44)) (P_pick (b := l8) rfl (pick_t o0 rfl)) rfl ?_;refine EL_mw (.bool (y44)) rfl rfl ?_;rcases csome h with ⟨l5, h⟩ | ⟨l5, h⟩
   ·refine EL_y (fPtr p1 1) (P_fieldAddr at_31_1 rfl (PT.ptr q1)) rfl rfl l5 rfl ?_
    have lB := PT_field (part_ShadeLot_1).1 q1;refine EL_y (fPtr (fPtr p1 1) 0) (P_fieldAddr at_28_0 rfl (PT.ptr lB)) rfl rfl l5 rfl ?_;have aE := PT_field (part_Span_0).1 lB;refine EL_do (.yes2 rfl rfl l5) rfl (D_load (g := g8) Tryd.isAgg3 Tryd.sizeOf3 rfl aE fun aG bE => ?_);obtain rfl := RV_int.1 bE;refine EL_y (fPtr p1 1) (P_fieldAddr at_31_1 rfl (PT.ptr q1)) rfl rfl l5 rfl ?_;have mB := PT_field (part_ShadeLot_1).1 q1;refine EL_y (fPtr (fPtr p1 1) 1) (P_fieldAddr at_28_1 rfl (PT.ptr mB)) rfl rfl l5 rfl ?_;have iE := PT_field (part_Span_1).1 mB;refine EL_do (.yes2 rfl rfl l5) rfl (D_load (g := g8) Tryd.isAgg3 Tryd.sizeOf3 rfl iE fun bG lE => ?_);obtain rfl := RV_int.1 lE;refine EL_y (.bool ((decide (((x0).Shade).Low ≤ ((x0).Shade).High)))) (P_int rfl rfl rfl) rfl rfl l5 rfl ?_;refine EL_p (.bool ((decide (((x0).Shade).Low ≤ ((x0).Shade).High)))) (P_pick (b := y44) rfl (pick_t l5 rfl)) rfl ?_;refine EL_mw (.bool ((decide (((x0).Shade).Low ≤ ((x0).Shade).High)))) rfl rfl ?_;rcases csome h with ⟨t5, h⟩ | ⟨t5, h⟩
    ·refine EL_y (fPtr p1 3) (P_fieldAddr at_31_2 rfl (PT.ptr q1)) rfl rfl t5 rfl ?_
     have mE := PT_field (part_ShadeLot_2).1 q1;refine EL_do (.yes2 rfl rfl t5) rfl (D_load (g := g8) Tryd.isAgg3 Tryd.sizeOf3 rfl mE fun cG oE => ?_);obtain rfl := RV_int.1 oE;refine EL_do (.yes2 rfl rfl t5) rfl (D_buildSlice (g := g8) 3029 (xs := ([(x0).Grams] : List Int)) (vs := [.int .i64 ((x0).Grams)]) Tryd.underlying34 Tryd.sizeOf3 Tryd.zeroValue3 rfl rfl (.cons rfl .nil) (RVs.cons (RV_int.2 rfl) RVs.nil) rfl rfl fun rE eG uE hs o55 vE hxt hfl => ?_);have hfr := hfr.stp hs;obtain ⟨n8, vB, h⟩ := bsome h;refine EL_do (.yes2 rfl rfl t5) rfl (D_call (g := rE) (vs := [.int .i64 (1), .int .i64 (1000000), uE]) en24 (.cons rfl (.cons rfl (.cons rfl .nil))) (wk24 vE vB) fun xE dF gG hs hr => ?_);have hfr := hfr.ext hs;subst hr;refine EL_p (.bool (n8)) (P_pick (b := (decide (((x0).Shade).Low ≤ ((x0).Shade).High))) rfl (pick_t t5 rfl)) rfl ?_;refine EL_at (.bool (n8)) rfl rfl ?_;refine EL_nil ?_;obtain rfl := sinj h;exact hQ _ _ ⟨xE, hfr, rfl⟩
    ·refine EL_s rfl rfl t5 rfl rfl ?_
     iterate 3 refine EL_s rfl rfl t5 rfl rfl ?_
     refine EL_p (.bool false) (P_pick (b := (decide (((x0).Shade).Low ≤ ((x0).Shade).High))) rfl (pick_f t5 rfl)) rfl ?_;refine EL_at (.bool false) rfl rfl ?_;refine EL_nil ?_;obtain rfl := sinj h;exact hQ _ _ ⟨g8, hfr, rfl⟩
   ·refine EL_s rfl rfl l5 rfl rfl ?_
    iterate 6 refine EL_s rfl rfl l5 rfl rfl ?_
    refine EL_p (.bool false) (P_pick (b := y44) rfl (pick_f l5 rfl)) rfl ?_;refine EL_dead 6 rfl ?_;refine EL_at (.bool false) rfl rfl ?_;refine EL_nil ?_;obtain rfl := sinj h;exact hQ _ _ ⟨g8, hfr, rfl⟩
  ·refine EL_s rfl rfl o0 rfl rfl ?_
   iterate 7 refine EL_s rfl rfl o0 rfl rfl ?_
   refine EL_p (.bool false) (P_pick (b := l8) rfl (pick_f o0 rfl)) rfl ?_;refine EL_dead 15 rfl ?_;refine EL_at (.bool false) rfl rfl ?_;refine EL_nil ?_;obtain rfl := sinj h;exact hQ _ _ ⟨v8, hfr, rfl⟩
 ·clear hx
  obtain ⟨iG, hfr, l9⟩ := hR;refine E_ret ?_;obtain rfl := sinj h;exact end1 rfl rfl (show _ = .bool (i6) from l9) ⟨_, hfr, rfl⟩
def f54 (x0 : PayPayList) (x1 : Int) : Option (Int) :=
 (f72 (((x0).PayList).Rates) x1 ((fun a0 a1 => f73 a0 a1))).bind fun y6 =>
 Option.bind (α := Int) (
  bif (!y6.2) then
   some ((w64 (y6.1 - (1 : Int))))
  else
   some (y6.1)
  ) fun o0 =>
 (idx (((x0).PayList).Rates) o0).bind fun l5 =>
 some ((l5).Rate)
theorem en54 : Enters Tryd.prog 54 := enters_of Tryd.func54 (by kernel_rfl) rfl
theorem wk54 {gI : Gh} {wI : World} {x0 : PayPayList} {x1 : Int} {up0 : Value} (rp0 : RV gI.m wI x0 up0) {r : Int} (h : f54 x0 x1 = some r) : Fn Tryd.prog 54 #[up0, .int .i64 (x1)] gI wI (fun _ _ v => v = .int .i64 (r)) := by
 unfold f54 at h;refine fn_of_E Tryd.func54 rfl (Nat.le_of_ble_eq_true rfl) fun g0 hm hfr => ?_;have rp0 : RV g0.m wI x0 up0 := hm ▸ rp0;show E _ 26 none _ _ _ _ _;refine E_seq (E_region (EL_do .plain rfl (D_box (g := g0) rfl rp0 fun g1 w1 p1 hs q1 => ?_)));have hfr := hfr.ext hs;refine EL_at (.int .i64 (0)) rfl rfl ?_;refine EL_nil (thn_n (E_seq (E_region (EL_p (fPtr p1 0) (P_fieldAddr at_91_0 rfl (PT.ptr q1)) rfl ?_))));have q2 := PT_field (part_PayPayList_0).1 q1;refine EL_p (fPtr (fPtr p1 0) 0) (P_fieldAddr at_58_0 rfl (PT.ptr q2)) rfl ?_;have q3 := PT_field (part_PayList_0).1 q2;refine EL_do .plain rfl (D_load (g := g1) Tryd.isAgg56 Tryd.sizeOf56 rfl q3 fun v4 r4 => ?_);refine EL_mw (.int .i64 (x1)) rfl rfl ?_;obtain ⟨y6, aB, h⟩ := bsome h;refine EL_do .plain rfl (D_call (g := g1) (vs := [v4, .int .i64 (x1), .func (.func 73) #[] #[]]) en72 (.cons rfl (.cons rfl (.cons rfl .nil))) (wk72 r4 ⟨73, #[], #[], rfl, en73, fun g' w' hch a0 a1 b0 b1 r hu0 hu1 hr => by obtain rfl := RV_int.1 hu1; exact Fn.mono (wk73 hu0  hr) fun _ _ _ h => RV_int.2 h⟩ aB) fun g5 w5_ v5 hs hr => ?_);have hfr := hfr.ext hs;have q1 := q1.ext hs;obtain ⟨oB, vB, rfl, rfl, rfl⟩ := hr;refine EL_mw (.tuple #[.int .i64 (y6.1), .bool (y6.2)]) rfl rfl ?_;refine EL_p (.int .i64 (y6.1)) (P_extract rfl rfl) rfl ?_;refine EL_p (.bool (y6.2)) (P_extract rfl rfl) rfl ?_;refine EL_at (.int .i64 (y6.1)) rfl rfl ?_;refine EL_at (.bool (y6.2)) rfl rfl ?_;refine EL_nil (thn_n ?_);obtain ⟨o0, hx, h⟩ := bsome h;refine E_join (fun e w => ∃ (g : Gh) , Fr gI wI g w ∧ e 2 = p1 ∧ PT g.m w (x0 : PayPayList) p1 ∧ e 5 = .int .i64 (o0)) (fun Q' hQ => ?_) (fun yB w9 hR => ?_)
 ·replace h := hx
  clear hx;refine E_seq (E_region (EL_mw (.bool (y6.2)) rfl rfl ?_));refine EL_p (.bool (!y6.2)) (P_not rfl) rfl ?_;refine EL_nil (thn_n ?_);rcases csome h with ⟨hc8, h⟩ | ⟨hc8, h⟩
  ·refine E_ct hc8 rfl ?_
   refine E_region (EL_mw (.int .i64 (y6.1)) rfl rfl ?_);refine EL_in (.int .i64 ((w64 (y6.1 - (1 : Int))))) rfl rfl rfl rfl ?_;refine EL_at (.int .i64 ((w64 (y6.1 - (1 : Int))))) rfl rfl ?_;refine EL_nil ?_;obtain rfl := sinj h;exact hQ _ _ ⟨g5, hfr, rfl, q1, rfl⟩
  ·refine E_cf hc8 rfl ?_
   refine E_skip ?_;obtain rfl := sinj h;exact hQ _ _ ⟨g5, hfr, rfl, q1, rfl⟩
 ·clear hx
  obtain ⟨g9, hfr, l9, t5, n9⟩ := hR;refine E_seq (E_region (EL_p (fPtr p1 0) (P_fieldAddr at_91_0 l9 (PT.ptr t5)) rfl ?_));have g8 := PT_field (part_PayPayList_0).1 t5;refine EL_p (fPtr (fPtr p1 0) 0) (P_fieldAddr at_58_0 rfl (PT.ptr g8)) rfl ?_;have lB := PT_field (part_PayList_0).1 g8;refine EL_do .plain rfl (D_load (g := g9) Tryd.isAgg56 Tryd.sizeOf56 rfl lB fun l8 n8 => ?_);refine EL_mv n9 rfl ?_;obtain ⟨l5, i6, h⟩ := bsome h;refine EL_p (ePtr l8 o0 2) (P_indexAddr (α := PayRate) Tryd.underlying56 Tryd.sizeOf55 rfl n8 rfl i6) rfl ?_;have v8 := PT_idx n8 i6;refine EL_p (fPtr (ePtr l8 o0 2) 1) (P_fieldAddr at_55_1 rfl (PT.ptr v8)) rfl ?_;have mB := PT_field (part_PayRate_1).1 v8;refine EL_do .plain rfl (D_load (g := g9) Tryd.isAgg3 Tryd.sizeOf3 rfl mB fun zB nB => ?_);obtain rfl := RV_int.1 nB;refine EL_at (.int .i64 ((l5).Rate)) rfl rfl ?_;refine EL_nil (thn_n (E_ret ?_));obtain rfl := sinj h;exact end1 rfl rfl (show _ = .int .i64 ((l5).Rate) from rfl) ⟨_, hfr, rfl⟩
end Go.Proofs.YticdblhibbaojaaDoor
