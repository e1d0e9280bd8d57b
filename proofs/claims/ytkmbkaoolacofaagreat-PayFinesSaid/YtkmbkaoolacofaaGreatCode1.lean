import Derived.Test.YtkmbkaoolacofaaGreatTypes
import Derived.Test.YtkmbkaoolacofaaGreatKn
set_option maxRecDepth 8000
set_option maxHeartbeats 4000000
namespace Go.Proofs.YtkmbkaoolacofaaGreat
open Go.RowKit
theorem info_3 : (Tryz.prog.info? 3).map (fun i => (i.zero, i.size, i.bytes)) = some (some (.int .i64 0), 1, 8) := by kernel_rfl
theorem info_87 : (Tryz.prog.info? 87).map (fun i => (i.zero, i.size, i.bytes)) = some (some (.agg #[.int .i64 0, .int .i64 0]), 2, 16) := by kernel_rfl
theorem mixed : Tryz.prog.follows .mixedOrders = true := by kernel_rfl
theorem endm_c {P : Program} {e : Env} {ds : List Deferred} {w : World} {fn : Func} {R : Value → World → Prop} {t0 : Tmp} {v0 : Value} {y0 : TypeId} {a0 : Addr} (hres : fn.results = #[.cell t0 y0]) (hd : ds = []) (h0 : e t0 = .pointer (some a0)) (l0 : (loadVar y0 a0).run P w = .ok v0 w) (h : R v0 w) : atEnd P fn R .ret e ds w :=
 ⟨hd, fun tmps ht => ⟨_, by simp [results, hres, ht, asAddr, h0, l0], h⟩⟩
theorem info_27 : (Tryz.prog.info? 27).map (fun i => (i.zero, i.size, i.bytes)) = some (some (.agg #[.int .i64 0, .int .i64 0, .int .i64 0, .slice none 0 0, .int .i64 0]), 5, 56) := by kernel_rfl
theorem lay_117 : layoutOf Tryz.prog 117 = some ([.slice none 0 0, .slice none 0 0, .int .i64 0, .int .i64 0], [(0, 4)]) := by kernel_rfl
theorem lay_29 : layoutOf Tryz.prog 29 = some ([.int .i64 0, .int .i64 0], [(0, 1), (1, 1)]) := by kernel_rfl
theorem lay_25 : layoutOf Tryz.prog 25 = some ([.slice none 0 0, .slice none 0 0, .int .i64 0, .int .i64 0], [(0, 1), (1, 1), (2, 1), (3, 1)]) := by kernel_rfl
theorem lay_87 : layoutOf Tryz.prog 87 = some ([.int .i64 0, .int .i64 0], [(0, 1), (1, 1)]) := by kernel_rfl
theorem lay_27 : layoutOf Tryz.prog 27 = some ([.int .i64 0, .int .i64 0, .int .i64 0, .slice none 0 0, .int .i64 0], [(0, 1), (1, 1), (2, 1), (3, 1), (4, 1)]) := by kernel_rfl
theorem capf_0_2 {e : Env} {f : FuncId} {o0 : Operand} {u0 : Operand} {b0 : Value} {b1 : Value} (hb0 : ev e o0 = b0) (hb1 : ev e u0 = b1) : (Value.func (.func f) ((#[] : Array Operand).map (ev e)) ((#[o0, u0] : Array Operand).map (ev e))) = .func (.func f) #[] #[b0, b1] := by simp [hb0, hb1]
theorem endm_ct {P : Program} {e : Env} {ds : List Deferred} {w : World} {fn : Func} {R : Value → World → Prop} {t0 : Tmp} {v0 : Value} {y0 : TypeId} {a0 : Addr} {t1 : Tmp} {v1 : Value} (hres : fn.results = #[.cell t0 y0, .tmp t1]) (hd : ds = []) (h0 : e t0 = .pointer (some a0)) (l0 : (loadVar y0 a0).run P w = .ok v0 w) (h1 : e t1 = v1) (h : R (.tuple #[v0, v1]) w) : atEnd P fn R .ret e ds w :=
 ⟨hd, fun tmps ht => ⟨_, by simp [results, hres, ht, asAddr, h0, l0, h1], h⟩⟩
theorem tup2_0 {b0 b1 : Value} {B0 : Value → Prop} {B1 : Value → Prop} (h : ∃ c0 c1 : Value, Value.tuple #[b0, b1] = .tuple #[c0, c1] ∧ B0 c0 ∧ B1 c1) : B0 b0 := by
 obtain ⟨c0, c1, he, h0, h1⟩ := h; simp at he; obtain ⟨rfl, rfl⟩ := he; exact h0
def f111 (x0 : List Int) : Option (List Int) := apnd 8 [] x0
theorem en111 : Enters Tryz.prog 111 := enters_of Tryz.func111 (by kernel_rfl) rfl
theorem wk111 {gI : Gh} {wI : World} {x0 : List Int} {up0 : Value} (rp0 : RV gI.m wI x0 up0) {r : List Int} (h : f111 x0 = some r) : Fn Tryz.prog 111 #[up0] gI wI (fun m w v => RV m w r v) := by
 unfold f111 at h
 refine fn_of_E Tryz.func111 rfl (Nat.le_of_ble_eq_true rfl) fun g0 hm hfr => ?_
 have rp0 : RV g0.m wI x0 up0 := hm ▸ rp0
 show E _ 8 none _ _ _ _ _
 refine E_seq (E_region (EL_at (.slice none 0 0) rfl rfl (EL_nil (thn_n ?_))))
 refine E_seq (E_seq (E_region (EL_mw up0 rfl rfl ?_)))
 obtain ⟨a, c, hv, hc, hrow⟩ := RV_list rp0
 refine EL_p (.bool a.isNone) (P_slnil Tryz.underlying23 (show ev _ _ = _ from hv)) rfl (EL_nil (thn_n ?_))
 cases a with
 | none =>
  have hx : x0 = [] := by
   cases x0 with
   | nil => rfl
   | cons y ys => obtain ⟨b, off, hb, _⟩ := hrow (by simp); cases hb
  subst hx
  have hr : r = [] := by unfold apnd at h; split at h <;> simp at h; exact h
  subst hr
  refine E_cond_true rfl (E_seq (E_region ?_))
  refine EL_at (.slice none 0 0) rfl rfl (EL_nil (thn_n ?_))
  exact E_ret (thn_r (end1 rfl rfl (show _ = .slice none 0 0 from rfl) ⟨_, hfr, RV_nil⟩))
 | some a =>
  refine E_cond_false rfl (E_skip (thn_n ?_))
  refine E_seq (E_region (EL_do .plain rfl (D_buildSlice (g := g0) 1 (xs := ([] : List Int)) (vs := []) Tryz.underlying23 Tryz.sizeOf3 Tryz.zeroValue3 rfl rfl .nil RVs.nil rfl rfl fun g1 w1 v1 hs o1 r1 hxt hfl => ?_)))
  have hfr := hfr.stp hs
  have rp0 := rp0.stp hs
  refine EL_mw up0 rfl rfl ?_
  refine EL_do .plain rfl (D_append (g := g1) (i := 1) Tryz.underlying23 info_3 rfl rfl o1 r1 rfl rp0 h fun g2 w2 v2 hs o2 r2 _ => ?_)
  have hfr := hfr.stp hs
  refine EL_at v2 rfl rfl (EL_nil (thn_n ?_))
  exact E_ret (end1 rfl rfl (show _ = v2 from rfl) ⟨_, hfr, r2⟩)
def lenTab : Str := (⟨[0, 1, 2, 2, 3, 3, 3, 3, 4, 4, 4, 4, 4, 4, 4, 4, 5, 5, 5, 5, 5, 5, 5, 5, 5, 5, 5, 5, 5, 5, 5, 5, 6, 6, 6, 6, 6, 6, 6, 6, 6, 6, 6, 6, 6, 6, 6, 6, 6, 6, 6, 6, 6, 6, 6, 6, 6, 6, 6, 6, 6, 6, 6, 6, 7, 7, 7, 7, 7, 7, 7, 7, 7, 7, 7, 7, 7, 7, 7, 7, 7, 7, 7, 7, 7, 7, 7, 7, 7, 7, 7, 7, 7, 7, 7, 7, 7, 7, 7, 7, 7, 7, 7, 7, 7, 7, 7, 7, 7, 7, 7, 7, 7, 7, 7, 7, 7, 7, 7, 7, 7, 7, 7, 7, 7, 7, 7, 7, 8, 8, 8, 8, 8, 8, 8, 8, 8, 8, 8, 8, 8, 8, 8, 8, 8, 8, 8, 8, 8, 8, 8, 8, 8, 8, 8, 8, 8, 8, 8, 8, 8, 8, 8, 8, 8, 8, 8, 8, 8, 8, 8, 8, 8, 8, 8, 8, 8, 8, 8, 8, 8, 8, 8, 8, 8, 8, 8, 8, 8, 8, 8, 8, 8, 8, 8, 8, 8, 8, 8, 8, 8, 8, 8, 8, 8, 8, 8, 8, 8, 8, 8, 8, 8, 8, 8, 8, 8, 8, 8, 8, 8, 8, 8, 8, 8, 8, 8, 8, 8, 8, 8, 8, 8, 8, 8, 8, 8, 8, 8, 8, 8, 8, 8, 8, 8, 8, 8, 8, 8, 8, 8, 8, 8, 8, 8, 8]⟩ : Str)
def f128 (x : Int) : Option Int := if 0 ≤ x ∧ x < 256 then (idx lenTab.b x).map fun c => w64 (0 + (c.toNat : Int)) else none
def f107 (x : Int) : Option Int := f128 x
def f12 : Option Bool := some true
theorem en12 : Enters Tryz.prog 12 := enters_of Tryz.func12 (by kernel_rfl) rfl
theorem wk12 {gI : Gh} {wI : World} {r : Bool} (h : f12 = some r) : Fn Tryz.prog 12 #[] gI wI (fun _ _ v => v = .bool (r)) := by
 injection h with h
 subst h
 exact wkK12
def f13 (x0 : PayList) : Option (PayList) :=
 (apnd 16 (([] : List PayRate)) ((x0).Rates)).bind fun y7 =>
 (apnd 8 (([] : List Int)) ((x0).Extras)).bind fun o0 =>
 some ({ { x0 with Rates := y7 } with Extras := o0 })
theorem en13 : Enters Tryz.prog 13 := enters_of Tryz.func13 (by kernel_rfl) rfl
theorem wk13 {gI : Gh} {wI : World} {x0 : PayList} {up0 : Value} (rp0 : RV gI.m wI x0 up0) {r : PayList} (h : f13 x0 = some r) : Fn Tryz.prog 13 #[up0] gI wI (fun m w v => RV m w (r) v) := by
 unfold f13 at h
 refine fn_of_E Tryz.func13 rfl (Nat.le_of_ble_eq_true rfl) fun g0 hm hfr => ?_
 have rp0 : RV g0.m wI x0 up0 := hm ▸ rp0
 show E _ 14 none _ _ _ _ _
 refine E_seq (E_region (EL_do .plain rfl (D_boxO (g := g0) 2001 rfl rp0 fun g1 w1 p1 hs b1 => ?_)))
 have hfr := hfr.stp hs
 refine EL_do .plain rfl (D_allocOc (g := g1) 2002 (⟨[], [], 0, 0⟩ : PayList) Tryz.zeroValue25 (fun m w => ⟨_, (rep_two rep_nil (rep_two rep_nil (rep_two rep_int rep_int))), rfl⟩) fun g2 w2 p2 hs b2 cb => ?_)
 have hfr := hfr.stp hs
 have b1 := b1.stp hs rfl
 have a7 : OSF 2002 60200 0 g2 w2 87 25 ([] : List PayRate) p2 := cb.osf (by rfl)
 have b7 : OSF 2002 60201 1 g2 w2 3 25 ([] : List Int) p2 := cb.osf (by rfl)
 clear cb
 refine EL_nil (thn_n (E_seq (L_loadO (x := .tmp 4) part_PayList_0.1 Tryz.isAgg22 Tryz.sizeOf22 b1 fun v5 r5 i5 => ?_)))
 obtain ⟨y7, l5, h⟩ := bsome h
 refine L_loadO (x := .tmp 8) part_PayList_1.1 Tryz.isAgg23 Tryz.sizeOf23 b1 fun q5 t5 u3 => ?_
 obtain ⟨o0, z3, h⟩ := bsome h
 refine E_drawL (g := g2) (n := 9) [(0, (fun v g w => RV g.m w ([] : List PayRate) v ∧ OS 3003 g w 87 ([] : List PayRate) v ∧ FullV v)), (3, (fun v g w => RV g.m w y7 v ∧ OS 3003 g w 87 y7 v)), (4, (fun v g w => RV g.m w ([] : List Int) v ∧ OS 3007 g w 3 ([] : List Int) v ∧ FullV v)), (7, (fun v g w => RV g.m w o0 v ∧ OS 3007 g w 3 o0 v))] [0, 1, 2, 3, 4, 5, 6, 7, 8] rfl mixed (by kernel_rfl) (⟨fun _ => up_and up_rv (up_and up_os (up_eq _)), fun _ => up_and up_rv up_os, fun _ => up_and up_rv (up_and up_os (up_eq _)), fun _ => up_and up_rv up_os, trivial⟩) ?_
 refine L_do (φ := fun v g w => RV g.m w ([] : List PayRate) v ∧ OS 3003 g w 87 ([] : List PayRate) v ∧ FullV v) rfl rfl .plain (fun g w hd => D_buildSlice (g := g) 3003 (xs := ([] : List PayRate)) (vs := []) Tryz.underlying22 Tryz.sizeOf87 Tryz.zeroValue87 rfl rfl .nil RVs.nil rfl rfl fun g' w' v hs o r hxt hfl => ⟨g', hxt, r, o, hfl⟩) (fun v3 hv => ?_)
 clear hv
 refine L_p (fPtr p1 0) rfl rfl (P_fieldAddr at_25_0 rfl (OB.ptr b1)) ?_
 refine L_ld (c := v5) rfl rfl .plain (fun _ _ h => ⟨h.ch, fun b hb _ => h.below.block b hb⟩) i5 rfl ?_
 refine L_do (φ := fun v g w => RV g.m w y7 v ∧ OS 3003 g w 87 y7 v) rfl rfl .plain (fun g w hd => D_append (g := g) (i := 3003) Tryz.underlying22 info_87 rfl rfl (word (A := fun g w => RV g.m w ([] : List PayRate) v3 ∧ OS 3003 g w 87 ([] : List PayRate) v3 ∧ FullV v3) 0 rfl rfl (deps_of hd)).2.1 (word (A := fun g w => RV g.m w ([] : List PayRate) v3 ∧ OS 3003 g w 87 ([] : List PayRate) v3 ∧ FullV v3) 0 rfl rfl (deps_of hd)).1 rfl (r5.ext hd.1) l5 fun g' w' v hs o r hf => ⟨g', hf (word (A := fun g w => RV g.m w ([] : List PayRate) v3 ∧ OS 3003 g w 87 ([] : List PayRate) v3 ∧ FullV v3) 0 rfl rfl (deps_of hd)).2.2, r, o⟩) (fun v6 hv => ?_)
 clear hv
 refine L_do (φ := fun v g w => RV g.m w ([] : List Int) v ∧ OS 3007 g w 3 ([] : List Int) v ∧ FullV v) rfl rfl .plain (fun g w hd => D_buildSlice (g := g) 3007 (xs := ([] : List Int)) (vs := []) Tryz.underlying23 Tryz.sizeOf3 Tryz.zeroValue3 rfl rfl .nil RVs.nil rfl rfl fun g' w' v hs o r hxt hfl => ⟨g', hxt, r, o, hfl⟩) (fun v8 hv => ?_)
 clear hv
 refine L_p (fPtr p1 1) rfl rfl (P_fieldAddr at_25_1 rfl (OB.ptr b1)) ?_
 refine L_ld (c := q5) rfl rfl .plain (fun _ _ h => ⟨h.ch, fun b hb _ => h.below.block b hb⟩) u3 rfl ?_
 refine L_do (φ := fun v g w => RV g.m w o0 v ∧ OS 3007 g w 3 o0 v) rfl rfl .plain (fun g w hd => D_append (g := g) (i := 3007) Tryz.underlying23 info_3 rfl rfl (word (A := fun g w => RV g.m w ([] : List Int) v8 ∧ OS 3007 g w 3 ([] : List Int) v8 ∧ FullV v8) 4 rfl rfl (deps_of hd)).2.1 (word (A := fun g w => RV g.m w ([] : List Int) v8 ∧ OS 3007 g w 3 ([] : List Int) v8 ∧ FullV v8) 4 rfl rfl (deps_of hd)).1 rfl (t5.ext hd.1) z3 fun g' w' v hs o r hf => ⟨g', hf (word (A := fun g w => RV g.m w ([] : List Int) v8 ∧ OS 3007 g w 3 ([] : List Int) v8 ∧ FullV v8) 4 rfl rfl (deps_of hd)).2.2, r, o⟩) (fun u0 hv => ?_)
 clear hv
 refine L_p (fPtr p1 0) rfl rfl (P_fieldAddr at_25_0 rfl (OB.ptr b1)) ?_
 refine L_nil fun x5 c7 hall => ?_
 have hs := hall.1
 have hfr := hfr.ext hs
 have b1 := b1.ext hs
 have b2 := b2.ext hs
 have d7 := (word_all (A := fun g w => RV g.m w ([] : List PayRate) v3 ∧ OS 3003 g w 87 ([] : List PayRate) v3 ∧ FullV v3) 0 rfl hall).1
 have o18 := (word_all (A := fun g w => RV g.m w ([] : List PayRate) v3 ∧ OS 3003 g w 87 ([] : List PayRate) v3 ∧ FullV v3) 0 rfl hall).2.1
 have j3 := (word_all (A := fun g w => RV g.m w y7 v6 ∧ OS 3003 g w 87 y7 v6) 3 rfl hall).1
 have o21 := (word_all (A := fun g w => RV g.m w y7 v6 ∧ OS 3003 g w 87 y7 v6) 3 rfl hall).2
 have e7 := (word_all (A := fun g w => RV g.m w ([] : List Int) v8 ∧ OS 3007 g w 3 ([] : List Int) v8 ∧ FullV v8) 4 rfl hall).1
 have o22 := (word_all (A := fun g w => RV g.m w ([] : List Int) v8 ∧ OS 3007 g w 3 ([] : List Int) v8 ∧ FullV v8) 4 rfl hall).2.1
 have j1 := (word_all (A := fun g w => RV g.m w o0 u0 ∧ OS 3007 g w 3 o0 u0) 7 rfl hall).1
 have o25 := (word_all (A := fun g w => RV g.m w o0 u0 ∧ OS 3007 g w 3 o0 u0) 7 rfl hall).2
 clear hs hall
 refine EL_do .plain rfl (D_storeFc (g := x5) part_PayList_0 Tryz.sizeOf22 rfl b1 rfl j3 fun i6 g7 hs b27 rst hos => ?_)
 have i3 := hos _ _ 3003 87 (y7 : List PayRate) (rv_cells1 j3) rfl o21
 clear rst hos
 have hfr := hfr.stp hs
 have b2 := b2.stp hs rfl
 have j1 := j1.stp hs
 have o25 := o25.stp hs rfl
 refine EL_p (fPtr p1 1) (P_fieldAddr at_25_1 rfl (OB.ptr b27)) rfl ?_
 refine EL_do .plain rfl (D_storeFc (g := i6) part_PayList_1 Tryz.sizeOf23 rfl b27 rfl j1 fun o3 i7 hs b29 rst hos => ?_)
 have i3 := i3.rest hs rst
 have y6 := hos _ _ 3007 3 (o0 : List Int) (rv_cells1 j1) rfl o25
 clear rst hos
 have hfr := hfr.stp hs
 have b2 := b2.stp hs rfl
 refine EL_nil (thn_n (E_seq (E_region (EL_do .plain rfl (D_loadO (g := o3) Tryz.isAgg25 Tryz.sizeOf25 rfl b29 fun j6 x6 => ?_)))))
 refine EL_do .plain rfl (D_storeOc (g := o3) (v := j6) Tryz.sizeOf25 rfl b2 rfl x6 fun j7 m7 hs b31 cb => ?_)
 clear cb
 have hfr := hfr.stp hs
 refine EL_nil (thn_n (E_ret ?_))
 obtain rfl := sinj h
 obtain ⟨ad32, cv32, hp32, z4, cr32⟩ := ob_read Tryz.isAgg25 Tryz.sizeOf25 b31
 exact endm_c rfl rfl ((show _ = p2 from rfl).trans hp32) z4 ⟨_, hfr, cr32⟩
def f14 (x0 : List PayPiece) : Option ((List PayPiece)) :=
 Option.bind (α := (List PayPiece)) (
  lp (σ := (List PayPiece) × Int) (fun c8 (j3, i3) =>
   jn (σ := Unit) (fun _ =>
    Option.bind (α := (List PayPiece)) (
     (idx x0 i3).bind fun y63 =>
     (apnd 8 (([] : List Int)) ((y63).Extras)).bind fun i5 =>
     (apnd 56 j3 (([{ y63 with Extras := i5 }] : List PayPiece))).bind fun g8 =>
     some (g8)
     ) fun o3 =>
    c8 (o3, (w64 (i3 + (1 : Int))))
    ) fun i8 =>
   bif (decide (i3 < ((x0).length : Int))) then
    i8 ()
   else
    some (j3)
   ) big (([] : List PayPiece), (0 : Int))
  ) fun u3 =>
 some (u3)
theorem en14 : Enters Tryz.prog 14 := enters_of Tryz.func14 (by kernel_rfl) rfl
theorem wk14 {gI : Gh} {wI : World} {x0 : List PayPiece} {up0 : Value} (rp0 : RV gI.m wI x0 up0) {r : (List PayPiece)} (h : f14 x0 = some r) : Fn Tryz.prog 14 #[up0] gI wI (fun m w v => RV m w (r) v) := by
 unfold f14 at h
 refine fn_of_E Tryz.func14 rfl (Nat.le_of_ble_eq_true rfl) fun g0 hm hfr => ?_
 have rp0 : RV g0.m wI x0 up0 := hm ▸ rp0
 show E _ 27 none _ _ _ _ _
 refine E_seq (E_region (EL_at (.slice none 0 0) rfl rfl ?_))
 refine EL_nil (thn_n (E_seq (E_region (EL_do .plain rfl (D_buildSlice (g := g0) 3006 (xs := ([] : List PayPiece)) (vs := []) Tryz.underlying33 Tryz.sizeOf27 Tryz.zeroValue27 rfl rfl .nil RVs.nil rfl rfl fun g1 w1 v1 hs o1 r1 hxt hfl => ?_)))))
 have hfr := hfr.stp hs
 have rp0 := rp0.stp hs
 refine EL_at v1 rfl rfl ?_
 refine EL_nil (thn_n ?_)
 obtain ⟨u3, hx, h⟩ := bsome h
 refine E_join (fun e w => ∃ (g : Gh) (v3 : Value), Fr gI wI g w ∧ e 3 = v3 ∧ RV g.m w (u3 : List PayPiece) v3 ∧ OS 3006 g w 27 (u3 : List PayPiece) v3) (fun Q' hQ => ?_) (fun mA qA hR => ?_)
 ·replace h := hx
  clear hx
  refine E_seq (E_region (EL_at (.int .i64 (0)) rfl rfl ?_))
  refine EL_nil (thn_n (E_block ?_))
  refine E_lp h (fun (s : (List PayPiece) × Int) e w => ∃ (g : Gh) (v3 : Value), Fr gI wI g w ∧ e 0 = up0 ∧ RV g.m w (x0 : List PayPiece) up0 ∧ e 3 = v3 ∧ RV g.m w (s.1 : List PayPiece) v3 ∧ OS 3006 g w 27 (s.1 : List PayPiece) v3 ∧ e 4 = .int .i64 (s.2)) ⟨g1, (v1), hfr, rfl, rp0, rfl, r1, o1, rfl⟩ (fun X41 c8 t8 => ?_)
  rintro ⟨j3, i3⟩ nA rA ⟨k8, z3, hfr, l5, q5, t5, x5, i6, j6⟩ h
  refine E_joinC h (fun (s : Unit) e w => ∃ (g : Gh) , Fr gI wI g w ∧ e 0 = up0 ∧ RV g.m w (x0 : List PayPiece) up0 ∧ e 3 = z3 ∧ RV g.m w (j3 : List PayPiece) z3 ∧ OS 3006 g w 27 (j3 : List PayPiece) z3 ∧ e 4 = .int .i64 (i3)) (fun X44 i8 v8 h => ?_) ?_
  ·refine E_seq (E_region (EL_mv j6 rfl ?_))
   refine EL_mv l5 rfl ?_
   refine EL_p (.int .i64 ((x0).length : Int)) (P_len Tryz.underlying33 rfl q5) rfl ?_
   refine EL_in (.bool ((decide (i3 < ((x0).length : Int))))) rfl rfl rfl rfl ?_
   refine EL_nil (thn_n ?_)
   rcases csome h with ⟨z4, h⟩ | ⟨z4, h⟩
   ·refine E_ct z4 rfl ?_
    exact E_skip (thn_n (v8 () _ _ ⟨k8, hfr, l5, q5, t5, x5, i6, j6⟩ h))
   ·refine E_cf z4 rfl ?_
    refine E_exit ?_
    refine thn_e ?_
    refine thn_e ?_
    refine blk_hit ?_
    obtain rfl := sinj h
    exact hQ _ _ ⟨k8, (z3), hfr, t5, x5, i6⟩
  ·rintro _ oA uA ⟨l8, hfr, v6, o0, d7, u0, j1, x6⟩ h
   obtain ⟨o3, hx, h⟩ := bsome h
   refine E_join (fun e w => ∃ (g : Gh) (v3 : Value), Fr gI wI g w ∧ e 0 = up0 ∧ RV g.m w (x0 : List PayPiece) up0 ∧ e 3 = v3 ∧ RV g.m w (o3 : List PayPiece) v3 ∧ OS 3006 g w 27 (o3 : List PayPiece) v3 ∧ e 4 = .int .i64 (i3)) (fun Q' hQ => ?_) (fun pA xA hR => ?_)
   ·replace h := hx
    clear hx
    refine E_block ?_
    refine E_seq (E_region (EL_mv v6 rfl ?_))
    refine EL_mv x6 rfl ?_
    obtain ⟨y63, a7, h⟩ := bsome h
    refine EL_p (ePtr up0 i3 5) (P_indexAddr (α := PayPiece) Tryz.underlying33 Tryz.sizeOf27 rfl o0 rfl a7) rfl ?_
    have a9 := PT_idx o0 a7
    refine EL_do .plain rfl (D_load (g := l8) Tryz.isAgg27 Tryz.sizeOf27 rfl a9 fun d9 b7 => ?_)
    refine EL_do .plain rfl (D_allocOc (g := l8) 2005 (⟨0, 0, 0, [], 0⟩ : PayPiece) Tryz.zeroValue27 (fun m w => ⟨_, (rep_two rep_int (rep_two rep_int (rep_two rep_int (rep_two rep_nil rep_int)))), rfl⟩) fun m8 e9 c7 hs b67 cb => ?_)
    have hfr := hfr.stp hs
    have o0 := o0.stp hs
    have u0 := u0.stp hs
    have j1 := j1.stp hs rfl
    have b7 := b7.stp hs
    have iA : OSF 2005 60503 3 m8 e9 3 27 ([] : List Int) c7 := cb.osf (by rfl)
    clear cb
    refine EL_do .plain rfl (D_storeOc (g := m8) (v := d9) Tryz.sizeOf27 rfl b67 rfl b7 fun i9 yA hs b68 cb => ?_)
    clear cb
    have hfr := hfr.stp hs
    have o0 := o0.stp hs
    have u0 := u0.stp hs
    have j1 := j1.stp hs rfl
    refine EL_nil (thn_n (E_seq (E_region (EL_do .plain rfl (D_buildSlice (g := i9) 3017 (xs := ([] : List Int)) (vs := []) Tryz.underlying23 Tryz.sizeOf3 Tryz.zeroValue3 rfl rfl .nil RVs.nil rfl rfl fun n8 zA aB hs o69 k9 hxt hfl => ?_)))))
    have hfr := hfr.stp hs
    have o0 := o0.stp hs
    have u0 := u0.stp hs
    have j1 := j1.stp hs rfl
    have b68 := b68.stp hs rfl
    refine EL_p (fPtr c7 3) (P_fieldAddr at_27_3 rfl (OB.ptr b68)) rfl ?_
    refine EL_do .plain rfl (D_loadF (g := n8) part_PayPiece_3.1 Tryz.isAgg23 Tryz.sizeOf23 rfl b68 fun bB l9 => ?_)
    obtain ⟨i5, x8, h⟩ := bsome h
    refine EL_do .plain rfl (D_append (g := n8) (i := 3017) Tryz.underlying23 info_3 rfl rfl o69 k9 rfl l9 x8 fun n9 cB dB hs o72 o8 _ => ?_)
    have hfr := hfr.stp hs
    have o0 := o0.stp hs
    have u0 := u0.stp hs
    have j1 := j1.stp hs rfl
    have b68 := b68.stp hs rfl
    refine EL_p (fPtr c7 3) (P_fieldAddr at_27_3 rfl (OB.ptr b68)) rfl ?_
    refine EL_do .plain rfl (D_storeFc (g := n9) part_PayPiece_3 Tryz.sizeOf23 rfl b68 rfl o8 fun q8 eB hs b75 rst hos => ?_)
    have jA := hos _ _ 3017 3 (i5 : List Int) (rv_cells1 o8) rfl o72
    clear rst hos
    have hfr := hfr.stp hs
    have o0 := o0.stp hs
    have u0 := u0.stp hs
    have j1 := j1.stp hs rfl
    refine EL_nil (thn_n (E_region (EL_mv d7 rfl ?_)))
    refine EL_do .plain rfl (D_loadO (g := q8) Tryz.isAgg27 Tryz.sizeOf27 rfl b75 fun o9 t9 => ?_)
    refine EL_do .plain rfl (D_buildSlice (g := q8) 3024 (xs := ([{ y63 with Extras := i5 }] : List PayPiece)) (vs := [o9]) Tryz.underlying33 Tryz.sizeOf27 Tryz.zeroValue27 rfl rfl (.cons rfl .nil) (RVs.cons t9 RVs.nil) rfl rfl fun u9 iB jB hs o77 y9 hxt hfl => ?_)
    have hfr := hfr.stp hs
    have o0 := o0.stp hs
    have u0 := u0.stp hs
    have j1 := j1.stp hs rfl
    obtain ⟨g8, y8, h⟩ := bsome h
    refine EL_do .plain rfl (D_append (g := u9) (i := 3006) Tryz.underlying33 info_27 rfl rfl j1 u0 rfl y9 y8 fun z9 lB r8 hs o78 bA _ => ?_)
    have hfr := hfr.stp hs
    have o0 := o0.stp hs
    refine EL_at r8 rfl rfl ?_
    refine EL_nil (blk_n ?_)
    obtain rfl := sinj h
    exact hQ _ _ ⟨z9, (r8), hfr, v6, o0, rfl, bA, o78, x6⟩
   ·clear hx
    obtain ⟨gA, e7, hfr, g7, i7, j7, m7, n7, o7⟩ := hR
    refine E_region (EL_mv o7 rfl ?_)
    refine EL_in (.int .i64 ((w64 (i3 + (1 : Int))))) rfl rfl rfl rfl ?_
    refine EL_at (.int .i64 ((w64 (i3 + (1 : Int))))) rfl rfl ?_
    exact EL_nil (thn_n (t8 (o3, (w64 (i3 + (1 : Int)))) _ _ ⟨gA, (e7), hfr, g7, i7, j7, m7, n7, rfl⟩ h))
 ·clear hx
  obtain ⟨mB, y6, hfr, u7, v7, lA⟩ := hR
  refine E_seq (E_region (EL_mv u7 rfl ?_))
  refine EL_at y6 rfl rfl ?_
  refine EL_nil (thn_n (E_ret ?_))
  obtain rfl := sinj h
  exact end1 rfl rfl (show _ = y6 from rfl) ⟨_, hfr, v7⟩
def f26 (x0 : Int) (x1 : Int) : Option (Span) :=
 some ((⟨x0, x1⟩ : Span))
theorem en26 : Enters Tryz.prog 26 := enters_of Tryz.func26 (by kernel_rfl) rfl
theorem wk26 {gI : Gh} {wI : World} {x0 : Int} {x1 : Int}  {r : Span} (h : f26 x0 x1 = some r) : Fn Tryz.prog 26 #[.int .i64 (x0), .int .i64 (x1)] gI wI (fun m w v => RV m w (r) v) := by
 unfold f26 at h
 refine fn_of_E Tryz.func26 rfl (Nat.le_of_ble_eq_true rfl) fun g0 hm hfr => ?_
 show E _ 8 none _ _ _ _ _
 refine E_seq (E_region (EL_do .plain rfl (D_allocOc (g := g0) 2004 (⟨0, 0⟩ : Span) Tryz.zeroValue29 (fun m w => ⟨_, (rep_two rep_int rep_int), rfl⟩) fun g1 w1 p1 hs b1 cb => ?_)))
 have hfr := hfr.stp hs
 clear cb
 refine EL_nil (thn_n (E_seq (E_region (EL_mw (.int .i64 (x0)) rfl rfl ?_))))
 refine EL_mw (.int .i64 (x1)) rfl rfl ?_
 have r2 : RV g1.m w1 (⟨x0, x1⟩ : Span) (.agg (setCh [[.int .i64 0], [.int .i64 0]] [(0, .int .i64 (x0)), (1, .int .i64 (x1))]).flatten.toArray) := RV_build rfl (rep_pair (rfl) (rep_last (rfl)))
 generalize hv2 : (Value.agg (setCh [[.int .i64 0], [.int .i64 0]] [(0, .int .i64 (x0)), (1, .int .i64 (x1))]).flatten.toArray) = v2 at r2
 refine EL_p v2 (hv2 ▸ P_build (vs := [(0, .int .i64 (x0)), (1, .int .i64 (x1))]) [[.int .i64 0], [.int .i64 0]] lay_29 rfl rfl (.cons rfl (.cons rfl .nil)) ⟨⟨_, rfl, rfl⟩, ⟨⟨_, rfl, rfl⟩, trivial⟩⟩) rfl ?_
 refine EL_do .plain rfl (D_storeOc (g := g1) (v := v2) Tryz.sizeOf29 rfl b1 rfl r2 fun g3 w3 hs b3 cb => ?_)
 clear cb
 have hfr := hfr.stp hs
 refine EL_nil (thn_n (E_ret ?_))
 obtain rfl := sinj h
 obtain ⟨ad4, cv4, hp4, o0, cr4⟩ := ob_read Tryz.isAgg29 Tryz.sizeOf29 b3
 exact endm_c rfl rfl ((show _ = p1 from rfl).trans hp4) o0 ⟨_, hfr, cr4⟩
def f29 (x0 : List Int) (x1 : List Int) : Option (Bool) :=
 jn (σ := Unit) (fun _ =>
  jn (σ := Unit) (fun _ =>
   some (true)
   ) fun k53 =>
  lp (σ := Int) (fun k54 o0 =>
   jn (σ := Unit) (fun _ =>
    jn (σ := Unit) (fun _ =>
     k54 ((w64 (o0 + (1 : Int))))
     ) fun d7 =>
    (idx x0 o0).bind fun u3 =>
    (idx x1 o0).bind fun z3 =>
    bif (u3 != z3) then
     some (false)
    else
     d7 ()
    ) fun k57 =>
   bif (decide (o0 < ((x0).length : Int))) then
    k57 ()
   else
    k53 ()
   ) big ((0 : Int))
  ) fun k2 =>
 bif (((x0).length : Int) != ((x1).length : Int)) then
  some (false)
 else
  k2 ()
def f38 (x0 : Prices) : Option (PayList) :=
 (rem64 (w64 ((4 : Int) * (((x0).Cap).toNat : Int))) (1001 : Int)).bind fun y7 =>
 Option.bind (α := PayList) (
  lp (σ := PayList × Int × Int) (fun xC (j1, i5, o0) =>
   jn (σ := Unit) (fun _ =>
    Option.bind (α := PayList × Int) (
     Option.bind (α := Int) (
      bif (decide (o0 < (((x0).Rates).length : Int))) then
       (idx ((x0).Rates) o0).bind fun yC =>
       (idx (yC).toList (1 : Int)).bind fun cC =>
       (rem64 ((cC).toNat : Int) (10001 : Int)).bind fun t9 =>
       some (t9)
      else
       some ((25 : Int))
      ) fun u3 =>
     Option.bind (α := Int) (
      bif (decide (o0 > (0 : Int))) then
       (idx ((x0).Rates) o0).bind fun aD =>
       (idx (aD).toList (0 : Int)).bind fun dC =>
       (rem64 ((dC).toNat : Int) (150 : Int)).bind fun l8 =>
       some ((w64 (i5 + (w64 ((1 : Int) + l8)))))
      else
       some (i5)
      ) fun z3 =>
     (apnd 16 ((j1).Rates) (([(⟨z3, u3⟩ : PayRate)] : List PayRate))).bind fun eC =>
     some ({ j1 with Rates := eC }, z3)
     ) fun (x6, n7) =>
    xC (x6, n7, (w64 (o0 + (1 : Int))))
    ) fun bD =>
   Option.bind (α := Bool) (
    bif (o0 == (0 : Int)) then
     some (true)
    else
     bif (decide (o0 < (((x0).Rates).length : Int))) then
      some ((decide (o0 < (6 : Int))))
     else
      some (false)
    ) fun y6 =>
   bif y6 then
    bD ()
   else
    some (j1)
   ) big ((⟨[], [], (((x0).Fine).toNat : Int), y7⟩ : PayList), (0 : Int), (0 : Int))
  ) fun i7 =>
 Option.bind (α := PayList) (
  lp (σ := PayList × Int) (fun cD (j3, u0) =>
   jn (σ := Unit) (fun _ =>
    Option.bind (α := PayList) (
     (idx ((x0).Extras) u0).bind fun o3 =>
     (apnd 8 ((j3).Extras) (([(w64 ((3 : Int) * ((o3).toNat : Int)))] : List Int))).bind fun iC =>
     some ({ j3 with Extras := iC })
     ) fun a7 =>
    cD (a7, (w64 (u0 + (1 : Int))))
    ) fun eD =>
   Option.bind (α := Bool) (
    bif (decide (u0 < (((x0).Extras).length : Int))) then
     some ((decide (u0 < (8 : Int))))
    else
     some (false)
    ) fun b7 =>
   bif b7 then
    eD ()
   else
    some (j3)
   ) big (i7, (0 : Int))
  ) fun j7 =>
 some (j7)
theorem en38 : Enters Tryz.prog 38 := enters_of Tryz.func38 (by kernel_rfl) rfl
theorem wk38 {gI : Gh} {wI : World} {x0 : Prices} {up0 : Value} (rp0 : RV gI.m wI x0 up0) {r : PayList} (h : f38 x0 = some r) : Fn Tryz.prog 38 #[up0] gI wI (fun m w v => RV m w (r) v) := by
 unfold f38 at h
 refine fn_of_E Tryz.func38 rfl (Nat.le_of_ble_eq_true rfl) fun g0 hm hfr => ?_
 have rp0 : RV g0.m wI x0 up0 := hm ▸ rp0
 show E _ 90 none _ _ _ _ _
 refine E_seq (E_region (EL_do .plain rfl (D_box (g := g0) rfl rp0 fun g1 w1 p1 hs q1 => ?_)))
 have hfr := hfr.ext hs
 refine EL_do .plain rfl (D_allocOc (g := g1) 2002 (⟨[], [], 0, 0⟩ : PayList) Tryz.zeroValue25 (fun m w => ⟨_, (rep_two rep_nil (rep_two rep_nil (rep_two rep_int rep_int))), rfl⟩) fun g2 w2 p2 hs b2 cb => ?_)
 have hfr := hfr.stp hs
 have q1 := q1.stp hs
 have n8 : OSF 2002 60200 0 g2 w2 87 25 ([] : List PayRate) p2 := cb.osf (by rfl)
 have o8 : OSF 2002 60201 1 g2 w2 3 25 ([] : List Int) p2 := cb.osf (by rfl)
 clear cb
 refine EL_nil (thn_n (E_seq (E_region (EL_p (fPtr p1 2) (P_fieldAddr at_75_2 rfl (PT.ptr q1)) rfl ?_))))
 have q3 := PT_field (part_Prices_2).1 q1
 refine EL_do .plain rfl (D_load (g := g2) Tryz.isAgg5 Tryz.sizeOf5 rfl q3 fun v4 r4 => ?_)
 obtain rfl := RV_u8.1 r4
 refine EL_p (.int .i64 ((((x0).Fine).toNat : Int))) (P_u8int Tryz.underlying5 Tryz.underlying3 rfl) rfl ?_
 refine EL_p (fPtr p1 3) (P_fieldAddr at_75_3 rfl (PT.ptr q1)) rfl ?_
 have q5 := PT_field (part_Prices_3).1 q1
 refine EL_do .plain rfl (D_load (g := g2) Tryz.isAgg5 Tryz.sizeOf5 rfl q5 fun v6 r6 => ?_)
 obtain rfl := RV_u8.1 r6
 refine EL_p (.int .i64 ((((x0).Cap).toNat : Int))) (P_u8int Tryz.underlying5 Tryz.underlying3 rfl) rfl ?_
 refine EL_p (.int .i64 ((w64 ((4 : Int) * (((x0).Cap).toNat : Int))))) (P_int rfl rfl rfl) rfl ?_
 obtain ⟨y7, dI, h⟩ := bsome h
 refine EL_p (.int .i64 (y7)) (P_int rfl rfl (congrArg (Option.map (Value.int .i64)) dI)) rfl ?_
 have r8 : RV g2.m w2 (⟨[], [], (((x0).Fine).toNat : Int), y7⟩ : PayList) (.agg (setCh [[.slice none 0 0], [.slice none 0 0], [.int .i64 0], [.int .i64 0]] [(2, .int .i64 ((((x0).Fine).toNat : Int))), (3, .int .i64 (y7))]).flatten.toArray) := RV_build rfl (rep_pair (rep_nil) (rep_pair (rep_nil) (rep_pair (rfl) (rep_last (rfl)))))
 generalize gD : (Value.agg (setCh [[.slice none 0 0], [.slice none 0 0], [.int .i64 0], [.int .i64 0]] [(2, .int .i64 ((((x0).Fine).toNat : Int))), (3, .int .i64 (y7))]).flatten.toArray) = v8 at r8
 refine EL_p v8 (gD ▸ P_build (vs := [(2, .int .i64 ((((x0).Fine).toNat : Int))), (3, .int .i64 (y7))]) [[.slice none 0 0], [.slice none 0 0], [.int .i64 0], [.int .i64 0]] lay_25 rfl rfl (.cons rfl (.cons rfl .nil)) ⟨⟨_, rfl, rfl⟩, ⟨⟨_, rfl, rfl⟩, trivial⟩⟩) rfl ?_
 refine EL_do .plain rfl (D_allocOc (g := g2) 2003 (⟨[], [], 0, 0⟩ : PayList) Tryz.zeroValue25 (fun m w => ⟨_, (rep_two rep_nil (rep_two rep_nil (rep_two rep_int rep_int))), rfl⟩) fun g9 w9 p9 hs b9 cb => ?_)
 have hfr := hfr.stp hs
 have q1 := q1.stp hs
 have n8 := n8.stp hs rfl
 have o8 := o8.stp hs rfl
 have b2 := b2.stp hs rfl
 have r8 := r8.stp hs
 have vI : OSF 2003 60300 0 g9 w9 87 25 ([] : List PayRate) p9 := cb.osf (by rfl)
 have xI : OSF 2003 60301 1 g9 w9 3 25 ([] : List Int) p9 := cb.osf (by rfl)
 clear cb
 refine EL_do .plain rfl (D_storeOc (g := g9) (v := v8) Tryz.sizeOf25 rfl b9 rfl r8 fun iD rG hs b10 cb => ?_)
 have bG : OSF 2003 60300 0 iD rG 87 25 ([] : List PayRate) p9 := cb.osf (by rw [← gD]; rfl)
 have cG : OSF 2003 60301 1 iD rG 3 25 ([] : List Int) p9 := cb.osf (by rw [← gD]; rfl)
 clear cb
 have hfr := hfr.stp hs
 have q1 := q1.stp hs
 have n8 := n8.stp hs rfl
 have o8 := o8.stp hs rfl
 have b2 := b2.stp hs rfl
 refine EL_nil (thn_n (E_seq (E_region (EL_at (.int .i64 (0)) rfl rfl ?_))))
 refine EL_nil (thn_n ?_)
 obtain ⟨i7, hx, h⟩ := bsome h
 refine E_join (fun e w => ∃ (g : Gh) , Fr gI wI g w ∧ e 1 = p1 ∧ PT g.m w (x0 : Prices) p1 ∧ e 2 = p2 ∧ OB 2002 g w 25 ((⟨[], [], 0, 0⟩ : PayList) : PayList) p2 ∧ OSF 2002 60200 0 g w 87 25 (((⟨[], [], 0, 0⟩ : PayList)).Rates) p2 ∧ OSF 2002 60201 1 g w 3 25 (((⟨[], [], 0, 0⟩ : PayList)).Extras) p2 ∧ e 3 = p9 ∧ OB 2003 g w 25 (i7 : PayList) p9 ∧ OSF 2003 60300 0 g w 87 25 ((i7).Rates) p9 ∧ OSF 2003 60301 1 g w 3 25 ((i7).Extras) p9) (fun Q' hQ => ?_) (fun iI yI hR => ?_)
 ·replace h := hx
  clear hx
  refine E_seq (E_region (EL_at (.int .i64 (0)) rfl rfl ?_))
  refine EL_nil (thn_n (E_block ?_))
  refine E_lp h (fun (s : PayList × Int × Int) e w => ∃ (g : Gh) , Fr gI wI g w ∧ e 1 = p1 ∧ PT g.m w (x0 : Prices) p1 ∧ e 2 = p2 ∧ OB 2002 g w 25 ((⟨[], [], 0, 0⟩ : PayList) : PayList) p2 ∧ OSF 2002 60200 0 g w 87 25 (((⟨[], [], 0, 0⟩ : PayList)).Rates) p2 ∧ OSF 2002 60201 1 g w 3 25 (((⟨[], [], 0, 0⟩ : PayList)).Extras) p2 ∧ e 3 = p9 ∧ OB 2003 g w 25 (s.1 : PayList) p9 ∧ OSF 2003 60300 0 g w 87 25 ((s.1).Rates) p9 ∧ OSF 2003 60301 1 g w 3 25 ((s.1).Extras) p9 ∧ e 4 = .int .i64 (s.2.1) ∧ e 5 = .int .i64 (s.2.2)) ⟨iD, hfr, rfl, q1, rfl, b2, n8, o8, rfl, b10, bG, cG, rfl, rfl⟩ (fun X137 xC dG => ?_)
  rintro ⟨j1, i5, o0⟩ jI zI ⟨u9, hfr, o7, m7, q8, t8, u2_0_138, u2_1_138, x8, y8, u3_0_138, u3_1_138, a9, c7⟩ h
  refine E_joinC h (fun (s : Unit) e w => ∃ (g : Gh) , Fr gI wI g w ∧ e 1 = p1 ∧ PT g.m w (x0 : Prices) p1 ∧ e 2 = p2 ∧ OB 2002 g w 25 ((⟨[], [], 0, 0⟩ : PayList) : PayList) p2 ∧ OSF 2002 60200 0 g w 87 25 (((⟨[], [], 0, 0⟩ : PayList)).Rates) p2 ∧ OSF 2002 60201 1 g w 3 25 (((⟨[], [], 0, 0⟩ : PayList)).Extras) p2 ∧ e 3 = p9 ∧ OB 2003 g w 25 (j1 : PayList) p9 ∧ OSF 2003 60300 0 g w 87 25 ((j1).Rates) p9 ∧ OSF 2003 60301 1 g w 3 25 ((j1).Extras) p9 ∧ e 4 = .int .i64 (i5) ∧ e 5 = .int .i64 (o0)) (fun X149 bD eG h => ?_) ?_
  ·obtain ⟨y6, hx, h⟩ := bsome h
   refine E_join (fun e w => ∃ (g : Gh) , Fr gI wI g w ∧ e 1 = p1 ∧ PT g.m w (x0 : Prices) p1 ∧ e 2 = p2 ∧ OB 2002 g w 25 ((⟨[], [], 0, 0⟩ : PayList) : PayList) p2 ∧ OSF 2002 60200 0 g w 87 25 (((⟨[], [], 0, 0⟩ : PayList)).Rates) p2 ∧ OSF 2002 60201 1 g w 3 25 (((⟨[], [], 0, 0⟩ : PayList)).Extras) p2 ∧ e 3 = p9 ∧ OB 2003 g w 25 (j1 : PayList) p9 ∧ OSF 2003 60300 0 g w 87 25 ((j1).Rates) p9 ∧ OSF 2003 60301 1 g w 3 25 ((j1).Extras) p9 ∧ e 4 = .int .i64 (i5) ∧ e 5 = .int .i64 (o0) ∧ e 29 = .bool (y6)) (fun Q' hQ => ?_) (fun kI aJ hR => ?_)
   ·replace h := hx
    clear hx
    refine E_region (EL_mv c7 rfl ?_)
    refine EL_in (.bool ((o0 == (0 : Int)))) rfl rfl rfl rfl ?_
    refine EL_mw (.bool ((o0 == (0 : Int)))) rfl rfl ?_
    rcases csome h with ⟨i3, h⟩ | ⟨i3, h⟩
    ·refine EL_s rfl rfl i3 rfl rfl ?_
     iterate 5 refine EL_s rfl rfl i3 rfl rfl ?_
     refine EL_skip (.off rfl rfl) rfl ?_
     refine EL_skip (.off rfl rfl) rfl ?_
     refine EL_s rfl rfl i3 rfl rfl ?_
     refine EL_p (.bool true) (P_pick (b := (o0 == (0 : Int))) rfl (pick_t i3 rfl)) rfl ?_
     refine EL_nil ?_
     obtain rfl := sinj h
     exact hQ _ _ ⟨u9, hfr, o7, m7, q8, t8, u2_0_138, u2_1_138, x8, y8, u3_0_138, u3_1_138, a9, c7, rfl⟩
    ·refine EL_y (.int .i64 (o0)) (P_move c7) rfl rfl i3 rfl ?_
     refine EL_y (fPtr p1 0) (P_fieldAddr at_75_0 o7 (PT.ptr m7)) rfl rfl i3 rfl ?_
     have sG := PT_field (part_Prices_0).1 m7
     refine EL_do (.yes2 rfl rfl i3) rfl (D_load (g := u9) Tryz.isAgg72 Tryz.sizeOf72 rfl sG fun bJ tG => ?_)
     refine EL_y (.int .i64 (((x0).Rates).length : Int)) (P_len Tryz.underlying72 rfl tG) rfl rfl i3 rfl ?_
     refine EL_y (.bool ((decide (o0 < (((x0).Rates).length : Int))))) (P_int rfl rfl rfl) rfl rfl i3 rfl ?_
     refine EL_y (.bool ((decide (o0 < (((x0).Rates).length : Int))))) (P_move rfl) rfl rfl i3 rfl ?_
     rcases csome h with ⟨e7, h⟩ | ⟨e7, h⟩
     ·refine EL_y (.int .i64 (o0)) (P_move c7) rfl rfl e7 rfl ?_
      refine EL_y (.bool ((decide (o0 < (6 : Int))))) (P_int rfl rfl rfl) rfl rfl e7 rfl ?_
      refine EL_y (.bool ((decide (o0 < (6 : Int))))) (P_pick (b := (decide (o0 < (((x0).Rates).length : Int)))) rfl (pick_t e7 rfl)) rfl rfl i3 rfl ?_
      refine EL_p (.bool ((decide (o0 < (6 : Int))))) (P_pick (b := (o0 == (0 : Int))) rfl (pick_f i3 rfl)) rfl ?_
      refine EL_nil ?_
      obtain rfl := sinj h
      exact hQ _ _ ⟨u9, hfr, o7, m7, q8, t8, u2_0_138, u2_1_138, x8, y8, u3_0_138, u3_1_138, a9, c7, rfl⟩
     ·refine EL_s rfl rfl e7 rfl rfl ?_
      refine EL_s rfl rfl e7 rfl rfl ?_
      refine EL_y (.bool false) (P_pick (b := (decide (o0 < (((x0).Rates).length : Int)))) rfl (pick_f e7 rfl)) rfl rfl i3 rfl ?_
      refine EL_p (.bool false) (P_pick (b := (o0 == (0 : Int))) rfl (pick_f i3 rfl)) rfl ?_
      refine EL_nil ?_
      obtain rfl := sinj h
      exact hQ _ _ ⟨u9, hfr, o7, m7, q8, t8, u2_0_138, u2_1_138, x8, y8, u3_0_138, u3_1_138, a9, c7, rfl⟩
   ·clear hx
    obtain ⟨jD, hfr, jA, lA, mA, nA, u2_0_158, u2_1_158, oA, pA, u3_0_158, u3_1_158, kD, lD, n9⟩ := hR
    rcases csome h with ⟨y9, h⟩ | ⟨y9, h⟩
    ·refine E_cond_true (Eq.trans (show ev _ _ = .bool (y6) from n9) (congrArg Value.bool y9)) ?_
     exact E_skip (thn_n (eG () _ _ ⟨jD, hfr, jA, lA, mA, nA, u2_0_158, u2_1_158, oA, pA, u3_0_158, u3_1_158, kD, lD⟩ h))
    ·refine E_cond_false (Eq.trans (show ev _ _ = .bool (y6) from n9) (congrArg Value.bool y9)) ?_
     refine E_exit ?_
     refine thn_e ?_
     refine thn_e ?_
     refine blk_hit ?_
     obtain rfl := sinj h
     exact hQ _ _ ⟨jD, hfr, jA, lA, mA, nA, u2_0_158, u2_1_158, oA, pA, u3_0_158, u3_1_158⟩
  ·rintro _ lI cJ ⟨d9, hfr, u7, d7, qA, rA, u2_0_160, u2_1_160, uA, xA, u3_0_160, u3_1_160, yA, v7⟩ h
   obtain ⟨⟨x6, n7⟩, hx, h⟩ := bsome h
   refine E_join (fun e w => ∃ (g : Gh) , Fr gI wI g w ∧ e 1 = p1 ∧ PT g.m w (x0 : Prices) p1 ∧ e 2 = p2 ∧ OB 2002 g w 25 ((⟨[], [], 0, 0⟩ : PayList) : PayList) p2 ∧ OSF 2002 60200 0 g w 87 25 (((⟨[], [], 0, 0⟩ : PayList)).Rates) p2 ∧ OSF 2002 60201 1 g w 3 25 (((⟨[], [], 0, 0⟩ : PayList)).Extras) p2 ∧ e 3 = p9 ∧ OB 2003 g w 25 (x6 : PayList) p9 ∧ OSF 2003 60300 0 g w 87 25 ((x6).Rates) p9 ∧ OSF 2003 60301 1 g w 3 25 ((x6).Extras) p9 ∧ e 4 = .int .i64 (n7) ∧ e 5 = .int .i64 (o0)) (fun Q' hQ => ?_) (fun mI dJ hR => ?_)
   ·replace h := hx
    clear hx
    refine E_block ?_
    refine E_seq (E_region (EL_at (.int .i64 (25)) rfl rfl ?_))
    refine EL_nil (thn_n ?_)
    obtain ⟨u3, hx, h⟩ := bsome h
    refine E_join (fun e w => ∃ (g : Gh) , Fr gI wI g w ∧ e 1 = p1 ∧ PT g.m w (x0 : Prices) p1 ∧ e 2 = p2 ∧ OB 2002 g w 25 ((⟨[], [], 0, 0⟩ : PayList) : PayList) p2 ∧ OSF 2002 60200 0 g w 87 25 (((⟨[], [], 0, 0⟩ : PayList)).Rates) p2 ∧ OSF 2002 60201 1 g w 3 25 (((⟨[], [], 0, 0⟩ : PayList)).Extras) p2 ∧ e 3 = p9 ∧ OB 2003 g w 25 (j1 : PayList) p9 ∧ OSF 2003 60300 0 g w 87 25 ((j1).Rates) p9 ∧ OSF 2003 60301 1 g w 3 25 ((j1).Extras) p9 ∧ e 4 = .int .i64 (i5) ∧ e 5 = .int .i64 (o0) ∧ e 6 = .int .i64 (u3)) (fun Q' hQ => ?_) (fun nI eJ hR => ?_)
    ·replace h := hx
     clear hx
     refine E_seq (E_region (EL_mv v7 rfl ?_))
     refine EL_p (fPtr p1 0) (P_fieldAddr at_75_0 u7 (PT.ptr d7)) rfl ?_
     have uG := PT_field (part_Prices_0).1 d7
     refine EL_do .plain rfl (D_load (g := d9) Tryz.isAgg72 Tryz.sizeOf72 rfl uG fun gJ vG => ?_)
     refine EL_p (.int .i64 (((x0).Rates).length : Int)) (P_len Tryz.underlying72 rfl vG) rfl ?_
     refine EL_p (.bool ((decide (o0 < (((x0).Rates).length : Int))))) (P_int rfl rfl rfl) rfl ?_
     refine EL_nil (thn_n ?_)
     rcases csome h with ⟨z9, h⟩ | ⟨z9, h⟩
     ·refine E_ct z9 rfl ?_
      refine E_region (EL_p (fPtr p1 0) (P_fieldAddr at_75_0 u7 (PT.ptr d7)) rfl ?_)
      have xG := PT_field (part_Prices_0).1 d7
      refine EL_do .plain rfl (D_load (g := d9) Tryz.isAgg72 Tryz.sizeOf72 rfl xG fun mD nD => ?_)
      refine EL_mv v7 rfl ?_
      obtain ⟨yC, qC, h⟩ := bsome h
      refine EL_p (ePtr mD o0 2) (P_indexAddr (α := Vector UInt16 2) Tryz.underlying72 Tryz.sizeOf142 rfl nD rfl qC) rfl ?_
      have oD := PT_idx nD qC
      obtain ⟨cC, rC, h⟩ := bsome h
      refine EL_p (fPtr (ePtr mD o0 2) (((1 : Int) : Int).toNat * 1)) (P_indexAddrA (α := UInt16) Tryz.underlying142 Tryz.sizeOf81 rfl (PT.ptr oD) rfl rC) rfl ?_
      have yG := PT_idxA oD rC
      refine EL_do .plain rfl (D_load (g := d9) Tryz.isAgg81 Tryz.sizeOf81 rfl yG fun iJ zG => ?_)
      obtain rfl := RV_u16.1 zG
      refine EL_p (.int .i64 (((cC).toNat : Int))) (P_u16int Tryz.underlying81 Tryz.underlying3 rfl) rfl ?_
      obtain ⟨t9, gG, h⟩ := bsome h
      refine EL_p (.int .i64 (t9)) (P_int rfl rfl (congrArg (Option.map (Value.int .i64)) gG)) rfl ?_
      refine EL_at (.int .i64 (t9)) rfl rfl ?_
      refine EL_nil ?_
      obtain rfl := sinj h
      exact hQ _ _ ⟨d9, hfr, u7, d7, qA, rA, u2_0_160, u2_1_160, uA, xA, u3_0_160, u3_1_160, yA, v7, rfl⟩
     ·refine E_cf z9 rfl ?_
      refine E_skip ?_
      obtain rfl := sinj h
      exact hQ _ _ ⟨d9, hfr, u7, d7, qA, rA, u2_0_160, u2_1_160, uA, xA, u3_0_160, u3_1_160, yA, v7, rfl⟩
    ·clear hx
     obtain ⟨bA, hfr, e9, c8, zA, aB, u2_0_233, u2_1_233, bB, cB, u3_0_233, u3_1_233, dB, g8, eB⟩ := hR
     obtain ⟨z3, hx, h⟩ := bsome h
     refine E_join (fun e w => ∃ (g : Gh) , Fr gI wI g w ∧ e 1 = p1 ∧ PT g.m w (x0 : Prices) p1 ∧ e 2 = p2 ∧ OB 2002 g w 25 ((⟨[], [], 0, 0⟩ : PayList) : PayList) p2 ∧ OSF 2002 60200 0 g w 87 25 (((⟨[], [], 0, 0⟩ : PayList)).Rates) p2 ∧ OSF 2002 60201 1 g w 3 25 (((⟨[], [], 0, 0⟩ : PayList)).Extras) p2 ∧ e 3 = p9 ∧ OB 2003 g w 25 (j1 : PayList) p9 ∧ OSF 2003 60300 0 g w 87 25 ((j1).Rates) p9 ∧ OSF 2003 60301 1 g w 3 25 ((j1).Extras) p9 ∧ e 4 = .int .i64 (z3) ∧ e 5 = .int .i64 (o0) ∧ e 6 = .int .i64 (u3)) (fun Q' hQ => ?_) (fun pI aH hR => ?_)
     ·replace h := hx
      clear hx
      refine E_seq (E_region (EL_mv g8 rfl ?_))
      refine EL_in (.bool ((decide (o0 > (0 : Int))))) rfl rfl rfl rfl ?_
      refine EL_nil (thn_n ?_)
      rcases csome h with ⟨gA, h⟩ | ⟨gA, h⟩
      ·refine E_ct gA rfl ?_
       refine E_region (EL_mv dB rfl ?_)
       refine EL_p (fPtr p1 0) (P_fieldAddr at_75_0 e9 (PT.ptr c8)) rfl ?_
       have bH := PT_field (part_Prices_0).1 c8
       refine EL_do .plain rfl (D_load (g := bA) Tryz.isAgg72 Tryz.sizeOf72 rfl bH fun sD tD => ?_)
       refine EL_mv g8 rfl ?_
       obtain ⟨aD, tC, h⟩ := bsome h
       refine EL_p (ePtr sD o0 2) (P_indexAddr (α := Vector UInt16 2) Tryz.underlying72 Tryz.sizeOf142 rfl tD rfl tC) rfl ?_
       have uD := PT_idx tD tC
       obtain ⟨dC, uC, h⟩ := bsome h
       refine EL_p (fPtr (ePtr sD o0 2) (((0 : Int) : Int).toNat * 1)) (P_indexAddrA (α := UInt16) Tryz.underlying142 Tryz.sizeOf81 rfl (PT.ptr uD) rfl uC) rfl ?_
       have cH := PT_idxA uD uC
       refine EL_do .plain rfl (D_load (g := bA) Tryz.isAgg81 Tryz.sizeOf81 rfl cH fun jJ dH => ?_)
       obtain rfl := RV_u16.1 dH
       refine EL_p (.int .i64 (((dC).toNat : Int))) (P_u16int Tryz.underlying81 Tryz.underlying3 rfl) rfl ?_
       obtain ⟨l8, hG, h⟩ := bsome h
       refine EL_p (.int .i64 (l8)) (P_int rfl rfl (congrArg (Option.map (Value.int .i64)) hG)) rfl ?_
       refine EL_in (.int .i64 ((w64 ((1 : Int) + l8)))) rfl rfl rfl rfl ?_
       refine EL_p (.int .i64 ((w64 (i5 + (w64 ((1 : Int) + l8)))))) (P_int rfl rfl rfl) rfl ?_
       refine EL_p (.int .i64 ((w64 (i5 + (w64 ((1 : Int) + l8)))))) (P_assign rfl) rfl ?_
       refine EL_nil ?_
       obtain rfl := sinj h
       exact hQ _ _ ⟨bA, hfr, e9, c8, zA, aB, u2_0_233, u2_1_233, bB, cB, u3_0_233, u3_1_233, rfl, g8, eB⟩
      ·refine E_cf gA rfl ?_
       refine E_skip ?_
       obtain rfl := sinj h
       exact hQ _ _ ⟨bA, hfr, e9, c8, zA, aB, u2_0_233, u2_1_233, bB, cB, u3_0_233, u3_1_233, dB, g8, eB⟩
     ·clear hx
      obtain ⟨jC, hfr, vD, x5, xD, i6, u2_0_252, u2_1_252, i9, l5, u3_0_252, u3_1_252, iB, yD, zD⟩ := hR
      refine E_region (EL_p (fPtr p9 0) (P_fieldAddr at_25_0 i9 (OB.ptr l5)) rfl ?_)
      refine EL_do .plain rfl (D_loadFS (g := jC) part_PayList_0.1 Tryz.isAgg22 Tryz.sizeOf22 rfl l5 u3_0_252 fun kJ kC o254 => ?_)
      refine EL_mv iB rfl ?_
      refine EL_mv zD rfl ?_
      have aE : RV jC.m aH (⟨z3, u3⟩ : PayRate) (.agg (setCh [[.int .i64 0], [.int .i64 0]] [(0, .int .i64 (z3)), (1, .int .i64 (u3))]).flatten.toArray) := RV_build rfl (rep_pair (rfl) (rep_last (rfl)))
      generalize iG : (Value.agg (setCh [[.int .i64 0], [.int .i64 0]] [(0, .int .i64 (z3)), (1, .int .i64 (u3))]).flatten.toArray) = bE at aE
      refine EL_p bE (iG ▸ P_build (vs := [(0, .int .i64 (z3)), (1, .int .i64 (u3))]) [[.int .i64 0], [.int .i64 0]] lay_87 rfl rfl (.cons rfl (.cons rfl .nil)) ⟨⟨_, rfl, rfl⟩, ⟨⟨_, rfl, rfl⟩, trivial⟩⟩) rfl ?_
      refine EL_do .plain rfl (D_buildSlice (g := jC) 3063 (xs := ([(⟨z3, u3⟩ : PayRate)] : List PayRate)) (vs := [bE]) Tryz.underlying22 Tryz.sizeOf87 Tryz.zeroValue87 rfl rfl (.cons rfl .nil) (RVs.cons aE RVs.nil) rfl rfl fun gH lJ mJ hs o256 iH hxt hfl => ?_)
      have hfr := hfr.stp hs
      have x5 := x5.stp hs
      have u2_0_252 := u2_0_252.stp hs rfl
      have u2_1_252 := u2_1_252.stp hs rfl
      have i6 := i6.stp hs rfl
      have u3_1_252 := u3_1_252.stp hs rfl
      have l5 := l5.stp hs rfl
      have kC := kC.stp hs
      have o254 := o254.stp hs rfl
      obtain ⟨eC, jG, h⟩ := bsome h
      refine EL_do .plain rfl (D_append (g := gH) (i := 60300) Tryz.underlying22 info_87 rfl rfl o254 kC rfl iH jG fun jH nJ oJ hs o257 cE _ => ?_)
      have hfr := hfr.stp hs
      have x5 := x5.stp hs
      have u2_0_252 := u2_0_252.stp hs rfl
      have u2_1_252 := u2_1_252.stp hs rfl
      have i6 := i6.stp hs rfl
      have u3_1_252 := u3_1_252.stp hs rfl
      have l5 := l5.stp hs rfl
      refine EL_p (fPtr p9 0) (P_fieldAddr at_25_0 i9 (OB.ptr l5)) rfl ?_
      refine EL_do .plain rfl (D_storeFc (g := jH) part_PayList_0 Tryz.sizeOf22 rfl l5 rfl cE fun kH pJ hs b260 rst hos => ?_)
      have u3_1_252 := u3_1_252.rest hs rst
      have dE := hos _ _ 60300 87 (eC : List PayRate) (rv_cells1 cE) rfl o257
      clear rst hos
      have hfr := hfr.stp hs
      have x5 := x5.stp hs
      have u2_0_252 := u2_0_252.stp hs rfl
      have u2_1_252 := u2_1_252.stp hs rfl
      have i6 := i6.stp hs rfl
      refine EL_nil (blk_n ?_)
      obtain ⟨rfl, rfl⟩ := pairs2 h
      exact hQ _ _ ⟨kH, hfr, vD, x5, xD, i6, u2_0_252, u2_1_252, i9, b260, dE, u3_1_252, iB, yD⟩
   ·clear hx
    obtain ⟨lH, hfr, eE, gE, iE, jE, u2_0_261, u2_1_261, kE, lE, u3_0_261, u3_1_261, mE, nE⟩ := hR
    refine E_region (EL_mv nE rfl ?_)
    refine EL_in (.int .i64 ((w64 (o0 + (1 : Int))))) rfl rfl rfl rfl ?_
    refine EL_at (.int .i64 ((w64 (o0 + (1 : Int))))) rfl rfl ?_
    exact EL_nil (thn_n (dG (x6, n7, (w64 (o0 + (1 : Int)))) _ _ ⟨lH, hfr, eE, gE, iE, jE, u2_0_261, u2_1_261, kE, lE, u3_0_261, u3_1_261, mE, rfl⟩ h))
 ·clear hx
  obtain ⟨mH, hfr, oE, rE, sE, tE, u2_0_262, u2_1_262, uE, vE, u3_0_262, u3_1_262⟩ := hR
  obtain ⟨j7, hx, h⟩ := bsome h
  refine E_join (fun e w => ∃ (g : Gh) , Fr gI wI g w ∧ e 2 = p2 ∧ OB 2002 g w 25 ((⟨[], [], 0, 0⟩ : PayList) : PayList) p2 ∧ OSF 2002 60200 0 g w 87 25 (((⟨[], [], 0, 0⟩ : PayList)).Rates) p2 ∧ OSF 2002 60201 1 g w 3 25 (((⟨[], [], 0, 0⟩ : PayList)).Extras) p2 ∧ e 3 = p9 ∧ OB 2003 g w 25 (j7 : PayList) p9 ∧ OSF 2003 60300 0 g w 87 25 ((j7).Rates) p9 ∧ OSF 2003 60301 1 g w 3 25 ((j7).Extras) p9) (fun Q' hQ => ?_) (fun qI qJ hR => ?_)
  ·replace h := hx
   clear hx
   refine E_seq (E_region (EL_at (.int .i64 (0)) rfl rfl ?_))
   refine EL_nil (thn_n (E_block ?_))
   refine E_lp h (fun (s : PayList × Int) e w => ∃ (g : Gh) , Fr gI wI g w ∧ e 1 = p1 ∧ PT g.m w (x0 : Prices) p1 ∧ e 2 = p2 ∧ OB 2002 g w 25 ((⟨[], [], 0, 0⟩ : PayList) : PayList) p2 ∧ OSF 2002 60200 0 g w 87 25 (((⟨[], [], 0, 0⟩ : PayList)).Rates) p2 ∧ OSF 2002 60201 1 g w 3 25 (((⟨[], [], 0, 0⟩ : PayList)).Extras) p2 ∧ e 3 = p9 ∧ OB 2003 g w 25 (s.1 : PayList) p9 ∧ OSF 2003 60300 0 g w 87 25 ((s.1).Rates) p9 ∧ OSF 2003 60301 1 g w 3 25 ((s.1).Extras) p9 ∧ e 7 = .int .i64 (s.2)) ⟨mH, hfr, oE, rE, sE, tE, u2_0_262, u2_1_262, uE, vE, u3_0_262, u3_1_262, rfl⟩ (fun X338 cD kG => ?_)
   rintro ⟨j3, u0⟩ rI rJ ⟨lC, hfr, k9, i8, jB, lB, u2_0_339, u2_1_339, mB, nB, u3_0_339, u3_1_339, k8⟩ h
   refine E_joinC h (fun (s : Unit) e w => ∃ (g : Gh) , Fr gI wI g w ∧ e 1 = p1 ∧ PT g.m w (x0 : Prices) p1 ∧ e 2 = p2 ∧ OB 2002 g w 25 ((⟨[], [], 0, 0⟩ : PayList) : PayList) p2 ∧ OSF 2002 60200 0 g w 87 25 (((⟨[], [], 0, 0⟩ : PayList)).Rates) p2 ∧ OSF 2002 60201 1 g w 3 25 (((⟨[], [], 0, 0⟩ : PayList)).Extras) p2 ∧ e 3 = p9 ∧ OB 2003 g w 25 (j3 : PayList) p9 ∧ OSF 2003 60300 0 g w 87 25 ((j3).Rates) p9 ∧ OSF 2003 60301 1 g w 3 25 ((j3).Extras) p9 ∧ e 7 = .int .i64 (u0)) (fun X348 eD lG h => ?_) ?_
   ·obtain ⟨b7, hx, h⟩ := bsome h
    refine E_join (fun e w => ∃ (g : Gh) , Fr gI wI g w ∧ e 1 = p1 ∧ PT g.m w (x0 : Prices) p1 ∧ e 2 = p2 ∧ OB 2002 g w 25 ((⟨[], [], 0, 0⟩ : PayList) : PayList) p2 ∧ OSF 2002 60200 0 g w 87 25 (((⟨[], [], 0, 0⟩ : PayList)).Rates) p2 ∧ OSF 2002 60201 1 g w 3 25 (((⟨[], [], 0, 0⟩ : PayList)).Extras) p2 ∧ e 3 = p9 ∧ OB 2003 g w 25 (j3 : PayList) p9 ∧ OSF 2003 60300 0 g w 87 25 ((j3).Rates) p9 ∧ OSF 2003 60301 1 g w 3 25 ((j3).Extras) p9 ∧ e 7 = .int .i64 (u0) ∧ e 74 = .bool (b7)) (fun Q' hQ => ?_) (fun sI sJ hR => ?_)
    ·replace h := hx
     clear hx
     refine E_region (EL_mv k8 rfl ?_)
     refine EL_p (fPtr p1 1) (P_fieldAddr at_75_1 k9 (PT.ptr i8)) rfl ?_
     have nH := PT_field (part_Prices_1).1 i8
     refine EL_do .plain rfl (D_load (g := lC) Tryz.isAgg73 Tryz.sizeOf73 rfl nH fun tJ oH => ?_)
     refine EL_p (.int .i64 (((x0).Extras).length : Int)) (P_len Tryz.underlying73 rfl oH) rfl ?_
     refine EL_p (.bool ((decide (u0 < (((x0).Extras).length : Int))))) (P_int rfl rfl rfl) rfl ?_
     refine EL_p (.bool ((decide (u0 < (((x0).Extras).length : Int))))) (P_move rfl) rfl ?_
     rcases csome h with ⟨g7, h⟩ | ⟨g7, h⟩
     ·refine EL_y (.int .i64 (u0)) (P_move k8) rfl rfl g7 rfl ?_
      refine EL_y (.bool ((decide (u0 < (8 : Int))))) (P_int rfl rfl rfl) rfl rfl g7 rfl ?_
      refine EL_p (.bool ((decide (u0 < (8 : Int))))) (P_pick (b := (decide (u0 < (((x0).Extras).length : Int)))) rfl (pick_t g7 rfl)) rfl ?_
      refine EL_nil ?_
      obtain rfl := sinj h
      exact hQ _ _ ⟨lC, hfr, k9, i8, jB, lB, u2_0_339, u2_1_339, mB, nB, u3_0_339, u3_1_339, k8, rfl⟩
     ·refine EL_s rfl rfl g7 rfl rfl ?_
      refine EL_s rfl rfl g7 rfl rfl ?_
      refine EL_p (.bool false) (P_pick (b := (decide (u0 < (((x0).Extras).length : Int)))) rfl (pick_f g7 rfl)) rfl ?_
      refine EL_nil ?_
      obtain rfl := sinj h
      exact hQ _ _ ⟨lC, hfr, k9, i8, jB, lB, u2_0_339, u2_1_339, mB, nB, u3_0_339, u3_1_339, k8, rfl⟩
    ·clear hx
     obtain ⟨xE, hfr, yE, zE, oB, tB, u2_0_355, u2_1_355, vB, xB, u3_0_355, u3_1_355, cF, o9⟩ := hR
     rcases csome h with ⟨iA, h⟩ | ⟨iA, h⟩
     ·refine E_cond_true (Eq.trans (show ev _ _ = .bool (b7) from o9) (congrArg Value.bool iA)) ?_
      exact E_skip (thn_n (lG () _ _ ⟨xE, hfr, yE, zE, oB, tB, u2_0_355, u2_1_355, vB, xB, u3_0_355, u3_1_355, cF⟩ h))
     ·refine E_cond_false (Eq.trans (show ev _ _ = .bool (b7) from o9) (congrArg Value.bool iA)) ?_
      refine E_exit ?_
      refine thn_e ?_
      refine thn_e ?_
      refine blk_hit ?_
      obtain rfl := sinj h
      exact hQ _ _ ⟨xE, hfr, oB, tB, u2_0_355, u2_1_355, vB, xB, u3_0_355, u3_1_355⟩
   ·rintro _ tI uJ ⟨pH, hfr, yB, z4, dF, j6, u2_0_357, u2_1_357, l9, t5, u3_0_357, u3_1_357, zB⟩ h
    obtain ⟨a7, hx, h⟩ := bsome h
    refine E_join (fun e w => ∃ (g : Gh) , Fr gI wI g w ∧ e 1 = p1 ∧ PT g.m w (x0 : Prices) p1 ∧ e 2 = p2 ∧ OB 2002 g w 25 ((⟨[], [], 0, 0⟩ : PayList) : PayList) p2 ∧ OSF 2002 60200 0 g w 87 25 (((⟨[], [], 0, 0⟩ : PayList)).Rates) p2 ∧ OSF 2002 60201 1 g w 3 25 (((⟨[], [], 0, 0⟩ : PayList)).Extras) p2 ∧ e 3 = p9 ∧ OB 2003 g w 25 (a7 : PayList) p9 ∧ OSF 2003 60300 0 g w 87 25 ((a7).Rates) p9 ∧ OSF 2003 60301 1 g w 3 25 ((a7).Extras) p9 ∧ e 7 = .int .i64 (u0)) (fun Q' hQ => ?_) (fun uI vJ hR => ?_)
    ·replace h := hx
     clear hx
     refine E_block ?_
     refine L_loadFS (x := .tmp 77) part_PayList_1.1 Tryz.isAgg23 Tryz.sizeOf23 t5 u3_1_357 fun qH mC o386 mG => ?_
     have sH := PT_field (part_Prices_1).1 z4
     refine L_load (x := .tmp 79) Tryz.isAgg73 Tryz.sizeOf73 sH fun eF iF nG => ?_
     obtain ⟨o3, vC, h⟩ := bsome h
     have tH := PT_idx iF vC
     refine L_load (x := .tmp 82) Tryz.isAgg5 Tryz.sizeOf5 tH fun xJ uH oG => ?_
     obtain rfl := RV_u8.1 uH
     refine E_drawL (g := pH) (n := 10) [(9, (fun v g w => RV g.m w ([(w64 ((3 : Int) * ((o3).toNat : Int)))] : List Int) v ∧ OS 3086 g w 3 ([(w64 ((3 : Int) * ((o3).toNat : Int)))] : List Int) v ∧ FullV v))] [0, 1, 2, 3, 4, 5, 6, 7, 8, 9] rfl mixed (by kernel_rfl) (⟨fun _ => up_and up_rv (up_and up_os (up_eq _)), trivial⟩) ?_
     refine L_p (fPtr p9 1) rfl rfl (P_fieldAddr at_25_1 l9 (OB.ptr t5)) ?_
     refine L_ld (c := qH) rfl rfl .plain (fun _ _ h => ⟨h.ch, fun b hb _ => h.below.block b hb⟩) mG rfl ?_
     refine L_p (fPtr p1 1) rfl rfl (P_fieldAddr at_75_1 yB (PT.ptr z4)) ?_
     refine L_ld (c := eF) rfl rfl .plain (fun _ _ h => h.ch) nG rfl ?_
     refine L_p (.int .i64 (u0)) rfl rfl (P_move zB) ?_
     refine L_p (ePtr eF u0 1) rfl rfl (P_indexAddr (α := UInt8) Tryz.underlying73 Tryz.sizeOf5 rfl iF rfl vC) ?_
     refine L_ld (c := .int .u8 (UInt8.toNat (o3))) rfl rfl .plain (fun _ _ h => h.ch) oG rfl ?_
     refine L_p (.int .i64 (((o3).toNat : Int))) rfl rfl (P_u8int Tryz.underlying5 Tryz.underlying3 rfl) ?_
     refine L_p (.int .i64 ((w64 ((3 : Int) * ((o3).toNat : Int))))) rfl rfl (P_int rfl rfl rfl) ?_
     refine L_do (φ := fun v g w => RV g.m w ([(w64 ((3 : Int) * ((o3).toNat : Int)))] : List Int) v ∧ OS 3086 g w 3 ([(w64 ((3 : Int) * ((o3).toNat : Int)))] : List Int) v ∧ FullV v) rfl rfl .plain (fun g w hd => D_buildSlice (g := g) 3086 (xs := ([(w64 ((3 : Int) * ((o3).toNat : Int)))] : List Int)) (vs := [.int .i64 ((w64 ((3 : Int) * ((o3).toNat : Int))))]) Tryz.underlying23 Tryz.sizeOf3 Tryz.zeroValue3 rfl rfl (.cons rfl .nil) (RVs.cons (RV_int.2 rfl) RVs.nil) rfl rfl fun g' w' v hs o r hxt hfl => ⟨g', hxt, r, o, hfl⟩) (fun m8 hv => ?_)
     clear hv
     refine L_nil fun vH yJ hall => ?_
     have hs := hall.1
     have hfr := hfr.ext hs
     have z4 := z4.ext hs
     have u2_0_357 := u2_0_357.ext hs
     have u2_1_357 := u2_1_357.ext hs
     have j6 := j6.ext hs
     have u3_0_357 := u3_0_357.ext hs
     have t5 := t5.ext hs
     have mC := mC.ext hs
     have o386 := o386.ext hs
     have xH := (word_all (A := fun g w => RV g.m w ([(w64 ((3 : Int) * ((o3).toNat : Int)))] : List Int) m8 ∧ OS 3086 g w 3 ([(w64 ((3 : Int) * ((o3).toNat : Int)))] : List Int) m8 ∧ FullV m8) 9 rfl hall).1
     have o407 := (word_all (A := fun g w => RV g.m w ([(w64 ((3 : Int) * ((o3).toNat : Int)))] : List Int) m8 ∧ OS 3086 g w 3 ([(w64 ((3 : Int) * ((o3).toNat : Int)))] : List Int) m8 ∧ FullV m8) 9 rfl hall).2.1
     clear hs hall
     obtain ⟨iC, pG, h⟩ := bsome h
     refine EL_do .plain rfl (D_append (g := vH) (i := 60301) Tryz.underlying23 info_3 rfl rfl o386 mC rfl xH pG fun yH zJ aK hs o408 nF _ => ?_)
     have hfr := hfr.stp hs
     have z4 := z4.stp hs
     have u2_0_357 := u2_0_357.stp hs rfl
     have u2_1_357 := u2_1_357.stp hs rfl
     have j6 := j6.stp hs rfl
     have u3_0_357 := u3_0_357.stp hs rfl
     have t5 := t5.stp hs rfl
     refine EL_p (fPtr p9 1) (P_fieldAddr at_25_1 l9 (OB.ptr t5)) rfl ?_
     refine EL_do .plain rfl (D_storeFc (g := yH) part_PayList_1 Tryz.sizeOf23 rfl t5 rfl nF fun zH bK hs b411 rst hos => ?_)
     have u3_0_357 := u3_0_357.rest hs rst
     have oF := hos _ _ 60301 3 (iC : List Int) (rv_cells1 nF) rfl o408
     clear rst hos
     have hfr := hfr.stp hs
     have z4 := z4.stp hs
     have u2_0_357 := u2_0_357.stp hs rfl
     have u2_1_357 := u2_1_357.stp hs rfl
     have j6 := j6.stp hs rfl
     refine EL_nil (blk_n ?_)
     obtain rfl := sinj h
     exact hQ _ _ ⟨zH, hfr, yB, z4, dF, j6, u2_0_357, u2_1_357, l9, b411, u3_0_357, oF, zB⟩
    ·clear hx
     obtain ⟨aI, hfr, pF, qF, rF, sF, u2_0_412, u2_1_412, tF, uF, u3_0_412, u3_1_412, vF⟩ := hR
     refine E_region (EL_mv vF rfl ?_)
     refine EL_in (.int .i64 ((w64 (u0 + (1 : Int))))) rfl rfl rfl rfl ?_
     refine EL_at (.int .i64 ((w64 (u0 + (1 : Int))))) rfl rfl ?_
     exact EL_nil (thn_n (kG (a7, (w64 (u0 + (1 : Int)))) _ _ ⟨aI, hfr, pF, qF, rF, sF, u2_0_412, u2_1_412, tF, uF, u3_0_412, u3_1_412, rfl⟩ h))
  ·clear hx
   obtain ⟨xF, hfr, aC, yF, u2_0_413, u2_1_413, zF, aG, u3_0_413, u3_1_413⟩ := hR
   refine E_seq (E_region (EL_do .plain rfl (D_loadO (g := xF) Tryz.isAgg25 Tryz.sizeOf25 zF aG fun bI cI => ?_)))
   refine EL_do .plain rfl (D_storeOc (g := xF) (v := bI) Tryz.sizeOf25 aC yF rfl cI fun cK dK hs b415 cb => ?_)
   clear cb
   have hfr := hfr.stp hs
   refine EL_nil (thn_n (E_ret ?_))
   obtain rfl := sinj h
   obtain ⟨ad416, cv416, hp416, qG, cr416⟩ := ob_read Tryz.isAgg25 Tryz.sizeOf25 b415
   exact endm_c rfl rfl ((show _ = p2 from aC).trans hp416) qG ⟨_, hfr, cr416⟩
def f39 (x0 : Cut) (x1 : PayList) : Option (PayPiece) :=
 (rem64 (((x0).Weaver).toNat : Int) (51 : Int)).bind fun y6 =>
 (rem64 (((x0).Dense).toNat : Int) (1001 : Int)).bind fun y9 =>
 (rem64 (((x0).Picks).toNat : Int) (1000001 : Int)).bind fun q5 =>
 (rem64 (((x0).Faults).toNat : Int) (101 : Int)).bind fun t5 =>
 Option.bind (α := PayPiece) (
  lp (σ := PayPiece × Int) (fun o9 (u3, o0) =>
   jn (σ := Unit) (fun _ =>
    Option.bind (α := PayPiece) (
     (u8shr (x0).Extras (wu64 o0)).bind fun v6 =>
     bif ((v6 &&& (1 : UInt8)) == (1 : UInt8)) then
      (apnd 8 ((u3).Extras) (([o0] : List Int))).bind fun v7 =>
      some ({ u3 with Extras := v7 })
     else
      some (u3)
     ) fun z3 =>
    o9 (z3, (w64 (o0 + (1 : Int))))
    ) fun k57 =>
   bif (decide (o0 < (((x1).Extras).length : Int))) then
    k57 ()
   else
    some (u3)
   ) big ((⟨y6, y9, q5, [], t5⟩ : PayPiece), (0 : Int))
  ) fun z4 =>
 some (z4)
theorem en39 : Enters Tryz.prog 39 := enters_of Tryz.func39 (by kernel_rfl) rfl
theorem wk39 {gI : Gh} {wI : World} {x0 : Cut} {x1 : PayList} {up0 : Value} (rp0 : RV gI.m wI x0 up0) {up1 : Value} (rp1 : RV gI.m wI x1 up1) {r : PayPiece} (h : f39 x0 x1 = some r) : Fn Tryz.prog 39 #[up0, up1] gI wI (fun m w v => RV m w (r) v) := by
 unfold f39 at h
 refine fn_of_E Tryz.func39 rfl (Nat.le_of_ble_eq_true rfl) fun g0 hm hfr => ?_
 have rp0 : RV g0.m wI x0 up0 := hm ▸ rp0
 have rp1 : RV g0.m wI x1 up1 := hm ▸ rp1
 show E _ 45 none _ _ _ _ _
 refine E_seq (E_region (EL_do .plain rfl (D_box (g := g0) rfl rp0 fun g1 w1 p1 hs q1 => ?_)))
 have hfr := hfr.ext hs
 have rp1 := rp1.ext hs
 refine EL_do .plain rfl (D_box (g := g1) rfl rp1 fun g2 w2 p2 hs q2 => ?_)
 have hfr := hfr.ext hs
 have q1 := q1.ext hs
 refine EL_do .plain rfl (D_allocOc (g := g2) 2004 (⟨0, 0, 0, [], 0⟩ : PayPiece) Tryz.zeroValue27 (fun m w => ⟨_, (rep_two rep_int (rep_two rep_int (rep_two rep_int (rep_two rep_nil rep_int)))), rfl⟩) fun g3 w3 p3 hs b3 cb => ?_)
 have hfr := hfr.stp hs
 have q1 := q1.stp hs
 have q2 := q2.stp hs
 have x5 : OSF 2004 60403 3 g3 w3 3 27 ([] : List Int) p3 := cb.osf (by rfl)
 clear cb
 refine EL_nil (thn_n (E_seq (E_region (EL_p (fPtr p1 0) (P_fieldAddr at_83_0 rfl (PT.ptr q1)) rfl ?_))))
 have q4 := PT_field (part_Cut_0).1 q1
 refine EL_do .plain rfl (D_load (g := g3) Tryz.isAgg5 Tryz.sizeOf5 rfl q4 fun v5 r5 => ?_)
 obtain rfl := RV_u8.1 r5
 refine EL_p (.int .i64 ((((x0).Weaver).toNat : Int))) (P_u8int Tryz.underlying5 Tryz.underlying3 rfl) rfl ?_
 obtain ⟨y6, qA, h⟩ := bsome h
 refine EL_p (.int .i64 (y6)) (P_int rfl rfl (congrArg (Option.map (Value.int .i64)) qA)) rfl ?_
 refine EL_p (fPtr p1 3) (P_fieldAddr at_83_3 rfl (PT.ptr q1)) rfl ?_
 have q7 := PT_field (part_Cut_3).1 q1
 refine EL_do .plain rfl (D_load (g := g3) Tryz.isAgg81 Tryz.sizeOf81 rfl q7 fun v8 r8 => ?_)
 obtain rfl := RV_u16.1 r8
 refine EL_p (.int .i64 ((((x0).Dense).toNat : Int))) (P_u16int Tryz.underlying81 Tryz.underlying3 rfl) rfl ?_
 obtain ⟨y9, rA, h⟩ := bsome h
 refine EL_p (.int .i64 (y9)) (P_int rfl rfl (congrArg (Option.map (Value.int .i64)) rA)) rfl ?_
 refine EL_p (fPtr p1 4) (P_fieldAddr at_83_4 rfl (PT.ptr q1)) rfl ?_
 have uA := PT_field (part_Cut_4).1 q1
 refine EL_do .plain rfl (D_load (g := g3) Tryz.isAgg77 Tryz.sizeOf77 rfl uA fun dC xA => ?_)
 obtain rfl := RV_u32.1 xA
 refine EL_p (.int .i64 ((((x0).Picks).toNat : Int))) (P_u32int Tryz.underlying77 Tryz.underlying3 rfl) rfl ?_
 obtain ⟨q5, iA, h⟩ := bsome h
 refine EL_p (.int .i64 (q5)) (P_int rfl rfl (congrArg (Option.map (Value.int .i64)) iA)) rfl ?_
 refine EL_p (fPtr p1 1) (P_fieldAddr at_83_1 rfl (PT.ptr q1)) rfl ?_
 have yA := PT_field (part_Cut_1).1 q1
 refine EL_do .plain rfl (D_load (g := g3) Tryz.isAgg5 Tryz.sizeOf5 rfl yA fun eC zA => ?_)
 obtain rfl := RV_u8.1 zA
 refine EL_p (.int .i64 ((((x0).Faults).toNat : Int))) (P_u8int Tryz.underlying5 Tryz.underlying3 rfl) rfl ?_
 obtain ⟨t5, jA, h⟩ := bsome h
 refine EL_p (.int .i64 (t5)) (P_int rfl rfl (congrArg (Option.map (Value.int .i64)) jA)) rfl ?_
 have b7 : RV g3.m w3 (⟨y6, y9, q5, [], t5⟩ : PayPiece) (.agg (setCh [[.int .i64 0], [.int .i64 0], [.int .i64 0], [.slice none 0 0], [.int .i64 0]] [(0, .int .i64 (y6)), (1, .int .i64 (y9)), (2, .int .i64 (q5)), (4, .int .i64 (t5))]).flatten.toArray) := RV_build rfl (rep_pair (rfl) (rep_pair (rfl) (rep_pair (rfl) (rep_pair (rep_nil) (rep_last (rfl))))))
 generalize c8 : (Value.agg (setCh [[.int .i64 0], [.int .i64 0], [.int .i64 0], [.slice none 0 0], [.int .i64 0]] [(0, .int .i64 (y6)), (1, .int .i64 (y9)), (2, .int .i64 (q5)), (4, .int .i64 (t5))]).flatten.toArray) = t9 at b7
 refine EL_p t9 (c8 ▸ P_build (vs := [(0, .int .i64 (y6)), (1, .int .i64 (y9)), (2, .int .i64 (q5)), (4, .int .i64 (t5))]) [[.int .i64 0], [.int .i64 0], [.int .i64 0], [.slice none 0 0], [.int .i64 0]] lay_27 rfl rfl (.cons rfl (.cons rfl (.cons rfl (.cons rfl .nil)))) ⟨⟨_, rfl, rfl⟩, ⟨⟨_, rfl, rfl⟩, ⟨⟨_, rfl, rfl⟩, ⟨⟨_, rfl, rfl⟩, trivial⟩⟩⟩⟩) rfl ?_
 refine EL_do .plain rfl (D_allocOc (g := g3) 2005 (⟨0, 0, 0, [], 0⟩ : PayPiece) Tryz.zeroValue27 (fun m w => ⟨_, (rep_two rep_int (rep_two rep_int (rep_two rep_int (rep_two rep_nil rep_int)))), rfl⟩) fun u9 aB j1 hs b17 cb => ?_)
 have hfr := hfr.stp hs
 have q1 := q1.stp hs
 have q2 := q2.stp hs
 have x5 := x5.stp hs rfl
 have b3 := b3.stp hs rfl
 have b7 := b7.stp hs
 have xB : OSF 2005 60503 3 u9 aB 3 27 ([] : List Int) j1 := cb.osf (by rfl)
 clear cb
 refine EL_do .plain rfl (D_storeOc (g := u9) (v := t9) Tryz.sizeOf27 rfl b17 rfl b7 fun z9 bB hs b18 cb => ?_)
 have k8 : OSF 2005 60503 3 z9 bB 3 27 ([] : List Int) j1 := cb.osf (by rw [← c8]; rfl)
 clear cb
 have hfr := hfr.stp hs
 have q1 := q1.stp hs
 have q2 := q2.stp hs
 have x5 := x5.stp hs rfl
 have b3 := b3.stp hs rfl
 refine EL_nil (thn_n ?_)
 obtain ⟨z4, hx, h⟩ := bsome h
 refine E_join (fun e w => ∃ (g : Gh) , Fr gI wI g w ∧ e 4 = p3 ∧ OB 2004 g w 27 ((⟨0, 0, 0, [], 0⟩ : PayPiece) : PayPiece) p3 ∧ OSF 2004 60403 3 g w 3 27 (((⟨0, 0, 0, [], 0⟩ : PayPiece)).Extras) p3 ∧ e 5 = j1 ∧ OB 2005 g w 27 (z4 : PayPiece) j1 ∧ OSF 2005 60503 3 g w 3 27 ((z4).Extras) j1) (fun Q' hQ => ?_) (fun yB iC hR => ?_)
 ·replace h := hx
  clear hx
  refine E_seq (E_region (EL_at (.int .i64 (0)) rfl rfl ?_))
  refine EL_nil (thn_n (E_block ?_))
  refine E_lp h (fun (s : PayPiece × Int) e w => ∃ (g : Gh) , Fr gI wI g w ∧ e 2 = p1 ∧ PT g.m w (x0 : Cut) p1 ∧ e 3 = p2 ∧ PT g.m w (x1 : PayList) p2 ∧ e 4 = p3 ∧ OB 2004 g w 27 ((⟨0, 0, 0, [], 0⟩ : PayPiece) : PayPiece) p3 ∧ OSF 2004 60403 3 g w 3 27 (((⟨0, 0, 0, [], 0⟩ : PayPiece)).Extras) p3 ∧ e 5 = j1 ∧ OB 2005 g w 27 (s.1 : PayPiece) j1 ∧ OSF 2005 60503 3 g w 3 27 ((s.1).Extras) j1 ∧ e 6 = .int .i64 (s.2)) ⟨z9, hfr, rfl, q1, rfl, q2, rfl, b3, x5, rfl, b18, k8, rfl⟩ (fun X52 o9 lA => ?_)
  rintro ⟨u3, o0⟩ zB jC ⟨g8, hfr, l8, m8, c7, i6, d7, e7, u4_3_53, g7, i7, u5_3_53, j7⟩ h
  refine E_joinC h (fun (s : Unit) e w => ∃ (g : Gh) , Fr gI wI g w ∧ e 2 = p1 ∧ PT g.m w (x0 : Cut) p1 ∧ e 3 = p2 ∧ PT g.m w (x1 : PayList) p2 ∧ e 4 = p3 ∧ OB 2004 g w 27 ((⟨0, 0, 0, [], 0⟩ : PayPiece) : PayPiece) p3 ∧ OSF 2004 60403 3 g w 3 27 (((⟨0, 0, 0, [], 0⟩ : PayPiece)).Extras) p3 ∧ e 5 = j1 ∧ OB 2005 g w 27 (u3 : PayPiece) j1 ∧ OSF 2005 60503 3 g w 3 27 ((u3).Extras) j1 ∧ e 6 = .int .i64 (o0)) (fun X57 k57 mA h => ?_) ?_
  ·refine E_seq (E_region (EL_mv j7 rfl ?_))
   refine EL_p (fPtr p2 1) (P_fieldAddr at_25_1 c7 (PT.ptr i6)) rfl ?_
   have cB := PT_field (part_PayList_1).1 i6
   refine EL_do .plain rfl (D_load (g := g8) Tryz.isAgg23 Tryz.sizeOf23 rfl cB fun kC dB => ?_)
   refine EL_p (.int .i64 (((x1).Extras).length : Int)) (P_len Tryz.underlying23 rfl dB) rfl ?_
   refine EL_p (.bool ((decide (o0 < (((x1).Extras).length : Int))))) (P_int rfl rfl rfl) rfl ?_
   refine EL_nil (thn_n ?_)
   rcases csome h with ⟨x6, h⟩ | ⟨x6, h⟩
   ·refine E_ct x6 rfl ?_
    exact E_skip (thn_n (mA () _ _ ⟨g8, hfr, l8, m8, c7, i6, d7, e7, u4_3_53, g7, i7, u5_3_53, j7⟩ h))
   ·refine E_cf x6 rfl ?_
    refine E_exit ?_
    refine thn_e ?_
    refine thn_e ?_
    refine blk_hit ?_
    obtain rfl := sinj h
    exact hQ _ _ ⟨g8, hfr, d7, e7, u4_3_53, g7, i7, u5_3_53⟩
  ·rintro _ aC lC ⟨m7, hfr, j6, u0, n7, j3, o7, o3, u4_3_61, i5, i3, u5_3_61, l5⟩ h
   obtain ⟨z3, hx, h⟩ := bsome h
   refine E_join (fun e w => ∃ (g : Gh) , Fr gI wI g w ∧ e 2 = p1 ∧ PT g.m w (x0 : Cut) p1 ∧ e 3 = p2 ∧ PT g.m w (x1 : PayList) p2 ∧ e 4 = p3 ∧ OB 2004 g w 27 ((⟨0, 0, 0, [], 0⟩ : PayPiece) : PayPiece) p3 ∧ OSF 2004 60403 3 g w 3 27 (((⟨0, 0, 0, [], 0⟩ : PayPiece)).Extras) p3 ∧ e 5 = j1 ∧ OB 2005 g w 27 (z3 : PayPiece) j1 ∧ OSF 2005 60503 3 g w 3 27 ((z3).Extras) j1 ∧ e 6 = .int .i64 (o0)) (fun Q' hQ => ?_) (fun cC mC hR => ?_)
   ·replace h := hx
    clear hx
    refine E_block ?_
    refine E_seq (E_region (EL_p (fPtr p1 2) (P_fieldAddr at_83_2 j6 (PT.ptr u0)) rfl ?_))
    have eB := PT_field (part_Cut_2).1 u0
    refine EL_do .plain rfl (D_load (g := m7) Tryz.isAgg5 Tryz.sizeOf5 rfl eB fun qC iB => ?_)
    obtain rfl := RV_u8.1 iB
    refine EL_mv l5 rfl ?_
    refine EL_p (.int .u64 (wu64 o0)) (P_intu64 Tryz.underlying3 Tryz.underlying85 rfl) rfl ?_
    obtain ⟨v6, nA, h⟩ := bsome h
    refine EL_p (.int .u8 (UInt8.toNat (v6))) (P_shr8 rfl rfl nA) rfl ?_
    refine EL_p (.int .u8 (UInt8.toNat ((v6 &&& (1 : UInt8))))) (P_and8 rfl rfl) rfl ?_
    refine EL_p (.bool (((v6 &&& (1 : UInt8)) == (1 : UInt8)))) (P_u8 rfl rfl rfl) rfl ?_
    refine EL_nil (thn_n ?_)
    rcases csome h with ⟨a7, h⟩ | ⟨a7, h⟩
    ·refine E_ct a7 rfl ?_
     refine E_region (EL_p (fPtr j1 3) (P_fieldAddr at_27_3 i5 (OB.ptr i3)) rfl ?_)
     refine EL_do .plain rfl (D_loadFS (g := m7) part_PayPiece_3.1 Tryz.isAgg23 Tryz.sizeOf23 rfl i3 u5_3_61 fun rC i8 o79 => ?_)
     refine EL_mv l5 rfl ?_
     refine EL_do .plain rfl (D_buildSlice (g := m7) 3041 (xs := ([o0] : List Int)) (vs := [.int .i64 (o0)]) Tryz.underlying23 Tryz.sizeOf3 Tryz.zeroValue3 rfl rfl (.cons rfl .nil) (RVs.cons (RV_int.2 rfl) RVs.nil) rfl rfl fun jB tC uC hs o80 lB hxt hfl => ?_)
     have hfr := hfr.stp hs
     have u0 := u0.stp hs
     have j3 := j3.stp hs
     have u4_3_61 := u4_3_61.stp hs rfl
     have o3 := o3.stp hs rfl
     have i3 := i3.stp hs rfl
     have i8 := i8.stp hs
     have o79 := o79.stp hs rfl
     obtain ⟨v7, oA, h⟩ := bsome h
     refine EL_do .plain rfl (D_append (g := jB) (i := 60503) Tryz.underlying23 info_3 rfl rfl o79 i8 rfl lB oA fun mB vC xC hs o81 bA _ => ?_)
     have hfr := hfr.stp hs
     have u0 := u0.stp hs
     have j3 := j3.stp hs
     have u4_3_61 := u4_3_61.stp hs rfl
     have o3 := o3.stp hs rfl
     have i3 := i3.stp hs rfl
     refine EL_p (fPtr j1 3) (P_fieldAddr at_27_3 i5 (OB.ptr i3)) rfl ?_
     refine EL_do .plain rfl (D_storeFc (g := mB) part_PayPiece_3 Tryz.sizeOf23 rfl i3 rfl bA fun nB yC hs b84 rst hos => ?_)
     have n8 := hos _ _ 60503 3 (v7 : List Int) (rv_cells1 bA) rfl o81
     clear rst hos
     have hfr := hfr.stp hs
     have u0 := u0.stp hs
     have j3 := j3.stp hs
     have u4_3_61 := u4_3_61.stp hs rfl
     have o3 := o3.stp hs rfl
     refine EL_nil (blk_n ?_)
     obtain rfl := sinj h
     exact hQ _ _ ⟨nB, hfr, j6, u0, n7, j3, o7, o3, u4_3_61, i5, b84, n8, l5⟩
    ·refine E_cf a7 rfl ?_
     refine E_skip (blk_n ?_)
     obtain rfl := sinj h
     exact hQ _ _ ⟨m7, hfr, j6, u0, n7, j3, o7, o3, u4_3_61, i5, i3, u5_3_61, l5⟩
   ·clear hx
    obtain ⟨oB, hfr, o8, q8, t8, x8, y8, a9, u4_3_85, d9, e9, u5_3_85, i9⟩ := hR
    refine E_region (EL_mv i9 rfl ?_)
    refine EL_in (.int .i64 ((w64 (o0 + (1 : Int))))) rfl rfl rfl rfl ?_
    refine EL_at (.int .i64 ((w64 (o0 + (1 : Int))))) rfl rfl ?_
    exact EL_nil (thn_n (lA (z3, (w64 (o0 + (1 : Int)))) _ _ ⟨oB, hfr, o8, q8, t8, x8, y8, a9, u4_3_85, d9, e9, u5_3_85, rfl⟩ h))
 ·clear hx
  obtain ⟨gA, hfr, u7, k9, u4_3_86, l9, n9, u5_3_86⟩ := hR
  refine E_seq (E_region (EL_do .plain rfl (D_loadO (g := gA) Tryz.isAgg27 Tryz.sizeOf27 l9 n9 fun tB vB => ?_)))
  refine EL_do .plain rfl (D_storeOc (g := gA) (v := tB) Tryz.sizeOf27 u7 k9 rfl vB fun aD bD hs b88 cb => ?_)
  clear cb
  have hfr := hfr.stp hs
  refine EL_nil (thn_n (E_ret ?_))
  obtain rfl := sinj h
  obtain ⟨ad89, cv89, hp89, pA, cr89⟩ := ob_read Tryz.isAgg27 Tryz.sizeOf27 b88
  exact endm_c rfl rfl ((show _ = p3 from u7).trans hp89) pA ⟨_, hfr, cr89⟩
def f48  : Option (PayList) :=
 some ((⟨([(⟨0, (20 : Int)⟩ : PayRate), (⟨(60 : Int), (30 : Int)⟩ : PayRate)] : List PayRate), ([(100 : Int), (250 : Int)] : List Int), (12 : Int), (100 : Int)⟩ : PayList))
def f49 (x0 : Int) (x1 : Int) : Option (PayPiece) :=
 some ((⟨(3 : Int), x0, (50000 : Int), ([(0 : Int), (1 : Int)] : List Int), x1⟩ : PayPiece))
def f51 (x0 : Int) (x1 : Int) (x2 : Int) (x3 : Int) : Option (PayTable) :=
 some ((⟨([([x0, x1] : List Int), ([x2, x3] : List Int)] : List (List Int)), ([(12 : Int), (3 : Int)] : List Int), ([(6 : Int), (9 : Int)] : List Int), (15 : Int)⟩ : PayTable))
def f57 (x0 : PayPayList) (x1 : Int) (x2 : Int) : Option (Int) :=
 (quo64 (w64 (x1 * ((x0).PayList).Cap)) (1000 : Int)).bind fun y8 =>
 some ((min64 (w64 (x2 * ((x0).PayList).Fine)) y8))
theorem en57 : Enters Tryz.prog 57 := enters_of Tryz.func57 (by kernel_rfl) rfl
theorem wk57 {gI : Gh} {wI : World} {x0 : PayPayList} {x1 : Int} {x2 : Int} {up0 : Value} (rp0 : RV gI.m wI x0 up0) {r : Int} (h : f57 x0 x1 x2 = some r) : Fn Tryz.prog 57 #[up0, .int .i64 (x1), .int .i64 (x2)] gI wI (fun _ _ v => v = .int .i64 (r)) := by
 unfold f57 at h
 refine fn_of_E Tryz.func57 rfl (Nat.le_of_ble_eq_true rfl) fun g0 hm hfr => ?_
 have rp0 : RV g0.m wI x0 up0 := hm ▸ rp0
 show E _ 19 none _ _ _ _ _
 refine E_seq (E_region (EL_do .plain rfl (D_box (g := g0) rfl rp0 fun g1 w1 p1 hs q1 => ?_)))
 have hfr := hfr.ext hs
 refine EL_at (.int .i64 (0)) rfl rfl ?_
 refine EL_nil (thn_n (E_seq (E_region (EL_mw (.int .i64 (x2)) rfl rfl ?_))))
 refine EL_p (fPtr p1 0) (P_fieldAddr at_117_0 rfl (PT.ptr q1)) rfl ?_
 have q2 := PT_field (part_PayPayList_0).1 q1
 refine EL_p (fPtr (fPtr p1 0) 2) (P_fieldAddr at_25_2 rfl (PT.ptr q2)) rfl ?_
 have q3 := PT_field (part_PayList_2).1 q2
 refine EL_do .plain rfl (D_load (g := g1) Tryz.isAgg3 Tryz.sizeOf3 rfl q3 fun v4 r4 => ?_)
 obtain rfl := RV_int.1 r4
 refine EL_in (.int .i64 ((w64 (x2 * ((x0).PayList).Fine)))) rfl rfl rfl rfl ?_
 refine EL_mw (.int .i64 (x1)) rfl rfl ?_
 refine EL_p (fPtr p1 0) (P_fieldAddr at_117_0 rfl (PT.ptr q1)) rfl ?_
 have q5 := PT_field (part_PayPayList_0).1 q1
 refine EL_p (fPtr (fPtr p1 0) 3) (P_fieldAddr at_25_3 rfl (PT.ptr q5)) rfl ?_
 have q6 := PT_field (part_PayList_3).1 q5
 refine EL_do .plain rfl (D_load (g := g1) Tryz.isAgg3 Tryz.sizeOf3 rfl q6 fun v7 r7 => ?_)
 obtain rfl := RV_int.1 r7
 refine EL_in (.int .i64 ((w64 (x1 * ((x0).PayList).Cap)))) rfl rfl rfl rfl ?_
 obtain ⟨y8, o0, h⟩ := bsome h
 refine EL_p (.int .i64 (y8)) (P_int rfl rfl (congrArg (Option.map (Value.int .i64)) o0)) rfl ?_
 refine EL_p (.int .i64 (min64 (w64 (x2 * ((x0).PayList).Fine)) y8)) (P_min rfl rfl) rfl ?_
 refine EL_at (.int .i64 (min64 (w64 (x2 * ((x0).PayList).Fine)) y8)) rfl rfl ?_
 refine EL_nil (thn_n (E_ret ?_))
 obtain rfl := sinj h
 exact end1 rfl rfl (show _ = .int .i64 (min64 (w64 (x2 * ((x0).PayList).Fine)) y8) from rfl) ⟨_, hfr, rfl⟩
def f70 (x0 : Int) : Option (Bool) :=
 some ((x0 != (0 : Int)))
def f71 (x0 : List Int) : Option (Int × Int) :=
 Option.bind (α := Int × Int) (
  lp (σ := Int × Int × Int) (fun j7 (z4, u0, o0) =>
   bif (decide (o0 < ((x0).length : Int))) then
    Option.bind (α := Int × Int) (
     (idx x0 o0).bind fun t5 =>
     bif (t5 != (0 : Int)) then
      some (o0, (w64 (u0 + (1 : Int))))
     else
      some (z4, u0)
     ) fun (o3, u3) =>
    j7 (o3, u3, (w64 (o0 + (1 : Int))))
   else
    some (z4, u0)
   ) big ((0 : Int), (0 : Int), (0 : Int))
  ) fun (j1, i3) =>
 some (j1, i3)
end Go.Proofs.YtkmbkaoolacofaaGreat
