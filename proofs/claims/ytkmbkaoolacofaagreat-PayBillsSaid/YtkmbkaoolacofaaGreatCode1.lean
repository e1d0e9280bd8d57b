import Derived.Test.YtkmbkaoolacofaaGreatTypes
import Derived.Test.YtkmbkaoolacofaaGreatKn
import Derived.Test.YtkmbkaoolacofaaGreatShc
set_option maxRecDepth 8000
set_option maxHeartbeats 4000000
namespace Go.Proofs.YtkmbkaoolacofaaGreat
open Go.RowKit
theorem info_3 : (Tryz.prog.info? 3).map (fun i => (i.zero, i.size, i.bytes)) = some (some (.int .i64 0), 1, 8) := by kernel_rfl
theorem info_87 : (Tryz.prog.info? 87).map (fun i => (i.zero, i.size, i.bytes)) = some (some (.agg #[.int .i64 0, .int .i64 0]), 2, 16) := by kernel_rfl
theorem mixed : Tryz.prog.follows .mixedOrders = true := by kernel_rfl
theorem endm_c {P : Program} {e : Env} {ds : List Deferred} {w : World} {fn : Func} {R : Value → World → Prop} {t0 : Tmp} {v0 : Value} {y0 : TypeId} {a0 : Addr} (hres : fn.results = #[.cell t0 y0]) (hd : ds = []) (h0 : e t0 = .pointer (some a0)) (l0 : (loadVar y0 a0).run P w = .ok v0 w) (h : R v0 w) : atEnd P fn R .ret e ds w :=
 ⟨hd, fun tmps ht => ⟨_, by simp [results, hres, ht, asAddr, h0, l0], h⟩⟩
theorem info_27 : (Tryz.prog.info? 27).map (fun i => (i.zero, i.size, i.bytes)) = some (some (.agg #[.int .i64 0, .int .i64 0, .int .i64 0, .slice none 0 0, .int .i64 0]), 5, 56) := by kernel_rfl
theorem lay_117 : layoutOf Tryz.prog 117 = some ([.slice none 0 0, .slice none 0 0, .int .i64 0, .int .i64 0], [(0, 4)]) := by kernel_rfl
theorem capf_0_2 {e : Env} {f : FuncId} {o0 : Operand} {u0 : Operand} {b0 : Value} {b1 : Value} (hb0 : ev e o0 = b0) (hb1 : ev e u0 = b1) : (Value.func (.func f) ((#[] : Array Operand).map (ev e)) ((#[o0, u0] : Array Operand).map (ev e))) = .func (.func f) #[] #[b0, b1] := by simp [hb0, hb1]
theorem fl_87 : Tryz.prog.fieldsOf 87 = #[{ name := "From", type := 3, offset := 0, embedded := false, tag := "", pkgPath := "", byteOffset := 0 }, { name := "Rate", type := 3, offset := 1, embedded := false, tag := "", pkgPath := "", byteOffset := 8 }] := by kernel_rfl
theorem seq_87 : SEq (α := PayRate) Tryz.prog 87 := by
 intro d x y w a b m wx m2 wy hx hy
 obtain ⟨_, ⟨_, _, rfl, rfl, rfl⟩, rfl⟩ := hx
 obtain ⟨_, ⟨_, _, rfl, rfl, rfl⟩, rfl⟩ := hy
 refine (run_equalIn_struct w (d + 1) 87 _ _ (by kernel_rfl) (by kernel_rfl)).trans ?_
 rw [fl_87]
 obtain ⟨x0, x1⟩ := x
 obtain ⟨y0, y1⟩ := y
 show (Op.eqFields (d + 1) #[.int .i64 (x0), .int .i64 (x1)] #[.int .i64 (y0), .int .i64 (y1)] _).run _ _ = _
 have x0p : (part 3 #[.int .i64 (x0), .int .i64 (x1)] 0).run Tryz.prog w = .ok (.int .i64 (x0)) w := part_one Tryz.isAgg3 rfl
 have x1p : (part 3 #[.int .i64 (x0), .int .i64 (x1)] 1).run Tryz.prog w = .ok (.int .i64 (x1)) w := part_one Tryz.isAgg3 rfl
 have y0p : (part 3 #[.int .i64 (y0), .int .i64 (y1)] 0).run Tryz.prog w = .ok (.int .i64 (y0)) w := part_one Tryz.isAgg3 rfl
 have y1p : (part 3 #[.int .i64 (y0), .int .i64 (y1)] 1).run Tryz.prog w = .ok (.int .i64 (y1)) w := part_one Tryz.isAgg3 rfl
 simp only [Op.eqFields, Sem.run_bind, Sem.run_ite, Sem.run_pure, x0p, x1p, y0p, y1p, Result.andThen_ok, run_equalIn_int _ _ _ _ _ _ _ Tryz.underlying3]
 simp
 grind
theorem eg_87 : Tryz.prog.eqGuardType Tryz.prog.depth 87 = false := by kernel_rfl
theorem endm_ct {P : Program} {e : Env} {ds : List Deferred} {w : World} {fn : Func} {R : Value → World → Prop} {t0 : Tmp} {v0 : Value} {y0 : TypeId} {a0 : Addr} {t1 : Tmp} {v1 : Value} (hres : fn.results = #[.cell t0 y0, .tmp t1]) (hd : ds = []) (h0 : e t0 = .pointer (some a0)) (l0 : (loadVar y0 a0).run P w = .ok v0 w) (h1 : e t1 = v1) (h : R (.tuple #[v0, v1]) w) : atEnd P fn R .ret e ds w :=
 ⟨hd, fun tmps ht => ⟨_, by simp [results, hres, ht, asAddr, h0, l0, h1], h⟩⟩
theorem key_3 : KeyLaw Tryz.prog 3 (Value.int .i64) := keyLaw_int Tryz.underlying3
def f111 (x0 : List Int) : Option (List Int) := apnd 8 [] x0
theorem en111 : Enters Tryz.prog 111 := enters_of Tryz.func111 (by kernel_rfl) rfl
def lenTab : Str := (⟨[0, 1, 2, 2, 3, 3, 3, 3, 4, 4, 4, 4, 4, 4, 4, 4, 5, 5, 5, 5, 5, 5, 5, 5, 5, 5, 5, 5, 5, 5, 5, 5, 6, 6, 6, 6, 6, 6, 6, 6, 6, 6, 6, 6, 6, 6, 6, 6, 6, 6, 6, 6, 6, 6, 6, 6, 6, 6, 6, 6, 6, 6, 6, 6, 7, 7, 7, 7, 7, 7, 7, 7, 7, 7, 7, 7, 7, 7, 7, 7, 7, 7, 7, 7, 7, 7, 7, 7, 7, 7, 7, 7, 7, 7, 7, 7, 7, 7, 7, 7, 7, 7, 7, 7, 7, 7, 7, 7, 7, 7, 7, 7, 7, 7, 7, 7, 7, 7, 7, 7, 7, 7, 7, 7, 7, 7, 7, 7, 8, 8, 8, 8, 8, 8, 8, 8, 8, 8, 8, 8, 8, 8, 8, 8, 8, 8, 8, 8, 8, 8, 8, 8, 8, 8, 8, 8, 8, 8, 8, 8, 8, 8, 8, 8, 8, 8, 8, 8, 8, 8, 8, 8, 8, 8, 8, 8, 8, 8, 8, 8, 8, 8, 8, 8, 8, 8, 8, 8, 8, 8, 8, 8, 8, 8, 8, 8, 8, 8, 8, 8, 8, 8, 8, 8, 8, 8, 8, 8, 8, 8, 8, 8, 8, 8, 8, 8, 8, 8, 8, 8, 8, 8, 8, 8, 8, 8, 8, 8, 8, 8, 8, 8, 8, 8, 8, 8, 8, 8, 8, 8, 8, 8, 8, 8, 8, 8, 8, 8, 8, 8, 8, 8, 8, 8, 8, 8]⟩ : Str)
def f128 (x : Int) : Option Int := if 0 ≤ x ∧ x < 256 then (idx lenTab.b x).map fun c => w64 (0 + (c.toNat : Int)) else none
def f107 (x : Int) : Option Int := f128 x
def f12 : Option Bool := some true
theorem en12 : Enters Tryz.prog 12 := enters_of Tryz.func12 (by kernel_rfl) rfl
theorem wk12 {gI : Gh} {wI : World} {r : Bool} (h : f12 = some r) : Fn Tryz.prog 12 #[] gI wI (fun _ _ v => v = .bool (r)) := by
 injection h with h
 subst h
 exact wkK12
theorem en59 : Enters Tryz.prog 59 := enters_of Tryz.func59 (by kernel_rfl) rfl
theorem en60 : Enters Tryz.prog 60 := enters_of Tryz.func60 (by kernel_rfl) rfl
def f117 (x0 : List Int) : Option Int := compactN x0
theorem en117 : Enters Tryz.prog 117 := enters_of Tryz.func117 (by kernel_rfl) rfl
theorem wk117 {iI : Nat} {gI : Gh} {wI : World} {x0 : List Int} {up0 : Value} (mp0 : OM iI gI wI 3 x0 up0) {r : Int} (h : f117 x0 = some r) : FnM Tryz.prog 117 #[up0] iI gI wI (fun _ _ u => ∃ a c, u = .slice a r.toNat c) :=
 compact_fnM ⟨fun blk off cap zs w h1 h2 h3 => Tryz.slices_Compact_int blk off cap zs w h1 h2 h3, fun a cap w => Tryz.slices_Compact_int_empty a cap w⟩ mp0 h
def f11 (x0 : PayList) : Option (Bool) :=
 Option.bind (α := Bool) (
  bif (decide ((((x0).Rates).length : Int) > (12 : Int))) then
   some (true)
  else
   some ((decide ((((x0).Extras).length : Int) > (12 : Int))))
  ) fun u0 =>
 some (u0)
theorem en11 : Enters Tryz.prog 11 := enters_of Tryz.func11 (by kernel_rfl) rfl
theorem wk11 {gI : Gh} {wI : World} {x0 : PayList} {up0 : Value} (rp0 : RV gI.m wI x0 up0) {r : Bool} (h : f11 x0 = some r) : Fn Tryz.prog 11 #[up0] gI wI (fun _ _ v => v = .bool (r)) := by
 unfold f11 at h
 refine fn_of_E Tryz.func11 rfl (Nat.le_of_ble_eq_true rfl) fun g0 hm hfr => ?_
 have rp0 : RV g0.m wI x0 up0 := hm ▸ rp0
 show E _ 13 none _ _ _ _ _
 refine E_seq (E_region (EL_do .plain rfl (D_box (g := g0) rfl rp0 fun g1 w1 p1 hs q1 => ?_)))
 have hfr := hfr.ext hs
 refine EL_at (.bool false) rfl rfl ?_
 refine EL_nil (thn_n ?_)
 obtain ⟨u0, hx, h⟩ := bsome h
 refine E_join (fun e w => ∃ (g : Gh) , Fr gI wI g w ∧ e 2 = .bool (u0)) (fun Q' hQ => ?_) (fun o3 u3 hR => ?_)
 ·replace h := hx
  clear hx
  refine E_region (EL_p (fPtr p1 0) (P_fieldAddr at_25_0 rfl (PT.ptr q1)) rfl ?_)
  have q7 := PT_field (part_PayList_0).1 q1
  refine EL_do .plain rfl (D_load (g := g1) Tryz.isAgg22 Tryz.sizeOf22 rfl q7 fun v8 r8 => ?_)
  refine EL_p (.int .i64 (((x0).Rates).length : Int)) (P_len Tryz.underlying22 rfl r8) rfl ?_
  refine EL_p (.bool ((decide ((((x0).Rates).length : Int) > (12 : Int))))) (P_int rfl rfl rfl) rfl ?_
  refine EL_p (.bool ((decide ((((x0).Rates).length : Int) > (12 : Int))))) (P_move rfl) rfl ?_
  rcases csome h with ⟨o0, h⟩ | ⟨o0, h⟩
  ·refine EL_s rfl rfl o0 rfl rfl ?_
   iterate 3 refine EL_s rfl rfl o0 rfl rfl ?_
   refine EL_p (.bool true) (P_pick (b := (decide ((((x0).Rates).length : Int) > (12 : Int)))) rfl (pick_t o0 rfl)) rfl ?_
   refine EL_at (.bool true) rfl rfl ?_
   refine EL_nil ?_
   obtain rfl := sinj h
   exact hQ _ _ ⟨g1, hfr, rfl⟩
  ·refine EL_y (fPtr p1 1) (P_fieldAddr at_25_1 rfl (PT.ptr q1)) rfl rfl o0 rfl ?_
   have i3 := PT_field (part_PayList_1).1 q1
   refine EL_do (.yes2 rfl rfl o0) rfl (D_load (g := g1) Tryz.isAgg23 Tryz.sizeOf23 rfl i3 fun z3 j3 => ?_)
   refine EL_y (.int .i64 (((x0).Extras).length : Int)) (P_len Tryz.underlying23 rfl j3) rfl rfl o0 rfl ?_
   refine EL_y (.bool ((decide ((((x0).Extras).length : Int) > (12 : Int))))) (P_int rfl rfl rfl) rfl rfl o0 rfl ?_
   refine EL_p (.bool ((decide ((((x0).Extras).length : Int) > (12 : Int))))) (P_pick (b := (decide ((((x0).Rates).length : Int) > (12 : Int)))) rfl (pick_f o0 rfl)) rfl ?_
   refine EL_p (.bool ((decide ((((x0).Extras).length : Int) > (12 : Int))))) (P_assign rfl) rfl ?_
   refine EL_nil ?_
   obtain rfl := sinj h
   exact hQ _ _ ⟨g1, hfr, rfl⟩
 ·clear hx
  obtain ⟨z4, hfr, j1⟩ := hR
  refine E_ret ?_
  obtain rfl := sinj h
  exact end1 rfl rfl (show _ = .bool (u0) from j1) ⟨_, hfr, rfl⟩
def f13 (x0 : PayList) : Option (PayList) :=
 (apnd 16 (([] : List PayRate)) ((x0).Rates)).bind fun y7 =>
 (apnd 8 (([] : List Int)) ((x0).Extras)).bind fun o0 =>
 some ({ { x0 with Rates := y7 } with Extras := o0 })
theorem en13 : Enters Tryz.prog 13 := enters_of Tryz.func13 (by kernel_rfl) rfl
theorem wk13 {gI : Gh} {wI : World} {x0 : PayList} {up0 : Value} (rp0 : RV gI.m wI x0 up0) {r : PayList} (h : f13 x0 = some r) : Fn Tryz.prog 13 #[up0] gI wI (fun m w v => RV m w (r) v) := by
 unfold f13 at h
 refine fn_of_E Tryz.func13 rfl (Nat.le_of_ble_eq_true rfl) fun g0 hm hfr => ?_
 have rp0 : RV g0.m wI x0 up0 := hm ▸ rp0
 show E _ 14 none _ _ _ _ _
 refine E_seq (E_region (EL_do .plain rfl (D_boxO (g := g0) 2001 rfl rp0 fun g1 w1 p1 hs b1 => ?_)))
 have hfr := hfr.stp hs
 refine EL_do .plain rfl (D_allocOc (g := g1) 2002 (⟨[], [], 0, 0⟩ : PayList) Tryz.zeroValue25 (fun m w => ⟨_, (rep_two rep_nil (rep_two rep_nil (rep_two rep_int rep_int))), rfl⟩) fun g2 w2 p2 hs b2 cb => ?_)
 have hfr := hfr.stp hs
 have b1 := b1.stp hs rfl
 have a7 : OSF 2002 60200 0 g2 w2 87 25 ([] : List PayRate) p2 := cb.osf (by rfl)
 have b7 : OSF 2002 60201 1 g2 w2 3 25 ([] : List Int) p2 := cb.osf (by rfl)
 clear cb
 refine EL_nil (thn_n (E_seq (L_loadO (x := .tmp 4) part_PayList_0.1 Tryz.isAgg22 Tryz.sizeOf22 b1 fun v5 r5 i5 => ?_)))
 obtain ⟨y7, l5, h⟩ := bsome h
 refine L_loadO (x := .tmp 8) part_PayList_1.1 Tryz.isAgg23 Tryz.sizeOf23 b1 fun q5 t5 u3 => ?_
 obtain ⟨o0, z3, h⟩ := bsome h
 refine E_drawL (g := g2) (n := 9) [(0, (fun v g w => RV g.m w ([] : List PayRate) v ∧ OS 3003 g w 87 ([] : List PayRate) v ∧ FullV v)), (3, (fun v g w => RV g.m w y7 v ∧ OS 3003 g w 87 y7 v)), (4, (fun v g w => RV g.m w ([] : List Int) v ∧ OS 3007 g w 3 ([] : List Int) v ∧ FullV v)), (7, (fun v g w => RV g.m w o0 v ∧ OS 3007 g w 3 o0 v))] [0, 1, 2, 3, 4, 5, 6, 7, 8] rfl mixed (by kernel_rfl) (⟨fun _ => up_and up_rv (up_and up_os (up_eq _)), fun _ => up_and up_rv up_os, fun _ => up_and up_rv (up_and up_os (up_eq _)), fun _ => up_and up_rv up_os, trivial⟩) ?_
 refine L_do (φ := fun v g w => RV g.m w ([] : List PayRate) v ∧ OS 3003 g w 87 ([] : List PayRate) v ∧ FullV v) rfl rfl .plain (fun g w hd => D_buildSlice (g := g) 3003 (xs := ([] : List PayRate)) (vs := []) Tryz.underlying22 Tryz.sizeOf87 Tryz.zeroValue87 rfl rfl .nil RVs.nil rfl rfl fun g' w' v hs o r hxt hfl => ⟨g', hxt, r, o, hfl⟩) (fun v3 hv => ?_)
 clear hv
 refine L_p (fPtr p1 0) rfl rfl (P_fieldAddr at_25_0 rfl (OB.ptr b1)) ?_
 refine L_ld (c := v5) rfl rfl .plain (fun _ _ h => ⟨h.ch, fun b hb _ => h.below.block b hb⟩) i5 rfl ?_
 refine L_do (φ := fun v g w => RV g.m w y7 v ∧ OS 3003 g w 87 y7 v) rfl rfl .plain (fun g w hd => D_append (g := g) (i := 3003) Tryz.underlying22 info_87 rfl rfl (word (A := fun g w => RV g.m w ([] : List PayRate) v3 ∧ OS 3003 g w 87 ([] : List PayRate) v3 ∧ FullV v3) 0 rfl rfl (deps_of hd)).2.1 (word (A := fun g w => RV g.m w ([] : List PayRate) v3 ∧ OS 3003 g w 87 ([] : List PayRate) v3 ∧ FullV v3) 0 rfl rfl (deps_of hd)).1 rfl (r5.ext hd.1) l5 fun g' w' v hs o r hf => ⟨g', hf (word (A := fun g w => RV g.m w ([] : List PayRate) v3 ∧ OS 3003 g w 87 ([] : List PayRate) v3 ∧ FullV v3) 0 rfl rfl (deps_of hd)).2.2, r, o⟩) (fun v6 hv => ?_)
 clear hv
 refine L_do (φ := fun v g w => RV g.m w ([] : List Int) v ∧ OS 3007 g w 3 ([] : List Int) v ∧ FullV v) rfl rfl .plain (fun g w hd => D_buildSlice (g := g) 3007 (xs := ([] : List Int)) (vs := []) Tryz.underlying23 Tryz.sizeOf3 Tryz.zeroValue3 rfl rfl .nil RVs.nil rfl rfl fun g' w' v hs o r hxt hfl => ⟨g', hxt, r, o, hfl⟩) (fun v8 hv => ?_)
 clear hv
 refine L_p (fPtr p1 1) rfl rfl (P_fieldAddr at_25_1 rfl (OB.ptr b1)) ?_
 refine L_ld (c := q5) rfl rfl .plain (fun _ _ h => ⟨h.ch, fun b hb _ => h.below.block b hb⟩) u3 rfl ?_
 refine L_do (φ := fun v g w => RV g.m w o0 v ∧ OS 3007 g w 3 o0 v) rfl rfl .plain (fun g w hd => D_append (g := g) (i := 3007) Tryz.underlying23 info_3 rfl rfl (word (A := fun g w => RV g.m w ([] : List Int) v8 ∧ OS 3007 g w 3 ([] : List Int) v8 ∧ FullV v8) 4 rfl rfl (deps_of hd)).2.1 (word (A := fun g w => RV g.m w ([] : List Int) v8 ∧ OS 3007 g w 3 ([] : List Int) v8 ∧ FullV v8) 4 rfl rfl (deps_of hd)).1 rfl (t5.ext hd.1) z3 fun g' w' v hs o r hf => ⟨g', hf (word (A := fun g w => RV g.m w ([] : List Int) v8 ∧ OS 3007 g w 3 ([] : List Int) v8 ∧ FullV v8) 4 rfl rfl (deps_of hd)).2.2, r, o⟩) (fun u0 hv => ?_)
 clear hv
 refine L_p (fPtr p1 0) rfl rfl (P_fieldAddr at_25_0 rfl (OB.ptr b1)) ?_
 refine L_nil fun x5 c7 hall => ?_
 have hs := hall.1
 have hfr := hfr.ext hs
 have b1 := b1.ext hs
 have b2 := b2.ext hs
 have d7 := (word_all (A := fun g w => RV g.m w ([] : List PayRate) v3 ∧ OS 3003 g w 87 ([] : List PayRate) v3 ∧ FullV v3) 0 rfl hall).1
 have o18 := (word_all (A := fun g w => RV g.m w ([] : List PayRate) v3 ∧ OS 3003 g w 87 ([] : List PayRate) v3 ∧ FullV v3) 0 rfl hall).2.1
 have j3 := (word_all (A := fun g w => RV g.m w y7 v6 ∧ OS 3003 g w 87 y7 v6) 3 rfl hall).1
 have o21 := (word_all (A := fun g w => RV g.m w y7 v6 ∧ OS 3003 g w 87 y7 v6) 3 rfl hall).2
 have e7 := (word_all (A := fun g w => RV g.m w ([] : List Int) v8 ∧ OS 3007 g w 3 ([] : List Int) v8 ∧ FullV v8) 4 rfl hall).1
 have o22 := (word_all (A := fun g w => RV g.m w ([] : List Int) v8 ∧ OS 3007 g w 3 ([] : List Int) v8 ∧ FullV v8) 4 rfl hall).2.1
 have j1 := (word_all (A := fun g w => RV g.m w o0 u0 ∧ OS 3007 g w 3 o0 u0) 7 rfl hall).1
 have o25 := (word_all (A := fun g w => RV g.m w o0 u0 ∧ OS 3007 g w 3 o0 u0) 7 rfl hall).2
 clear hs hall
 refine EL_do .plain rfl (D_storeFc (g := x5) part_PayList_0 Tryz.sizeOf22 rfl b1 rfl j3 fun i6 g7 hs b27 rst hos => ?_)
 have i3 := hos _ _ 3003 87 (y7 : List PayRate) (rv_cells1 j3) rfl o21
 clear rst hos
 have hfr := hfr.stp hs
 have b2 := b2.stp hs rfl
 have j1 := j1.stp hs
 have o25 := o25.stp hs rfl
 refine EL_p (fPtr p1 1) (P_fieldAddr at_25_1 rfl (OB.ptr b27)) rfl ?_
 refine EL_do .plain rfl (D_storeFc (g := i6) part_PayList_1 Tryz.sizeOf23 rfl b27 rfl j1 fun o3 i7 hs b29 rst hos => ?_)
 have i3 := i3.rest hs rst
 have y6 := hos _ _ 3007 3 (o0 : List Int) (rv_cells1 j1) rfl o25
 clear rst hos
 have hfr := hfr.stp hs
 have b2 := b2.stp hs rfl
 refine EL_nil (thn_n (E_seq (E_region (EL_do .plain rfl (D_loadO (g := o3) Tryz.isAgg25 Tryz.sizeOf25 rfl b29 fun j6 x6 => ?_)))))
 refine EL_do .plain rfl (D_storeOc (g := o3) (v := j6) Tryz.sizeOf25 rfl b2 rfl x6 fun j7 m7 hs b31 cb => ?_)
 clear cb
 have hfr := hfr.stp hs
 refine EL_nil (thn_n (E_ret ?_))
 obtain rfl := sinj h
 obtain ⟨ad32, cv32, hp32, z4, cr32⟩ := ob_read Tryz.isAgg25 Tryz.sizeOf25 b31
 exact endm_c rfl rfl ((show _ = p2 from rfl).trans hp32) z4 ⟨_, hfr, cr32⟩
def f14 (x0 : List PayPiece) : Option ((List PayPiece)) :=
 Option.bind (α := (List PayPiece)) (
  lp (σ := (List PayPiece) × Int) (fun g8 (j3, i3) =>
   jn (σ := Unit) (fun _ =>
    Option.bind (α := (List PayPiece)) (
     (idx x0 i3).bind fun y63 =>
     (apnd 8 (([] : List Int)) ((y63).Extras)).bind fun i5 =>
     (apnd 56 j3 (([{ y63 with Extras := i5 }] : List PayPiece))).bind fun i8 =>
     some (i8)
     ) fun o3 =>
    g8 (o3, (w64 (i3 + (1 : Int))))
    ) fun k8 =>
   bif (decide (i3 < ((x0).length : Int))) then
    k8 ()
   else
    some (j3)
   ) big (([] : List PayPiece), (0 : Int))
  ) fun u3 =>
 some (u3)
theorem en14 : Enters Tryz.prog 14 := enters_of Tryz.func14 (by kernel_rfl) rfl
theorem wk14 {gI : Gh} {wI : World} {x0 : List PayPiece} {up0 : Value} (rp0 : RV gI.m wI x0 up0) {r : (List PayPiece)} (h : f14 x0 = some r) : Fn Tryz.prog 14 #[up0] gI wI (fun m w v => RV m w (r) v) := by
 unfold f14 at h
 refine fn_of_E Tryz.func14 rfl (Nat.le_of_ble_eq_true rfl) fun g0 hm hfr => ?_
 have rp0 : RV g0.m wI x0 up0 := hm ▸ rp0
 show E _ 27 none _ _ _ _ _
 refine E_seq (E_region (EL_at (.slice none 0 0) rfl rfl ?_))
 refine EL_nil (thn_n (E_seq (E_region (EL_do .plain rfl (D_buildSlice (g := g0) 3006 (xs := ([] : List PayPiece)) (vs := []) Tryz.underlying33 Tryz.sizeOf27 Tryz.zeroValue27 rfl rfl .nil RVs.nil rfl rfl fun g1 w1 v1 hs o1 r1 hxt hfl => ?_)))))
 have hfr := hfr.stp hs
 have rp0 := rp0.stp hs
 refine EL_at v1 rfl rfl ?_
 refine EL_nil (thn_n ?_)
 obtain ⟨u3, hx, h⟩ := bsome h
 refine E_join (fun e w => ∃ (g : Gh) (v3 : Value), Fr gI wI g w ∧ e 3 = v3 ∧ RV g.m w (u3 : List PayPiece) v3 ∧ OS 3006 g w 27 (u3 : List PayPiece) v3) (fun Q' hQ => ?_) (fun oA uA hR => ?_)
 ·replace h := hx
  clear hx
  refine E_seq (E_region (EL_at (.int .i64 (0)) rfl rfl ?_))
  refine EL_nil (thn_n (E_block ?_))
  refine E_lp h (fun (s : (List PayPiece) × Int) e w => ∃ (g : Gh) (v3 : Value), Fr gI wI g w ∧ e 0 = up0 ∧ RV g.m w (x0 : List PayPiece) up0 ∧ e 3 = v3 ∧ RV g.m w (s.1 : List PayPiece) v3 ∧ OS 3006 g w 27 (s.1 : List PayPiece) v3 ∧ e 4 = .int .i64 (s.2)) ⟨g1, (v1), hfr, rfl, rp0, rfl, r1, o1, rfl⟩ (fun X41 g8 v8 => ?_)
  rintro ⟨j3, i3⟩ pA xA ⟨l8, z3, hfr, l5, q5, t5, x5, i6, j6⟩ h
  refine E_joinC h (fun (s : Unit) e w => ∃ (g : Gh) , Fr gI wI g w ∧ e 0 = up0 ∧ RV g.m w (x0 : List PayPiece) up0 ∧ e 3 = z3 ∧ RV g.m w (j3 : List PayPiece) z3 ∧ OS 3006 g w 27 (j3 : List PayPiece) z3 ∧ e 4 = .int .i64 (i3)) (fun X44 k8 x8 h => ?_) ?_
  ·refine E_seq (E_region (EL_mv j6 rfl ?_))
   refine EL_mv l5 rfl ?_
   refine EL_p (.int .i64 ((x0).length : Int)) (P_len Tryz.underlying33 rfl q5) rfl ?_
   refine EL_in (.bool ((decide (i3 < ((x0).length : Int))))) rfl rfl rfl rfl ?_
   refine EL_nil (thn_n ?_)
   rcases csome h with ⟨z4, h⟩ | ⟨z4, h⟩
   ·refine E_ct z4 rfl ?_
    exact E_skip (thn_n (x8 () _ _ ⟨l8, hfr, l5, q5, t5, x5, i6, j6⟩ h))
   ·refine E_cf z4 rfl ?_
    refine E_exit ?_
    refine thn_e ?_
    refine thn_e ?_
    refine blk_hit ?_
    obtain rfl := sinj h
    exact hQ _ _ ⟨l8, (z3), hfr, t5, x5, i6⟩
  ·rintro _ qA yA ⟨m8, hfr, v6, o0, d7, u0, j1, x6⟩ h
   obtain ⟨o3, hx, h⟩ := bsome h
   refine E_join (fun e w => ∃ (g : Gh) (v3 : Value), Fr gI wI g w ∧ e 0 = up0 ∧ RV g.m w (x0 : List PayPiece) up0 ∧ e 3 = v3 ∧ RV g.m w (o3 : List PayPiece) v3 ∧ OS 3006 g w 27 (o3 : List PayPiece) v3 ∧ e 4 = .int .i64 (i3)) (fun Q' hQ => ?_) (fun rA zA hR => ?_)
   ·replace h := hx
    clear hx
    refine E_block ?_
    refine E_seq (E_region (EL_mv v6 rfl ?_))
    refine EL_mv x6 rfl ?_
    obtain ⟨y63, a7, h⟩ := bsome h
    refine EL_p (ePtr up0 i3 5) (P_indexAddr (α := PayPiece) Tryz.underlying33 Tryz.sizeOf27 rfl o0 rfl a7) rfl ?_
    have d9 := PT_idx o0 a7
    refine EL_do .plain rfl (D_load (g := m8) Tryz.isAgg27 Tryz.sizeOf27 rfl d9 fun i9 b7 => ?_)
    refine EL_do .plain rfl (D_allocOc (g := m8) 2005 (⟨0, 0, 0, [], 0⟩ : PayPiece) Tryz.zeroValue27 (fun m w => ⟨_, (rep_two rep_int (rep_two rep_int (rep_two rep_int (rep_two rep_nil rep_int)))), rfl⟩) fun n8 k9 c7 hs b67 cb => ?_)
    have hfr := hfr.stp hs
    have o0 := o0.stp hs
    have u0 := u0.stp hs
    have j1 := j1.stp hs rfl
    have b7 := b7.stp hs
    have lA : OSF 2005 60503 3 n8 k9 3 27 ([] : List Int) c7 := cb.osf (by rfl)
    clear cb
    refine EL_do .plain rfl (D_storeOc (g := n8) (v := i9) Tryz.sizeOf27 rfl b67 rfl b7 fun l9 aB hs b68 cb => ?_)
    clear cb
    have hfr := hfr.stp hs
    have o0 := o0.stp hs
    have u0 := u0.stp hs
    have j1 := j1.stp hs rfl
    refine EL_nil (thn_n (E_seq (E_region (EL_do .plain rfl (D_buildSlice (g := l9) 3017 (xs := ([] : List Int)) (vs := []) Tryz.underlying23 Tryz.sizeOf3 Tryz.zeroValue3 rfl rfl .nil RVs.nil rfl rfl fun o8 bB cB hs o69 n9 hxt hfl => ?_)))))
    have hfr := hfr.stp hs
    have o0 := o0.stp hs
    have u0 := u0.stp hs
    have j1 := j1.stp hs rfl
    have b68 := b68.stp hs rfl
    refine EL_p (fPtr c7 3) (P_fieldAddr at_27_3 rfl (OB.ptr b68)) rfl ?_
    refine EL_do .plain rfl (D_loadF (g := o8) part_PayPiece_3.1 Tryz.isAgg23 Tryz.sizeOf23 rfl b68 fun dB o9 => ?_)
    obtain ⟨i5, y8, h⟩ := bsome h
    refine EL_do .plain rfl (D_append (g := o8) (i := 3017) Tryz.underlying23 info_3 rfl rfl o69 n9 rfl o9 y8 fun t9 eB iB hs o72 q8 _ => ?_)
    have hfr := hfr.stp hs
    have o0 := o0.stp hs
    have u0 := u0.stp hs
    have j1 := j1.stp hs rfl
    have b68 := b68.stp hs rfl
    refine EL_p (fPtr c7 3) (P_fieldAddr at_27_3 rfl (OB.ptr b68)) rfl ?_
    refine EL_do .plain rfl (D_storeFc (g := t9) part_PayPiece_3 Tryz.sizeOf23 rfl b68 rfl q8 fun r8 jB hs b75 rst hos => ?_)
    have mA := hos _ _ 3017 3 (i5 : List Int) (rv_cells1 q8) rfl o72
    clear rst hos
    have hfr := hfr.stp hs
    have o0 := o0.stp hs
    have u0 := u0.stp hs
    have j1 := j1.stp hs rfl
    refine EL_nil (thn_n (E_region (EL_mv d7 rfl ?_)))
    refine EL_do .plain rfl (D_loadO (g := r8) Tryz.isAgg27 Tryz.sizeOf27 rfl b75 fun u9 y9 => ?_)
    refine EL_do .plain rfl (D_buildSlice (g := r8) 3024 (xs := ([{ y63 with Extras := i5 }] : List PayPiece)) (vs := [u9]) Tryz.underlying33 Tryz.sizeOf27 Tryz.zeroValue27 rfl rfl (.cons rfl .nil) (RVs.cons y9 RVs.nil) rfl rfl fun z9 lB mB hs o77 bA hxt hfl => ?_)
    have hfr := hfr.stp hs
    have o0 := o0.stp hs
    have u0 := u0.stp hs
    have j1 := j1.stp hs rfl
    obtain ⟨i8, a9, h⟩ := bsome h
    refine EL_do .plain rfl (D_append (g := z9) (i := 3006) Tryz.underlying33 info_27 rfl rfl j1 u0 rfl bA a9 fun gA nB t8 hs o78 iA _ => ?_)
    have hfr := hfr.stp hs
    have o0 := o0.stp hs
    refine EL_at t8 rfl rfl ?_
    refine EL_nil (blk_n ?_)
    obtain rfl := sinj h
    exact hQ _ _ ⟨gA, (t8), hfr, v6, o0, rfl, iA, o78, x6⟩
   ·clear hx
    obtain ⟨jA, e7, hfr, g7, i7, j7, m7, o7, u7⟩ := hR
    refine E_region (EL_mv u7 rfl ?_)
    refine EL_in (.int .i64 ((w64 (i3 + (1 : Int))))) rfl rfl rfl rfl ?_
    refine EL_at (.int .i64 ((w64 (i3 + (1 : Int))))) rfl rfl ?_
    exact EL_nil (thn_n (v8 (o3, (w64 (i3 + (1 : Int)))) _ _ ⟨jA, (e7), hfr, g7, i7, j7, m7, o7, rfl⟩ h))
 ·clear hx
  obtain ⟨oB, y6, hfr, v7, c8, nA⟩ := hR
  refine E_seq (E_region (EL_mv v7 rfl ?_))
  refine EL_at y6 rfl rfl ?_
  refine EL_nil (thn_n (E_ret ?_))
  obtain rfl := sinj h
  exact end1 rfl rfl (show _ = y6 from rfl) ⟨_, hfr, c8⟩
def f22 (x0 : PayList) (x1 : PayPiece) : Option (Int) :=
 Option.bind (α := Int) (
  lp (σ := Int × Int) (fun rC (t5, o0) =>
   jn (σ := Unit) (fun _ =>
    Option.bind (α := Int) (
     (idx ((x0).Rates) o0).bind fun a7 =>
     bif (decide ((a7).From ≤ (x1).Dense)) then
      (idx ((x0).Rates) o0).bind fun i8 =>
      some ((i8).Rate)
     else
      some (t5)
     ) fun z4 =>
    rC (z4, (w64 (o0 + (1 : Int))))
    ) fun k80 =>
   bif (decide (o0 < (((x0).Rates).length : Int))) then
    k80 ()
   else
    some (t5)
   ) big ((0 : Int), (0 : Int))
  ) fun j1 =>
 Option.bind (α := Int) (
  lp (σ := Int × Int) (fun i9 (i3, u0) =>
   jn (σ := Unit) (fun _ =>
    Option.bind (α := Int) (
     (idx ((x1).Extras) u0).bind fun b7 =>
     (idx ((x0).Extras) b7).bind fun v6 =>
     some ((w64 (i3 + v6)))
     ) fun i5 =>
    i9 (i5, (w64 (u0 + (1 : Int))))
    ) fun k9 =>
   bif (decide (u0 < (((x1).Extras).length : Int))) then
    k9 ()
   else
    some (i3)
   ) big ((1000 : Int), (0 : Int))
  ) fun l5 =>
 (quo64 (w64 ((w64 ((x1).Picks * j1)) * l5)) (1000000 : Int)).bind fun x6 =>
 some (x6)
theorem en22 : Enters Tryz.prog 22 := enters_of Tryz.func22 (by kernel_rfl) rfl
theorem wk22 {gI : Gh} {wI : World} {x0 : PayList} {x1 : PayPiece} {up0 : Value} (rp0 : RV gI.m wI x0 up0) {up1 : Value} (rp1 : RV gI.m wI x1 up1) {r : Int} (h : f22 x0 x1 = some r) : Fn Tryz.prog 22 #[up0, up1] gI wI (fun _ _ v => v = .int .i64 (r)) := by
 unfold f22 at h
 refine fn_of_E Tryz.func22 rfl (Nat.le_of_ble_eq_true rfl) fun g0 hm hfr => ?_
 have rp0 : RV g0.m wI x0 up0 := hm ▸ rp0
 have rp1 : RV g0.m wI x1 up1 := hm ▸ rp1
 show E _ 56 none _ _ _ _ _
 refine E_seq (E_region (EL_do .plain rfl (D_box (g := g0) rfl rp0 fun g1 w1 p1 hs q1 => ?_)))
 have hfr := hfr.ext hs
 have rp1 := rp1.ext hs
 refine EL_do .plain rfl (D_box (g := g1) rfl rp1 fun g2 w2 p2 hs q2 => ?_)
 have hfr := hfr.ext hs
 have q1 := q1.ext hs
 refine EL_at (.int .i64 (0)) rfl rfl ?_
 refine EL_nil (thn_n (E_seq (E_region (EL_at (.int .i64 (0)) rfl rfl ?_))))
 refine EL_at (.int .i64 (1000)) rfl rfl ?_
 refine EL_nil (thn_n ?_)
 obtain ⟨j1, hx, h⟩ := bsome h
 refine E_join (fun e w => ∃ (g : Gh) , Fr gI wI g w ∧ e 2 = p1 ∧ PT g.m w (x0 : PayList) p1 ∧ e 3 = p2 ∧ PT g.m w (x1 : PayPiece) p2 ∧ e 5 = .int .i64 (j1) ∧ e 6 = .int .i64 ((1000 : Int))) (fun Q' hQ => ?_) (fun gE nE hR => ?_)
 ·replace h := hx
  clear hx
  refine E_seq (E_region (EL_at (.int .i64 (0)) rfl rfl ?_))
  refine EL_nil (thn_n (E_block ?_))
  refine E_lp h (fun (s : Int × Int) e w => ∃ (g : Gh) , Fr gI wI g w ∧ e 2 = p1 ∧ PT g.m w (x0 : PayList) p1 ∧ e 3 = p2 ∧ PT g.m w (x1 : PayPiece) p2 ∧ e 5 = .int .i64 (s.1) ∧ e 6 = .int .i64 ((1000 : Int)) ∧ e 7 = .int .i64 (s.2)) ⟨g2, hfr, rfl, q1, rfl, q2, rfl, rfl, rfl⟩ (fun X75 rC tC => ?_)
  rintro ⟨t5, o0⟩ oE qF ⟨l9, hfr, c7, x5, n8, o8, q8, r8, t8⟩ h
  refine E_joinC h (fun (s : Unit) e w => ∃ (g : Gh) , Fr gI wI g w ∧ e 2 = p1 ∧ PT g.m w (x0 : PayList) p1 ∧ e 3 = p2 ∧ PT g.m w (x1 : PayPiece) p2 ∧ e 5 = .int .i64 (t5) ∧ e 6 = .int .i64 ((1000 : Int)) ∧ e 7 = .int .i64 (o0)) (fun X80 k80 uC h => ?_) ?_
  ·refine E_seq (E_region (EL_mv t8 rfl ?_))
   refine EL_p (fPtr p1 0) (P_fieldAddr at_25_0 c7 (PT.ptr x5)) rfl ?_
   have cE := PT_field (part_PayList_0).1 x5
   refine EL_do .plain rfl (D_load (g := l9) Tryz.isAgg22 Tryz.sizeOf22 rfl cE fun rF dE => ?_)
   refine EL_p (.int .i64 (((x0).Rates).length : Int)) (P_len Tryz.underlying22 rfl dE) rfl ?_
   refine EL_p (.bool ((decide (o0 < (((x0).Rates).length : Int))))) (P_int rfl rfl rfl) rfl ?_
   refine EL_nil (thn_n ?_)
   rcases csome h with ⟨k8, h⟩ | ⟨k8, h⟩
   ·refine E_ct k8 rfl ?_
    exact E_skip (thn_n (uC () _ _ ⟨l9, hfr, c7, x5, n8, o8, q8, r8, t8⟩ h))
   ·refine E_cf k8 rfl ?_
    refine E_exit ?_
    refine thn_e ?_
    refine thn_e ?_
    refine blk_hit ?_
    obtain rfl := sinj h
    exact hQ _ _ ⟨l9, hfr, c7, x5, n8, o8, q8, r8⟩
  ·rintro _ rE sF ⟨eE, hfr, i6, j3, d7, z3, zB, v8, j6⟩ h
   obtain ⟨z4, hx, h⟩ := bsome h
   refine E_join (fun e w => ∃ (g : Gh) , Fr gI wI g w ∧ e 2 = p1 ∧ PT g.m w (x0 : PayList) p1 ∧ e 3 = p2 ∧ PT g.m w (x1 : PayPiece) p2 ∧ e 5 = .int .i64 (z4) ∧ e 6 = .int .i64 ((1000 : Int)) ∧ e 7 = .int .i64 (o0)) (fun Q' hQ => ?_) (fun iE sE hR => ?_)
   ·replace h := hx
    clear hx
    refine E_block ?_
    refine E_seq ?_
    have vC := PT_field (part_PayList_0).1 j3
    refine L_load (x := .tmp 16) Tryz.isAgg22 Tryz.sizeOf22 vC fun l8 n9 aC => ?_
    obtain ⟨a7, x8, h⟩ := bsome h
    have o9 := PT_idx n9 x8
    have xC := PT_field (part_PayRate_0).1 o9
    refine L_load (x := .tmp 20) Tryz.isAgg3 Tryz.sizeOf3 xC fun tE yC cC => ?_
    obtain rfl := RV_int.1 yC
    have aD := PT_field (part_PayPiece_1).1 z3
    refine L_load (x := .tmp 22) Tryz.isAgg3 Tryz.sizeOf3 aD fun uE bD dC => ?_
    obtain rfl := RV_int.1 bD
    refine E_drawL (g := eE) (n := 9) [] [0, 1, 2, 3, 4, 5, 6, 7, 8] rfl mixed (by kernel_rfl) trivial ?_
    refine L_p (fPtr p1 0) rfl rfl (P_fieldAddr at_25_0 i6 (PT.ptr j3)) ?_
    refine L_ld (c := l8) rfl rfl .plain (fun _ _ h => h.ch) aC rfl ?_
    refine L_p (.int .i64 (o0)) rfl rfl (P_move j6) ?_
    refine L_p (ePtr l8 o0 2) rfl rfl (P_indexAddr (α := PayRate) Tryz.underlying22 Tryz.sizeOf87 rfl n9 rfl x8) ?_
    refine L_p (fPtr (ePtr l8 o0 2) 0) rfl rfl (P_fieldAddr at_87_0 rfl (PT.ptr o9)) ?_
    refine L_ld (c := .int .i64 ((a7).From)) rfl rfl .plain (fun _ _ h => h.ch) cC rfl ?_
    refine L_p (fPtr p2 1) rfl rfl (P_fieldAddr at_27_1 d7 (PT.ptr z3)) ?_
    refine L_ld (c := .int .i64 ((x1).Dense)) rfl rfl .plain (fun _ _ h => h.ch) dC rfl ?_
    refine L_p (.bool ((decide ((a7).From ≤ (x1).Dense)))) rfl rfl (P_int rfl rfl rfl) ?_
    refine L_nl fun e7 vE hs => ?_
    have hfr := hfr.ext hs
    have j3 := j3.ext hs
    have z3 := z3.ext hs
    clear hs
    refine EL_nil (thn_n ?_)
    rcases csome h with ⟨g7, h⟩ | ⟨g7, h⟩
    ·refine E_ct g7 rfl ?_
     refine E_region (EL_p (fPtr p1 0) (P_fieldAddr at_25_0 i6 (PT.ptr j3)) rfl ?_)
     have cD := PT_field (part_PayList_0).1 j3
     refine EL_do .plain rfl (D_load (g := e7) Tryz.isAgg22 Tryz.sizeOf22 rfl cD fun t9 u9 => ?_)
     refine EL_mv j6 rfl ?_
     obtain ⟨i8, y8, h⟩ := bsome h
     refine EL_p (ePtr t9 o0 2) (P_indexAddr (α := PayRate) Tryz.underlying22 Tryz.sizeOf87 rfl u9 rfl y8) rfl ?_
     have y9 := PT_idx u9 y8
     refine EL_p (fPtr (ePtr t9 o0 2) 1) (P_fieldAddr at_87_1 rfl (PT.ptr y9)) rfl ?_
     have eD := PT_field (part_PayRate_1).1 y9
     refine EL_do .plain rfl (D_load (g := e7) Tryz.isAgg3 Tryz.sizeOf3 rfl eD fun xE gD => ?_)
     obtain rfl := RV_int.1 gD
     refine EL_at (.int .i64 ((i8).Rate)) rfl rfl ?_
     refine EL_nil (blk_n ?_)
     obtain rfl := sinj h
     exact hQ _ _ ⟨e7, hfr, i6, j3, d7, z3, rfl, v8, j6⟩
    ·refine E_cf g7 rfl ?_
     refine E_skip (blk_n ?_)
     obtain rfl := sinj h
     exact hQ _ _ ⟨e7, hfr, i6, j3, d7, z3, zB, v8, j6⟩
   ·clear hx
    obtain ⟨iD, hfr, z9, bA, gA, iA, jA, lA, mA⟩ := hR
    refine E_region (EL_mv mA rfl ?_)
    refine EL_in (.int .i64 ((w64 (o0 + (1 : Int))))) rfl rfl rfl rfl ?_
    refine EL_at (.int .i64 ((w64 (o0 + (1 : Int))))) rfl rfl ?_
    exact EL_nil (thn_n (tC (z4, (w64 (o0 + (1 : Int)))) _ _ ⟨iD, hfr, z9, bA, gA, iA, jA, lA, rfl⟩ h))
 ·clear hx
  obtain ⟨jD, hfr, nA, oA, pA, qA, rA, uA⟩ := hR
  obtain ⟨l5, hx, h⟩ := bsome h
  refine E_join (fun e w => ∃ (g : Gh) , Fr gI wI g w ∧ e 3 = p2 ∧ PT g.m w (x1 : PayPiece) p2 ∧ e 5 = .int .i64 (j1) ∧ e 6 = .int .i64 (l5)) (fun Q' hQ => ?_) (fun jE yE hR => ?_)
  ·replace h := hx
   clear hx
   refine E_seq (E_region (EL_at (.int .i64 (0)) rfl rfl ?_))
   refine EL_nil (thn_n (E_block ?_))
   refine E_lp h (fun (s : Int × Int) e w => ∃ (g : Gh) , Fr gI wI g w ∧ e 2 = p1 ∧ PT g.m w (x0 : PayList) p1 ∧ e 3 = p2 ∧ PT g.m w (x1 : PayPiece) p2 ∧ e 5 = .int .i64 (j1) ∧ e 6 = .int .i64 (s.1) ∧ e 8 = .int .i64 (s.2)) ⟨jD, hfr, nA, oA, pA, qA, rA, uA, rfl⟩ (fun X212 i9 eC => ?_)
   rintro ⟨i3, u0⟩ kE zE ⟨m8, hfr, xA, yA, y6, q5, j7, m7, o7⟩ h
   refine E_joinC h (fun (s : Unit) e w => ∃ (g : Gh) , Fr gI wI g w ∧ e 2 = p1 ∧ PT g.m w (x0 : PayList) p1 ∧ e 3 = p2 ∧ PT g.m w (x1 : PayPiece) p2 ∧ e 5 = .int .i64 (j1) ∧ e 6 = .int .i64 (i3) ∧ e 8 = .int .i64 (u0)) (fun X217 k9 iC h => ?_) ?_
   ·refine E_seq (E_region (EL_mv o7 rfl ?_))
    refine EL_p (fPtr p2 3) (P_fieldAddr at_27_3 y6 (PT.ptr q5)) rfl ?_
    have kD := PT_field (part_PayPiece_3).1 q5
    refine EL_do .plain rfl (D_load (g := m8) Tryz.isAgg23 Tryz.sizeOf23 rfl kD fun cF lD => ?_)
    refine EL_p (.int .i64 (((x1).Extras).length : Int)) (P_len Tryz.underlying23 rfl lD) rfl ?_
    refine EL_p (.bool ((decide (u0 < (((x1).Extras).length : Int))))) (P_int rfl rfl rfl) rfl ?_
    refine EL_nil (thn_n ?_)
    rcases csome h with ⟨i7, h⟩ | ⟨i7, h⟩
    ·refine E_ct i7 rfl ?_
     exact E_skip (thn_n (iC () _ _ ⟨m8, hfr, xA, yA, y6, q5, j7, m7, o7⟩ h))
    ·refine E_cf i7 rfl ?_
     refine E_exit ?_
     refine thn_e ?_
     refine thn_e ?_
     refine blk_hit ?_
     obtain rfl := sinj h
     exact hQ _ _ ⟨m8, hfr, y6, q5, j7, m7⟩
   ·rintro _ lE dF ⟨mD, hfr, u7, o3, v7, u3, zA, aB, c8⟩ h
    obtain ⟨i5, hx, h⟩ := bsome h
    refine E_join (fun e w => ∃ (g : Gh) , Fr gI wI g w ∧ e 2 = p1 ∧ PT g.m w (x0 : PayList) p1 ∧ e 3 = p2 ∧ PT g.m w (x1 : PayPiece) p2 ∧ e 5 = .int .i64 (j1) ∧ e 6 = .int .i64 (i5) ∧ e 8 = .int .i64 (u0)) (fun Q' hQ => ?_) (fun mE eF hR => ?_)
    ·replace h := hx
     clear hx
     refine E_block ?_
     have nD := PT_field (part_PayList_1).1 o3
     refine L_load (x := .tmp 39) Tryz.isAgg23 Tryz.sizeOf23 nD fun bB cB jC => ?_
     have oD := PT_field (part_PayPiece_3).1 u3
     refine L_load (x := .tmp 41) Tryz.isAgg23 Tryz.sizeOf23 oD fun dB eB kC => ?_
     obtain ⟨b7, a9, h⟩ := bsome h
     have sD := PT_idx eB a9
     refine L_load (x := .tmp 44) Tryz.isAgg3 Tryz.sizeOf3 sD fun iF tD lC => ?_
     obtain rfl := RV_int.1 tD
     obtain ⟨v6, d9, h⟩ := bsome h
     have uD := PT_idx cB d9
     refine L_load (x := .tmp 46) Tryz.isAgg3 Tryz.sizeOf3 uD fun nF vD mC => ?_
     obtain rfl := RV_int.1 vD
     refine E_drawL (g := mD) (n := 12) [] [0, 1, 2, 3, 4, 5, 6, 7, 8, 9, 10, 11] rfl mixed (by kernel_rfl) trivial ?_
     refine L_p (.int .i64 (i3)) rfl rfl (P_move aB) ?_
     refine L_p (fPtr p1 1) rfl rfl (P_fieldAddr at_25_1 u7 (PT.ptr o3)) ?_
     refine L_ld (c := bB) rfl rfl .plain (fun _ _ h => h.ch) jC rfl ?_
     refine L_p (fPtr p2 3) rfl rfl (P_fieldAddr at_27_3 v7 (PT.ptr u3)) ?_
     refine L_ld (c := dB) rfl rfl .plain (fun _ _ h => h.ch) kC rfl ?_
     refine L_p (.int .i64 (u0)) rfl rfl (P_move c8) ?_
     refine L_p (ePtr dB u0 1) rfl rfl (P_indexAddr (α := Int) Tryz.underlying23 Tryz.sizeOf3 rfl eB rfl a9) ?_
     refine L_ld (c := .int .i64 (b7)) rfl rfl .plain (fun _ _ h => h.ch) lC rfl ?_
     refine L_p (ePtr bB b7 1) rfl rfl (P_indexAddr (α := Int) Tryz.underlying23 Tryz.sizeOf3 rfl cB rfl d9) ?_
     refine L_ld (c := .int .i64 (v6)) rfl rfl .plain (fun _ _ h => h.ch) mC rfl ?_
     refine L_p (.int .i64 ((w64 (i3 + v6)))) rfl rfl (P_int rfl rfl rfl) ?_
     refine L_p (.int .i64 ((w64 (i3 + v6)))) rfl rfl (P_assign rfl) ?_
     refine L_nl fun xD oF hs => ?_
     have hfr := hfr.ext hs
     have o3 := o3.ext hs
     have u3 := u3.ext hs
     clear hs
     refine EL_nil (blk_n ?_)
     obtain rfl := sinj h
     exact hQ _ _ ⟨xD, hfr, u7, o3, v7, u3, zA, rfl, c8⟩
    ·clear hx
     obtain ⟨yD, hfr, iB, jB, lB, mB, nB, oB, tB⟩ := hR
     refine E_region (EL_mv tB rfl ?_)
     refine EL_in (.int .i64 ((w64 (u0 + (1 : Int))))) rfl rfl rfl rfl ?_
     refine EL_at (.int .i64 ((w64 (u0 + (1 : Int))))) rfl rfl ?_
     exact EL_nil (thn_n (eC (i5, (w64 (u0 + (1 : Int)))) _ _ ⟨yD, hfr, iB, jB, lB, mB, nB, oB, rfl⟩ h))
  ·clear hx
   obtain ⟨zD, hfr, vB, g8, xB, yB⟩ := hR
   refine E_seq (E_region (EL_p (fPtr p2 2) (P_fieldAddr at_27_2 vB (PT.ptr g8)) rfl ?_))
   have aE := PT_field (part_PayPiece_2).1 g8
   refine EL_do .plain rfl (D_load (g := zD) Tryz.isAgg3 Tryz.sizeOf3 rfl aE fun pF bE => ?_)
   obtain rfl := RV_int.1 bE
   refine EL_mv xB rfl ?_
   refine EL_in (.int .i64 ((w64 ((x1).Picks * j1)))) rfl rfl rfl rfl ?_
   refine EL_mv yB rfl ?_
   refine EL_p (.int .i64 ((w64 ((w64 ((x1).Picks * j1)) * l5)))) (P_int rfl rfl rfl) rfl ?_
   obtain ⟨x6, qC, h⟩ := bsome h
   refine EL_p (.int .i64 (x6)) (P_int rfl rfl (congrArg (Option.map (Value.int .i64)) qC)) rfl ?_
   refine EL_at (.int .i64 (x6)) rfl rfl ?_
   refine EL_nil (thn_n (E_ret ?_))
   obtain rfl := sinj h
   exact end1 rfl rfl (show _ = .int .i64 (x6) from rfl) ⟨_, hfr, rfl⟩
def f23 (x0 : PayList) (x1 : Int) (x2 : Int) : Option (Int) :=
 (quo64 (w64 (x1 * (x0).Cap)) (1000 : Int)).bind fun y6 =>
 some ((min64 (w64 (x2 * (x0).Fine)) y6))
theorem en23 : Enters Tryz.prog 23 := enters_of Tryz.func23 (by kernel_rfl) rfl
theorem wk23 {gI : Gh} {wI : World} {x0 : PayList} {x1 : Int} {x2 : Int} {up0 : Value} (rp0 : RV gI.m wI x0 up0) {r : Int} (h : f23 x0 x1 x2 = some r) : Fn Tryz.prog 23 #[up0, .int .i64 (x1), .int .i64 (x2)] gI wI (fun _ _ v => v = .int .i64 (r)) := by
 unfold f23 at h
 refine fn_of_E Tryz.func23 rfl (Nat.le_of_ble_eq_true rfl) fun g0 hm hfr => ?_
 have rp0 : RV g0.m wI x0 up0 := hm ▸ rp0
 show E _ 17 none _ _ _ _ _
 refine E_seq (E_region (EL_do .plain rfl (D_box (g := g0) rfl rp0 fun g1 w1 p1 hs q1 => ?_)))
 have hfr := hfr.ext hs
 refine EL_at (.int .i64 (0)) rfl rfl ?_
 refine EL_nil (thn_n (E_seq (E_region (EL_mw (.int .i64 (x2)) rfl rfl ?_))))
 refine EL_p (fPtr p1 2) (P_fieldAddr at_25_2 rfl (PT.ptr q1)) rfl ?_
 have q2 := PT_field (part_PayList_2).1 q1
 refine EL_do .plain rfl (D_load (g := g1) Tryz.isAgg3 Tryz.sizeOf3 rfl q2 fun v3 r3 => ?_)
 obtain rfl := RV_int.1 r3
 refine EL_in (.int .i64 ((w64 (x2 * (x0).Fine)))) rfl rfl rfl rfl ?_
 refine EL_mw (.int .i64 (x1)) rfl rfl ?_
 refine EL_p (fPtr p1 3) (P_fieldAddr at_25_3 rfl (PT.ptr q1)) rfl ?_
 have q4 := PT_field (part_PayList_3).1 q1
 refine EL_do .plain rfl (D_load (g := g1) Tryz.isAgg3 Tryz.sizeOf3 rfl q4 fun v5 r5 => ?_)
 obtain rfl := RV_int.1 r5
 refine EL_in (.int .i64 ((w64 (x1 * (x0).Cap)))) rfl rfl rfl rfl ?_
 obtain ⟨y6, o0, h⟩ := bsome h
 refine EL_p (.int .i64 (y6)) (P_int rfl rfl (congrArg (Option.map (Value.int .i64)) o0)) rfl ?_
 refine EL_p (.int .i64 (min64 (w64 (x2 * (x0).Fine)) y6)) (P_min rfl rfl) rfl ?_
 refine EL_at (.int .i64 (min64 (w64 (x2 * (x0).Fine)) y6)) rfl rfl ?_
 refine EL_nil (thn_n (E_ret ?_))
 obtain rfl := sinj h
 exact end1 rfl rfl (show _ = .int .i64 (min64 (w64 (x2 * (x0).Fine)) y6) from rfl) ⟨_, hfr, rfl⟩
def f24 (x0 : PayList) (x1 : PayPiece) (x2 : Int) : Option (Int) :=
 (f22 x0 x1).bind fun y6 =>
 (f23 x0 y6 x2).bind fun y9 =>
 some ((w64 (y6 - y9)))
theorem en24 : Enters Tryz.prog 24 := enters_of Tryz.func24 (by kernel_rfl) rfl
theorem wk24 {gI : Gh} {wI : World} {x0 : PayList} {x1 : PayPiece} {x2 : Int} {up0 : Value} (rp0 : RV gI.m wI x0 up0) {up1 : Value} (rp1 : RV gI.m wI x1 up1) {r : Int} (h : f24 x0 x1 x2 = some r) : Fn Tryz.prog 24 #[up0, up1, .int .i64 (x2)] gI wI (fun _ _ v => v = .int .i64 (r)) := by
 unfold f24 at h
 refine fn_of_E Tryz.func24 rfl (Nat.le_of_ble_eq_true rfl) fun g0 hm hfr => ?_
 have rp0 : RV g0.m wI x0 up0 := hm ▸ rp0
 have rp1 : RV g0.m wI x1 up1 := hm ▸ rp1
 show E _ 17 none _ _ _ _ _
 refine E_seq (E_region (EL_do .plain rfl (D_box (g := g0) rfl rp0 fun g1 w1 p1 hs q1 => ?_)))
 have hfr := hfr.ext hs
 have rp1 := rp1.ext hs
 refine EL_do .plain rfl (D_box (g := g1) rfl rp1 fun g2 w2 p2 hs q2 => ?_)
 have hfr := hfr.ext hs
 have q1 := q1.ext hs
 refine EL_at (.int .i64 (0)) rfl rfl ?_
 refine EL_nil (thn_n (E_seq (E_region (EL_do .plain rfl (D_load (g := g2) Tryz.isAgg25 Tryz.sizeOf25 rfl q1 fun v3 r3 => ?_)))))
 refine EL_do .plain rfl (D_load (g := g2) Tryz.isAgg27 Tryz.sizeOf27 rfl q2 fun v4 r4 => ?_)
 obtain ⟨y6, o0, h⟩ := bsome h
 refine EL_do .plain rfl (D_call (g := g2) (vs := [v3, v4]) en22 (.cons rfl (.cons rfl .nil)) (wk22 r3 r4 o0) fun g5 w5_ v5 hs hr => ?_)
 have hfr := hfr.ext hs
 have q1 := q1.ext hs
 subst hr
 refine EL_at (.int .i64 (y6)) rfl rfl ?_
 refine EL_nil (thn_n (E_seq (E_region (EL_mw (.int .i64 (y6)) rfl rfl ?_))))
 refine EL_do .plain rfl (D_load (g := g5) Tryz.isAgg25 Tryz.sizeOf25 rfl q1 fun v7 r7 => ?_)
 refine EL_mw (.int .i64 (y6)) rfl rfl ?_
 refine EL_mw (.int .i64 (x2)) rfl rfl ?_
 obtain ⟨y9, u0, h⟩ := bsome h
 refine EL_do .plain rfl (D_call (g := g5) (vs := [v7, .int .i64 (y6), .int .i64 (x2)]) en23 (.cons rfl (.cons rfl (.cons rfl .nil))) (wk23 r7 u0) fun g8 w8_ v8 hs hr => ?_)
 have hfr := hfr.ext hs
 subst hr
 refine EL_in (.int .i64 ((w64 (y6 - y9)))) rfl rfl rfl rfl ?_
 refine EL_at (.int .i64 ((w64 (y6 - y9)))) rfl rfl ?_
 refine EL_nil (thn_n (E_ret ?_))
 obtain rfl := sinj h
 exact end1 rfl rfl (show _ = .int .i64 ((w64 (y6 - y9))) from rfl) ⟨_, hfr, rfl⟩
def f25 (x0 : Int) (x1 : Int) (x2 : Int) : Option (Bool) :=
 Option.bind (α := Bool) (
  bif (decide (x0 ≥ x1)) then
   some ((decide (x0 ≤ x2)))
  else
   some (false)
  ) fun o0 =>
 some (o0)
theorem en25 : Enters Tryz.prog 25 := enters_of Tryz.func25 (by kernel_rfl) rfl
theorem wk25 {gI : Gh} {wI : World} {x0 : Int} {x1 : Int} {x2 : Int}  {r : Bool} (h : f25 x0 x1 x2 = some r) : Fn Tryz.prog 25 #[.int .i64 (x0), .int .i64 (x1), .int .i64 (x2)] gI wI (fun _ _ v => v = .bool (r)) := by
 unfold f25 at h
 refine fn_of_E Tryz.func25 rfl (Nat.le_of_ble_eq_true rfl) fun g0 hm hfr => ?_
 show E _ 15 none _ _ _ _ _
 refine E_seq (E_region (EL_at (.bool false) rfl rfl ?_))
 refine EL_nil (thn_n ?_)
 obtain ⟨o0, hx, h⟩ := bsome h
 refine E_join (fun e w => ∃ (g : Gh) , Fr gI wI g w ∧ e 6 = .bool (o0)) (fun Q' hQ => ?_) (fun j1 w3 hR => ?_)
 ·replace h := hx
  clear hx
  refine E_region (EL_mw (.int .i64 (x0)) rfl rfl ?_)
  refine EL_mw (.int .i64 (x1)) rfl rfl ?_
  refine EL_in (.bool ((decide (x0 ≥ x1)))) rfl rfl rfl rfl ?_
  refine EL_mw (.bool ((decide (x0 ≥ x1)))) rfl rfl ?_
  rcases csome h with ⟨hc2, h⟩ | ⟨hc2, h⟩
  ·refine EL_y (.int .i64 (x0)) (P_move rfl) rfl rfl hc2 rfl ?_
   refine EL_y (.int .i64 (x2)) (P_move rfl) rfl rfl hc2 rfl ?_
   refine EL_y (.bool ((decide (x0 ≤ x2)))) (P_int rfl rfl rfl) rfl rfl hc2 rfl ?_
   refine EL_p (.bool ((decide (x0 ≤ x2)))) (P_pick (b := (decide (x0 ≥ x1))) rfl (pick_t hc2 rfl)) rfl ?_
   refine EL_at (.bool ((decide (x0 ≤ x2)))) rfl rfl ?_
   refine EL_nil ?_
   obtain rfl := sinj h
   exact hQ _ _ ⟨g0, hfr, rfl⟩
  ·refine EL_s rfl rfl hc2 rfl rfl ?_
   refine EL_s rfl rfl hc2 rfl rfl ?_
   refine EL_s rfl rfl hc2 rfl rfl ?_
   refine EL_p (.bool false) (P_pick (b := (decide (x0 ≥ x1))) rfl (pick_f hc2 rfl)) rfl ?_
   refine EL_at (.bool false) rfl rfl ?_
   refine EL_nil ?_
   obtain rfl := sinj h
   exact hQ _ _ ⟨g0, hfr, rfl⟩
 ·clear hx
  obtain ⟨g3, hfr, u0⟩ := hR
  refine E_ret ?_
  obtain rfl := sinj h
  exact end1 rfl rfl (show _ = .bool (o0) from u0) ⟨_, hfr, rfl⟩
def f26 (x0 : Int) (x1 : Int) : Option (Span) :=
 some ((⟨x0, x1⟩ : Span))
def f28 (x0 : PayList) (x1 : List PayPiece) : Option ((List Int) × (List Int)) :=
 Option.bind (α := (List Int) × (List Int)) (
  lp (σ := (List Int) × (List Int) × Int) (fun tB (j3, u3, u0) =>
   jn (σ := Unit) (fun _ =>
    Option.bind (α := (List Int) × (List Int)) (
     Option.bind (α := Int × Bool) (
      lp (σ := Int × Bool × Int) (fun vB (l5, b7, o0) =>
       jn (σ := Unit) (fun _ =>
        Option.bind (α := Int × Bool) (
         (idx x1 o0).bind fun cB =>
         bif ((cB).Weaver == u0) then
          (idx x1 o0).bind fun xB =>
          (idx x1 o0).bind fun v8 =>
          (f24 x0 xB ((v8).Faults)).bind fun g8 =>
          some ((w64 (l5 + g8)), true)
         else
          some (l5, b7)
         ) fun (d7, c7) =>
        vB (d7, c7, (w64 (o0 + (1 : Int))))
        ) fun yB =>
       bif (decide (o0 < ((x1).length : Int))) then
        yB ()
       else
        some (l5, b7)
       ) big ((0 : Int), false, (0 : Int))
      ) fun (i6, i8) =>
     bif i8 then
      (apnd 8 j3 (([u0] : List Int))).bind fun zB =>
      (apnd 8 u3 (([i6] : List Int))).bind fun aC =>
      some (zB, aC)
     else
      some (j3, u3)
     ) fun (j6, x6) =>
    tB (j6, x6, (w64 (u0 + (1 : Int))))
    ) fun cC =>
   bif (decide (u0 ≤ (50 : Int))) then
    cC ()
   else
    some (j3, u3)
   ) big (([] : List Int), ([] : List Int), (0 : Int))
  ) fun (e7, g7) =>
 some (e7, g7)
theorem en28 : Enters Tryz.prog 28 := enters_of Tryz.func28 (by kernel_rfl) rfl
theorem wk28 {gI : Gh} {wI : World} {x0 : PayList} {x1 : List PayPiece} {up0 : Value} (rp0 : RV gI.m wI x0 up0) {up1 : Value} (rp1 : RV gI.m wI x1 up1) {r : (List Int) × (List Int)} (h : f28 x0 x1 = some r) : Fn Tryz.prog 28 #[up0, up1] gI wI (fun m w v => ∃ y0 y1, v = .tuple #[y0, y1] ∧ RV m w (r.1) y0 ∧ RV m w (r.2) y1) := by
 unfold f28 at h
 refine fn_of_E Tryz.func28 rfl (Nat.le_of_ble_eq_true rfl) fun g0 hm hfr => ?_
 have rp0 : RV g0.m wI x0 up0 := hm ▸ rp0
 have rp1 : RV g0.m wI x1 up1 := hm ▸ rp1
 show E _ 55 none _ _ _ _ _
 refine E_seq (E_region (EL_do .plain rfl (D_box (g := g0) rfl rp0 fun g1 w1 p1 hs q1 => ?_)))
 have hfr := hfr.ext hs
 have rp1 := rp1.ext hs
 refine EL_at (.slice none 0 0) rfl rfl ?_
 refine EL_at (.slice none 0 0) rfl rfl ?_
 refine EL_nil (thn_n (E_seq (E_region (EL_do .plain rfl (D_buildSlice (g := g1) 3012 (xs := ([] : List Int)) (vs := []) Tryz.underlying23 Tryz.sizeOf3 Tryz.zeroValue3 rfl rfl .nil RVs.nil rfl rfl fun g2 w2 v2 hs o2 r2 hxt hfl => ?_)))))
 have hfr := hfr.stp hs
 have rp1 := rp1.stp hs
 have q1 := q1.stp hs
 refine EL_do .plain rfl (D_buildSlice (g := g2) 3013 (xs := ([] : List Int)) (vs := []) Tryz.underlying23 Tryz.sizeOf3 Tryz.zeroValue3 rfl rfl .nil RVs.nil rfl rfl fun g3 w3 v3 hs o3 r3 hxt hfl => ?_)
 have hfr := hfr.stp hs
 have rp1 := rp1.stp hs
 have q1 := q1.stp hs
 have r2 := r2.stp hs
 have o2 := o2.stp hs rfl
 refine EL_at v2 rfl rfl ?_
 refine EL_at v3 rfl rfl ?_
 refine EL_nil (thn_n ?_)
 obtain ⟨⟨e7, g7⟩, hx, h⟩ := bsome h
 refine E_join (fun e w => ∃ (g : Gh) (v6 v7 : Value), Fr gI wI g w ∧ e 6 = v6 ∧ RV g.m w (e7 : List Int) v6 ∧ OS 3012 g w 3 (e7 : List Int) v6 ∧ e 7 = v7 ∧ RV g.m w (g7 : List Int) v7 ∧ OS 3013 g w 3 (g7 : List Int) v7) (fun Q' hQ => ?_) (fun pG yG hR => ?_)
 ·replace h := hx
  clear hx
  refine E_seq (E_region (EL_at (.int .i64 (0)) rfl rfl ?_))
  refine EL_nil (thn_n (E_block ?_))
  refine E_lp h (fun (s : (List Int) × (List Int) × Int) e w => ∃ (g : Gh) (v6 v7 : Value), Fr gI wI g w ∧ e 1 = up1 ∧ RV g.m w (x1 : List PayPiece) up1 ∧ e 2 = p1 ∧ PT g.m w (x0 : PayList) p1 ∧ e 6 = v6 ∧ RV g.m w (s.1 : List Int) v6 ∧ OS 3012 g w 3 (s.1 : List Int) v6 ∧ e 7 = v7 ∧ RV g.m w (s.2.1 : List Int) v7 ∧ OS 3013 g w 3 (s.2.1 : List Int) v7 ∧ e 8 = .int .i64 (s.2.2)) ⟨g3, (v2), (v3), hfr, rfl, rp1, rfl, q1, rfl, r2, o2, rfl, r3, o3, rfl⟩ (fun X408 tB cF => ?_)
  rintro ⟨j3, u3, u0⟩ qG zG ⟨dC, j1, i3, hfr, eC, iC, jC, kC, i9, k9, l9, n9, o9, t9, u9⟩ h
  refine E_joinC h (fun (s : Unit) e w => ∃ (g : Gh) , Fr gI wI g w ∧ e 1 = up1 ∧ RV g.m w (x1 : List PayPiece) up1 ∧ e 2 = p1 ∧ PT g.m w (x0 : PayList) p1 ∧ e 6 = j1 ∧ RV g.m w (j3 : List Int) j1 ∧ OS 3012 g w 3 (j3 : List Int) j1 ∧ e 7 = i3 ∧ RV g.m w (u3 : List Int) i3 ∧ OS 3013 g w 3 (u3 : List Int) i3 ∧ e 8 = .int .i64 (u0)) (fun X411 cC dF h => ?_) ?_
  ·refine E_seq (E_region (EL_mv u9 rfl ?_))
   refine EL_in (.bool ((decide (u0 ≤ (50 : Int))))) rfl rfl rfl rfl ?_
   refine EL_nil (thn_n ?_)
   rcases csome h with ⟨x8, h⟩ | ⟨x8, h⟩
   ·refine E_ct x8 rfl ?_
    exact E_skip (thn_n (dF () _ _ ⟨dC, hfr, eC, iC, jC, kC, i9, k9, l9, n9, o9, t9, u9⟩ h))
   ·refine E_cf x8 rfl ?_
    refine E_exit ?_
    refine thn_e ?_
    refine thn_e ?_
    refine blk_hit ?_
    obtain ⟨rfl, rfl⟩ := pairs2 h
    exact hQ _ _ ⟨dC, (j1), (i3), hfr, i9, k9, l9, n9, o9, t9⟩
  ·rintro _ rG aH ⟨tF, hfr, lC, mC, qC, rC, tC, uC, vC, xC, yC, aD, bD⟩ h
   obtain ⟨⟨j6, x6⟩, hx, h⟩ := bsome h
   refine E_join (fun e w => ∃ (g : Gh) (v6 v7 : Value), Fr gI wI g w ∧ e 1 = up1 ∧ RV g.m w (x1 : List PayPiece) up1 ∧ e 2 = p1 ∧ PT g.m w (x0 : PayList) p1 ∧ e 6 = v6 ∧ RV g.m w (j6 : List Int) v6 ∧ OS 3012 g w 3 (j6 : List Int) v6 ∧ e 7 = v7 ∧ RV g.m w (x6 : List Int) v7 ∧ OS 3013 g w 3 (x6 : List Int) v7 ∧ e 8 = .int .i64 (u0)) (fun Q' hQ => ?_) (fun sG bH hR => ?_)
   ·replace h := hx
    clear hx
    refine E_block ?_
    refine E_seq (E_region (EL_at (.int .i64 (0)) rfl rfl ?_))
    refine EL_at (.bool false) rfl rfl ?_
    refine EL_nil (thn_n ?_)
    obtain ⟨⟨i6, i8⟩, hx, h⟩ := bsome h
    refine E_join (fun e w => ∃ (g : Gh) , Fr gI wI g w ∧ e 1 = up1 ∧ RV g.m w (x1 : List PayPiece) up1 ∧ e 2 = p1 ∧ PT g.m w (x0 : PayList) p1 ∧ e 6 = j1 ∧ RV g.m w (j3 : List Int) j1 ∧ OS 3012 g w 3 (j3 : List Int) j1 ∧ e 7 = i3 ∧ RV g.m w (u3 : List Int) i3 ∧ OS 3013 g w 3 (u3 : List Int) i3 ∧ e 8 = .int .i64 (u0) ∧ e 9 = .int .i64 (i6) ∧ e 10 = .bool (i8)) (fun Q' hQ => ?_) (fun tG cH hR => ?_)
    ·replace h := hx
     clear hx
     refine E_seq (E_region (EL_at (.int .i64 (0)) rfl rfl ?_))
     refine EL_nil (thn_n (E_block ?_))
     refine E_lp h (fun (s : Int × Bool × Int) e w => ∃ (g : Gh) , Fr gI wI g w ∧ e 1 = up1 ∧ RV g.m w (x1 : List PayPiece) up1 ∧ e 2 = p1 ∧ PT g.m w (x0 : PayList) p1 ∧ e 6 = j1 ∧ RV g.m w (j3 : List Int) j1 ∧ OS 3012 g w 3 (j3 : List Int) j1 ∧ e 7 = i3 ∧ RV g.m w (u3 : List Int) i3 ∧ OS 3013 g w 3 (u3 : List Int) i3 ∧ e 8 = .int .i64 (u0) ∧ e 9 = .int .i64 (s.1) ∧ e 10 = .bool (s.2.1) ∧ e 11 = .int .i64 (s.2.2)) ⟨tF, hfr, lC, mC, qC, rC, tC, uC, vC, xC, yC, aD, bD, rfl, rfl, rfl⟩ (fun X707 vB eF => ?_)
     rintro ⟨l5, b7, o0⟩ uG dH ⟨cD, hfr, k8, l8, y9, z9, bA, gA, iA, jA, lA, mA, nA, oA, r8, t8⟩ h
     refine E_joinC h (fun (s : Unit) e w => ∃ (g : Gh) , Fr gI wI g w ∧ e 1 = up1 ∧ RV g.m w (x1 : List PayPiece) up1 ∧ e 2 = p1 ∧ PT g.m w (x0 : PayList) p1 ∧ e 6 = j1 ∧ RV g.m w (j3 : List Int) j1 ∧ OS 3012 g w 3 (j3 : List Int) j1 ∧ e 7 = i3 ∧ RV g.m w (u3 : List Int) i3 ∧ OS 3013 g w 3 (u3 : List Int) i3 ∧ e 8 = .int .i64 (u0) ∧ e 9 = .int .i64 (l5) ∧ e 10 = .bool (b7) ∧ e 11 = .int .i64 (o0)) (fun X710 yB iF h => ?_) ?_
     ·refine E_seq (E_region (EL_mv t8 rfl ?_))
      refine EL_mv k8 rfl ?_
      refine EL_p (.int .i64 ((x1).length : Int)) (P_len Tryz.underlying33 rfl l8) rfl ?_
      refine EL_in (.bool ((decide (o0 < ((x1).length : Int))))) rfl rfl rfl rfl ?_
      refine EL_nil (thn_n ?_)
      rcases csome h with ⟨y8, h⟩ | ⟨y8, h⟩
      ·refine E_ct y8 rfl ?_
       exact E_skip (thn_n (iF () _ _ ⟨cD, hfr, k8, l8, y9, z9, bA, gA, iA, jA, lA, mA, nA, oA, r8, t8⟩ h))
      ·refine E_cf y8 rfl ?_
       refine E_exit ?_
       refine thn_e ?_
       refine thn_e ?_
       refine blk_hit ?_
       obtain ⟨rfl, rfl⟩ := pairs2 h
       exact hQ _ _ ⟨cD, hfr, k8, l8, y9, z9, bA, gA, iA, jA, lA, mA, nA, oA, r8⟩
     ·rintro _ vG gH ⟨dB, hfr, y6, z3, m8, a7, pA, i7, j7, qA, m7, o7, n8, rA, lB, x5⟩ h
      obtain ⟨⟨d7, c7⟩, hx, h⟩ := bsome h
      refine E_join (fun e w => ∃ (g : Gh) , Fr gI wI g w ∧ e 1 = up1 ∧ RV g.m w (x1 : List PayPiece) up1 ∧ e 2 = p1 ∧ PT g.m w (x0 : PayList) p1 ∧ e 6 = j1 ∧ RV g.m w (j3 : List Int) j1 ∧ OS 3012 g w 3 (j3 : List Int) j1 ∧ e 7 = i3 ∧ RV g.m w (u3 : List Int) i3 ∧ OS 3013 g w 3 (u3 : List Int) i3 ∧ e 8 = .int .i64 (u0) ∧ e 9 = .int .i64 (d7) ∧ e 10 = .bool (c7) ∧ e 11 = .int .i64 (o0)) (fun Q' hQ => ?_) (fun xG iH hR => ?_)
      ·replace h := hx
       clear hx
       refine E_block ?_
       refine E_seq (E_region (EL_mv y6 rfl ?_))
       refine EL_mv x5 rfl ?_
       obtain ⟨cB, eB, h⟩ := bsome h
       refine EL_p (ePtr up1 o0 5) (P_indexAddr (α := PayPiece) Tryz.underlying33 Tryz.sizeOf27 rfl z3 rfl eB) rfl ?_
       have eD := PT_idx z3 eB
       refine EL_p (fPtr (ePtr up1 o0 5) 0) (P_fieldAddr at_27_0 rfl (PT.ptr eD)) rfl ?_
       have uF := PT_field (part_PayPiece_0).1 eD
       refine EL_do .plain rfl (D_load (g := dB) Tryz.isAgg3 Tryz.sizeOf3 rfl uF fun jH vF => ?_)
       obtain rfl := RV_int.1 vF
       refine EL_mv n8 rfl ?_
       refine EL_in (.bool (((cB).Weaver == u0))) rfl rfl rfl rfl ?_
       refine EL_nil (thn_n ?_)
       rcases csome h with ⟨a9, h⟩ | ⟨a9, h⟩
       ·refine E_ct a9 rfl ?_
        refine L_load (x := .tmp 2) Tryz.isAgg25 Tryz.sizeOf25 a7 fun gD xF nF => ?_
        obtain ⟨xB, iB, h⟩ := bsome h
        have yF := PT_idx z3 iB
        refine L_load (x := .tmp 35) Tryz.isAgg27 Tryz.sizeOf27 yF fun iD zF oF => ?_
        obtain ⟨v8, jB, h⟩ := bsome h
        have jD := PT_idx z3 jB
        have aG := PT_field (part_PayPiece_4).1 jD
        refine L_load (x := .tmp 40) Tryz.isAgg3 Tryz.sizeOf3 aG fun kH bG pF => ?_
        obtain rfl := RV_int.1 bG
        obtain ⟨g8, qF, h⟩ := bsome h
        refine E_drawL (g := dB) (n := 15) [(11, (fun v g w => v = .int .i64 (g8)))] [0, 1, 2, 3, 4, 5, 6, 7, 8, 9, 10, 11, 12, 13, 14] rfl mixed (by kernel_rfl) (⟨fun _ => up_eq _, trivial⟩) ?_
        refine L_p (.int .i64 (l5)) rfl rfl (P_move rA) ?_
        refine L_ld (c := gD) rfl rfl .plain (fun _ _ h => h.ch) nF m8 ?_
        refine L_p up1 rfl rfl (P_move y6) ?_
        refine L_p (.int .i64 (o0)) rfl rfl (P_move x5) ?_
        refine L_p (ePtr up1 o0 5) rfl rfl (P_indexAddr (α := PayPiece) Tryz.underlying33 Tryz.sizeOf27 rfl z3 rfl iB) ?_
        refine L_ld (c := iD) rfl rfl .plain (fun _ _ h => h.ch) oF rfl ?_
        refine L_p up1 rfl rfl (P_move y6) ?_
        refine L_p (.int .i64 (o0)) rfl rfl (P_move x5) ?_
        refine L_p (ePtr up1 o0 5) rfl rfl (P_indexAddr (α := PayPiece) Tryz.underlying33 Tryz.sizeOf27 rfl z3 rfl jB) ?_
        refine L_p (fPtr (ePtr up1 o0 5) 4) rfl rfl (P_fieldAddr at_27_4 rfl (PT.ptr jD)) ?_
        refine L_ld (c := .int .i64 ((v8).Faults)) rfl rfl .plain (fun _ _ h => h.ch) pF rfl ?_
        refine L_do (φ := fun v g w => v = .int .i64 (g8)) rfl rfl .plain (fun g w hd => D_call (g := g) (vs := [gD, iD, .int .i64 ((v8).Faults)]) en24 (.cons rfl (.cons rfl (.cons rfl .nil))) (wk24 (xF.ext hd.1) (zF.ext hd.1) qF) fun g' w' v hs hr => ⟨g', hs, hr⟩) (fun lH hv => ?_)
        obtain ⟨_, _, _, rfl⟩ := hv
        refine L_p (.int .i64 ((w64 (l5 + g8)))) rfl rfl (P_int rfl rfl rfl) ?_
        refine L_p (.int .i64 ((w64 (l5 + g8)))) rfl rfl (P_assign rfl) ?_
        refine L_p (.bool true) rfl rfl (P_assign rfl) ?_
        refine L_nl fun cG mH hs => ?_
        have hfr := hfr.ext hs
        have z3 := z3.ext hs
        have a7 := a7.ext hs
        have i7 := i7.ext hs
        have j7 := j7.ext hs
        have m7 := m7.ext hs
        have o7 := o7.ext hs
        clear hs
        refine EL_nil (blk_n ?_)
        obtain ⟨rfl, rfl⟩ := pairs2 h
        exact hQ _ _ ⟨cG, hfr, y6, z3, m8, a7, pA, i7, j7, qA, m7, o7, n8, rfl, rfl, x5⟩
       ·refine E_cf a9 rfl ?_
        refine E_skip (blk_n ?_)
        obtain ⟨rfl, rfl⟩ := pairs2 h
        exact hQ _ _ ⟨dB, hfr, y6, z3, m8, a7, pA, i7, j7, qA, m7, o7, n8, rA, lB, x5⟩
      ·clear hx
       obtain ⟨dG, hfr, kD, lD, mD, nD, oD, sD, tD, uD, vD, xD, yD, zD, mB, nB⟩ := hR
       refine E_region (EL_mv nB rfl ?_)
       refine EL_in (.int .i64 ((w64 (o0 + (1 : Int))))) rfl rfl rfl rfl ?_
       refine EL_at (.int .i64 ((w64 (o0 + (1 : Int))))) rfl rfl ?_
       exact EL_nil (thn_n (eF (d7, c7, (w64 (o0 + (1 : Int)))) _ _ ⟨dG, hfr, kD, lD, mD, nD, oD, sD, tD, uD, vD, xD, yD, zD, mB, rfl⟩ h))
    ·clear hx
     obtain ⟨aE, hfr, uA, z4, xA, i5, yA, u7, c8, zA, q5, t5, o8, bE, oB⟩ := hR
     refine E_seq (E_region (EL_mv oB rfl ?_))
     refine EL_nil (thn_n ?_)
     rcases csome h with ⟨d9, h⟩ | ⟨d9, h⟩
     ·refine E_ct d9 rfl ?_
      refine E_region (EL_mv yA rfl ?_)
      refine EL_mv o8 rfl ?_
      refine EL_do .plain rfl (D_buildSlice (g := aE) 3047 (xs := ([u0] : List Int)) (vs := [.int .i64 (u0)]) Tryz.underlying23 Tryz.sizeOf3 Tryz.zeroValue3 rfl rfl (.cons rfl .nil) (RVs.cons (RV_int.2 rfl) RVs.nil) rfl rfl fun eG nH oH hs o804 gG hxt hfl => ?_)
      have hfr := hfr.stp hs
      have z4 := z4.stp hs
      have i5 := i5.stp hs
      have u7 := u7.stp hs
      have c8 := c8.stp hs rfl
      have q5 := q5.stp hs
      have t5 := t5.stp hs rfl
      obtain ⟨zB, rF, h⟩ := bsome h
      refine EL_do .plain rfl (D_append (g := eG) (i := 3012) Tryz.underlying23 info_3 rfl rfl c8 u7 rfl gG rF fun hG pH cE hs o805 q8 _ => ?_)
      have hfr := hfr.stp hs
      have z4 := z4.stp hs
      have i5 := i5.stp hs
      have q5 := q5.stp hs
      have t5 := t5.stp hs rfl
      refine EL_mv zA rfl ?_
      refine EL_mv bE rfl ?_
      refine EL_do .plain rfl (D_buildSlice (g := hG) 3051 (xs := ([i6] : List Int)) (vs := [.int .i64 (i6)]) Tryz.underlying23 Tryz.sizeOf3 Tryz.zeroValue3 rfl rfl (.cons rfl .nil) (RVs.cons (RV_int.2 rfl) RVs.nil) rfl rfl fun iG qH sH hs o807 jG hxt hfl => ?_)
      have hfr := hfr.stp hs
      have z4 := z4.stp hs
      have i5 := i5.stp hs
      have q5 := q5.stp hs
      have t5 := t5.stp hs rfl
      have q8 := q8.stp hs
      have o805 := o805.stp hs rfl
      obtain ⟨aC, sF, h⟩ := bsome h
      refine EL_do .plain rfl (D_append (g := iG) (i := 3013) Tryz.underlying23 info_3 rfl rfl t5 q5 rfl jG sF fun kG tH dE hs o808 lG _ => ?_)
      have hfr := hfr.stp hs
      have z4 := z4.stp hs
      have i5 := i5.stp hs
      have q8 := q8.stp hs
      have o805 := o805.stp hs rfl
      refine EL_at cE rfl rfl ?_
      refine EL_at dE rfl rfl ?_
      refine EL_nil (blk_n ?_)
      obtain ⟨rfl, rfl⟩ := pairs2 h
      exact hQ _ _ ⟨kG, (cE), (dE), hfr, uA, z4, xA, i5, rfl, q8, o805, rfl, lG, o808, o8⟩
     ·refine E_cf d9 rfl ?_
      refine E_skip (blk_n ?_)
      obtain ⟨rfl, rfl⟩ := pairs2 h
      exact hQ _ _ ⟨aE, (j1), (i3), hfr, uA, z4, xA, i5, yA, u7, c8, zA, q5, t5, o8⟩
   ·clear hx
    obtain ⟨mG, eE, gE, hfr, iE, jE, kE, lE, mE, nE, oE, rE, sE, tE, uE⟩ := hR
    refine E_region (EL_mv uE rfl ?_)
    refine EL_in (.int .i64 ((w64 (u0 + (1 : Int))))) rfl rfl rfl rfl ?_
    refine EL_at (.int .i64 ((w64 (u0 + (1 : Int))))) rfl rfl ?_
    exact EL_nil (thn_n (cF (j6, x6, (w64 (u0 + (1 : Int)))) _ _ ⟨mG, (eE), (gE), hfr, iE, jE, kE, lE, mE, nE, oE, rE, sE, tE, rfl⟩ h))
 ·clear hx
  obtain ⟨uH, aB, bB, hfr, vE, xE, nG, yE, zE, oG⟩ := hR
  refine E_seq (E_region (EL_mv vE rfl ?_))
  refine EL_mv yE rfl ?_
  refine EL_at aB rfl rfl ?_
  refine EL_at bB rfl rfl ?_
  refine EL_nil (thn_n (E_ret ?_))
  obtain rfl := sinj h
  exact end2 rfl rfl (show _ = aB from rfl) (show _ = bB from rfl) ⟨_, hfr, _, _, rfl, xE, zE⟩
def f29 (x0 : List Int) (x1 : List Int) : Option (Bool) :=
 jn (σ := Unit) (fun _ =>
  jn (σ := Unit) (fun _ =>
   some (true)
   ) fun k53 =>
  lp (σ := Int) (fun k54 o0 =>
   jn (σ := Unit) (fun _ =>
    jn (σ := Unit) (fun _ =>
     k54 ((w64 (o0 + (1 : Int))))
     ) fun d7 =>
    (idx x0 o0).bind fun u3 =>
    (idx x1 o0).bind fun z3 =>
    bif (u3 != z3) then
     some (false)
    else
     d7 ()
    ) fun k57 =>
   bif (decide (o0 < ((x0).length : Int))) then
    k57 ()
   else
    k53 ()
   ) big ((0 : Int))
  ) fun k2 =>
 bif (((x0).length : Int) != ((x1).length : Int)) then
  some (false)
 else
  k2 ()
theorem en29 : Enters Tryz.prog 29 := enters_of Tryz.func29 (by kernel_rfl) rfl
theorem wk29 {gI : Gh} {wI : World} {x0 : List Int} {x1 : List Int} {up0 : Value} (rp0 : RV gI.m wI x0 up0) {up1 : Value} (rp1 : RV gI.m wI x1 up1) {r : Bool} (h : f29 x0 x1 = some r) : Fn Tryz.prog 29 #[up0, up1] gI wI (fun _ _ v => v = .bool (r)) := by
 unfold f29 at h
 refine fn_of_E Tryz.func29 rfl (Nat.le_of_ble_eq_true rfl) fun g0 hm hfr => ?_
 have rp0 : RV g0.m wI x0 up0 := hm ▸ rp0
 have rp1 : RV g0.m wI x1 up1 := hm ▸ rp1
 show E _ 26 none _ _ _ _ _
 refine E_seq (E_region (EL_at (.bool false) rfl rfl ?_))
 refine EL_nil (thn_n (E_joinC h (fun (s : Unit) e w => ∃ (g : Gh) , Fr gI wI g w ∧ e 0 = up0 ∧ RV g.m w (x0 : List Int) up0 ∧ e 1 = up1 ∧ RV g.m w (x1 : List Int) up1) (fun X2 k2 hk2 h => ?_) ?_))
 ·refine E_seq (E_region (EL_mw up0 rfl rfl ?_))
  refine EL_p (.int .i64 ((x0).length : Int)) (P_len Tryz.underlying23 rfl rp0) rfl ?_
  refine EL_mw up1 rfl rfl ?_
  refine EL_p (.int .i64 ((x1).length : Int)) (P_len Tryz.underlying23 rfl rp1) rfl ?_
  refine EL_in (.bool ((((x0).length : Int) != ((x1).length : Int)))) rfl rfl rfl rfl ?_
  refine EL_nil (thn_n ?_)
  rcases csome h with ⟨hc3, h⟩ | ⟨hc3, h⟩
  ·refine E_ct hc3 rfl ?_
   refine E_seq (E_region (EL_at (.bool false) rfl rfl ?_))
   refine EL_nil (thn_n (E_ret (thn_r ?_)))
   obtain rfl := sinj h
   exact end1 rfl rfl (show _ = .bool false from rfl) ⟨_, hfr, rfl⟩
  ·refine E_cf hc3 rfl ?_
   exact E_skip (thn_n (hk2 () _ _ ⟨g0, hfr, rfl, rp0, rfl, rp1⟩ h))
 ·rintro _ k9 w4 ⟨g4, hfr, g7, i7, j7, m7⟩ h
  refine E_joinC h (fun (s : Unit) e w => ∃ (g : Gh) , Fr gI wI g w) (fun X53 k53 o7 h => ?_) ?_
  ·refine E_seq (E_region (EL_at (.int .i64 (0)) rfl rfl ?_))
   refine EL_nil (thn_n (E_block ?_))
   refine E_lp h (fun (s : Int) e w => ∃ (g : Gh) , Fr gI wI g w ∧ e 0 = up0 ∧ RV g.m w (x0 : List Int) up0 ∧ e 1 = up1 ∧ RV g.m w (x1 : List Int) up1 ∧ e 5 = .int .i64 (s)) ⟨g4, hfr, g7, i7, j7, m7, rfl⟩ (fun X54 k54 u7 => ?_)
   rintro o0 x8 l9 ⟨e7, hfr, z4, i5, b7, c7, l5⟩ h
   refine E_joinC h (fun (s : Unit) e w => ∃ (g : Gh) , Fr gI wI g w ∧ e 0 = up0 ∧ RV g.m w (x0 : List Int) up0 ∧ e 1 = up1 ∧ RV g.m w (x1 : List Int) up1 ∧ e 5 = .int .i64 (o0)) (fun X57 k57 v7 h => ?_) ?_
   ·refine E_seq (E_region (EL_mv l5 rfl ?_))
    refine EL_mv z4 rfl ?_
    refine EL_p (.int .i64 ((x0).length : Int)) (P_len Tryz.underlying23 rfl i5) rfl ?_
    refine EL_in (.bool ((decide (o0 < ((x0).length : Int))))) rfl rfl rfl rfl ?_
    refine EL_nil (thn_n ?_)
    rcases csome h with ⟨o3, h⟩ | ⟨o3, h⟩
    ·refine E_ct o3 rfl ?_
     exact E_skip (thn_n (v7 () _ _ ⟨e7, hfr, z4, i5, b7, c7, l5⟩ h))
    ·refine E_cf o3 rfl ?_
     refine E_exit ?_
     refine thn_e ?_
     refine thn_e ?_
     refine blk_hit ?_
     exact thn_n (o7 () _ _ ⟨e7, hfr⟩ h)
   ·rintro _ y8 n9 ⟨l8, hfr, q5, u0, t5, j1, i3⟩ h
    refine E_joinC h (fun (s : Unit) e w => ∃ (g : Gh) , Fr gI wI g w ∧ e 0 = up0 ∧ RV g.m w (x0 : List Int) up0 ∧ e 1 = up1 ∧ RV g.m w (x1 : List Int) up1 ∧ e 5 = .int .i64 (o0)) (fun X81 d7 c8 h => ?_) ?_
    ·refine E_block ?_
     refine E_seq ?_
     obtain ⟨u3, x5, h⟩ := bsome h
     have m8 := PT_idx u0 x5
     refine L_load (x := .tmp 19) Tryz.isAgg3 Tryz.sizeOf3 m8 fun o9 n8 g8 => ?_
     obtain rfl := RV_int.1 n8
     obtain ⟨z3, i6, h⟩ := bsome h
     have o8 := PT_idx j1 i6
     refine L_load (x := .tmp 23) Tryz.isAgg3 Tryz.sizeOf3 o8 fun t9 q8 i8 => ?_
     obtain rfl := RV_int.1 q8
     refine E_drawL (g := l8) (n := 9) [] [0, 1, 2, 3, 4, 5, 6, 7, 8] rfl mixed (by kernel_rfl) trivial ?_
     refine L_p up0 rfl rfl (P_move q5) ?_
     refine L_p (.int .i64 (o0)) rfl rfl (P_move i3) ?_
     refine L_p (ePtr up0 o0 1) rfl rfl (P_indexAddr (α := Int) Tryz.underlying23 Tryz.sizeOf3 rfl u0 rfl x5) ?_
     refine L_ld (c := .int .i64 (u3)) rfl rfl .plain (fun _ _ h => h.ch) g8 rfl ?_
     refine L_p up1 rfl rfl (P_move t5) ?_
     refine L_p (.int .i64 (o0)) rfl rfl (P_move i3) ?_
     refine L_p (ePtr up1 o0 1) rfl rfl (P_indexAddr (α := Int) Tryz.underlying23 Tryz.sizeOf3 rfl j1 rfl i6) ?_
     refine L_ld (c := .int .i64 (z3)) rfl rfl .plain (fun _ _ h => h.ch) i8 rfl ?_
     refine L_p (.bool ((u3 != z3))) rfl rfl (P_int rfl rfl rfl) ?_
     refine L_nl fun r8 u9 hs => ?_
     have hfr := hfr.ext hs
     have u0 := u0.ext hs
     have j1 := j1.ext hs
     clear hs
     refine EL_nil (thn_n ?_)
     rcases csome h with ⟨j3, h⟩ | ⟨j3, h⟩
     ·refine E_ct j3 rfl ?_
      refine E_seq (E_region (EL_at (.bool false) rfl rfl ?_))
      refine EL_nil (thn_n (E_ret (blk_r ?_)))
      refine thn_r ?_
      refine thn_r ?_
      refine blk_r ?_
      refine thn_r ?_
      obtain rfl := sinj h
      exact end1 rfl rfl (show _ = .bool false from rfl) ⟨_, hfr, rfl⟩
     ·refine E_cf j3 rfl ?_
      exact E_skip (blk_n (thn_n (c8 () _ _ ⟨r8, hfr, q5, u0, t5, j1, i3⟩ h)))
    ·rintro _ t8 a9 ⟨k8, hfr, j6, v6, x6, y6, a7⟩ h
     refine E_region (EL_mv a7 rfl ?_)
     refine EL_in (.int .i64 ((w64 (o0 + (1 : Int))))) rfl rfl rfl rfl ?_
     refine EL_at (.int .i64 ((w64 (o0 + (1 : Int))))) rfl rfl ?_
     exact EL_nil (thn_n (u7 ((w64 (o0 + (1 : Int)))) _ _ ⟨k8, hfr, j6, v6, x6, y6, rfl⟩ h))
  ·rintro _ v8 d9 ⟨i9, hfr⟩ h
   refine E_seq (E_region (EL_at (.bool true) rfl rfl ?_))
   refine EL_nil (thn_n (E_ret ?_))
   obtain rfl := sinj h
   exact end1 rfl rfl (show _ = .bool true from rfl) ⟨_, hfr, rfl⟩
def f38 (x0 : Prices) : Option (PayList) :=
 (rem64 (w64 ((4 : Int) * (((x0).Cap).toNat : Int))) (1001 : Int)).bind fun y7 =>
 Option.bind (α := PayList) (
  lp (σ := PayList × Int × Int) (fun lC (j1, z3, o0) =>
   jn (σ := Unit) (fun _ =>
    Option.bind (α := PayList × Int) (
     Option.bind (α := Int) (
      bif (decide (o0 < (((x0).Rates).length : Int))) then
       (idx ((x0).Rates) o0).bind fun y227 =>
       (idx (y227).toList (1 : Int)).bind fun y229 =>
       (rem64 ((y229).toNat : Int) (10001 : Int)).bind fun y232 =>
       some (y232)
      else
       some ((25 : Int))
      ) fun s6_233 =>
     Option.bind (α := Int) (
      bif (decide (o0 > (0 : Int))) then
       (idx ((x0).Rates) o0).bind fun y246 =>
       (idx (y246).toList (0 : Int)).bind fun y248 =>
       (rem64 ((y248).toNat : Int) (150 : Int)).bind fun y251 =>
       some ((w64 (z3 + (w64 ((1 : Int) + y251)))))
      else
       some (z3)
      ) fun s4_252 =>
     (apnd 16 ((j1).Rates) (([(⟨s4_252, s6_233⟩ : PayRate)] : List PayRate))).bind fun y258 =>
     some ({ j1 with Rates := y258 }, s4_252)
     ) fun (m3_261, s4_261) =>
    lC (m3_261, s4_261, (w64 (o0 + (1 : Int))))
    ) fun mC =>
   Option.bind (α := Bool) (
    bif (o0 == (0 : Int)) then
     some (true)
    else
     bif (decide (o0 < (((x0).Rates).length : Int))) then
      some ((decide (o0 < (6 : Int))))
     else
      some (false)
    ) fun i6 =>
   bif i6 then
    mC ()
   else
    some (j1)
   ) big ((⟨[], [], (((x0).Fine).toNat : Int), y7⟩ : PayList), (0 : Int), (0 : Int))
  ) fun d7 =>
 Option.bind (α := PayList) (
  lp (σ := PayList × Int) (fun qC (j3, u0) =>
   jn (σ := Unit) (fun _ =>
    Option.bind (α := PayList) (
     (idx ((x0).Extras) u0).bind fun o3 =>
     (apnd 8 ((j3).Extras) (([(w64 ((3 : Int) * ((o3).toNat : Int)))] : List Int))).bind fun xB =>
     some ({ j3 with Extras := xB })
     ) fun j6 =>
    qC (j6, (w64 (u0 + (1 : Int))))
    ) fun rC =>
   Option.bind (α := Bool) (
    bif (decide (u0 < (((x0).Extras).length : Int))) then
     some ((decide (u0 < (8 : Int))))
    else
     some (false)
    ) fun x6 =>
   bif x6 then
    rC ()
   else
    some (j3)
   ) big (d7, (0 : Int))
  ) fun e7 =>
 some (e7)
def f39 (x0 : Cut) (x1 : PayList) : Option (PayPiece) :=
 (rem64 (((x0).Weaver).toNat : Int) (51 : Int)).bind fun y6 =>
 (rem64 (((x0).Dense).toNat : Int) (1001 : Int)).bind fun y9 =>
 (rem64 (((x0).Picks).toNat : Int) (1000001 : Int)).bind fun q5 =>
 (rem64 (((x0).Faults).toNat : Int) (101 : Int)).bind fun t5 =>
 Option.bind (α := PayPiece) (
  lp (σ := PayPiece × Int) (fun u9 (u3, o0) =>
   jn (σ := Unit) (fun _ =>
    Option.bind (α := PayPiece) (
     (u8shr (x0).Extras (wu64 o0)).bind fun v6 =>
     bif ((v6 &&& (1 : UInt8)) == (1 : UInt8)) then
      (apnd 8 ((u3).Extras) (([o0] : List Int))).bind fun c8 =>
      some ({ u3 with Extras := c8 })
     else
      some (u3)
     ) fun z3 =>
    u9 (z3, (w64 (o0 + (1 : Int))))
    ) fun k57 =>
   bif (decide (o0 < (((x1).Extras).length : Int))) then
    k57 ()
   else
    some (u3)
   ) big ((⟨y6, y9, q5, [], t5⟩ : PayPiece), (0 : Int))
  ) fun z4 =>
 some (z4)
def f48  : Option (PayList) :=
 some ((⟨([(⟨0, (20 : Int)⟩ : PayRate), (⟨(60 : Int), (30 : Int)⟩ : PayRate)] : List PayRate), ([(100 : Int), (250 : Int)] : List Int), (12 : Int), (100 : Int)⟩ : PayList))
def f49 (x0 : Int) (x1 : Int) : Option (PayPiece) :=
 some ((⟨(3 : Int), x0, (50000 : Int), ([(0 : Int), (1 : Int)] : List Int), x1⟩ : PayPiece))
def f51 (x0 : Int) (x1 : Int) (x2 : Int) (x3 : Int) : Option (PayTable) :=
 some ((⟨([([x0, x1] : List Int), ([x2, x3] : List Int)] : List (List Int)), ([(12 : Int), (3 : Int)] : List Int), ([(6 : Int), (9 : Int)] : List Int), (15 : Int)⟩ : PayTable))
def f57 (x0 : PayPayList) (x1 : Int) (x2 : Int) : Option (Int) :=
 (quo64 (w64 (x1 * ((x0).PayList).Cap)) (1000 : Int)).bind fun y8 =>
 some ((min64 (w64 (x2 * ((x0).PayList).Fine)) y8))
theorem en57 : Enters Tryz.prog 57 := enters_of Tryz.func57 (by kernel_rfl) rfl
theorem wk57 {gI : Gh} {wI : World} {x0 : PayPayList} {x1 : Int} {x2 : Int} {up0 : Value} (rp0 : RV gI.m wI x0 up0) {r : Int} (h : f57 x0 x1 x2 = some r) : Fn Tryz.prog 57 #[up0, .int .i64 (x1), .int .i64 (x2)] gI wI (fun _ _ v => v = .int .i64 (r)) := by
 unfold f57 at h
 refine fn_of_E Tryz.func57 rfl (Nat.le_of_ble_eq_true rfl) fun g0 hm hfr => ?_
 have rp0 : RV g0.m wI x0 up0 := hm ▸ rp0
 show E _ 19 none _ _ _ _ _
 refine E_seq (E_region (EL_do .plain rfl (D_box (g := g0) rfl rp0 fun g1 w1 p1 hs q1 => ?_)))
 have hfr := hfr.ext hs
 refine EL_at (.int .i64 (0)) rfl rfl ?_
 refine EL_nil (thn_n (E_seq (E_region (EL_mw (.int .i64 (x2)) rfl rfl ?_))))
 refine EL_p (fPtr p1 0) (P_fieldAddr at_117_0 rfl (PT.ptr q1)) rfl ?_
 have q2 := PT_field (part_PayPayList_0).1 q1
 refine EL_p (fPtr (fPtr p1 0) 2) (P_fieldAddr at_25_2 rfl (PT.ptr q2)) rfl ?_
 have q3 := PT_field (part_PayList_2).1 q2
 refine EL_do .plain rfl (D_load (g := g1) Tryz.isAgg3 Tryz.sizeOf3 rfl q3 fun v4 r4 => ?_)
 obtain rfl := RV_int.1 r4
 refine EL_in (.int .i64 ((w64 (x2 * ((x0).PayList).Fine)))) rfl rfl rfl rfl ?_
 refine EL_mw (.int .i64 (x1)) rfl rfl ?_
 refine EL_p (fPtr p1 0) (P_fieldAddr at_117_0 rfl (PT.ptr q1)) rfl ?_
 have q5 := PT_field (part_PayPayList_0).1 q1
 refine EL_p (fPtr (fPtr p1 0) 3) (P_fieldAddr at_25_3 rfl (PT.ptr q5)) rfl ?_
 have q6 := PT_field (part_PayList_3).1 q5
 refine EL_do .plain rfl (D_load (g := g1) Tryz.isAgg3 Tryz.sizeOf3 rfl q6 fun v7 r7 => ?_)
 obtain rfl := RV_int.1 r7
 refine EL_in (.int .i64 ((w64 (x1 * ((x0).PayList).Cap)))) rfl rfl rfl rfl ?_
 obtain ⟨y8, o0, h⟩ := bsome h
 refine EL_p (.int .i64 (y8)) (P_int rfl rfl (congrArg (Option.map (Value.int .i64)) o0)) rfl ?_
 refine EL_p (.int .i64 (min64 (w64 (x2 * ((x0).PayList).Fine)) y8)) (P_min rfl rfl) rfl ?_
 refine EL_at (.int .i64 (min64 (w64 (x2 * ((x0).PayList).Fine)) y8)) rfl rfl ?_
 refine EL_nil (thn_n (E_ret ?_))
 obtain rfl := sinj h
 exact end1 rfl rfl (show _ = .int .i64 (min64 (w64 (x2 * ((x0).PayList).Fine)) y8) from rfl) ⟨_, hfr, rfl⟩
def f70 (x0 : Int) : Option (Bool) :=
 some ((x0 != (0 : Int)))
def f71 (x0 : List Int) : Option (Int × Int) :=
 Option.bind (α := Int × Int) (
  lp (σ := Int × Int × Int) (fun j7 (z4, u0, o0) =>
   bif (decide (o0 < ((x0).length : Int))) then
    Option.bind (α := Int × Int) (
     (idx x0 o0).bind fun t5 =>
     bif (t5 != (0 : Int)) then
      some (o0, (w64 (u0 + (1 : Int))))
     else
      some (z4, u0)
     ) fun (o3, u3) =>
    j7 (o3, u3, (w64 (o0 + (1 : Int))))
   else
    some (z4, u0)
   ) big ((0 : Int), (0 : Int), (0 : Int))
  ) fun (j1, i3) =>
 some (j1, i3)
end Go.Proofs.YtkmbkaoolacofaaGreat
