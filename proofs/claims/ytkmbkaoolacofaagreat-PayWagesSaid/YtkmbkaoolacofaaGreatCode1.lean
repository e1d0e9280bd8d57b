import Derived.Test.YtkmbkaoolacofaaGreatTypes
import Derived.Test.YtkmbkaoolacofaaGreatKn
import Derived.Test.YtkmbkaoolacofaaGreatShc
set_option maxRecDepth 8000
set_option maxHeartbeats 4000000
namespace Go.Proofs.YtkmbkaoolacofaaGreat
open Go.RowKit
theorem info_3 : (Tryz.prog.info? 3).map (fun i => (i.zero, i.size, i.bytes)) = some (some (.int .i64 0), 1, 8) := by kernel_rfl
theorem info_87 : (Tryz.prog.info? 87).map (fun i => (i.zero, i.size, i.bytes)) = some (some (.agg #[.int .i64 0, .int .i64 0]), 2, 16) := by kernel_rfl
theorem mixed : Tryz.prog.follows .mixedOrders = true := by kernel_rfl
theorem endm_c {P : Program} {e : Env} {ds : List Deferred} {w : World} {fn : Func} {R : Value → World → Prop} {t0 : Tmp} {v0 : Value} {y0 : TypeId} {a0 : Addr} (hres : fn.results = #[.cell t0 y0]) (hd : ds = []) (h0 : e t0 = .pointer (some a0)) (l0 : (loadVar y0 a0).run P w = .ok v0 w) (h : R v0 w) : atEnd P fn R .ret e ds w :=
 ⟨hd, fun tmps ht => ⟨_, by simp [results, hres, ht, asAddr, h0, l0], h⟩⟩
theorem info_27 : (Tryz.prog.info? 27).map (fun i => (i.zero, i.size, i.bytes)) = some (some (.agg #[.int .i64 0, .int .i64 0, .int .i64 0, .slice none 0 0, .int .i64 0]), 5, 56) := by kernel_rfl
theorem lay_117 : layoutOf Tryz.prog 117 = some ([.slice none 0 0, .slice none 0 0, .int .i64 0, .int .i64 0], [(0, 4)]) := by kernel_rfl
theorem lay_29 : layoutOf Tryz.prog 29 = some ([.int .i64 0, .int .i64 0], [(0, 1), (1, 1)]) := by kernel_rfl
theorem capf_0_2 {e : Env} {f : FuncId} {o0 : Operand} {u0 : Operand} {b0 : Value} {b1 : Value} (hb0 : ev e o0 = b0) (hb1 : ev e u0 = b1) : (Value.func (.func f) ((#[] : Array Operand).map (ev e)) ((#[o0, u0] : Array Operand).map (ev e))) = .func (.func f) #[] #[b0, b1] := by simp [hb0, hb1]
theorem fl_87 : Tryz.prog.fieldsOf 87 = #[{ name := "From", type := 3, offset := 0, embedded := false, tag := "", pkgPath := "", byteOffset := 0 }, { name := "Rate", type := 3, offset := 1, embedded := false, tag := "", pkgPath := "", byteOffset := 8 }] := by kernel_rfl
theorem seq_87 : SEq (α := PayRate) Tryz.prog 87 := by
 intro d x y w a b m wx m2 wy hx hy
 obtain ⟨_, ⟨_, _, rfl, rfl, rfl⟩, rfl⟩ := hx
 obtain ⟨_, ⟨_, _, rfl, rfl, rfl⟩, rfl⟩ := hy
 refine (run_equalIn_struct w (d + 1) 87 _ _ (by kernel_rfl) (by kernel_rfl)).trans ?_
 rw [fl_87]
 obtain ⟨x0, x1⟩ := x
 obtain ⟨y0, y1⟩ := y
 show (Op.eqFields (d + 1) #[.int .i64 (x0), .int .i64 (x1)] #[.int .i64 (y0), .int .i64 (y1)] _).run _ _ = _
 have x0p : (part 3 #[.int .i64 (x0), .int .i64 (x1)] 0).run Tryz.prog w = .ok (.int .i64 (x0)) w := part_one Tryz.isAgg3 rfl
 have x1p : (part 3 #[.int .i64 (x0), .int .i64 (x1)] 1).run Tryz.prog w = .ok (.int .i64 (x1)) w := part_one Tryz.isAgg3 rfl
 have y0p : (part 3 #[.int .i64 (y0), .int .i64 (y1)] 0).run Tryz.prog w = .ok (.int .i64 (y0)) w := part_one Tryz.isAgg3 rfl
 have y1p : (part 3 #[.int .i64 (y0), .int .i64 (y1)] 1).run Tryz.prog w = .ok (.int .i64 (y1)) w := part_one Tryz.isAgg3 rfl
 simp only [Op.eqFields, Sem.run_bind, Sem.run_ite, Sem.run_pure, x0p, x1p, y0p, y1p, Result.andThen_ok, run_equalIn_int _ _ _ _ _ _ _ Tryz.underlying3]
 simp
 grind
theorem eg_87 : Tryz.prog.eqGuardType Tryz.prog.depth 87 = false := by kernel_rfl
theorem endm_ct {P : Program} {e : Env} {ds : List Deferred} {w : World} {fn : Func} {R : Value → World → Prop} {t0 : Tmp} {v0 : Value} {y0 : TypeId} {a0 : Addr} {t1 : Tmp} {v1 : Value} (hres : fn.results = #[.cell t0 y0, .tmp t1]) (hd : ds = []) (h0 : e t0 = .pointer (some a0)) (l0 : (loadVar y0 a0).run P w = .ok v0 w) (h1 : e t1 = v1) (h : R (.tuple #[v0, v1]) w) : atEnd P fn R .ret e ds w :=
 ⟨hd, fun tmps ht => ⟨_, by simp [results, hres, ht, asAddr, h0, l0, h1], h⟩⟩
theorem tup2_0 {b0 b1 : Value} {B0 : Value → Prop} {B1 : Value → Prop} (h : ∃ c0 c1 : Value, Value.tuple #[b0, b1] = .tuple #[c0, c1] ∧ B0 c0 ∧ B1 c1) : B0 b0 := by
 obtain ⟨c0, c1, he, h0, h1⟩ := h; simp at he; obtain ⟨rfl, rfl⟩ := he; exact h0
theorem fl_29 : Tryz.prog.fieldsOf 29 = #[{ name := "Low", type := 3, offset := 0, embedded := false, tag := "", pkgPath := "", byteOffset := 0 }, { name := "High", type := 3, offset := 1, embedded := false, tag := "", pkgPath := "", byteOffset := 8 }] := by kernel_rfl
theorem seq_29 : SEq (α := Span) Tryz.prog 29 := by
 intro d x y w a b m wx m2 wy hx hy
 obtain ⟨_, ⟨_, _, rfl, rfl, rfl⟩, rfl⟩ := hx
 obtain ⟨_, ⟨_, _, rfl, rfl, rfl⟩, rfl⟩ := hy
 refine (run_equalIn_struct w (d + 1) 29 _ _ (by kernel_rfl) (by kernel_rfl)).trans ?_
 rw [fl_29]
 obtain ⟨x0, x1⟩ := x
 obtain ⟨y0, y1⟩ := y
 show (Op.eqFields (d + 1) #[.int .i64 (x0), .int .i64 (x1)] #[.int .i64 (y0), .int .i64 (y1)] _).run _ _ = _
 have x0p : (part 3 #[.int .i64 (x0), .int .i64 (x1)] 0).run Tryz.prog w = .ok (.int .i64 (x0)) w := part_one Tryz.isAgg3 rfl
 have x1p : (part 3 #[.int .i64 (x0), .int .i64 (x1)] 1).run Tryz.prog w = .ok (.int .i64 (x1)) w := part_one Tryz.isAgg3 rfl
 have y0p : (part 3 #[.int .i64 (y0), .int .i64 (y1)] 0).run Tryz.prog w = .ok (.int .i64 (y0)) w := part_one Tryz.isAgg3 rfl
 have y1p : (part 3 #[.int .i64 (y0), .int .i64 (y1)] 1).run Tryz.prog w = .ok (.int .i64 (y1)) w := part_one Tryz.isAgg3 rfl
 simp only [Op.eqFields, Sem.run_bind, Sem.run_ite, Sem.run_pure, x0p, x1p, y0p, y1p, Result.andThen_ok, run_equalIn_int _ _ _ _ _ _ _ Tryz.underlying3]
 simp
 grind
theorem eg_29 : Tryz.prog.eqGuardType Tryz.prog.depth 29 = false := by kernel_rfl
def f111 (x0 : List Int) : Option (List Int) := apnd 8 [] x0
theorem en111 : Enters Tryz.prog 111 := enters_of Tryz.func111 (by kernel_rfl) rfl
def lenTab : Str := (⟨[0, 1, 2, 2, 3, 3, 3, 3, 4, 4, 4, 4, 4, 4, 4, 4, 5, 5, 5, 5, 5, 5, 5, 5, 5, 5, 5, 5, 5, 5, 5, 5, 6, 6, 6, 6, 6, 6, 6, 6, 6, 6, 6, 6, 6, 6, 6, 6, 6, 6, 6, 6, 6, 6, 6, 6, 6, 6, 6, 6, 6, 6, 6, 6, 7, 7, 7, 7, 7, 7, 7, 7, 7, 7, 7, 7, 7, 7, 7, 7, 7, 7, 7, 7, 7, 7, 7, 7, 7, 7, 7, 7, 7, 7, 7, 7, 7, 7, 7, 7, 7, 7, 7, 7, 7, 7, 7, 7, 7, 7, 7, 7, 7, 7, 7, 7, 7, 7, 7, 7, 7, 7, 7, 7, 7, 7, 7, 7, 8, 8, 8, 8, 8, 8, 8, 8, 8, 8, 8, 8, 8, 8, 8, 8, 8, 8, 8, 8, 8, 8, 8, 8, 8, 8, 8, 8, 8, 8, 8, 8, 8, 8, 8, 8, 8, 8, 8, 8, 8, 8, 8, 8, 8, 8, 8, 8, 8, 8, 8, 8, 8, 8, 8, 8, 8, 8, 8, 8, 8, 8, 8, 8, 8, 8, 8, 8, 8, 8, 8, 8, 8, 8, 8, 8, 8, 8, 8, 8, 8, 8, 8, 8, 8, 8, 8, 8, 8, 8, 8, 8, 8, 8, 8, 8, 8, 8, 8, 8, 8, 8, 8, 8, 8, 8, 8, 8, 8, 8, 8, 8, 8, 8, 8, 8, 8, 8, 8, 8, 8, 8, 8, 8, 8, 8, 8, 8]⟩ : Str)
def f128 (x : Int) : Option Int := if 0 ≤ x ∧ x < 256 then (idx lenTab.b x).map fun c => w64 (0 + (c.toNat : Int)) else none
def f107 (x : Int) : Option Int := f128 x
def f12 : Option Bool := some true
theorem en12 : Enters Tryz.prog 12 := enters_of Tryz.func12 (by kernel_rfl) rfl
theorem wk12 {gI : Gh} {wI : World} {r : Bool} (h : f12 = some r) : Fn Tryz.prog 12 #[] gI wI (fun _ _ v => v = .bool (r)) := by
 injection h with h
 subst h
 exact wkK12
def f117 (x0 : List Int) : Option Int := compactN x0
theorem en117 : Enters Tryz.prog 117 := enters_of Tryz.func117 (by kernel_rfl) rfl
theorem wk117 {iI : Nat} {gI : Gh} {wI : World} {x0 : List Int} {up0 : Value} (mp0 : OM iI gI wI 3 x0 up0) {r : Int} (h : f117 x0 = some r) : FnM Tryz.prog 117 #[up0] iI gI wI (fun _ _ u => ∃ a c, u = .slice a r.toNat c) :=
 compact_fnM ⟨fun blk off cap zs w h1 h2 h3 => Tryz.slices_Compact_int blk off cap zs w h1 h2 h3, fun a cap w => Tryz.slices_Compact_int_empty a cap w⟩ mp0 h
def f11 (x0 : PayList) : Option (Bool) :=
 Option.bind (α := Bool) (
  bif (decide ((((x0).Rates).length : Int) > (12 : Int))) then
   some (true)
  else
   some ((decide ((((x0).Extras).length : Int) > (12 : Int))))
  ) fun u0 =>
 some (u0)
theorem en11 : Enters Tryz.prog 11 := enters_of Tryz.func11 (by kernel_rfl) rfl
theorem wk11 {gI : Gh} {wI : World} {x0 : PayList} {up0 : Value} (rp0 : RV gI.m wI x0 up0) {r : Bool} (h : f11 x0 = some r) : Fn Tryz.prog 11 #[up0] gI wI (fun _ _ v => v = .bool (r)) := by
 unfold f11 at h
 refine fn_of_E Tryz.func11 rfl (Nat.le_of_ble_eq_true rfl) fun g0 hm hfr => ?_
 have rp0 : RV g0.m wI x0 up0 := hm ▸ rp0
 show E _ 13 none _ _ _ _ _
 refine E_seq (E_region (EL_do .plain rfl (D_box (g := g0) rfl rp0 fun g1 w1 p1 hs q1 => ?_)))
 have hfr := hfr.ext hs
 refine EL_at (.bool false) rfl rfl ?_
 refine EL_nil (thn_n ?_)
 obtain ⟨u0, hx, h⟩ := bsome h
 refine E_join (fun e w => ∃ (g : Gh) , Fr gI wI g w ∧ e 2 = .bool (u0)) (fun Q' hQ => ?_) (fun o3 u3 hR => ?_)
 ·replace h := hx
  clear hx
  refine E_region (EL_p (fPtr p1 0) (P_fieldAddr at_25_0 rfl (PT.ptr q1)) rfl ?_)
  have q7 := PT_field (part_PayList_0).1 q1
  refine EL_do .plain rfl (D_load (g := g1) Tryz.isAgg22 Tryz.sizeOf22 rfl q7 fun v8 r8 => ?_)
  refine EL_p (.int .i64 (((x0).Rates).length : Int)) (P_len Tryz.underlying22 rfl r8) rfl ?_
  refine EL_p (.bool ((decide ((((x0).Rates).length : Int) > (12 : Int))))) (P_int rfl rfl rfl) rfl ?_
  refine EL_p (.bool ((decide ((((x0).Rates).length : Int) > (12 : Int))))) (P_move rfl) rfl ?_
  rcases csome h with ⟨o0, h⟩ | ⟨o0, h⟩
  ·refine EL_s rfl rfl o0 rfl rfl ?_
   iterate 3 refine EL_s rfl rfl o0 rfl rfl ?_
   refine EL_p (.bool true) (P_pick (b := (decide ((((x0).Rates).length : Int) > (12 : Int)))) rfl (pick_t o0 rfl)) rfl ?_
   refine EL_at (.bool true) rfl rfl ?_
   refine EL_nil ?_
   obtain rfl := sinj h
   exact hQ _ _ ⟨g1, hfr, rfl⟩
  ·refine EL_y (fPtr p1 1) (P_fieldAddr at_25_1 rfl (PT.ptr q1)) rfl rfl o0 rfl ?_
   have i3 := PT_field (part_PayList_1).1 q1
   refine EL_do (.yes2 rfl rfl o0) rfl (D_load (g := g1) Tryz.isAgg23 Tryz.sizeOf23 rfl i3 fun z3 j3 => ?_)
   refine EL_y (.int .i64 (((x0).Extras).length : Int)) (P_len Tryz.underlying23 rfl j3) rfl rfl o0 rfl ?_
   refine EL_y (.bool ((decide ((((x0).Extras).length : Int) > (12 : Int))))) (P_int rfl rfl rfl) rfl rfl o0 rfl ?_
   refine EL_p (.bool ((decide ((((x0).Extras).length : Int) > (12 : Int))))) (P_pick (b := (decide ((((x0).Rates).length : Int) > (12 : Int)))) rfl (pick_f o0 rfl)) rfl ?_
   refine EL_p (.bool ((decide ((((x0).Extras).length : Int) > (12 : Int))))) (P_assign rfl) rfl ?_
   refine EL_nil ?_
   obtain rfl := sinj h
   exact hQ _ _ ⟨g1, hfr, rfl⟩
 ·clear hx
  obtain ⟨z4, hfr, j1⟩ := hR
  refine E_ret ?_
  obtain rfl := sinj h
  exact end1 rfl rfl (show _ = .bool (u0) from j1) ⟨_, hfr, rfl⟩
def f13 (x0 : PayList) : Option (PayList) :=
 (apnd 16 (([] : List PayRate)) ((x0).Rates)).bind fun y7 =>
 (apnd 8 (([] : List Int)) ((x0).Extras)).bind fun o0 =>
 some ({ { x0 with Rates := y7 } with Extras := o0 })
theorem en13 : Enters Tryz.prog 13 := enters_of Tryz.func13 (by kernel_rfl) rfl
theorem wk13 {gI : Gh} {wI : World} {x0 : PayList} {up0 : Value} (rp0 : RV gI.m wI x0 up0) {r : PayList} (h : f13 x0 = some r) : Fn Tryz.prog 13 #[up0] gI wI (fun m w v => RV m w (r) v) := by
 unfold f13 at h
 refine fn_of_E Tryz.func13 rfl (Nat.le_of_ble_eq_true rfl) fun g0 hm hfr => ?_
 have rp0 : RV g0.m wI x0 up0 := hm ▸ rp0
 show E _ 14 none _ _ _ _ _
 refine E_seq (E_region (EL_do .plain rfl (D_boxO (g := g0) 2001 rfl rp0 fun g1 w1 p1 hs b1 => ?_)))
 have hfr := hfr.stp hs
 refine EL_do .plain rfl (D_allocOc (g := g1) 2002 (⟨[], [], 0, 0⟩ : PayList) Tryz.zeroValue25 (fun m w => ⟨_, (rep_two rep_nil (rep_two rep_nil (rep_two rep_int rep_int))), rfl⟩) fun g2 w2 p2 hs b2 cb => ?_)
 have hfr := hfr.stp hs
 have b1 := b1.stp hs rfl
 have a7 : OSF 2002 60200 0 g2 w2 87 25 ([] : List PayRate) p2 := cb.osf (by rfl)
 have b7 : OSF 2002 60201 1 g2 w2 3 25 ([] : List Int) p2 := cb.osf (by rfl)
 clear cb
 refine EL_nil (thn_n (E_seq (L_loadO (x := .tmp 4) part_PayList_0.1 Tryz.isAgg22 Tryz.sizeOf22 b1 fun v5 r5 i5 => ?_)))
 obtain ⟨y7, l5, h⟩ := bsome h
 refine L_loadO (x := .tmp 8) part_PayList_1.1 Tryz.isAgg23 Tryz.sizeOf23 b1 fun q5 t5 u3 => ?_
 obtain ⟨o0, z3, h⟩ := bsome h
 refine E_drawL (g := g2) (n := 9) [(0, (fun v g w => RV g.m w ([] : List PayRate) v ∧ OS 3003 g w 87 ([] : List PayRate) v ∧ FullV v)), (3, (fun v g w => RV g.m w y7 v ∧ OS 3003 g w 87 y7 v)), (4, (fun v g w => RV g.m w ([] : List Int) v ∧ OS 3007 g w 3 ([] : List Int) v ∧ FullV v)), (7, (fun v g w => RV g.m w o0 v ∧ OS 3007 g w 3 o0 v))] [0, 1, 2, 3, 4, 5, 6, 7, 8] rfl mixed (by kernel_rfl) (⟨fun _ => up_and up_rv (up_and up_os (up_eq _)), fun _ => up_and up_rv up_os, fun _ => up_and up_rv (up_and up_os (up_eq _)), fun _ => up_and up_rv up_os, trivial⟩) ?_
 refine L_do (φ := fun v g w => RV g.m w ([] : List PayRate) v ∧ OS 3003 g w 87 ([] : List PayRate) v ∧ FullV v) rfl rfl .plain (fun g w hd => D_buildSlice (g := g) 3003 (xs := ([] : List PayRate)) (vs := []) Tryz.underlying22 Tryz.sizeOf87 Tryz.zeroValue87 rfl rfl .nil RVs.nil rfl rfl fun g' w' v hs o r hxt hfl => ⟨g', hxt, r, o, hfl⟩) (fun v3 hv => ?_)
 clear hv
 refine L_p (fPtr p1 0) rfl rfl (P_fieldAddr at_25_0 rfl (OB.ptr b1)) ?_
 refine L_ld (c := v5) rfl rfl .plain (fun _ _ h => ⟨h.ch, fun b hb _ => h.below.block b hb⟩) i5 rfl ?_
 refine L_do (φ := fun v g w => RV g.m w y7 v ∧ OS 3003 g w 87 y7 v) rfl rfl .plain (fun g w hd => D_append (g := g) (i := 3003) Tryz.underlying22 info_87 rfl rfl (word (A := fun g w => RV g.m w ([] : List PayRate) v3 ∧ OS 3003 g w 87 ([] : List PayRate) v3 ∧ FullV v3) 0 rfl rfl (deps_of hd)).2.1 (word (A := fun g w => RV g.m w ([] : List PayRate) v3 ∧ OS 3003 g w 87 ([] : List PayRate) v3 ∧ FullV v3) 0 rfl rfl (deps_of hd)).1 rfl (r5.ext hd.1) l5 fun g' w' v hs o r hf => ⟨g', hf (word (A := fun g w => RV g.m w ([] : List PayRate) v3 ∧ OS 3003 g w 87 ([] : List PayRate) v3 ∧ FullV v3) 0 rfl rfl (deps_of hd)).2.2, r, o⟩) (fun v6 hv => ?_)
 clear hv
 refine L_do (φ := fun v g w => RV g.m w ([] : List Int) v ∧ OS 3007 g w 3 ([] : List Int) v ∧ FullV v) rfl rfl .plain (fun g w hd => D_buildSlice (g := g) 3007 (xs := ([] : List Int)) (vs := []) Tryz.underlying23 Tryz.sizeOf3 Tryz.zeroValue3 rfl rfl .nil RVs.nil rfl rfl fun g' w' v hs o r hxt hfl => ⟨g', hxt, r, o, hfl⟩) (fun v8 hv => ?_)
 clear hv
 refine L_p (fPtr p1 1) rfl rfl (P_fieldAddr at_25_1 rfl (OB.ptr b1)) ?_
 refine L_ld (c := q5) rfl rfl .plain (fun _ _ h => ⟨h.ch, fun b hb _ => h.below.block b hb⟩) u3 rfl ?_
 refine L_do (φ := fun v g w => RV g.m w o0 v ∧ OS 3007 g w 3 o0 v) rfl rfl .plain (fun g w hd => D_append (g := g) (i := 3007) Tryz.underlying23 info_3 rfl rfl (word (A := fun g w => RV g.m w ([] : List Int) v8 ∧ OS 3007 g w 3 ([] : List Int) v8 ∧ FullV v8) 4 rfl rfl (deps_of hd)).2.1 (word (A := fun g w => RV g.m w ([] : List Int) v8 ∧ OS 3007 g w 3 ([] : List Int) v8 ∧ FullV v8) 4 rfl rfl (deps_of hd)).1 rfl (t5.ext hd.1) z3 fun g' w' v hs o r hf => ⟨g', hf (word (A := fun g w => RV g.m w ([] : List Int) v8 ∧ OS 3007 g w 3 ([] : List Int) v8 ∧ FullV v8) 4 rfl rfl (deps_of hd)).2.2, r, o⟩) (fun u0 hv => ?_)
 clear hv
 refine L_p (fPtr p1 0) rfl rfl (P_fieldAddr at_25_0 rfl (OB.ptr b1)) ?_
 refine L_nil fun x5 c7 hall => ?_
 have hs := hall.1
 have hfr := hfr.ext hs
 have b1 := b1.ext hs
 have b2 := b2.ext hs
 have d7 := (word_all (A := fun g w => RV g.m w ([] : List PayRate) v3 ∧ OS 3003 g w 87 ([] : List PayRate) v3 ∧ FullV v3) 0 rfl hall).1
 have o18 := (word_all (A := fun g w => RV g.m w ([] : List PayRate) v3 ∧ OS 3003 g w 87 ([] : List PayRate) v3 ∧ FullV v3) 0 rfl hall).2.1
 have j3 := (word_all (A := fun g w => RV g.m w y7 v6 ∧ OS 3003 g w 87 y7 v6) 3 rfl hall).1
 have o21 := (word_all (A := fun g w => RV g.m w y7 v6 ∧ OS 3003 g w 87 y7 v6) 3 rfl hall).2
 have e7 := (word_all (A := fun g w => RV g.m w ([] : List Int) v8 ∧ OS 3007 g w 3 ([] : List Int) v8 ∧ FullV v8) 4 rfl hall).1
 have o22 := (word_all (A := fun g w => RV g.m w ([] : List Int) v8 ∧ OS 3007 g w 3 ([] : List Int) v8 ∧ FullV v8) 4 rfl hall).2.1
 have j1 := (word_all (A := fun g w => RV g.m w o0 u0 ∧ OS 3007 g w 3 o0 u0) 7 rfl hall).1
 have o25 := (word_all (A := fun g w => RV g.m w o0 u0 ∧ OS 3007 g w 3 o0 u0) 7 rfl hall).2
 clear hs hall
 refine EL_do .plain rfl (D_storeFc (g := x5) part_PayList_0 Tryz.sizeOf22 rfl b1 rfl j3 fun i6 g7 hs b27 rst hos => ?_)
 have i3 := hos _ _ 3003 87 (y7 : List PayRate) (rv_cells1 j3) rfl o21
 clear rst hos
 have hfr := hfr.stp hs
 have b2 := b2.stp hs rfl
 have j1 := j1.stp hs
 have o25 := o25.stp hs rfl
 refine EL_p (fPtr p1 1) (P_fieldAddr at_25_1 rfl (OB.ptr b27)) rfl ?_
 refine EL_do .plain rfl (D_storeFc (g := i6) part_PayList_1 Tryz.sizeOf23 rfl b27 rfl j1 fun o3 i7 hs b29 rst hos => ?_)
 have i3 := i3.rest hs rst
 have y6 := hos _ _ 3007 3 (o0 : List Int) (rv_cells1 j1) rfl o25
 clear rst hos
 have hfr := hfr.stp hs
 have b2 := b2.stp hs rfl
 refine EL_nil (thn_n (E_seq (E_region (EL_do .plain rfl (D_loadO (g := o3) Tryz.isAgg25 Tryz.sizeOf25 rfl b29 fun j6 x6 => ?_)))))
 refine EL_do .plain rfl (D_storeOc (g := o3) (v := j6) Tryz.sizeOf25 rfl b2 rfl x6 fun j7 m7 hs b31 cb => ?_)
 clear cb
 have hfr := hfr.stp hs
 refine EL_nil (thn_n (E_ret ?_))
 obtain rfl := sinj h
 obtain ⟨ad32, cv32, hp32, z4, cr32⟩ := ob_read Tryz.isAgg25 Tryz.sizeOf25 b31
 exact endm_c rfl rfl ((show _ = p2 from rfl).trans hp32) z4 ⟨_, hfr, cr32⟩
def f14 (x0 : List PayPiece) : Option ((List PayPiece)) :=
 Option.bind (α := (List PayPiece)) (
  lp (σ := (List PayPiece) × Int) (fun c8 (j3, i3) =>
   jn (σ := Unit) (fun _ =>
    Option.bind (α := (List PayPiece)) (
     (idx x0 i3).bind fun y63 =>
     (apnd 8 (([] : List Int)) ((y63).Extras)).bind fun i5 =>
     (apnd 56 j3 (([{ y63 with Extras := i5 }] : List PayPiece))).bind fun g8 =>
     some (g8)
     ) fun o3 =>
    c8 (o3, (w64 (i3 + (1 : Int))))
    ) fun i8 =>
   bif (decide (i3 < ((x0).length : Int))) then
    i8 ()
   else
    some (j3)
   ) big (([] : List PayPiece), (0 : Int))
  ) fun u3 =>
 some (u3)
theorem en14 : Enters Tryz.prog 14 := enters_of Tryz.func14 (by kernel_rfl) rfl
theorem wk14 {gI : Gh} {wI : World} {x0 : List PayPiece} {up0 : Value} (rp0 : RV gI.m wI x0 up0) {r : (List PayPiece)} (h : f14 x0 = some r) : Fn Tryz.prog 14 #[up0] gI wI (fun m w v => RV m w (r) v) := by
 unfold f14 at h
 refine fn_of_E Tryz.func14 rfl (Nat.le_of_ble_eq_true rfl) fun g0 hm hfr => ?_
 have rp0 : RV g0.m wI x0 up0 := hm ▸ rp0
 show E _ 27 none _ _ _ _ _
 refine E_seq (E_region (EL_at (.slice none 0 0) rfl rfl ?_))
 refine EL_nil (thn_n (E_seq (E_region (EL_do .plain rfl (D_buildSlice (g := g0) 3006 (xs := ([] : List PayPiece)) (vs := []) Tryz.underlying33 Tryz.sizeOf27 Tryz.zeroValue27 rfl rfl .nil RVs.nil rfl rfl fun g1 w1 v1 hs o1 r1 hxt hfl => ?_)))))
 have hfr := hfr.stp hs
 have rp0 := rp0.stp hs
 refine EL_at v1 rfl rfl ?_
 refine EL_nil (thn_n ?_)
 obtain ⟨u3, hx, h⟩ := bsome h
 refine E_join (fun e w => ∃ (g : Gh) (v3 : Value), Fr gI wI g w ∧ e 3 = v3 ∧ RV g.m w (u3 : List PayPiece) v3 ∧ OS 3006 g w 27 (u3 : List PayPiece) v3) (fun Q' hQ => ?_) (fun mA qA hR => ?_)
 ·replace h := hx
  clear hx
  refine E_seq (E_region (EL_at (.int .i64 (0)) rfl rfl ?_))
  refine EL_nil (thn_n (E_block ?_))
  refine E_lp h (fun (s : (List PayPiece) × Int) e w => ∃ (g : Gh) (v3 : Value), Fr gI wI g w ∧ e 0 = up0 ∧ RV g.m w (x0 : List PayPiece) up0 ∧ e 3 = v3 ∧ RV g.m w (s.1 : List PayPiece) v3 ∧ OS 3006 g w 27 (s.1 : List PayPiece) v3 ∧ e 4 = .int .i64 (s.2)) ⟨g1, (v1), hfr, rfl, rp0, rfl, r1, o1, rfl⟩ (fun X41 c8 t8 => ?_)
  rintro ⟨j3, i3⟩ nA rA ⟨k8, z3, hfr, l5, q5, t5, x5, i6, j6⟩ h
  refine E_joinC h (fun (s : Unit) e w => ∃ (g : Gh) , Fr gI wI g w ∧ e 0 = up0 ∧ RV g.m w (x0 : List PayPiece) up0 ∧ e 3 = z3 ∧ RV g.m w (j3 : List PayPiece) z3 ∧ OS 3006 g w 27 (j3 : List PayPiece) z3 ∧ e 4 = .int .i64 (i3)) (fun X44 i8 v8 h => ?_) ?_
  ·refine E_seq (E_region (EL_mv j6 rfl ?_))
   refine EL_mv l5 rfl ?_
   refine EL_p (.int .i64 ((x0).length : Int)) (P_len Tryz.underlying33 rfl q5) rfl ?_
   refine EL_in (.bool ((decide (i3 < ((x0).length : Int))))) rfl rfl rfl rfl ?_
   refine EL_nil (thn_n ?_)
   rcases csome h with ⟨z4, h⟩ | ⟨z4, h⟩
   ·refine E_ct z4 rfl ?_
    exact E_skip (thn_n (v8 () _ _ ⟨k8, hfr, l5, q5, t5, x5, i6, j6⟩ h))
   ·refine E_cf z4 rfl ?_
    refine E_exit ?_
    refine thn_e ?_
    refine thn_e ?_
    refine blk_hit ?_
    obtain rfl := sinj h
    exact hQ _ _ ⟨k8, (z3), hfr, t5, x5, i6⟩
  ·rintro _ oA uA ⟨l8, hfr, v6, o0, d7, u0, j1, x6⟩ h
   obtain ⟨o3, hx, h⟩ := bsome h
   refine E_join (fun e w => ∃ (g : Gh) (v3 : Value), Fr gI wI g w ∧ e 0 = up0 ∧ RV g.m w (x0 : List PayPiece) up0 ∧ e 3 = v3 ∧ RV g.m w (o3 : List PayPiece) v3 ∧ OS 3006 g w 27 (o3 : List PayPiece) v3 ∧ e 4 = .int .i64 (i3)) (fun Q' hQ => ?_) (fun pA xA hR => ?_)
   ·replace h := hx
    clear hx
    refine E_block ?_
    refine E_seq (E_region (EL_mv v6 rfl ?_))
    refine EL_mv x6 rfl ?_
    obtain ⟨y63, a7, h⟩ := bsome h
    refine EL_p (ePtr up0 i3 5) (P_indexAddr (α := PayPiece) Tryz.underlying33 Tryz.sizeOf27 rfl o0 rfl a7) rfl ?_
    have a9 := PT_idx o0 a7
    refine EL_do .plain rfl (D_load (g := l8) Tryz.isAgg27 Tryz.sizeOf27 rfl a9 fun d9 b7 => ?_)
    refine EL_do .plain rfl (D_allocOc (g := l8) 2005 (⟨0, 0, 0, [], 0⟩ : PayPiece) Tryz.zeroValue27 (fun m w => ⟨_, (rep_two rep_int (rep_two rep_int (rep_two rep_int (rep_two rep_nil rep_int)))), rfl⟩) fun m8 e9 c7 hs b67 cb => ?_)
    have hfr := hfr.stp hs
    have o0 := o0.stp hs
    have u0 := u0.stp hs
    have j1 := j1.stp hs rfl
    have b7 := b7.stp hs
    have iA : OSF 2005 60503 3 m8 e9 3 27 ([] : List Int) c7 := cb.osf (by rfl)
    clear cb
    refine EL_do .plain rfl (D_storeOc (g := m8) (v := d9) Tryz.sizeOf27 rfl b67 rfl b7 fun i9 yA hs b68 cb => ?_)
    clear cb
    have hfr := hfr.stp hs
    have o0 := o0.stp hs
    have u0 := u0.stp hs
    have j1 := j1.stp hs rfl
    refine EL_nil (thn_n (E_seq (E_region (EL_do .plain rfl (D_buildSlice (g := i9) 3017 (xs := ([] : List Int)) (vs := []) Tryz.underlying23 Tryz.sizeOf3 Tryz.zeroValue3 rfl rfl .nil RVs.nil rfl rfl fun n8 zA aB hs o69 k9 hxt hfl => ?_)))))
    have hfr := hfr.stp hs
    have o0 := o0.stp hs
    have u0 := u0.stp hs
    have j1 := j1.stp hs rfl
    have b68 := b68.stp hs rfl
    refine EL_p (fPtr c7 3) (P_fieldAddr at_27_3 rfl (OB.ptr b68)) rfl ?_
    refine EL_do .plain rfl (D_loadF (g := n8) part_PayPiece_3.1 Tryz.isAgg23 Tryz.sizeOf23 rfl b68 fun bB l9 => ?_)
    obtain ⟨i5, x8, h⟩ := bsome h
    refine EL_do .plain rfl (D_append (g := n8) (i := 3017) Tryz.underlying23 info_3 rfl rfl o69 k9 rfl l9 x8 fun n9 cB dB hs o72 o8 _ => ?_)
    have hfr := hfr.stp hs
    have o0 := o0.stp hs
    have u0 := u0.stp hs
    have j1 := j1.stp hs rfl
    have b68 := b68.stp hs rfl
    refine EL_p (fPtr c7 3) (P_fieldAddr at_27_3 rfl (OB.ptr b68)) rfl ?_
    refine EL_do .plain rfl (D_storeFc (g := n9) part_PayPiece_3 Tryz.sizeOf23 rfl b68 rfl o8 fun q8 eB hs b75 rst hos => ?_)
    have jA := hos _ _ 3017 3 (i5 : List Int) (rv_cells1 o8) rfl o72
    clear rst hos
    have hfr := hfr.stp hs
    have o0 := o0.stp hs
    have u0 := u0.stp hs
    have j1 := j1.stp hs rfl
    refine EL_nil (thn_n (E_region (EL_mv d7 rfl ?_)))
    refine EL_do .plain rfl (D_loadO (g := q8) Tryz.isAgg27 Tryz.sizeOf27 rfl b75 fun o9 t9 => ?_)
    refine EL_do .plain rfl (D_buildSlice (g := q8) 3024 (xs := ([{ y63 with Extras := i5 }] : List PayPiece)) (vs := [o9]) Tryz.underlying33 Tryz.sizeOf27 Tryz.zeroValue27 rfl rfl (.cons rfl .nil) (RVs.cons t9 RVs.nil) rfl rfl fun u9 iB jB hs o77 y9 hxt hfl => ?_)
    have hfr := hfr.stp hs
    have o0 := o0.stp hs
    have u0 := u0.stp hs
    have j1 := j1.stp hs rfl
    obtain ⟨g8, y8, h⟩ := bsome h
    refine EL_do .plain rfl (D_append (g := u9) (i := 3006) Tryz.underlying33 info_27 rfl rfl j1 u0 rfl y9 y8 fun z9 lB r8 hs o78 bA _ => ?_)
    have hfr := hfr.stp hs
    have o0 := o0.stp hs
    refine EL_at r8 rfl rfl ?_
    refine EL_nil (blk_n ?_)
    obtain rfl := sinj h
    exact hQ _ _ ⟨z9, (r8), hfr, v6, o0, rfl, bA, o78, x6⟩
   ·clear hx
    obtain ⟨gA, e7, hfr, g7, i7, j7, m7, n7, o7⟩ := hR
    refine E_region (EL_mv o7 rfl ?_)
    refine EL_in (.int .i64 ((w64 (i3 + (1 : Int))))) rfl rfl rfl rfl ?_
    refine EL_at (.int .i64 ((w64 (i3 + (1 : Int))))) rfl rfl ?_
    exact EL_nil (thn_n (t8 (o3, (w64 (i3 + (1 : Int)))) _ _ ⟨gA, (e7), hfr, g7, i7, j7, m7, n7, rfl⟩ h))
 ·clear hx
  obtain ⟨mB, y6, hfr, u7, v7, lA⟩ := hR
  refine E_seq (E_region (EL_mv u7 rfl ?_))
  refine EL_at y6 rfl rfl ?_
  refine EL_nil (thn_n (E_ret ?_))
  obtain rfl := sinj h
  exact end1 rfl rfl (show _ = y6 from rfl) ⟨_, hfr, v7⟩
def f22 (x0 : PayList) (x1 : PayPiece) : Option (Int) :=
 Option.bind (α := Int) (
  lp (σ := Int × Int) (fun mC (t5, o0) =>
   jn (σ := Unit) (fun _ =>
    Option.bind (α := Int) (
     (idx ((x0).Rates) o0).bind fun a7 =>
     bif (decide ((a7).From ≤ (x1).Dense)) then
      (idx ((x0).Rates) o0).bind fun g8 =>
      some ((g8).Rate)
     else
      some (t5)
     ) fun z4 =>
    mC (z4, (w64 (o0 + (1 : Int))))
    ) fun k80 =>
   bif (decide (o0 < (((x0).Rates).length : Int))) then
    k80 ()
   else
    some (t5)
   ) big ((0 : Int), (0 : Int))
  ) fun j1 =>
 Option.bind (α := Int) (
  lp (σ := Int × Int) (fun d9 (i3, u0) =>
   jn (σ := Unit) (fun _ =>
    Option.bind (α := Int) (
     (idx ((x1).Extras) u0).bind fun b7 =>
     (idx ((x0).Extras) b7).bind fun v6 =>
     some ((w64 (i3 + v6)))
     ) fun i5 =>
    d9 (i5, (w64 (u0 + (1 : Int))))
    ) fun e9 =>
   bif (decide (u0 < (((x1).Extras).length : Int))) then
    e9 ()
   else
    some (i3)
   ) big ((1000 : Int), (0 : Int))
  ) fun l5 =>
 (quo64 (w64 ((w64 ((x1).Picks * j1)) * l5)) (1000000 : Int)).bind fun x6 =>
 some (x6)
theorem en22 : Enters Tryz.prog 22 := enters_of Tryz.func22 (by kernel_rfl) rfl
theorem wk22 {gI : Gh} {wI : World} {x0 : PayList} {x1 : PayPiece} {up0 : Value} (rp0 : RV gI.m wI x0 up0) {up1 : Value} (rp1 : RV gI.m wI x1 up1) {r : Int} (h : f22 x0 x1 = some r) : Fn Tryz.prog 22 #[up0, up1] gI wI (fun _ _ v => v = .int .i64 (r)) := by
 unfold f22 at h
 refine fn_of_E Tryz.func22 rfl (Nat.le_of_ble_eq_true rfl) fun g0 hm hfr => ?_
 have rp0 : RV g0.m wI x0 up0 := hm ▸ rp0
 have rp1 : RV g0.m wI x1 up1 := hm ▸ rp1
 show E _ 56 none _ _ _ _ _
 refine E_seq (E_region (EL_do .plain rfl (D_box (g := g0) rfl rp0 fun g1 w1 p1 hs q1 => ?_)))
 have hfr := hfr.ext hs
 have rp1 := rp1.ext hs
 refine EL_do .plain rfl (D_box (g := g1) rfl rp1 fun g2 w2 p2 hs q2 => ?_)
 have hfr := hfr.ext hs
 have q1 := q1.ext hs
 refine EL_at (.int .i64 (0)) rfl rfl ?_
 refine EL_nil (thn_n (E_seq (E_region (EL_at (.int .i64 (0)) rfl rfl ?_))))
 refine EL_at (.int .i64 (1000)) rfl rfl ?_
 refine EL_nil (thn_n ?_)
 obtain ⟨j1, hx, h⟩ := bsome h
 refine E_join (fun e w => ∃ (g : Gh) , Fr gI wI g w ∧ e 2 = p1 ∧ PT g.m w (x0 : PayList) p1 ∧ e 3 = p2 ∧ PT g.m w (x1 : PayPiece) p2 ∧ e 5 = .int .i64 (j1) ∧ e 6 = .int .i64 ((1000 : Int))) (fun Q' hQ => ?_) (fun dE lE hR => ?_)
 ·replace h := hx
  clear hx
  refine E_seq (E_region (EL_at (.int .i64 (0)) rfl rfl ?_))
  refine EL_nil (thn_n (E_block ?_))
  refine E_lp h (fun (s : Int × Int) e w => ∃ (g : Gh) , Fr gI wI g w ∧ e 2 = p1 ∧ PT g.m w (x0 : PayList) p1 ∧ e 3 = p2 ∧ PT g.m w (x1 : PayPiece) p2 ∧ e 5 = .int .i64 (s.1) ∧ e 6 = .int .i64 ((1000 : Int)) ∧ e 7 = .int .i64 (s.2)) ⟨g2, hfr, rfl, q1, rfl, q2, rfl, rfl, rfl⟩ (fun X75 mC qC => ?_)
  rintro ⟨t5, o0⟩ mE oF ⟨i9, hfr, c7, x5, m8, n8, o8, q8, r8⟩ h
  refine E_joinC h (fun (s : Unit) e w => ∃ (g : Gh) , Fr gI wI g w ∧ e 2 = p1 ∧ PT g.m w (x0 : PayList) p1 ∧ e 3 = p2 ∧ PT g.m w (x1 : PayPiece) p2 ∧ e 5 = .int .i64 (t5) ∧ e 6 = .int .i64 ((1000 : Int)) ∧ e 7 = .int .i64 (o0)) (fun X80 k80 rC h => ?_) ?_
  ·refine E_seq (E_region (EL_mv r8 rfl ?_))
   refine EL_p (fPtr p1 0) (P_fieldAddr at_25_0 c7 (PT.ptr x5)) rfl ?_
   have aE := PT_field (part_PayList_0).1 x5
   refine EL_do .plain rfl (D_load (g := i9) Tryz.isAgg22 Tryz.sizeOf22 rfl aE fun pF bE => ?_)
   refine EL_p (.int .i64 (((x0).Rates).length : Int)) (P_len Tryz.underlying22 rfl bE) rfl ?_
   refine EL_p (.bool ((decide (o0 < (((x0).Rates).length : Int))))) (P_int rfl rfl rfl) rfl ?_
   refine EL_nil (thn_n ?_)
   rcases csome h with ⟨i8, h⟩ | ⟨i8, h⟩
   ·refine E_ct i8 rfl ?_
    exact E_skip (thn_n (rC () _ _ ⟨i9, hfr, c7, x5, m8, n8, o8, q8, r8⟩ h))
   ·refine E_cf i8 rfl ?_
    refine E_exit ?_
    refine thn_e ?_
    refine thn_e ?_
    refine blk_hit ?_
    obtain rfl := sinj h
    exact hQ _ _ ⟨i9, hfr, c7, x5, m8, n8, o8, q8⟩
  ·rintro _ nE qF ⟨cE, hfr, i6, j3, d7, z3, xB, t8, j6⟩ h
   obtain ⟨z4, hx, h⟩ := bsome h
   refine E_join (fun e w => ∃ (g : Gh) , Fr gI wI g w ∧ e 2 = p1 ∧ PT g.m w (x0 : PayList) p1 ∧ e 3 = p2 ∧ PT g.m w (x1 : PayPiece) p2 ∧ e 5 = .int .i64 (z4) ∧ e 6 = .int .i64 ((1000 : Int)) ∧ e 7 = .int .i64 (o0)) (fun Q' hQ => ?_) (fun eE oE hR => ?_)
   ·replace h := hx
    clear hx
    refine E_block ?_
    refine E_seq ?_
    have tC := PT_field (part_PayList_0).1 j3
    refine L_load (x := .tmp 16) Tryz.isAgg22 Tryz.sizeOf22 tC fun k8 k9 yB => ?_
    obtain ⟨a7, v8, h⟩ := bsome h
    have l9 := PT_idx k9 v8
    have uC := PT_field (part_PayRate_0).1 l9
    refine L_load (x := .tmp 20) Tryz.isAgg3 Tryz.sizeOf3 uC fun rE vC zB => ?_
    obtain rfl := RV_int.1 vC
    have xC := PT_field (part_PayPiece_1).1 z3
    refine L_load (x := .tmp 22) Tryz.isAgg3 Tryz.sizeOf3 xC fun sE yC aC => ?_
    obtain rfl := RV_int.1 yC
    refine E_drawL (g := cE) (n := 9) [] [0, 1, 2, 3, 4, 5, 6, 7, 8] rfl mixed (by kernel_rfl) trivial ?_
    refine L_p (fPtr p1 0) rfl rfl (P_fieldAddr at_25_0 i6 (PT.ptr j3)) ?_
    refine L_ld (c := k8) rfl rfl .plain (fun _ _ h => h.ch) yB rfl ?_
    refine L_p (.int .i64 (o0)) rfl rfl (P_move j6) ?_
    refine L_p (ePtr k8 o0 2) rfl rfl (P_indexAddr (α := PayRate) Tryz.underlying22 Tryz.sizeOf87 rfl k9 rfl v8) ?_
    refine L_p (fPtr (ePtr k8 o0 2) 0) rfl rfl (P_fieldAddr at_87_0 rfl (PT.ptr l9)) ?_
    refine L_ld (c := .int .i64 ((a7).From)) rfl rfl .plain (fun _ _ h => h.ch) zB rfl ?_
    refine L_p (fPtr p2 1) rfl rfl (P_fieldAddr at_27_1 d7 (PT.ptr z3)) ?_
    refine L_ld (c := .int .i64 ((x1).Dense)) rfl rfl .plain (fun _ _ h => h.ch) aC rfl ?_
    refine L_p (.bool ((decide ((a7).From ≤ (x1).Dense)))) rfl rfl (P_int rfl rfl rfl) ?_
    refine L_nl fun e7 tE hs => ?_
    have hfr := hfr.ext hs
    have j3 := j3.ext hs
    have z3 := z3.ext hs
    clear hs
    refine EL_nil (thn_n ?_)
    rcases csome h with ⟨g7, h⟩ | ⟨g7, h⟩
    ·refine E_ct g7 rfl ?_
     refine E_region (EL_p (fPtr p1 0) (P_fieldAddr at_25_0 i6 (PT.ptr j3)) rfl ?_)
     have aD := PT_field (part_PayList_0).1 j3
     refine EL_do .plain rfl (D_load (g := e7) Tryz.isAgg22 Tryz.sizeOf22 rfl aD fun n9 o9 => ?_)
     refine EL_mv j6 rfl ?_
     obtain ⟨g8, x8, h⟩ := bsome h
     refine EL_p (ePtr n9 o0 2) (P_indexAddr (α := PayRate) Tryz.underlying22 Tryz.sizeOf87 rfl o9 rfl x8) rfl ?_
     have t9 := PT_idx o9 x8
     refine EL_p (fPtr (ePtr n9 o0 2) 1) (P_fieldAddr at_87_1 rfl (PT.ptr t9)) rfl ?_
     have bD := PT_field (part_PayRate_1).1 t9
     refine EL_do .plain rfl (D_load (g := e7) Tryz.isAgg3 Tryz.sizeOf3 rfl bD fun uE cD => ?_)
     obtain rfl := RV_int.1 cD
     refine EL_at (.int .i64 ((g8).Rate)) rfl rfl ?_
     refine EL_nil (blk_n ?_)
     obtain rfl := sinj h
     exact hQ _ _ ⟨e7, hfr, i6, j3, d7, z3, rfl, t8, j6⟩
    ·refine E_cf g7 rfl ?_
     refine E_skip (blk_n ?_)
     obtain rfl := sinj h
     exact hQ _ _ ⟨e7, hfr, i6, j3, d7, z3, xB, t8, j6⟩
   ·clear hx
    obtain ⟨eD, hfr, u9, y9, z9, bA, gA, iA, jA⟩ := hR
    refine E_region (EL_mv jA rfl ?_)
    refine EL_in (.int .i64 ((w64 (o0 + (1 : Int))))) rfl rfl rfl rfl ?_
    refine EL_at (.int .i64 ((w64 (o0 + (1 : Int))))) rfl rfl ?_
    exact EL_nil (thn_n (qC (z4, (w64 (o0 + (1 : Int)))) _ _ ⟨eD, hfr, u9, y9, z9, bA, gA, iA, rfl⟩ h))
 ·clear hx
  obtain ⟨gD, hfr, lA, mA, nA, oA, pA, qA⟩ := hR
  obtain ⟨l5, hx, h⟩ := bsome h
  refine E_join (fun e w => ∃ (g : Gh) , Fr gI wI g w ∧ e 3 = p2 ∧ PT g.m w (x1 : PayPiece) p2 ∧ e 5 = .int .i64 (j1) ∧ e 6 = .int .i64 (l5)) (fun Q' hQ => ?_) (fun gE vE hR => ?_)
  ·replace h := hx
   clear hx
   refine E_seq (E_region (EL_at (.int .i64 (0)) rfl rfl ?_))
   refine EL_nil (thn_n (E_block ?_))
   refine E_lp h (fun (s : Int × Int) e w => ∃ (g : Gh) , Fr gI wI g w ∧ e 2 = p1 ∧ PT g.m w (x0 : PayList) p1 ∧ e 3 = p2 ∧ PT g.m w (x1 : PayPiece) p2 ∧ e 5 = .int .i64 (j1) ∧ e 6 = .int .i64 (s.1) ∧ e 8 = .int .i64 (s.2)) ⟨gD, hfr, lA, mA, nA, oA, pA, qA, rfl⟩ (fun X212 d9 cC => ?_)
   rintro ⟨i3, u0⟩ iE xE ⟨l8, hfr, rA, uA, y6, q5, j7, m7, n7⟩ h
   refine E_joinC h (fun (s : Unit) e w => ∃ (g : Gh) , Fr gI wI g w ∧ e 2 = p1 ∧ PT g.m w (x0 : PayList) p1 ∧ e 3 = p2 ∧ PT g.m w (x1 : PayPiece) p2 ∧ e 5 = .int .i64 (j1) ∧ e 6 = .int .i64 (i3) ∧ e 8 = .int .i64 (u0)) (fun X217 e9 dC h => ?_) ?_
   ·refine E_seq (E_region (EL_mv n7 rfl ?_))
    refine EL_p (fPtr p2 3) (P_fieldAddr at_27_3 y6 (PT.ptr q5)) rfl ?_
    have iD := PT_field (part_PayPiece_3).1 q5
    refine EL_do .plain rfl (D_load (g := l8) Tryz.isAgg23 Tryz.sizeOf23 rfl iD fun yE jD => ?_)
    refine EL_p (.int .i64 (((x1).Extras).length : Int)) (P_len Tryz.underlying23 rfl jD) rfl ?_
    refine EL_p (.bool ((decide (u0 < (((x1).Extras).length : Int))))) (P_int rfl rfl rfl) rfl ?_
    refine EL_nil (thn_n ?_)
    rcases csome h with ⟨i7, h⟩ | ⟨i7, h⟩
    ·refine E_ct i7 rfl ?_
     exact E_skip (thn_n (dC () _ _ ⟨l8, hfr, rA, uA, y6, q5, j7, m7, n7⟩ h))
    ·refine E_cf i7 rfl ?_
     refine E_exit ?_
     refine thn_e ?_
     refine thn_e ?_
     refine blk_hit ?_
     obtain rfl := sinj h
     exact hQ _ _ ⟨l8, hfr, y6, q5, j7, m7⟩
   ·rintro _ jE zE ⟨kD, hfr, o7, o3, u7, u3, xA, yA, v7⟩ h
    obtain ⟨i5, hx, h⟩ := bsome h
    refine E_join (fun e w => ∃ (g : Gh) , Fr gI wI g w ∧ e 2 = p1 ∧ PT g.m w (x0 : PayList) p1 ∧ e 3 = p2 ∧ PT g.m w (x1 : PayPiece) p2 ∧ e 5 = .int .i64 (j1) ∧ e 6 = .int .i64 (i5) ∧ e 8 = .int .i64 (u0)) (fun Q' hQ => ?_) (fun kE cF hR => ?_)
    ·replace h := hx
     clear hx
     refine E_block ?_
     have lD := PT_field (part_PayList_1).1 o3
     refine L_load (x := .tmp 39) Tryz.isAgg23 Tryz.sizeOf23 lD fun zA aB eC => ?_
     have mD := PT_field (part_PayPiece_3).1 u3
     refine L_load (x := .tmp 41) Tryz.isAgg23 Tryz.sizeOf23 mD fun bB cB iC => ?_
     obtain ⟨b7, y8, h⟩ := bsome h
     have nD := PT_idx cB y8
     refine L_load (x := .tmp 44) Tryz.isAgg3 Tryz.sizeOf3 nD fun dF oD jC => ?_
     obtain rfl := RV_int.1 oD
     obtain ⟨v6, a9, h⟩ := bsome h
     have sD := PT_idx aB a9
     refine L_load (x := .tmp 46) Tryz.isAgg3 Tryz.sizeOf3 sD fun eF tD kC => ?_
     obtain rfl := RV_int.1 tD
     refine E_drawL (g := kD) (n := 12) [] [0, 1, 2, 3, 4, 5, 6, 7, 8, 9, 10, 11] rfl mixed (by kernel_rfl) trivial ?_
     refine L_p (.int .i64 (i3)) rfl rfl (P_move yA) ?_
     refine L_p (fPtr p1 1) rfl rfl (P_fieldAddr at_25_1 o7 (PT.ptr o3)) ?_
     refine L_ld (c := zA) rfl rfl .plain (fun _ _ h => h.ch) eC rfl ?_
     refine L_p (fPtr p2 3) rfl rfl (P_fieldAddr at_27_3 u7 (PT.ptr u3)) ?_
     refine L_ld (c := bB) rfl rfl .plain (fun _ _ h => h.ch) iC rfl ?_
     refine L_p (.int .i64 (u0)) rfl rfl (P_move v7) ?_
     refine L_p (ePtr bB u0 1) rfl rfl (P_indexAddr (α := Int) Tryz.underlying23 Tryz.sizeOf3 rfl cB rfl y8) ?_
     refine L_ld (c := .int .i64 (b7)) rfl rfl .plain (fun _ _ h => h.ch) jC rfl ?_
     refine L_p (ePtr zA b7 1) rfl rfl (P_indexAddr (α := Int) Tryz.underlying23 Tryz.sizeOf3 rfl aB rfl a9) ?_
     refine L_ld (c := .int .i64 (v6)) rfl rfl .plain (fun _ _ h => h.ch) kC rfl ?_
     refine L_p (.int .i64 ((w64 (i3 + v6)))) rfl rfl (P_int rfl rfl rfl) ?_
     refine L_p (.int .i64 ((w64 (i3 + v6)))) rfl rfl (P_assign rfl) ?_
     refine L_nl fun uD iF hs => ?_
     have hfr := hfr.ext hs
     have o3 := o3.ext hs
     have u3 := u3.ext hs
     clear hs
     refine EL_nil (blk_n ?_)
     obtain rfl := sinj h
     exact hQ _ _ ⟨uD, hfr, o7, o3, u7, u3, xA, rfl, v7⟩
    ·clear hx
     obtain ⟨vD, hfr, dB, eB, iB, jB, lB, mB, nB⟩ := hR
     refine E_region (EL_mv nB rfl ?_)
     refine EL_in (.int .i64 ((w64 (u0 + (1 : Int))))) rfl rfl rfl rfl ?_
     refine EL_at (.int .i64 ((w64 (u0 + (1 : Int))))) rfl rfl ?_
     exact EL_nil (thn_n (cC (i5, (w64 (u0 + (1 : Int)))) _ _ ⟨vD, hfr, dB, eB, iB, jB, lB, mB, rfl⟩ h))
  ·clear hx
   obtain ⟨xD, hfr, oB, c8, tB, vB⟩ := hR
   refine E_seq (E_region (EL_p (fPtr p2 2) (P_fieldAddr at_27_2 oB (PT.ptr c8)) rfl ?_))
   have yD := PT_field (part_PayPiece_2).1 c8
   refine EL_do .plain rfl (D_load (g := xD) Tryz.isAgg3 Tryz.sizeOf3 rfl yD fun nF zD => ?_)
   obtain rfl := RV_int.1 zD
   refine EL_mv tB rfl ?_
   refine EL_in (.int .i64 ((w64 ((x1).Picks * j1)))) rfl rfl rfl rfl ?_
   refine EL_mv vB rfl ?_
   refine EL_p (.int .i64 ((w64 ((w64 ((x1).Picks * j1)) * l5)))) (P_int rfl rfl rfl) rfl ?_
   obtain ⟨x6, lC, h⟩ := bsome h
   refine EL_p (.int .i64 (x6)) (P_int rfl rfl (congrArg (Option.map (Value.int .i64)) lC)) rfl ?_
   refine EL_at (.int .i64 (x6)) rfl rfl ?_
   refine EL_nil (thn_n (E_ret ?_))
   obtain rfl := sinj h
   exact end1 rfl rfl (show _ = .int .i64 (x6) from rfl) ⟨_, hfr, rfl⟩
def f23 (x0 : PayList) (x1 : Int) (x2 : Int) : Option (Int) :=
 (quo64 (w64 (x1 * (x0).Cap)) (1000 : Int)).bind fun y6 =>
 some ((min64 (w64 (x2 * (x0).Fine)) y6))
theorem en23 : Enters Tryz.prog 23 := enters_of Tryz.func23 (by kernel_rfl) rfl
theorem wk23 {gI : Gh} {wI : World} {x0 : PayList} {x1 : Int} {x2 : Int} {up0 : Value} (rp0 : RV gI.m wI x0 up0) {r : Int} (h : f23 x0 x1 x2 = some r) : Fn Tryz.prog 23 #[up0, .int .i64 (x1), .int .i64 (x2)] gI wI (fun _ _ v => v = .int .i64 (r)) := by
 unfold f23 at h
 refine fn_of_E Tryz.func23 rfl (Nat.le_of_ble_eq_true rfl) fun g0 hm hfr => ?_
 have rp0 : RV g0.m wI x0 up0 := hm ▸ rp0
 show E _ 17 none _ _ _ _ _
 refine E_seq (E_region (EL_do .plain rfl (D_box (g := g0) rfl rp0 fun g1 w1 p1 hs q1 => ?_)))
 have hfr := hfr.ext hs
 refine EL_at (.int .i64 (0)) rfl rfl ?_
 refine EL_nil (thn_n (E_seq (E_region (EL_mw (.int .i64 (x2)) rfl rfl ?_))))
 refine EL_p (fPtr p1 2) (P_fieldAddr at_25_2 rfl (PT.ptr q1)) rfl ?_
 have q2 := PT_field (part_PayList_2).1 q1
 refine EL_do .plain rfl (D_load (g := g1) Tryz.isAgg3 Tryz.sizeOf3 rfl q2 fun v3 r3 => ?_)
 obtain rfl := RV_int.1 r3
 refine EL_in (.int .i64 ((w64 (x2 * (x0).Fine)))) rfl rfl rfl rfl ?_
 refine EL_mw (.int .i64 (x1)) rfl rfl ?_
 refine EL_p (fPtr p1 3) (P_fieldAddr at_25_3 rfl (PT.ptr q1)) rfl ?_
 have q4 := PT_field (part_PayList_3).1 q1
 refine EL_do .plain rfl (D_load (g := g1) Tryz.isAgg3 Tryz.sizeOf3 rfl q4 fun v5 r5 => ?_)
 obtain rfl := RV_int.1 r5
 refine EL_in (.int .i64 ((w64 (x1 * (x0).Cap)))) rfl rfl rfl rfl ?_
 obtain ⟨y6, o0, h⟩ := bsome h
 refine EL_p (.int .i64 (y6)) (P_int rfl rfl (congrArg (Option.map (Value.int .i64)) o0)) rfl ?_
 refine EL_p (.int .i64 (min64 (w64 (x2 * (x0).Fine)) y6)) (P_min rfl rfl) rfl ?_
 refine EL_at (.int .i64 (min64 (w64 (x2 * (x0).Fine)) y6)) rfl rfl ?_
 refine EL_nil (thn_n (E_ret ?_))
 obtain rfl := sinj h
 exact end1 rfl rfl (show _ = .int .i64 (min64 (w64 (x2 * (x0).Fine)) y6) from rfl) ⟨_, hfr, rfl⟩
def f24 (x0 : PayList) (x1 : PayPiece) (x2 : Int) : Option (Int) :=
 (f22 x0 x1).bind fun y6 =>
 (f23 x0 y6 x2).bind fun y9 =>
 some ((w64 (y6 - y9)))
theorem en24 : Enters Tryz.prog 24 := enters_of Tryz.func24 (by kernel_rfl) rfl
theorem wk24 {gI : Gh} {wI : World} {x0 : PayList} {x1 : PayPiece} {x2 : Int} {up0 : Value} (rp0 : RV gI.m wI x0 up0) {up1 : Value} (rp1 : RV gI.m wI x1 up1) {r : Int} (h : f24 x0 x1 x2 = some r) : Fn Tryz.prog 24 #[up0, up1, .int .i64 (x2)] gI wI (fun _ _ v => v = .int .i64 (r)) := by
 unfold f24 at h
 refine fn_of_E Tryz.func24 rfl (Nat.le_of_ble_eq_true rfl) fun g0 hm hfr => ?_
 have rp0 : RV g0.m wI x0 up0 := hm ▸ rp0
 have rp1 : RV g0.m wI x1 up1 := hm ▸ rp1
 show E _ 17 none _ _ _ _ _
 refine E_seq (E_region (EL_do .plain rfl (D_box (g := g0) rfl rp0 fun g1 w1 p1 hs q1 => ?_)))
 have hfr := hfr.ext hs
 have rp1 := rp1.ext hs
 refine EL_do .plain rfl (D_box (g := g1) rfl rp1 fun g2 w2 p2 hs q2 => ?_)
 have hfr := hfr.ext hs
 have q1 := q1.ext hs
 refine EL_at (.int .i64 (0)) rfl rfl ?_
 refine EL_nil (thn_n (E_seq (E_region (EL_do .plain rfl (D_load (g := g2) Tryz.isAgg25 Tryz.sizeOf25 rfl q1 fun v3 r3 => ?_)))))
 refine EL_do .plain rfl (D_load (g := g2) Tryz.isAgg27 Tryz.sizeOf27 rfl q2 fun v4 r4 => ?_)
 obtain ⟨y6, o0, h⟩ := bsome h
 refine EL_do .plain rfl (D_call (g := g2) (vs := [v3, v4]) en22 (.cons rfl (.cons rfl .nil)) (wk22 r3 r4 o0) fun g5 w5_ v5 hs hr => ?_)
 have hfr := hfr.ext hs
 have q1 := q1.ext hs
 subst hr
 refine EL_at (.int .i64 (y6)) rfl rfl ?_
 refine EL_nil (thn_n (E_seq (E_region (EL_mw (.int .i64 (y6)) rfl rfl ?_))))
 refine EL_do .plain rfl (D_load (g := g5) Tryz.isAgg25 Tryz.sizeOf25 rfl q1 fun v7 r7 => ?_)
 refine EL_mw (.int .i64 (y6)) rfl rfl ?_
 refine EL_mw (.int .i64 (x2)) rfl rfl ?_
 obtain ⟨y9, u0, h⟩ := bsome h
 refine EL_do .plain rfl (D_call (g := g5) (vs := [v7, .int .i64 (y6), .int .i64 (x2)]) en23 (.cons rfl (.cons rfl (.cons rfl .nil))) (wk23 r7 u0) fun g8 w8_ v8 hs hr => ?_)
 have hfr := hfr.ext hs
 subst hr
 refine EL_in (.int .i64 ((w64 (y6 - y9)))) rfl rfl rfl rfl ?_
 refine EL_at (.int .i64 ((w64 (y6 - y9)))) rfl rfl ?_
 refine EL_nil (thn_n (E_ret ?_))
 obtain rfl := sinj h
 exact end1 rfl rfl (show _ = .int .i64 ((w64 (y6 - y9))) from rfl) ⟨_, hfr, rfl⟩
def f25 (x0 : Int) (x1 : Int) (x2 : Int) : Option (Bool) :=
 Option.bind (α := Bool) (
  bif (decide (x0 ≥ x1)) then
   some ((decide (x0 ≤ x2)))
  else
   some (false)
  ) fun o0 =>
 some (o0)
theorem en25 : Enters Tryz.prog 25 := enters_of Tryz.func25 (by kernel_rfl) rfl
theorem wk25 {gI : Gh} {wI : World} {x0 : Int} {x1 : Int} {x2 : Int}  {r : Bool} (h : f25 x0 x1 x2 = some r) : Fn Tryz.prog 25 #[.int .i64 (x0), .int .i64 (x1), .int .i64 (x2)] gI wI (fun _ _ v => v = .bool (r)) := by
 unfold f25 at h
 refine fn_of_E Tryz.func25 rfl (Nat.le_of_ble_eq_true rfl) fun g0 hm hfr => ?_
 show E _ 15 none _ _ _ _ _
 refine E_seq (E_region (EL_at (.bool false) rfl rfl ?_))
 refine EL_nil (thn_n ?_)
 obtain ⟨o0, hx, h⟩ := bsome h
 refine E_join (fun e w => ∃ (g : Gh) , Fr gI wI g w ∧ e 6 = .bool (o0)) (fun Q' hQ => ?_) (fun j1 w3 hR => ?_)
 ·replace h := hx
  clear hx
  refine E_region (EL_mw (.int .i64 (x0)) rfl rfl ?_)
  refine EL_mw (.int .i64 (x1)) rfl rfl ?_
  refine EL_in (.bool ((decide (x0 ≥ x1)))) rfl rfl rfl rfl ?_
  refine EL_mw (.bool ((decide (x0 ≥ x1)))) rfl rfl ?_
  rcases csome h with ⟨hc2, h⟩ | ⟨hc2, h⟩
  ·refine EL_y (.int .i64 (x0)) (P_move rfl) rfl rfl hc2 rfl ?_
   refine EL_y (.int .i64 (x2)) (P_move rfl) rfl rfl hc2 rfl ?_
   refine EL_y (.bool ((decide (x0 ≤ x2)))) (P_int rfl rfl rfl) rfl rfl hc2 rfl ?_
   refine EL_p (.bool ((decide (x0 ≤ x2)))) (P_pick (b := (decide (x0 ≥ x1))) rfl (pick_t hc2 rfl)) rfl ?_
   refine EL_at (.bool ((decide (x0 ≤ x2)))) rfl rfl ?_
   refine EL_nil ?_
   obtain rfl := sinj h
   exact hQ _ _ ⟨g0, hfr, rfl⟩
  ·refine EL_s rfl rfl hc2 rfl rfl ?_
   refine EL_s rfl rfl hc2 rfl rfl ?_
   refine EL_s rfl rfl hc2 rfl rfl ?_
   refine EL_p (.bool false) (P_pick (b := (decide (x0 ≥ x1))) rfl (pick_f hc2 rfl)) rfl ?_
   refine EL_at (.bool false) rfl rfl ?_
   refine EL_nil ?_
   obtain rfl := sinj h
   exact hQ _ _ ⟨g0, hfr, rfl⟩
 ·clear hx
  obtain ⟨g3, hfr, u0⟩ := hR
  refine E_ret ?_
  obtain rfl := sinj h
  exact end1 rfl rfl (show _ = .bool (o0) from u0) ⟨_, hfr, rfl⟩
def f26 (x0 : Int) (x1 : Int) : Option (Span) :=
 some ((⟨x0, x1⟩ : Span))
theorem en26 : Enters Tryz.prog 26 := enters_of Tryz.func26 (by kernel_rfl) rfl
theorem wk26 {gI : Gh} {wI : World} {x0 : Int} {x1 : Int}  {r : Span} (h : f26 x0 x1 = some r) : Fn Tryz.prog 26 #[.int .i64 (x0), .int .i64 (x1)] gI wI (fun m w v => RV m w (r) v) := by
 unfold f26 at h
 refine fn_of_E Tryz.func26 rfl (Nat.le_of_ble_eq_true rfl) fun g0 hm hfr => ?_
 show E _ 8 none _ _ _ _ _
 refine E_seq (E_region (EL_do .plain rfl (D_allocOc (g := g0) 2004 (⟨0, 0⟩ : Span) Tryz.zeroValue29 (fun m w => ⟨_, (rep_two rep_int rep_int), rfl⟩) fun g1 w1 p1 hs b1 cb => ?_)))
 have hfr := hfr.stp hs
 clear cb
 refine EL_nil (thn_n (E_seq (E_region (EL_mw (.int .i64 (x0)) rfl rfl ?_))))
 refine EL_mw (.int .i64 (x1)) rfl rfl ?_
 have r2 : RV g1.m w1 (⟨x0, x1⟩ : Span) (.agg (setCh [[.int .i64 0], [.int .i64 0]] [(0, .int .i64 (x0)), (1, .int .i64 (x1))]).flatten.toArray) := RV_build rfl (rep_pair (rfl) (rep_last (rfl)))
 generalize hv2 : (Value.agg (setCh [[.int .i64 0], [.int .i64 0]] [(0, .int .i64 (x0)), (1, .int .i64 (x1))]).flatten.toArray) = v2 at r2
 refine EL_p v2 (hv2 ▸ P_build (vs := [(0, .int .i64 (x0)), (1, .int .i64 (x1))]) [[.int .i64 0], [.int .i64 0]] lay_29 rfl rfl (.cons rfl (.cons rfl .nil)) ⟨⟨_, rfl, rfl⟩, ⟨⟨_, rfl, rfl⟩, trivial⟩⟩) rfl ?_
 refine EL_do .plain rfl (D_storeOc (g := g1) (v := v2) Tryz.sizeOf29 rfl b1 rfl r2 fun g3 w3 hs b3 cb => ?_)
 clear cb
 have hfr := hfr.stp hs
 refine EL_nil (thn_n (E_ret ?_))
 obtain rfl := sinj h
 obtain ⟨ad4, cv4, hp4, o0, cr4⟩ := ob_read Tryz.isAgg29 Tryz.sizeOf29 b3
 exact endm_c rfl rfl ((show _ = p1 from rfl).trans hp4) o0 ⟨_, hfr, cr4⟩
def f29 (x0 : List Int) (x1 : List Int) : Option (Bool) :=
 jn (σ := Unit) (fun _ =>
  jn (σ := Unit) (fun _ =>
   some (true)
   ) fun k53 =>
  lp (σ := Int) (fun k54 o0 =>
   jn (σ := Unit) (fun _ =>
    jn (σ := Unit) (fun _ =>
     k54 ((w64 (o0 + (1 : Int))))
     ) fun d7 =>
    (idx x0 o0).bind fun u3 =>
    (idx x1 o0).bind fun z3 =>
    bif (u3 != z3) then
     some (false)
    else
     d7 ()
    ) fun k57 =>
   bif (decide (o0 < ((x0).length : Int))) then
    k57 ()
   else
    k53 ()
   ) big ((0 : Int))
  ) fun k2 =>
 bif (((x0).length : Int) != ((x1).length : Int)) then
  some (false)
 else
  k2 ()
theorem en29 : Enters Tryz.prog 29 := enters_of Tryz.func29 (by kernel_rfl) rfl
theorem wk29 {gI : Gh} {wI : World} {x0 : List Int} {x1 : List Int} {up0 : Value} (rp0 : RV gI.m wI x0 up0) {up1 : Value} (rp1 : RV gI.m wI x1 up1) {r : Bool} (h : f29 x0 x1 = some r) : Fn Tryz.prog 29 #[up0, up1] gI wI (fun _ _ v => v = .bool (r)) := by
 unfold f29 at h
 refine fn_of_E Tryz.func29 rfl (Nat.le_of_ble_eq_true rfl) fun g0 hm hfr => ?_
 have rp0 : RV g0.m wI x0 up0 := hm ▸ rp0
 have rp1 : RV g0.m wI x1 up1 := hm ▸ rp1
 show E _ 26 none _ _ _ _ _
 refine E_seq (E_region (EL_at (.bool false) rfl rfl ?_))
 refine EL_nil (thn_n (E_joinC h (fun (s : Unit) e w => ∃ (g : Gh) , Fr gI wI g w ∧ e 0 = up0 ∧ RV g.m w (x0 : List Int) up0 ∧ e 1 = up1 ∧ RV g.m w (x1 : List Int) up1) (fun X2 k2 hk2 h => ?_) ?_))
 ·refine E_seq (E_region (EL_mw up0 rfl rfl ?_))
  refine EL_p (.int .i64 ((x0).length : Int)) (P_len Tryz.underlying23 rfl rp0) rfl ?_
  refine EL_mw up1 rfl rfl ?_
  refine EL_p (.int .i64 ((x1).length : Int)) (P_len Tryz.underlying23 rfl rp1) rfl ?_
  refine EL_in (.bool ((((x0).length : Int) != ((x1).length : Int)))) rfl rfl rfl rfl ?_
  refine EL_nil (thn_n ?_)
  rcases csome h with ⟨hc3, h⟩ | ⟨hc3, h⟩
  ·refine E_ct hc3 rfl ?_
   refine E_seq (E_region (EL_at (.bool false) rfl rfl ?_))
   refine EL_nil (thn_n (E_ret (thn_r ?_)))
   obtain rfl := sinj h
   exact end1 rfl rfl (show _ = .bool false from rfl) ⟨_, hfr, rfl⟩
  ·refine E_cf hc3 rfl ?_
   exact E_skip (thn_n (hk2 () _ _ ⟨g0, hfr, rfl, rp0, rfl, rp1⟩ h))
 ·rintro _ e9 w4 ⟨g4, hfr, g7, i7, j7, m7⟩ h
  refine E_joinC h (fun (s : Unit) e w => ∃ (g : Gh) , Fr gI wI g w) (fun X53 k53 n7 h => ?_) ?_
  ·refine E_seq (E_region (EL_at (.int .i64 (0)) rfl rfl ?_))
   refine EL_nil (thn_n (E_block ?_))
   refine E_lp h (fun (s : Int) e w => ∃ (g : Gh) , Fr gI wI g w ∧ e 0 = up0 ∧ RV g.m w (x0 : List Int) up0 ∧ e 1 = up1 ∧ RV g.m w (x1 : List Int) up1 ∧ e 5 = .int .i64 (s)) ⟨g4, hfr, g7, i7, j7, m7, rfl⟩ (fun X54 k54 o7 => ?_)
   rintro o0 v8 i9 ⟨e7, hfr, z4, i5, b7, c7, l5⟩ h
   refine E_joinC h (fun (s : Unit) e w => ∃ (g : Gh) , Fr gI wI g w ∧ e 0 = up0 ∧ RV g.m w (x0 : List Int) up0 ∧ e 1 = up1 ∧ RV g.m w (x1 : List Int) up1 ∧ e 5 = .int .i64 (o0)) (fun X57 k57 u7 h => ?_) ?_
   ·refine E_seq (E_region (EL_mv l5 rfl ?_))
    refine EL_mv z4 rfl ?_
    refine EL_p (.int .i64 ((x0).length : Int)) (P_len Tryz.underlying23 rfl i5) rfl ?_
    refine EL_in (.bool ((decide (o0 < ((x0).length : Int))))) rfl rfl rfl rfl ?_
    refine EL_nil (thn_n ?_)
    rcases csome h with ⟨o3, h⟩ | ⟨o3, h⟩
    ·refine E_ct o3 rfl ?_
     exact E_skip (thn_n (u7 () _ _ ⟨e7, hfr, z4, i5, b7, c7, l5⟩ h))
    ·refine E_cf o3 rfl ?_
     refine E_exit ?_
     refine thn_e ?_
     refine thn_e ?_
     refine blk_hit ?_
     exact thn_n (n7 () _ _ ⟨e7, hfr⟩ h)
   ·rintro _ x8 k9 ⟨k8, hfr, q5, u0, t5, j1, i3⟩ h
    refine E_joinC h (fun (s : Unit) e w => ∃ (g : Gh) , Fr gI wI g w ∧ e 0 = up0 ∧ RV g.m w (x0 : List Int) up0 ∧ e 1 = up1 ∧ RV g.m w (x1 : List Int) up1 ∧ e 5 = .int .i64 (o0)) (fun X81 d7 v7 h => ?_) ?_
    ·refine E_block ?_
     refine E_seq ?_
     obtain ⟨u3, x5, h⟩ := bsome h
     have l8 := PT_idx u0 x5
     refine L_load (x := .tmp 19) Tryz.isAgg3 Tryz.sizeOf3 l8 fun l9 m8 c8 => ?_
     obtain rfl := RV_int.1 m8
     obtain ⟨z3, i6, h⟩ := bsome h
     have n8 := PT_idx j1 i6
     refine L_load (x := .tmp 23) Tryz.isAgg3 Tryz.sizeOf3 n8 fun n9 o8 g8 => ?_
     obtain rfl := RV_int.1 o8
     refine E_drawL (g := k8) (n := 9) [] [0, 1, 2, 3, 4, 5, 6, 7, 8] rfl mixed (by kernel_rfl) trivial ?_
     refine L_p up0 rfl rfl (P_move q5) ?_
     refine L_p (.int .i64 (o0)) rfl rfl (P_move i3) ?_
     refine L_p (ePtr up0 o0 1) rfl rfl (P_indexAddr (α := Int) Tryz.underlying23 Tryz.sizeOf3 rfl u0 rfl x5) ?_
     refine L_ld (c := .int .i64 (u3)) rfl rfl .plain (fun _ _ h => h.ch) c8 rfl ?_
     refine L_p up1 rfl rfl (P_move t5) ?_
     refine L_p (.int .i64 (o0)) rfl rfl (P_move i3) ?_
     refine L_p (ePtr up1 o0 1) rfl rfl (P_indexAddr (α := Int) Tryz.underlying23 Tryz.sizeOf3 rfl j1 rfl i6) ?_
     refine L_ld (c := .int .i64 (z3)) rfl rfl .plain (fun _ _ h => h.ch) g8 rfl ?_
     refine L_p (.bool ((u3 != z3))) rfl rfl (P_int rfl rfl rfl) ?_
     refine L_nl fun q8 o9 hs => ?_
     have hfr := hfr.ext hs
     have u0 := u0.ext hs
     have j1 := j1.ext hs
     clear hs
     refine EL_nil (thn_n ?_)
     rcases csome h with ⟨j3, h⟩ | ⟨j3, h⟩
     ·refine E_ct j3 rfl ?_
      refine E_seq (E_region (EL_at (.bool false) rfl rfl ?_))
      refine EL_nil (thn_n (E_ret (blk_r ?_)))
      refine thn_r ?_
      refine thn_r ?_
      refine blk_r ?_
      refine thn_r ?_
      obtain rfl := sinj h
      exact end1 rfl rfl (show _ = .bool false from rfl) ⟨_, hfr, rfl⟩
     ·refine E_cf j3 rfl ?_
      exact E_skip (blk_n (thn_n (v7 () _ _ ⟨q8, hfr, q5, u0, t5, j1, i3⟩ h)))
    ·rintro _ r8 y8 ⟨i8, hfr, j6, v6, x6, y6, a7⟩ h
     refine E_region (EL_mv a7 rfl ?_)
     refine EL_in (.int .i64 ((w64 (o0 + (1 : Int))))) rfl rfl rfl rfl ?_
     refine EL_at (.int .i64 ((w64 (o0 + (1 : Int))))) rfl rfl ?_
     exact EL_nil (thn_n (o7 ((w64 (o0 + (1 : Int)))) _ _ ⟨i8, hfr, j6, v6, x6, y6, rfl⟩ h))
  ·rintro _ t8 a9 ⟨d9, hfr⟩ h
   refine E_seq (E_region (EL_at (.bool true) rfl rfl ?_))
   refine EL_nil (thn_n (E_ret ?_))
   obtain rfl := sinj h
   exact end1 rfl rfl (show _ = .bool true from rfl) ⟨_, hfr, rfl⟩
def f48  : Option (PayList) :=
 some ((⟨([(⟨0, (20 : Int)⟩ : PayRate), (⟨(60 : Int), (30 : Int)⟩ : PayRate)] : List PayRate), ([(100 : Int), (250 : Int)] : List Int), (12 : Int), (100 : Int)⟩ : PayList))
def f49 (x0 : Int) (x1 : Int) : Option (PayPiece) :=
 some ((⟨(3 : Int), x0, (50000 : Int), ([(0 : Int), (1 : Int)] : List Int), x1⟩ : PayPiece))
def f51 (x0 : Int) (x1 : Int) (x2 : Int) (x3 : Int) : Option (PayTable) :=
 some ((⟨([([x0, x1] : List Int), ([x2, x3] : List Int)] : List (List Int)), ([(12 : Int), (3 : Int)] : List Int), ([(6 : Int), (9 : Int)] : List Int), (15 : Int)⟩ : PayTable))
def f57 (x0 : PayPayList) (x1 : Int) (x2 : Int) : Option (Int) :=
 (quo64 (w64 (x1 * ((x0).PayList).Cap)) (1000 : Int)).bind fun y8 =>
 some ((min64 (w64 (x2 * ((x0).PayList).Fine)) y8))
theorem en57 : Enters Tryz.prog 57 := enters_of Tryz.func57 (by kernel_rfl) rfl
theorem wk57 {gI : Gh} {wI : World} {x0 : PayPayList} {x1 : Int} {x2 : Int} {up0 : Value} (rp0 : RV gI.m wI x0 up0) {r : Int} (h : f57 x0 x1 x2 = some r) : Fn Tryz.prog 57 #[up0, .int .i64 (x1), .int .i64 (x2)] gI wI (fun _ _ v => v = .int .i64 (r)) := by
 unfold f57 at h
 refine fn_of_E Tryz.func57 rfl (Nat.le_of_ble_eq_true rfl) fun g0 hm hfr => ?_
 have rp0 : RV g0.m wI x0 up0 := hm ▸ rp0
 show E _ 19 none _ _ _ _ _
 refine E_seq (E_region (EL_do .plain rfl (D_box (g := g0) rfl rp0 fun g1 w1 p1 hs q1 => ?_)))
 have hfr := hfr.ext hs
 refine EL_at (.int .i64 (0)) rfl rfl ?_
 refine EL_nil (thn_n (E_seq (E_region (EL_mw (.int .i64 (x2)) rfl rfl ?_))))
 refine EL_p (fPtr p1 0) (P_fieldAddr at_117_0 rfl (PT.ptr q1)) rfl ?_
 have q2 := PT_field (part_PayPayList_0).1 q1
 refine EL_p (fPtr (fPtr p1 0) 2) (P_fieldAddr at_25_2 rfl (PT.ptr q2)) rfl ?_
 have q3 := PT_field (part_PayList_2).1 q2
 refine EL_do .plain rfl (D_load (g := g1) Tryz.isAgg3 Tryz.sizeOf3 rfl q3 fun v4 r4 => ?_)
 obtain rfl := RV_int.1 r4
 refine EL_in (.int .i64 ((w64 (x2 * ((x0).PayList).Fine)))) rfl rfl rfl rfl ?_
 refine EL_mw (.int .i64 (x1)) rfl rfl ?_
 refine EL_p (fPtr p1 0) (P_fieldAddr at_117_0 rfl (PT.ptr q1)) rfl ?_
 have q5 := PT_field (part_PayPayList_0).1 q1
 refine EL_p (fPtr (fPtr p1 0) 3) (P_fieldAddr at_25_3 rfl (PT.ptr q5)) rfl ?_
 have q6 := PT_field (part_PayList_3).1 q5
 refine EL_do .plain rfl (D_load (g := g1) Tryz.isAgg3 Tryz.sizeOf3 rfl q6 fun v7 r7 => ?_)
 obtain rfl := RV_int.1 r7
 refine EL_in (.int .i64 ((w64 (x1 * ((x0).PayList).Cap)))) rfl rfl rfl rfl ?_
 obtain ⟨y8, o0, h⟩ := bsome h
 refine EL_p (.int .i64 (y8)) (P_int rfl rfl (congrArg (Option.map (Value.int .i64)) o0)) rfl ?_
 refine EL_p (.int .i64 (min64 (w64 (x2 * ((x0).PayList).Fine)) y8)) (P_min rfl rfl) rfl ?_
 refine EL_at (.int .i64 (min64 (w64 (x2 * ((x0).PayList).Fine)) y8)) rfl rfl ?_
 refine EL_nil (thn_n (E_ret ?_))
 obtain rfl := sinj h
 exact end1 rfl rfl (show _ = .int .i64 (min64 (w64 (x2 * ((x0).PayList).Fine)) y8) from rfl) ⟨_, hfr, rfl⟩
def f70 (x0 : Int) : Option (Bool) :=
 some ((x0 != (0 : Int)))
def f71 (x0 : List Int) : Option (Int × Int) :=
 Option.bind (α := Int × Int) (
  lp (σ := Int × Int × Int) (fun j7 (z4, u0, o0) =>
   bif (decide (o0 < ((x0).length : Int))) then
    Option.bind (α := Int × Int) (
     (idx x0 o0).bind fun t5 =>
     bif (t5 != (0 : Int)) then
      some (o0, (w64 (u0 + (1 : Int))))
     else
      some (z4, u0)
     ) fun (o3, u3) =>
    j7 (o3, u3, (w64 (o0 + (1 : Int))))
   else
    some (z4, u0)
   ) big ((0 : Int), (0 : Int), (0 : Int))
  ) fun (j1, i3) =>
 some (j1, i3)
end Go.Proofs.YtkmbkaoolacofaaGreat
