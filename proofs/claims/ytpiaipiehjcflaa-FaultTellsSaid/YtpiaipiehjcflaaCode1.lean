import Derived.Test.YtpiaipiehjcflaaTypes
set_option maxRecDepth 8000
set_option maxHeartbeats 4000000
namespace Go.Proofs.Ytpiaipiehjcflaa
open Go.RowKit
theorem info_3 : (Try.prog.info? 3).map (fun i => (i.zero, i.size, i.bytes)) = some (some (.int .i64 0), 1, 8) := by kernel_rfl
theorem info_62 : (Try.prog.info? 62).map (fun i => (i.zero, i.size, i.bytes)) = some (some (.agg #[.int .i64 0, .int .i64 0, .int .i64 0, .int .i64 0, .bool false]), 5, 40) := by kernel_rfl
theorem info_5 : (Try.prog.info? 5).map (fun i => (i.zero, i.size, i.bytes)) = some (some (.int .u8 0), 1, 1) := by kernel_rfl
theorem lay_62 : layoutOf Try.prog 62 = some ([.int .i64 0, .int .i64 0, .int .i64 0, .int .i64 0, .bool false], [(0, 1), (1, 1), (2, 1), (3, 1), (4, 1)]) := by kernel_rfl
theorem mixed : Try.prog.follows .mixedOrders = true := by kernel_rfl
theorem endm_c {P : Program} {e : Env} {ds : List Deferred} {w : World} {fn : Func} {R : Value → World → Prop} {t0 : Tmp} {v0 : Value} {y0 : TypeId} {a0 : Addr} (hres : fn.results = #[.cell t0 y0]) (hd : ds = []) (h0 : e t0 = .pointer (some a0)) (l0 : (loadVar y0 a0).run P w = .ok v0 w) (h : R v0 w) : atEnd P fn R .ret e ds w :=
 ⟨hd, fun tmps ht => ⟨_, by simp [results, hres, ht, asAddr, h0, l0], h⟩⟩
theorem fl_62 : Try.prog.fieldsOf 62 = #[{ name := "Kind", type := 60, offset := 0, embedded := false, tag := "", pkgPath := "", byteOffset := 0 }, { name := "Pick", type := 3, offset := 1, embedded := false, tag := "", pkgPath := "", byteOffset := 8 }, { name := "Hook", type := 3, offset := 2, embedded := false, tag := "", pkgPath := "", byteOffset := 16 }, { name := "Warp", type := 3, offset := 3, embedded := false, tag := "", pkgPath := "", byteOffset := 24 }, { name := "Up", type := 4, offset := 4, embedded := false, tag := "", pkgPath := "", byteOffset := 32 }] := by kernel_rfl
theorem seq_62 : SEq (α := FaultDamage) Try.prog 62 := by
 intro d x y w a b m wx m2 wy hx hy
 obtain ⟨_, ⟨_, _, rfl, rfl, ⟨_, _, rfl, rfl, ⟨_, _, rfl, rfl, ⟨_, _, rfl, rfl, rfl⟩⟩⟩⟩, rfl⟩ := hx
 obtain ⟨_, ⟨_, _, rfl, rfl, ⟨_, _, rfl, rfl, ⟨_, _, rfl, rfl, ⟨_, _, rfl, rfl, rfl⟩⟩⟩⟩, rfl⟩ := hy
 refine (run_equalIn_struct w (d + 1) 62 _ _ (by kernel_rfl) (by kernel_rfl)).trans ?_
 rw [fl_62]
 obtain ⟨x0, x1, x2, x3, x4⟩ := x
 obtain ⟨y0, y1, y2, y3, y4⟩ := y
 show (Op.eqFields (d + 1) #[.int .i64 (x0), .int .i64 (x1), .int .i64 (x2), .int .i64 (x3), .bool (x4)] #[.int .i64 (y0), .int .i64 (y1), .int .i64 (y2), .int .i64 (y3), .bool (y4)] _).run _ _ = _
 have x0p : (part 60 #[.int .i64 (x0), .int .i64 (x1), .int .i64 (x2), .int .i64 (x3), .bool (x4)] 0).run Try.prog w = .ok (.int .i64 (x0)) w := part_one Try.isAgg60 rfl
 have x1p : (part 3 #[.int .i64 (x0), .int .i64 (x1), .int .i64 (x2), .int .i64 (x3), .bool (x4)] 1).run Try.prog w = .ok (.int .i64 (x1)) w := part_one Try.isAgg3 rfl
 have x2p : (part 3 #[.int .i64 (x0), .int .i64 (x1), .int .i64 (x2), .int .i64 (x3), .bool (x4)] 2).run Try.prog w = .ok (.int .i64 (x2)) w := part_one Try.isAgg3 rfl
 have x3p : (part 3 #[.int .i64 (x0), .int .i64 (x1), .int .i64 (x2), .int .i64 (x3), .bool (x4)] 3).run Try.prog w = .ok (.int .i64 (x3)) w := part_one Try.isAgg3 rfl
 have x4p : (part 4 #[.int .i64 (x0), .int .i64 (x1), .int .i64 (x2), .int .i64 (x3), .bool (x4)] 4).run Try.prog w = .ok (.bool (x4)) w := part_one Try.isAgg4 rfl
 have y0p : (part 60 #[.int .i64 (y0), .int .i64 (y1), .int .i64 (y2), .int .i64 (y3), .bool (y4)] 0).run Try.prog w = .ok (.int .i64 (y0)) w := part_one Try.isAgg60 rfl
 have y1p : (part 3 #[.int .i64 (y0), .int .i64 (y1), .int .i64 (y2), .int .i64 (y3), .bool (y4)] 1).run Try.prog w = .ok (.int .i64 (y1)) w := part_one Try.isAgg3 rfl
 have y2p : (part 3 #[.int .i64 (y0), .int .i64 (y1), .int .i64 (y2), .int .i64 (y3), .bool (y4)] 2).run Try.prog w = .ok (.int .i64 (y2)) w := part_one Try.isAgg3 rfl
 have y3p : (part 3 #[.int .i64 (y0), .int .i64 (y1), .int .i64 (y2), .int .i64 (y3), .bool (y4)] 3).run Try.prog w = .ok (.int .i64 (y3)) w := part_one Try.isAgg3 rfl
 have y4p : (part 4 #[.int .i64 (y0), .int .i64 (y1), .int .i64 (y2), .int .i64 (y3), .bool (y4)] 4).run Try.prog w = .ok (.bool (y4)) w := part_one Try.isAgg4 rfl
 simp only [Op.eqFields, Sem.run_bind, Sem.run_ite, Sem.run_pure, x0p, x1p, x2p, x3p, x4p, y0p, y1p, y2p, y3p, y4p, Result.andThen_ok, run_equalIn_int _ _ _ _ _ _ _ Try.underlying60, run_equalIn_int _ _ _ _ _ _ _ Try.underlying3, run_equalIn_bool _ _ _ _ _ Try.underlying4]
 simp
 grind
theorem eg_62 : Try.prog.eqGuardType Try.prog.depth 62 = false := by kernel_rfl
theorem info_9 : (Try.prog.info? 9).map (fun i => (i.zero, i.size, i.bytes)) = some (some (Str.v ⟨[]⟩), 1, 16) := by kernel_rfl
theorem fl_56 : Try.prog.fieldsOf 56 = #[{ name := "Pick", type := 3, offset := 0, embedded := false, tag := "", pkgPath := "", byteOffset := 0 }, { name := "Warp", type := 3, offset := 1, embedded := false, tag := "", pkgPath := "", byteOffset := 8 }, { name := "Lifted", type := 4, offset := 2, embedded := false, tag := "", pkgPath := "", byteOffset := 16 }] := by kernel_rfl
theorem seq_56 : SEq (α := FaultSight) Try.prog 56 := by
 intro d x y w a b m wx m2 wy hx hy
 obtain ⟨_, ⟨_, _, rfl, rfl, ⟨_, _, rfl, rfl, rfl⟩⟩, rfl⟩ := hx
 obtain ⟨_, ⟨_, _, rfl, rfl, ⟨_, _, rfl, rfl, rfl⟩⟩, rfl⟩ := hy
 refine (run_equalIn_struct w (d + 1) 56 _ _ (by kernel_rfl) (by kernel_rfl)).trans ?_
 rw [fl_56]
 obtain ⟨x0, x1, x2⟩ := x
 obtain ⟨y0, y1, y2⟩ := y
 show (Op.eqFields (d + 1) #[.int .i64 (x0), .int .i64 (x1), .bool (x2)] #[.int .i64 (y0), .int .i64 (y1), .bool (y2)] _).run _ _ = _
 have x0p : (part 3 #[.int .i64 (x0), .int .i64 (x1), .bool (x2)] 0).run Try.prog w = .ok (.int .i64 (x0)) w := part_one Try.isAgg3 rfl
 have x1p : (part 3 #[.int .i64 (x0), .int .i64 (x1), .bool (x2)] 1).run Try.prog w = .ok (.int .i64 (x1)) w := part_one Try.isAgg3 rfl
 have x2p : (part 4 #[.int .i64 (x0), .int .i64 (x1), .bool (x2)] 2).run Try.prog w = .ok (.bool (x2)) w := part_one Try.isAgg4 rfl
 have y0p : (part 3 #[.int .i64 (y0), .int .i64 (y1), .bool (y2)] 0).run Try.prog w = .ok (.int .i64 (y0)) w := part_one Try.isAgg3 rfl
 have y1p : (part 3 #[.int .i64 (y0), .int .i64 (y1), .bool (y2)] 1).run Try.prog w = .ok (.int .i64 (y1)) w := part_one Try.isAgg3 rfl
 have y2p : (part 4 #[.int .i64 (y0), .int .i64 (y1), .bool (y2)] 2).run Try.prog w = .ok (.bool (y2)) w := part_one Try.isAgg4 rfl
 simp only [Op.eqFields, Sem.run_bind, Sem.run_ite, Sem.run_pure, x0p, x1p, x2p, y0p, y1p, y2p, Result.andThen_ok, run_equalIn_int _ _ _ _ _ _ _ Try.underlying3, run_equalIn_bool _ _ _ _ _ Try.underlying4]
 simp
 grind
theorem eg_56 : Try.prog.eqGuardType Try.prog.depth 56 = false := by kernel_rfl
theorem lay_56 : layoutOf Try.prog 56 = some ([.int .i64 0, .int .i64 0, .bool false], [(0, 1), (1, 1), (2, 1)]) := by kernel_rfl
theorem info_56 : (Try.prog.info? 56).map (fun i => (i.zero, i.size, i.bytes)) = some (some (.agg #[.int .i64 0, .int .i64 0, .bool false]), 3, 24) := by kernel_rfl
theorem capf_0_1 {e : Env} {f : FuncId} {j0 : Operand} {b0 : Value} (hb0 : ev e j0 = b0) : (Value.func (.func f) ((#[] : Array Operand).map (ev e)) ((#[j0] : Array Operand).map (ev e))) = .func (.func f) #[] #[b0] := by simp [hb0]
theorem lay_24 : layoutOf Try.prog 24 = some ([.int .i64 0, .slice none 0 0], [(0, 1), (1, 1)]) := by kernel_rfl
theorem lay_26 : layoutOf Try.prog 26 = some ([.int .i64 0, .slice none 0 0], [(0, 1), (1, 1)]) := by kernel_rfl
theorem lay_28 : layoutOf Try.prog 28 = some ([.int .i64 0, .slice none 0 0, .int .i64 0, .slice none 0 0], [(0, 2), (2, 2)]) := by kernel_rfl
theorem lay_98 : layoutOf Try.prog 98 = some ([.int .i64 0, .slice none 0 0, .int .i64 0, .slice none 0 0], [(0, 4)]) := by kernel_rfl
theorem capf_0_2 {e : Env} {f : FuncId} {j0 : Operand} {n0 : Operand} {b0 : Value} {b1 : Value} (hb0 : ev e j0 = b0) (hb1 : ev e n0 = b1) : (Value.func (.func f) ((#[] : Array Operand).map (ev e)) ((#[j0, n0] : Array Operand).map (ev e))) = .func (.func f) #[] #[b0, b1] := by simp [hb0, hb1]
theorem info_4 : (Try.prog.info? 4).map (fun i => (i.zero, i.size, i.bytes)) = some (some (.bool false), 1, 1) := by kernel_rfl
theorem layA_149 : ((Try.prog.info? 149).bind (·.zero)).map (·.cells.toList) = some [.int .i64 0, .int .i64 0] := by kernel_rfl
theorem szA_60 : (Try.prog.info? 60).map (·.size) = some 1 := by kernel_rfl
theorem key_3 : KeyLaw Try.prog 3 (Value.int .i64) := keyLaw_int Try.underlying3
theorem info_110 : (Try.prog.info? 110).map (fun i => (i.zero, i.size, i.bytes)) = some (some (.slice none 0 0), 1, 24) := by kernel_rfl
theorem lay_145 : layoutOf Try.prog 145 = some ([.int .i64 0, .slice none 0 0], [(0, 2)]) := by kernel_rfl
theorem endm_ctt {P : Program} {e : Env} {ds : List Deferred} {w : World} {fn : Func} {R : Value → World → Prop} {t0 : Tmp} {v0 : Value} {y0 : TypeId} {a0 : Addr} {t1 : Tmp} {v1 : Value} {t2 : Tmp} {v2 : Value} (hres : fn.results = #[.cell t0 y0, .tmp t1, .tmp t2]) (hd : ds = []) (h0 : e t0 = .pointer (some a0)) (l0 : (loadVar y0 a0).run P w = .ok v0 w) (h1 : e t1 = v1) (h2 : e t2 = v2) (h : R (.tuple #[v0, v1, v2]) w) : atEnd P fn R .ret e ds w :=
 ⟨hd, fun tmps ht => ⟨_, by simp [results, hres, ht, asAddr, h0, l0, h1, h2], h⟩⟩
theorem capf_1_0 {e : Env} {f : FuncId} {j0 : Operand} {a0 : Value} (ha0 : ev e j0 = a0) : (Value.func (.func f) ((#[j0] : Array Operand).map (ev e)) ((#[] : Array Operand).map (ev e))) = .func (.func f) #[a0] #[] := by simp [ha0]
theorem endm_ct {P : Program} {e : Env} {ds : List Deferred} {w : World} {fn : Func} {R : Value → World → Prop} {t0 : Tmp} {v0 : Value} {y0 : TypeId} {a0 : Addr} {t1 : Tmp} {v1 : Value} (hres : fn.results = #[.cell t0 y0, .tmp t1]) (hd : ds = []) (h0 : e t0 = .pointer (some a0)) (l0 : (loadVar y0 a0).run P w = .ok v0 w) (h1 : e t1 = v1) (h : R (.tuple #[v0, v1]) w) : atEnd P fn R .ret e ds w :=
 ⟨hd, fun tmps ht => ⟨_, by simp [results, hres, ht, asAddr, h0, l0, h1], h⟩⟩
theorem endm_ccc {P : Program} {e : Env} {ds : List Deferred} {w : World} {fn : Func} {R : Value → World → Prop} {t0 : Tmp} {v0 : Value} {y0 : TypeId} {a0 : Addr} {t1 : Tmp} {v1 : Value} {y1 : TypeId} {a1 : Addr} {t2 : Tmp} {v2 : Value} {y2 : TypeId} {a2 : Addr} (hres : fn.results = #[.cell t0 y0, .cell t1 y1, .cell t2 y2]) (hd : ds = []) (h0 : e t0 = .pointer (some a0)) (l0 : (loadVar y0 a0).run P w = .ok v0 w) (h1 : e t1 = .pointer (some a1)) (l1 : (loadVar y1 a1).run P w = .ok v1 w) (h2 : e t2 = .pointer (some a2)) (l2 : (loadVar y2 a2).run P w = .ok v2 w) (h : R (.tuple #[v0, v1, v2]) w) : atEnd P fn R .ret e ds w :=
 ⟨hd, fun tmps ht => ⟨_, by simp [results, hres, ht, asAddr, h0, l0, h1, l1, h2, l2], h⟩⟩
theorem plain_FaultDamage : Plain FaultDamage := fun _ m' _ w' x _ h => (plain_two plain_int (plain_two plain_int (plain_two plain_int (plain_two plain_int plain_bool)))) _ m' _ w' _ _ h
theorem info_36 : (Try.prog.info? 36).map (fun i => (i.zero, i.size, i.bytes)) = some (some (.slice none 0 0), 1, 24) := by kernel_rfl
theorem info_22 : (Try.prog.info? 22).map (fun i => (i.zero, i.size, i.bytes)) = some (some (.slice none 0 0), 1, 24) := by kernel_rfl
/-- slices.Clone[[]int,int] -/
def f76 (x0 : List Int) : Option (List Int) := apnd 8 [] x0
theorem en76 : Enters Try.prog 76 := enters_of Try.func76 (by kernel_rfl) rfl
theorem wk76 {gI : Gh} {wI : World} {x0 : List Int} {up0 : Value} (rp0 : RV gI.m wI x0 up0) {r : List Int} (h : f76 x0 = some r) : Fn Try.prog 76 #[up0] gI wI (fun m w v => RV m w r v) := by
 unfold f76 at h
 refine fn_of_E Try.func76 rfl (Nat.le_of_ble_eq_true rfl) fun g0 hm hfr => ?_
 have rp0 : RV g0.m wI x0 up0 := hm ▸ rp0
 show E _ 8 none _ _ _ _ _
 refine E_seq (E_region (EL_pur (v := .slice none 0 0) (P_assign rfl) .plain rfl (EL_nil (thn_n ?_))))
 refine E_seq (E_seq (E_region (EL_pur (v := up0) (P_move rfl) .plain rfl ?_)))
 obtain ⟨a, c, hv, hc, hrow⟩ := RV_list rp0
 refine EL_pur (v := .bool a.isNone) (P_slnil Try.underlying22 (show ev _ _ = _ from hv)) .plain rfl (EL_nil (thn_n ?_))
 cases a with
 | none =>
  have hx : x0 = [] := by
   cases x0 with
   | nil => rfl
   | cons y ys => obtain ⟨b, off, hb, _⟩ := hrow (by simp); cases hb
  subst hx
  have hr : r = [] := by unfold apnd at h; split at h <;> simp at h; exact h
  subst hr
  refine E_cond_true rfl (E_seq (E_region ?_))
  refine EL_pur (v := .slice none 0 0) (P_assign rfl) .plain rfl (EL_nil (thn_n ?_))
  exact E_ret (thn_r (end1 rfl rfl (show _ = .slice none 0 0 from rfl) ⟨_, hfr, RV_nil⟩))
 | some a =>
  refine E_cond_false rfl (E_skip (thn_n ?_))
  refine E_seq (E_region (EL_do .plain rfl (D_buildSlice (g := g0) 1 (xs := ([] : List Int)) (vs := []) Try.underlying22 Try.sizeOf3 Try.zeroValue3 rfl rfl .nil RVs.nil rfl rfl fun g1 w1 v1 hs o1 r1 hxt hfl => ?_)))
  have hfr := hfr.stp hs
  have rp0 := rp0.stp hs
  refine EL_pur (v := up0) (P_move rfl) .plain rfl ?_
  refine EL_do .plain rfl (D_append (g := g1) (i := 1) Try.underlying22 info_3 rfl rfl o1 r1 rfl rp0 h fun g2 w2 v2 hs o2 r2 _ => ?_)
  have hfr := hfr.stp hs
  refine EL_pur (v := v2) (P_assign rfl) .plain rfl (EL_nil (thn_n ?_))
  exact E_ret (end1 rfl rfl (show _ = v2 from rfl) ⟨_, hfr, r2⟩)
/-- slices.Clone[[]griffe/api.FaultDamage,griffe/api.FaultDamage] -/
def f77 (x0 : List FaultDamage) : Option (List FaultDamage) := apnd 40 [] x0
theorem en77 : Enters Try.prog 77 := enters_of Try.func77 (by kernel_rfl) rfl
theorem wk77 {gI : Gh} {wI : World} {x0 : List FaultDamage} {up0 : Value} (rp0 : RV gI.m wI x0 up0) {r : List FaultDamage} (h : f77 x0 = some r) : Fn Try.prog 77 #[up0] gI wI (fun m w v => RV m w r v) := by
 unfold f77 at h
 refine fn_of_E Try.func77 rfl (Nat.le_of_ble_eq_true rfl) fun g0 hm hfr => ?_
 have rp0 : RV g0.m wI x0 up0 := hm ▸ rp0
 show E _ 8 none _ _ _ _ _
 refine E_seq (E_region (EL_pur (v := .slice none 0 0) (P_assign rfl) .plain rfl (EL_nil (thn_n ?_))))
 refine E_seq (E_seq (E_region (EL_pur (v := up0) (P_move rfl) .plain rfl ?_)))
 obtain ⟨a, c, hv, hc, hrow⟩ := RV_list rp0
 refine EL_pur (v := .bool a.isNone) (P_slnil Try.underlying29 (show ev _ _ = _ from hv)) .plain rfl (EL_nil (thn_n ?_))
 cases a with
 | none =>
  have hx : x0 = [] := by
   cases x0 with
   | nil => rfl
   | cons y ys => obtain ⟨b, off, hb, _⟩ := hrow (by simp); cases hb
  subst hx
  have hr : r = [] := by unfold apnd at h; split at h <;> simp at h; exact h
  subst hr
  refine E_cond_true rfl (E_seq (E_region ?_))
  refine EL_pur (v := .slice none 0 0) (P_assign rfl) .plain rfl (EL_nil (thn_n ?_))
  exact E_ret (thn_r (end1 rfl rfl (show _ = .slice none 0 0 from rfl) ⟨_, hfr, RV_nil⟩))
 | some a =>
  refine E_cond_false rfl (E_skip (thn_n ?_))
  refine E_seq (E_region (EL_do .plain rfl (D_buildSlice (g := g0) 1 (xs := ([] : List FaultDamage)) (vs := []) Try.underlying29 Try.sizeOf62 Try.zeroValue62 rfl rfl .nil RVs.nil rfl rfl fun g1 w1 v1 hs o1 r1 hxt hfl => ?_)))
  have hfr := hfr.stp hs
  have rp0 := rp0.stp hs
  refine EL_pur (v := up0) (P_move rfl) .plain rfl ?_
  refine EL_do .plain rfl (D_append (g := g1) (i := 1) Try.underlying29 info_62 rfl rfl o1 r1 rfl rp0 h fun g2 w2 v2 hs o2 r2 _ => ?_)
  have hfr := hfr.stp hs
  refine EL_pur (v := v2) (P_assign rfl) .plain rfl (EL_nil (thn_n ?_))
  exact E_ret (end1 rfl rfl (show _ = v2 from rfl) ⟨_, hfr, r2⟩)
theorem atS_0 (a : Addr) (w : World) : (Instr.fieldAt 154 (.pointer (some a)) 0).run Try.prog w = .ok (.pointer (some (a.add 0))) w := by simp [Instr.fieldAt, run_underlying Try.underlying154, Instr.sureAddr, fieldPlace, Result.andThen]
theorem atS_1 (a : Addr) (w : World) : (Instr.fieldAt 154 (.pointer (some a)) 1).run Try.prog w = .ok (.pointer (some (a.add 1))) w := by simp [Instr.fieldAt, run_underlying Try.underlying154, Instr.sureAddr, fieldPlace, Result.andThen]
theorem sb_size : (Try.prog.info? 154).map (·.size) = some 2 := by kernel_rfl
theorem sb_psize : ∃ j, Try.prog.info? 154 = some j ∧ j.size = 2 := Option.map_eq_some_iff.1 sb_size
theorem en114 : Enters Try.prog 114 := enters_of Try.func114 (by kernel_rfl) rfl
theorem ob_shape {i : Nat} {g : Gh} {w : World} {x : Fv × List UInt8} {b o : Nat} (hb : OB i g w 154 x (.pointer (some ⟨b, o, none⟩))) : o = 0 ∧ w.shape? b = some (154, 2) := by
 obtain ⟨b', cs, hp, _, _, hh, hr⟩ := hb
 injection hp with hp; injection hp with hp; injection hp with h1 h2
 subst h1; subst h2
 have hl := GoT.len hr
 simp [GoT.k] at hl
 exact ⟨rfl, by simp [World.shape?, hh, hl]⟩
/-- (*strings.Builder).copyCheck -/
theorem wk114 {i j : Nat} (hji : Nat.beq j i = false) {g : Gh} {w : World} {a : Fv} {xs : List UInt8} {p : Value} (hb : OB i g w 154 (a, xs) p) (ho : OSF i j 1 g w 5 154 xs p) (ha : a.v = .pointer none ∨ a.v = p) :
  Calls Try.prog 114 #[p] w fun r w' => ∃ v, r = .returned v ∧ ∃ g', Stp i g w g' w' ∧ ∃ a' : Fv, a'.v = p ∧ OB i g' w' 154 (a', xs) p ∧ OSF i j 1 g' w' 5 154 xs p := by
 obtain ⟨b, o, rfl⟩ := hb.ptr
 obtain ⟨hoff, hsh⟩ := ob_shape hb
 subst hoff
 obtain ⟨jt, hj, hjs⟩ := sb_psize
 refine calls_of_E Try.func114 rfl (Nat.le_of_ble_eq_true rfl) ?_
 show E _ 20 none _ _ _ _ _
 refine E_seq (E_region (EL_pur (v := .pointer (some ⟨b, 0, none⟩)) (P_move rfl) .plain rfl ?_))
 refine EL_pur (v := .pointer (some ⟨b, 0, none⟩)) (P_nilCheck rfl) .plain rfl ?_
 refine EL_pur (v := fPtr (.pointer (some ⟨b, 0, none⟩)) 0) (P_fieldAddr atS_0 rfl ⟨b, 0, rfl⟩) .plain rfl ?_
 refine EL_do .plain rfl (D_loadF (g := g) (a := (a, xs)) Sub.fst Try.isAgg152 Try.sizeOf152 rfl hb fun v r => ?_)
 obtain rfl := RV_fv.1 r
 rcases ha with ha | ha
 ·refine EL_pur (v := .bool true) (P_ptreq (u2 := .pointer none) (.inl rfl) (show _ = .pointer none from ha) rfl ⟨_, rfl⟩ ⟨_, rfl⟩ (fun w => by simpa using run_eql_pointer_nil (P := Try.prog) w 152 none Try.underlying152)) .plain rfl ?_
  refine EL_nil (thn_n (E_cond_true rfl (E_region ?_)))
  refine EL_pur (v := .pointer (some ⟨b, 0, none⟩)) (P_move rfl) .plain rfl ?_
  refine EL_pur (v := .pointer (some ⟨b, 0, none⟩)) (P_move rfl) .plain rfl ?_
  refine EL_val (v := .pointer (some ⟨b, 0, none⟩)) (w' := w) .plain (fun _ h => by cases h) rfl (by
   have := Lib.run_to_unsafe w ⟨b, 0, none⟩ Try.underlying152 Try.underlying161 hj (by rw [hjs]; decide) hsh (by show 0 < 2; omega)
   show (Sem.run _ (execOp _ _) _) = _
   simp only [execOp, Sem.run_bind]
   rw [show ev _ (Operand.tmp 8) = Value.pointer (some ⟨b, 0, none⟩) from rfl, this]
   rfl) ?_
  refine EL_pur (v := .pointer (some ⟨b, 0, none⟩)) (P_extern Try.func116 (by kernel_rfl) (by kernel_rfl) (by kernel_rfl) (ex := Extern.AbiNoEscape.same) (by kernel_rfl) (.cons rfl .nil) (fun _ => rfl)) .plain rfl ?_
  refine EL_val (v := .pointer (some ⟨b, 0, none⟩)) (w' := w) .plain (fun _ h => by cases h) rfl (by
   have := Lib.run_from_unsafe w ⟨b, 0, none⟩ Try.underlying161 Try.underlying152 hj hsh (by kernel_rfl)
   show (Sem.run _ (execOp _ _) _) = _
   simp only [execOp, Sem.run_bind]
   rw [show ev _ (Operand.tmp 10) = Value.pointer (some ⟨b, 0, none⟩) from rfl, this]
   rfl) ?_
  refine EL_pur (v := .pointer (some ⟨b, 0, none⟩)) (P_nilCheck rfl) .plain rfl ?_
  refine EL_pur (v := fPtr (.pointer (some ⟨b, 0, none⟩)) 0) (P_fieldAddr atS_0 rfl ⟨b, 0, rfl⟩) .plain rfl ?_
  refine EL_do .plain rfl (D_storeFc (g := g) (a := (a, xs)) (b := (⟨.pointer (some ⟨b, 0, none⟩), rfl⟩ : Fv)) SubS.fst Try.sizeOf152 rfl hb rfl (RV_fv.2 rfl) fun g1 w1 hs b1 rst _ => ?_)
  exact EL_nil (end0n rfl rfl ⟨g1, hs, _, rfl, b1, ho.rest hs rst rfl hji⟩)
 ·refine EL_pur (v := .bool false) (P_ptreq (u2 := .pointer none) (.inl rfl) (show _ = .pointer (some ⟨b, 0, none⟩) from ha) rfl ⟨_, rfl⟩ ⟨_, rfl⟩ (fun w => by simpa using run_eql_pointer_nil (P := Try.prog) w 152 (some ⟨b, 0, none⟩) Try.underlying152)) .plain rfl ?_
  refine EL_nil (thn_n (E_cond_false rfl ?_))
  refine E_seq (E_region (EL_pur (v := .pointer (some ⟨b, 0, none⟩)) (P_move rfl) .plain rfl ?_))
  refine EL_pur (v := .pointer (some ⟨b, 0, none⟩)) (P_nilCheck rfl) .plain rfl ?_
  refine EL_pur (v := fPtr (.pointer (some ⟨b, 0, none⟩)) 0) (P_fieldAddr atS_0 rfl ⟨b, 0, rfl⟩) .plain rfl ?_
  refine EL_do .plain rfl (D_loadF (g := g) (a := (a, xs)) Sub.fst Try.isAgg152 Try.sizeOf152 rfl hb fun v r => ?_)
  obtain rfl := RV_fv.1 r
  refine EL_pur (v := .pointer (some ⟨b, 0, none⟩)) (P_move rfl) .plain rfl ?_
  refine EL_pur (v := .bool false) (P_ptreq (.inr rfl) (show _ = .pointer (some ⟨b, 0, none⟩) from ha) rfl ⟨_, rfl⟩ ⟨_, rfl⟩ (fun w => Lib.run_neq_ptr_same w ⟨b, 0, none⟩ Try.underlying152 hj)) .plain rfl ?_
  refine EL_nil (thn_n (E_cond_false rfl (E_skip ?_)))
  exact end0n rfl rfl ⟨g, stp_refl _ _ _, _, ha, hb, ho⟩
theorem en109 : Enters Try.prog 109 := enters_of Try.func109 (by kernel_rfl) rfl
/-- (*strings.Builder).WriteByte -/
theorem wk109 {i j : Nat} (hji : Nat.beq j i = false) (hij : Nat.beq i j = false) {g : Gh} {w : World} {c : UInt8} {xs r : List UInt8} {p : Value} (hsb : SB i j g w 5 154 xs p) (hr : apnd 1 xs [c] = some r) :
  Calls Try.prog 109 #[p, .int .u8 c.toNat] w fun q w' => ∃ v, q = .returned v ∧ v = .nilIface ∧ WB i j g w 5 154 r p w' := by
 obtain ⟨a, hb, ho, ha⟩ := hsb
 obtain ⟨b, o, rfl⟩ := hb.ptr
 obtain ⟨hoff, hsh⟩ := ob_shape hb
 subst hoff
 refine calls_of_E Try.func109 rfl (Nat.le_of_ble_eq_true rfl) ?_
 show E _ 17 none _ _ _ _ _
 refine E_seq (E_region (EL_pur (v := .nilIface) (P_assign rfl) .plain rfl ?_))
 refine EL_nil (thn_n (E_seq (E_region (EL_pur (v := .pointer (some ⟨b, 0, none⟩)) (P_move rfl) .plain rfl ?_))))
 refine EL_do .plain rfl (D_callC (vs := [.pointer (some ⟨b, 0, none⟩)]) en114 (.cons rfl .nil) (wk114 hji hb ho ha) fun v w1 h1 => ?_)
 obtain ⟨g1, hs1, a1, ha1, hb1, ho1⟩ := h1
 refine EL_nil (thn_n (E_seq (E_region (EL_pur (v := .pointer (some ⟨b, 0, none⟩)) (P_move rfl) .plain rfl ?_))))
 refine EL_pur (v := .pointer (some ⟨b, 0, none⟩)) (P_move rfl) .plain rfl ?_
 refine EL_pur (v := .pointer (some ⟨b, 0, none⟩)) (P_nilCheck rfl) .plain rfl ?_
 refine EL_pur (v := fPtr (.pointer (some ⟨b, 0, none⟩)) 1) (P_fieldAddr atS_1 rfl ⟨b, 0, rfl⟩) .plain rfl ?_
 refine EL_do .plain rfl (D_loadFS (g := g1) (a := (a1, xs)) (f := Prod.snd) Sub.snd Try.isAgg80 Try.sizeOf80 rfl hb1 ho1 fun v2 r2 o2 => ?_)
 refine EL_pur (v := .int .u8 c.toNat) (P_move rfl) .plain rfl ?_
 refine EL_do .plain rfl (D_buildSlice (g := g1) 1 (xs := [c]) (vs := [.int .u8 c.toNat]) Try.underlying80 Try.sizeOf5 Try.zeroValue5 rfl rfl (.cons rfl .nil) (RVs.cons (RV_u8.2 rfl) RVs.nil) rfl rfl fun g3 w3 v3 _ _ r3 hxt _ => ?_)
 refine EL_do .plain rfl (D_append (g := g3) (i := j) Try.underlying80 info_5 rfl rfl (o2.ext hxt) (r2.ext hxt) rfl r3 hr fun g4 w4 v4 hs4 o4 r4 _ => ?_)
 have j0 := (hb1.ext hxt).stp hs4 hij
 refine EL_pur (v := .pointer (some ⟨b, 0, none⟩)) (P_nilCheck rfl) .plain rfl ?_
 refine EL_pur (v := fPtr (.pointer (some ⟨b, 0, none⟩)) 1) (P_fieldAddr atS_1 rfl ⟨b, 0, rfl⟩) .plain rfl ?_
 refine EL_do .plain rfl (D_storeFc (g := g4) (a := (a1, xs)) SubS.snd Try.sizeOf80 rfl j0 rfl r4 fun g5 w5 hs5 b5 _ hos => ?_)
 have o5 := hos _ _ j 5 r (rv_cells1 r4) hji o4
 refine EL_nil (thn_n (E_seq (E_region (EL_pur (v := .nilIface) (P_assign rfl) .plain rfl ?_))))
 refine EL_nil (thn_n (E_ret (end1 rfl rfl (show _ = .nilIface from rfl) ⟨rfl, g5, ⟨g1, w1, g4, w4, hs1, (hxt.stp.trans hs4), hs5⟩, a1, b5, o5, .inr ha1⟩)))
theorem en112 : Enters Try.prog 112 := enters_of Try.func112 (by kernel_rfl) rfl
theorem mixedS : Try.prog.follows .mixedOrders = true := by kernel_rfl
/-- (*strings.Builder).String, of a builder that holds some byte -/
theorem wk112 {i j : Nat} (hij : Nat.beq i 0 = false) {g : Gh} {w : World} {xs : List UInt8} {p : Value} (hsb : SB i j g w 5 154 xs p) (h0 : xs ≠ []) :
  Calls Try.prog 112 #[p] w fun q w' => ∃ v, q = .returned v ∧ GS j g w xs v w' := by
 obtain ⟨a, hb, ho, ha⟩ := hsb
 obtain ⟨b, o, rfl⟩ := hb.ptr
 obtain ⟨hoff, hsh⟩ := ob_shape hb
 subst hoff
 refine calls_of_E Try.func112 rfl (Nat.le_of_ble_eq_true rfl) ?_
 show E _ 14 none _ _ _ _ _
 refine E_seq (E_region (EL_pur (v := Str.v ⟨[]⟩) (P_assign rfl) .plain rfl ?_))
 refine EL_nil (thn_n (L_loadFSx (f := Prod.snd) (a := (a, xs)) Sub.snd Try.isAgg80 Try.sizeOf80 hb ho fun v r os hl => ?_))
 obtain ⟨sa, c, rfl, hc, _⟩ := RV_list r
 have hne : c ≠ 0 := by
  have : 0 < xs.length := by cases xs with
   | nil => exact absurd rfl h0
   | cons _ _ => simp
  have hc' : xs.length ≤ c := hc
  omega
 refine E_seq (E_drawL (g := g) (n := 10) [] [0, 1, 2, 3, 4, 5, 6, 7, 8, 9] rfl mixedS (by kernel_rfl) trivial ?_)
 refine L_pur (c := .pointer (some ⟨b, 0, none⟩)) rfl rfl .plain (fun _ _ hd => P_move rfl) ?_
 refine L_pur (c := .pointer (some ⟨b, 0, none⟩)) rfl rfl .plain (fun _ _ hd => P_nilCheck rfl) ?_
 refine L_pur (c := fPtr (.pointer (some ⟨b, 0, none⟩)) 1) rfl rfl .plain (fun _ _ hd => P_fieldAddr atS_1 rfl ⟨b, 0, rfl⟩) ?_
 refine L_ld (c := .slice sa xs.length c) rfl rfl .plain (fun _ _ h => ⟨h.ch, fun b hb _ => h.below.block b hb⟩) (hl _) rfl ?_
 refine L_pur (c := .pointer sa) rfl rfl .plain (fun _ _ hd => P_sliceData (a := sa) (n := xs.length) (c := c) rfl (.inl hne)) ?_
 refine L_pur (c := .pointer (some ⟨b, 0, none⟩)) rfl rfl .plain (fun _ _ hd => P_move rfl) ?_
 refine L_pur (c := .pointer (some ⟨b, 0, none⟩)) rfl rfl .plain (fun _ _ hd => P_nilCheck rfl) ?_
 refine L_pur (c := fPtr (.pointer (some ⟨b, 0, none⟩)) 1) rfl rfl .plain (fun _ _ hd => P_fieldAddr atS_1 rfl ⟨b, 0, rfl⟩) ?_
 refine L_ld (c := .slice sa xs.length c) rfl rfl .plain (fun _ _ h => ⟨h.ch, fun b hb _ => h.below.block b hb⟩) (hl _) rfl ?_
 refine L_pur (c := .int .i64 (xs.length : Int)) rfl rfl .plain (fun _ _ hd => P_len (v := .slice sa xs.length c) Try.underlying80 rfl r) ?_
 refine L_nil fun g1 w1 hall => ?_
 have hs := hall.1
 refine EL_do .plain rfl (D_unsafeString (g := g1) (j := j) (et := 5) rfl Try.underlying160 (by kernel_rfl) h0 rfl rfl (os.ext hs) (r.ext hs) fun g2 w2 hs2 => ?_)
 refine EL_pur (v := Str.v ⟨xs⟩) (P_assign rfl) .plain rfl ?_
 exact EL_nil (thn_n (E_ret (end1 rfl rfl (show _ = Str.v ⟨xs⟩ from rfl) ⟨rfl, g2, hs.stp.trans hs2⟩)))
/-- griffe/griffelaw05.large -/
def f14 (x0 : FaultLoom) : Option (Bool) :=
 Option.bind (α := Bool) (
  bif (decide (((((x0).Harness).Warps).length : Int) > (110 : Int))) then
   some (true)
  else
   some ((decide (((((x0).Design).Rows).length : Int) > (70 : Int))))
  ) fun n0 =>
 some (n0)
theorem en14 : Enters Try.prog 14 := enters_of Try.func14 (by kernel_rfl) rfl
theorem wk14 {gI : Gh} {wI : World} {x0 : FaultLoom} {up0 : Value} (rp0 : RV gI.m wI x0 up0) {r : Bool} (h : f14 x0 = some r) : Fn Try.prog 14 #[up0] gI wI (fun _ _ v => v = .bool (r)) := by
 unfold f14 at h
 refine fn_of_E Try.func14 rfl (Nat.le_of_ble_eq_true rfl) fun g0 hm hfr => ?_
 have rp0 : RV g0.m wI x0 up0 := hm ▸ rp0
 show E _ 15 none _ _ _ _ _
 refine E_seq (E_region (EL_do .plain rfl (D_box (g := g0) rfl rp0 fun g1 w1 p1 hs q1 => ?_)))
 have hfr := hfr.ext hs
 have rp0 := rp0.ext hs
 refine EL_pur (v := .bool false) (P_assign rfl) .plain rfl ?_
 refine EL_nil (thn_n ?_)
 obtain ⟨n0, hx, h⟩ := bsome h
 refine E_join (fun e w => ∃ (g : Gh) , Fr gI wI g w ∧ e 2 = .bool (n0)) (fun Q' hQ => ?_) (fun z1 d2 hR => ?_)
 ·replace h := hx
  clear hx
  refine E_region (EL_pur (v := fPtr p1 0) (P_fieldAddr at_28_0 rfl (PT.ptr q1)) .plain rfl ?_)
  have q9 := PT_field (part_FaultLoom_0).1 q1
  refine EL_pur (v := fPtr (fPtr p1 0) 1) (P_fieldAddr at_24_1 rfl (PT.ptr q9)) .plain rfl ?_
  have y0 := PT_field (part_TieHarness_1).1 q9
  refine EL_do .plain rfl (D_load (g := g1) Try.isAgg22 Try.sizeOf22 rfl y0 fun i2 i1 => ?_)
  refine EL_pur (v := .int .i64 ((((x0).Harness).Warps).length : Int)) (P_len Try.underlying22 rfl i1) .plain rfl ?_
  refine EL_pur (v := .bool ((decide (((((x0).Harness).Warps).length : Int) > (110 : Int))))) (P_int rfl rfl rfl) .plain rfl ?_
  refine EL_pur (v := .bool ((decide (((((x0).Harness).Warps).length : Int) > (110 : Int))))) (P_move rfl) .plain rfl ?_
  rcases csome h with ⟨j0, h⟩ | ⟨j0, h⟩
  ·refine EL_skip (.no2 rfl rfl j0 rfl) rfl ?_
   refine EL_skip (.no2 rfl rfl j0 rfl) rfl ?_
   refine EL_skip (.no2 rfl rfl j0 rfl) rfl ?_
   refine EL_skip (.no2 rfl rfl j0 rfl) rfl ?_
   refine EL_skip (.no2 rfl rfl j0 rfl) rfl ?_
   refine EL_pur (v := .bool true) (P_pick (b := (decide (((((x0).Harness).Warps).length : Int) > (110 : Int)))) rfl (pick_t j0 rfl)) .plain rfl ?_
   refine EL_pur (v := .bool true) (P_assign rfl) .plain rfl ?_
   refine EL_nil ?_
   obtain rfl := Option.some.inj h
   exact hQ _ _ ⟨g1, hfr, rfl⟩
  ·refine EL_pur (v := fPtr p1 2) (P_fieldAddr at_28_1 rfl (PT.ptr q1)) (.yes2 rfl rfl j0) rfl ?_
   have u0 := PT_field (part_FaultLoom_1).1 q1
   refine EL_pur (v := fPtr (fPtr p1 2) 1) (P_fieldAddr at_26_1 rfl (PT.ptr u0)) (.yes2 rfl rfl j0) rfl ?_
   have j1 := PT_field (part_Design_1).1 u0
   refine EL_do (.yes2 rfl rfl j0) rfl (D_load (g := g1) Try.isAgg22 Try.sizeOf22 rfl j1 fun j2 m1 => ?_)
   refine EL_pur (v := .int .i64 ((((x0).Design).Rows).length : Int)) (P_len Try.underlying22 rfl m1) (.yes2 rfl rfl j0) rfl ?_
   refine EL_pur (v := .bool ((decide (((((x0).Design).Rows).length : Int) > (70 : Int))))) (P_int rfl rfl rfl) (.yes2 rfl rfl j0) rfl ?_
   refine EL_pur (v := .bool ((decide (((((x0).Design).Rows).length : Int) > (70 : Int))))) (P_pick (b := (decide (((((x0).Harness).Warps).length : Int) > (110 : Int)))) rfl (pick_f j0 rfl)) .plain rfl ?_
   refine EL_pur (v := .bool ((decide (((((x0).Design).Rows).length : Int) > (70 : Int))))) (P_assign rfl) .plain rfl ?_
   refine EL_nil ?_
   obtain rfl := Option.some.inj h
   exact hQ _ _ ⟨g1, hfr, rfl⟩
 ·clear hx
  obtain ⟨m2, hfr, o0⟩ := hR
  refine E_ret ?_
  obtain rfl := Option.some.inj h
  exact end1 rfl rfl (show _ = .bool (n0) from o0) ⟨_, hfr, rfl⟩
/-- griffe/grifferef05.Copy -/
def f16 (x0 : FaultLoom) : Option (FaultLoom) :=
 (apnd 8 (([] : List Int)) (((x0).Harness).Warps)).bind fun y8 =>
 (apnd 8 (([] : List Int)) (((x0).Design).Rows)).bind fun j0 =>
 some ({ { x0 with Harness := { (x0).Harness with Warps := y8 } } with Design := { ({ x0 with Harness := { (x0).Harness with Warps := y8 } }).Design with Rows := j0 } })
theorem en16 : Enters Try.prog 16 := enters_of Try.func16 (by kernel_rfl) rfl
theorem wk16 {gI : Gh} {wI : World} {x0 : FaultLoom} {up0 : Value} (rp0 : RV gI.m wI x0 up0) {r : FaultLoom} (h : f16 x0 = some r) : Fn Try.prog 16 #[up0] gI wI (fun m w v => RV m w (r) v) := by
 unfold f16 at h
 refine fn_of_E Try.func16 rfl (Nat.le_of_ble_eq_true rfl) fun g0 hm hfr => ?_
 have rp0 : RV g0.m wI x0 up0 := hm ▸ rp0
 show E _ 18 none _ _ _ _ _
 refine E_seq (E_region (EL_do .plain rfl (D_boxO (g := g0) 2001 rfl rp0 fun g1 w1 p1 hs b1 => ?_)))
 have hfr := hfr.stp hs
 have rp0 := rp0.stp hs
 refine EL_do .plain rfl (D_allocOc (g := g1) 2002 (⟨⟨0, []⟩, ⟨0, []⟩⟩ : FaultLoom) Try.zeroValue28 (fun m w => ⟨_, (rep_two (rep_two rep_int rep_nil) (rep_two rep_int rep_nil)), rfl⟩) fun g2 w2 p2 hs b2 cb => ?_)
 have hfr := hfr.stp hs
 have rp0 := rp0.stp hs
 have b1 := b1.stp hs rfl
 have o0 : OSF 2002 60201 1 g2 w2 3 28 ([] : List Int) p2 := cb.osf (by rfl)
 have u0 : OSF 2002 60203 3 g2 w2 3 28 ([] : List Int) p2 := cb.osf (by rfl)
 clear cb
 refine EL_nil (thn_n (E_seq (L_loadO (x := .tmp 5) (SubS.comp part_FaultLoom_0 part_TieHarness_1 rfl).1 Try.isAgg22 Try.sizeOf22 b1 fun v6 r6 d3 => ?_)))
 obtain ⟨y8, e3, h⟩ := bsome h
 refine L_loadO (x := .tmp 10) (SubS.comp part_FaultLoom_1 part_Design_1 rfl).1 Try.isAgg22 Try.sizeOf22 b1 fun i3 n0 q2 => ?_
 obtain ⟨j0, s2, h⟩ := bsome h
 refine E_drawL (g := g2) (n := 12) [(0, (fun v g w => RV g.m w ([] : List Int) v ∧ OS 3003 g w 3 ([] : List Int) v ∧ FullV v)), (4, (fun v g w => RV g.m w y8 v ∧ OS 3003 g w 3 y8 v)), (5, (fun v g w => RV g.m w ([] : List Int) v ∧ OS 3008 g w 3 ([] : List Int) v ∧ FullV v)), (9, (fun v g w => RV g.m w j0 v ∧ OS 3008 g w 3 j0 v))] [0, 1, 2, 3, 4, 5, 6, 7, 8, 9, 10, 11] rfl mixed (by kernel_rfl) (⟨fun _ => up_and up_rv (up_and up_os (up_eq _)), fun _ => up_and up_rv up_os, fun _ => up_and up_rv (up_and up_os (up_eq _)), fun _ => up_and up_rv up_os, trivial⟩) ?_
 refine L_do (φ := fun v g w => RV g.m w ([] : List Int) v ∧ OS 3003 g w 3 ([] : List Int) v ∧ FullV v) rfl rfl .plain (fun g w hd => D_buildSlice (g := g) 3003 (xs := ([] : List Int)) (vs := []) Try.underlying22 Try.sizeOf3 Try.zeroValue3 rfl rfl .nil RVs.nil rfl rfl fun g' w' v hs o r hxt hfl => ⟨g', hxt, r, o, hfl⟩) (fun v3 hv => ?_)
 clear hv
 refine L_pur (c := fPtr p1 0) rfl rfl .plain (fun _ _ hd => P_fieldAddr at_28_0 rfl (OB.ptr b1)) ?_
 refine L_pur (c := fPtr p1 1) rfl rfl .plain (fun _ _ hd => P_fieldAddr2 (o1 := 0) rfl at_24_1 rfl (OB.ptr b1)) ?_
 refine L_ld (c := v6) rfl rfl .plain (fun _ _ h => ⟨h.ch, fun b hb _ => h.below.block b hb⟩) d3 rfl ?_
 refine L_do (φ := fun v g w => RV g.m w y8 v ∧ OS 3003 g w 3 y8 v) rfl rfl .plain (fun g w hd => D_append (g := g) (i := 3003) Try.underlying22 info_3 rfl rfl (word (A := fun g w => RV g.m w ([] : List Int) v3 ∧ OS 3003 g w 3 ([] : List Int) v3 ∧ FullV v3) 0 rfl rfl (deps_of hd)).2.1 (word (A := fun g w => RV g.m w ([] : List Int) v3 ∧ OS 3003 g w 3 ([] : List Int) v3 ∧ FullV v3) 0 rfl rfl (deps_of hd)).1 rfl (r6.ext hd.1) e3 fun g' w' v hs o r hf => ⟨g', hf (word (A := fun g w => RV g.m w ([] : List Int) v3 ∧ OS 3003 g w 3 ([] : List Int) v3 ∧ FullV v3) 0 rfl rfl (deps_of hd)).2.2, r, o⟩) (fun v7 hv => ?_)
 clear hv
 refine L_do (φ := fun v g w => RV g.m w ([] : List Int) v ∧ OS 3008 g w 3 ([] : List Int) v ∧ FullV v) rfl rfl .plain (fun g w hd => D_buildSlice (g := g) 3008 (xs := ([] : List Int)) (vs := []) Try.underlying22 Try.sizeOf3 Try.zeroValue3 rfl rfl .nil RVs.nil rfl rfl fun g' w' v hs o r hxt hfl => ⟨g', hxt, r, o, hfl⟩) (fun v9 hv => ?_)
 clear hv
 refine L_pur (c := fPtr p1 2) rfl rfl .plain (fun _ _ hd => P_fieldAddr at_28_1 rfl (OB.ptr b1)) ?_
 refine L_pur (c := fPtr p1 3) rfl rfl .plain (fun _ _ hd => P_fieldAddr2 (o1 := 2) rfl at_26_1 rfl (OB.ptr b1)) ?_
 refine L_ld (c := i3) rfl rfl .plain (fun _ _ h => ⟨h.ch, fun b hb _ => h.below.block b hb⟩) q2 rfl ?_
 refine L_do (φ := fun v g w => RV g.m w j0 v ∧ OS 3008 g w 3 j0 v) rfl rfl .plain (fun g w hd => D_append (g := g) (i := 3008) Try.underlying22 info_3 rfl rfl (word (A := fun g w => RV g.m w ([] : List Int) v9 ∧ OS 3008 g w 3 ([] : List Int) v9 ∧ FullV v9) 5 rfl rfl (deps_of hd)).2.1 (word (A := fun g w => RV g.m w ([] : List Int) v9 ∧ OS 3008 g w 3 ([] : List Int) v9 ∧ FullV v9) 5 rfl rfl (deps_of hd)).1 rfl (n0.ext hd.1) s2 fun g' w' v hs o r hf => ⟨g', hf (word (A := fun g w => RV g.m w ([] : List Int) v9 ∧ OS 3008 g w 3 ([] : List Int) v9 ∧ FullV v9) 5 rfl rfl (deps_of hd)).2.2, r, o⟩) (fun d2 hv => ?_)
 clear hv
 refine L_pur (c := fPtr p1 0) rfl rfl .plain (fun _ _ hd => P_fieldAddr at_28_0 rfl (OB.ptr b1)) ?_
 refine L_pur (c := fPtr p1 1) rfl rfl .plain (fun _ _ hd => P_fieldAddr2 (o1 := 0) rfl at_24_1 rfl (OB.ptr b1)) ?_
 refine L_nil fun j3 p3 hall => ?_
 have hs := hall.1
 have hfr := hfr.ext hs
 have rp0 := rp0.ext hs
 have b1 := b1.ext hs
 have o0 := o0.ext hs
 have u0 := u0.ext hs
 have b2 := b2.ext hs
 have r6 := r6.ext hs
 have n0 := n0.ext hs
 have m1 := (word_all (A := fun g w => RV g.m w ([] : List Int) v3 ∧ OS 3003 g w 3 ([] : List Int) v3 ∧ FullV v3) 0 rfl hall).1
 have o21 := (word_all (A := fun g w => RV g.m w ([] : List Int) v3 ∧ OS 3003 g w 3 ([] : List Int) v3 ∧ FullV v3) 0 rfl hall).2.1
 have y0 := (word_all (A := fun g w => RV g.m w y8 v7 ∧ OS 3003 g w 3 y8 v7) 4 rfl hall).1
 have o25 := (word_all (A := fun g w => RV g.m w y8 v7 ∧ OS 3003 g w 3 y8 v7) 4 rfl hall).2
 have z1 := (word_all (A := fun g w => RV g.m w ([] : List Int) v9 ∧ OS 3008 g w 3 ([] : List Int) v9 ∧ FullV v9) 5 rfl hall).1
 have o26 := (word_all (A := fun g w => RV g.m w ([] : List Int) v9 ∧ OS 3008 g w 3 ([] : List Int) v9 ∧ FullV v9) 5 rfl hall).2.1
 have i1 := (word_all (A := fun g w => RV g.m w j0 d2 ∧ OS 3008 g w 3 j0 d2) 9 rfl hall).1
 have o30 := (word_all (A := fun g w => RV g.m w j0 d2 ∧ OS 3008 g w 3 j0 d2) 9 rfl hall).2
 clear hs hall
 refine EL_do .plain rfl (D_storeFc (g := j3) (SubS.comp part_FaultLoom_0 part_TieHarness_1 rfl) Try.sizeOf22 rfl b1 rfl y0 fun m3 q3 hs b33 rst hos => ?_)
 have j1 := hos _ _ 3003 3 (y8 : List Int) (rv_cells1 y0) rfl o25
 clear rst hos
 have hfr := hfr.stp hs
 have rp0 := rp0.stp hs
 have o0 := o0.stp hs rfl
 have u0 := u0.stp hs rfl
 have b2 := b2.stp hs rfl
 have m1 := m1.stp hs
 have o21 := o21.stp hs rfl
 have r6 := r6.stp hs
 have y0 := y0.stp hs
 have o25 := o25.stp hs rfl
 have z1 := z1.stp hs
 have o26 := o26.stp hs rfl
 have n0 := n0.stp hs
 have i1 := i1.stp hs
 have o30 := o30.stp hs rfl
 refine EL_pur (v := fPtr p1 2) (P_fieldAddr at_28_1 rfl (OB.ptr b33)) .plain rfl ?_
 refine EL_pur (v := fPtr p1 3) (P_fieldAddr2 (o1 := 2) rfl at_26_1 rfl (OB.ptr b33)) .plain rfl ?_
 refine EL_do .plain rfl (D_storeFc (g := m3) (SubS.comp part_FaultLoom_1 part_Design_1 rfl) Try.sizeOf22 rfl b33 rfl i1 fun m2 r3 hs b36 rst hos => ?_)
 have j1 := j1.rest hs rst
 have i2 := hos _ _ 3008 3 (j0 : List Int) (rv_cells1 i1) rfl o30
 clear rst hos
 have hfr := hfr.stp hs
 have rp0 := rp0.stp hs
 have o0 := o0.stp hs rfl
 have u0 := u0.stp hs rfl
 have b2 := b2.stp hs rfl
 have m1 := m1.stp hs
 have o21 := o21.stp hs rfl
 have r6 := r6.stp hs
 have y0 := y0.stp hs
 have o25 := o25.stp hs rfl
 have z1 := z1.stp hs
 have o26 := o26.stp hs rfl
 have n0 := n0.stp hs
 have i1 := i1.stp hs
 have o30 := o30.stp hs rfl
 refine EL_nil (thn_n (E_seq (E_region (EL_do .plain rfl (D_loadO (g := m2) Try.isAgg28 Try.sizeOf28 rfl b36 fun o3 j2 => ?_)))))
 refine EL_do .plain rfl (D_storeOc (g := m2) (v := o3) Try.sizeOf28 rfl b2 rfl j2 fun s3 u3 hs b38 cb => ?_)
 clear cb
 have hfr := hfr.stp hs
 have rp0 := rp0.stp hs
 have j1 := j1.stp hs rfl
 have i2 := i2.stp hs rfl
 have b36 := b36.stp hs rfl
 have m1 := m1.stp hs
 have o21 := o21.stp hs rfl
 have r6 := r6.stp hs
 have y0 := y0.stp hs
 have o25 := o25.stp hs rfl
 have z1 := z1.stp hs
 have o26 := o26.stp hs rfl
 have n0 := n0.stp hs
 have i1 := i1.stp hs
 have o30 := o30.stp hs rfl
 have j2 := j2.stp hs
 refine EL_nil (thn_n (E_ret ?_))
 obtain rfl := Option.some.inj h
 obtain ⟨ad39, cv39, hp39, z2, cr39⟩ := ob_read Try.isAgg28 Try.sizeOf28 b38
 exact endm_c rfl rfl ((show _ = p2 from rfl).trans hp39) z2 ⟨_, hfr, cr39⟩
/-- griffe/grifferef05.In -/
def f24 (x0 : Int) (x1 : Int) (x2 : Int) : Option (Bool) :=
 Option.bind (α := Bool) (
  bif (decide (x0 ≥ x1)) then
   some ((decide (x0 ≤ x2)))
  else
   some (false)
  ) fun j0 =>
 some (j0)
theorem en24 : Enters Try.prog 24 := enters_of Try.func24 (by kernel_rfl) rfl
theorem wk24 {gI : Gh} {wI : World} {x0 : Int} {x1 : Int} {x2 : Int}  {r : Bool} (h : f24 x0 x1 x2 = some r) : Fn Try.prog 24 #[.int .i64 (x0), .int .i64 (x1), .int .i64 (x2)] gI wI (fun _ _ v => v = .bool (r)) := by
 unfold f24 at h
 refine fn_of_E Try.func24 rfl (Nat.le_of_ble_eq_true rfl) fun g0 hm hfr => ?_
 show E _ 15 none _ _ _ _ _
 refine E_seq (E_region (EL_pur (v := .bool false) (P_assign rfl) .plain rfl ?_))
 refine EL_nil (thn_n ?_)
 obtain ⟨j0, hx, h⟩ := bsome h
 refine E_join (fun e w => ∃ (g : Gh) , Fr gI wI g w ∧ e 6 = .bool (j0)) (fun Q' hQ => ?_) (fun o0 w3 hR => ?_)
 ·replace h := hx
  clear hx
  refine E_region (EL_pur (v := .int .i64 (x0)) (P_move rfl) .plain rfl ?_)
  refine EL_pur (v := .int .i64 (x1)) (P_move rfl) .plain rfl ?_
  refine EL_pur (v := .bool ((decide (x0 ≥ x1)))) (P_int rfl rfl rfl) .plain rfl ?_
  refine EL_pur (v := .bool ((decide (x0 ≥ x1)))) (P_move rfl) .plain rfl ?_
  rcases csome h with ⟨hc2, h⟩ | ⟨hc2, h⟩
  ·refine EL_pur (v := .int .i64 (x0)) (P_move rfl) (.yes2 rfl rfl hc2) rfl ?_
   refine EL_pur (v := .int .i64 (x2)) (P_move rfl) (.yes2 rfl rfl hc2) rfl ?_
   refine EL_pur (v := .bool ((decide (x0 ≤ x2)))) (P_int rfl rfl rfl) (.yes2 rfl rfl hc2) rfl ?_
   refine EL_pur (v := .bool ((decide (x0 ≤ x2)))) (P_pick (b := (decide (x0 ≥ x1))) rfl (pick_t hc2 rfl)) .plain rfl ?_
   refine EL_pur (v := .bool ((decide (x0 ≤ x2)))) (P_assign rfl) .plain rfl ?_
   refine EL_nil ?_
   obtain rfl := Option.some.inj h
   exact hQ _ _ ⟨g0, hfr, rfl⟩
  ·refine EL_skip (.no2 rfl rfl hc2 rfl) rfl ?_
   refine EL_skip (.no2 rfl rfl hc2 rfl) rfl ?_
   refine EL_skip (.no2 rfl rfl hc2 rfl) rfl ?_
   refine EL_pur (v := .bool false) (P_pick (b := (decide (x0 ≥ x1))) rfl (pick_f hc2 rfl)) .plain rfl ?_
   refine EL_pur (v := .bool false) (P_assign rfl) .plain rfl ?_
   refine EL_nil ?_
   obtain rfl := Option.some.inj h
   exact hQ _ _ ⟨g0, hfr, rfl⟩
 ·clear hx
  obtain ⟨g3, hfr, n0⟩ := hR
  refine E_ret ?_
  obtain rfl := Option.some.inj h
  exact end1 rfl rfl (show _ = .bool (j0) from n0) ⟨_, hfr, rfl⟩
/-- griffe/grifferef05.Wrong -/
def f29 (x0 : List Str) (x1 : List Str) : Option ((List FaultSight)) :=
 Option.bind (α := (List FaultSight)) (
  lp (σ := (List FaultSight) × Int) (fun p5 (j2, j0) =>
   jn (σ := Unit) (fun (_ : Unit) =>
    Option.bind (α := (List FaultSight)) (
     lp (σ := (List FaultSight) × Int) (fun q5 (i1, n0) =>
      jn (σ := Unit) (fun (_ : Unit) =>
       Option.bind (α := (List FaultSight)) (
        (idx x0 j0).bind fun d5 =>
        (idx (d5).b n0).bind fun j3 =>
        (idx x1 j0).bind fun e5 =>
        (idx (e5).b n0).bind fun m3 =>
        bif (j3 != m3) then
         (idx x0 j0).bind fun r5 =>
         (idx (r5).b n0).bind fun i2 =>
         (apnd 24 i1 (([(⟨j0, n0, (i2 == (120 : UInt8))⟩ : FaultSight)] : List FaultSight))).bind fun t5 =>
         some (t5)
        else
         some (i1)
        ) fun m2 =>
       q5 (m2, (w64 (n0 + (1 : Int))))
       ) fun u5 =>
      (idx x0 j0).bind fun o3 =>
      bif (decide (n0 < ((o3).b.length : Int))) then
       u5 ()
      else
       some (i1)
      ) big (j2, (0 : Int))
     ) fun p2 =>
    p5 (p2, (w64 (j0 + (1 : Int))))
    ) fun x5 =>
   bif (decide (j0 < ((x0).length : Int))) then
    x5 ()
   else
    some (j2)
   ) big (([] : List FaultSight), (0 : Int))
  ) fun d3 =>
 some (d3)
theorem en29 : Enters Try.prog 29 := enters_of Try.func29 (by kernel_rfl) rfl
theorem wk29 {gI : Gh} {wI : World} {x0 : List Str} {x1 : List Str} {up0 : Value} (rp0 : RV gI.m wI x0 up0) {up1 : Value} (rp1 : RV gI.m wI x1 up1) {r : (List FaultSight)} (h : f29 x0 x1 = some r) : Fn Try.prog 29 #[up0, up1] gI wI (fun m w v => RV m w (r) v) := by
 unfold f29 at h
 refine fn_of_E Try.func29 rfl (Nat.le_of_ble_eq_true rfl) fun g0 hm hfr => ?_
 have rp0 : RV g0.m wI x0 up0 := hm ▸ rp0
 have rp1 : RV g0.m wI x1 up1 := hm ▸ rp1
 show E _ 51 none _ _ _ _ _
 refine E_seq (E_region (EL_pur (v := .slice none 0 0) (P_assign rfl) .plain rfl ?_))
 refine EL_nil (thn_n (E_seq (E_region (EL_do .plain rfl (D_buildSlice (g := g0) 3008 (xs := ([] : List FaultSight)) (vs := []) Try.underlying39 Try.sizeOf56 Try.zeroValue56 rfl rfl .nil RVs.nil rfl rfl fun g1 w1 v1 hs o1 r1 hxt hfl => ?_)))))
 have hfr := hfr.stp hs
 have rp0 := rp0.stp hs
 have rp1 := rp1.stp hs
 refine EL_pur (v := v1) (P_assign rfl) .plain rfl ?_
 refine EL_nil (thn_n ?_)
 obtain ⟨d3, hx, h⟩ := bsome h
 refine E_join (fun e w => ∃ (g : Gh) (v5 : Value), Fr gI wI g w ∧ e 5 = v5 ∧ RV g.m w (d3 : List FaultSight) v5 ∧ OS 3008 g w 56 (d3 : List FaultSight) v5) (fun Q' hQ => ?_) (fun p8 z8 hR => ?_)
 ·replace h := hx
  clear hx
  refine E_seq (E_region (EL_pur (v := .int .i64 (0)) (P_assign rfl) .plain rfl ?_))
  refine EL_nil (thn_n (E_block ?_))
  refine E_lp h (fun (s : (List FaultSight) × Int) e w => ∃ (g : Gh) (v5 : Value), Fr gI wI g w ∧ e 0 = up0 ∧ RV g.m w (x0 : List Str) up0 ∧ e 1 = up1 ∧ RV g.m w (x1 : List Str) up1 ∧ e 5 = v5 ∧ RV g.m w (s.1 : List FaultSight) v5 ∧ OS 3008 g w 56 (s.1 : List FaultSight) v5 ∧ e 6 = .int .i64 (s.2)) ⟨g1, (v1), hfr, rfl, rp0, rfl, rp1, rfl, r1, o1, rfl⟩ (fun X179 p5 n7 => ?_)
  rintro ⟨j2, j0⟩ q8 a9 ⟨y5, q2, hfr, j4, m4, z5, a6, n4, o4, p4, q4⟩ h
  refine E_joinC h (fun (s : Unit) e w => ∃ (g : Gh) , Fr gI wI g w ∧ e 0 = up0 ∧ RV g.m w (x0 : List Str) up0 ∧ e 1 = up1 ∧ RV g.m w (x1 : List Str) up1 ∧ e 5 = q2 ∧ RV g.m w (j2 : List FaultSight) q2 ∧ OS 3008 g w 56 (j2 : List FaultSight) q2 ∧ e 6 = .int .i64 (j0)) (fun X182 x5 o7 h => ?_) ?_
  ·refine E_seq (E_region (EL_pur (v := .int .i64 (j0)) (P_move q4) .plain rfl ?_))
   refine EL_pur (v := up0) (P_move j4) .plain rfl ?_
   refine EL_pur (v := .int .i64 ((x0).length : Int)) (P_len Try.underlying36 rfl m4) .plain rfl ?_
   refine EL_pur (v := .bool ((decide (j0 < ((x0).length : Int))))) (P_int rfl rfl rfl) .plain rfl ?_
   refine EL_nil (thn_n ?_)
   rcases csome h with ⟨c4, h⟩ | ⟨c4, h⟩
   ·refine E_cond_true (Eq.trans (show ev _ _ = .bool ((decide (j0 < ((x0).length : Int)))) from rfl) (congrArg Value.bool c4)) ?_
    exact E_skip (thn_n (o7 () _ _ ⟨y5, hfr, j4, m4, z5, a6, n4, o4, p4, q4⟩ h))
   ·refine E_cond_false (Eq.trans (show ev _ _ = .bool ((decide (j0 < ((x0).length : Int)))) from rfl) (congrArg Value.bool c4)) ?_
    refine E_exit ?_
    refine thn_e ?_
    refine thn_e ?_
    refine blk_hit ?_
    obtain rfl := Option.some.inj h
    exact hQ _ _ ⟨y5, (q2), hfr, n4, o4, p4⟩
  ·rintro _ r8 b9 ⟨z7, hfr, b6, c6, d6, e6, i6, j6, k6, l6⟩ h
   obtain ⟨p2, hx, h⟩ := bsome h
   refine E_join (fun e w => ∃ (g : Gh) (v5 : Value), Fr gI wI g w ∧ e 0 = up0 ∧ RV g.m w (x0 : List Str) up0 ∧ e 1 = up1 ∧ RV g.m w (x1 : List Str) up1 ∧ e 5 = v5 ∧ RV g.m w (p2 : List FaultSight) v5 ∧ OS 3008 g w 56 (p2 : List FaultSight) v5 ∧ e 6 = .int .i64 (j0)) (fun Q' hQ => ?_) (fun t8 c9 hR => ?_)
   ·replace h := hx
    clear hx
    refine E_block ?_
    refine E_seq (E_region (EL_pur (v := .int .i64 (0)) (P_assign rfl) .plain rfl ?_))
    refine EL_nil (thn_n (E_block ?_))
    refine E_lp h (fun (s : (List FaultSight) × Int) e w => ∃ (g : Gh) (v5 : Value), Fr gI wI g w ∧ e 0 = up0 ∧ RV g.m w (x0 : List Str) up0 ∧ e 1 = up1 ∧ RV g.m w (x1 : List Str) up1 ∧ e 5 = v5 ∧ RV g.m w (s.1 : List FaultSight) v5 ∧ OS 3008 g w 56 (s.1 : List FaultSight) v5 ∧ e 6 = .int .i64 (j0) ∧ e 7 = .int .i64 (s.2)) ⟨z7, (q2), hfr, b6, c6, d6, e6, i6, j6, k6, l6, rfl⟩ (fun X270 q5 p7 => ?_)
    rintro ⟨i1, n0⟩ v8 d9 ⟨i5, j1, hfr, q3, e3, r4, s4, u4, x4, z4, r3, b5⟩ h
    refine E_joinC h (fun (s : Unit) e w => ∃ (g : Gh) , Fr gI wI g w ∧ e 0 = up0 ∧ RV g.m w (x0 : List Str) up0 ∧ e 1 = up1 ∧ RV g.m w (x1 : List Str) up1 ∧ e 5 = j1 ∧ RV g.m w (i1 : List FaultSight) j1 ∧ OS 3008 g w 56 (i1 : List FaultSight) j1 ∧ e 6 = .int .i64 (j0) ∧ e 7 = .int .i64 (n0)) (fun X276 u5 q7 h => ?_) ?_
    ·refine E_seq (E_region (EL_pur (v := .int .i64 (n0)) (P_move b5) .plain rfl ?_))
     refine EL_pur (v := up0) (P_move q3) .plain rfl ?_
     refine EL_pur (v := .int .i64 (j0)) (P_move r3) .plain rfl ?_
     obtain ⟨o3, l5, h⟩ := bsome h
     refine EL_pur (v := ePtr up0 j0 1) (P_indexAddr (α := Str) Try.underlying36 Try.sizeOf9 rfl e3 rfl l5) .plain rfl ?_
     have a8 := PT_idx e3 l5
     refine EL_do .plain rfl (D_load (g := i5) Try.isAgg9 Try.sizeOf9 rfl a8 fun e9 b8 => ?_)
     obtain rfl := RV_str.1 b8
     refine EL_pur (v := .int .i64 ((o3).b.length : Int)) (P_lenS Try.underlying9 rfl) .plain rfl ?_
     refine EL_pur (v := .bool ((decide (n0 < ((o3).b.length : Int))))) (P_int rfl rfl rfl) .plain rfl ?_
     refine EL_nil (thn_n ?_)
     rcases csome h with ⟨d4, h⟩ | ⟨d4, h⟩
     ·refine E_cond_true (Eq.trans (show ev _ _ = .bool ((decide (n0 < ((o3).b.length : Int)))) from rfl) (congrArg Value.bool d4)) ?_
      exact E_skip (thn_n (q7 () _ _ ⟨i5, hfr, q3, e3, r4, s4, u4, x4, z4, r3, b5⟩ h))
     ·refine E_cond_false (Eq.trans (show ev _ _ = .bool ((decide (n0 < ((o3).b.length : Int)))) from rfl) (congrArg Value.bool d4)) ?_
      refine E_exit ?_
      refine thn_e ?_
      refine thn_e ?_
      refine blk_hit ?_
      refine blk_n ?_
      obtain rfl := Option.some.inj h
      exact hQ _ _ ⟨i5, (j1), hfr, q3, e3, r4, s4, u4, x4, z4, r3⟩
    ·rintro _ x8 g9 ⟨c8, hfr, i3, o0, s3, u0, c5, y0, m1, z1, d2⟩ h
     obtain ⟨m2, hx, h⟩ := bsome h
     refine E_join (fun e w => ∃ (g : Gh) (v5 : Value), Fr gI wI g w ∧ e 0 = up0 ∧ RV g.m w (x0 : List Str) up0 ∧ e 1 = up1 ∧ RV g.m w (x1 : List Str) up1 ∧ e 5 = v5 ∧ RV g.m w (m2 : List FaultSight) v5 ∧ OS 3008 g w 56 (m2 : List FaultSight) v5 ∧ e 6 = .int .i64 (j0) ∧ e 7 = .int .i64 (n0)) (fun Q' hQ => ?_) (fun y8 i9 hR => ?_)
     ·replace h := hx
      clear hx
      refine E_block ?_
      refine E_seq ?_
      obtain ⟨d5, m5, h⟩ := bsome h
      have s2 := PT_idx o0 m5
      refine L_load (x := .tmp 26) Try.isAgg9 Try.sizeOf9 s2 fun j9 d8 r7 => ?_
      obtain rfl := RV_str.1 d8
      obtain ⟨j3, s7, h⟩ := bsome h
      obtain ⟨e5, n5, h⟩ := bsome h
      have z2 := PT_idx u0 n5
      refine L_load (x := .tmp 32) Try.isAgg9 Try.sizeOf9 z2 fun k9 e8 t7 => ?_
      obtain rfl := RV_str.1 e8
      obtain ⟨m3, u7, h⟩ := bsome h
      refine E_drawL (g := c8) (n := 13) [] [0, 1, 2, 3, 4, 5, 6, 7, 8, 9, 10, 11, 12] rfl mixed (by kernel_rfl) trivial ?_
      refine L_pur (c := up0) rfl rfl .plain (fun _ _ hd => P_move i3) ?_
      refine L_pur (c := .int .i64 (j0)) rfl rfl .plain (fun _ _ hd => P_move z1) ?_
      refine L_pur (c := ePtr up0 j0 1) rfl rfl .plain (fun _ _ hd => P_indexAddr (α := Str) Try.underlying36 Try.sizeOf9 rfl o0 rfl m5) ?_
      refine L_ld (c := Str.v (d5)) rfl rfl .plain (fun _ _ h => h.ch) r7 rfl ?_
      refine L_pur (c := .int .i64 (n0)) rfl rfl .plain (fun _ _ hd => P_move d2) ?_
      refine L_pur (c := .int .u8 (UInt8.toNat (j3))) rfl rfl .plain (fun _ _ hd => P_indexS Try.underlying9 rfl rfl s7) ?_
      refine L_pur (c := up1) rfl rfl .plain (fun _ _ hd => P_move s3) ?_
      refine L_pur (c := .int .i64 (j0)) rfl rfl .plain (fun _ _ hd => P_move z1) ?_
      refine L_pur (c := ePtr up1 j0 1) rfl rfl .plain (fun _ _ hd => P_indexAddr (α := Str) Try.underlying36 Try.sizeOf9 rfl u0 rfl n5) ?_
      refine L_ld (c := Str.v (e5)) rfl rfl .plain (fun _ _ h => h.ch) t7 rfl ?_
      refine L_pur (c := .int .i64 (n0)) rfl rfl .plain (fun _ _ hd => P_move d2) ?_
      refine L_pur (c := .int .u8 (UInt8.toNat (m3))) rfl rfl .plain (fun _ _ hd => P_indexS Try.underlying9 rfl rfl u7) ?_
      refine L_pur (c := .bool ((j3 != m3))) rfl rfl .plain (fun _ _ hd => P_u8 rfl rfl rfl) ?_
      refine L_nil fun e4 g8 hall => ?_
      have hs := hall.1
      have hfr := hfr.ext hs
      have o0 := o0.ext hs
      have u0 := u0.ext hs
      have y0 := y0.ext hs
      have m1 := m1.ext hs
      have s2 := s2.ext hs
      have z2 := z2.ext hs
      clear hs hall
      refine EL_nil (thn_n ?_)
      rcases csome h with ⟨i4, h⟩ | ⟨i4, h⟩
      ·refine E_cond_true (Eq.trans (show ev _ _ = .bool ((j3 != m3)) from rfl) (congrArg Value.bool i4)) ?_
       refine E_region (EL_pur (v := j1) (P_move c5) .plain rfl ?_)
       refine EL_pur (v := .int .i64 (j0)) (P_move z1) .plain rfl ?_
       refine EL_pur (v := .int .i64 (n0)) (P_move d2) .plain rfl ?_
       refine EL_pur (v := up0) (P_move i3) .plain rfl ?_
       refine EL_pur (v := .int .i64 (j0)) (P_move z1) .plain rfl ?_
       obtain ⟨r5, o5, h⟩ := bsome h
       refine EL_pur (v := ePtr up0 j0 1) (P_indexAddr (α := Str) Try.underlying36 Try.sizeOf9 rfl o0 rfl o5) .plain rfl ?_
       have u3 := PT_idx o0 o5
       refine EL_do .plain rfl (D_load (g := e4) Try.isAgg9 Try.sizeOf9 rfl u3 fun l9 i8 => ?_)
       obtain rfl := RV_str.1 i8
       refine EL_pur (v := .int .i64 (n0)) (P_move d2) .plain rfl ?_
       obtain ⟨i2, v7, h⟩ := bsome h
       refine EL_pur (v := .int .u8 (UInt8.toNat (i2))) (P_indexS Try.underlying9 rfl rfl v7) .plain rfl ?_
       refine EL_pur (v := .bool ((i2 == (120 : UInt8)))) (P_u8 rfl rfl rfl) .plain rfl ?_
       have p3 : RV e4.m g8 (⟨j0, n0, (i2 == (120 : UInt8))⟩ : FaultSight) (.agg (setCh [[.int .i64 0], [.int .i64 0], [.bool false]] [(0, .int .i64 (j0)), (1, .int .i64 (n0)), (2, .bool ((i2 == (120 : UInt8))))]).flatten.toArray) := RV_build rfl (rep_pair (rfl) (rep_pair (rfl) (rep_last (rfl))))
       generalize x7 : (Value.agg (setCh [[.int .i64 0], [.int .i64 0], [.bool false]] [(0, .int .i64 (j0)), (1, .int .i64 (n0)), (2, .bool ((i2 == (120 : UInt8))))]).flatten.toArray) = m6 at p3
       refine EL_pur (v := m6) (x7 ▸ P_build (vs := [(0, .int .i64 (j0)), (1, .int .i64 (n0)), (2, .bool ((i2 == (120 : UInt8))))]) [[.int .i64 0], [.int .i64 0], [.bool false]] lay_56 rfl rfl (.cons rfl (.cons rfl (.cons rfl .nil))) ⟨⟨_, rfl, rfl⟩, ⟨⟨_, rfl, rfl⟩, ⟨⟨_, rfl, rfl⟩, trivial⟩⟩⟩) .plain rfl ?_
       refine EL_do .plain rfl (D_buildSlice (g := e4) 3048 (xs := ([(⟨j0, n0, (i2 == (120 : UInt8))⟩ : FaultSight)] : List FaultSight)) (vs := [m6]) Try.underlying39 Try.sizeOf56 Try.zeroValue56 rfl rfl (.cons rfl .nil) (RVs.cons p3 RVs.nil) rfl rfl fun j8 m9 n9 hs o351 j5 hxt hfl => ?_)
       have hfr := hfr.stp hs
       have o0 := o0.stp hs
       have u0 := u0.stp hs
       have y0 := y0.stp hs
       have m1 := m1.stp hs rfl
       have s2 := s2.stp hs
       have z2 := z2.stp hs
       have u3 := u3.stp hs
       have p3 := p3.stp hs
       obtain ⟨t5, y7, h⟩ := bsome h
       refine EL_do .plain rfl (D_append (g := j8) (i := 3008) Try.underlying39 info_56 rfl rfl m1 y0 rfl j5 y7 fun k8 o9 n6 hs o352 l8 _ => ?_)
       have hfr := hfr.stp hs
       have o0 := o0.stp hs
       have u0 := u0.stp hs
       have y0 := y0.stp hs
       have s2 := s2.stp hs
       have z2 := z2.stp hs
       have u3 := u3.stp hs
       have p3 := p3.stp hs
       have j5 := j5.stp hs
       have o351 := o351.stp hs rfl
       refine EL_pur (v := n6) (P_assign rfl) .plain rfl ?_
       refine EL_nil (blk_n ?_)
       obtain rfl := Option.some.inj h
       exact hQ _ _ ⟨k8, (n6), hfr, i3, o0, s3, u0, rfl, l8, o352, z1, d2⟩
      ·refine E_cond_false (Eq.trans (show ev _ _ = .bool ((j3 != m3)) from rfl) (congrArg Value.bool i4)) ?_
       refine E_skip (blk_n ?_)
       obtain rfl := Option.some.inj h
       exact hQ _ _ ⟨e4, (j1), hfr, i3, o0, s3, u0, c5, y0, m1, z1, d2⟩
     ·clear hx
      obtain ⟨m8, o6, hfr, p6, q6, r6, s6, t6, u6, v6, x6, y6⟩ := hR
      refine E_region (EL_pur (v := .int .i64 (n0)) (P_move y6) .plain rfl ?_)
      refine EL_pur (v := .int .i64 ((w64 (n0 + (1 : Int))))) (P_int rfl rfl rfl) .plain rfl ?_
      refine EL_pur (v := .int .i64 ((w64 (n0 + (1 : Int))))) (P_assign rfl) .plain rfl ?_
      exact EL_nil (thn_n (p7 (m2, (w64 (n0 + (1 : Int)))) _ _ ⟨m8, (o6), hfr, p6, q6, r6, s6, t6, u6, v6, x6, rfl⟩ h))
   ·clear hx
    obtain ⟨n8, z6, hfr, a7, b7, c7, d7, e7, g7, i7, j7⟩ := hR
    refine E_region (EL_pur (v := .int .i64 (j0)) (P_move j7) .plain rfl ?_)
    refine EL_pur (v := .int .i64 ((w64 (j0 + (1 : Int))))) (P_int rfl rfl rfl) .plain rfl ?_
    refine EL_pur (v := .int .i64 ((w64 (j0 + (1 : Int))))) (P_assign rfl) .plain rfl ?_
    exact EL_nil (thn_n (n7 (p2, (w64 (j0 + (1 : Int)))) _ _ ⟨n8, (z6), hfr, a7, b7, c7, d7, e7, g7, i7, rfl⟩ h))
 ·clear hx
  obtain ⟨p9, z3, hfr, l7, m7, o8⟩ := hR
  refine E_seq (E_region (EL_pur (v := z3) (P_move l7) .plain rfl ?_))
  refine EL_pur (v := z3) (P_assign rfl) .plain rfl ?_
  refine EL_nil (thn_n (E_ret ?_))
  obtain rfl := Option.some.inj h
  exact end1 rfl rfl (show _ = z3 from rfl) ⟨_, hfr, m7⟩
/-- griffe/griffelaw05.loom -/
def f49  : Option (FaultLoom) :=
 some ((⟨(⟨(4 : Int), ([(0 : Int), (1 : Int), (2 : Int), (3 : Int), (2 : Int), (1 : Int)] : List Int)⟩ : TieHarness), (⟨(4 : Int), ([(1 : Int), (6 : Int)] : List Int)⟩ : Design)⟩ : FaultLoom))
theorem en49 : Enters Try.prog 49 := enters_of Try.func49 (by kernel_rfl) rfl
theorem wk49 {gI : Gh} {wI : World}   {r : FaultLoom} (h : f49  = some r) : Fn Try.prog 49 #[] gI wI (fun m w v => RV m w (r) v) := by
 unfold f49 at h
 refine fn_of_E Try.func49 rfl (Nat.le_of_ble_eq_true rfl) fun g0 hm hfr => ?_
 show E _ 6 none _ _ _ _ _
 refine E_seq (E_region (EL_do .plain rfl (D_allocOc (g := g0) 2000 (⟨⟨0, []⟩, ⟨0, []⟩⟩ : FaultLoom) Try.zeroValue28 (fun m w => ⟨_, (rep_two (rep_two rep_int rep_nil) (rep_two rep_int rep_nil)), rfl⟩) fun g1 w1 p1 hs b1 cb => ?_)))
 have hfr := hfr.stp hs
 have j0 : OSF 2000 60001 1 g1 w1 3 28 ([] : List Int) p1 := cb.osf (by rfl)
 have n0 : OSF 2000 60003 3 g1 w1 3 28 ([] : List Int) p1 := cb.osf (by rfl)
 clear cb
 refine EL_nil (thn_n (E_seq (E_region (EL_do .plain rfl (D_buildSlice (g := g1) 3001 (xs := ([(0 : Int), (1 : Int), (2 : Int), (3 : Int), (2 : Int), (1 : Int)] : List Int)) (vs := [.int .i64 (0), .int .i64 (1), .int .i64 (2), .int .i64 (3), .int .i64 (2), .int .i64 (1)]) Try.underlying22 Try.sizeOf3 Try.zeroValue3 rfl rfl (.cons rfl (.cons rfl (.cons rfl (.cons rfl (.cons rfl (.cons rfl .nil)))))) (RVs.cons (RV_int.2 rfl) (RVs.cons (RV_int.2 rfl) (RVs.cons (RV_int.2 rfl) (RVs.cons (RV_int.2 rfl) (RVs.cons (RV_int.2 rfl) (RVs.cons (RV_int.2 rfl) RVs.nil)))))) rfl rfl fun g2 w2 v2 hs o2 r2 hxt hfl => ?_)))))
 have hfr := hfr.stp hs
 have j0 := j0.stp hs rfl
 have n0 := n0.stp hs rfl
 have b1 := b1.stp hs rfl
 have r3 : RV g2.m _ (⟨(4 : Int), ([(0 : Int), (1 : Int), (2 : Int), (3 : Int), (2 : Int), (1 : Int)] : List Int)⟩ : TieHarness) (.agg (setCh [[.int .i64 0], [.slice none 0 0]] [(0, .int .i64 (4)), (1, v2)]).flatten.toArray) := RV_build rfl (rep_pair (rfl) (rep_last (RV.cells r2)))
 generalize hv3 : (Value.agg (setCh [[.int .i64 0], [.slice none 0 0]] [(0, .int .i64 (4)), (1, v2)]).flatten.toArray) = v3 at r3
 refine EL_pur (v := v3) (hv3 ▸ P_build (vs := [(0, .int .i64 (4)), (1, v2)]) [[.int .i64 0], [.slice none 0 0]] lay_24 rfl rfl (.cons rfl (.cons rfl .nil)) ⟨⟨_, rfl, rfl⟩, ⟨⟨_, rfl, cells_size r2⟩, trivial⟩⟩) .plain rfl ?_
 refine EL_do .plain rfl (D_buildSlice (g := g2) 3003 (xs := ([(1 : Int), (6 : Int)] : List Int)) (vs := [.int .i64 (1), .int .i64 (6)]) Try.underlying22 Try.sizeOf3 Try.zeroValue3 rfl rfl (.cons rfl (.cons rfl .nil)) (RVs.cons (RV_int.2 rfl) (RVs.cons (RV_int.2 rfl) RVs.nil)) rfl rfl fun g4 w4 v4 hs o4 r4 hxt hfl => ?_)
 have hfr := hfr.stp hs
 have j0 := j0.stp hs rfl
 have n0 := n0.stp hs rfl
 have b1 := b1.stp hs rfl
 have r2 := r2.stp hs
 have o2 := o2.stp hs rfl
 have r3 := r3.stp hs
 have r5 : RV g4.m _ (⟨(4 : Int), ([(1 : Int), (6 : Int)] : List Int)⟩ : Design) (.agg (setCh [[.int .i64 0], [.slice none 0 0]] [(0, .int .i64 (4)), (1, v4)]).flatten.toArray) := RV_build rfl (rep_pair (rfl) (rep_last (RV.cells r4)))
 generalize o0 : (Value.agg (setCh [[.int .i64 0], [.slice none 0 0]] [(0, .int .i64 (4)), (1, v4)]).flatten.toArray) = v5 at r5
 refine EL_pur (v := v5) (o0 ▸ P_build (vs := [(0, .int .i64 (4)), (1, v4)]) [[.int .i64 0], [.slice none 0 0]] lay_26 rfl rfl (.cons rfl (.cons rfl .nil)) ⟨⟨_, rfl, rfl⟩, ⟨⟨_, rfl, cells_size r4⟩, trivial⟩⟩) .plain rfl ?_
 have r6 : RV g4.m _ (⟨(⟨(4 : Int), ([(0 : Int), (1 : Int), (2 : Int), (3 : Int), (2 : Int), (1 : Int)] : List Int)⟩ : TieHarness), (⟨(4 : Int), ([(1 : Int), (6 : Int)] : List Int)⟩ : Design)⟩ : FaultLoom) (.agg (setCh [[.int .i64 0, .slice none 0 0], [.int .i64 0, .slice none 0 0]] [(0, v3), (1, v5)]).flatten.toArray) := RV_build rfl (rep_pair (RV.cells r3) (rep_last (RV.cells r5)))
 generalize u0 : (Value.agg (setCh [[.int .i64 0, .slice none 0 0], [.int .i64 0, .slice none 0 0]] [(0, v3), (1, v5)]).flatten.toArray) = v6 at r6
 refine EL_pur (v := v6) (u0 ▸ P_build (vs := [(0, v3), (1, v5)]) [[.int .i64 0, .slice none 0 0], [.int .i64 0, .slice none 0 0]] lay_28 rfl rfl (.cons rfl (.cons rfl .nil)) ⟨⟨_, rfl, cells_size r3⟩, ⟨⟨_, rfl, cells_size r5⟩, trivial⟩⟩) .plain rfl ?_
 refine EL_do .plain rfl (D_storeOc (g := g4) (v := v6) Try.sizeOf28 rfl b1 rfl r6 fun g7 w7 hs b7 cb => ?_)
 clear cb
 have hfr := hfr.stp hs
 have r2 := r2.stp hs
 have o2 := o2.stp hs rfl
 have r3 := r3.stp hs
 have r4 := r4.stp hs
 have o4 := o4.stp hs rfl
 have r5 := r5.stp hs
 have r6 := r6.stp hs
 refine EL_nil (thn_n (E_ret ?_))
 obtain rfl := Option.some.inj h
 obtain ⟨ad8, cv8, hp8, y0, cr8⟩ := ob_read Try.isAgg28 Try.sizeOf28 b7
 exact endm_c rfl rfl ((show _ = p1 from rfl).trans hp8) y0 ⟨_, hfr, cr8⟩
theorem v76_0 {iO : Nat} {gI : Gh} {wI : World} {x0 : List Int} {up0 : Value} (rp0 : RV gI.m wI x0 up0) {r : List Int} (h : f76 x0 = some r) : FnG Try.prog 76 #[up0] gI wI (fun g w v => OM iO g w 3 r v) := by
 unfold f76 at h
 refine fnG_of_E Try.func76 rfl (Nat.le_of_ble_eq_true rfl) fun g0 hm hfr => ?_
 have rp0 : RV g0.m wI x0 up0 := hm ▸ rp0
 show E _ 8 none _ _ _ _ _
 refine E_seq (E_region (EL_pur (v := .slice none 0 0) (P_assign rfl) .plain rfl (EL_nil (thn_n ?_))))
 refine E_seq (E_seq (E_region (EL_pur (v := up0) (P_move rfl) .plain rfl ?_)))
 obtain ⟨a, c, hv, hc, hrow⟩ := RV_list rp0
 refine EL_pur (v := .bool a.isNone) (P_slnil Try.underlying22 (show ev _ _ = _ from hv)) .plain rfl (EL_nil (thn_n ?_))
 cases a with
 | none =>
  have hx : x0 = [] := by
   cases x0 with
   | nil => rfl
   | cons y ys => obtain ⟨b, off, hb, _⟩ := hrow (by simp); cases hb
  subst hx
  have hr : r = [] := by unfold apnd at h; split at h <;> simp at h; exact h
  subst hr
  refine E_cond_true rfl (E_seq (E_region ?_))
  refine EL_pur (v := .slice none 0 0) (P_assign rfl) .plain rfl (EL_nil (thn_n ?_))
  obtain ⟨gh, hxh, homh⟩ := OM.handn (i := iO) (t := 3) (α := Int) hfr; exact E_ret (thn_r (end1 rfl rfl (show _ = .slice none 0 0 from rfl) ⟨gh, hxh, homh⟩))
 | some a =>
  refine E_cond_false rfl (E_skip (thn_n ?_))
  refine E_seq (E_region (EL_do .plain rfl (D_buildSlice (g := g0) 1 (xs := ([] : List Int)) (vs := []) Try.underlying22 Try.sizeOf3 Try.zeroValue3 rfl rfl .nil RVs.nil rfl rfl fun g1 w1 v1 hs o1 r1 hxt hfl => ?_)))
  have hfr := hfr.stp hs
  have rp0 := rp0.stp hs
  refine EL_pur (v := up0) (P_move rfl) .plain rfl ?_
  refine EL_do .plain rfl (D_append (g := g1) (i := 1) Try.underlying22 info_3 rfl rfl o1 r1 rfl rp0 h fun g2 w2 v2 hs o2 r2 _ => ?_)
  have hfr := hfr.stp hs
  refine EL_pur (v := v2) (P_assign rfl) .plain rfl (EL_nil (thn_n ?_))
  obtain ⟨gh, hxh, homh⟩ := OM.hand (i := iO) plain_int hfr o2 r2; exact E_ret (end1 rfl rfl (show _ = v2 from rfl) ⟨gh, hxh, homh⟩)
/-- griffe/grifferef03.Same -/
def f57 (x0 : TieHarness) (x1 : TieHarness) : Option (Bool) :=
 jn (σ := Unit) (fun (_ : Unit) =>
  jn (σ := Unit) (fun (_ : Unit) =>
   some (true)
   ) fun z3 =>
  lp (σ := Int) (fun c4 j0 =>
   jn (σ := Unit) (fun (_ : Unit) =>
    jn (σ := Unit) (fun (_ : Unit) =>
     c4 ((w64 (j0 + (1 : Int))))
     ) fun d4 =>
    (idx ((x0).Warps) j0).bind fun i1 =>
    (idx ((x1).Warps) j0).bind fun j1 =>
    bif (i1 != j1) then
     some (false)
    else
     d4 ()
    ) fun e4 =>
   bif (decide (j0 < (((x0).Warps).length : Int))) then
    e4 ()
   else
    z3 ()
   ) big ((0 : Int))
  ) fun t5 =>
 Option.bind (α := Bool) (
  bif ((x0).Hooks != (x1).Hooks) then
   some (true)
  else
   some (((((x0).Warps).length : Int) != (((x1).Warps).length : Int)))
  ) fun o0 =>
 bif o0 then
  some (false)
 else
  t5 ()
theorem en57 : Enters Try.prog 57 := enters_of Try.func57 (by kernel_rfl) rfl
theorem wk57 {gI : Gh} {wI : World} {x0 : TieHarness} {x1 : TieHarness} {up0 : Value} (rp0 : RV gI.m wI x0 up0) {up1 : Value} (rp1 : RV gI.m wI x1 up1) {r : Bool} (h : f57 x0 x1 = some r) : Fn Try.prog 57 #[up0, up1] gI wI (fun _ _ v => v = .bool (r)) := by
 unfold f57 at h
 refine fn_of_E Try.func57 rfl (Nat.le_of_ble_eq_true rfl) fun g0 hm hfr => ?_
 have rp0 : RV g0.m wI x0 up0 := hm ▸ rp0
 have rp1 : RV g0.m wI x1 up1 := hm ▸ rp1
 show E _ 38 none _ _ _ _ _
 refine E_seq (E_region (EL_do .plain rfl (D_box (g := g0) rfl rp0 fun g1 w1 p1 hs q1 => ?_)))
 have hfr := hfr.ext hs
 have rp0 := rp0.ext hs
 have rp1 := rp1.ext hs
 refine EL_do .plain rfl (D_box (g := g1) rfl rp1 fun g2 w2 p2 hs q2 => ?_)
 have hfr := hfr.ext hs
 have rp0 := rp0.ext hs
 have rp1 := rp1.ext hs
 have q1 := q1.ext hs
 refine EL_pur (v := .bool false) (P_assign rfl) .plain rfl ?_
 refine EL_nil (thn_n (E_joinC h (fun (s : Unit) e w => ∃ (g : Gh) , Fr gI wI g w ∧ e 2 = p1 ∧ PT g.m w (x0 : TieHarness) p1 ∧ e 3 = p2 ∧ PT g.m w (x1 : TieHarness) p2) (fun X23 t5 u5 h => ?_) ?_))
 ·obtain ⟨o0, hx, h⟩ := bsome h
  refine E_join (fun e w => ∃ (g : Gh) , Fr gI wI g w ∧ e 2 = p1 ∧ PT g.m w (x0 : TieHarness) p1 ∧ e 3 = p2 ∧ PT g.m w (x1 : TieHarness) p2 ∧ e 19 = .bool (o0)) (fun Q' hQ => ?_) (fun v6 j7 hR => ?_)
  ·replace h := hx
   clear hx
   refine E_region (EL_pur (v := fPtr p1 0) (P_fieldAddr at_24_0 rfl (PT.ptr q1)) .plain rfl ?_)
   have e6 := PT_field (part_TieHarness_0).1 q1
   refine EL_do .plain rfl (D_load (g := g2) Try.isAgg3 Try.sizeOf3 rfl e6 fun l7 i6 => ?_)
   obtain rfl := RV_int.1 i6
   refine EL_pur (v := fPtr p2 0) (P_fieldAddr at_24_0 rfl (PT.ptr q2)) .plain rfl ?_
   have j6 := PT_field (part_TieHarness_0).1 q2
   refine EL_do .plain rfl (D_load (g := g2) Try.isAgg3 Try.sizeOf3 rfl j6 fun m7 k6 => ?_)
   obtain rfl := RV_int.1 k6
   refine EL_pur (v := .bool (((x0).Hooks != (x1).Hooks))) (P_int rfl rfl rfl) .plain rfl ?_
   refine EL_pur (v := .bool (((x0).Hooks != (x1).Hooks))) (P_move rfl) .plain rfl ?_
   rcases csome h with ⟨n0, h⟩ | ⟨n0, h⟩
   ·refine EL_skip (.no2 rfl rfl n0 rfl) rfl ?_
    refine EL_skip (.no2 rfl rfl n0 rfl) rfl ?_
    refine EL_skip (.no2 rfl rfl n0 rfl) rfl ?_
    refine EL_skip (.no2 rfl rfl n0 rfl) rfl ?_
    refine EL_skip (.no2 rfl rfl n0 rfl) rfl ?_
    refine EL_skip (.no2 rfl rfl n0 rfl) rfl ?_
    refine EL_skip (.no2 rfl rfl n0 rfl) rfl ?_
    refine EL_pur (v := .bool true) (P_pick (b := ((x0).Hooks != (x1).Hooks)) rfl (pick_t n0 rfl)) .plain rfl ?_
    refine EL_nil ?_
    obtain rfl := Option.some.inj h
    exact hQ _ _ ⟨g2, hfr, rfl, q1, rfl, q2, rfl⟩
   ·refine EL_pur (v := fPtr p1 1) (P_fieldAddr at_24_1 rfl (PT.ptr q1)) (.yes2 rfl rfl n0) rfl ?_
    have l6 := PT_field (part_TieHarness_1).1 q1
    refine EL_do (.yes2 rfl rfl n0) rfl (D_load (g := g2) Try.isAgg22 Try.sizeOf22 rfl l6 fun n7 m6 => ?_)
    refine EL_pur (v := .int .i64 (((x0).Warps).length : Int)) (P_len Try.underlying22 rfl m6) (.yes2 rfl rfl n0) rfl ?_
    refine EL_pur (v := fPtr p2 1) (P_fieldAddr at_24_1 rfl (PT.ptr q2)) (.yes2 rfl rfl n0) rfl ?_
    have n6 := PT_field (part_TieHarness_1).1 q2
    refine EL_do (.yes2 rfl rfl n0) rfl (D_load (g := g2) Try.isAgg22 Try.sizeOf22 rfl n6 fun o7 o6 => ?_)
    refine EL_pur (v := .int .i64 (((x1).Warps).length : Int)) (P_len Try.underlying22 rfl o6) (.yes2 rfl rfl n0) rfl ?_
    refine EL_pur (v := .bool (((((x0).Warps).length : Int) != (((x1).Warps).length : Int)))) (P_int rfl rfl rfl) (.yes2 rfl rfl n0) rfl ?_
    refine EL_pur (v := .bool (((((x0).Warps).length : Int) != (((x1).Warps).length : Int)))) (P_pick (b := ((x0).Hooks != (x1).Hooks)) rfl (pick_f n0 rfl)) .plain rfl ?_
    refine EL_nil ?_
    obtain rfl := Option.some.inj h
    exact hQ _ _ ⟨g2, hfr, rfl, q1, rfl, q2, rfl⟩
  ·clear hx
   obtain ⟨p6, hfr, u4, x4, z4, b5, s2⟩ := hR
   rcases csome h with ⟨j3, h⟩ | ⟨j3, h⟩
   ·refine E_cond_true (Eq.trans (show ev _ _ = .bool (o0) from s2) (congrArg Value.bool j3)) ?_
    refine E_seq (E_region (EL_pur (v := .bool false) (P_assign rfl) .plain rfl ?_))
    refine EL_nil (thn_n (E_ret (thn_r ?_)))
    obtain rfl := Option.some.inj h
    exact end1 rfl rfl (show _ = .bool false from rfl) ⟨_, hfr, rfl⟩
   ·refine E_cond_false (Eq.trans (show ev _ _ = .bool (o0) from s2) (congrArg Value.bool j3)) ?_
    exact E_skip (thn_n (u5 () _ _ ⟨p6, hfr, u4, x4, z4, b5⟩ h))
 ·rintro _ x6 p7 ⟨q6, hfr, c5, d5, e5, i5⟩ h
  refine E_joinC h (fun (s : Unit) e w => ∃ (g : Gh) , Fr gI wI g w) (fun X109 z3 j5 h => ?_) ?_
  ·refine E_seq (E_region (EL_pur (v := .int .i64 (0)) (P_assign rfl) .plain rfl ?_))
   refine EL_nil (thn_n (E_block ?_))
   refine E_lp h (fun (s : Int) e w => ∃ (g : Gh) , Fr gI wI g w ∧ e 2 = p1 ∧ PT g.m w (x0 : TieHarness) p1 ∧ e 3 = p2 ∧ PT g.m w (x1 : TieHarness) p2 ∧ e 5 = .int .i64 (s)) ⟨q6, hfr, c5, d5, e5, i5, rfl⟩ (fun X110 c4 l5 => ?_)
   rintro j0 r6 y6 ⟨m3, hfr, z2, m1, i4, j4, d3⟩ h
   refine E_joinC h (fun (s : Unit) e w => ∃ (g : Gh) , Fr gI wI g w ∧ e 2 = p1 ∧ PT g.m w (x0 : TieHarness) p1 ∧ e 3 = p2 ∧ PT g.m w (x1 : TieHarness) p2 ∧ e 5 = .int .i64 (j0)) (fun X115 e4 m5 h => ?_) ?_
   ·refine E_seq (E_region (EL_pur (v := .int .i64 (j0)) (P_move d3) .plain rfl ?_))
    refine EL_pur (v := fPtr p1 1) (P_fieldAddr at_24_1 z2 (PT.ptr m1)) .plain rfl ?_
    have x5 := PT_field (part_TieHarness_1).1 m1
    refine EL_do .plain rfl (D_load (g := m3) Try.isAgg22 Try.sizeOf22 rfl x5 fun z6 y5 => ?_)
    refine EL_pur (v := .int .i64 (((x0).Warps).length : Int)) (P_len Try.underlying22 rfl y5) .plain rfl ?_
    refine EL_pur (v := .bool ((decide (j0 < (((x0).Warps).length : Int))))) (P_int rfl rfl rfl) .plain rfl ?_
    refine EL_nil (thn_n ?_)
    rcases csome h with ⟨d2, h⟩ | ⟨d2, h⟩
    ·refine E_cond_true (Eq.trans (show ev _ _ = .bool ((decide (j0 < (((x0).Warps).length : Int)))) from rfl) (congrArg Value.bool d2)) ?_
     exact E_skip (thn_n (m5 () _ _ ⟨m3, hfr, z2, m1, i4, j4, d3⟩ h))
    ·refine E_cond_false (Eq.trans (show ev _ _ = .bool ((decide (j0 < (((x0).Warps).length : Int)))) from rfl) (congrArg Value.bool d2)) ?_
     refine E_exit ?_
     refine thn_e ?_
     refine thn_e ?_
     refine blk_hit ?_
     exact thn_n (j5 () _ _ ⟨m3, hfr⟩ h)
   ·rintro _ s6 a7 ⟨z5, hfr, e3, u0, i3, y0, z1⟩ h
    refine E_joinC h (fun (s : Unit) e w => ∃ (g : Gh) , Fr gI wI g w ∧ e 2 = p1 ∧ PT g.m w (x0 : TieHarness) p1 ∧ e 3 = p2 ∧ PT g.m w (x1 : TieHarness) p2 ∧ e 5 = .int .i64 (j0)) (fun X146 d4 n5 h => ?_) ?_
    ·refine E_block ?_
     refine E_seq ?_
     have o3 := PT_field (part_TieHarness_1).1 u0
     refine L_load (x := .tmp 27) Try.isAgg22 Try.sizeOf22 o3 fun m4 i2 o5 => ?_
     obtain ⟨i1, s3, h⟩ := bsome h
     have p3 := PT_idx i2 s3
     refine L_load (x := .tmp 30) Try.isAgg3 Try.sizeOf3 p3 fun b7 a6 p5 => ?_
     obtain rfl := RV_int.1 a6
     have q3 := PT_field (part_TieHarness_1).1 y0
     refine L_load (x := .tmp 32) Try.isAgg22 Try.sizeOf22 q3 fun n4 j2 q5 => ?_
     obtain ⟨j1, u3, h⟩ := bsome h
     have r3 := PT_idx j2 u3
     refine L_load (x := .tmp 35) Try.isAgg3 Try.sizeOf3 r3 fun c7 b6 r5 => ?_
     obtain rfl := RV_int.1 b6
     refine E_drawL (g := z5) (n := 11) [] [0, 1, 2, 3, 4, 5, 6, 7, 8, 9, 10] rfl mixed (by kernel_rfl) trivial ?_
     refine L_pur (c := fPtr p1 1) rfl rfl .plain (fun _ _ hd => P_fieldAddr at_24_1 e3 (PT.ptr u0)) ?_
     refine L_ld (c := m4) rfl rfl .plain (fun _ _ h => h.ch) o5 rfl ?_
     refine L_pur (c := .int .i64 (j0)) rfl rfl .plain (fun _ _ hd => P_move z1) ?_
     refine L_pur (c := ePtr m4 j0 1) rfl rfl .plain (fun _ _ hd => P_indexAddr (α := Int) Try.underlying22 Try.sizeOf3 rfl i2 rfl s3) ?_
     refine L_ld (c := .int .i64 (i1)) rfl rfl .plain (fun _ _ h => h.ch) p5 rfl ?_
     refine L_pur (c := fPtr p2 1) rfl rfl .plain (fun _ _ hd => P_fieldAddr at_24_1 i3 (PT.ptr y0)) ?_
     refine L_ld (c := n4) rfl rfl .plain (fun _ _ h => h.ch) q5 rfl ?_
     refine L_pur (c := .int .i64 (j0)) rfl rfl .plain (fun _ _ hd => P_move z1) ?_
     refine L_pur (c := ePtr n4 j0 1) rfl rfl .plain (fun _ _ hd => P_indexAddr (α := Int) Try.underlying22 Try.sizeOf3 rfl j2 rfl u3) ?_
     refine L_ld (c := .int .i64 (j1)) rfl rfl .plain (fun _ _ h => h.ch) r5 rfl ?_
     refine L_pur (c := .bool ((i1 != j1))) rfl rfl .plain (fun _ _ hd => P_int rfl rfl rfl) ?_
     refine L_nil fun c6 d7 hall => ?_
     have hs := hall.1
     have hfr := hfr.ext hs
     have u0 := u0.ext hs
     have y0 := y0.ext hs
     have o3 := o3.ext hs
     have i2 := i2.ext hs
     have p3 := p3.ext hs
     have q3 := q3.ext hs
     have j2 := j2.ext hs
     have r3 := r3.ext hs
     clear hs hall
     refine EL_nil (thn_n ?_)
     rcases csome h with ⟨m2, h⟩ | ⟨m2, h⟩
     ·refine E_cond_true (Eq.trans (show ev _ _ = .bool ((i1 != j1)) from rfl) (congrArg Value.bool m2)) ?_
      refine E_seq (E_region (EL_pur (v := .bool false) (P_assign rfl) .plain rfl ?_))
      refine EL_nil (thn_n (E_ret (blk_r ?_)))
      refine thn_r ?_
      refine thn_r ?_
      refine blk_r ?_
      refine thn_r ?_
      obtain rfl := Option.some.inj h
      exact end1 rfl rfl (show _ = .bool false from rfl) ⟨_, hfr, rfl⟩
     ·refine E_cond_false (Eq.trans (show ev _ _ = .bool ((i1 != j1)) from rfl) (congrArg Value.bool m2)) ?_
      exact E_skip (blk_n (thn_n (n5 () _ _ ⟨c6, hfr, e3, u0, i3, y0, z1⟩ h)))
    ·rintro _ t6 e7 ⟨d6, hfr, o4, p4, q4, r4, s4⟩ h
     refine E_region (EL_pur (v := .int .i64 (j0)) (P_move s4) .plain rfl ?_)
     refine EL_pur (v := .int .i64 ((w64 (j0 + (1 : Int))))) (P_int rfl rfl rfl) .plain rfl ?_
     refine EL_pur (v := .int .i64 ((w64 (j0 + (1 : Int))))) (P_assign rfl) .plain rfl ?_
     exact EL_nil (thn_n (l5 ((w64 (j0 + (1 : Int)))) _ _ ⟨d6, hfr, o4, p4, q4, r4, rfl⟩ h))
  ·rintro _ u6 g7 ⟨i7, hfr⟩ h
   refine E_seq (E_region (EL_pur (v := .bool true) (P_assign rfl) .plain rfl ?_))
   refine EL_nil (thn_n (E_ret ?_))
   obtain rfl := Option.some.inj h
   exact end1 rfl rfl (show _ = .bool true from rfl) ⟨_, hfr, rfl⟩
/-- griffe/grifferef05.Damage -/
def f59 (x0 : FaultLoom) (x1 : FaultDamage) : Option (Bool) :=
 (f24 ((x1).Pick) ((0 : Int)) ((w64 (((((x0).Design).Rows).length : Int) - (1 : Int))))).bind fun y9 =>
 (f24 ((x1).Hook) ((0 : Int)) ((w64 (((x0).Design).Hooks - (1 : Int))))).bind fun m2 =>
 (f24 ((x1).Warp) ((0 : Int)) ((w64 (((((x0).Harness).Warps).length : Int) - (1 : Int))))).bind fun y23 =>
 jn (σ := Unit) (fun (_ : Unit) =>
  some (false)
  ) fun j4 =>
 bif ((x1).Kind == (1 : Int)) then
  Option.bind (α := Bool) (
   bif y9 then
    bif m2 then
     bif ((x1).Warp == (0 : Int)) then
      some ((!(x1).Up))
     else
      some (false)
    else
     some (false)
   else
    some (false)
   ) fun e3 =>
  some (e3)
 else
  bif ((x1).Kind == (2 : Int)) then
   Option.bind (α := Bool) (
    bif m2 then
     bif ((x1).Pick == (0 : Int)) then
      some (((x1).Warp == (0 : Int)))
     else
      some (false)
    else
     some (false)
    ) fun i3 =>
   some (i3)
  else
   Option.bind (α := Bool) (
    bif ((x1).Kind == (3 : Int)) then
     some (((x1).Kind == (3 : Int)))
    else
     some (((x1).Kind == (4 : Int)))
    ) fun z2 =>
   bif z2 then
    Option.bind (α := Bool) (
     bif y9 then
      bif ((x1).Hook == (0 : Int)) then
       bif ((x1).Warp == (0 : Int)) then
        some ((!(x1).Up))
       else
        some (false)
      else
       some (false)
     else
      some (false)
     ) fun j3 =>
    some (j3)
   else
    bif ((x1).Kind == (5 : Int)) then
     Option.bind (α := Bool) (
      bif y23 then
       bif ((x1).Pick == (0 : Int)) then
        bif ((x1).Hook == (0 : Int)) then
         some ((!(x1).Up))
        else
         some (false)
       else
        some (false)
      else
       some (false)
      ) fun m3 =>
     some (m3)
    else
     j4 ()
theorem en59 : Enters Try.prog 59 := enters_of Try.func59 (by kernel_rfl) rfl
theorem wk59 {gI : Gh} {wI : World} {x0 : FaultLoom} {x1 : FaultDamage} {up0 : Value} (rp0 : RV gI.m wI x0 up0) {up1 : Value} (rp1 : RV gI.m wI x1 up1) {r : Bool} (h : f59 x0 x1 = some r) : Fn Try.prog 59 #[up0, up1] gI wI (fun _ _ v => v = .bool (r)) := by
 unfold f59 at h
 refine fn_of_E Try.func59 rfl (Nat.le_of_ble_eq_true rfl) fun g0 hm hfr => ?_
 have rp0 : RV g0.m wI x0 up0 := hm ▸ rp0
 have rp1 : RV g0.m wI x1 up1 := hm ▸ rp1
 show E _ 99 none _ _ _ _ _
 refine E_seq (E_region (EL_do .plain rfl (D_box (g := g0) rfl rp0 fun g1 w1 p1 hs q1 => ?_)))
 have hfr := hfr.ext hs
 have rp0 := rp0.ext hs
 have rp1 := rp1.ext hs
 refine EL_do .plain rfl (D_box (g := g1) rfl rp1 fun g2 w2 p2 hs q2 => ?_)
 have hfr := hfr.ext hs
 have rp0 := rp0.ext hs
 have rp1 := rp1.ext hs
 have q1 := q1.ext hs
 refine EL_pur (v := .bool false) (P_assign rfl) .plain rfl ?_
 refine EL_nil (thn_n (E_seq ?_))
 have q3 := PT_field (part_FaultDamage_1).1 q2
 refine L_load (x := .tmp 8) Try.isAgg3 Try.sizeOf3 q3 fun v4 r4 s6 => ?_
 obtain rfl := RV_int.1 r4
 have q5 := PT_field (part_FaultLoom_1).1 q1
 have q6 := PT_field (part_Design_1).1 q5
 refine L_load (x := .tmp 11) Try.isAgg22 Try.sizeOf22 q6 fun v7 r7 t6 => ?_
 obtain ⟨y9, u6, h⟩ := bsome h
 have m4 := PT_field (part_FaultDamage_2).1 q2
 refine L_load (x := .tmp 16) Try.isAgg3 Try.sizeOf3 m4 fun k8 v6 e5 => ?_
 obtain rfl := RV_int.1 v6
 have d4 := PT_field (part_FaultLoom_1).1 q1
 have n4 := PT_field (part_Design_0).1 d4
 refine L_load (x := .tmp 19) Try.isAgg3 Try.sizeOf3 n4 fun l8 x6 i5 => ?_
 obtain rfl := RV_int.1 x6
 obtain ⟨m2, j5, h⟩ := bsome h
 have o4 := PT_field (part_FaultDamage_3).1 q2
 refine L_load (x := .tmp 23) Try.isAgg3 Try.sizeOf3 o4 fun m8 y6 l5 => ?_
 obtain rfl := RV_int.1 y6
 have e4 := PT_field (part_FaultLoom_0).1 q1
 have p4 := PT_field (part_TieHarness_1).1 e4
 refine L_load (x := .tmp 26) Try.isAgg22 Try.sizeOf22 p4 fun z6 q4 m5 => ?_
 obtain ⟨y23, n5, h⟩ := bsome h
 refine E_drawL (g := g2) (n := 26) [(7, (fun v g w => v = .bool (y9))), (14, (fun v g w => v = .bool (m2))), (22, (fun v g w => v = .bool (y23)))] [0, 1, 2, 3, 4, 5, 6, 7, 8, 9, 10, 11, 12, 13, 14, 15, 16, 17, 18, 19, 20, 21, 22, 23, 24, 25] rfl mixed (by kernel_rfl) (⟨fun _ => up_eq _, fun _ => up_eq _, fun _ => up_eq _, trivial⟩) ?_
 refine L_pur (c := fPtr p2 1) rfl rfl .plain (fun _ _ hd => P_fieldAddr at_62_1 rfl (PT.ptr q2)) ?_
 refine L_ld (c := .int .i64 ((x1).Pick)) rfl rfl .plain (fun _ _ h => h.ch) s6 rfl ?_
 refine L_pur (c := fPtr p1 2) rfl rfl .plain (fun _ _ hd => P_fieldAddr at_28_1 rfl (PT.ptr q1)) ?_
 refine L_pur (c := fPtr (fPtr p1 2) 1) rfl rfl .plain (fun _ _ hd => P_fieldAddr at_26_1 rfl (PT.ptr q5)) ?_
 refine L_ld (c := v7) rfl rfl .plain (fun _ _ h => h.ch) t6 rfl ?_
 refine L_pur (c := .int .i64 ((((x0).Design).Rows).length : Int)) rfl rfl .plain (fun _ _ hd => P_len Try.underlying22 rfl r7) ?_
 refine L_pur (c := .int .i64 ((w64 (((((x0).Design).Rows).length : Int) - (1 : Int))))) rfl rfl .plain (fun _ _ hd => P_int rfl rfl rfl) ?_
 refine L_do (φ := fun v g w => v = .bool (y9)) rfl rfl .plain (fun g w hd => D_call (g := g) (vs := [.int .i64 ((x1).Pick), .int .i64 (0), .int .i64 ((w64 (((((x0).Design).Rows).length : Int) - (1 : Int))))]) en24 (.cons rfl (.cons rfl (.cons rfl .nil))) (wk24  u6) fun g' w' v hs hr => ⟨g', hs, hr⟩) (fun v8 hv => ?_)
 obtain ⟨_, _, _, rfl⟩ := hv
 refine L_pur (c := fPtr p2 2) rfl rfl .plain (fun _ _ hd => P_fieldAddr at_62_2 rfl (PT.ptr q2)) ?_
 refine L_ld (c := .int .i64 ((x1).Hook)) rfl rfl .plain (fun _ _ h => h.ch) e5 rfl ?_
 refine L_pur (c := fPtr p1 2) rfl rfl .plain (fun _ _ hd => P_fieldAddr at_28_1 rfl (PT.ptr q1)) ?_
 refine L_pur (c := fPtr (fPtr p1 2) 0) rfl rfl .plain (fun _ _ hd => P_fieldAddr at_26_0 rfl (PT.ptr d4)) ?_
 refine L_ld (c := .int .i64 (((x0).Design).Hooks)) rfl rfl .plain (fun _ _ h => h.ch) i5 rfl ?_
 refine L_pur (c := .int .i64 ((w64 (((x0).Design).Hooks - (1 : Int))))) rfl rfl .plain (fun _ _ hd => P_int rfl rfl rfl) ?_
 refine L_do (φ := fun v g w => v = .bool (m2)) rfl rfl .plain (fun g w hd => D_call (g := g) (vs := [.int .i64 ((x1).Hook), .int .i64 (0), .int .i64 ((w64 (((x0).Design).Hooks - (1 : Int))))]) en24 (.cons rfl (.cons rfl (.cons rfl .nil))) (wk24  j5) fun g' w' v hs hr => ⟨g', hs, hr⟩) (fun n8 hv => ?_)
 obtain ⟨_, _, _, rfl⟩ := hv
 refine L_pur (c := fPtr p2 3) rfl rfl .plain (fun _ _ hd => P_fieldAddr at_62_3 rfl (PT.ptr q2)) ?_
 refine L_ld (c := .int .i64 ((x1).Warp)) rfl rfl .plain (fun _ _ h => h.ch) l5 rfl ?_
 refine L_pur (c := fPtr p1 0) rfl rfl .plain (fun _ _ hd => P_fieldAddr at_28_0 rfl (PT.ptr q1)) ?_
 refine L_pur (c := fPtr (fPtr p1 0) 1) rfl rfl .plain (fun _ _ hd => P_fieldAddr at_24_1 rfl (PT.ptr e4)) ?_
 refine L_ld (c := z6) rfl rfl .plain (fun _ _ h => h.ch) m5 rfl ?_
 refine L_pur (c := .int .i64 ((((x0).Harness).Warps).length : Int)) rfl rfl .plain (fun _ _ hd => P_len Try.underlying22 rfl q4) ?_
 refine L_pur (c := .int .i64 ((w64 (((((x0).Harness).Warps).length : Int) - (1 : Int))))) rfl rfl .plain (fun _ _ hd => P_int rfl rfl rfl) ?_
 refine L_do (φ := fun v g w => v = .bool (y23)) rfl rfl .plain (fun g w hd => D_call (g := g) (vs := [.int .i64 ((x1).Warp), .int .i64 (0), .int .i64 ((w64 (((((x0).Harness).Warps).length : Int) - (1 : Int))))]) en24 (.cons rfl (.cons rfl (.cons rfl .nil))) (wk24  n5) fun g' w' v hs hr => ⟨g', hs, hr⟩) (fun o8 hv => ?_)
 obtain ⟨_, _, _, rfl⟩ := hv
 refine L_pur (c := .bool (y9)) rfl rfl .plain (fun _ _ hd => P_assign rfl) ?_
 refine L_pur (c := .bool (m2)) rfl rfl .plain (fun _ _ hd => P_assign rfl) ?_
 refine L_pur (c := .bool (y23)) rfl rfl .plain (fun _ _ hd => P_assign rfl) ?_
 refine L_nil fun s2 p8 hall => ?_
 have hs := hall.1
 have hfr := hfr.ext hs
 have rp0 := rp0.ext hs
 have rp1 := rp1.ext hs
 have q1 := q1.ext hs
 have q2 := q2.ext hs
 have q3 := q3.ext hs
 have q5 := q5.ext hs
 have q6 := q6.ext hs
 have r7 := r7.ext hs
 have m4 := m4.ext hs
 have d4 := d4.ext hs
 have n4 := n4.ext hs
 have o4 := o4.ext hs
 have e4 := e4.ext hs
 have p4 := p4.ext hs
 have q4 := q4.ext hs
 clear hs hall
 refine EL_nil (thn_n (E_joinC h (fun (s : Unit) e w => ∃ (g : Gh) , Fr gI wI g w) (fun X131 j4 d5 h => ?_) ?_))
 ·refine E_seq (E_region (EL_pur (v := fPtr p2 0) (P_fieldAddr at_62_0 rfl (PT.ptr q2)) .plain rfl ?_))
  have o5 := PT_field (part_FaultDamage_0).1 q2
  refine EL_do .plain rfl (D_load (g := s2) Try.isAgg60 Try.sizeOf60 rfl o5 fun i7 p5 => ?_)
  obtain rfl := RV_int.1 p5
  refine EL_nil (thn_n (E_block ?_))
  refine E_seq (E_region (EL_pur (v := .bool (((x1).Kind == (1 : Int)))) (P_int rfl rfl rfl) .plain rfl ?_))
  refine EL_pur (v := .bool (((x1).Kind == (1 : Int)))) (P_assign rfl) .plain rfl ?_
  refine EL_nil (thn_n ?_)
  rcases csome h with ⟨r3, h⟩ | ⟨r3, h⟩
  ·refine E_cond_true (Eq.trans (show ev _ _ = .bool (((x1).Kind == (1 : Int))) from rfl) (congrArg Value.bool r3)) ?_
   obtain ⟨e3, hx, h⟩ := bsome h
   refine E_join (fun e w => ∃ (g : Gh) , Fr gI wI g w ∧ e 4 = .bool (e3)) (fun Q' hQ => ?_) (fun a7 j7 hR => ?_)
   ·replace h := hx
    clear hx
    refine E_region (EL_pur (v := .bool (y9)) (P_move rfl) .plain rfl ?_)
    refine EL_pur (v := .bool (y9)) (P_move rfl) .plain rfl ?_
    rcases csome h with ⟨o3, h⟩ | ⟨o3, h⟩
    ·refine EL_pur (v := .bool (m2)) (P_move rfl) (.yes2 rfl rfl o3) rfl ?_
     refine EL_pur (v := .bool (m2)) (P_pick (b := y9) rfl (pick_t o3 rfl)) .plain rfl ?_
     refine EL_pur (v := .bool (m2)) (P_move rfl) .plain rfl ?_
     rcases csome h with ⟨o0, h⟩ | ⟨o0, h⟩
     ·refine EL_pur (v := fPtr p2 3) (P_fieldAddr at_62_3 rfl (PT.ptr q2)) (.yes2 rfl rfl o0) rfl ?_
      have r5 := PT_field (part_FaultDamage_3).1 q2
      refine EL_do (.yes2 rfl rfl o0) rfl (D_load (g := s2) Try.isAgg3 Try.sizeOf3 rfl r5 fun l7 t5 => ?_)
      obtain rfl := RV_int.1 t5
      refine EL_pur (v := .bool (((x1).Warp == (0 : Int)))) (P_int rfl rfl rfl) (.yes2 rfl rfl o0) rfl ?_
      refine EL_pur (v := .bool (((x1).Warp == (0 : Int)))) (P_pick (b := m2) rfl (pick_t o0 rfl)) .plain rfl ?_
      refine EL_pur (v := .bool (((x1).Warp == (0 : Int)))) (P_move rfl) .plain rfl ?_
      rcases csome h with ⟨u0, h⟩ | ⟨u0, h⟩
      ·refine EL_pur (v := fPtr p2 4) (P_fieldAddr at_62_4 rfl (PT.ptr q2)) (.yes2 rfl rfl u0) rfl ?_
       have u5 := PT_field (part_FaultDamage_4).1 q2
       refine EL_do (.yes2 rfl rfl u0) rfl (D_load (g := s2) Try.isAgg4 Try.sizeOf4 rfl u5 fun m7 x5 => ?_)
       obtain rfl := RV_bool.1 x5
       refine EL_pur (v := .bool (!(x1).Up)) (P_not rfl) (.yes2 rfl rfl u0) rfl ?_
       refine EL_pur (v := .bool (!(x1).Up)) (P_pick (b := ((x1).Warp == (0 : Int))) rfl (pick_t u0 rfl)) .plain rfl ?_
       refine EL_pur (v := .bool (!(x1).Up)) (P_assign rfl) .plain rfl ?_
       refine EL_nil ?_
       obtain rfl := Option.some.inj h
       exact hQ _ _ ⟨s2, hfr, rfl⟩
      ·refine EL_skip (.no2 rfl rfl u0 rfl) rfl ?_
       refine EL_skip (.no2 rfl rfl u0 rfl) rfl ?_
       refine EL_skip (.no2 rfl rfl u0 rfl) rfl ?_
       refine EL_pur (v := .bool false) (P_pick (b := ((x1).Warp == (0 : Int))) rfl (pick_f u0 rfl)) .plain rfl ?_
       refine EL_pur (v := .bool false) (P_assign rfl) .plain rfl ?_
       refine EL_nil ?_
       obtain rfl := Option.some.inj h
       exact hQ _ _ ⟨s2, hfr, rfl⟩
     ·refine EL_skip (.no2 rfl rfl o0 rfl) rfl ?_
      refine EL_skip (.no2 rfl rfl o0 rfl) rfl ?_
      refine EL_skip (.no2 rfl rfl o0 rfl) rfl ?_
      refine EL_pur (v := .bool false) (P_pick (b := m2) rfl (pick_f o0 rfl)) .plain rfl ?_
      refine EL_dead 5 rfl ?_
      refine EL_pur (v := .bool false) (P_assign rfl) .plain rfl ?_
      refine EL_nil ?_
      obtain rfl := Option.some.inj h
      exact hQ _ _ ⟨s2, hfr, rfl⟩
    ·refine EL_skip (.no2 rfl rfl o3 rfl) rfl ?_
     refine EL_pur (v := .bool false) (P_pick (b := y9) rfl (pick_f o3 rfl)) .plain rfl ?_
     refine EL_dead 10 rfl ?_
     refine EL_pur (v := .bool false) (P_assign rfl) .plain rfl ?_
     refine EL_nil ?_
     obtain rfl := Option.some.inj h
     exact hQ _ _ ⟨s2, hfr, rfl⟩
   ·clear hx
    obtain ⟨n7, hfr, s4⟩ := hR
    refine E_ret (blk_r ?_)
    refine thn_r ?_
    obtain rfl := Option.some.inj h
    exact end1 rfl rfl (show _ = .bool (e3) from s4) ⟨_, hfr, rfl⟩
  ·refine E_cond_false (Eq.trans (show ev _ _ = .bool (((x1).Kind == (1 : Int))) from rfl) (congrArg Value.bool r3)) ?_
   refine E_seq (E_region (EL_pur (v := .bool (((x1).Kind == (2 : Int)))) (P_int rfl rfl rfl) .plain rfl ?_))
   refine EL_pur (v := .bool (((x1).Kind == (2 : Int)))) (P_assign rfl) .plain rfl ?_
   refine EL_nil (thn_n ?_)
   rcases csome h with ⟨s3, h⟩ | ⟨s3, h⟩
   ·refine E_cond_true (Eq.trans (show ev _ _ = .bool (((x1).Kind == (2 : Int))) from rfl) (congrArg Value.bool s3)) ?_
    obtain ⟨i3, hx, h⟩ := bsome h
    refine E_join (fun e w => ∃ (g : Gh) , Fr gI wI g w ∧ e 4 = .bool (i3)) (fun Q' hQ => ?_) (fun b7 o7 hR => ?_)
    ·replace h := hx
     clear hx
     refine E_region (EL_pur (v := .bool (m2)) (P_move rfl) .plain rfl ?_)
     refine EL_pur (v := .bool (m2)) (P_move rfl) .plain rfl ?_
     rcases csome h with ⟨y0, h⟩ | ⟨y0, h⟩
     ·refine EL_pur (v := fPtr p2 1) (P_fieldAddr at_62_1 rfl (PT.ptr q2)) (.yes2 rfl rfl y0) rfl ?_
      have y5 := PT_field (part_FaultDamage_1).1 q2
      refine EL_do (.yes2 rfl rfl y0) rfl (D_load (g := s2) Try.isAgg3 Try.sizeOf3 rfl y5 fun p7 z5 => ?_)
      obtain rfl := RV_int.1 z5
      refine EL_pur (v := .bool (((x1).Pick == (0 : Int)))) (P_int rfl rfl rfl) (.yes2 rfl rfl y0) rfl ?_
      refine EL_pur (v := .bool (((x1).Pick == (0 : Int)))) (P_pick (b := m2) rfl (pick_t y0 rfl)) .plain rfl ?_
      refine EL_pur (v := .bool (((x1).Pick == (0 : Int)))) (P_move rfl) .plain rfl ?_
      rcases csome h with ⟨i1, h⟩ | ⟨i1, h⟩
      ·refine EL_pur (v := fPtr p2 3) (P_fieldAddr at_62_3 rfl (PT.ptr q2)) (.yes2 rfl rfl i1) rfl ?_
       have a6 := PT_field (part_FaultDamage_3).1 q2
       refine EL_do (.yes2 rfl rfl i1) rfl (D_load (g := s2) Try.isAgg3 Try.sizeOf3 rfl a6 fun q7 b6 => ?_)
       obtain rfl := RV_int.1 b6
       refine EL_pur (v := .bool (((x1).Warp == (0 : Int)))) (P_int rfl rfl rfl) (.yes2 rfl rfl i1) rfl ?_
       refine EL_pur (v := .bool (((x1).Warp == (0 : Int)))) (P_pick (b := ((x1).Pick == (0 : Int))) rfl (pick_t i1 rfl)) .plain rfl ?_
       refine EL_pur (v := .bool (((x1).Warp == (0 : Int)))) (P_assign rfl) .plain rfl ?_
       refine EL_nil ?_
       obtain rfl := Option.some.inj h
       exact hQ _ _ ⟨s2, hfr, rfl⟩
      ·refine EL_skip (.no2 rfl rfl i1 rfl) rfl ?_
       refine EL_skip (.no2 rfl rfl i1 rfl) rfl ?_
       refine EL_skip (.no2 rfl rfl i1 rfl) rfl ?_
       refine EL_pur (v := .bool false) (P_pick (b := ((x1).Pick == (0 : Int))) rfl (pick_f i1 rfl)) .plain rfl ?_
       refine EL_pur (v := .bool false) (P_assign rfl) .plain rfl ?_
       refine EL_nil ?_
       obtain rfl := Option.some.inj h
       exact hQ _ _ ⟨s2, hfr, rfl⟩
     ·refine EL_skip (.no2 rfl rfl y0 rfl) rfl ?_
      refine EL_skip (.no2 rfl rfl y0 rfl) rfl ?_
      refine EL_skip (.no2 rfl rfl y0 rfl) rfl ?_
      refine EL_pur (v := .bool false) (P_pick (b := m2) rfl (pick_f y0 rfl)) .plain rfl ?_
      refine EL_dead 5 rfl ?_
      refine EL_pur (v := .bool false) (P_assign rfl) .plain rfl ?_
      refine EL_nil ?_
      obtain rfl := Option.some.inj h
      exact hQ _ _ ⟨s2, hfr, rfl⟩
    ·clear hx
     obtain ⟨s7, hfr, u4⟩ := hR
     refine E_ret (blk_r ?_)
     refine thn_r ?_
     obtain rfl := Option.some.inj h
     exact end1 rfl rfl (show _ = .bool (i3) from u4) ⟨_, hfr, rfl⟩
   ·refine E_cond_false (Eq.trans (show ev _ _ = .bool (((x1).Kind == (2 : Int))) from rfl) (congrArg Value.bool s3)) ?_
    obtain ⟨z2, hx, h⟩ := bsome h
    refine E_join (fun e w => ∃ (g : Gh) , Fr gI wI g w ∧ e 3 = p2 ∧ PT g.m w (x1 : FaultDamage) p2 ∧ e 5 = .bool (y9) ∧ e 7 = .bool (y23) ∧ e 32 = .int .i64 ((x1).Kind) ∧ e 62 = .bool (z2)) (fun Q' hQ => ?_) (fun c7 t7 hR => ?_)
    ·replace h := hx
     clear hx
     refine E_seq (E_region (EL_pur (v := .bool (((x1).Kind == (3 : Int)))) (P_int rfl rfl rfl) .plain rfl ?_))
     refine EL_pur (v := .bool (((x1).Kind == (3 : Int)))) (P_assign rfl) .plain rfl ?_
     refine EL_nil (thn_n ?_)
     rcases csome h with ⟨u3, h⟩ | ⟨u3, h⟩
     ·refine E_cond_true (Eq.trans (show ev _ _ = .bool (((x1).Kind == (3 : Int))) from rfl) (congrArg Value.bool u3)) ?_
      refine E_skip ?_
      obtain rfl := Option.some.inj h
      exact hQ _ _ ⟨s2, hfr, rfl, q2, rfl, rfl, rfl, rfl⟩
     ·refine E_cond_false (Eq.trans (show ev _ _ = .bool (((x1).Kind == (3 : Int))) from rfl) (congrArg Value.bool u3)) ?_
      refine E_region (EL_pur (v := .bool (((x1).Kind == (4 : Int)))) (P_int rfl rfl rfl) .plain rfl ?_)
      refine EL_pur (v := .bool (((x1).Kind == (4 : Int)))) (P_assign rfl) .plain rfl ?_
      refine EL_nil ?_
      obtain rfl := Option.some.inj h
      exact hQ _ _ ⟨s2, hfr, rfl, q2, rfl, rfl, rfl, rfl⟩
    ·clear hx
     obtain ⟨n0, hfr, d3, j0, x4, z4, i4, p3⟩ := hR
     rcases csome h with ⟨z3, h⟩ | ⟨z3, h⟩
     ·refine E_cond_true (Eq.trans (show ev _ _ = .bool (z2) from p3) (congrArg Value.bool z3)) ?_
      obtain ⟨j3, hx, h⟩ := bsome h
      refine E_join (fun e w => ∃ (g : Gh) , Fr gI wI g w ∧ e 4 = .bool (j3)) (fun Q' hQ => ?_) (fun d7 u7 hR => ?_)
      ·replace h := hx
       clear hx
       refine E_region (EL_pur (v := .bool (y9)) (P_move x4) .plain rfl ?_)
       refine EL_pur (v := .bool (y9)) (P_move rfl) .plain rfl ?_
       rcases csome h with ⟨j1, h⟩ | ⟨j1, h⟩
       ·refine EL_pur (v := fPtr p2 2) (P_fieldAddr at_62_2 d3 (PT.ptr j0)) (.yes2 rfl rfl j1) rfl ?_
        have c6 := PT_field (part_FaultDamage_2).1 j0
        refine EL_do (.yes2 rfl rfl j1) rfl (D_load (g := n0) Try.isAgg3 Try.sizeOf3 rfl c6 fun x7 d6 => ?_)
        obtain rfl := RV_int.1 d6
        refine EL_pur (v := .bool (((x1).Hook == (0 : Int)))) (P_int rfl rfl rfl) (.yes2 rfl rfl j1) rfl ?_
        refine EL_pur (v := .bool (((x1).Hook == (0 : Int)))) (P_pick (b := y9) rfl (pick_t j1 rfl)) .plain rfl ?_
        refine EL_pur (v := .bool (((x1).Hook == (0 : Int)))) (P_move rfl) .plain rfl ?_
        rcases csome h with ⟨m1, h⟩ | ⟨m1, h⟩
        ·refine EL_pur (v := fPtr p2 3) (P_fieldAddr at_62_3 d3 (PT.ptr j0)) (.yes2 rfl rfl m1) rfl ?_
         have e6 := PT_field (part_FaultDamage_3).1 j0
         refine EL_do (.yes2 rfl rfl m1) rfl (D_load (g := n0) Try.isAgg3 Try.sizeOf3 rfl e6 fun y7 i6 => ?_)
         obtain rfl := RV_int.1 i6
         refine EL_pur (v := .bool (((x1).Warp == (0 : Int)))) (P_int rfl rfl rfl) (.yes2 rfl rfl m1) rfl ?_
         refine EL_pur (v := .bool (((x1).Warp == (0 : Int)))) (P_pick (b := ((x1).Hook == (0 : Int))) rfl (pick_t m1 rfl)) .plain rfl ?_
         refine EL_pur (v := .bool (((x1).Warp == (0 : Int)))) (P_move rfl) .plain rfl ?_
         rcases csome h with ⟨z1, h⟩ | ⟨z1, h⟩
         ·refine EL_pur (v := fPtr p2 4) (P_fieldAddr at_62_4 d3 (PT.ptr j0)) (.yes2 rfl rfl z1) rfl ?_
          have j6 := PT_field (part_FaultDamage_4).1 j0
          refine EL_do (.yes2 rfl rfl z1) rfl (D_load (g := n0) Try.isAgg4 Try.sizeOf4 rfl j6 fun z7 k6 => ?_)
          obtain rfl := RV_bool.1 k6
          refine EL_pur (v := .bool (!(x1).Up)) (P_not rfl) (.yes2 rfl rfl z1) rfl ?_
          refine EL_pur (v := .bool (!(x1).Up)) (P_pick (b := ((x1).Warp == (0 : Int))) rfl (pick_t z1 rfl)) .plain rfl ?_
          refine EL_pur (v := .bool (!(x1).Up)) (P_assign rfl) .plain rfl ?_
          refine EL_nil ?_
          obtain rfl := Option.some.inj h
          exact hQ _ _ ⟨n0, hfr, rfl⟩
         ·refine EL_skip (.no2 rfl rfl z1 rfl) rfl ?_
          refine EL_skip (.no2 rfl rfl z1 rfl) rfl ?_
          refine EL_skip (.no2 rfl rfl z1 rfl) rfl ?_
          refine EL_pur (v := .bool false) (P_pick (b := ((x1).Warp == (0 : Int))) rfl (pick_f z1 rfl)) .plain rfl ?_
          refine EL_pur (v := .bool false) (P_assign rfl) .plain rfl ?_
          refine EL_nil ?_
          obtain rfl := Option.some.inj h
          exact hQ _ _ ⟨n0, hfr, rfl⟩
        ·refine EL_skip (.no2 rfl rfl m1 rfl) rfl ?_
         refine EL_skip (.no2 rfl rfl m1 rfl) rfl ?_
         refine EL_skip (.no2 rfl rfl m1 rfl) rfl ?_
         refine EL_pur (v := .bool false) (P_pick (b := ((x1).Hook == (0 : Int))) rfl (pick_f m1 rfl)) .plain rfl ?_
         refine EL_dead 5 rfl ?_
         refine EL_pur (v := .bool false) (P_assign rfl) .plain rfl ?_
         refine EL_nil ?_
         obtain rfl := Option.some.inj h
         exact hQ _ _ ⟨n0, hfr, rfl⟩
       ·refine EL_skip (.no2 rfl rfl j1 rfl) rfl ?_
        refine EL_skip (.no2 rfl rfl j1 rfl) rfl ?_
        refine EL_skip (.no2 rfl rfl j1 rfl) rfl ?_
        refine EL_pur (v := .bool false) (P_pick (b := y9) rfl (pick_f j1 rfl)) .plain rfl ?_
        refine EL_dead 10 rfl ?_
        refine EL_pur (v := .bool false) (P_assign rfl) .plain rfl ?_
        refine EL_nil ?_
        obtain rfl := Option.some.inj h
        exact hQ _ _ ⟨n0, hfr, rfl⟩
      ·clear hx
       obtain ⟨a8, hfr, b5⟩ := hR
       refine E_ret (blk_r ?_)
       refine thn_r ?_
       obtain rfl := Option.some.inj h
       exact end1 rfl rfl (show _ = .bool (j3) from b5) ⟨_, hfr, rfl⟩
     ·refine E_cond_false (Eq.trans (show ev _ _ = .bool (z2) from p3) (congrArg Value.bool z3)) ?_
      refine E_seq (E_region (EL_pur (v := .bool (((x1).Kind == (5 : Int)))) (P_int i4 rfl rfl) .plain rfl ?_))
      refine EL_pur (v := .bool (((x1).Kind == (5 : Int)))) (P_assign rfl) .plain rfl ?_
      refine EL_nil (thn_n ?_)
      rcases csome h with ⟨c4, h⟩ | ⟨c4, h⟩
      ·refine E_cond_true (Eq.trans (show ev _ _ = .bool (((x1).Kind == (5 : Int))) from rfl) (congrArg Value.bool c4)) ?_
       obtain ⟨m3, hx, h⟩ := bsome h
       refine E_join (fun e w => ∃ (g : Gh) , Fr gI wI g w ∧ e 4 = .bool (m3)) (fun Q' hQ => ?_) (fun e7 b8 hR => ?_)
       ·replace h := hx
        clear hx
        refine E_region (EL_pur (v := .bool (y23)) (P_move z4) .plain rfl ?_)
        refine EL_pur (v := .bool (y23)) (P_move rfl) .plain rfl ?_
        rcases csome h with ⟨d2, h⟩ | ⟨d2, h⟩
        ·refine EL_pur (v := fPtr p2 1) (P_fieldAddr at_62_1 d3 (PT.ptr j0)) (.yes2 rfl rfl d2) rfl ?_
         have l6 := PT_field (part_FaultDamage_1).1 j0
         refine EL_do (.yes2 rfl rfl d2) rfl (D_load (g := n0) Try.isAgg3 Try.sizeOf3 rfl l6 fun c8 m6 => ?_)
         obtain rfl := RV_int.1 m6
         refine EL_pur (v := .bool (((x1).Pick == (0 : Int)))) (P_int rfl rfl rfl) (.yes2 rfl rfl d2) rfl ?_
         refine EL_pur (v := .bool (((x1).Pick == (0 : Int)))) (P_pick (b := y23) rfl (pick_t d2 rfl)) .plain rfl ?_
         refine EL_pur (v := .bool (((x1).Pick == (0 : Int)))) (P_move rfl) .plain rfl ?_
         rcases csome h with ⟨i2, h⟩ | ⟨i2, h⟩
         ·refine EL_pur (v := fPtr p2 2) (P_fieldAddr at_62_2 d3 (PT.ptr j0)) (.yes2 rfl rfl i2) rfl ?_
          have n6 := PT_field (part_FaultDamage_2).1 j0
          refine EL_do (.yes2 rfl rfl i2) rfl (D_load (g := n0) Try.isAgg3 Try.sizeOf3 rfl n6 fun d8 o6 => ?_)
          obtain rfl := RV_int.1 o6
          refine EL_pur (v := .bool (((x1).Hook == (0 : Int)))) (P_int rfl rfl rfl) (.yes2 rfl rfl i2) rfl ?_
          refine EL_pur (v := .bool (((x1).Hook == (0 : Int)))) (P_pick (b := ((x1).Pick == (0 : Int))) rfl (pick_t i2 rfl)) .plain rfl ?_
          refine EL_pur (v := .bool (((x1).Hook == (0 : Int)))) (P_move rfl) .plain rfl ?_
          rcases csome h with ⟨j2, h⟩ | ⟨j2, h⟩
          ·refine EL_pur (v := fPtr p2 4) (P_fieldAddr at_62_4 d3 (PT.ptr j0)) (.yes2 rfl rfl j2) rfl ?_
           have p6 := PT_field (part_FaultDamage_4).1 j0
           refine EL_do (.yes2 rfl rfl j2) rfl (D_load (g := n0) Try.isAgg4 Try.sizeOf4 rfl p6 fun e8 r6 => ?_)
           obtain rfl := RV_bool.1 r6
           refine EL_pur (v := .bool (!(x1).Up)) (P_not rfl) (.yes2 rfl rfl j2) rfl ?_
           refine EL_pur (v := .bool (!(x1).Up)) (P_pick (b := ((x1).Hook == (0 : Int))) rfl (pick_t j2 rfl)) .plain rfl ?_
           refine EL_pur (v := .bool (!(x1).Up)) (P_assign rfl) .plain rfl ?_
           refine EL_nil ?_
           obtain rfl := Option.some.inj h
           exact hQ _ _ ⟨n0, hfr, rfl⟩
          ·refine EL_skip (.no2 rfl rfl j2 rfl) rfl ?_
           refine EL_skip (.no2 rfl rfl j2 rfl) rfl ?_
           refine EL_skip (.no2 rfl rfl j2 rfl) rfl ?_
           refine EL_pur (v := .bool false) (P_pick (b := ((x1).Hook == (0 : Int))) rfl (pick_f j2 rfl)) .plain rfl ?_
           refine EL_pur (v := .bool false) (P_assign rfl) .plain rfl ?_
           refine EL_nil ?_
           obtain rfl := Option.some.inj h
           exact hQ _ _ ⟨n0, hfr, rfl⟩
         ·refine EL_skip (.no2 rfl rfl i2 rfl) rfl ?_
          refine EL_skip (.no2 rfl rfl i2 rfl) rfl ?_
          refine EL_skip (.no2 rfl rfl i2 rfl) rfl ?_
          refine EL_pur (v := .bool false) (P_pick (b := ((x1).Pick == (0 : Int))) rfl (pick_f i2 rfl)) .plain rfl ?_
          refine EL_dead 5 rfl ?_
          refine EL_pur (v := .bool false) (P_assign rfl) .plain rfl ?_
          refine EL_nil ?_
          obtain rfl := Option.some.inj h
          exact hQ _ _ ⟨n0, hfr, rfl⟩
        ·refine EL_skip (.no2 rfl rfl d2 rfl) rfl ?_
         refine EL_skip (.no2 rfl rfl d2 rfl) rfl ?_
         refine EL_skip (.no2 rfl rfl d2 rfl) rfl ?_
         refine EL_pur (v := .bool false) (P_pick (b := y23) rfl (pick_f d2 rfl)) .plain rfl ?_
         refine EL_dead 10 rfl ?_
         refine EL_pur (v := .bool false) (P_assign rfl) .plain rfl ?_
         refine EL_nil ?_
         obtain rfl := Option.some.inj h
         exact hQ _ _ ⟨n0, hfr, rfl⟩
       ·clear hx
        obtain ⟨g8, hfr, c5⟩ := hR
        refine E_ret (blk_r ?_)
        refine thn_r ?_
        obtain rfl := Option.some.inj h
        exact end1 rfl rfl (show _ = .bool (m3) from c5) ⟨_, hfr, rfl⟩
      ·refine E_cond_false (Eq.trans (show ev _ _ = .bool (((x1).Kind == (5 : Int))) from rfl) (congrArg Value.bool c4)) ?_
       exact E_skip (blk_n (thn_n (d5 () _ _ ⟨n0, hfr⟩ h)))
 ·rintro _ g7 i8 ⟨j8, hfr⟩ h
  refine E_seq (E_region (EL_pur (v := .bool false) (P_assign rfl) .plain rfl ?_))
  refine EL_nil (thn_n (E_ret ?_))
  obtain rfl := Option.some.inj h
  exact end1 rfl rfl (show _ = .bool false from rfl) ⟨_, hfr, rfl⟩
/-- slices.IndexFunc[[][]int,[]int] -/
def f69 (x0 : List (List Int)) (x1 : (List Int) → Option Bool) : Option (Int) :=
 jn (σ := Unit) (fun (_ : Unit) =>
  some ((-1 : Int))
  ) fun k18 =>
 lp (σ := Int) (fun k19 j0 =>
  bif (decide (j0 < ((x0).length : Int))) then
   jn (σ := Unit) (fun (_ : Unit) =>
    k19 ((w64 (j0 + (1 : Int))))
    ) fun k28 =>
   (idx x0 j0).bind fun e3 =>
   (x1 e3).bind fun i1 =>
   bif i1 then
    some (j0)
   else
    k28 ()
  else
   k18 ()
  ) big ((0 : Int))
theorem en69 : Enters Try.prog 69 := enters_of Try.func69 (by kernel_rfl) rfl
theorem wk69 {gI : Gh} {wI : World} {x0 : List (List Int)} {x1 : (List Int) → Option Bool} {up0 : Value} (rp0 : RV gI.m wI x0 up0) {up1 : Value} (rp1 : FnV1 Try.prog x1 up1 gI wI) {r : Int} (h : f69 x0 x1 = some r) : Fn Try.prog 69 #[up0, up1] gI wI (fun _ _ v => v = .int .i64 (r)) := by
 unfold f69 at h
 refine fn_of_E Try.func69 rfl (Nat.le_of_ble_eq_true rfl) fun g0 hm hfr => ?_
 have rp0 : RV g0.m wI x0 up0 := hm ▸ rp0
 obtain ⟨ff1, fa1, fc1, rfl, fen1, fcl1⟩ := rp1
 show E _ 19 none _ _ _ _ _
 refine E_seq (E_region (EL_pur (v := .int .i64 (0)) (P_assign rfl) .plain rfl ?_))
 refine EL_nil (thn_n (E_joinC h (fun (s : Unit) e w => ∃ (g : Gh) , Fr gI wI g w) (fun X18 k18 i3 h => ?_) ?_))
 ·refine E_seq (E_region (EL_pur (v := up0) (P_move rfl) .plain rfl ?_))
  refine EL_pur (v := .int .i64 ((x0).length : Int)) (P_len Try.underlying71 rfl rp0) .plain rfl ?_
  refine EL_pur (v := .int .i64 (0)) (P_move rfl) .plain rfl ?_
  refine EL_nil (thn_n (E_block ?_))
  refine E_lp h (fun (s : Int) e w => ∃ (g : Gh) , Fr gI wI g w ∧ e 0 = up0 ∧ RV g.m w (x0 : List (List Int)) up0 ∧ e 1 = (.func (.func ff1) fa1 fc1) ∧ e 7 = .int .i64 (((x0).length : Int)) ∧ e 8 = .int .i64 (s)) ⟨g0, hfr, rfl, rp0, rfl, rfl, rfl⟩ (fun X19 k19 j3 => ?_)
  rintro j0 s3 c4 ⟨d2, hfr, j1, n0, m1, z1, o0⟩ h
  refine E_seq (E_region (EL_pur (v := .bool ((decide (j0 < ((x0).length : Int))))) (P_int o0 z1 rfl) .plain rfl ?_))
  refine EL_nil (thn_n (E_seq ?_))
  rcases csome h with ⟨u0, h⟩ | ⟨u0, h⟩
  ·refine E_cond_true (Eq.trans (show ev _ _ = .bool ((decide (j0 < ((x0).length : Int)))) from rfl) (congrArg Value.bool u0)) ?_
   refine E_skip (thn_n (E_joinC h (fun (s : Unit) e w => ∃ (g : Gh) , Fr gI wI g w ∧ e 0 = up0 ∧ RV g.m w (x0 : List (List Int)) up0 ∧ e 1 = (.func (.func ff1) fa1 fc1) ∧ e 7 = .int .i64 (((x0).length : Int)) ∧ e 8 = .int .i64 (j0)) (fun X28 k28 m3 h => ?_) ?_))
   ·refine E_block ?_
    refine E_seq (E_region (EL_pur (v := .int .i64 (j0)) (P_move o0) .plain rfl ?_))
    refine EL_pur (v := .int .i64 (j0)) (P_assign rfl) .plain rfl ?_
    refine EL_nil (thn_n (E_seq (E_region (EL_pur (v := (.func (.func ff1) fa1 fc1)) (P_move m1) .plain rfl ?_))))
    refine EL_pur (v := up0) (P_move j1) .plain rfl ?_
    refine EL_pur (v := .int .i64 (j0)) (P_move rfl) .plain rfl ?_
    obtain ⟨e3, i2, h⟩ := bsome h
    refine EL_pur (v := ePtr up0 j0 1) (P_indexAddr (α := List Int) Try.underlying71 Try.sizeOf22 rfl n0 rfl i2) .plain rfl ?_
    have j2 := PT_idx n0 i2
    refine EL_do .plain rfl (D_load (g := d2) Try.isAgg22 Try.sizeOf22 rfl j2 fun p3 m2 => ?_)
    obtain ⟨i1, o3, h⟩ := bsome h
    refine EL_do .plain rfl (D_callv (g := d2) (vs := [p3]) rfl fen1 (.cons rfl .nil) (fcl1 _ _ hfr.ch _ _ _  m2 o3) fun q3 d4 e4 hs hr => ?_)
    have hfr := hfr.ext hs
    have n0 := n0.ext hs
    have j2 := j2.ext hs
    have m2 := m2.ext hs
    obtain rfl := RV_bool.1 hr
    refine EL_nil (thn_n ?_)
    rcases csome h with ⟨y0, h⟩ | ⟨y0, h⟩
    ·refine E_cond_true (Eq.trans (show ev _ _ = .bool (i1) from rfl) (congrArg Value.bool y0)) ?_
     refine E_seq (E_region (EL_pur (v := .int .i64 (j0)) (P_move rfl) .plain rfl ?_))
     refine EL_pur (v := .int .i64 (j0)) (P_assign rfl) .plain rfl ?_
     refine EL_nil (thn_n (E_ret (blk_r ?_)))
     refine thn_r ?_
     refine thn_r ?_
     refine blk_r ?_
     refine thn_r ?_
     obtain rfl := Option.some.inj h
     exact end1 rfl rfl (show _ = .int .i64 (j0) from rfl) ⟨_, hfr, rfl⟩
    ·refine E_cond_false (Eq.trans (show ev _ _ = .bool (i1) from rfl) (congrArg Value.bool y0)) ?_
     exact E_skip (blk_n (thn_n (m3 () _ _ ⟨q3, hfr, j1, n0, m1, z1, o0⟩ h)))
   ·rintro _ u3 i4 ⟨r3, hfr, p2, q2, s2, z2, d3⟩ h
    refine E_region (EL_pur (v := .int .i64 ((w64 (j0 + (1 : Int))))) (P_int d3 rfl rfl) .plain rfl ?_)
    refine EL_pur (v := .int .i64 ((w64 (j0 + (1 : Int))))) (P_move rfl) .plain rfl ?_
    exact EL_nil (thn_n (j3 ((w64 (j0 + (1 : Int)))) _ _ ⟨r3, hfr, p2, q2, s2, z2, rfl⟩ h))
  ·refine E_cond_false (Eq.trans (show ev _ _ = .bool ((decide (j0 < ((x0).length : Int)))) from rfl) (congrArg Value.bool u0)) ?_
   refine E_exit ?_
   refine thn_e ?_
   refine thn_e ?_
   refine blk_hit ?_
   exact thn_n (i3 () _ _ ⟨d2, hfr⟩ h)
 ·rintro _ z3 j4 ⟨m4, hfr⟩ h
  refine E_seq (E_region (EL_pur (v := .int .i64 (-1)) (P_assign rfl) .plain rfl ?_))
  refine EL_nil (thn_n (E_ret ?_))
  obtain rfl := Option.some.inj h
  exact end1 rfl rfl (show _ = .int .i64 (-1) from rfl) ⟨_, hfr, rfl⟩
/-- slices.Equal[[]string,string] -/
def f71 (x0 : List Str) (x1 : List Str) : Option (Bool) :=
 jn (σ := Unit) (fun (_ : Unit) =>
  jn (σ := Unit) (fun (_ : Unit) =>
   some (true)
   ) fun p3 =>
  lp (σ := Int) (fun q3 j0 =>
   bif (decide (j0 < ((x0).length : Int))) then
    jn (σ := Unit) (fun (_ : Unit) =>
     q3 ((w64 (j0 + (1 : Int))))
     ) fun r3 =>
    (idx x0 j0).bind fun y0 =>
    (idx x1 j0).bind fun i1 =>
    bif (!((y0).b == (i1).b)) then
     some (false)
    else
     r3 ()
   else
    p3 ()
   ) big ((0 : Int))
  ) fun k2 =>
 bif (((x0).length : Int) != ((x1).length : Int)) then
  some (false)
 else
  k2 ()
theorem en71 : Enters Try.prog 71 := enters_of Try.func71 (by kernel_rfl) rfl
theorem wk71 {gI : Gh} {wI : World} {x0 : List Str} {x1 : List Str} {up0 : Value} (rp0 : RV gI.m wI x0 up0) {up1 : Value} (rp1 : RV gI.m wI x1 up1) {r : Bool} (h : f71 x0 x1 = some r) : Fn Try.prog 71 #[up0, up1] gI wI (fun _ _ v => v = .bool (r)) := by
 unfold f71 at h
 refine fn_of_E Try.func71 rfl (Nat.le_of_ble_eq_true rfl) fun g0 hm hfr => ?_
 have rp0 : RV g0.m wI x0 up0 := hm ▸ rp0
 have rp1 : RV g0.m wI x1 up1 := hm ▸ rp1
 show E _ 26 none _ _ _ _ _
 refine E_seq (E_region (EL_pur (v := .bool false) (P_assign rfl) .plain rfl ?_))
 refine EL_nil (thn_n (E_joinC h (fun (s : Unit) e w => ∃ (g : Gh) , Fr gI wI g w ∧ e 0 = up0 ∧ RV g.m w (x0 : List Str) up0 ∧ e 1 = up1 ∧ RV g.m w (x1 : List Str) up1) (fun X2 k2 hk2 h => ?_) ?_))
 ·refine E_seq (E_region (EL_pur (v := up0) (P_move rfl) .plain rfl ?_))
  refine EL_pur (v := .int .i64 ((x0).length : Int)) (P_len Try.underlying36 rfl rp0) .plain rfl ?_
  refine EL_pur (v := up1) (P_move rfl) .plain rfl ?_
  refine EL_pur (v := .int .i64 ((x1).length : Int)) (P_len Try.underlying36 rfl rp1) .plain rfl ?_
  refine EL_pur (v := .bool ((((x0).length : Int) != ((x1).length : Int)))) (P_int rfl rfl rfl) .plain rfl ?_
  refine EL_nil (thn_n ?_)
  rcases csome h with ⟨hc3, h⟩ | ⟨hc3, h⟩
  ·refine E_cond_true (Eq.trans (show ev _ _ = .bool ((((x0).length : Int) != ((x1).length : Int))) from rfl) (congrArg Value.bool hc3)) ?_
   refine E_seq (E_region (EL_pur (v := .bool false) (P_assign rfl) .plain rfl ?_))
   refine EL_nil (thn_n (E_ret (thn_r ?_)))
   obtain rfl := Option.some.inj h
   exact end1 rfl rfl (show _ = .bool false from rfl) ⟨_, hfr, rfl⟩
  ·refine E_cond_false (Eq.trans (show ev _ _ = .bool ((((x0).length : Int) != ((x1).length : Int))) from rfl) (congrArg Value.bool hc3)) ?_
   exact E_skip (thn_n (hk2 () _ _ ⟨g0, hfr, rfl, rp0, rfl, rp1⟩ h))
 ·rintro _ b5 w4 ⟨g4, hfr, p2, q2, u3, z3⟩ h
  refine E_joinC h (fun (s : Unit) e w => ∃ (g : Gh) , Fr gI wI g w) (fun X58 p3 c4 h => ?_) ?_
  ·refine E_seq (E_region (EL_pur (v := up0) (P_move p2) .plain rfl ?_))
   refine EL_pur (v := .int .i64 ((x0).length : Int)) (P_len Try.underlying36 rfl q2) .plain rfl ?_
   refine EL_pur (v := .int .i64 (0)) (P_move rfl) .plain rfl ?_
   refine EL_nil (thn_n (E_block ?_))
   refine E_lp h (fun (s : Int) e w => ∃ (g : Gh) , Fr gI wI g w ∧ e 0 = up0 ∧ RV g.m w (x0 : List Str) up0 ∧ e 1 = up1 ∧ RV g.m w (x1 : List Str) up1 ∧ e 12 = .int .i64 (((x0).length : Int)) ∧ e 13 = .int .i64 (s)) ⟨g4, hfr, p2, q2, u3, z3, rfl, rfl⟩ (fun X59 q3 d4 => ?_)
   rintro j0 s4 c5 ⟨s3, hfr, d2, n0, i2, o0, m1, u0⟩ h
   refine E_seq (E_region (EL_pur (v := .bool ((decide (j0 < ((x0).length : Int))))) (P_int u0 m1 rfl) .plain rfl ?_))
   refine EL_nil (thn_n (E_seq ?_))
   rcases csome h with ⟨z1, h⟩ | ⟨z1, h⟩
   ·refine E_cond_true (Eq.trans (show ev _ _ = .bool ((decide (j0 < ((x0).length : Int)))) from rfl) (congrArg Value.bool z1)) ?_
    refine E_skip (thn_n (E_joinC h (fun (s : Unit) e w => ∃ (g : Gh) , Fr gI wI g w ∧ e 0 = up0 ∧ RV g.m w (x0 : List Str) up0 ∧ e 1 = up1 ∧ RV g.m w (x1 : List Str) up1 ∧ e 12 = .int .i64 (((x0).length : Int)) ∧ e 13 = .int .i64 (j0)) (fun X86 r3 e4 h => ?_) ?_))
    ·refine E_block ?_
     refine E_seq (E_region (EL_pur (v := .int .i64 (j0)) (P_move u0) .plain rfl ?_))
     refine EL_pur (v := .int .i64 (j0)) (P_assign rfl) .plain rfl ?_
     refine EL_nil (thn_n (E_seq ?_))
     obtain ⟨y0, s2, h⟩ := bsome h
     have z2 := PT_idx n0 s2
     refine L_load (x := .tmp 18) Try.isAgg9 Try.sizeOf9 z2 fun d5 n4 i4 => ?_
     obtain rfl := RV_str.1 n4
     obtain ⟨i1, d3, h⟩ := bsome h
     have e3 := PT_idx o0 d3
     refine L_load (x := .tmp 22) Try.isAgg9 Try.sizeOf9 e3 fun e5 o4 j4 => ?_
     obtain rfl := RV_str.1 o4
     refine E_drawL (g := s3) (n := 9) [] [0, 1, 2, 3, 4, 5, 6, 7, 8] rfl mixed (by kernel_rfl) trivial ?_
     refine L_pur (c := up0) rfl rfl .plain (fun _ _ hd => P_move d2) ?_
     refine L_pur (c := .int .i64 (j0)) rfl rfl .plain (fun _ _ hd => P_move rfl) ?_
     refine L_pur (c := ePtr up0 j0 1) rfl rfl .plain (fun _ _ hd => P_indexAddr (α := Str) Try.underlying36 Try.sizeOf9 rfl n0 rfl s2) ?_
     refine L_ld (c := Str.v (y0)) rfl rfl .plain (fun _ _ h => h.ch) i4 rfl ?_
     refine L_pur (c := up1) rfl rfl .plain (fun _ _ hd => P_move i2) ?_
     refine L_pur (c := .int .i64 (j0)) rfl rfl .plain (fun _ _ hd => P_move rfl) ?_
     refine L_pur (c := ePtr up1 j0 1) rfl rfl .plain (fun _ _ hd => P_indexAddr (α := Str) Try.underlying36 Try.sizeOf9 rfl o0 rfl d3) ?_
     refine L_ld (c := Str.v (i1)) rfl rfl .plain (fun _ _ h => h.ch) j4 rfl ?_
     refine L_pur (c := .bool ((!((y0).b == (i1).b)))) rfl rfl .plain (fun _ _ hd => P_str rfl rfl rfl) ?_
     refine L_nil fun p4 i5 hall => ?_
     have hs := hall.1
     have hfr := hfr.ext hs
     have n0 := n0.ext hs
     have o0 := o0.ext hs
     have z2 := z2.ext hs
     have e3 := e3.ext hs
     clear hs hall
     refine EL_nil (thn_n ?_)
     rcases csome h with ⟨j1, h⟩ | ⟨j1, h⟩
     ·refine E_cond_true (Eq.trans (show ev _ _ = .bool ((!((y0).b == (i1).b))) from rfl) (congrArg Value.bool j1)) ?_
      refine E_seq (E_region (EL_pur (v := .bool false) (P_assign rfl) .plain rfl ?_))
      refine EL_nil (thn_n (E_ret (blk_r ?_)))
      refine thn_r ?_
      refine thn_r ?_
      refine blk_r ?_
      refine thn_r ?_
      obtain rfl := Option.some.inj h
      exact end1 rfl rfl (show _ = .bool false from rfl) ⟨_, hfr, rfl⟩
     ·refine E_cond_false (Eq.trans (show ev _ _ = .bool ((!((y0).b == (i1).b))) from rfl) (congrArg Value.bool j1)) ?_
      exact E_skip (blk_n (thn_n (e4 () _ _ ⟨p4, hfr, d2, n0, i2, o0, m1, u0⟩ h)))
    ·rintro _ q4 u4 ⟨m4, hfr, i3, j3, m3, o3, j2, m2⟩ h
     refine E_region (EL_pur (v := .int .i64 ((w64 (j0 + (1 : Int))))) (P_int m2 rfl rfl) .plain rfl ?_)
     refine EL_pur (v := .int .i64 ((w64 (j0 + (1 : Int))))) (P_move rfl) .plain rfl ?_
     exact EL_nil (thn_n (d4 ((w64 (j0 + (1 : Int)))) _ _ ⟨m4, hfr, i3, j3, m3, o3, j2, rfl⟩ h))
   ·refine E_cond_false (Eq.trans (show ev _ _ = .bool ((decide (j0 < ((x0).length : Int)))) from rfl) (congrArg Value.bool z1)) ?_
    refine E_exit ?_
    refine thn_e ?_
    refine thn_e ?_
    refine blk_hit ?_
    exact thn_n (c4 () _ _ ⟨s3, hfr⟩ h)
  ·rintro _ r4 x4 ⟨z4, hfr⟩ h
   refine E_seq (E_region (EL_pur (v := .bool true) (P_assign rfl) .plain rfl ?_))
   refine EL_nil (thn_n (E_ret ?_))
   obtain rfl := Option.some.inj h
   exact end1 rfl rfl (show _ = .bool true from rfl) ⟨_, hfr, rfl⟩
/-- slices.IndexFunc[[]griffe/api.FaultDamage,griffe/api.FaultDamage] -/
def f75 (x0 : List FaultDamage) (x1 : FaultDamage → Option Bool) : Option (Int) :=
 jn (σ := Unit) (fun (_ : Unit) =>
  some ((-1 : Int))
  ) fun k18 =>
 lp (σ := Int) (fun k19 j0 =>
  bif (decide (j0 < ((x0).length : Int))) then
   jn (σ := Unit) (fun (_ : Unit) =>
    k19 ((w64 (j0 + (1 : Int))))
    ) fun k28 =>
   (idx x0 j0).bind fun e3 =>
   (x1 e3).bind fun i1 =>
   bif i1 then
    some (j0)
   else
    k28 ()
  else
   k18 ()
  ) big ((0 : Int))
theorem en75 : Enters Try.prog 75 := enters_of Try.func75 (by kernel_rfl) rfl
theorem wk75 {gI : Gh} {wI : World} {x0 : List FaultDamage} {x1 : FaultDamage → Option Bool} {up0 : Value} (rp0 : RV gI.m wI x0 up0) {up1 : Value} (rp1 : FnV1 Try.prog x1 up1 gI wI) {r : Int} (h : f75 x0 x1 = some r) : Fn Try.prog 75 #[up0, up1] gI wI (fun _ _ v => v = .int .i64 (r)) := by
 unfold f75 at h
 refine fn_of_E Try.func75 rfl (Nat.le_of_ble_eq_true rfl) fun g0 hm hfr => ?_
 have rp0 : RV g0.m wI x0 up0 := hm ▸ rp0
 obtain ⟨ff1, fa1, fc1, rfl, fen1, fcl1⟩ := rp1
 show E _ 19 none _ _ _ _ _
 refine E_seq (E_region (EL_pur (v := .int .i64 (0)) (P_assign rfl) .plain rfl ?_))
 refine EL_nil (thn_n (E_joinC h (fun (s : Unit) e w => ∃ (g : Gh) , Fr gI wI g w) (fun X18 k18 i3 h => ?_) ?_))
 ·refine E_seq (E_region (EL_pur (v := up0) (P_move rfl) .plain rfl ?_))
  refine EL_pur (v := .int .i64 ((x0).length : Int)) (P_len Try.underlying29 rfl rp0) .plain rfl ?_
  refine EL_pur (v := .int .i64 (0)) (P_move rfl) .plain rfl ?_
  refine EL_nil (thn_n (E_block ?_))
  refine E_lp h (fun (s : Int) e w => ∃ (g : Gh) , Fr gI wI g w ∧ e 0 = up0 ∧ RV g.m w (x0 : List FaultDamage) up0 ∧ e 1 = (.func (.func ff1) fa1 fc1) ∧ e 7 = .int .i64 (((x0).length : Int)) ∧ e 8 = .int .i64 (s)) ⟨g0, hfr, rfl, rp0, rfl, rfl, rfl⟩ (fun X19 k19 j3 => ?_)
  rintro j0 s3 c4 ⟨d2, hfr, j1, n0, m1, z1, o0⟩ h
  refine E_seq (E_region (EL_pur (v := .bool ((decide (j0 < ((x0).length : Int))))) (P_int o0 z1 rfl) .plain rfl ?_))
  refine EL_nil (thn_n (E_seq ?_))
  rcases csome h with ⟨u0, h⟩ | ⟨u0, h⟩
  ·refine E_cond_true (Eq.trans (show ev _ _ = .bool ((decide (j0 < ((x0).length : Int)))) from rfl) (congrArg Value.bool u0)) ?_
   refine E_skip (thn_n (E_joinC h (fun (s : Unit) e w => ∃ (g : Gh) , Fr gI wI g w ∧ e 0 = up0 ∧ RV g.m w (x0 : List FaultDamage) up0 ∧ e 1 = (.func (.func ff1) fa1 fc1) ∧ e 7 = .int .i64 (((x0).length : Int)) ∧ e 8 = .int .i64 (j0)) (fun X28 k28 m3 h => ?_) ?_))
   ·refine E_block ?_
    refine E_seq (E_region (EL_pur (v := .int .i64 (j0)) (P_move o0) .plain rfl ?_))
    refine EL_pur (v := .int .i64 (j0)) (P_assign rfl) .plain rfl ?_
    refine EL_nil (thn_n (E_seq (E_region (EL_pur (v := (.func (.func ff1) fa1 fc1)) (P_move m1) .plain rfl ?_))))
    refine EL_pur (v := up0) (P_move j1) .plain rfl ?_
    refine EL_pur (v := .int .i64 (j0)) (P_move rfl) .plain rfl ?_
    obtain ⟨e3, i2, h⟩ := bsome h
    refine EL_pur (v := ePtr up0 j0 5) (P_indexAddr (α := FaultDamage) Try.underlying29 Try.sizeOf62 rfl n0 rfl i2) .plain rfl ?_
    have j2 := PT_idx n0 i2
    refine EL_do .plain rfl (D_load (g := d2) Try.isAgg62 Try.sizeOf62 rfl j2 fun p3 m2 => ?_)
    obtain ⟨i1, o3, h⟩ := bsome h
    refine EL_do .plain rfl (D_callv (g := d2) (vs := [p3]) rfl fen1 (.cons rfl .nil) (fcl1 _ _ hfr.ch _ _ _  m2 o3) fun q3 d4 e4 hs hr => ?_)
    have hfr := hfr.ext hs
    have n0 := n0.ext hs
    have j2 := j2.ext hs
    have m2 := m2.ext hs
    obtain rfl := RV_bool.1 hr
    refine EL_nil (thn_n ?_)
    rcases csome h with ⟨y0, h⟩ | ⟨y0, h⟩
    ·refine E_cond_true (Eq.trans (show ev _ _ = .bool (i1) from rfl) (congrArg Value.bool y0)) ?_
     refine E_seq (E_region (EL_pur (v := .int .i64 (j0)) (P_move rfl) .plain rfl ?_))
     refine EL_pur (v := .int .i64 (j0)) (P_assign rfl) .plain rfl ?_
     refine EL_nil (thn_n (E_ret (blk_r ?_)))
     refine thn_r ?_
     refine thn_r ?_
     refine blk_r ?_
     refine thn_r ?_
     obtain rfl := Option.some.inj h
     exact end1 rfl rfl (show _ = .int .i64 (j0) from rfl) ⟨_, hfr, rfl⟩
    ·refine E_cond_false (Eq.trans (show ev _ _ = .bool (i1) from rfl) (congrArg Value.bool y0)) ?_
     exact E_skip (blk_n (thn_n (m3 () _ _ ⟨q3, hfr, j1, n0, m1, z1, o0⟩ h)))
   ·rintro _ u3 i4 ⟨r3, hfr, p2, q2, s2, z2, d3⟩ h
    refine E_region (EL_pur (v := .int .i64 ((w64 (j0 + (1 : Int))))) (P_int d3 rfl rfl) .plain rfl ?_)
    refine EL_pur (v := .int .i64 ((w64 (j0 + (1 : Int))))) (P_move rfl) .plain rfl ?_
    exact EL_nil (thn_n (j3 ((w64 (j0 + (1 : Int)))) _ _ ⟨r3, hfr, p2, q2, s2, z2, rfl⟩ h))
  ·refine E_cond_false (Eq.trans (show ev _ _ = .bool ((decide (j0 < ((x0).length : Int)))) from rfl) (congrArg Value.bool u0)) ?_
   refine E_exit ?_
   refine thn_e ?_
   refine thn_e ?_
   refine blk_hit ?_
   exact thn_n (i3 () _ _ ⟨d2, hfr⟩ h)
 ·rintro _ z3 j4 ⟨m4, hfr⟩ h
  refine E_seq (E_region (EL_pur (v := .int .i64 (-1)) (P_assign rfl) .plain rfl ?_))
  refine EL_nil (thn_n (E_ret ?_))
  obtain rfl := Option.some.inj h
  exact end1 rfl rfl (show _ = .int .i64 (-1) from rfl) ⟨_, hfr, rfl⟩
/-- griffe/fault.turn -/
def f80 (x0 : Int) : Option (Int) :=
 jn (σ := Unit) (fun (_ : Unit) =>
  some ((0 : Int))
  ) fun k3 =>
 bif (x0 == (2 : Int)) then
  some ((1 : Int))
 else
  bif (x0 == (5 : Int)) then
   some ((2 : Int))
  else
   k3 ()
theorem en80 : Enters Try.prog 80 := enters_of Try.func80 (by kernel_rfl) rfl
theorem wk80 {gI : Gh} {wI : World} {x0 : Int}  {r : Int} (h : f80 x0 = some r) : Fn Try.prog 80 #[.int .i64 (x0)] gI wI (fun _ _ v => v = .int .i64 (r)) := by
 unfold f80 at h
 refine fn_of_E Try.func80 rfl (Nat.le_of_ble_eq_true rfl) fun g0 hm hfr => ?_
 show E _ 8 none _ _ _ _ _
 refine E_seq (E_region (EL_pur (v := .int .i64 (0)) (P_assign rfl) .plain rfl ?_))
 refine EL_nil (thn_n (E_joinC h (fun (s : Unit) e w => ∃ (g : Gh) , Fr gI wI g w) (fun X3 k3 hk3 h => ?_) ?_))
 ·refine E_seq (E_region (EL_pur (v := .int .i64 (x0)) (P_move rfl) .plain rfl ?_))
  refine EL_nil (thn_n (E_block ?_))
  refine E_seq (E_region (EL_pur (v := .bool ((x0 == (2 : Int)))) (P_int rfl rfl rfl) .plain rfl ?_))
  refine EL_pur (v := .bool ((x0 == (2 : Int)))) (P_assign rfl) .plain rfl ?_
  refine EL_nil (thn_n ?_)
  rcases csome h with ⟨j0, h⟩ | ⟨j0, h⟩
  ·refine E_cond_true (Eq.trans (show ev _ _ = .bool ((x0 == (2 : Int))) from rfl) (congrArg Value.bool j0)) ?_
   refine E_seq (E_region (EL_pur (v := .int .i64 (1)) (P_assign rfl) .plain rfl ?_))
   refine EL_nil (thn_n (E_ret (blk_r ?_)))
   refine thn_r ?_
   obtain rfl := Option.some.inj h
   exact end1 rfl rfl (show _ = .int .i64 (1) from rfl) ⟨_, hfr, rfl⟩
  ·refine E_cond_false (Eq.trans (show ev _ _ = .bool ((x0 == (2 : Int))) from rfl) (congrArg Value.bool j0)) ?_
   refine E_seq (E_region (EL_pur (v := .bool ((x0 == (5 : Int)))) (P_int rfl rfl rfl) .plain rfl ?_))
   refine EL_pur (v := .bool ((x0 == (5 : Int)))) (P_assign rfl) .plain rfl ?_
   refine EL_nil (thn_n ?_)
   rcases csome h with ⟨n0, h⟩ | ⟨n0, h⟩
   ·refine E_cond_true (Eq.trans (show ev _ _ = .bool ((x0 == (5 : Int))) from rfl) (congrArg Value.bool n0)) ?_
    refine E_seq (E_region (EL_pur (v := .int .i64 (2)) (P_assign rfl) .plain rfl ?_))
    refine EL_nil (thn_n (E_ret (blk_r ?_)))
    refine thn_r ?_
    obtain rfl := Option.some.inj h
    exact end1 rfl rfl (show _ = .int .i64 (2) from rfl) ⟨_, hfr, rfl⟩
   ·refine E_cond_false (Eq.trans (show ev _ _ = .bool ((x0 == (5 : Int))) from rfl) (congrArg Value.bool n0)) ?_
    exact E_skip (blk_n (thn_n (hk3 () _ _ ⟨g0, hfr⟩ h)))
 ·rintro _ o0 w6 ⟨g6, hfr⟩ h
  refine E_seq (E_region (EL_pur (v := .int .i64 (0)) (P_assign rfl) .plain rfl ?_))
  refine EL_nil (thn_n (E_ret ?_))
  obtain rfl := Option.some.inj h
  exact end1 rfl rfl (show _ = .int .i64 (0) from rfl) ⟨_, hfr, rfl⟩
/-- griffe/fault.differ$1 -/
def f83 (z0 : List Str) (z1 : List Str) (σ : Type) (cons : Cons σ (Int × Int)) (s0 : σ) : Option σ :=
 lp (σ := σ × Int) (fun k2 (m4, n0) =>
  bif (decide (n0 < ((z0).length : Int))) then
   jn (σ := σ) (fun j3 =>
    k2 (j3, (w64 (n0 + (1 : Int))))
    ) fun d5 =>
   (idx z0 n0).bind fun i1 =>
   lp (σ := σ × Nat) (fun e5 (j2, j0) =>
    bif (decide (j0 < (i1).b.length)) then
     Option.bind (α := σ × Bool) (
      (idx (i1).b ((j0 : Nat) : Int)).bind fun j1 =>
      (idx z1 n0).bind fun u3 =>
      (idx (u3).b ((j0 : Nat) : Int)).bind fun m1 =>
      bif (j1 != m1) then
       (cons j2 (n0, ((j0 : Nat) : Int))).bind fun (i3, q4) =>
       some (q4, (!i3))
      else
       some (j2, false)
      ) fun (m2, d2) =>
     bif d2 then
      some m2
     else
      e5 (m2, (j0 + (dec i1 j0).2))
    else
     d5 (j2)
    ) big (m4, 0)
  else
   some m4
  ) big (s0, (0 : Int))
theorem en83 : Enters Try.prog 83 := enters_of Try.func83 (by kernel_rfl) rfl
theorem wk83 {σ : Type} {cons : Cons σ (Int × Int)} {s0 r : σ} {gI : Gh} {wI : World} {z0 : List Str} {z1 : List Str} {pf0 : Value} (qf0 : PT gI.m wI z0 pf0) {pf1 : Value} (qf1 : PT gI.m wI z1 pf1) (h : f83 z0 z1 σ cons s0 = some r) : IterC Try.prog (RA2 (α := Int) (β := Int)) 83 #[] #[pf0, pf1] gI wI cons s0 r := by
 unfold f83 at h
 refine iter_of_E Try.func83 rfl (Nat.le_of_ble_eq_true rfl) fun l B J g0 hm hAb hRo hfr => ?_
 have qf0 : PT g0.m wI z0 pf0 := hm ▸ qf0
 have qf1 : PT g0.m wI z1 pf1 := hm ▸ qf1
 show E _ 37 none _ _ (envAt #[.func (.yield l) #[] #[], pf0, pf1]) _ _
 refine E_seq (E_region (EL_do .plain rfl (D_load (g := g0) Try.isAgg36 Try.sizeOf36 rfl qf0 fun v1 r1 => ?_)))
 refine EL_pur (v := .int .i64 ((z0).length : Int)) (P_len Try.underlying36 rfl r1) .plain rfl ?_
 refine EL_pur (v := .int .i64 (0)) (P_move rfl) .plain rfl ?_
 refine EL_nil (thn_n (E_block ?_))
 refine E_lp h (fun (s : σ × Int) e w => ∃ (g : Gh) , FrY gI wI B J (s.1) g w ∧ e 0 = (.func (.yield l) #[] #[]) ∧ e 2 = pf1 ∧ PT g.m w (z1 : List Str) pf1 ∧ e 7 = v1 ∧ RV g.m w (z0 : List Str) v1 ∧ e 8 = .int .i64 (((z0).length : Int)) ∧ e 9 = .int .i64 (s.2)) ⟨g0, hfr, rfl, rfl, qf1, rfl, r1, rfl, rfl⟩ (fun X2 k2 hk2 => ?_)
 rintro ⟨m4, n0⟩ o7 w3 ⟨g3, hfr, m6, n6, n4, i5, m3, j5, z3⟩ h
 refine E_seq (E_region (EL_pur (v := .bool ((decide (n0 < ((z0).length : Int))))) (P_int z3 j5 rfl) .plain rfl ?_))
 refine EL_nil (thn_n (E_seq ?_))
 rcases csome h with ⟨l5, h⟩ | ⟨l5, h⟩
 ·refine E_cond_true (Eq.trans (show ev _ _ = .bool ((decide (n0 < ((z0).length : Int)))) from rfl) (congrArg Value.bool l5)) ?_
  refine E_skip (thn_n (E_joinC h (fun (s : σ) e w => ∃ (g : Gh) , FrY gI wI B J (s) g w ∧ e 0 = (.func (.yield l) #[] #[]) ∧ e 2 = pf1 ∧ PT g.m w (z1 : List Str) pf1 ∧ e 7 = v1 ∧ RV g.m w (z0 : List Str) v1 ∧ e 8 = .int .i64 (((z0).length : Int)) ∧ e 9 = .int .i64 (n0)) (fun X144 d5 j6 h => ?_) ?_))
  ·refine E_block ?_
   refine E_seq (E_region (EL_pur (v := .int .i64 (n0)) (P_move z3) .plain rfl ?_))
   obtain ⟨i1, r4, h⟩ := bsome h
   refine EL_pur (v := ePtr v1 n0 1) (P_indexAddr (α := Str) Try.underlying36 Try.sizeOf9 i5 m3 z3 r4) .plain rfl ?_
   have o4 := PT_idx m3 r4
   refine EL_do .plain rfl (D_load (g := g3) Try.isAgg9 Try.sizeOf9 rfl o4 fun b7 o6 => ?_)
   obtain rfl := RV_str.1 o6
   refine EL_pur (v := .int .i64 (n0)) (P_assign rfl) .plain rfl ?_
   refine EL_pur (v := Str.v (i1)) (P_assign rfl) .plain rfl ?_
   refine EL_nil (thn_n (E_seq (E_region (EL_pur (v := Str.v (i1)) (P_move rfl) .plain rfl ?_))))
   refine EL_do .plain rfl (D_rangeS (g := g3) (s := i1) 7015 Try.underlying9 rfl fun p6 c7 c4 hs b148 => ?_)
   have hfr := hfr.stp_ hAb hs rfl
   have n4 := n4.stp hs
   have m3 := m3.stp hs
   have o4 := o4.stp hs
   refine EL_nil (thn_n (E_block ?_))
   refine E_lp h (fun (s : σ × Nat) e w => ∃ (g : Gh) , FrY gI wI B J (s.1) g w ∧ e 0 = (.func (.yield l) #[] #[]) ∧ e 2 = pf1 ∧ PT g.m w (z1 : List Str) pf1 ∧ e 4 = .int .i64 (n0) ∧ e 5 = Str.v (i1) ∧ e 7 = v1 ∧ RV g.m w (z0 : List Str) v1 ∧ e 8 = .int .i64 (((z0).length : Int)) ∧ e 9 = .int .i64 (n0) ∧ e 15 = c4 ∧ SI 7015 g w (i1) (s.2) c4) ⟨p6, hfr, m6, n6, n4, rfl, rfl, i5, m3, j5, z3, rfl, b148⟩ (fun X149 e5 k6 => ?_)
   rintro ⟨j2, j0⟩ y6 d7 ⟨p4, hfr, d3, p2, o0, q2, e3, o3, u0, p3, q3, s2, r3⟩ h
   refine E_seq (E_region ?_)
   rcases csome h with ⟨d4, h⟩ | ⟨d4, h⟩
   ·refine EL_do .plain rfl (D_nextS_t (g := p4) s2 r3 d4 fun m5 e7 hs b151 => ?_)
    have hfr := hfr.stp_ hAb hs rfl
    have o0 := o0.stp hs
    have u0 := u0.stp hs
    refine EL_pur (v := .bool true) (P_extract rfl rfl) .plain rfl ?_
    refine EL_nil (thn_n (E_seq (E_cond_true (by rw [show ev _ _ = _ from rfl]; exact congrArg Value.bool rfl) ?_)))
    refine E_skip (thn_n (E_block ?_))
    refine E_seq (E_region (EL_pur (v := .int .i64 ((j0 : Nat) : Int)) (P_extract rfl rfl) .plain rfl ?_))
    refine EL_pur (v := .int .i64 ((j0 : Nat) : Int)) (P_assign rfl) .plain rfl ?_
    refine EL_nil (thn_n ?_)
    obtain ⟨⟨m2, d2⟩, hx, h⟩ := bsome h
    refine E_join (fun e w => ∃ (g : Gh) , FrY gI wI B J (m2) g w ∧ e 0 = (.func (.yield l) #[] #[]) ∧ e 2 = pf1 ∧ PT g.m w (z1 : List Str) pf1 ∧ e 4 = .int .i64 (n0) ∧ e 5 = Str.v (i1) ∧ e 7 = v1 ∧ RV g.m w (z0 : List Str) v1 ∧ e 8 = .int .i64 (((z0).length : Int)) ∧ e 9 = .int .i64 (n0) ∧ e 15 = c4 ∧ SI 7015 g w (i1) ((j0 + (dec i1 j0).2)) c4 ∧ e 35 = .bool (d2)) (fun Q' hQ => ?_) (fun z6 g7 hR => ?_)
    ·replace h := hx
     clear hx
     obtain ⟨j1, s4, h⟩ := bsome h
     refine L_load (x := .tmp 2) Try.isAgg36 Try.sizeOf36 o0 fun e4 i2 u4 => ?_
     obtain ⟨u3, i4, h⟩ := bsome h
     have z2 := PT_idx i2 i4
     refine L_load (x := .tmp 24) Try.isAgg9 Try.sizeOf9 z2 fun i7 q6 x4 => ?_
     obtain rfl := RV_str.1 q6
     obtain ⟨m1, z4, h⟩ := bsome h
     rcases csome h with ⟨y0, h⟩ | ⟨y0, h⟩
     ·refine E_drawL (g := m5) (n := 14) [] [0, 1, 2, 3, 4, 5, 6, 7, 8, 9, 10, 11, 12, 13] rfl mixed (by kernel_rfl) trivial ?_
      refine L_pur (c := Str.v (i1)) rfl rfl .plain (fun _ _ hd => P_move e3) ?_
      refine L_pur (c := .int .i64 ((j0 : Nat) : Int)) rfl rfl .plain (fun _ _ hd => P_move rfl) ?_
      refine L_pur (c := .int .u8 (UInt8.toNat (j1))) rfl rfl .plain (fun _ _ hd => P_indexS Try.underlying9 rfl rfl s4) ?_
      refine L_ld (c := e4) rfl rfl .plain (fun _ _ h => h.ch) u4 p2 ?_
      refine L_pur (c := .int .i64 (n0)) rfl rfl .plain (fun _ _ hd => P_move q2) ?_
      refine L_pur (c := ePtr e4 n0 1) rfl rfl .plain (fun _ _ hd => P_indexAddr (α := Str) Try.underlying36 Try.sizeOf9 rfl i2 rfl i4) ?_
      refine L_ld (c := Str.v (u3)) rfl rfl .plain (fun _ _ h => h.ch) x4 rfl ?_
      refine L_pur (c := .int .i64 ((j0 : Nat) : Int)) rfl rfl .plain (fun _ _ hd => P_move rfl) ?_
      refine L_pur (c := .int .u8 (UInt8.toNat (m1))) rfl rfl .plain (fun _ _ hd => P_indexS Try.underlying9 rfl rfl z4) ?_
      refine L_pur (c := .bool ((j1 != m1))) rfl rfl .plain (fun _ _ hd => P_u8 rfl rfl rfl) ?_
      refine L_pur (c := .bool ((j1 != m1))) rfl rfl .plain (fun _ _ hd => P_move rfl) ?_
      refine L_pur (c := (.func (.yield l) #[] #[])) rfl rfl (.yes2 rfl rfl y0) (fun _ _ hd => P_move d3) ?_
      refine L_pur (c := .int .i64 (n0)) rfl rfl (.yes2 rfl rfl y0) (fun _ _ hd => P_move q2) ?_
      refine L_pur (c := .int .i64 ((j0 : Nat) : Int)) rfl rfl (.yes2 rfl rfl y0) (fun _ _ hd => P_move rfl) ?_
      refine L_nil fun r6 j7 hall => ?_
      have hs := hall.1
      have hfr := hfr.ext_ hAb hs
      have o0 := o0.ext hs
      have u0 := u0.ext hs
      have b151 := b151.ext hs
      have i2 := i2.ext hs
      have z2 := z2.ext hs
      clear hs hall
      obtain ⟨s6, l6, h⟩ := bsome h
      obtain ⟨i3, q4⟩ := s6
      refine EL_do (.yes2 rfl rfl y0) rfl (D_yield (g := r6) (x := (n0, ((j0 : Nat) : Int))) rfl (.cons rfl (.cons rfl .nil)) hRo hfr l6 ⟨_, _, rfl, (RV_int.2 rfl), (RV_int.2 rfl)⟩ fun t6 l7 hs hfrY => ?_)
      have o0 := o0.stp hs
      have u0 := u0.stp hs
      have b151 := b151.stp hs rfl
      have i2 := i2.stp hs
      have z2 := z2.stp hs
      have hfr := hfrY
      clear hfrY
      refine EL_pur (v := .bool (!i3)) (P_not rfl) (.yes2 rfl rfl y0) rfl ?_
      refine EL_pur (v := .bool (!i3)) (P_pick (b := (j1 != m1)) rfl (pick_t y0 rfl)) .plain rfl ?_
      refine EL_nil ?_
      obtain ⟨rfl, rfl⟩ := pairs2 h
      exact hQ _ _ ⟨t6, hfr, d3, p2, o0, q2, e3, o3, u0, p3, q3, s2, b151, rfl⟩
     ·refine E_drawL (g := m5) (n := 14) [] [0, 1, 2, 3, 4, 5, 6, 7, 8, 9, 10, 11, 12, 13] rfl mixed (by kernel_rfl) trivial ?_
      refine L_pur (c := Str.v (i1)) rfl rfl .plain (fun _ _ hd => P_move e3) ?_
      refine L_pur (c := .int .i64 ((j0 : Nat) : Int)) rfl rfl .plain (fun _ _ hd => P_move rfl) ?_
      refine L_pur (c := .int .u8 (UInt8.toNat (j1))) rfl rfl .plain (fun _ _ hd => P_indexS Try.underlying9 rfl rfl s4) ?_
      refine L_ld (c := e4) rfl rfl .plain (fun _ _ h => h.ch) u4 p2 ?_
      refine L_pur (c := .int .i64 (n0)) rfl rfl .plain (fun _ _ hd => P_move q2) ?_
      refine L_pur (c := ePtr e4 n0 1) rfl rfl .plain (fun _ _ hd => P_indexAddr (α := Str) Try.underlying36 Try.sizeOf9 rfl i2 rfl i4) ?_
      refine L_ld (c := Str.v (u3)) rfl rfl .plain (fun _ _ h => h.ch) x4 rfl ?_
      refine L_pur (c := .int .i64 ((j0 : Nat) : Int)) rfl rfl .plain (fun _ _ hd => P_move rfl) ?_
      refine L_pur (c := .int .u8 (UInt8.toNat (m1))) rfl rfl .plain (fun _ _ hd => P_indexS Try.underlying9 rfl rfl z4) ?_
      refine L_pur (c := .bool ((j1 != m1))) rfl rfl .plain (fun _ _ hd => P_u8 rfl rfl rfl) ?_
      refine L_pur (c := .bool ((j1 != m1))) rfl rfl .plain (fun _ _ hd => P_move rfl) ?_
      refine L_skip rfl (.no2 rfl rfl y0 rfl) ?_
      refine L_skip rfl (.no2 rfl rfl y0 rfl) ?_
      refine L_skip rfl (.no2 rfl rfl y0 rfl) ?_
      refine L_nil fun u6 m7 hall => ?_
      have hs := hall.1
      have hfr := hfr.ext_ hAb hs
      have o0 := o0.ext hs
      have u0 := u0.ext hs
      have b151 := b151.ext hs
      have i2 := i2.ext hs
      have z2 := z2.ext hs
      clear hs hall
      refine EL_skip (.no2 rfl rfl y0 rfl) rfl ?_
      refine EL_skip (.no2 rfl rfl y0 rfl) rfl ?_
      refine EL_pur (v := .bool false) (P_pick (b := (j1 != m1)) rfl (pick_f y0 rfl)) .plain rfl ?_
      refine EL_nil ?_
      obtain ⟨rfl, rfl⟩ := pairs2 h
      exact hQ _ _ ⟨u6, hfr, d3, p2, o0, q2, e3, o3, u0, p3, q3, s2, b151, rfl⟩
    ·clear hx
     obtain ⟨v6, hfr, n5, o5, p5, q5, r5, t5, u5, x5, y5, b5, c5, s3⟩ := hR
     rcases csome h with ⟨j4, h⟩ | ⟨j4, h⟩
     ·refine E_cond_true (Eq.trans (show ev _ _ = .bool (d2) from s3) (congrArg Value.bool j4)) ?_
      refine E_ret (blk_r ?_)
      refine thn_r ?_
      refine blk_r ?_
      refine blk_r ?_
      refine thn_r ?_
      refine thn_r ?_
      refine blk_r ?_
      obtain rfl := Option.some.inj h
      exact end0 rfl rfl (FrY.done hfr)
     ·refine E_cond_false (Eq.trans (show ev _ _ = .bool (d2) from s3) (congrArg Value.bool j4)) ?_
      exact E_skip (blk_n (thn_n (k6 (m2, (j0 + (dec i1 j0).2)) _ _ ⟨v6, hfr, n5, o5, p5, q5, r5, t5, u5, x5, y5, b5, c5⟩ h)))
   ·refine EL_do .plain rfl (D_nextS_f (g := p4) s2 r3 d4 ?_)
    refine EL_pur (v := .bool false) (P_extract rfl rfl) .plain rfl ?_
    refine EL_nil (thn_n (E_seq (E_cond_false (by rw [show ev _ _ = _ from rfl]; exact congrArg Value.bool rfl) ?_)))
    refine E_exit ?_
    refine thn_e ?_
    refine thn_e ?_
    refine blk_hit ?_
    exact blk_n (thn_n (j6 (j2) _ _ ⟨p4, hfr, d3, p2, o0, o3, u0, p3, q3⟩ h))
  ·rintro j3 a7 n7 ⟨x6, hfr, z5, a6, b6, c6, d6, e6, i6⟩ h
   refine E_region (EL_pur (v := .int .i64 ((w64 (n0 + (1 : Int))))) (P_int i6 rfl rfl) .plain rfl ?_)
   refine EL_pur (v := .int .i64 ((w64 (n0 + (1 : Int))))) (P_move rfl) .plain rfl ?_
   exact EL_nil (thn_n (hk2 (j3, (w64 (n0 + (1 : Int)))) _ _ ⟨x6, hfr, z5, a6, b6, c6, d6, e6, rfl⟩ h))
 ·refine E_cond_false (Eq.trans (show ev _ _ = .bool ((decide (n0 < ((z0).length : Int)))) from rfl) (congrArg Value.bool l5)) ?_
  refine E_exit ?_
  refine thn_e ?_
  refine thn_e ?_
  refine blk_hit ?_
  obtain rfl := Option.some.inj h
  exact end0n rfl rfl (FrY.done hfr)
/-- griffe/grifferef01.Like -/
def f84 (x0 : Design) (x1 : Design) : Option (Bool) :=
 Option.bind (α := Bool) (
  bif ((x0).Hooks == (x1).Hooks) then
   some (((((x0).Rows).length : Int) == (((x1).Rows).length : Int)))
  else
   some (false)
  ) fun n0 =>
 some (n0)
theorem en84 : Enters Try.prog 84 := enters_of Try.func84 (by kernel_rfl) rfl
theorem wk84 {gI : Gh} {wI : World} {x0 : Design} {x1 : Design} {up0 : Value} (rp0 : RV gI.m wI x0 up0) {up1 : Value} (rp1 : RV gI.m wI x1 up1) {r : Bool} (h : f84 x0 x1 = some r) : Fn Try.prog 84 #[up0, up1] gI wI (fun _ _ v => v = .bool (r)) := by
 unfold f84 at h
 refine fn_of_E Try.func84 rfl (Nat.le_of_ble_eq_true rfl) fun g0 hm hfr => ?_
 have rp0 : RV g0.m wI x0 up0 := hm ▸ rp0
 have rp1 : RV g0.m wI x1 up1 := hm ▸ rp1
 show E _ 19 none _ _ _ _ _
 refine E_seq (E_region (EL_do .plain rfl (D_box (g := g0) rfl rp0 fun g1 w1 p1 hs q1 => ?_)))
 have hfr := hfr.ext hs
 have rp0 := rp0.ext hs
 have rp1 := rp1.ext hs
 refine EL_do .plain rfl (D_box (g := g1) rfl rp1 fun g2 w2 p2 hs q2 => ?_)
 have hfr := hfr.ext hs
 have rp0 := rp0.ext hs
 have rp1 := rp1.ext hs
 have q1 := q1.ext hs
 refine EL_pur (v := .bool false) (P_assign rfl) .plain rfl ?_
 refine EL_nil (thn_n ?_)
 obtain ⟨n0, hx, h⟩ := bsome h
 refine E_join (fun e w => ∃ (g : Gh) , Fr gI wI g w ∧ e 4 = .bool (n0)) (fun Q' hQ => ?_) (fun j2 m2 hR => ?_)
 ·replace h := hx
  clear hx
  refine E_region (EL_pur (v := fPtr p1 0) (P_fieldAddr at_26_0 rfl (PT.ptr q1)) .plain rfl ?_)
  have u0 := PT_field (part_Design_0).1 q1
  refine EL_do .plain rfl (D_load (g := g2) Try.isAgg3 Try.sizeOf3 rfl u0 fun s2 y0 => ?_)
  obtain rfl := RV_int.1 y0
  refine EL_pur (v := fPtr p2 0) (P_fieldAddr at_26_0 rfl (PT.ptr q2)) .plain rfl ?_
  have i1 := PT_field (part_Design_0).1 q2
  refine EL_do .plain rfl (D_load (g := g2) Try.isAgg3 Try.sizeOf3 rfl i1 fun z2 j1 => ?_)
  obtain rfl := RV_int.1 j1
  refine EL_pur (v := .bool (((x0).Hooks == (x1).Hooks))) (P_int rfl rfl rfl) .plain rfl ?_
  refine EL_pur (v := .bool (((x0).Hooks == (x1).Hooks))) (P_move rfl) .plain rfl ?_
  rcases csome h with ⟨j0, h⟩ | ⟨j0, h⟩
  ·refine EL_pur (v := fPtr p1 1) (P_fieldAddr at_26_1 rfl (PT.ptr q1)) (.yes2 rfl rfl j0) rfl ?_
   have m1 := PT_field (part_Design_1).1 q1
   refine EL_do (.yes2 rfl rfl j0) rfl (D_load (g := g2) Try.isAgg22 Try.sizeOf22 rfl m1 fun d3 z1 => ?_)
   refine EL_pur (v := .int .i64 (((x0).Rows).length : Int)) (P_len Try.underlying22 rfl z1) (.yes2 rfl rfl j0) rfl ?_
   refine EL_pur (v := fPtr p2 1) (P_fieldAddr at_26_1 rfl (PT.ptr q2)) (.yes2 rfl rfl j0) rfl ?_
   have d2 := PT_field (part_Design_1).1 q2
   refine EL_do (.yes2 rfl rfl j0) rfl (D_load (g := g2) Try.isAgg22 Try.sizeOf22 rfl d2 fun e3 i2 => ?_)
   refine EL_pur (v := .int .i64 (((x1).Rows).length : Int)) (P_len Try.underlying22 rfl i2) (.yes2 rfl rfl j0) rfl ?_
   refine EL_pur (v := .bool (((((x0).Rows).length : Int) == (((x1).Rows).length : Int)))) (P_int rfl rfl rfl) (.yes2 rfl rfl j0) rfl ?_
   refine EL_pur (v := .bool (((((x0).Rows).length : Int) == (((x1).Rows).length : Int)))) (P_pick (b := ((x0).Hooks == (x1).Hooks)) rfl (pick_t j0 rfl)) .plain rfl ?_
   refine EL_pur (v := .bool (((((x0).Rows).length : Int) == (((x1).Rows).length : Int)))) (P_assign rfl) .plain rfl ?_
   refine EL_nil ?_
   obtain rfl := Option.some.inj h
   exact hQ _ _ ⟨g2, hfr, rfl⟩
  ·refine EL_skip (.no2 rfl rfl j0 rfl) rfl ?_
   refine EL_skip (.no2 rfl rfl j0 rfl) rfl ?_
   refine EL_skip (.no2 rfl rfl j0 rfl) rfl ?_
   refine EL_skip (.no2 rfl rfl j0 rfl) rfl ?_
   refine EL_skip (.no2 rfl rfl j0 rfl) rfl ?_
   refine EL_skip (.no2 rfl rfl j0 rfl) rfl ?_
   refine EL_skip (.no2 rfl rfl j0 rfl) rfl ?_
   refine EL_pur (v := .bool false) (P_pick (b := ((x0).Hooks == (x1).Hooks)) rfl (pick_f j0 rfl)) .plain rfl ?_
   refine EL_pur (v := .bool false) (P_assign rfl) .plain rfl ?_
   refine EL_nil ?_
   obtain rfl := Option.some.inj h
   exact hQ _ _ ⟨g2, hfr, rfl⟩
 ·clear hx
  obtain ⟨i3, hfr, o0⟩ := hR
  refine E_ret ?_
  obtain rfl := Option.some.inj h
  exact end1 rfl rfl (show _ = .bool (n0) from o0) ⟨_, hfr, rfl⟩
/-- griffe/grifferef01.Reverse -/
def f86 (x0 : List Bool) : Option ((List Bool)) :=
 Option.bind (α := (List Bool)) (
  lp (σ := (List Bool) × Int) (fun i4 (o0, j0) =>
   jn (σ := Unit) (fun (_ : Unit) =>
    Option.bind (α := (List Bool)) (
     (idx x0 j0).bind fun j2 =>
     (apnd 1 o0 (([j2] : List Bool))).bind fun j4 =>
     some (j4)
     ) fun u0 =>
    i4 (u0, (w64 (j0 - (1 : Int))))
    ) fun m4 =>
   bif (decide (j0 ≥ (0 : Int))) then
    m4 ()
   else
    some (o0)
   ) big (([] : List Bool), (w64 (((x0).length : Int) - (1 : Int))))
  ) fun j1 =>
 some (j1)
theorem en86 : Enters Try.prog 86 := enters_of Try.func86 (by kernel_rfl) rfl
theorem wk86 {gI : Gh} {wI : World} {x0 : List Bool} {up0 : Value} (rp0 : RV gI.m wI x0 up0) {r : (List Bool)} (h : f86 x0 = some r) : Fn Try.prog 86 #[up0] gI wI (fun m w v => RV m w (r) v) := by
 unfold f86 at h
 refine fn_of_E Try.func86 rfl (Nat.le_of_ble_eq_true rfl) fun g0 hm hfr => ?_
 have rp0 : RV g0.m wI x0 up0 := hm ▸ rp0
 show E _ 21 none _ _ _ _ _
 refine E_seq (E_region (EL_pur (v := .slice none 0 0) (P_assign rfl) .plain rfl ?_))
 refine EL_nil (thn_n (E_seq (E_region (EL_do .plain rfl (D_buildSlice (g := g0) 3005 (xs := ([] : List Bool)) (vs := []) Try.underlying110 Try.sizeOf4 Try.zeroValue4 rfl rfl .nil RVs.nil rfl rfl fun g1 w1 v1 hs o1 r1 hxt hfl => ?_)))))
 have hfr := hfr.stp hs
 have rp0 := rp0.stp hs
 refine EL_pur (v := v1) (P_assign rfl) .plain rfl ?_
 refine EL_nil (thn_n ?_)
 obtain ⟨j1, hx, h⟩ := bsome h
 refine E_join (fun e w => ∃ (g : Gh) (v3 : Value), Fr gI wI g w ∧ e 3 = v3 ∧ RV g.m w (j1 : List Bool) v3 ∧ OS 3005 g w 4 (j1 : List Bool) v3) (fun Q' hQ => ?_) (fun e5 m5 hR => ?_)
 ·replace h := hx
  clear hx
  refine E_seq (E_region (EL_pur (v := up0) (P_move rfl) .plain rfl ?_))
  refine EL_pur (v := .int .i64 ((x0).length : Int)) (P_len Try.underlying110 rfl rp0) .plain rfl ?_
  refine EL_pur (v := .int .i64 ((w64 (((x0).length : Int) - (1 : Int))))) (P_int rfl rfl rfl) .plain rfl ?_
  refine EL_pur (v := .int .i64 ((w64 (((x0).length : Int) - (1 : Int))))) (P_assign rfl) .plain rfl ?_
  refine EL_nil (thn_n (E_block ?_))
  refine E_lp h (fun (s : (List Bool) × Int) e w => ∃ (g : Gh) (v3 : Value), Fr gI wI g w ∧ e 0 = up0 ∧ RV g.m w (x0 : List Bool) up0 ∧ e 3 = v3 ∧ RV g.m w (s.1 : List Bool) v3 ∧ OS 3005 g w 4 (s.1 : List Bool) v3 ∧ e 4 = .int .i64 (s.2)) ⟨g1, (v1), hfr, rfl, rp0, rfl, r1, o1, rfl⟩ (fun X21 i4 q4 => ?_)
  rintro ⟨o0, j0⟩ i5 n5 ⟨n4, y0, hfr, j3, m3, m2, p2, q2, s2⟩ h
  refine E_joinC h (fun (s : Unit) e w => ∃ (g : Gh) , Fr gI wI g w ∧ e 0 = up0 ∧ RV g.m w (x0 : List Bool) up0 ∧ e 3 = y0 ∧ RV g.m w (o0 : List Bool) y0 ∧ OS 3005 g w 4 (o0 : List Bool) y0 ∧ e 4 = .int .i64 (j0)) (fun X24 m4 r4 h => ?_) ?_
  ·refine E_seq (E_region (EL_pur (v := .int .i64 (j0)) (P_move s2) .plain rfl ?_))
   refine EL_pur (v := .bool ((decide (j0 ≥ (0 : Int))))) (P_int rfl rfl rfl) .plain rfl ?_
   refine EL_nil (thn_n ?_)
   rcases csome h with ⟨i2, h⟩ | ⟨i2, h⟩
   ·refine E_cond_true (Eq.trans (show ev _ _ = .bool ((decide (j0 ≥ (0 : Int)))) from rfl) (congrArg Value.bool i2)) ?_
    exact E_skip (thn_n (r4 () _ _ ⟨n4, hfr, j3, m3, m2, p2, q2, s2⟩ h))
   ·refine E_cond_false (Eq.trans (show ev _ _ = .bool ((decide (j0 ≥ (0 : Int)))) from rfl) (congrArg Value.bool i2)) ?_
    refine E_exit ?_
    refine thn_e ?_
    refine thn_e ?_
    refine blk_hit ?_
    obtain rfl := Option.some.inj h
    exact hQ _ _ ⟨n4, (y0), hfr, m2, p2, q2⟩
  ·rintro _ j5 o5 ⟨o4, hfr, z2, n0, o3, i1, m1, d3⟩ h
   obtain ⟨u0, hx, h⟩ := bsome h
   refine E_join (fun e w => ∃ (g : Gh) (v3 : Value), Fr gI wI g w ∧ e 0 = up0 ∧ RV g.m w (x0 : List Bool) up0 ∧ e 3 = v3 ∧ RV g.m w (u0 : List Bool) v3 ∧ OS 3005 g w 4 (u0 : List Bool) v3 ∧ e 4 = .int .i64 (j0)) (fun Q' hQ => ?_) (fun l5 p5 hR => ?_)
   ·replace h := hx
    clear hx
    refine E_block ?_
    refine E_region (EL_pur (v := y0) (P_move o3) .plain rfl ?_)
    refine EL_pur (v := up0) (P_move z2) .plain rfl ?_
    refine EL_pur (v := .int .i64 (j0)) (P_move d3) .plain rfl ?_
    obtain ⟨j2, e3, h⟩ := bsome h
    refine EL_pur (v := ePtr up0 j0 1) (P_indexAddr (α := Bool) Try.underlying110 Try.sizeOf4 rfl n0 rfl e3) .plain rfl ?_
    have d2 := PT_idx n0 e3
    refine EL_do .plain rfl (D_load (g := o4) Try.isAgg4 Try.sizeOf4 rfl d2 fun q5 u4 => ?_)
    obtain rfl := RV_bool.1 u4
    refine EL_do .plain rfl (D_buildSlice (g := o4) 3018 (xs := ([j2] : List Bool)) (vs := [.bool (j2)]) Try.underlying110 Try.sizeOf4 Try.zeroValue4 rfl rfl (.cons rfl .nil) (RVs.cons (RV_bool.2 rfl) RVs.nil) rfl rfl fun x4 r5 t5 hs o36 i3 hxt hfl => ?_)
    have hfr := hfr.stp hs
    have n0 := n0.stp hs
    have i1 := i1.stp hs
    have m1 := m1.stp hs rfl
    have d2 := d2.stp hs
    obtain ⟨j4, s4, h⟩ := bsome h
    refine EL_do .plain rfl (D_append (g := x4) (i := 3005) Try.underlying110 info_4 rfl rfl m1 i1 rfl i3 s4 fun z4 u5 p4 hs o37 b5 _ => ?_)
    have hfr := hfr.stp hs
    have n0 := n0.stp hs
    have i1 := i1.stp hs
    have d2 := d2.stp hs
    have i3 := i3.stp hs
    have o36 := o36.stp hs rfl
    refine EL_pur (v := p4) (P_assign rfl) .plain rfl ?_
    refine EL_nil (blk_n ?_)
    obtain rfl := Option.some.inj h
    exact hQ _ _ ⟨z4, (p4), hfr, z2, n0, rfl, b5, o37, d3⟩
   ·clear hx
    obtain ⟨c5, p3, hfr, q3, r3, s3, u3, z3, c4⟩ := hR
    refine E_region (EL_pur (v := .int .i64 (j0)) (P_move c4) .plain rfl ?_)
    refine EL_pur (v := .int .i64 ((w64 (j0 - (1 : Int))))) (P_int rfl rfl rfl) .plain rfl ?_
    refine EL_pur (v := .int .i64 ((w64 (j0 - (1 : Int))))) (P_assign rfl) .plain rfl ?_
    exact EL_nil (thn_n (q4 (u0, (w64 (j0 - (1 : Int)))) _ _ ⟨c5, (p3), hfr, q3, r3, s3, u3, z3, rfl⟩ h))
 ·clear hx
  obtain ⟨x5, z1, hfr, d4, e4, d5⟩ := hR
  refine E_seq (E_region (EL_pur (v := z1) (P_move d4) .plain rfl ?_))
  refine EL_pur (v := z1) (P_assign rfl) .plain rfl ?_
  refine EL_nil (thn_n (E_ret ?_))
  obtain rfl := Option.some.inj h
  exact end1 rfl rfl (show _ = z1 from rfl) ⟨_, hfr, e4⟩
/-- griffe/fault.within$1 -/
def f88 (x0 : Int) (z0 : Int) (z1 : Int) : Option (Bool) :=
 Option.bind (α := Bool) (
  bif (decide (x0 < z0)) then
   some (true)
  else
   some ((decide (x0 > z1)))
  ) fun n0 =>
 some (n0)
theorem en88 : Enters Try.prog 88 := enters_of Try.func88 (by kernel_rfl) rfl
theorem wk88 {gI : Gh} {wI : World} {x0 : Int} {z0 : Int} {z1 : Int} {pf0 : Value} (qf0 : PT gI.m wI z0 pf0) {pf1 : Value} (qf1 : PT gI.m wI z1 pf1) {r : Bool} (h : f88 x0 z0 z1 = some r) : Fn Try.prog 88 #[.int .i64 (x0), pf0, pf1] gI wI (fun _ _ v => v = .bool (r)) := by
 unfold f88 at h
 refine fn_of_E Try.func88 rfl (Nat.le_of_ble_eq_true rfl) fun g0 hm hfr => ?_
 have qf0 : PT g0.m wI z0 pf0 := hm ▸ qf0
 have qf1 : PT g0.m wI z1 pf1 := hm ▸ qf1
 show E _ 13 none _ _ _ _ _
 refine E_seq (E_region (EL_pur (v := .bool false) (P_assign rfl) .plain rfl ?_))
 refine EL_nil (thn_n ?_)
 obtain ⟨n0, hx, h⟩ := bsome h
 refine E_join (fun e w => ∃ (g : Gh) , Fr gI wI g w ∧ e 4 = .bool (n0)) (fun Q' hQ => ?_) (fun u0 w7 hR => ?_)
 ·replace h := hx
  clear hx
  refine E_region (EL_pur (v := .int .i64 (x0)) (P_move rfl) .plain rfl ?_)
  refine EL_do .plain rfl (D_load (g := g0) Try.isAgg3 Try.sizeOf3 rfl qf0 fun v4 r4 => ?_)
  obtain rfl := RV_int.1 r4
  refine EL_pur (v := .bool ((decide (x0 < z0)))) (P_int rfl rfl rfl) .plain rfl ?_
  refine EL_pur (v := .bool ((decide (x0 < z0)))) (P_move rfl) .plain rfl ?_
  rcases csome h with ⟨j0, h⟩ | ⟨j0, h⟩
  ·refine EL_skip (.no2 rfl rfl j0 rfl) rfl ?_
   refine EL_skip (.no2 rfl rfl j0 rfl) rfl ?_
   refine EL_skip (.no2 rfl rfl j0 rfl) rfl ?_
   refine EL_pur (v := .bool true) (P_pick (b := (decide (x0 < z0))) rfl (pick_t j0 rfl)) .plain rfl ?_
   refine EL_pur (v := .bool true) (P_assign rfl) .plain rfl ?_
   refine EL_nil ?_
   obtain rfl := Option.some.inj h
   exact hQ _ _ ⟨g0, hfr, rfl⟩
  ·refine EL_pur (v := .int .i64 (x0)) (P_move rfl) (.yes2 rfl rfl j0) rfl ?_
   refine EL_do (.yes2 rfl rfl j0) rfl (D_load (g := g0) Try.isAgg3 Try.sizeOf3 rfl qf1 fun v6 r6 => ?_)
   obtain rfl := RV_int.1 r6
   refine EL_pur (v := .bool ((decide (x0 > z1)))) (P_int rfl rfl rfl) (.yes2 rfl rfl j0) rfl ?_
   refine EL_pur (v := .bool ((decide (x0 > z1)))) (P_pick (b := (decide (x0 < z0))) rfl (pick_f j0 rfl)) .plain rfl ?_
   refine EL_pur (v := .bool ((decide (x0 > z1)))) (P_assign rfl) .plain rfl ?_
   refine EL_nil ?_
   obtain rfl := Option.some.inj h
   exact hQ _ _ ⟨g0, hfr, rfl⟩
 ·clear hx
  obtain ⟨g7, hfr, o0⟩ := hR
  refine E_ret ?_
  obtain rfl := Option.some.inj h
  exact end1 rfl rfl (show _ = .bool (n0) from o0) ⟨_, hfr, rfl⟩
/-- slices.IndexFunc[[]griffe/api.FaultSight,griffe/api.FaultSight] -/
def f89 (x0 : List FaultSight) (x1 : FaultSight → Option Bool) : Option (Int) :=
 jn (σ := Unit) (fun (_ : Unit) =>
  some ((-1 : Int))
  ) fun k18 =>
 lp (σ := Int) (fun k19 j0 =>
  bif (decide (j0 < ((x0).length : Int))) then
   jn (σ := Unit) (fun (_ : Unit) =>
    k19 ((w64 (j0 + (1 : Int))))
    ) fun k28 =>
   (idx x0 j0).bind fun e3 =>
   (x1 e3).bind fun i1 =>
   bif i1 then
    some (j0)
   else
    k28 ()
  else
   k18 ()
  ) big ((0 : Int))
theorem en89 : Enters Try.prog 89 := enters_of Try.func89 (by kernel_rfl) rfl
theorem wk89 {gI : Gh} {wI : World} {x0 : List FaultSight} {x1 : FaultSight → Option Bool} {up0 : Value} (rp0 : RV gI.m wI x0 up0) {up1 : Value} (rp1 : FnV1 Try.prog x1 up1 gI wI) {r : Int} (h : f89 x0 x1 = some r) : Fn Try.prog 89 #[up0, up1] gI wI (fun _ _ v => v = .int .i64 (r)) := by
 unfold f89 at h
 refine fn_of_E Try.func89 rfl (Nat.le_of_ble_eq_true rfl) fun g0 hm hfr => ?_
 have rp0 : RV g0.m wI x0 up0 := hm ▸ rp0
 obtain ⟨ff1, fa1, fc1, rfl, fen1, fcl1⟩ := rp1
 show E _ 19 none _ _ _ _ _
 refine E_seq (E_region (EL_pur (v := .int .i64 (0)) (P_assign rfl) .plain rfl ?_))
 refine EL_nil (thn_n (E_joinC h (fun (s : Unit) e w => ∃ (g : Gh) , Fr gI wI g w) (fun X18 k18 i3 h => ?_) ?_))
 ·refine E_seq (E_region (EL_pur (v := up0) (P_move rfl) .plain rfl ?_))
  refine EL_pur (v := .int .i64 ((x0).length : Int)) (P_len Try.underlying39 rfl rp0) .plain rfl ?_
  refine EL_pur (v := .int .i64 (0)) (P_move rfl) .plain rfl ?_
  refine EL_nil (thn_n (E_block ?_))
  refine E_lp h (fun (s : Int) e w => ∃ (g : Gh) , Fr gI wI g w ∧ e 0 = up0 ∧ RV g.m w (x0 : List FaultSight) up0 ∧ e 1 = (.func (.func ff1) fa1 fc1) ∧ e 7 = .int .i64 (((x0).length : Int)) ∧ e 8 = .int .i64 (s)) ⟨g0, hfr, rfl, rp0, rfl, rfl, rfl⟩ (fun X19 k19 j3 => ?_)
  rintro j0 s3 c4 ⟨d2, hfr, j1, n0, m1, z1, o0⟩ h
  refine E_seq (E_region (EL_pur (v := .bool ((decide (j0 < ((x0).length : Int))))) (P_int o0 z1 rfl) .plain rfl ?_))
  refine EL_nil (thn_n (E_seq ?_))
  rcases csome h with ⟨u0, h⟩ | ⟨u0, h⟩
  ·refine E_cond_true (Eq.trans (show ev _ _ = .bool ((decide (j0 < ((x0).length : Int)))) from rfl) (congrArg Value.bool u0)) ?_
   refine E_skip (thn_n (E_joinC h (fun (s : Unit) e w => ∃ (g : Gh) , Fr gI wI g w ∧ e 0 = up0 ∧ RV g.m w (x0 : List FaultSight) up0 ∧ e 1 = (.func (.func ff1) fa1 fc1) ∧ e 7 = .int .i64 (((x0).length : Int)) ∧ e 8 = .int .i64 (j0)) (fun X28 k28 m3 h => ?_) ?_))
   ·refine E_block ?_
    refine E_seq (E_region (EL_pur (v := .int .i64 (j0)) (P_move o0) .plain rfl ?_))
    refine EL_pur (v := .int .i64 (j0)) (P_assign rfl) .plain rfl ?_
    refine EL_nil (thn_n (E_seq (E_region (EL_pur (v := (.func (.func ff1) fa1 fc1)) (P_move m1) .plain rfl ?_))))
    refine EL_pur (v := up0) (P_move j1) .plain rfl ?_
    refine EL_pur (v := .int .i64 (j0)) (P_move rfl) .plain rfl ?_
    obtain ⟨e3, i2, h⟩ := bsome h
    refine EL_pur (v := ePtr up0 j0 3) (P_indexAddr (α := FaultSight) Try.underlying39 Try.sizeOf56 rfl n0 rfl i2) .plain rfl ?_
    have j2 := PT_idx n0 i2
    refine EL_do .plain rfl (D_load (g := d2) Try.isAgg56 Try.sizeOf56 rfl j2 fun p3 m2 => ?_)
    obtain ⟨i1, o3, h⟩ := bsome h
    refine EL_do .plain rfl (D_callv (g := d2) (vs := [p3]) rfl fen1 (.cons rfl .nil) (fcl1 _ _ hfr.ch _ _ _  m2 o3) fun q3 d4 e4 hs hr => ?_)
    have hfr := hfr.ext hs
    have n0 := n0.ext hs
    have j2 := j2.ext hs
    have m2 := m2.ext hs
    obtain rfl := RV_bool.1 hr
    refine EL_nil (thn_n ?_)
    rcases csome h with ⟨y0, h⟩ | ⟨y0, h⟩
    ·refine E_cond_true (Eq.trans (show ev _ _ = .bool (i1) from rfl) (congrArg Value.bool y0)) ?_
     refine E_seq (E_region (EL_pur (v := .int .i64 (j0)) (P_move rfl) .plain rfl ?_))
     refine EL_pur (v := .int .i64 (j0)) (P_assign rfl) .plain rfl ?_
     refine EL_nil (thn_n (E_ret (blk_r ?_)))
     refine thn_r ?_
     refine thn_r ?_
     refine blk_r ?_
     refine thn_r ?_
     obtain rfl := Option.some.inj h
     exact end1 rfl rfl (show _ = .int .i64 (j0) from rfl) ⟨_, hfr, rfl⟩
    ·refine E_cond_false (Eq.trans (show ev _ _ = .bool (i1) from rfl) (congrArg Value.bool y0)) ?_
     exact E_skip (blk_n (thn_n (m3 () _ _ ⟨q3, hfr, j1, n0, m1, z1, o0⟩ h)))
   ·rintro _ u3 i4 ⟨r3, hfr, p2, q2, s2, z2, d3⟩ h
    refine E_region (EL_pur (v := .int .i64 ((w64 (j0 + (1 : Int))))) (P_int d3 rfl rfl) .plain rfl ?_)
    refine EL_pur (v := .int .i64 ((w64 (j0 + (1 : Int))))) (P_move rfl) .plain rfl ?_
    exact EL_nil (thn_n (j3 ((w64 (j0 + (1 : Int)))) _ _ ⟨r3, hfr, p2, q2, s2, z2, rfl⟩ h))
  ·refine E_cond_false (Eq.trans (show ev _ _ = .bool ((decide (j0 < ((x0).length : Int)))) from rfl) (congrArg Value.bool u0)) ?_
   refine E_exit ?_
   refine thn_e ?_
   refine thn_e ?_
   refine blk_hit ?_
   exact thn_n (i3 () _ _ ⟨d2, hfr⟩ h)
 ·rintro _ z3 j4 ⟨m4, hfr⟩ h
  refine E_seq (E_region (EL_pur (v := .int .i64 (-1)) (P_assign rfl) .plain rfl ?_))
  refine EL_nil (thn_n (E_ret ?_))
  obtain rfl := Option.some.inj h
  exact end1 rfl rfl (show _ = .int .i64 (-1) from rfl) ⟨_, hfr, rfl⟩
/-- (griffe/fault.loom).damages -/
def f90 (x0 : FaultFaultLoom) (σ : Type) (cons : Cons σ FaultDamage) (s0 : σ) : Option σ :=
 Option.bind (α := (List FaultDamage)) (
  lp (σ := (List FaultDamage) × Int) (fun lE (j6, u0) =>
   bif (decide (u0 < (w64 ((((((x0).FaultLoom).Design).Rows).length : Int) * (((x0).FaultLoom).Design).Hooks)))) then
    Option.bind (α := (List FaultDamage)) (
     (quo64 u0 (((x0).FaultLoom).Design).Hooks).bind fun z1 =>
     (rem64 u0 (((x0).FaultLoom).Design).Hooks).bind fun d2 =>
     (apnd 40 j6 (([(⟨(1 : Int), z1, d2, 0, false⟩ : FaultDamage)] : List FaultDamage))).bind fun q9 =>
     some (q9)
     ) fun i3 =>
    lE (i3, (w64 (u0 + (1 : Int))))
   else
    some (j6)
   ) big ([], (0 : Int))
  ) fun z3 =>
 Option.bind (α := (List FaultDamage)) (
  lp (σ := (List FaultDamage) × Int) (fun s9 (m5, j0) =>
   bif (decide (j0 < (((x0).FaultLoom).Design).Hooks)) then
    Option.bind (α := (List FaultDamage)) (
     (apnd 40 m5 (([(⟨(2 : Int), 0, j0, 0, false⟩ : FaultDamage), (⟨(2 : Int), 0, j0, 0, true⟩ : FaultDamage)] : List FaultDamage))).bind fun t9 =>
     some (t9)
     ) fun j3 =>
    s9 (j3, (w64 (j0 + (1 : Int))))
   else
    some (m5)
   ) big (z3, (0 : Int))
  ) fun c4 =>
 Option.bind (α := (List FaultDamage)) (
  lp (σ := (List FaultDamage) × Int) (fun u9 (n5, y0) =>
   bif (decide (y0 < (2 : Int))) then
    Option.bind (α := (List FaultDamage)) (
     (idx ((⟨List.toArray [(3 : Int), (4 : Int)], rfl⟩ : Vector Int 2)).toList y0).bind fun m2 =>
     lp (σ := (List FaultDamage) × Int) (fun x9 (o5, n0) =>
      bif (decide (n0 < (((((x0).FaultLoom).Design).Rows).length : Int))) then
       Option.bind (α := (List FaultDamage)) (
        (apnd 40 o5 (([(⟨m2, n0, 0, 0, false⟩ : FaultDamage)] : List FaultDamage))).bind fun y9 =>
        some (y9)
        ) fun m3 =>
       x9 (m3, (w64 (n0 + (1 : Int))))
      else
       some (o5)
      ) big (n5, (0 : Int))
     ) fun o3 =>
    u9 (o3, (w64 (y0 + (1 : Int))))
   else
    some (n5)
   ) big (c4, (0 : Int))
  ) fun d4 =>
 Option.bind (α := (List FaultDamage)) (
  lp (σ := (List FaultDamage) × Int) (fun z9 (p5, o0) =>
   bif (decide (o0 < (((((x0).FaultLoom).Harness).Warps).length : Int))) then
    Option.bind (α := (List FaultDamage)) (
     (apnd 40 p5 (([(⟨(5 : Int), 0, 0, o0, false⟩ : FaultDamage)] : List FaultDamage))).bind fun aA =>
     some (aA)
     ) fun p3 =>
    z9 (p3, (w64 (o0 + (1 : Int))))
   else
    some (p5)
   ) big (d4, (0 : Int))
  ) fun i1 =>
 lp (σ := σ × Int) (fun bA (q5, j1) =>
  bif (decide (j1 < ((i1).length : Int))) then
   jn (σ := σ) (fun t5 =>
    bA (t5, (w64 (j1 + (1 : Int))))
    ) fun cA =>
   (idx i1 j1).bind fun u7 =>
   (cons q5 u7).bind fun (e4, i5) =>
   bif (!e4) then
    some i5
   else
    cA (i5)
  else
   some q5
  ) big (s0, (0 : Int))
theorem en90 : Enters Try.prog 90 := enters_of Try.func90 (by kernel_rfl) rfl
theorem wk90 {σ : Type} {cons : Cons σ FaultDamage} {s0 r : σ} {gI : Gh} {wI : World} {x0 : FaultFaultLoom} {up0 : Value} (rp0 : RV gI.m wI x0 up0) (h : f90 x0 σ cons s0 = some r) : IterC Try.prog (RA1 (α := FaultDamage)) 90 #[up0] #[] gI wI cons s0 r := by
 unfold f90 at h
 refine iter_of_E Try.func90 rfl (Nat.le_of_ble_eq_true rfl) fun l B J g0 hm hAb hRo hfr => ?_
 have rp0 : RV g0.m wI x0 up0 := hm ▸ rp0
 show E _ 96 none _ _ (envAt #[up0, .func (.yield l) #[] #[]]) _ _
 refine E_seq (E_region (EL_do .plain rfl (D_box (g := g0) rfl rp0 fun g1 w1 p1 hs q1 => ?_)))
 have hfr := hfr.ext_ hAb hs
 have rp0 := rp0.ext hs
 refine EL_nil (thn_n (E_seq ?_))
 have q2 := PT_field (part_FaultFaultLoom_0).1 q1
 have q3 := PT_field (part_FaultLoom_1).1 q2
 have q4 := PT_field (part_Design_1).1 q3
 refine L_load (x := .tmp 18) Try.isAgg22 Try.sizeOf22 q4 fun v5 r5 uF => ?_
 have q6 := PT_field (part_FaultFaultLoom_0).1 q1
 have q7 := PT_field (part_FaultLoom_1).1 q6
 have q8 := PT_field (part_Design_0).1 q7
 refine L_load (x := .tmp 23) Try.isAgg3 Try.sizeOf3 q8 fun v9 r9 vF => ?_
 obtain rfl := RV_int.1 r9
 have g8 := PT_field (part_FaultFaultLoom_0).1 q1
 have i8 := PT_field (part_FaultLoom_0).1 g8
 have dA := PT_field (part_TieHarness_1).1 i8
 refine L_load (x := .tmp 27) Try.isAgg22 Try.sizeOf22 dA fun xF eA mE => ?_
 refine E_drawL (g := g1) (n := 17) [] [0, 1, 2, 3, 4, 5, 6, 7, 8, 9, 10, 11, 12, 13, 14, 15, 16] rfl mixed (by kernel_rfl) trivial ?_
 refine L_pur (c := fPtr p1 0) rfl rfl .plain (fun _ _ hd => P_fieldAddr at_98_0 rfl (PT.ptr q1)) ?_
 refine L_pur (c := fPtr (fPtr p1 0) 2) rfl rfl .plain (fun _ _ hd => P_fieldAddr at_28_1 rfl (PT.ptr q2)) ?_
 refine L_pur (c := fPtr (fPtr (fPtr p1 0) 2) 1) rfl rfl .plain (fun _ _ hd => P_fieldAddr at_26_1 rfl (PT.ptr q3)) ?_
 refine L_ld (c := v5) rfl rfl .plain (fun _ _ h => h.ch) uF rfl ?_
 refine L_pur (c := .int .i64 (((((x0).FaultLoom).Design).Rows).length : Int)) rfl rfl .plain (fun _ _ hd => P_len Try.underlying22 rfl r5) ?_
 refine L_pur (c := fPtr p1 0) rfl rfl .plain (fun _ _ hd => P_fieldAddr at_98_0 rfl (PT.ptr q1)) ?_
 refine L_pur (c := fPtr (fPtr p1 0) 2) rfl rfl .plain (fun _ _ hd => P_fieldAddr at_28_1 rfl (PT.ptr q6)) ?_
 refine L_pur (c := fPtr (fPtr (fPtr p1 0) 2) 0) rfl rfl .plain (fun _ _ hd => P_fieldAddr at_26_0 rfl (PT.ptr q7)) ?_
 refine L_ld (c := .int .i64 ((((x0).FaultLoom).Design).Hooks)) rfl rfl .plain (fun _ _ h => h.ch) vF rfl ?_
 refine L_pur (c := fPtr p1 0) rfl rfl .plain (fun _ _ hd => P_fieldAddr at_98_0 rfl (PT.ptr q1)) ?_
 refine L_pur (c := fPtr (fPtr p1 0) 0) rfl rfl .plain (fun _ _ hd => P_fieldAddr at_28_0 rfl (PT.ptr g8)) ?_
 refine L_pur (c := fPtr (fPtr (fPtr p1 0) 0) 1) rfl rfl .plain (fun _ _ hd => P_fieldAddr at_24_1 rfl (PT.ptr i8)) ?_
 refine L_ld (c := xF) rfl rfl .plain (fun _ _ h => h.ch) mE rfl ?_
 refine L_pur (c := .int .i64 (((((x0).FaultLoom).Harness).Warps).length : Int)) rfl rfl .plain (fun _ _ hd => P_len Try.underlying22 rfl eA) ?_
 refine L_pur (c := .int .i64 (((((x0).FaultLoom).Design).Rows).length : Int)) rfl rfl .plain (fun _ _ hd => P_assign rfl) ?_
 refine L_pur (c := .int .i64 ((((x0).FaultLoom).Design).Hooks)) rfl rfl .plain (fun _ _ hd => P_assign rfl) ?_
 refine L_pur (c := .int .i64 (((((x0).FaultLoom).Harness).Warps).length : Int)) rfl rfl .plain (fun _ _ hd => P_assign rfl) ?_
 refine L_nil fun yF vH hall => ?_
 have hs := hall.1
 have hfr := hfr.ext_ hAb hs
 have rp0 := rp0.ext hs
 have q1 := q1.ext hs
 have q2 := q2.ext hs
 have q3 := q3.ext hs
 have q4 := q4.ext hs
 have r5 := r5.ext hs
 have q6 := q6.ext hs
 have q7 := q7.ext hs
 have q8 := q8.ext hs
 have g8 := g8.ext hs
 have i8 := i8.ext hs
 have dA := dA.ext hs
 have eA := eA.ext hs
 clear hs hall
 refine EL_nil (thn_n (E_seq (E_region (EL_pur (v := .slice none 0 0) (P_assign rfl) .plain rfl ?_))))
 refine EL_nil (thn_n ?_)
 obtain ⟨z3, hx, h⟩ := bsome h
 refine E_join (fun e w => ∃ (g : Gh) (v7 : Value), FrY gI wI B J (s0) g w ∧ e 1 = (.func (.yield l) #[] #[]) ∧ e 4 = .int .i64 ((((((x0).FaultLoom).Design).Rows).length : Int)) ∧ e 5 = .int .i64 ((((x0).FaultLoom).Design).Hooks) ∧ e 6 = .int .i64 ((((((x0).FaultLoom).Harness).Warps).length : Int)) ∧ e 7 = v7 ∧ RV g.m w (z3 : List FaultDamage) v7 ∧ OS 1007 g w 62 (z3 : List FaultDamage) v7) (fun Q' hQ => ?_) (fun aG qG hR => ?_)
 ·replace h := hx
  clear hx
  refine E_seq (E_region (EL_pur (v := .int .i64 (((((x0).FaultLoom).Design).Rows).length : Int)) (P_move rfl) .plain rfl ?_))
  refine EL_pur (v := .int .i64 ((((x0).FaultLoom).Design).Hooks)) (P_move rfl) .plain rfl ?_
  refine EL_pur (v := .int .i64 ((w64 ((((((x0).FaultLoom).Design).Rows).length : Int) * (((x0).FaultLoom).Design).Hooks)))) (P_int rfl rfl rfl) .plain rfl ?_
  refine EL_pur (v := .int .i64 (0)) (P_move rfl) .plain rfl ?_
  refine EL_nil (thn_n (E_block ?_))
  refine E_lp h (fun (s : (List FaultDamage) × Int) e w => ∃ (g : Gh) (v7 : Value), FrY gI wI B J (s0) g w ∧ e 1 = (.func (.yield l) #[] #[]) ∧ e 4 = .int .i64 ((((((x0).FaultLoom).Design).Rows).length : Int)) ∧ e 5 = .int .i64 ((((x0).FaultLoom).Design).Hooks) ∧ e 6 = .int .i64 ((((((x0).FaultLoom).Harness).Warps).length : Int)) ∧ e 7 = v7 ∧ RV g.m w (s.1 : List FaultDamage) v7 ∧ OS 1007 g w 62 (s.1 : List FaultDamage) v7 ∧ e 32 = .int .i64 ((w64 ((((((x0).FaultLoom).Design).Rows).length : Int) * (((x0).FaultLoom).Design).Hooks))) ∧ e 33 = .int .i64 (s.2)) ⟨yF, (.slice none 0 0), hfr, rfl, rfl, rfl, rfl, rfl, RV_nil, OS.nil, rfl, rfl⟩ (fun X94 lE nE => ?_)
  rintro ⟨j6, u0⟩ rG zF ⟨gA, j8, hfr, k8, l8, j5, m8, n8, r3, l5, s6, u5⟩ h
  refine E_seq (E_region (EL_pur (v := .bool ((decide (u0 < (w64 ((((((x0).FaultLoom).Design).Rows).length : Int) * (((x0).FaultLoom).Design).Hooks)))))) (P_int u5 s6 rfl) .plain rfl ?_))
  refine EL_nil (thn_n (E_seq ?_))
  rcases csome h with ⟨x7, h⟩ | ⟨x7, h⟩
  ·refine E_cond_true (Eq.trans (show ev _ _ = .bool ((decide (u0 < (w64 ((((((x0).FaultLoom).Design).Rows).length : Int) * (((x0).FaultLoom).Design).Hooks))))) from rfl) (congrArg Value.bool x7)) ?_
   refine E_skip (thn_n ?_)
   obtain ⟨i3, hx, h⟩ := bsome h
   refine E_join (fun e w => ∃ (g : Gh) (v7 : Value), FrY gI wI B J (s0) g w ∧ e 1 = (.func (.yield l) #[] #[]) ∧ e 4 = .int .i64 ((((((x0).FaultLoom).Design).Rows).length : Int)) ∧ e 5 = .int .i64 ((((x0).FaultLoom).Design).Hooks) ∧ e 6 = .int .i64 ((((((x0).FaultLoom).Harness).Warps).length : Int)) ∧ e 7 = v7 ∧ RV g.m w (i3 : List FaultDamage) v7 ∧ OS 1007 g w 62 (i3 : List FaultDamage) v7 ∧ e 32 = .int .i64 ((w64 ((((((x0).FaultLoom).Design).Rows).length : Int) * (((x0).FaultLoom).Design).Hooks))) ∧ e 33 = .int .i64 (u0)) (fun Q' hQ => ?_) (fun bG sG hR => ?_)
   ·replace h := hx
    clear hx
    refine E_block ?_
    refine E_seq (E_region (EL_pur (v := .int .i64 (u0)) (P_move u5) .plain rfl ?_))
    refine EL_pur (v := .int .i64 (u0)) (P_assign rfl) .plain rfl ?_
    refine EL_nil (thn_n ?_)
    obtain ⟨z1, pD, h⟩ := bsome h
    obtain ⟨d2, qD, h⟩ := bsome h
    have n4 : RV gA.m zF (⟨(1 : Int), z1, d2, 0, false⟩ : FaultDamage) (.agg (setCh [[.int .i64 0], [.int .i64 0], [.int .i64 0], [.int .i64 0], [.bool false]] [(0, .int .i64 (1)), (1, .int .i64 (z1)), (2, .int .i64 (d2))]).flatten.toArray) := RV_build rfl (rep_pair (rfl) (rep_pair (rfl) (rep_pair (rfl) (rep_pair (rep_int) (rep_last (rep_bool))))))
    generalize rD : (Value.agg (setCh [[.int .i64 0], [.int .i64 0], [.int .i64 0], [.int .i64 0], [.bool false]] [(0, .int .i64 (1)), (1, .int .i64 (z1)), (2, .int .i64 (d2))]).flatten.toArray) = iA at n4
    refine E_drawL (g := gA) (n := 9) [(8, (fun v g w => RV g.m w ([(⟨(1 : Int), z1, d2, 0, false⟩ : FaultDamage)] : List FaultDamage) v ∧ OS 3044 g w 62 ([(⟨(1 : Int), z1, d2, 0, false⟩ : FaultDamage)] : List FaultDamage) v ∧ FullV v))] [0, 1, 2, 3, 4, 5, 6, 7, 8] rfl mixed (by kernel_rfl) (⟨fun _ => up_and up_rv (up_and up_os (up_eq _)), trivial⟩) ?_
    refine L_pur (c := j8) rfl rfl .plain (fun _ _ hd => P_move n8) ?_
    refine L_pur (c := .int .i64 (u0)) rfl rfl .plain (fun _ _ hd => P_move rfl) ?_
    refine L_pur (c := .int .i64 ((((x0).FaultLoom).Design).Hooks)) rfl rfl .plain (fun _ _ hd => P_move j5) ?_
    refine L_pur (c := .int .i64 (z1)) rfl rfl .plain (fun _ _ hd => P_int rfl rfl (congrArg (Option.map (Value.int .i64)) pD)) ?_
    refine L_pur (c := .int .i64 (u0)) rfl rfl .plain (fun _ _ hd => P_move rfl) ?_
    refine L_pur (c := .int .i64 ((((x0).FaultLoom).Design).Hooks)) rfl rfl .plain (fun _ _ hd => P_move j5) ?_
    refine L_pur (c := .int .i64 (d2)) rfl rfl .plain (fun _ _ hd => P_int rfl rfl (congrArg (Option.map (Value.int .i64)) qD)) ?_
    refine L_pur (c := iA) rfl rfl .plain (fun _ _ hd => rD ▸ P_build (vs := [(0, .int .i64 (1)), (1, .int .i64 (z1)), (2, .int .i64 (d2))]) [[.int .i64 0], [.int .i64 0], [.int .i64 0], [.int .i64 0], [.bool false]] lay_62 rfl rfl (.cons rfl (.cons rfl (.cons rfl .nil))) ⟨⟨_, rfl, rfl⟩, ⟨⟨_, rfl, rfl⟩, ⟨⟨_, rfl, rfl⟩, trivial⟩⟩⟩) ?_
    refine L_do (φ := fun v g w => RV g.m w ([(⟨(1 : Int), z1, d2, 0, false⟩ : FaultDamage)] : List FaultDamage) v ∧ OS 3044 g w 62 ([(⟨(1 : Int), z1, d2, 0, false⟩ : FaultDamage)] : List FaultDamage) v ∧ FullV v) rfl rfl .plain (fun g w hd => D_buildSlice (g := g) 3044 (xs := ([(⟨(1 : Int), z1, d2, 0, false⟩ : FaultDamage)] : List FaultDamage)) (vs := [iA]) Try.underlying29 Try.sizeOf62 Try.zeroValue62 rfl rfl (.cons rfl .nil) (RVs.cons (n4.ext hd.1) RVs.nil) rfl rfl fun g' w' v hs o r hxt hfl => ⟨g', hxt, r, o, hfl⟩) (fun o4 hv => ?_)
    clear hv
    refine L_nil fun oE tG hall => ?_
    have hs := hall.1
    have hfr := hfr.ext_ hAb hs
    have r3 := r3.ext hs
    have l5 := l5.ext hs
    have n4 := n4.ext hs
    have y7 := (word_all (A := fun g w => RV g.m w ([(⟨(1 : Int), z1, d2, 0, false⟩ : FaultDamage)] : List FaultDamage) o4 ∧ OS 3044 g w 62 ([(⟨(1 : Int), z1, d2, 0, false⟩ : FaultDamage)] : List FaultDamage) o4 ∧ FullV o4) 8 rfl hall).1
    have o148 := (word_all (A := fun g w => RV g.m w ([(⟨(1 : Int), z1, d2, 0, false⟩ : FaultDamage)] : List FaultDamage) o4 ∧ OS 3044 g w 62 ([(⟨(1 : Int), z1, d2, 0, false⟩ : FaultDamage)] : List FaultDamage) o4 ∧ FullV o4) 8 rfl hall).2.1
    clear hs hall
    obtain ⟨q9, sD, h⟩ := bsome h
    refine EL_do .plain rfl (D_append (g := oE) (i := 1007) Try.underlying29 info_62 rfl rfl l5 r3 rfl y7 sD fun pE uG jA hs o149 qE _ => ?_)
    have hfr := hfr.stp_ hAb hs rfl
    have r3 := r3.stp hs
    have n4 := n4.stp hs
    have y7 := y7.stp hs
    have o148 := o148.stp hs rfl
    refine EL_pur (v := jA) (P_assign rfl) .plain rfl ?_
    refine EL_nil (blk_n ?_)
    obtain rfl := Option.some.inj h
    exact hQ _ _ ⟨pE, (jA), hfr, k8, l8, j5, m8, rfl, qE, o149, s6, u5⟩
   ·clear hx
    obtain ⟨rE, kA, hfr, lA, mA, nA, oA, pA, qA, rA, r8, t8⟩ := hR
    refine E_region (EL_pur (v := .int .i64 ((w64 (u0 + (1 : Int))))) (P_int t8 rfl rfl) .plain rfl ?_)
    refine EL_pur (v := .int .i64 ((w64 (u0 + (1 : Int))))) (P_move rfl) .plain rfl ?_
    exact EL_nil (thn_n (nE (i3, (w64 (u0 + (1 : Int)))) _ _ ⟨rE, (kA), hfr, lA, mA, nA, oA, pA, qA, rA, r8, rfl⟩ h))
  ·refine E_cond_false (Eq.trans (show ev _ _ = .bool ((decide (u0 < (w64 ((((((x0).FaultLoom).Design).Rows).length : Int) * (((x0).FaultLoom).Design).Hooks))))) from rfl) (congrArg Value.bool x7)) ?_
   refine E_exit ?_
   refine thn_e ?_
   refine thn_e ?_
   refine blk_hit ?_
   obtain rfl := Option.some.inj h
   exact hQ _ _ ⟨gA, (j8), hfr, k8, l8, j5, m8, n8, r3, l5⟩
 ·clear hx
  obtain ⟨sE, sA, hfr, tA, uA, vA, xA, yA, zA, aB⟩ := hR
  obtain ⟨c4, hx, h⟩ := bsome h
  refine E_join (fun e w => ∃ (g : Gh) (v7 : Value), FrY gI wI B J (s0) g w ∧ e 1 = (.func (.yield l) #[] #[]) ∧ e 4 = .int .i64 ((((((x0).FaultLoom).Design).Rows).length : Int)) ∧ e 6 = .int .i64 ((((((x0).FaultLoom).Harness).Warps).length : Int)) ∧ e 7 = v7 ∧ RV g.m w (c4 : List FaultDamage) v7 ∧ OS 1007 g w 62 (c4 : List FaultDamage) v7) (fun Q' hQ => ?_) (fun cG tE hR => ?_)
  ·replace h := hx
   clear hx
   refine E_seq (E_region (EL_pur (v := .int .i64 ((((x0).FaultLoom).Design).Hooks)) (P_move vA) .plain rfl ?_))
   refine EL_pur (v := .int .i64 (0)) (P_move rfl) .plain rfl ?_
   refine EL_nil (thn_n (E_block ?_))
   refine E_lp h (fun (s : (List FaultDamage) × Int) e w => ∃ (g : Gh) (v7 : Value), FrY gI wI B J (s0) g w ∧ e 1 = (.func (.yield l) #[] #[]) ∧ e 4 = .int .i64 ((((((x0).FaultLoom).Design).Rows).length : Int)) ∧ e 6 = .int .i64 ((((((x0).FaultLoom).Harness).Warps).length : Int)) ∧ e 7 = v7 ∧ RV g.m w (s.1 : List FaultDamage) v7 ∧ OS 1007 g w 62 (s.1 : List FaultDamage) v7 ∧ e 47 = .int .i64 ((((x0).FaultLoom).Design).Hooks) ∧ e 48 = .int .i64 (s.2)) ⟨sE, (sA), hfr, tA, uA, xA, yA, zA, aB, rfl, rfl⟩ (fun X167 s9 tD => ?_)
   rintro ⟨m5, j0⟩ dG bB ⟨k6, t6, hfr, u6, v6, x6, y6, s2, i4, x5, p4⟩ h
   refine E_seq (E_region (EL_pur (v := .bool ((decide (j0 < (((x0).FaultLoom).Design).Hooks)))) (P_int p4 x5 rfl) .plain rfl ?_))
   refine EL_nil (thn_n (E_seq ?_))
   rcases csome h with ⟨l6, h⟩ | ⟨l6, h⟩
   ·refine E_cond_true (Eq.trans (show ev _ _ = .bool ((decide (j0 < (((x0).FaultLoom).Design).Hooks))) from rfl) (congrArg Value.bool l6)) ?_
    refine E_skip (thn_n ?_)
    obtain ⟨j3, hx, h⟩ := bsome h
    refine E_join (fun e w => ∃ (g : Gh) (v7 : Value), FrY gI wI B J (s0) g w ∧ e 1 = (.func (.yield l) #[] #[]) ∧ e 4 = .int .i64 ((((((x0).FaultLoom).Design).Rows).length : Int)) ∧ e 6 = .int .i64 ((((((x0).FaultLoom).Harness).Warps).length : Int)) ∧ e 7 = v7 ∧ RV g.m w (j3 : List FaultDamage) v7 ∧ OS 1007 g w 62 (j3 : List FaultDamage) v7 ∧ e 47 = .int .i64 ((((x0).FaultLoom).Design).Hooks) ∧ e 48 = .int .i64 (j0)) (fun Q' hQ => ?_) (fun eG vG hR => ?_)
    ·replace h := hx
     clear hx
     refine E_block ?_
     refine E_seq (E_region (EL_pur (v := .int .i64 (j0)) (P_move p4) .plain rfl ?_))
     refine EL_pur (v := .int .i64 (j0)) (P_assign rfl) .plain rfl ?_
     refine EL_nil (thn_n (E_region (EL_pur (v := t6) (P_move y6) .plain rfl ?_)))
     refine EL_pur (v := .int .i64 (j0)) (P_move rfl) .plain rfl ?_
     have r4 : RV k6.m bB (⟨(2 : Int), 0, j0, 0, false⟩ : FaultDamage) (.agg (setCh [[.int .i64 0], [.int .i64 0], [.int .i64 0], [.int .i64 0], [.bool false]] [(0, .int .i64 (2)), (2, .int .i64 (j0))]).flatten.toArray) := RV_build rfl (rep_pair (rfl) (rep_pair (rep_int) (rep_pair (rfl) (rep_pair (rep_int) (rep_last (rep_bool))))))
     generalize uD : (Value.agg (setCh [[.int .i64 0], [.int .i64 0], [.int .i64 0], [.int .i64 0], [.bool false]] [(0, .int .i64 (2)), (2, .int .i64 (j0))]).flatten.toArray) = cB at r4
     refine EL_pur (v := cB) (uD ▸ P_build (vs := [(0, .int .i64 (2)), (2, .int .i64 (j0))]) [[.int .i64 0], [.int .i64 0], [.int .i64 0], [.int .i64 0], [.bool false]] lay_62 rfl rfl (.cons rfl (.cons rfl .nil)) ⟨⟨_, rfl, rfl⟩, ⟨⟨_, rfl, rfl⟩, trivial⟩⟩) .plain rfl ?_
     refine EL_pur (v := .int .i64 (j0)) (P_move rfl) .plain rfl ?_
     have s4 : RV k6.m bB (⟨(2 : Int), 0, j0, 0, true⟩ : FaultDamage) (.agg (setCh [[.int .i64 0], [.int .i64 0], [.int .i64 0], [.int .i64 0], [.bool false]] [(0, .int .i64 (2)), (2, .int .i64 (j0)), (4, .bool true)]).flatten.toArray) := RV_build rfl (rep_pair (rfl) (rep_pair (rep_int) (rep_pair (rfl) (rep_pair (rep_int) (rep_last (rfl))))))
     generalize vD : (Value.agg (setCh [[.int .i64 0], [.int .i64 0], [.int .i64 0], [.int .i64 0], [.bool false]] [(0, .int .i64 (2)), (2, .int .i64 (j0)), (4, .bool true)]).flatten.toArray) = dB at s4
     refine EL_pur (v := dB) (vD ▸ P_build (vs := [(0, .int .i64 (2)), (2, .int .i64 (j0)), (4, .bool true)]) [[.int .i64 0], [.int .i64 0], [.int .i64 0], [.int .i64 0], [.bool false]] lay_62 rfl rfl (.cons rfl (.cons rfl (.cons rfl .nil))) ⟨⟨_, rfl, rfl⟩, ⟨⟨_, rfl, rfl⟩, ⟨⟨_, rfl, rfl⟩, trivial⟩⟩⟩) .plain rfl ?_
     refine EL_do .plain rfl (D_buildSlice (g := k6) 3056 (xs := ([(⟨(2 : Int), 0, j0, 0, false⟩ : FaultDamage), (⟨(2 : Int), 0, j0, 0, true⟩ : FaultDamage)] : List FaultDamage)) (vs := [cB, dB]) Try.underlying29 Try.sizeOf62 Try.zeroValue62 rfl rfl (.cons rfl (.cons rfl .nil)) (RVs.cons r4 (RVs.cons s4 RVs.nil)) rfl rfl fun uE xG yG hs o177 z7 hxt hfl => ?_)
     have hfr := hfr.stp_ hAb hs rfl
     have s2 := s2.stp hs
     have i4 := i4.stp hs rfl
     have r4 := r4.stp hs
     have s4 := s4.stp hs
     obtain ⟨t9, xD, h⟩ := bsome h
     refine EL_do .plain rfl (D_append (g := uE) (i := 1007) Try.underlying29 info_62 rfl rfl i4 s2 rfl z7 xD fun vE zG eB hs o178 xE _ => ?_)
     have hfr := hfr.stp_ hAb hs rfl
     have s2 := s2.stp hs
     have r4 := r4.stp hs
     have s4 := s4.stp hs
     have z7 := z7.stp hs
     have o177 := o177.stp hs rfl
     refine EL_pur (v := eB) (P_assign rfl) .plain rfl ?_
     refine EL_nil (blk_n ?_)
     obtain rfl := Option.some.inj h
     exact hQ _ _ ⟨vE, (eB), hfr, u6, v6, x6, rfl, xE, o178, x5, p4⟩
    ·clear hx
     obtain ⟨yE, iB, hfr, jB, kB, lB, mB, nB, oB, v8, x8⟩ := hR
     refine E_region (EL_pur (v := .int .i64 ((w64 (j0 + (1 : Int))))) (P_int x8 rfl rfl) .plain rfl ?_)
     refine EL_pur (v := .int .i64 ((w64 (j0 + (1 : Int))))) (P_move rfl) .plain rfl ?_
     exact EL_nil (thn_n (tD (j3, (w64 (j0 + (1 : Int)))) _ _ ⟨yE, (iB), hfr, jB, kB, lB, mB, nB, oB, v8, rfl⟩ h))
   ·refine E_cond_false (Eq.trans (show ev _ _ = .bool ((decide (j0 < (((x0).FaultLoom).Design).Hooks))) from rfl) (congrArg Value.bool l6)) ?_
    refine E_exit ?_
    refine thn_e ?_
    refine thn_e ?_
    refine blk_hit ?_
    obtain rfl := Option.some.inj h
    exact hQ _ _ ⟨k6, (t6), hfr, u6, v6, x6, y6, s2, i4⟩
  ·clear hx
   obtain ⟨pB, qB, hfr, rB, sB, tB, uB, vB, xB⟩ := hR
   obtain ⟨d4, hx, h⟩ := bsome h
   refine E_join (fun e w => ∃ (g : Gh) (v7 : Value), FrY gI wI B J (s0) g w ∧ e 1 = (.func (.yield l) #[] #[]) ∧ e 6 = .int .i64 ((((((x0).FaultLoom).Harness).Warps).length : Int)) ∧ e 7 = v7 ∧ RV g.m w (d4 : List FaultDamage) v7 ∧ OS 1007 g w 62 (d4 : List FaultDamage) v7) (fun Q' hQ => ?_) (fun gG aH hR => ?_)
   ·replace h := hx
    clear hx
    refine E_seq (E_region ?_)
    have yB : RV pB.m tE (⟨List.toArray [(3 : Int), (4 : Int)], rfl⟩ : Vector Int 2) (.agg (setCh [[.int .i64 0], [.int .i64 0]] [(0, .int .i64 (3)), (1, .int .i64 (4))]).flatten.toArray) := RV_build rfl (rep_vec (flat_chunk rfl (flat_chunk rfl flat_nil)) rfl)
    generalize yD : (Value.agg (setCh [[.int .i64 0], [.int .i64 0]] [(0, .int .i64 (3)), (1, .int .i64 (4))]).flatten.toArray) = e3 at yB
    refine EL_pur (v := e3) (yD ▸ P_buildA (vs := [(0, .int .i64 (3)), (1, .int .i64 (4))]) [[.int .i64 0], [.int .i64 0]] Try.underlying149 layA_149 szA_60 rfl (by simp) (.cons rfl (.cons rfl .nil)) ⟨⟨_, rfl, rfl⟩, ⟨⟨_, rfl, rfl⟩, trivial⟩⟩) .plain rfl ?_
    refine EL_pur (v := .int .i64 (0)) (P_move rfl) .plain rfl ?_
    refine EL_nil (thn_n (E_block ?_))
    refine E_lp h (fun (s : (List FaultDamage) × Int) e w => ∃ (g : Gh) (v7 : Value), FrY gI wI B J (s0) g w ∧ e 1 = (.func (.yield l) #[] #[]) ∧ e 4 = .int .i64 ((((((x0).FaultLoom).Design).Rows).length : Int)) ∧ e 6 = .int .i64 ((((((x0).FaultLoom).Harness).Warps).length : Int)) ∧ e 7 = v7 ∧ RV g.m w (s.1 : List FaultDamage) v7 ∧ OS 1007 g w 62 (s.1 : List FaultDamage) v7 ∧ e 59 = e3 ∧ RV g.m w ((⟨List.toArray [(3 : Int), (4 : Int)], rfl⟩ : Vector Int 2) : Vector Int 2) e3 ∧ e 60 = .int .i64 (s.2)) ⟨pB, (qB), hfr, rB, sB, tB, uB, vB, xB, rfl, yB, rfl⟩ (fun X216 u9 zD => ?_)
    rintro ⟨n5, y0⟩ hG bH ⟨zB, z6, hfr, a7, b7, c7, d7, e7, g7, y5, u4, x4⟩ h
    refine E_seq (E_region (EL_pur (v := .bool ((decide (y0 < (2 : Int))))) (P_int x4 rfl rfl) .plain rfl ?_))
    refine EL_nil (thn_n (E_seq ?_))
    rcases csome h with ⟨m6, h⟩ | ⟨m6, h⟩
    ·refine E_cond_true (Eq.trans (show ev _ _ = .bool ((decide (y0 < (2 : Int)))) from rfl) (congrArg Value.bool m6)) ?_
     refine E_skip (thn_n ?_)
     obtain ⟨o3, hx, h⟩ := bsome h
     refine E_join (fun e w => ∃ (g : Gh) (v7 : Value), FrY gI wI B J (s0) g w ∧ e 1 = (.func (.yield l) #[] #[]) ∧ e 4 = .int .i64 ((((((x0).FaultLoom).Design).Rows).length : Int)) ∧ e 6 = .int .i64 ((((((x0).FaultLoom).Harness).Warps).length : Int)) ∧ e 7 = v7 ∧ RV g.m w (o3 : List FaultDamage) v7 ∧ OS 1007 g w 62 (o3 : List FaultDamage) v7 ∧ e 59 = e3 ∧ RV g.m w ((⟨List.toArray [(3 : Int), (4 : Int)], rfl⟩ : Vector Int 2) : Vector Int 2) e3 ∧ e 60 = .int .i64 (y0)) (fun Q' hQ => ?_) (fun iG cH hR => ?_)
     ·replace h := hx
      clear hx
      refine E_block ?_
      refine E_seq (E_region ?_)
      obtain ⟨m2, o8, h⟩ := bsome h
      have zE := RV_idxA u4 o8
      refine EL_pur (v := .int .i64 (m2)) ((RV_int.1 zE) ▸ P_indexA Try.underlying149 Try.isAgg60 Try.sizeOf60 y5 u4 x4 o8) .plain rfl ?_
      refine EL_pur (v := .int .i64 (m2)) (P_assign rfl) .plain rfl ?_
      refine EL_nil (thn_n (E_seq (E_region (EL_pur (v := .int .i64 ((((((x0).FaultLoom).Design).Rows).length : Int))) (P_move b7) .plain rfl ?_))))
      refine EL_pur (v := .int .i64 (0)) (P_move rfl) .plain rfl ?_
      refine EL_nil (thn_n (E_block ?_))
      refine E_lp h (fun (s : (List FaultDamage) × Int) e w => ∃ (g : Gh) (v7 : Value), FrY gI wI B J (s0) g w ∧ e 1 = (.func (.yield l) #[] #[]) ∧ e 4 = .int .i64 ((((((x0).FaultLoom).Design).Rows).length : Int)) ∧ e 6 = .int .i64 ((((((x0).FaultLoom).Harness).Warps).length : Int)) ∧ e 7 = v7 ∧ RV g.m w (s.1 : List FaultDamage) v7 ∧ OS 1007 g w 62 (s.1 : List FaultDamage) v7 ∧ e 11 = .int .i64 (m2) ∧ e 59 = e3 ∧ RV g.m w ((⟨List.toArray [(3 : Int), (4 : Int)], rfl⟩ : Vector Int 2) : Vector Int 2) e3 ∧ e 60 = .int .i64 (y0) ∧ e 63 = .int .i64 ((((((x0).FaultLoom).Design).Rows).length : Int)) ∧ e 64 = .int .i64 (s.2)) ⟨zB, (z6), hfr, a7, b7, c7, d7, e7, g7, rfl, y5, u4, x4, rfl, rfl⟩ (fun X235 x9 aE => ?_)
      rintro ⟨o5, n0⟩ jG aF ⟨a8, i7, hfr, j7, l7, m7, n7, z2, j4, z5, a6, p2, b6, c6, z4⟩ h
      refine E_seq (E_region (EL_pur (v := .bool ((decide (n0 < (((((x0).FaultLoom).Design).Rows).length : Int))))) (P_int z4 c6 rfl) .plain rfl ?_))
      refine EL_nil (thn_n (E_seq ?_))
      rcases csome h with ⟨n6, h⟩ | ⟨n6, h⟩
      ·refine E_cond_true (Eq.trans (show ev _ _ = .bool ((decide (n0 < (((((x0).FaultLoom).Design).Rows).length : Int)))) from rfl) (congrArg Value.bool n6)) ?_
       refine E_skip (thn_n ?_)
       obtain ⟨m3, hx, h⟩ := bsome h
       refine E_join (fun e w => ∃ (g : Gh) (v7 : Value), FrY gI wI B J (s0) g w ∧ e 1 = (.func (.yield l) #[] #[]) ∧ e 4 = .int .i64 ((((((x0).FaultLoom).Design).Rows).length : Int)) ∧ e 6 = .int .i64 ((((((x0).FaultLoom).Harness).Warps).length : Int)) ∧ e 7 = v7 ∧ RV g.m w (m3 : List FaultDamage) v7 ∧ OS 1007 g w 62 (m3 : List FaultDamage) v7 ∧ e 11 = .int .i64 (m2) ∧ e 59 = e3 ∧ RV g.m w ((⟨List.toArray [(3 : Int), (4 : Int)], rfl⟩ : Vector Int 2) : Vector Int 2) e3 ∧ e 60 = .int .i64 (y0) ∧ e 63 = .int .i64 ((((((x0).FaultLoom).Design).Rows).length : Int)) ∧ e 64 = .int .i64 (n0)) (fun Q' hQ => ?_) (fun kG dH hR => ?_)
       ·replace h := hx
        clear hx
        refine E_block ?_
        refine E_seq (E_region (EL_pur (v := .int .i64 (n0)) (P_move z4) .plain rfl ?_))
        refine EL_pur (v := .int .i64 (n0)) (P_assign rfl) .plain rfl ?_
        refine EL_nil (thn_n (E_region (EL_pur (v := i7) (P_move n7) .plain rfl ?_)))
        refine EL_pur (v := .int .i64 (m2)) (P_move z5) .plain rfl ?_
        refine EL_pur (v := .int .i64 (n0)) (P_move rfl) .plain rfl ?_
        have b5 : RV a8.m aF (⟨m2, n0, 0, 0, false⟩ : FaultDamage) (.agg (setCh [[.int .i64 0], [.int .i64 0], [.int .i64 0], [.int .i64 0], [.bool false]] [(0, .int .i64 (m2)), (1, .int .i64 (n0))]).flatten.toArray) := RV_build rfl (rep_pair (rfl) (rep_pair (rfl) (rep_pair (rep_int) (rep_pair (rep_int) (rep_last (rep_bool))))))
        generalize bE : (Value.agg (setCh [[.int .i64 0], [.int .i64 0], [.int .i64 0], [.int .i64 0], [.bool false]] [(0, .int .i64 (m2)), (1, .int .i64 (n0))]).flatten.toArray) = aC at b5
        refine EL_pur (v := aC) (bE ▸ P_build (vs := [(0, .int .i64 (m2)), (1, .int .i64 (n0))]) [[.int .i64 0], [.int .i64 0], [.int .i64 0], [.int .i64 0], [.bool false]] lay_62 rfl rfl (.cons rfl (.cons rfl .nil)) ⟨⟨_, rfl, rfl⟩, ⟨⟨_, rfl, rfl⟩, trivial⟩⟩) .plain rfl ?_
        refine EL_do .plain rfl (D_buildSlice (g := a8) 3071 (xs := ([(⟨m2, n0, 0, 0, false⟩ : FaultDamage)] : List FaultDamage)) (vs := [aC]) Try.underlying29 Try.sizeOf62 Try.zeroValue62 rfl rfl (.cons rfl .nil) (RVs.cons b5 RVs.nil) rfl rfl fun bF eH gH hs o243 b8 hxt hfl => ?_)
        have hfr := hfr.stp_ hAb hs rfl
        have z2 := z2.stp hs
        have j4 := j4.stp hs rfl
        have p2 := p2.stp hs
        have b5 := b5.stp hs
        obtain ⟨y9, cE, h⟩ := bsome h
        refine EL_do .plain rfl (D_append (g := bF) (i := 1007) Try.underlying29 info_62 rfl rfl j4 z2 rfl b8 cE fun cF iH bC hs o244 dF _ => ?_)
        have hfr := hfr.stp_ hAb hs rfl
        have z2 := z2.stp hs
        have p2 := p2.stp hs
        have b5 := b5.stp hs
        have b8 := b8.stp hs
        have o243 := o243.stp hs rfl
        refine EL_pur (v := bC) (P_assign rfl) .plain rfl ?_
        refine EL_nil (blk_n ?_)
        obtain rfl := Option.some.inj h
        exact hQ _ _ ⟨cF, (bC), hfr, j7, l7, m7, rfl, dF, o244, z5, a6, p2, b6, c6, z4⟩
       ·clear hx
        obtain ⟨eF, cC, hfr, dC, eC, iC, jC, kC, lC, y8, z8, a9, b9, c9, d9⟩ := hR
        refine E_region (EL_pur (v := .int .i64 ((w64 (n0 + (1 : Int))))) (P_int d9 rfl rfl) .plain rfl ?_)
        refine EL_pur (v := .int .i64 ((w64 (n0 + (1 : Int))))) (P_move rfl) .plain rfl ?_
        exact EL_nil (thn_n (aE (m3, (w64 (n0 + (1 : Int)))) _ _ ⟨eF, (cC), hfr, dC, eC, iC, jC, kC, lC, y8, z8, a9, b9, c9, rfl⟩ h))
      ·refine E_cond_false (Eq.trans (show ev _ _ = .bool ((decide (n0 < (((((x0).FaultLoom).Design).Rows).length : Int)))) from rfl) (congrArg Value.bool n6)) ?_
       refine E_exit ?_
       refine thn_e ?_
       refine thn_e ?_
       refine blk_hit ?_
       refine blk_n ?_
       obtain rfl := Option.some.inj h
       exact hQ _ _ ⟨a8, (i7), hfr, j7, l7, m7, n7, z2, j4, a6, p2, b6⟩
     ·clear hx
      obtain ⟨gF, mC, hfr, nC, oC, pC, qC, rC, sC, e9, g9, i9⟩ := hR
      refine E_region (EL_pur (v := .int .i64 ((w64 (y0 + (1 : Int))))) (P_int i9 rfl rfl) .plain rfl ?_)
      refine EL_pur (v := .int .i64 ((w64 (y0 + (1 : Int))))) (P_move rfl) .plain rfl ?_
      exact EL_nil (thn_n (zD (o3, (w64 (y0 + (1 : Int)))) _ _ ⟨gF, (mC), hfr, nC, oC, pC, qC, rC, sC, e9, g9, rfl⟩ h))
    ·refine E_cond_false (Eq.trans (show ev _ _ = .bool ((decide (y0 < (2 : Int)))) from rfl) (congrArg Value.bool m6)) ?_
     refine E_exit ?_
     refine thn_e ?_
     refine thn_e ?_
     refine blk_hit ?_
     obtain rfl := Option.some.inj h
     exact hQ _ _ ⟨zB, (z6), hfr, a7, c7, d7, e7, g7⟩
   ·clear hx
    obtain ⟨iF, tC, hfr, uC, vC, xC, yC, zC⟩ := hR
    obtain ⟨i1, hx, h⟩ := bsome h
    refine E_join (fun e w => ∃ (g : Gh) (v7 : Value), FrY gI wI B J (s0) g w ∧ e 1 = (.func (.yield l) #[] #[]) ∧ e 7 = v7 ∧ RV g.m w (i1 : List FaultDamage) v7 ∧ OS 1007 g w 62 (i1 : List FaultDamage) v7) (fun Q' hQ => ?_) (fun lG jH hR => ?_)
    ·replace h := hx
     clear hx
     refine E_seq (E_region (EL_pur (v := .int .i64 ((((((x0).FaultLoom).Harness).Warps).length : Int))) (P_move vC) .plain rfl ?_))
     refine EL_pur (v := .int .i64 (0)) (P_move rfl) .plain rfl ?_
     refine EL_nil (thn_n (E_block ?_))
     refine E_lp h (fun (s : (List FaultDamage) × Int) e w => ∃ (g : Gh) (v7 : Value), FrY gI wI B J (s0) g w ∧ e 1 = (.func (.yield l) #[] #[]) ∧ e 7 = v7 ∧ RV g.m w (s.1 : List FaultDamage) v7 ∧ OS 1007 g w 62 (s.1 : List FaultDamage) v7 ∧ e 75 = .int .i64 ((((((x0).FaultLoom).Harness).Warps).length : Int)) ∧ e 76 = .int .i64 (s.2)) ⟨iF, (tC), hfr, uC, xC, yC, zC, rfl, rfl⟩ (fun X261 z9 dE => ?_)
     rintro ⟨p5, o0⟩ mG jF ⟨c8, o7, hfr, p7, r7, d3, m4, d6, c5⟩ h
     refine E_seq (E_region (EL_pur (v := .bool ((decide (o0 < (((((x0).FaultLoom).Harness).Warps).length : Int))))) (P_int c5 d6 rfl) .plain rfl ?_))
     refine EL_nil (thn_n (E_seq ?_))
     rcases csome h with ⟨o6, h⟩ | ⟨o6, h⟩
     ·refine E_cond_true (Eq.trans (show ev _ _ = .bool ((decide (o0 < (((((x0).FaultLoom).Harness).Warps).length : Int)))) from rfl) (congrArg Value.bool o6)) ?_
      refine E_skip (thn_n ?_)
      obtain ⟨p3, hx, h⟩ := bsome h
      refine E_join (fun e w => ∃ (g : Gh) (v7 : Value), FrY gI wI B J (s0) g w ∧ e 1 = (.func (.yield l) #[] #[]) ∧ e 7 = v7 ∧ RV g.m w (p3 : List FaultDamage) v7 ∧ OS 1007 g w 62 (p3 : List FaultDamage) v7 ∧ e 75 = .int .i64 ((((((x0).FaultLoom).Harness).Warps).length : Int)) ∧ e 76 = .int .i64 (o0)) (fun Q' hQ => ?_) (fun nG kH hR => ?_)
      ·replace h := hx
       clear hx
       refine E_block ?_
       refine E_seq (E_region (EL_pur (v := .int .i64 (o0)) (P_move c5) .plain rfl ?_))
       refine EL_pur (v := .int .i64 (o0)) (P_assign rfl) .plain rfl ?_
       refine EL_nil (thn_n (E_region (EL_pur (v := o7) (P_move r7) .plain rfl ?_)))
       refine EL_pur (v := .int .i64 (o0)) (P_move rfl) .plain rfl ?_
       have d5 : RV c8.m jF (⟨(5 : Int), 0, 0, o0, false⟩ : FaultDamage) (.agg (setCh [[.int .i64 0], [.int .i64 0], [.int .i64 0], [.int .i64 0], [.bool false]] [(0, .int .i64 (5)), (3, .int .i64 (o0))]).flatten.toArray) := RV_build rfl (rep_pair (rfl) (rep_pair (rep_int) (rep_pair (rep_int) (rep_pair (rfl) (rep_last (rep_bool))))))
       generalize eE : (Value.agg (setCh [[.int .i64 0], [.int .i64 0], [.int .i64 0], [.int .i64 0], [.bool false]] [(0, .int .i64 (5)), (3, .int .i64 (o0))]).flatten.toArray) = aD at d5
       refine EL_pur (v := aD) (eE ▸ P_build (vs := [(0, .int .i64 (5)), (3, .int .i64 (o0))]) [[.int .i64 0], [.int .i64 0], [.int .i64 0], [.int .i64 0], [.bool false]] lay_62 rfl rfl (.cons rfl (.cons rfl .nil)) ⟨⟨_, rfl, rfl⟩, ⟨⟨_, rfl, rfl⟩, trivial⟩⟩) .plain rfl ?_
       refine EL_do .plain rfl (D_buildSlice (g := c8) 3082 (xs := ([(⟨(5 : Int), 0, 0, o0, false⟩ : FaultDamage)] : List FaultDamage)) (vs := [aD]) Try.underlying29 Try.sizeOf62 Try.zeroValue62 rfl rfl (.cons rfl .nil) (RVs.cons d5 RVs.nil) rfl rfl fun kF lH mH hs o269 d8 hxt hfl => ?_)
       have hfr := hfr.stp_ hAb hs rfl
       have d3 := d3.stp hs
       have m4 := m4.stp hs rfl
       have d5 := d5.stp hs
       obtain ⟨aA, gE, h⟩ := bsome h
       refine EL_do .plain rfl (D_append (g := kF) (i := 1007) Try.underlying29 info_62 rfl rfl m4 d3 rfl d8 gE fun lF nH bD hs o270 mF _ => ?_)
       have hfr := hfr.stp_ hAb hs rfl
       have d3 := d3.stp hs
       have d5 := d5.stp hs
       have d8 := d8.stp hs
       have o269 := o269.stp hs rfl
       refine EL_pur (v := bD) (P_assign rfl) .plain rfl ?_
       refine EL_nil (blk_n ?_)
       obtain rfl := Option.some.inj h
       exact hQ _ _ ⟨lF, (bD), hfr, p7, rfl, mF, o270, d6, c5⟩
      ·clear hx
       obtain ⟨nF, cD, hfr, dD, eD, gD, iD, j9, k9⟩ := hR
       refine E_region (EL_pur (v := .int .i64 ((w64 (o0 + (1 : Int))))) (P_int k9 rfl rfl) .plain rfl ?_)
       refine EL_pur (v := .int .i64 ((w64 (o0 + (1 : Int))))) (P_move rfl) .plain rfl ?_
       exact EL_nil (thn_n (dE (p3, (w64 (o0 + (1 : Int)))) _ _ ⟨nF, (cD), hfr, dD, eD, gD, iD, j9, rfl⟩ h))
     ·refine E_cond_false (Eq.trans (show ev _ _ = .bool ((decide (o0 < (((((x0).FaultLoom).Harness).Warps).length : Int)))) from rfl) (congrArg Value.bool o6)) ?_
      refine E_exit ?_
      refine thn_e ?_
      refine thn_e ?_
      refine blk_hit ?_
      obtain rfl := Option.some.inj h
      exact hQ _ _ ⟨c8, (o7), hfr, p7, r7, d3, m4⟩
    ·clear hx
     obtain ⟨oF, j2, hfr, jD, kD, s7, lD⟩ := hR
     refine E_seq (E_region (EL_pur (v := j2) (P_move kD) .plain rfl ?_))
     refine EL_pur (v := .int .i64 ((i1).length : Int)) (P_len Try.underlying29 rfl s7) .plain rfl ?_
     refine EL_pur (v := .int .i64 (0)) (P_move rfl) .plain rfl ?_
     refine EL_nil (thn_n (E_block ?_))
     refine E_lp h (fun (s : σ × Int) e w => ∃ (g : Gh) , FrY gI wI B J (s.1) g w ∧ e 1 = (.func (.yield l) #[] #[]) ∧ e 85 = j2 ∧ RV g.m w (i1 : List FaultDamage) j2 ∧ OS 1007 g w 62 (i1 : List FaultDamage) j2 ∧ e 86 = .int .i64 (((i1).length : Int)) ∧ e 87 = .int .i64 (s.2)) ⟨oF, hfr, jD, rfl, s7, lD, rfl, rfl⟩ (fun X274 bA iE => ?_)
     rintro ⟨q5, j1⟩ oG oH ⟨mD, hfr, t7, e6, m1, i2, i6, e5⟩ h
     refine E_seq (E_region (EL_pur (v := .bool ((decide (j1 < ((i1).length : Int))))) (P_int e5 i6 rfl) .plain rfl ?_))
     refine EL_nil (thn_n (E_seq ?_))
     rcases csome h with ⟨p6, h⟩ | ⟨p6, h⟩
     ·refine E_cond_true (Eq.trans (show ev _ _ = .bool ((decide (j1 < ((i1).length : Int)))) from rfl) (congrArg Value.bool p6)) ?_
      refine E_skip (thn_n (E_joinC h (fun (s : σ) e w => ∃ (g : Gh) , FrY gI wI B J (s) g w ∧ e 1 = (.func (.yield l) #[] #[]) ∧ e 85 = j2 ∧ RV g.m w (i1 : List FaultDamage) j2 ∧ OS 1007 g w 62 (i1 : List FaultDamage) j2 ∧ e 86 = .int .i64 (((i1).length : Int)) ∧ e 87 = .int .i64 (j1)) (fun X286 cA jE h => ?_) ?_))
      ·refine E_block ?_
       refine E_seq (E_region ?_)
       obtain ⟨u7, p8, h⟩ := bsome h
       refine EL_pur (v := ePtr j2 j1 5) (P_indexAddr (α := FaultDamage) Try.underlying29 Try.sizeOf62 e6 m1 e5 p8) .plain rfl ?_
       have s3 := PT_idx m1 p8
       refine EL_do .plain rfl (D_load (g := mD) Try.isAgg62 Try.sizeOf62 rfl s3 fun pF u3 => ?_)
       refine EL_do .plain rfl (D_allocOc (g := mD) 2015 (⟨0, 0, 0, 0, false⟩ : FaultDamage) Try.zeroValue62 (fun m w => ⟨_, (rep_two rep_int (rep_two rep_int (rep_two rep_int (rep_two rep_int rep_bool)))), rfl⟩) fun qF pH qH hs b290 cb => ?_)
       have hfr := hfr.stp_ hAb hs rfl
       have m1 := m1.stp hs
       have i2 := i2.stp hs rfl
       have s3 := s3.stp hs
       have u3 := u3.stp hs
       clear cb
       refine EL_do .plain rfl (D_storeOc (g := qF) (v := pF) Try.sizeOf62 rfl b290 rfl u3 fun nD rH hs b291 cb => ?_)
       clear cb
       have hfr := hfr.stp_ hAb hs rfl
       have m1 := m1.stp hs
       have i2 := i2.stp hs rfl
       have s3 := s3.stp hs
       have u3 := u3.stp hs
       refine EL_nil (thn_n (E_seq (E_region (EL_pur (v := (.func (.yield l) #[] #[])) (P_move t7) .plain rfl ?_))))
       refine EL_do .plain rfl (D_loadO (g := nD) Try.isAgg62 Try.sizeOf62 rfl b291 fun sH e8 => ?_)
       obtain ⟨rF, kE, h⟩ := bsome h
       obtain ⟨e4, i5⟩ := rF
       refine EL_do .plain rfl (D_yield (g := nD) (x := u7) rfl (.cons rfl .nil) hRo hfr kE ⟨_, rfl, e8⟩ fun sF tH hs hfrY => ?_)
       have m1 := m1.stp hs
       have i2 := i2.stp hs rfl
       have s3 := s3.stp hs
       have u3 := u3.stp hs
       have b291 := b291.stp hs rfl
       have e8 := e8.stp hs
       have hfr := hfrY
       clear hfrY
       refine EL_pur (v := .bool (!e4)) (P_not rfl) .plain rfl ?_
       refine EL_nil (thn_n ?_)
       rcases csome h with ⟨r6, h⟩ | ⟨r6, h⟩
       ·refine E_cond_true (Eq.trans (show ev _ _ = .bool ((!e4)) from rfl) (congrArg Value.bool r6)) ?_
        refine E_ret (blk_r ?_)
        refine thn_r ?_
        refine thn_r ?_
        refine blk_r ?_
        obtain rfl := Option.some.inj h
        exact end0 rfl rfl (FrY.done hfr)
       ·refine E_cond_false (Eq.trans (show ev _ _ = .bool ((!e4)) from rfl) (congrArg Value.bool r6)) ?_
        exact E_skip (blk_n (thn_n (jE (i5) _ _ ⟨sF, hfr, t7, e6, m1, i2, i6, e5⟩ h)))
      ·rintro t5 pG uH ⟨tF, hfr, oD, l9, m9, n9, o9, p9⟩ h
       refine E_region (EL_pur (v := .int .i64 ((w64 (j1 + (1 : Int))))) (P_int p9 rfl rfl) .plain rfl ?_)
       refine EL_pur (v := .int .i64 ((w64 (j1 + (1 : Int))))) (P_move rfl) .plain rfl ?_
       exact EL_nil (thn_n (iE (t5, (w64 (j1 + (1 : Int)))) _ _ ⟨tF, hfr, oD, l9, m9, n9, o9, rfl⟩ h))
     ·refine E_cond_false (Eq.trans (show ev _ _ = .bool ((decide (j1 < ((i1).length : Int)))) from rfl) (congrArg Value.bool p6)) ?_
      refine E_exit ?_
      refine thn_e ?_
      refine thn_e ?_
      refine blk_hit ?_
      obtain rfl := Option.some.inj h
      exact end0n rfl rfl (FrY.done hfr)
/-- griffe/fault.fits$1 -/
def f91 (x0 : FaultSight) (z0 : List Str) : Option (Bool) :=
 (rem64 (x0).Pick ((z0).length : Int)).bind fun y6 =>
 (idx z0 y6).bind fun y7 =>
 (idx (y7).b (x0).Warp).bind fun j0 =>
 some ((!((j0 == (120 : UInt8)) == (x0).Lifted)))
theorem en91 : Enters Try.prog 91 := enters_of Try.func91 (by kernel_rfl) rfl
theorem wk91 {gI : Gh} {wI : World} {x0 : FaultSight} {z0 : List Str} {up0 : Value} (rp0 : RV gI.m wI x0 up0) {pf0 : Value} (qf0 : PT gI.m wI z0 pf0) {r : Bool} (h : f91 x0 z0 = some r) : Fn Try.prog 91 #[up0, pf0] gI wI (fun _ _ v => v = .bool (r)) := by
 unfold f91 at h
 refine fn_of_E Try.func91 rfl (Nat.le_of_ble_eq_true rfl) fun g0 hm hfr => ?_
 have qf0 : PT g0.m wI z0 pf0 := hm ▸ qf0
 have rp0 : RV g0.m wI x0 up0 := hm ▸ rp0
 show E _ 19 none _ _ _ _ _
 refine E_seq (E_region (EL_do .plain rfl (D_box (g := g0) rfl rp0 fun g1 w1 p1 hs q1 => ?_)))
 have hfr := hfr.ext hs
 have rp0 := rp0.ext hs
 have qf0 := qf0.ext hs
 refine EL_pur (v := .bool false) (P_assign rfl) .plain rfl ?_
 refine EL_nil (thn_n (E_seq (L_load (x := .tmp 1) Try.isAgg36 Try.sizeOf36 qf0 fun v2 r2 hl2 => ?_)))
 have q3 := PT_field (part_FaultSight_0).1 q1
 refine L_load (x := .tmp 5) Try.isAgg3 Try.sizeOf3 q3 fun v4 r4 m1 => ?_
 obtain rfl := RV_int.1 r4
 refine L_load (x := .tmp 1) Try.isAgg36 Try.sizeOf36 qf0 fun v5 r5 z1 => ?_
 obtain ⟨y6, d2, h⟩ := bsome h
 obtain ⟨y7, u0, h⟩ := bsome h
 have q8 := PT_idx r2 u0
 refine L_load (x := .tmp 10) Try.isAgg9 Try.sizeOf9 q8 fun v9 r9 i2 => ?_
 obtain rfl := RV_str.1 r9
 have n0 := PT_field (part_FaultSight_1).1 q1
 refine L_load (x := .tmp 12) Try.isAgg3 Try.sizeOf3 n0 fun p2 j2 y0 => ?_
 obtain rfl := RV_int.1 j2
 obtain ⟨j0, i1, h⟩ := bsome h
 have o0 := PT_field (part_FaultSight_2).1 q1
 refine L_load (x := .tmp 16) Try.isAgg4 Try.sizeOf4 o0 fun q2 m2 j1 => ?_
 obtain rfl := RV_bool.1 m2
 refine E_drawL (g := g1) (n := 16) [] [0, 1, 2, 3, 4, 5, 6, 7, 8, 9, 10, 11, 12, 13, 14, 15] rfl mixed (by kernel_rfl) trivial ?_
 refine L_ld (c := v2) rfl rfl .plain (fun _ _ h => h.ch) hl2 rfl ?_
 refine L_pur (c := fPtr p1 0) rfl rfl .plain (fun _ _ hd => P_fieldAddr at_56_0 rfl (PT.ptr q1)) ?_
 refine L_ld (c := .int .i64 ((x0).Pick)) rfl rfl .plain (fun _ _ h => h.ch) m1 rfl ?_
 refine L_ld (c := v5) rfl rfl .plain (fun _ _ h => h.ch) z1 rfl ?_
 refine L_pur (c := .int .i64 ((z0).length : Int)) rfl rfl .plain (fun _ _ hd => P_len Try.underlying36 rfl r5) ?_
 refine L_pur (c := .int .i64 (y6)) rfl rfl .plain (fun _ _ hd => P_int rfl rfl (congrArg (Option.map (Value.int .i64)) d2)) ?_
 refine L_pur (c := ePtr v2 y6 1) rfl rfl .plain (fun _ _ hd => P_indexAddr (α := Str) Try.underlying36 Try.sizeOf9 rfl r2 rfl u0) ?_
 refine L_ld (c := Str.v (y7)) rfl rfl .plain (fun _ _ h => h.ch) i2 rfl ?_
 refine L_pur (c := fPtr p1 1) rfl rfl .plain (fun _ _ hd => P_fieldAddr at_56_1 rfl (PT.ptr q1)) ?_
 refine L_ld (c := .int .i64 ((x0).Warp)) rfl rfl .plain (fun _ _ h => h.ch) y0 rfl ?_
 refine L_pur (c := .int .u8 (UInt8.toNat (j0))) rfl rfl .plain (fun _ _ hd => P_indexS Try.underlying9 rfl rfl i1) ?_
 refine L_pur (c := .bool ((j0 == (120 : UInt8)))) rfl rfl .plain (fun _ _ hd => P_u8 rfl rfl rfl) ?_
 refine L_pur (c := fPtr p1 2) rfl rfl .plain (fun _ _ hd => P_fieldAddr at_56_2 rfl (PT.ptr q1)) ?_
 refine L_ld (c := .bool ((x0).Lifted)) rfl rfl .plain (fun _ _ h => h.ch) j1 rfl ?_
 refine L_pur (c := .bool ((!((j0 == (120 : UInt8)) == (x0).Lifted)))) rfl rfl .plain (fun _ _ hd => P_bool Try.underlying4 rfl rfl rfl) ?_
 refine L_pur (c := .bool ((!((j0 == (120 : UInt8)) == (x0).Lifted)))) rfl rfl .plain (fun _ _ hd => P_assign rfl) ?_
 refine L_nil fun s2 z2 hall => ?_
 have hs := hall.1
 have hfr := hfr.ext hs
 have rp0 := rp0.ext hs
 have qf0 := qf0.ext hs
 have q1 := q1.ext hs
 have r2 := r2.ext hs
 have q3 := q3.ext hs
 have r5 := r5.ext hs
 have q8 := q8.ext hs
 have n0 := n0.ext hs
 have o0 := o0.ext hs
 clear hs hall
 refine EL_nil (thn_n (E_ret ?_))
 obtain rfl := Option.some.inj h
 exact end1 rfl rfl (show _ = .bool ((!((j0 == (120 : UInt8)) == (x0).Lifted))) from rfl) ⟨_, hfr, rfl⟩
/-- griffe/grifferef03.In -/
def f92 (x0 : Int) (x1 : Int) (x2 : Int) : Option (Bool) :=
 Option.bind (α := Bool) (
  bif (decide (x0 ≥ x1)) then
   some ((decide (x0 ≤ x2)))
  else
   some (false)
  ) fun j0 =>
 some (j0)
theorem en92 : Enters Try.prog 92 := enters_of Try.func92 (by kernel_rfl) rfl
theorem wk92 {gI : Gh} {wI : World} {x0 : Int} {x1 : Int} {x2 : Int}  {r : Bool} (h : f92 x0 x1 x2 = some r) : Fn Try.prog 92 #[.int .i64 (x0), .int .i64 (x1), .int .i64 (x2)] gI wI (fun _ _ v => v = .bool (r)) := by
 unfold f92 at h
 refine fn_of_E Try.func92 rfl (Nat.le_of_ble_eq_true rfl) fun g0 hm hfr => ?_
 show E _ 15 none _ _ _ _ _
 refine E_seq (E_region (EL_pur (v := .bool false) (P_assign rfl) .plain rfl ?_))
 refine EL_nil (thn_n ?_)
 obtain ⟨j0, hx, h⟩ := bsome h
 refine E_join (fun e w => ∃ (g : Gh) , Fr gI wI g w ∧ e 6 = .bool (j0)) (fun Q' hQ => ?_) (fun o0 w3 hR => ?_)
 ·replace h := hx
  clear hx
  refine E_region (EL_pur (v := .int .i64 (x0)) (P_move rfl) .plain rfl ?_)
  refine EL_pur (v := .int .i64 (x1)) (P_move rfl) .plain rfl ?_
  refine EL_pur (v := .bool ((decide (x0 ≥ x1)))) (P_int rfl rfl rfl) .plain rfl ?_
  refine EL_pur (v := .bool ((decide (x0 ≥ x1)))) (P_move rfl) .plain rfl ?_
  rcases csome h with ⟨hc2, h⟩ | ⟨hc2, h⟩
  ·refine EL_pur (v := .int .i64 (x0)) (P_move rfl) (.yes2 rfl rfl hc2) rfl ?_
   refine EL_pur (v := .int .i64 (x2)) (P_move rfl) (.yes2 rfl rfl hc2) rfl ?_
   refine EL_pur (v := .bool ((decide (x0 ≤ x2)))) (P_int rfl rfl rfl) (.yes2 rfl rfl hc2) rfl ?_
   refine EL_pur (v := .bool ((decide (x0 ≤ x2)))) (P_pick (b := (decide (x0 ≥ x1))) rfl (pick_t hc2 rfl)) .plain rfl ?_
   refine EL_pur (v := .bool ((decide (x0 ≤ x2)))) (P_assign rfl) .plain rfl ?_
   refine EL_nil ?_
   obtain rfl := Option.some.inj h
   exact hQ _ _ ⟨g0, hfr, rfl⟩
  ·refine EL_skip (.no2 rfl rfl hc2 rfl) rfl ?_
   refine EL_skip (.no2 rfl rfl hc2 rfl) rfl ?_
   refine EL_skip (.no2 rfl rfl hc2 rfl) rfl ?_
   refine EL_pur (v := .bool false) (P_pick (b := (decide (x0 ≥ x1))) rfl (pick_f hc2 rfl)) .plain rfl ?_
   refine EL_pur (v := .bool false) (P_assign rfl) .plain rfl ?_
   refine EL_nil ?_
   obtain rfl := Option.some.inj h
   exact hQ _ _ ⟨g0, hfr, rfl⟩
 ·clear hx
  obtain ⟨g3, hfr, n0⟩ := hR
  refine E_ret ?_
  obtain rfl := Option.some.inj h
  exact end1 rfl rfl (show _ = .bool (j0) from n0) ⟨_, hfr, rfl⟩
/-- griffe/grifferef01.In -/
def f93 (x0 : Int) (x1 : Int) (x2 : Int) : Option (Bool) :=
 Option.bind (α := Bool) (
  bif (decide (x0 ≥ x1)) then
   some ((decide (x0 ≤ x2)))
  else
   some (false)
  ) fun j0 =>
 some (j0)
theorem en93 : Enters Try.prog 93 := enters_of Try.func93 (by kernel_rfl) rfl
theorem wk93 {gI : Gh} {wI : World} {x0 : Int} {x1 : Int} {x2 : Int}  {r : Bool} (h : f93 x0 x1 x2 = some r) : Fn Try.prog 93 #[.int .i64 (x0), .int .i64 (x1), .int .i64 (x2)] gI wI (fun _ _ v => v = .bool (r)) := by
 unfold f93 at h
 refine fn_of_E Try.func93 rfl (Nat.le_of_ble_eq_true rfl) fun g0 hm hfr => ?_
 show E _ 15 none _ _ _ _ _
 refine E_seq (E_region (EL_pur (v := .bool false) (P_assign rfl) .plain rfl ?_))
 refine EL_nil (thn_n ?_)
 obtain ⟨j0, hx, h⟩ := bsome h
 refine E_join (fun e w => ∃ (g : Gh) , Fr gI wI g w ∧ e 6 = .bool (j0)) (fun Q' hQ => ?_) (fun o0 w3 hR => ?_)
 ·replace h := hx
  clear hx
  refine E_region (EL_pur (v := .int .i64 (x0)) (P_move rfl) .plain rfl ?_)
  refine EL_pur (v := .int .i64 (x1)) (P_move rfl) .plain rfl ?_
  refine EL_pur (v := .bool ((decide (x0 ≥ x1)))) (P_int rfl rfl rfl) .plain rfl ?_
  refine EL_pur (v := .bool ((decide (x0 ≥ x1)))) (P_move rfl) .plain rfl ?_
  rcases csome h with ⟨hc2, h⟩ | ⟨hc2, h⟩
  ·refine EL_pur (v := .int .i64 (x0)) (P_move rfl) (.yes2 rfl rfl hc2) rfl ?_
   refine EL_pur (v := .int .i64 (x2)) (P_move rfl) (.yes2 rfl rfl hc2) rfl ?_
   refine EL_pur (v := .bool ((decide (x0 ≤ x2)))) (P_int rfl rfl rfl) (.yes2 rfl rfl hc2) rfl ?_
   refine EL_pur (v := .bool ((decide (x0 ≤ x2)))) (P_pick (b := (decide (x0 ≥ x1))) rfl (pick_t hc2 rfl)) .plain rfl ?_
   refine EL_pur (v := .bool ((decide (x0 ≤ x2)))) (P_assign rfl) .plain rfl ?_
   refine EL_nil ?_
   obtain rfl := Option.some.inj h
   exact hQ _ _ ⟨g0, hfr, rfl⟩
  ·refine EL_skip (.no2 rfl rfl hc2 rfl) rfl ?_
   refine EL_skip (.no2 rfl rfl hc2 rfl) rfl ?_
   refine EL_skip (.no2 rfl rfl hc2 rfl) rfl ?_
   refine EL_pur (v := .bool false) (P_pick (b := (decide (x0 ≥ x1))) rfl (pick_f hc2 rfl)) .plain rfl ?_
   refine EL_pur (v := .bool false) (P_assign rfl) .plain rfl ?_
   refine EL_nil ?_
   obtain rfl := Option.some.inj h
   exact hQ _ _ ⟨g0, hfr, rfl⟩
 ·clear hx
  obtain ⟨g3, hfr, n0⟩ := hR
  refine E_ret ?_
  obtain rfl := Option.some.inj h
  exact end1 rfl rfl (show _ = .bool (j0) from n0) ⟨_, hfr, rfl⟩
/-- griffe/fault.changes$1 -/
def f97 (x0 : FaultFaultLoom) (x1 : FaultDamage) (x2 : List Int) : Option ((List Int)) :=
 (idx x2 (x1).Pick).bind fun y5 =>
 (shl64 (1 : Int) (x1).Hook).bind fun y9 =>
 (idx x2 (x1).Pick).bind fun u0 =>
 some ((List.set x2 (Int.toNat (x1).Pick) ((bit64 .xor y5 y9))))
theorem en97 : Enters Try.prog 97 := enters_of Try.func97 (by kernel_rfl) rfl
theorem wk97 {iI : Nat} {gI : Gh} {wI : World} {x0 : FaultFaultLoom} {x1 : FaultDamage} {x2 : List Int} {up0 : Value} (rp0 : RV gI.m wI x0 up0) {up1 : Value} (rp1 : RV gI.m wI x1 up1) {up2 : Value} (mp2 : OM iI gI wI 3 x2 up2) {up3 : Value} {r : (List Int)} (h : f97 x0 x1 x2 = some r) : FnM Try.prog 97 #[up0, up1, up2, up3] iI gI wI (fun g w v => v = .tuple #[] ∧ OM iI g w 3 r up2) := by
 unfold f97 at h
 refine fnM_of_E Try.func97 rfl (Nat.le_of_ble_eq_true rfl) fun g0 hm hfr => ?_
 have n0 := mp2
 replace mp2 := mp2.enter
 rw [← hm] at mp2
 replace hm : g0.m = gI.m := by rw [hm]
 have rp0 : RV g0.m wI x0 up0 := hm ▸ rp0
 have rp1 : RV g0.m wI x1 up1 := hm ▸ rp1
 show E _ 18 none _ _ _ _ _
 refine E_seq (E_region (EL_do .plain rfl (D_box (g := g0) rfl rp0 fun g1 w1 p1 hs q1 => ?_)))
 have hfr := hfr.ext hs
 have rp0 := rp0.ext hs
 have rp1 := rp1.ext hs
 have mp2 := mp2.ext hs
 refine EL_do .plain rfl (D_box (g := g1) rfl rp1 fun g2 w2 p2 hs q2 => ?_)
 have hfr := hfr.ext hs
 have rp0 := rp0.ext hs
 have rp1 := rp1.ext hs
 have mp2 := mp2.ext hs
 have q1 := q1.ext hs
 refine EL_nil (thn_n ?_)
 have q3 := PT_field (part_FaultDamage_1).1 q2
 refine L_load (x := .tmp 9) Try.isAgg3 Try.sizeOf3 q3 fun v4 r4 y0 => ?_
 obtain rfl := RV_int.1 r4
 obtain ⟨y5, o0, h⟩ := bsome h
 refine L_loadM (x := .tmp 11) Try.isAgg3 Try.sizeOf3 mp2 o0 fun v6 r6 i1 => ?_
 obtain rfl := RV_int.1 r6
 have q7 := PT_field (part_FaultDamage_2).1 q2
 refine L_load (x := .tmp 13) Try.isAgg3 Try.sizeOf3 q7 fun v8 r8 j1 => ?_
 obtain rfl := RV_int.1 r8
 obtain ⟨y9, m1, h⟩ := bsome h
 obtain ⟨u0, j0, h⟩ := bsome h
 refine E_drawL (g := g2) (n := 10) [] [0, 1, 2, 3, 4, 5, 6, 7, 8, 9] rfl mixed (by kernel_rfl) trivial ?_
 refine L_pur (c := up2) rfl rfl .plain (fun _ _ hd => P_move rfl) ?_
 refine L_pur (c := fPtr p2 1) rfl rfl .plain (fun _ _ hd => P_fieldAddr at_62_1 rfl (PT.ptr q2)) ?_
 refine L_ld (c := .int .i64 ((x1).Pick)) rfl rfl .plain (fun _ _ h => h.ch) y0 rfl ?_
 refine L_pur (c := ePtr up2 (x1).Pick 1) rfl rfl .plain (fun _ _ hd => P_indexAddrM (α := Int) Try.underlying22 Try.sizeOf3 rfl mp2 rfl o0) ?_
 refine L_ld (c := .int .i64 (y5)) rfl rfl .plain (fun _ _ h => ⟨h.ch, fun b hb _ => h.below.block b hb⟩) i1 rfl ?_
 refine L_pur (c := fPtr p2 2) rfl rfl .plain (fun _ _ hd => P_fieldAddr at_62_2 rfl (PT.ptr q2)) ?_
 refine L_ld (c := .int .i64 ((x1).Hook)) rfl rfl .plain (fun _ _ h => h.ch) j1 rfl ?_
 refine L_pur (c := .int .i64 (y9)) rfl rfl .plain (fun _ _ hd => P_int rfl rfl (congrArg (Option.map (Value.int .i64)) m1)) ?_
 refine L_pur (c := .int .i64 ((bit64 .xor y5 y9))) rfl rfl .plain (fun _ _ hd => P_int rfl rfl rfl) ?_
 refine L_pur (c := ePtr up2 (x1).Pick 1) rfl rfl .plain (fun _ _ hd => P_indexAddrM (α := Int) Try.underlying22 Try.sizeOf3 rfl mp2 rfl j0) ?_
 refine L_nil fun z1 d2 hall => ?_
 have hs := hall.1
 have hfr := hfr.ext hs
 have rp0 := rp0.ext hs
 have rp1 := rp1.ext hs
 have mp2 := mp2.ext hs
 have q1 := q1.ext hs
 have q2 := q2.ext hs
 have q3 := q3.ext hs
 have q7 := q7.ext hs
 clear hs hall
 refine EL_do .plain rfl (D_storeM (g := z1) (α := Int) (a' := ((bit64 .xor y5 y9))) Try.sizeOf3 rfl mp2 j0 rfl (RV_int.2 rfl) fun i2 j2 hs b28 => ?_)
 have hfr := hfr.stp hs
 have rp0 := rp0.stp hs
 have rp1 := rp1.stp hs
 have q1 := q1.stp hs
 have q2 := q2.stp hs
 have q3 := q3.stp hs
 have q7 := q7.stp hs
 refine EL_nil ?_
 obtain rfl := Option.some.inj h
 exact end0n rfl rfl ⟨_, hfr, rfl, n0.back b28⟩
/-- griffe/fault.changes$2 -/
def f98 (x0 : FaultFaultLoom) (x1 : FaultDamage) (x2 : List Int) : Option ((List Int)) :=
 lp (σ := (List Int) × Int) (fun k3 (o0, j0) =>
  bif (decide (j0 < ((x2).length : Int))) then
   Option.bind (α := (List Int)) (
    (idx o0 j0).bind fun j1 =>
    (shl64 (1 : Int) (x1).Hook).bind fun m1 =>
    (idx o0 j0).bind fun x4 =>
    bif (!(x1).Up) then
     (idx ((List.set o0 (Int.toNat j0) ((bit64 .or j1 m1)))) j0).bind fun s2 =>
     (shl64 (1 : Int) (x1).Hook).bind fun d2 =>
     (idx ((List.set o0 (Int.toNat j0) ((bit64 .or j1 m1)))) j0).bind fun j4 =>
     some ((List.set ((List.set o0 (Int.toNat j0) ((bit64 .or j1 m1)))) (Int.toNat j0) ((bit64 .xor s2 d2))))
    else
     some ((List.set o0 (Int.toNat j0) ((bit64 .or j1 m1))))
    ) fun y0 =>
   k3 (y0, (w64 (j0 + (1 : Int))))
  else
   some (o0)
  ) big (x2, (0 : Int))
theorem en98 : Enters Try.prog 98 := enters_of Try.func98 (by kernel_rfl) rfl
theorem wk98 {iI : Nat} {gI : Gh} {wI : World} {x0 : FaultFaultLoom} {x1 : FaultDamage} {x2 : List Int} {up0 : Value} (rp0 : RV gI.m wI x0 up0) {up1 : Value} (rp1 : RV gI.m wI x1 up1) {up2 : Value} (mp2 : OM iI gI wI 3 x2 up2) {up3 : Value} {r : (List Int)} (h : f98 x0 x1 x2 = some r) : FnM Try.prog 98 #[up0, up1, up2, up3] iI gI wI (fun g w v => v = .tuple #[] ∧ OM iI g w 3 r up2) := by
 unfold f98 at h
 refine fnM_of_E Try.func98 rfl (Nat.le_of_ble_eq_true rfl) fun g0 hm hfr => ?_
 have e4 := mp2
 replace mp2 := mp2.enter
 rw [← hm] at mp2
 replace hm : g0.m = gI.m := by rw [hm]
 have rp0 : RV g0.m wI x0 up0 := hm ▸ rp0
 have rp1 : RV g0.m wI x1 up1 := hm ▸ rp1
 show E _ 36 none _ _ _ _ _
 refine E_seq (E_region (EL_do .plain rfl (D_box (g := g0) rfl rp0 fun g1 w1 p1 hs q1 => ?_)))
 have hfr := hfr.ext hs
 have rp0 := rp0.ext hs
 have rp1 := rp1.ext hs
 have mp2 := mp2.ext hs
 refine EL_do .plain rfl (D_box (g := g1) rfl rp1 fun g2 w2 p2 hs q2 => ?_)
 have hfr := hfr.ext hs
 have rp0 := rp0.ext hs
 have rp1 := rp1.ext hs
 have mp2 := mp2.ext hs
 have q1 := q1.ext hs
 refine EL_nil (thn_n (E_seq (E_region (EL_pur (v := up2) (P_move rfl) .plain rfl ?_))))
 refine EL_pur (v := .int .i64 ((x2).length : Int)) (P_lenM Try.underlying22 rfl mp2) .plain rfl ?_
 refine EL_pur (v := .int .i64 (0)) (P_move rfl) .plain rfl ?_
 refine EL_nil (thn_n (E_block ?_))
 refine E_lp h (fun (s : (List Int) × Int) e w => ∃ (g : Gh) , FrM iI gI wI g w ∧ e 2 = up2 ∧ OM 1 g w 3 (s.1 : List Int) up2 ∧ e 5 = p2 ∧ PT g.m w (x1 : FaultDamage) p2 ∧ e 10 = .int .i64 (((x2).length : Int)) ∧ e 11 = .int .i64 (s.2)) ⟨g2, hfr, rfl, mp2, rfl, q2, rfl, rfl⟩ (fun X3 k3 hk3 => ?_)
 rintro ⟨o0, j0⟩ o5 w4 ⟨g4, hfr, j2, u0, i2, n0, m2, z1⟩ h
 refine E_seq (E_region (EL_pur (v := .bool ((decide (j0 < ((x2).length : Int))))) (P_int z1 m2 rfl) .plain rfl ?_))
 refine EL_nil (thn_n (E_seq ?_))
 rcases csome h with ⟨o3, h⟩ | ⟨o3, h⟩
 ·refine E_cond_true (Eq.trans (show ev _ _ = .bool ((decide (j0 < ((x2).length : Int)))) from rfl) (congrArg Value.bool o3)) ?_
  refine E_skip (thn_n ?_)
  obtain ⟨y0, hx, h⟩ := bsome h
  refine E_join (fun e w => ∃ (g : Gh) , FrM iI gI wI g w ∧ e 2 = up2 ∧ OM 1 g w 3 (y0 : List Int) up2 ∧ e 5 = p2 ∧ PT g.m w (x1 : FaultDamage) p2 ∧ e 10 = .int .i64 (((x2).length : Int)) ∧ e 11 = .int .i64 (j0)) (fun Q' hQ => ?_) (fun j5 l5 hR => ?_)
  ·replace h := hx
   clear hx
   refine E_block ?_
   refine E_seq (E_region (EL_pur (v := .int .i64 (j0)) (P_move z1) .plain rfl ?_))
   refine EL_pur (v := .int .i64 (j0)) (P_assign rfl) .plain rfl ?_
   refine EL_nil (thn_n (E_seq ?_))
   obtain ⟨j1, p3, h⟩ := bsome h
   refine L_loadM (x := .tmp 16) Try.isAgg3 Try.sizeOf3 u0 p3 fun p5 z4 m4 => ?_
   obtain rfl := RV_int.1 z4
   have i1 := PT_field (part_FaultDamage_2).1 n0
   refine L_load (x := .tmp 18) Try.isAgg3 Try.sizeOf3 i1 fun q5 b5 n4 => ?_
   obtain rfl := RV_int.1 b5
   obtain ⟨m1, o4, h⟩ := bsome h
   obtain ⟨x4, q3, h⟩ := bsome h
   refine E_drawL (g := g4) (n := 9) [] [0, 1, 2, 3, 4, 5, 6, 7, 8] rfl mixed (by kernel_rfl) trivial ?_
   refine L_pur (c := up2) rfl rfl .plain (fun _ _ hd => P_move j2) ?_
   refine L_pur (c := .int .i64 (j0)) rfl rfl .plain (fun _ _ hd => P_move rfl) ?_
   refine L_pur (c := ePtr up2 j0 1) rfl rfl .plain (fun _ _ hd => P_indexAddrM (α := Int) Try.underlying22 Try.sizeOf3 rfl u0 rfl p3) ?_
   refine L_ld (c := .int .i64 (j1)) rfl rfl .plain (fun _ _ h => ⟨h.ch, fun b hb _ => h.below.block b hb⟩) m4 rfl ?_
   refine L_pur (c := fPtr p2 2) rfl rfl .plain (fun _ _ hd => P_fieldAddr at_62_2 i2 (PT.ptr n0)) ?_
   refine L_ld (c := .int .i64 ((x1).Hook)) rfl rfl .plain (fun _ _ h => h.ch) n4 rfl ?_
   refine L_pur (c := .int .i64 (m1)) rfl rfl .plain (fun _ _ hd => P_int rfl rfl (congrArg (Option.map (Value.int .i64)) o4)) ?_
   refine L_pur (c := .int .i64 ((bit64 .or j1 m1))) rfl rfl .plain (fun _ _ hd => P_int rfl rfl rfl) ?_
   refine L_pur (c := ePtr up2 j0 1) rfl rfl .plain (fun _ _ hd => P_indexAddrM (α := Int) Try.underlying22 Try.sizeOf3 rfl u0 rfl q3) ?_
   refine L_nil fun c5 r5 hall => ?_
   have hs := hall.1
   have hfr := hfr.ext hs
   have u0 := u0.ext hs
   have n0 := n0.ext hs
   have i1 := i1.ext hs
   clear hs hall
   refine EL_do .plain rfl (D_storeM (g := c5) (α := Int) (a' := ((bit64 .or j1 m1))) Try.sizeOf3 rfl u0 q3 rfl (RV_int.2 rfl) fun r3 t5 hs b92 => ?_)
   have hfr := hfr.stp hs
   have n0 := n0.stp hs
   have i1 := i1.stp hs
   refine EL_nil (thn_n (E_seq (E_region (EL_pur (v := fPtr p2 4) (P_fieldAddr at_62_4 i2 (PT.ptr n0)) .plain rfl ?_))))
   have z2 := PT_field (part_FaultDamage_4).1 n0
   refine EL_do .plain rfl (D_load (g := r3) Try.isAgg4 Try.sizeOf4 rfl z2 fun u5 d5 => ?_)
   obtain rfl := RV_bool.1 d5
   refine EL_pur (v := .bool (!(x1).Up)) (P_not rfl) .plain rfl ?_
   refine EL_nil (thn_n ?_)
   rcases csome h with ⟨e3, h⟩ | ⟨e3, h⟩
   ·refine E_cond_true (Eq.trans (show ev _ _ = .bool ((!(x1).Up)) from rfl) (congrArg Value.bool e3)) ?_
    obtain ⟨s2, s3, h⟩ := bsome h
    refine L_loadM (x := .tmp 28) Try.isAgg3 Try.sizeOf3 b92 s3 fun x5 e5 p4 => ?_
    obtain rfl := RV_int.1 e5
    have d3 := PT_field (part_FaultDamage_2).1 n0
    refine L_load (x := .tmp 30) Try.isAgg3 Try.sizeOf3 d3 fun y5 i5 q4 => ?_
    obtain rfl := RV_int.1 i5
    obtain ⟨d2, i4, h⟩ := bsome h
    obtain ⟨j4, i3, h⟩ := bsome h
    refine E_drawL (g := r3) (n := 9) [] [0, 1, 2, 3, 4, 5, 6, 7, 8] rfl mixed (by kernel_rfl) trivial ?_
    refine L_pur (c := up2) rfl rfl .plain (fun _ _ hd => P_move j2) ?_
    refine L_pur (c := .int .i64 (j0)) rfl rfl .plain (fun _ _ hd => P_move rfl) ?_
    refine L_pur (c := ePtr up2 j0 1) rfl rfl .plain (fun _ _ hd => P_indexAddrM (α := Int) Try.underlying22 Try.sizeOf3 rfl b92 rfl s3) ?_
    refine L_ld (c := .int .i64 (s2)) rfl rfl .plain (fun _ _ h => ⟨h.ch, fun b hb _ => h.below.block b hb⟩) p4 rfl ?_
    refine L_pur (c := fPtr p2 2) rfl rfl .plain (fun _ _ hd => P_fieldAddr at_62_2 i2 (PT.ptr n0)) ?_
    refine L_ld (c := .int .i64 ((x1).Hook)) rfl rfl .plain (fun _ _ h => h.ch) q4 rfl ?_
    refine L_pur (c := .int .i64 (d2)) rfl rfl .plain (fun _ _ hd => P_int rfl rfl (congrArg (Option.map (Value.int .i64)) i4)) ?_
    refine L_pur (c := .int .i64 ((bit64 .xor s2 d2))) rfl rfl .plain (fun _ _ hd => P_int rfl rfl rfl) ?_
    refine L_pur (c := ePtr up2 j0 1) rfl rfl .plain (fun _ _ hd => P_indexAddrM (α := Int) Try.underlying22 Try.sizeOf3 rfl b92 rfl i3) ?_
    refine L_nil fun r4 m5 hall => ?_
    have hs := hall.1
    have hfr := hfr.ext hs
    have b92 := b92.ext hs
    have n0 := n0.ext hs
    have i1 := i1.ext hs
    have z2 := z2.ext hs
    have d3 := d3.ext hs
    clear hs hall
    refine EL_do .plain rfl (D_storeM (g := r4) (α := Int) (a' := ((bit64 .xor s2 d2))) Try.sizeOf3 rfl b92 i3 rfl (RV_int.2 rfl) fun s4 n5 hs b131 => ?_)
    have hfr := hfr.stp hs
    have n0 := n0.stp hs
    have i1 := i1.stp hs
    have z2 := z2.stp hs
    have d3 := d3.stp hs
    refine EL_nil (blk_n ?_)
    obtain rfl := Option.some.inj h
    exact hQ _ _ ⟨s4, hfr, j2, b131, i2, n0, m2, z1⟩
   ·refine E_cond_false (Eq.trans (show ev _ _ = .bool ((!(x1).Up)) from rfl) (congrArg Value.bool e3)) ?_
    refine E_skip (blk_n ?_)
    obtain rfl := Option.some.inj h
    exact hQ _ _ ⟨r3, hfr, j2, b92, i2, n0, m2, z1⟩
  ·clear hx
   obtain ⟨u4, hfr, u3, z3, c4, d4, j3, m3⟩ := hR
   refine E_region (EL_pur (v := .int .i64 ((w64 (j0 + (1 : Int))))) (P_int m3 rfl rfl) .plain rfl ?_)
   refine EL_pur (v := .int .i64 ((w64 (j0 + (1 : Int))))) (P_move rfl) .plain rfl ?_
   exact EL_nil (thn_n (hk3 (y0, (w64 (j0 + (1 : Int)))) _ _ ⟨u4, hfr, u3, z3, c4, d4, j3, rfl⟩ h))
 ·refine E_cond_false (Eq.trans (show ev _ _ = .bool ((decide (j0 < ((x2).length : Int)))) from rfl) (congrArg Value.bool o3)) ?_
  refine E_exit ?_
  refine thn_e ?_
  refine thn_e ?_
  refine blk_hit ?_
  obtain rfl := Option.some.inj h
  exact end0n rfl rfl ⟨_, hfr, rfl, e4.back u0⟩
/-- griffe/fault.changes$3 -/
def f99 (x0 : FaultFaultLoom) (x1 : FaultDamage) (x2 : List Int) : Option ((List Int)) :=
 Option.bind (α := Int) (
  lp (σ := Int × Int) (fun j4 (o0, j0) =>
   bif (decide (j0 < (((x0).FaultLoom).Design).Hooks)) then
    Option.bind (α := Int) (
     (shl64 o0 (1 : Int)).bind fun j2 =>
     (idx x2 (x1).Pick).bind fun m4 =>
     (shr64 m4 j0).bind fun z1 =>
     some ((bit64 .or j2 (bit64 .and z1 (1 : Int))))
     ) fun u0 =>
    j4 (u0, (w64 (j0 + (1 : Int))))
   else
    some (o0)
   ) big ((0 : Int), (0 : Int))
  ) fun n0 =>
 (idx x2 (x1).Pick).bind fun u4 =>
 some ((List.set x2 (Int.toNat (x1).Pick) n0))
theorem en99 : Enters Try.prog 99 := enters_of Try.func99 (by kernel_rfl) rfl
theorem wk99 {iI : Nat} {gI : Gh} {wI : World} {x0 : FaultFaultLoom} {x1 : FaultDamage} {x2 : List Int} {up0 : Value} (rp0 : RV gI.m wI x0 up0) {up1 : Value} (rp1 : RV gI.m wI x1 up1) {up2 : Value} (mp2 : OM iI gI wI 3 x2 up2) {up3 : Value} {r : (List Int)} (h : f99 x0 x1 x2 = some r) : FnM Try.prog 99 #[up0, up1, up2, up3] iI gI wI (fun g w v => v = .tuple #[] ∧ OM iI g w 3 r up2) := by
 unfold f99 at h
 refine fnM_of_E Try.func99 rfl (Nat.le_of_ble_eq_true rfl) fun g0 hm hfr => ?_
 have q3 := mp2
 replace mp2 := mp2.enter
 rw [← hm] at mp2
 replace hm : g0.m = gI.m := by rw [hm]
 have rp0 : RV g0.m wI x0 up0 := hm ▸ rp0
 have rp1 : RV g0.m wI x1 up1 := hm ▸ rp1
 show E _ 34 none _ _ _ _ _
 refine E_seq (E_region (EL_do .plain rfl (D_box (g := g0) rfl rp0 fun g1 w1 p1 hs q1 => ?_)))
 have hfr := hfr.ext hs
 have rp0 := rp0.ext hs
 have rp1 := rp1.ext hs
 have mp2 := mp2.ext hs
 refine EL_do .plain rfl (D_box (g := g1) rfl rp1 fun g2 w2 p2 hs q2 => ?_)
 have hfr := hfr.ext hs
 have rp0 := rp0.ext hs
 have rp1 := rp1.ext hs
 have mp2 := mp2.ext hs
 have q1 := q1.ext hs
 refine EL_nil (thn_n (E_seq (E_region (EL_pur (v := .int .i64 (0)) (P_assign rfl) .plain rfl ?_))))
 refine EL_nil (thn_n ?_)
 obtain ⟨n0, hx, h⟩ := bsome h
 refine E_join (fun e w => ∃ (g : Gh) , FrM iI gI wI g w ∧ e 2 = up2 ∧ OM 1 g w 3 (x2 : List Int) up2 ∧ e 5 = p2 ∧ PT g.m w (x1 : FaultDamage) p2 ∧ e 8 = .int .i64 (n0)) (fun Q' hQ => ?_) (fun l5 x4 hR => ?_)
 ·replace h := hx
  clear hx
  refine E_seq (E_region (EL_pur (v := fPtr p1 0) (P_fieldAddr at_98_0 rfl (PT.ptr q1)) .plain rfl ?_))
  have n4 := PT_field (part_FaultFaultLoom_0).1 q1
  refine EL_pur (v := fPtr (fPtr p1 0) 2) (P_fieldAddr at_28_1 rfl (PT.ptr n4)) .plain rfl ?_
  have o4 := PT_field (part_FaultLoom_1).1 n4
  refine EL_pur (v := fPtr (fPtr (fPtr p1 0) 2) 0) (P_fieldAddr at_26_0 rfl (PT.ptr o4)) .plain rfl ?_
  have z4 := PT_field (part_Design_0).1 o4
  refine EL_do .plain rfl (D_load (g := g2) Try.isAgg3 Try.sizeOf3 rfl z4 fun o5 b5 => ?_)
  obtain rfl := RV_int.1 b5
  refine EL_pur (v := .int .i64 (0)) (P_move rfl) .plain rfl ?_
  refine EL_nil (thn_n (E_block ?_))
  refine E_lp h (fun (s : Int × Int) e w => ∃ (g : Gh) , FrM iI gI wI g w ∧ e 2 = up2 ∧ OM 1 g w 3 (x2 : List Int) up2 ∧ e 5 = p2 ∧ PT g.m w (x1 : FaultDamage) p2 ∧ e 8 = .int .i64 (s.1) ∧ e 13 = .int .i64 ((((x0).FaultLoom).Design).Hooks) ∧ e 14 = .int .i64 (s.2)) ⟨g2, hfr, rfl, mp2, rfl, q2, rfl, rfl, rfl⟩ (fun X27 j4 q4 => ?_)
  rintro ⟨o0, j0⟩ m5 p5 ⟨z2, hfr, d2, y0, i2, i1, d3, m2, m1⟩ h
  refine E_seq (E_region (EL_pur (v := .bool ((decide (j0 < (((x0).FaultLoom).Design).Hooks)))) (P_int m1 m2 rfl) .plain rfl ?_))
  refine EL_nil (thn_n (E_seq ?_))
  rcases csome h with ⟨s2, h⟩ | ⟨s2, h⟩
  ·refine E_cond_true (Eq.trans (show ev _ _ = .bool ((decide (j0 < (((x0).FaultLoom).Design).Hooks))) from rfl) (congrArg Value.bool s2)) ?_
   refine E_skip (thn_n ?_)
   obtain ⟨u0, hx, h⟩ := bsome h
   refine E_join (fun e w => ∃ (g : Gh) , FrM iI gI wI g w ∧ e 2 = up2 ∧ OM 1 g w 3 (x2 : List Int) up2 ∧ e 5 = p2 ∧ PT g.m w (x1 : FaultDamage) p2 ∧ e 8 = .int .i64 (u0) ∧ e 13 = .int .i64 ((((x0).FaultLoom).Design).Hooks) ∧ e 14 = .int .i64 (j0)) (fun Q' hQ => ?_) (fun n5 q5 hR => ?_)
   ·replace h := hx
    clear hx
    refine E_block ?_
    refine E_seq (E_region (EL_pur (v := .int .i64 (j0)) (P_move m1) .plain rfl ?_))
    refine EL_pur (v := .int .i64 (j0)) (P_assign rfl) .plain rfl ?_
    refine EL_nil (thn_n (E_region (EL_pur (v := .int .i64 (o0)) (P_move d3) .plain rfl ?_)))
    obtain ⟨j2, r4, h⟩ := bsome h
    refine EL_pur (v := .int .i64 (j2)) (P_shlu rfl rfl r4) .plain rfl ?_
    refine EL_pur (v := up2) (P_move d2) .plain rfl ?_
    refine EL_pur (v := fPtr p2 1) (P_fieldAddr at_62_1 i2 (PT.ptr i1)) .plain rfl ?_
    have c5 := PT_field (part_FaultDamage_1).1 i1
    refine EL_do .plain rfl (D_load (g := z2) Try.isAgg3 Try.sizeOf3 rfl c5 fun r5 d5 => ?_)
    obtain rfl := RV_int.1 d5
    obtain ⟨m4, i3, h⟩ := bsome h
    refine EL_pur (v := ePtr up2 (x1).Pick 1) (P_indexAddrM (α := Int) Try.underlying22 Try.sizeOf3 rfl y0 rfl i3) .plain rfl ?_
    refine EL_do .plain rfl (D_loadM (g := z2) Try.isAgg3 Try.sizeOf3 rfl y0 i3 fun t5 e5 => ?_)
    obtain rfl := RV_int.1 e5
    refine EL_pur (v := .int .i64 (j0)) (P_move rfl) .plain rfl ?_
    obtain ⟨z1, s4, h⟩ := bsome h
    refine EL_pur (v := .int .i64 (z1)) (P_int rfl rfl (congrArg (Option.map (Value.int .i64)) s4)) .plain rfl ?_
    refine EL_pur (v := .int .i64 ((bit64 .and z1 (1 : Int)))) (P_int rfl rfl rfl) .plain rfl ?_
    refine EL_pur (v := .int .i64 ((bit64 .or j2 (bit64 .and z1 (1 : Int))))) (P_int rfl rfl rfl) .plain rfl ?_
    refine EL_pur (v := .int .i64 ((bit64 .or j2 (bit64 .and z1 (1 : Int))))) (P_assign rfl) .plain rfl ?_
    refine EL_nil (blk_n ?_)
    obtain rfl := Option.some.inj h
    exact hQ _ _ ⟨z2, hfr, d2, y0, i2, i1, rfl, m2, m1⟩
   ·clear hx
    obtain ⟨i5, hfr, r3, s3, u3, z3, c4, j3, m3⟩ := hR
    refine E_region (EL_pur (v := .int .i64 ((w64 (j0 + (1 : Int))))) (P_int m3 rfl rfl) .plain rfl ?_)
    refine EL_pur (v := .int .i64 ((w64 (j0 + (1 : Int))))) (P_move rfl) .plain rfl ?_
    exact EL_nil (thn_n (q4 (u0, (w64 (j0 + (1 : Int)))) _ _ ⟨i5, hfr, r3, s3, u3, z3, c4, j3, rfl⟩ h))
  ·refine E_cond_false (Eq.trans (show ev _ _ = .bool ((decide (j0 < (((x0).FaultLoom).Design).Hooks))) from rfl) (congrArg Value.bool s2)) ?_
   refine E_exit ?_
   refine thn_e ?_
   refine thn_e ?_
   refine blk_hit ?_
   obtain rfl := Option.some.inj h
   exact hQ _ _ ⟨z2, hfr, d2, y0, i2, i1, d3⟩
 ·clear hx
  obtain ⟨p4, hfr, d4, e3, e4, j1, i4⟩ := hR
  refine E_region (EL_pur (v := up2) (P_move d4) .plain rfl ?_)
  refine EL_pur (v := fPtr p2 1) (P_fieldAddr at_62_1 e4 (PT.ptr j1)) .plain rfl ?_
  have o3 := PT_field (part_FaultDamage_1).1 j1
  refine EL_do .plain rfl (D_load (g := p4) Try.isAgg3 Try.sizeOf3 rfl o3 fun u5 j5 => ?_)
  obtain rfl := RV_int.1 j5
  refine EL_pur (v := .int .i64 (n0)) (P_move i4) .plain rfl ?_
  obtain ⟨u4, p3, h⟩ := bsome h
  refine EL_pur (v := ePtr up2 (x1).Pick 1) (P_indexAddrM (α := Int) Try.underlying22 Try.sizeOf3 rfl e3 rfl p3) .plain rfl ?_
  refine EL_do .plain rfl (D_storeM (g := p4) (α := Int) (a' := n0) Try.sizeOf3 rfl e3 p3 rfl (RV_int.2 rfl) fun x5 x4 hs b47 => ?_)
  have hfr := hfr.stp hs
  have j1 := j1.stp hs
  have o3 := o3.stp hs
  refine EL_nil ?_
  obtain rfl := Option.some.inj h
  exact end0n rfl rfl ⟨_, hfr, rfl, q3.back b47⟩
/-- griffe/fault.changes$4 -/
def f100 (x0 : FaultFaultLoom) (x1 : FaultDamage) (x2 : List Int) : Option ((List Int)) :=
 (rem64 (w64 ((x1).Pick + (1 : Int))) ((x2).length : Int)).bind fun y5 =>
 (idx x2 (x1).Pick).bind fun y8 =>
 (idx x2 y5).bind fun j0 =>
 (idx x2 (x1).Pick).bind fun d2 =>
 (idx ((List.set x2 (Int.toNat (x1).Pick) j0)) y5).bind fun i2 =>
 some ((List.set ((List.set x2 (Int.toNat (x1).Pick) j0)) (Int.toNat y5) y8))
theorem en100 : Enters Try.prog 100 := enters_of Try.func100 (by kernel_rfl) rfl
theorem wk100 {iI : Nat} {gI : Gh} {wI : World} {x0 : FaultFaultLoom} {x1 : FaultDamage} {x2 : List Int} {up0 : Value} (rp0 : RV gI.m wI x0 up0) {up1 : Value} (rp1 : RV gI.m wI x1 up1) {up2 : Value} (mp2 : OM iI gI wI 3 x2 up2) {up3 : Value} {r : (List Int)} (h : f100 x0 x1 x2 = some r) : FnM Try.prog 100 #[up0, up1, up2, up3] iI gI wI (fun g w v => v = .tuple #[] ∧ OM iI g w 3 r up2) := by
 unfold f100 at h
 refine fnM_of_E Try.func100 rfl (Nat.le_of_ble_eq_true rfl) fun g0 hm hfr => ?_
 have i1 := mp2
 replace mp2 := mp2.enter
 rw [← hm] at mp2
 replace hm : g0.m = gI.m := by rw [hm]
 have rp0 : RV g0.m wI x0 up0 := hm ▸ rp0
 have rp1 : RV g0.m wI x1 up1 := hm ▸ rp1
 show E _ 35 none _ _ _ _ _
 refine E_seq (E_region (EL_do .plain rfl (D_box (g := g0) rfl rp0 fun g1 w1 p1 hs q1 => ?_)))
 have hfr := hfr.ext hs
 have rp0 := rp0.ext hs
 have rp1 := rp1.ext hs
 have mp2 := mp2.ext hs
 refine EL_do .plain rfl (D_box (g := g1) rfl rp1 fun g2 w2 p2 hs q2 => ?_)
 have hfr := hfr.ext hs
 have rp0 := rp0.ext hs
 have rp1 := rp1.ext hs
 have mp2 := mp2.ext hs
 have q1 := q1.ext hs
 refine EL_nil (thn_n (E_seq (E_region (EL_pur (v := fPtr p2 1) (P_fieldAddr at_62_1 rfl (PT.ptr q2)) .plain rfl ?_))))
 have q3 := PT_field (part_FaultDamage_1).1 q2
 refine EL_do .plain rfl (D_load (g := g2) Try.isAgg3 Try.sizeOf3 rfl q3 fun v4 r4 => ?_)
 obtain rfl := RV_int.1 r4
 refine EL_pur (v := .int .i64 ((w64 ((x1).Pick + (1 : Int))))) (P_int rfl rfl rfl) .plain rfl ?_
 refine EL_pur (v := up2) (P_move rfl) .plain rfl ?_
 refine EL_pur (v := .int .i64 ((x2).length : Int)) (P_lenM Try.underlying22 rfl mp2) .plain rfl ?_
 obtain ⟨y5, j2, h⟩ := bsome h
 refine EL_pur (v := .int .i64 (y5)) (P_int rfl rfl (congrArg (Option.map (Value.int .i64)) j2)) .plain rfl ?_
 refine EL_pur (v := .int .i64 (y5)) (P_assign rfl) .plain rfl ?_
 refine EL_nil (thn_n (E_seq ?_))
 have q6 := PT_field (part_FaultDamage_1).1 q2
 refine L_load (x := .tmp 18) Try.isAgg3 Try.sizeOf3 q6 fun v7 r7 m2 => ?_
 obtain rfl := RV_int.1 r7
 obtain ⟨y8, j1, h⟩ := bsome h
 refine L_loadM (x := .tmp 20) Try.isAgg3 Try.sizeOf3 mp2 j1 fun v9 r9 s2 => ?_
 obtain rfl := RV_int.1 r9
 obtain ⟨j0, o0, h⟩ := bsome h
 refine L_loadM (x := .tmp 24) Try.isAgg3 Try.sizeOf3 mp2 o0 fun i3 z2 z1 => ?_
 obtain rfl := RV_int.1 z2
 refine E_drawL (g := g2) (n := 11) [] [0, 1, 2, 3, 4, 5, 6, 7, 8, 9, 10] rfl mixed (by kernel_rfl) trivial ?_
 refine L_pur (c := up2) rfl rfl .plain (fun _ _ hd => P_move rfl) ?_
 refine L_pur (c := fPtr p2 1) rfl rfl .plain (fun _ _ hd => P_fieldAddr at_62_1 rfl (PT.ptr q2)) ?_
 refine L_ld (c := .int .i64 ((x1).Pick)) rfl rfl .plain (fun _ _ h => h.ch) m2 rfl ?_
 refine L_pur (c := ePtr up2 (x1).Pick 1) rfl rfl .plain (fun _ _ hd => P_indexAddrM (α := Int) Try.underlying22 Try.sizeOf3 rfl mp2 rfl j1) ?_
 refine L_ld (c := .int .i64 (y8)) rfl rfl .plain (fun _ _ h => ⟨h.ch, fun b hb _ => h.below.block b hb⟩) s2 rfl ?_
 refine L_pur (c := up2) rfl rfl .plain (fun _ _ hd => P_move rfl) ?_
 refine L_pur (c := .int .i64 (y5)) rfl rfl .plain (fun _ _ hd => P_move rfl) ?_
 refine L_pur (c := ePtr up2 y5 1) rfl rfl .plain (fun _ _ hd => P_indexAddrM (α := Int) Try.underlying22 Try.sizeOf3 rfl mp2 rfl o0) ?_
 refine L_ld (c := .int .i64 (j0)) rfl rfl .plain (fun _ _ h => ⟨h.ch, fun b hb _ => h.below.block b hb⟩) z1 rfl ?_
 refine L_pur (c := .int .i64 (y8)) rfl rfl .plain (fun _ _ hd => P_assign rfl) ?_
 refine L_pur (c := .int .i64 (j0)) rfl rfl .plain (fun _ _ hd => P_assign rfl) ?_
 refine L_nil fun m1 j3 hall => ?_
 have hs := hall.1
 have hfr := hfr.ext hs
 have rp0 := rp0.ext hs
 have rp1 := rp1.ext hs
 have mp2 := mp2.ext hs
 have q1 := q1.ext hs
 have q2 := q2.ext hs
 have q3 := q3.ext hs
 have q6 := q6.ext hs
 clear hs hall
 refine EL_nil (thn_n (E_seq (E_region (EL_pur (v := up2) (P_move rfl) .plain rfl ?_))))
 refine EL_pur (v := fPtr p2 1) (P_fieldAddr at_62_1 rfl (PT.ptr q2)) .plain rfl ?_
 have n0 := PT_field (part_FaultDamage_1).1 q2
 refine EL_do .plain rfl (D_load (g := m1) Try.isAgg3 Try.sizeOf3 rfl n0 fun m3 d3 => ?_)
 obtain rfl := RV_int.1 d3
 refine EL_pur (v := .int .i64 (j0)) (P_move rfl) .plain rfl ?_
 obtain ⟨d2, u0, h⟩ := bsome h
 refine EL_pur (v := ePtr up2 (x1).Pick 1) (P_indexAddrM (α := Int) Try.underlying22 Try.sizeOf3 rfl mp2 rfl u0) .plain rfl ?_
 refine EL_do .plain rfl (D_storeM (g := m1) (α := Int) (a' := j0) Try.sizeOf3 rfl mp2 u0 rfl (RV_int.2 rfl) fun e3 o3 hs b40 => ?_)
 have hfr := hfr.stp hs
 have rp0 := rp0.stp hs
 have rp1 := rp1.stp hs
 have q1 := q1.stp hs
 have q2 := q2.stp hs
 have q3 := q3.stp hs
 have q6 := q6.stp hs
 have n0 := n0.stp hs
 refine EL_nil (thn_n (E_region (EL_pur (v := up2) (P_move rfl) .plain rfl ?_)))
 refine EL_pur (v := .int .i64 (y5)) (P_move rfl) .plain rfl ?_
 refine EL_pur (v := .int .i64 (y8)) (P_move rfl) .plain rfl ?_
 obtain ⟨i2, y0, h⟩ := bsome h
 refine EL_pur (v := ePtr up2 y5 1) (P_indexAddrM (α := Int) Try.underlying22 Try.sizeOf3 rfl b40 rfl y0) .plain rfl ?_
 refine EL_do .plain rfl (D_storeM (g := e3) (α := Int) (a' := y8) Try.sizeOf3 rfl b40 y0 rfl (RV_int.2 rfl) fun p3 r3 hs b42 => ?_)
 have hfr := hfr.stp hs
 have rp0 := rp0.stp hs
 have rp1 := rp1.stp hs
 have q1 := q1.stp hs
 have q2 := q2.stp hs
 have q3 := q3.stp hs
 have q6 := q6.stp hs
 have n0 := n0.stp hs
 refine EL_nil ?_
 obtain rfl := Option.some.inj h
 exact end0n rfl rfl ⟨_, hfr, rfl, i1.back b42⟩
/-- griffe/fault.changes$5 -/
def f101 (x0 : FaultFaultLoom) (x1 : FaultDamage) (x3 : List (Int × Bool)) : Option ((List (Int × Bool))) :=
 some ((mset x3 ((x1).Warp) true))
theorem en101 : Enters Try.prog 101 := enters_of Try.func101 (by kernel_rfl) rfl
theorem wk101 {iI : Nat} {gI : Gh} {wI : World} {x0 : FaultFaultLoom} {x1 : FaultDamage} {x3 : List (Int × Bool)} {up0 : Value} (rp0 : RV gI.m wI x0 up0) {up1 : Value} (rp1 : RV gI.m wI x1 up1) {up2 : Value} {up3 : Value} (mp3 : MP (Value.int .i64) iI gI wI x3 up3) {r : (List (Int × Bool))} (h : f101 x0 x1 x3 = some r) : FnM Try.prog 101 #[up0, up1, up2, up3] iI gI wI (fun g w v => v = .tuple #[] ∧ MP (Value.int .i64) iI g w r up3) := by
 unfold f101 at h
 refine fnM_of_E Try.func101 rfl (Nat.le_of_ble_eq_true rfl) fun g0 hm hfr => ?_
 have j0 := mp3
 replace mp3 := mp3.enter
 rw [← hm] at mp3
 replace hm : g0.m = gI.m := by rw [hm]
 have rp0 : RV g0.m wI x0 up0 := hm ▸ rp0
 have rp1 : RV g0.m wI x1 up1 := hm ▸ rp1
 show E _ 11 none _ _ _ _ _
 refine E_seq (E_region (EL_do .plain rfl (D_box (g := g0) rfl rp0 fun g1 w1 p1 hs q1 => ?_)))
 have hfr := hfr.ext hs
 have rp0 := rp0.ext hs
 have rp1 := rp1.ext hs
 have mp3 := mp3.ext hs
 refine EL_do .plain rfl (D_box (g := g1) rfl rp1 fun g2 w2 p2 hs q2 => ?_)
 have hfr := hfr.ext hs
 have rp0 := rp0.ext hs
 have rp1 := rp1.ext hs
 have mp3 := mp3.ext hs
 have q1 := q1.ext hs
 refine EL_nil (thn_n (E_region (EL_pur (v := up3) (P_move rfl) .plain rfl ?_)))
 refine EL_pur (v := fPtr p2 3) (P_fieldAddr at_62_3 rfl (PT.ptr q2)) .plain rfl ?_
 have q3 := PT_field (part_FaultDamage_3).1 q2
 refine EL_do .plain rfl (D_load (g := g2) Try.isAgg3 Try.sizeOf3 rfl q3 fun v4 r4 => ?_)
 obtain rfl := RV_int.1 r4
 refine EL_do .plain rfl (D_mapUpdate (g := g2) Try.underlying126 key_3 rfl mp3 rfl rfl (RV_bool.2 rfl) fun g5 w5 hs m5 => ?_)
 have hfr := hfr.stp hs
 have rp0 := rp0.stp hs
 have rp1 := rp1.stp hs
 have q1 := q1.stp hs
 have q2 := q2.stp hs
 have q3 := q3.stp hs
 refine EL_nil ?_
 obtain rfl := Option.some.inj h
 exact end0n rfl rfl ⟨_, hfr, rfl, j0.back m5⟩
def fvF (f : Nat) : Fv := ⟨.func (.func f) #[] #[], rfl⟩
def fv0 : Fv := ⟨.nilFunc, rfl⟩
def chgM : List (Int × Fv) := [(1, fvF 97), (2, fvF 98), (3, fvF 99), (4, fvF 100), (5, fvF 101)]
def fchg (k : Int) (l : FaultFaultLoom) (d : FaultDamage) (rows : List Int) (br : List (Int × Bool)) : Option (List Int × List (Int × Bool)) :=
 if k = 1 then (f97 l d rows).map (fun r => (r, br)) else if k = 2 then (f98 l d rows).map (fun r => (r, br)) else if k = 3 then (f99 l d rows).map (fun r => (r, br)) else if k = 4 then (f100 l d rows).map (fun r => (r, br))
 else if k = 5 then (f101 l d br).map (fun b => (rows, b)) else none
theorem en81 : Enters Try.prog 81 := enters_of Try.func81 (by kernel_rfl) rfl
theorem key_60 : KeyLaw Try.prog 60 (Value.int .i64) := keyLaw_int Try.underlying60
theorem wk81 {i : Nat} {gI : Gh} {wI : World} : FnG Try.prog 81 #[] gI wI (fun g w v => MP (Value.int .i64) i g w chgM v) := by
 refine fnG_of_E Try.func81 rfl (Nat.le_of_ble_eq_true rfl) fun g0 hm hfr => ?_
 show E _ 3 none _ _ _ _ _
 refine E_seq (E_region (EL_pur (v := .map none) (P_assign rfl) .plain rfl (EL_nil (thn_n ?_))))
 refine E_seq (E_region (EL_do .plain rfl (D_makeMap (g := g0) (Value.int .i64) Fv 5 fun g1 w1 v1 hs1 m1 => ?_)))
 refine EL_do .plain rfl (D_insert (v := fvF 97) Try.underlying130 key_60 rfl m1 rfl rfl (RV_fv.2 rfl) fun g2 w2 hs2 m2 => ?_)
 refine EL_do .plain rfl (D_insert (v := fvF 98) Try.underlying130 key_60 rfl m2 rfl rfl (RV_fv.2 rfl) fun g3 w3 hs3 m3 => ?_)
 refine EL_do .plain rfl (D_insert (v := fvF 99) Try.underlying130 key_60 rfl m3 rfl rfl (RV_fv.2 rfl) fun g4 w4 hs4 m4 => ?_)
 refine EL_do .plain rfl (D_insert (v := fvF 100) Try.underlying130 key_60 rfl m4 rfl rfl (RV_fv.2 rfl) fun g5 w5 hs5 m5 => ?_)
 refine EL_do .plain rfl (D_insert (v := fvF 101) Try.underlying130 key_60 rfl m5 rfl rfl (RV_fv.2 rfl) fun g6 w6 hs6 m6 => ?_)
 refine EL_pur (v := v1) (P_move rfl) .plain rfl ?_
 refine EL_pur (v := v1) (P_assign rfl) .plain rfl (EL_nil (thn_n ?_))
 have hfr := (((((hfr.stp hs1).stp hs2).stp hs3).stp hs4).stp hs5).stp hs6
 obtain ⟨g', hx, hmp⟩ := MP.hand (i := i) hfr m6
 exact E_ret (end1 rfl rfl (show _ = v1 from rfl) ⟨g', hx, hmp⟩)
theorem D_chg {e : Env} {g : Gh} {w : World} {K : Value → World → Prop} {c x1 x2 x3 x4 : Operand} {ats : Array TypeId} {k : Int} {l : FaultFaultLoom} {d : FaultDamage} {rows rows' : List Int} {br br' : List (Int × Bool)} {i j : Nat} {lv dv rv bv : Value}
  (hf : fchg k l d rows br = some (rows', br')) (hc : ev e c = ((mget chgM k).getD fv0).v) (h1 : ev e x1 = lv) (h2 : ev e x2 = dv) (h3 : ev e x3 = rv) (h4 : ev e x4 = bv) (r1 : RV g.m w l lv) (r2 : RV g.m w d dv) (hom : OM i g w 3 rows rv) (hmp : MP (Value.int .i64) j g w br bv) (hij : Nat.beq i j = false) (hji : Nat.beq j i = false)
  (h : ∀ g1 w1 g' w' v, Stp i g w g1 w1 → Stp j g1 w1 g' w' → OM i g' w' 3 rows' rv → MP (Value.int .i64) j g' w' br' bv → K v w') : Doe Try.prog (.call { callee := .value c, args := #[x1, x2, x3, x4], argTypes := ats }) e w K := by
 unfold fchg at hf
 have ha : Args e [x1, x2, x3, x4] [lv, dv, rv, bv] := .cons h1 (.cons h2 (.cons h3 (.cons h4 .nil)))
 have one : ∀ (f : Nat) (fF : FaultFaultLoom → FaultDamage → List Int → Option (List Int)), ev e c = .func (.func f) #[] #[] → Enters Try.prog f → (fF l d rows).map (fun r => (r, br)) = some (rows', br') →
   (∀ r, fF l d rows = some r → FnM Try.prog f #[lv, dv, rv, bv] i g w (fun g w v => v = .tuple #[] ∧ OM i g w 3 r rv)) → Doe Try.prog (.call { callee := .value c, args := #[x1, x2, x3, x4], argTypes := ats }) e w K := by
  intro f fF hcf hen hmap hw
  obtain ⟨r, hr, he⟩ := Option.map_eq_some_iff.1 hmap
  obtain ⟨rfl, rfl⟩ : r = rows' ∧ br = br' := by simpa using he
  exact D_callMv (g := g) (i := i) hcf hen ha (hw r hr) fun g' w' v hs hR => h g' w' g' w' v hs (stp_refl _ _ _) hR.2 (hmp.stp hs hji)
 split at hf
 ·rename_i hk; subst hk; exact one 97 f97 hc en97 hf fun r hr => wk97 r1 r2 hom hr
 split at hf
 ·rename_i hk; subst hk; exact one 98 f98 hc en98 hf fun r hr => wk98 r1 r2 hom hr
 split at hf
 ·rename_i hk; subst hk; exact one 99 f99 hc en99 hf fun r hr => wk99 r1 r2 hom hr
 split at hf
 ·rename_i hk; subst hk; exact one 100 f100 hc en100 hf fun r hr => wk100 r1 r2 hom hr
 split at hf
 ·rename_i hk; subst hk
  obtain ⟨r, hr, he⟩ := Option.map_eq_some_iff.1 hf
  obtain ⟨rfl, rfl⟩ : rows = rows' ∧ r = br' := by simpa using he
  exact D_callMv (g := g) (i := j) (f := 101) hc en101 ha (wk101 r1 r2 hmp hr) fun g' w' v hs hR => h g w g' w' v (stp_refl _ _ _) hs (hom.stp hs hij) hR.2
 ·cases hf
/-- griffe/grifferef01.Points -/
def f103 (x0 : Int) (x1 : Int) : Option ((List Bool)) :=
 Option.bind (α := (List Bool)) (
  lp (σ := Int × (List Bool) × Int) (fun k19 (n0, o0, j0) =>
   jn (σ := Unit) (fun (_ : Unit) =>
    Option.bind (α := Int × (List Bool)) (
     (rem64 n0 (2 : Int)).bind fun z1 =>
     (apnd 1 o0 (([(z1 == (1 : Int))] : List Bool))).bind fun j4 =>
     (quo64 n0 (2 : Int)).bind fun m2 =>
     some (m2, j4)
     ) fun (j1, u0) =>
    k19 (j1, u0, (w64 (j0 + (1 : Int))))
    ) fun m4 =>
   bif (decide (j0 < x1)) then
    m4 ()
   else
    some (o0)
   ) big (x0, ([] : List Bool), (0 : Int))
  ) fun m1 =>
 some (m1)
theorem en103 : Enters Try.prog 103 := enters_of Try.func103 (by kernel_rfl) rfl
theorem wk103 {gI : Gh} {wI : World} {x0 : Int} {x1 : Int}  {r : (List Bool)} (h : f103 x0 x1 = some r) : Fn Try.prog 103 #[.int .i64 (x0), .int .i64 (x1)] gI wI (fun m w v => RV m w (r) v) := by
 unfold f103 at h
 refine fn_of_E Try.func103 rfl (Nat.le_of_ble_eq_true rfl) fun g0 hm hfr => ?_
 show E _ 22 none _ _ _ _ _
 refine E_seq (E_region (EL_pur (v := .slice none 0 0) (P_assign rfl) .plain rfl ?_))
 refine EL_nil (thn_n (E_seq (E_region (EL_do .plain rfl (D_buildSlice (g := g0) 3007 (xs := ([] : List Bool)) (vs := []) Try.underlying110 Try.sizeOf4 Try.zeroValue4 rfl rfl .nil RVs.nil rfl rfl fun g1 w1 v1 hs o1 r1 hxt hfl => ?_)))))
 have hfr := hfr.stp hs
 refine EL_pur (v := v1) (P_assign rfl) .plain rfl ?_
 refine EL_nil (thn_n ?_)
 obtain ⟨m1, hx, h⟩ := bsome h
 refine E_join (fun e w => ∃ (g : Gh) (v5 : Value), Fr gI wI g w ∧ e 5 = v5 ∧ RV g.m w (m1 : List Bool) v5 ∧ OS 3007 g w 4 (m1 : List Bool) v5) (fun Q' hQ => ?_) (fun i5 n5 hR => ?_)
 ·replace h := hx
  clear hx
  refine E_seq (E_region (EL_pur (v := .int .i64 (0)) (P_assign rfl) .plain rfl ?_))
  refine EL_nil (thn_n (E_block ?_))
  refine E_lp h (fun (s : Int × (List Bool) × Int) e w => ∃ (g : Gh) (v5 : Value), Fr gI wI g w ∧ e 0 = .int .i64 (s.1) ∧ e 1 = .int .i64 (x1) ∧ e 5 = v5 ∧ RV g.m w (s.2.1 : List Bool) v5 ∧ OS 3007 g w 4 (s.2.1 : List Bool) v5 ∧ e 6 = .int .i64 (s.2.2)) ⟨g1, (v1), hfr, rfl, rfl, rfl, r1, o1, rfl⟩ (fun X19 k19 p4 => ?_)
  rintro ⟨n0, o0, j0⟩ j5 o5 ⟨n4, y0, hfr, j3, p2, q2, s2, z2, d3⟩ h
  refine E_joinC h (fun (s : Unit) e w => ∃ (g : Gh) , Fr gI wI g w ∧ e 0 = .int .i64 (n0) ∧ e 1 = .int .i64 (x1) ∧ e 5 = y0 ∧ RV g.m w (o0 : List Bool) y0 ∧ OS 3007 g w 4 (o0 : List Bool) y0 ∧ e 6 = .int .i64 (j0)) (fun X22 m4 q4 h => ?_) ?_
  ·refine E_seq (E_region (EL_pur (v := .int .i64 (j0)) (P_move d3) .plain rfl ?_))
   refine EL_pur (v := .int .i64 (x1)) (P_move p2) .plain rfl ?_
   refine EL_pur (v := .bool ((decide (j0 < x1)))) (P_int rfl rfl rfl) .plain rfl ?_
   refine EL_nil (thn_n ?_)
   rcases csome h with ⟨j2, h⟩ | ⟨j2, h⟩
   ·refine E_cond_true (Eq.trans (show ev _ _ = .bool ((decide (j0 < x1))) from rfl) (congrArg Value.bool j2)) ?_
    exact E_skip (thn_n (q4 () _ _ ⟨n4, hfr, j3, p2, q2, s2, z2, d3⟩ h))
   ·refine E_cond_false (Eq.trans (show ev _ _ = .bool ((decide (j0 < x1))) from rfl) (congrArg Value.bool j2)) ?_
    refine E_exit ?_
    refine thn_e ?_
    refine thn_e ?_
    refine blk_hit ?_
    obtain rfl := Option.some.inj h
    exact hQ _ _ ⟨n4, (y0), hfr, q2, s2, z2⟩
  ·rintro _ l5 p5 ⟨x4, hfr, e3, m3, o3, i1, d2, p3⟩ h
   obtain ⟨⟨j1, u0⟩, hx, h⟩ := bsome h
   refine E_join (fun e w => ∃ (g : Gh) (v5 : Value), Fr gI wI g w ∧ e 0 = .int .i64 (j1) ∧ e 1 = .int .i64 (x1) ∧ e 5 = v5 ∧ RV g.m w (u0 : List Bool) v5 ∧ OS 3007 g w 4 (u0 : List Bool) v5 ∧ e 6 = .int .i64 (j0)) (fun Q' hQ => ?_) (fun m5 q5 hR => ?_)
   ·replace h := hx
    clear hx
    refine E_block ?_
    refine E_seq (E_region (EL_pur (v := y0) (P_move o3) .plain rfl ?_))
    refine EL_pur (v := .int .i64 (n0)) (P_move e3) .plain rfl ?_
    obtain ⟨z1, r4, h⟩ := bsome h
    refine EL_pur (v := .int .i64 (z1)) (P_int rfl rfl (congrArg (Option.map (Value.int .i64)) r4)) .plain rfl ?_
    refine EL_pur (v := .bool ((z1 == (1 : Int)))) (P_int rfl rfl rfl) .plain rfl ?_
    refine EL_do .plain rfl (D_buildSlice (g := x4) 3017 (xs := ([(z1 == (1 : Int))] : List Bool)) (vs := [.bool ((z1 == (1 : Int)))]) Try.underlying110 Try.sizeOf4 Try.zeroValue4 rfl rfl (.cons rfl .nil) (RVs.cons (RV_bool.2 rfl) RVs.nil) rfl rfl fun z4 r5 t5 hs o31 i3 hxt hfl => ?_)
    have hfr := hfr.stp hs
    have i1 := i1.stp hs
    have d2 := d2.stp hs rfl
    obtain ⟨j4, s4, h⟩ := bsome h
    refine EL_do .plain rfl (D_append (g := z4) (i := 3007) Try.underlying110 info_4 rfl rfl d2 i1 rfl i3 s4 fun b5 u5 o4 hs o32 c5 _ => ?_)
    have hfr := hfr.stp hs
    have i1 := i1.stp hs
    have i3 := i3.stp hs
    have o31 := o31.stp hs rfl
    refine EL_pur (v := o4) (P_assign rfl) .plain rfl ?_
    refine EL_nil (thn_n (E_region (EL_pur (v := .int .i64 (n0)) (P_move e3) .plain rfl ?_)))
    obtain ⟨m2, u4, h⟩ := bsome h
    refine EL_pur (v := .int .i64 (m2)) (P_int rfl rfl (congrArg (Option.map (Value.int .i64)) u4)) .plain rfl ?_
    refine EL_pur (v := .int .i64 (m2)) (P_assign rfl) .plain rfl ?_
    refine EL_nil (blk_n ?_)
    obtain ⟨rfl, rfl⟩ := pairs2 h
    exact hQ _ _ ⟨b5, (o4), hfr, rfl, m3, rfl, c5, o32, p3⟩
   ·clear hx
    obtain ⟨d5, q3, hfr, r3, s3, u3, z3, c4, d4⟩ := hR
    refine E_region (EL_pur (v := .int .i64 (j0)) (P_move d4) .plain rfl ?_)
    refine EL_pur (v := .int .i64 ((w64 (j0 + (1 : Int))))) (P_int rfl rfl rfl) .plain rfl ?_
    refine EL_pur (v := .int .i64 ((w64 (j0 + (1 : Int))))) (P_assign rfl) .plain rfl ?_
    exact EL_nil (thn_n (p4 (j1, u0, (w64 (j0 + (1 : Int)))) _ _ ⟨d5, (q3), hfr, r3, s3, u3, z3, c4, rfl⟩ h))
 ·clear hx
  obtain ⟨x5, i2, hfr, e4, i4, e5⟩ := hR
  refine E_seq (E_region (EL_pur (v := i2) (P_move e4) .plain rfl ?_))
  refine EL_pur (v := i2) (P_assign rfl) .plain rfl ?_
  refine EL_nil (thn_n (E_ret ?_))
  obtain rfl := Option.some.inj h
  exact end1 rfl rfl (show _ = i2 from rfl) ⟨_, hfr, i4⟩
/-- slices.IndexFunc[[]int,int] -/
def f104 (x0 : List Int) (x1 : Int → Option Bool) : Option (Int) :=
 jn (σ := Unit) (fun (_ : Unit) =>
  some ((-1 : Int))
  ) fun k18 =>
 lp (σ := Int) (fun k19 j0 =>
  bif (decide (j0 < ((x0).length : Int))) then
   jn (σ := Unit) (fun (_ : Unit) =>
    k19 ((w64 (j0 + (1 : Int))))
    ) fun k28 =>
   (idx x0 j0).bind fun d2 =>
   (x1 d2).bind fun i1 =>
   bif i1 then
    some (j0)
   else
    k28 ()
  else
   k18 ()
  ) big ((0 : Int))
theorem en104 : Enters Try.prog 104 := enters_of Try.func104 (by kernel_rfl) rfl
theorem wk104 {gI : Gh} {wI : World} {x0 : List Int} {x1 : Int → Option Bool} {up0 : Value} (rp0 : RV gI.m wI x0 up0) {up1 : Value} (rp1 : FnV1 Try.prog x1 up1 gI wI) {r : Int} (h : f104 x0 x1 = some r) : Fn Try.prog 104 #[up0, up1] gI wI (fun _ _ v => v = .int .i64 (r)) := by
 unfold f104 at h
 refine fn_of_E Try.func104 rfl (Nat.le_of_ble_eq_true rfl) fun g0 hm hfr => ?_
 have rp0 : RV g0.m wI x0 up0 := hm ▸ rp0
 obtain ⟨ff1, fa1, fc1, rfl, fen1, fcl1⟩ := rp1
 show E _ 19 none _ _ _ _ _
 refine E_seq (E_region (EL_pur (v := .int .i64 (0)) (P_assign rfl) .plain rfl ?_))
 refine EL_nil (thn_n (E_joinC h (fun (s : Unit) e w => ∃ (g : Gh) , Fr gI wI g w) (fun X18 k18 e3 h => ?_) ?_))
 ·refine E_seq (E_region (EL_pur (v := up0) (P_move rfl) .plain rfl ?_))
  refine EL_pur (v := .int .i64 ((x0).length : Int)) (P_len Try.underlying22 rfl rp0) .plain rfl ?_
  refine EL_pur (v := .int .i64 (0)) (P_move rfl) .plain rfl ?_
  refine EL_nil (thn_n (E_block ?_))
  refine E_lp h (fun (s : Int) e w => ∃ (g : Gh) , Fr gI wI g w ∧ e 0 = up0 ∧ RV g.m w (x0 : List Int) up0 ∧ e 1 = (.func (.func ff1) fa1 fc1) ∧ e 7 = .int .i64 (((x0).length : Int)) ∧ e 8 = .int .i64 (s)) ⟨g0, hfr, rfl, rp0, rfl, rfl, rfl⟩ (fun X19 k19 i3 => ?_)
  rintro j0 r3 z3 ⟨i2, hfr, j1, n0, m1, z1, o0⟩ h
  refine E_seq (E_region (EL_pur (v := .bool ((decide (j0 < ((x0).length : Int))))) (P_int o0 z1 rfl) .plain rfl ?_))
  refine EL_nil (thn_n (E_seq ?_))
  rcases csome h with ⟨u0, h⟩ | ⟨u0, h⟩
  ·refine E_cond_true (Eq.trans (show ev _ _ = .bool ((decide (j0 < ((x0).length : Int)))) from rfl) (congrArg Value.bool u0)) ?_
   refine E_skip (thn_n (E_joinC h (fun (s : Unit) e w => ∃ (g : Gh) , Fr gI wI g w ∧ e 0 = up0 ∧ RV g.m w (x0 : List Int) up0 ∧ e 1 = (.func (.func ff1) fa1 fc1) ∧ e 7 = .int .i64 (((x0).length : Int)) ∧ e 8 = .int .i64 (j0)) (fun X28 k28 j3 h => ?_) ?_))
   ·refine E_block ?_
    refine E_seq (E_region (EL_pur (v := .int .i64 (j0)) (P_move o0) .plain rfl ?_))
    refine EL_pur (v := .int .i64 (j0)) (P_assign rfl) .plain rfl ?_
    refine EL_nil (thn_n (E_seq (E_region (EL_pur (v := (.func (.func ff1) fa1 fc1)) (P_move m1) .plain rfl ?_))))
    refine EL_pur (v := up0) (P_move j1) .plain rfl ?_
    refine EL_pur (v := .int .i64 (j0)) (P_move rfl) .plain rfl ?_
    obtain ⟨d2, j2, h⟩ := bsome h
    refine EL_pur (v := ePtr up0 j0 1) (P_indexAddr (α := Int) Try.underlying22 Try.sizeOf3 rfl n0 rfl j2) .plain rfl ?_
    have m2 := PT_idx n0 j2
    refine EL_do .plain rfl (D_load (g := i2) Try.isAgg3 Try.sizeOf3 rfl m2 fun c4 o3 => ?_)
    obtain rfl := RV_int.1 o3
    obtain ⟨i1, m3, h⟩ := bsome h
    refine EL_do .plain rfl (D_callv (g := i2) (vs := [.int .i64 (d2)]) rfl fen1 (.cons rfl .nil) (fcl1 _ _ hfr.ch _ _ _  (RV_int.2 rfl) m3) fun p3 d4 e4 hs hr => ?_)
    have hfr := hfr.ext hs
    have n0 := n0.ext hs
    have m2 := m2.ext hs
    obtain rfl := RV_bool.1 hr
    refine EL_nil (thn_n ?_)
    rcases csome h with ⟨y0, h⟩ | ⟨y0, h⟩
    ·refine E_cond_true (Eq.trans (show ev _ _ = .bool (i1) from rfl) (congrArg Value.bool y0)) ?_
     refine E_seq (E_region (EL_pur (v := .int .i64 (j0)) (P_move rfl) .plain rfl ?_))
     refine EL_pur (v := .int .i64 (j0)) (P_assign rfl) .plain rfl ?_
     refine EL_nil (thn_n (E_ret (blk_r ?_)))
     refine thn_r ?_
     refine thn_r ?_
     refine blk_r ?_
     refine thn_r ?_
     obtain rfl := Option.some.inj h
     exact end1 rfl rfl (show _ = .int .i64 (j0) from rfl) ⟨_, hfr, rfl⟩
    ·refine E_cond_false (Eq.trans (show ev _ _ = .bool (i1) from rfl) (congrArg Value.bool y0)) ?_
     exact E_skip (blk_n (thn_n (j3 () _ _ ⟨p3, hfr, j1, n0, m1, z1, o0⟩ h)))
   ·rintro _ s3 i4 ⟨q3, hfr, p2, q2, s2, z2, d3⟩ h
    refine E_region (EL_pur (v := .int .i64 ((w64 (j0 + (1 : Int))))) (P_int d3 rfl rfl) .plain rfl ?_)
    refine EL_pur (v := .int .i64 ((w64 (j0 + (1 : Int))))) (P_move rfl) .plain rfl ?_
    exact EL_nil (thn_n (i3 ((w64 (j0 + (1 : Int)))) _ _ ⟨q3, hfr, p2, q2, s2, z2, rfl⟩ h))
  ·refine E_cond_false (Eq.trans (show ev _ _ = .bool ((decide (j0 < ((x0).length : Int)))) from rfl) (congrArg Value.bool u0)) ?_
   refine E_exit ?_
   refine thn_e ?_
   refine thn_e ?_
   refine blk_hit ?_
   exact thn_n (e3 () _ _ ⟨i2, hfr⟩ h)
 ·rintro _ u3 j4 ⟨m4, hfr⟩ h
  refine E_seq (E_region (EL_pur (v := .int .i64 (-1)) (P_assign rfl) .plain rfl ?_))
  refine EL_nil (thn_n (E_ret ?_))
  obtain rfl := Option.some.inj h
  exact end1 rfl rfl (show _ = .int .i64 (-1) from rfl) ⟨_, hfr, rfl⟩
/-- griffe/tie.within$1 -/
def f105 (x0 : Int) (z0 : Int) (z1 : Int) : Option (Bool) :=
 Option.bind (α := Bool) (
  bif (decide (x0 < z0)) then
   some (true)
  else
   some ((decide (x0 > z1)))
  ) fun n0 =>
 some (n0)
theorem en105 : Enters Try.prog 105 := enters_of Try.func105 (by kernel_rfl) rfl
theorem wk105 {gI : Gh} {wI : World} {x0 : Int} {z0 : Int} {z1 : Int} {pf0 : Value} (qf0 : PT gI.m wI z0 pf0) {pf1 : Value} (qf1 : PT gI.m wI z1 pf1) {r : Bool} (h : f105 x0 z0 z1 = some r) : Fn Try.prog 105 #[.int .i64 (x0), pf0, pf1] gI wI (fun _ _ v => v = .bool (r)) := by
 unfold f105 at h
 refine fn_of_E Try.func105 rfl (Nat.le_of_ble_eq_true rfl) fun g0 hm hfr => ?_
 have qf0 : PT g0.m wI z0 pf0 := hm ▸ qf0
 have qf1 : PT g0.m wI z1 pf1 := hm ▸ qf1
 show E _ 13 none _ _ _ _ _
 refine E_seq (E_region (EL_pur (v := .bool false) (P_assign rfl) .plain rfl ?_))
 refine EL_nil (thn_n ?_)
 obtain ⟨n0, hx, h⟩ := bsome h
 refine E_join (fun e w => ∃ (g : Gh) , Fr gI wI g w ∧ e 4 = .bool (n0)) (fun Q' hQ => ?_) (fun u0 w7 hR => ?_)
 ·replace h := hx
  clear hx
  refine E_region (EL_pur (v := .int .i64 (x0)) (P_move rfl) .plain rfl ?_)
  refine EL_do .plain rfl (D_load (g := g0) Try.isAgg3 Try.sizeOf3 rfl qf0 fun v4 r4 => ?_)
  obtain rfl := RV_int.1 r4
  refine EL_pur (v := .bool ((decide (x0 < z0)))) (P_int rfl rfl rfl) .plain rfl ?_
  refine EL_pur (v := .bool ((decide (x0 < z0)))) (P_move rfl) .plain rfl ?_
  rcases csome h with ⟨j0, h⟩ | ⟨j0, h⟩
  ·refine EL_skip (.no2 rfl rfl j0 rfl) rfl ?_
   refine EL_skip (.no2 rfl rfl j0 rfl) rfl ?_
   refine EL_skip (.no2 rfl rfl j0 rfl) rfl ?_
   refine EL_pur (v := .bool true) (P_pick (b := (decide (x0 < z0))) rfl (pick_t j0 rfl)) .plain rfl ?_
   refine EL_pur (v := .bool true) (P_assign rfl) .plain rfl ?_
   refine EL_nil ?_
   obtain rfl := Option.some.inj h
   exact hQ _ _ ⟨g0, hfr, rfl⟩
  ·refine EL_pur (v := .int .i64 (x0)) (P_move rfl) (.yes2 rfl rfl j0) rfl ?_
   refine EL_do (.yes2 rfl rfl j0) rfl (D_load (g := g0) Try.isAgg3 Try.sizeOf3 rfl qf1 fun v6 r6 => ?_)
   obtain rfl := RV_int.1 r6
   refine EL_pur (v := .bool ((decide (x0 > z1)))) (P_int rfl rfl rfl) (.yes2 rfl rfl j0) rfl ?_
   refine EL_pur (v := .bool ((decide (x0 > z1)))) (P_pick (b := (decide (x0 < z0))) rfl (pick_f j0 rfl)) .plain rfl ?_
   refine EL_pur (v := .bool ((decide (x0 > z1)))) (P_assign rfl) .plain rfl ?_
   refine EL_nil ?_
   obtain rfl := Option.some.inj h
   exact hQ _ _ ⟨g0, hfr, rfl⟩
 ·clear hx
  obtain ⟨g7, hfr, o0⟩ := hR
  refine E_ret ?_
  obtain rfl := Option.some.inj h
  exact end1 rfl rfl (show _ = .bool (n0) from o0) ⟨_, hfr, rfl⟩
/-- griffe/point.within$1 -/
def f106 (x0 : Int) (z0 : Int) (z1 : Int) : Option (Bool) :=
 Option.bind (α := Bool) (
  bif (decide (x0 < z0)) then
   some (true)
  else
   some ((decide (x0 > z1)))
  ) fun n0 =>
 some (n0)
theorem en106 : Enters Try.prog 106 := enters_of Try.func106 (by kernel_rfl) rfl
theorem wk106 {gI : Gh} {wI : World} {x0 : Int} {z0 : Int} {z1 : Int} {pf0 : Value} (qf0 : PT gI.m wI z0 pf0) {pf1 : Value} (qf1 : PT gI.m wI z1 pf1) {r : Bool} (h : f106 x0 z0 z1 = some r) : Fn Try.prog 106 #[.int .i64 (x0), pf0, pf1] gI wI (fun _ _ v => v = .bool (r)) := by
 unfold f106 at h
 refine fn_of_E Try.func106 rfl (Nat.le_of_ble_eq_true rfl) fun g0 hm hfr => ?_
 have qf0 : PT g0.m wI z0 pf0 := hm ▸ qf0
 have qf1 : PT g0.m wI z1 pf1 := hm ▸ qf1
 show E _ 13 none _ _ _ _ _
 refine E_seq (E_region (EL_pur (v := .bool false) (P_assign rfl) .plain rfl ?_))
 refine EL_nil (thn_n ?_)
 obtain ⟨n0, hx, h⟩ := bsome h
 refine E_join (fun e w => ∃ (g : Gh) , Fr gI wI g w ∧ e 4 = .bool (n0)) (fun Q' hQ => ?_) (fun u0 w7 hR => ?_)
 ·replace h := hx
  clear hx
  refine E_region (EL_pur (v := .int .i64 (x0)) (P_move rfl) .plain rfl ?_)
  refine EL_do .plain rfl (D_load (g := g0) Try.isAgg3 Try.sizeOf3 rfl qf0 fun v4 r4 => ?_)
  obtain rfl := RV_int.1 r4
  refine EL_pur (v := .bool ((decide (x0 < z0)))) (P_int rfl rfl rfl) .plain rfl ?_
  refine EL_pur (v := .bool ((decide (x0 < z0)))) (P_move rfl) .plain rfl ?_
  rcases csome h with ⟨j0, h⟩ | ⟨j0, h⟩
  ·refine EL_skip (.no2 rfl rfl j0 rfl) rfl ?_
   refine EL_skip (.no2 rfl rfl j0 rfl) rfl ?_
   refine EL_skip (.no2 rfl rfl j0 rfl) rfl ?_
   refine EL_pur (v := .bool true) (P_pick (b := (decide (x0 < z0))) rfl (pick_t j0 rfl)) .plain rfl ?_
   refine EL_pur (v := .bool true) (P_assign rfl) .plain rfl ?_
   refine EL_nil ?_
   obtain rfl := Option.some.inj h
   exact hQ _ _ ⟨g0, hfr, rfl⟩
  ·refine EL_pur (v := .int .i64 (x0)) (P_move rfl) (.yes2 rfl rfl j0) rfl ?_
   refine EL_do (.yes2 rfl rfl j0) rfl (D_load (g := g0) Try.isAgg3 Try.sizeOf3 rfl qf1 fun v6 r6 => ?_)
   obtain rfl := RV_int.1 r6
   refine EL_pur (v := .bool ((decide (x0 > z1)))) (P_int rfl rfl rfl) (.yes2 rfl rfl j0) rfl ?_
   refine EL_pur (v := .bool ((decide (x0 > z1)))) (P_pick (b := (decide (x0 < z0))) rfl (pick_f j0 rfl)) .plain rfl ?_
   refine EL_pur (v := .bool ((decide (x0 > z1)))) (P_assign rfl) .plain rfl ?_
   refine EL_nil ?_
   obtain rfl := Option.some.inj h
   exact hQ _ _ ⟨g0, hfr, rfl⟩
 ·clear hx
  obtain ⟨g7, hfr, o0⟩ := hR
  refine E_ret ?_
  obtain rfl := Option.some.inj h
  exact end1 rfl rfl (show _ = .bool (n0) from o0) ⟨_, hfr, rfl⟩
/-- slices.insertionSortCmpFunc[griffe/api.FaultDamage] -/
def f107 (x0 : List FaultDamage) (x1 : Int) (x2 : Int) (x3 : FaultDamage → FaultDamage → Option Int) : Option ((List FaultDamage)) :=
 lp (σ := (List FaultDamage) × Int) (fun k1 (i3, o0) =>
  jn (σ := Unit) (fun (_ : Unit) =>
   Option.bind (α := (List FaultDamage)) (
    lp (σ := (List FaultDamage) × Int) (fun r4 (u0, j0) =>
     jn (σ := Unit) (fun (_ : Unit) =>
      Option.bind (α := (List FaultDamage)) (
       (idx u0 (w64 (j0 - (1 : Int)))).bind fun j3 =>
       (idx u0 j0).bind fun d4 =>
       (idx u0 j0).bind fun t6 =>
       (idx ((List.set u0 (Int.toNat j0) j3)) (w64 (j0 - (1 : Int)))).bind fun u6 =>
       some ((List.set ((List.set u0 (Int.toNat j0) j3)) (Int.toNat (w64 (j0 - (1 : Int)))) d4))
       ) fun m2 =>
      r4 (m2, (w64 (j0 - (1 : Int))))
      ) fun s4 =>
     Option.bind (α := Bool) (
      bif (decide (j0 > x1)) then
       (idx u0 j0).bind fun u4 =>
       (idx u0 (w64 (j0 - (1 : Int)))).bind fun x4 =>
       (x3 u4 x4).bind fun z2 =>
       some ((decide (z2 < (0 : Int))))
      else
       some (false)
      ) fun j1 =>
     bif j1 then
      s4 ()
     else
      some (u0)
     ) big (i3, o0)
    ) fun p2 =>
   k1 (p2, (w64 (o0 + (1 : Int))))
   ) fun k4 =>
  bif (decide (o0 < x2)) then
   k4 ()
  else
   some (i3)
  ) big (x0, (w64 (x1 + (1 : Int))))
theorem en107 : Enters Try.prog 107 := enters_of Try.func107 (by kernel_rfl) rfl
theorem wk107 {iI : Nat} {gI : Gh} {wI : World} {x0 : List FaultDamage} {x1 : Int} {x2 : Int} {x3 : FaultDamage → FaultDamage → Option Int} {up0 : Value} (mp0 : OM iI gI wI 62 x0 up0) {up3 : Value} (rp3 : FnV2 Try.prog x3 up3 gI wI) {r : (List FaultDamage)} (h : f107 x0 x1 x2 x3 = some r) : FnM Try.prog 107 #[up0, .int .i64 (x1), .int .i64 (x2), up3] iI gI wI (fun g w v => v = .tuple #[] ∧ OM iI g w 62 r up0) := by
 unfold f107 at h
 refine fnM_of_E Try.func107 rfl (Nat.le_of_ble_eq_true rfl) fun g0 hm hfr => ?_
 have l6 := mp0
 replace mp0 := mp0.enter
 rw [← hm] at mp0
 replace hm : g0.m = gI.m := by rw [hm]
 obtain ⟨ff3, fa3, fc3, rfl, fen3, fcl3⟩ := rp3
 show E _ 53 none _ _ _ _ _
 refine E_seq (E_region (EL_pur (v := .int .i64 (x1)) (P_move rfl) .plain rfl ?_))
 refine EL_pur (v := .int .i64 ((w64 (x1 + (1 : Int))))) (P_int rfl rfl rfl) .plain rfl ?_
 refine EL_pur (v := .int .i64 ((w64 (x1 + (1 : Int))))) (P_assign rfl) .plain rfl ?_
 refine EL_nil (thn_n (E_block ?_))
 refine E_lp h (fun (s : (List FaultDamage) × Int) e w => ∃ (g : Gh) , FrM iI gI wI g w ∧ e 0 = up0 ∧ OM 1 g w 62 (s.1 : List FaultDamage) up0 ∧ e 1 = .int .i64 (x1) ∧ e 2 = .int .i64 (x2) ∧ e 3 = (.func (.func ff3) fa3 fc3) ∧ e 8 = .int .i64 (s.2)) ⟨g0, hfr, rfl, mp0, rfl, rfl, rfl, rfl⟩ (fun X1 k1 hk1 => ?_)
 rintro ⟨i3, o0⟩ k8 w2 ⟨g2, hfr, v6, z4, x6, b5, y6, c5⟩ h
 refine E_joinC h (fun (s : Unit) e w => ∃ (g : Gh) , FrM iI gI wI g w ∧ e 0 = up0 ∧ OM 1 g w 62 (i3 : List FaultDamage) up0 ∧ e 1 = .int .i64 (x1) ∧ e 2 = .int .i64 (x2) ∧ e 3 = (.func (.func ff3) fa3 fc3) ∧ e 8 = .int .i64 (o0)) (fun X4 k4 hk4 h => ?_) ?_
 ·refine E_seq (E_region (EL_pur (v := .int .i64 (o0)) (P_move c5) .plain rfl ?_))
  refine EL_pur (v := .int .i64 (x2)) (P_move b5) .plain rfl ?_
  refine EL_pur (v := .bool ((decide (o0 < x2)))) (P_int rfl rfl rfl) .plain rfl ?_
  refine EL_nil (thn_n ?_)
  rcases csome h with ⟨d5, h⟩ | ⟨d5, h⟩
  ·refine E_cond_true (Eq.trans (show ev _ _ = .bool ((decide (o0 < x2))) from rfl) (congrArg Value.bool d5)) ?_
   exact E_skip (thn_n (hk4 () _ _ ⟨g2, hfr, v6, z4, x6, b5, y6, c5⟩ h))
  ·refine E_cond_false (Eq.trans (show ev _ _ = .bool ((decide (o0 < x2))) from rfl) (congrArg Value.bool d5)) ?_
   refine E_exit ?_
   refine thn_e ?_
   refine thn_e ?_
   refine blk_hit ?_
   obtain rfl := Option.some.inj h
   exact end0n rfl rfl ⟨_, hfr, rfl, l6.back z4⟩
 ·rintro _ l8 w6 ⟨g6, hfr, z6, a7, b7, c7, d7, e5⟩ h
  obtain ⟨p2, hx, h⟩ := bsome h
  refine E_join (fun e w => ∃ (g : Gh) , FrM iI gI wI g w ∧ e 0 = up0 ∧ OM 1 g w 62 (p2 : List FaultDamage) up0 ∧ e 1 = .int .i64 (x1) ∧ e 2 = .int .i64 (x2) ∧ e 3 = (.func (.func ff3) fa3 fc3) ∧ e 8 = .int .i64 (o0)) (fun Q' hQ => ?_) (fun r7 x7 hR => ?_)
  ·replace h := hx
   clear hx
   refine E_block ?_
   refine E_seq (E_region (EL_pur (v := .int .i64 (o0)) (P_move e5) .plain rfl ?_))
   refine EL_pur (v := .int .i64 (o0)) (P_assign rfl) .plain rfl ?_
   refine EL_nil (thn_n (E_block ?_))
   refine E_lp h (fun (s : (List FaultDamage) × Int) e w => ∃ (g : Gh) , FrM iI gI wI g w ∧ e 0 = up0 ∧ OM 1 g w 62 (s.1 : List FaultDamage) up0 ∧ e 1 = .int .i64 (x1) ∧ e 2 = .int .i64 (x2) ∧ e 3 = (.func (.func ff3) fa3 fc3) ∧ e 8 = .int .i64 (o0) ∧ e 9 = .int .i64 (s.2)) ⟨g6, hfr, z6, a7, b7, c7, d7, e5, rfl⟩ (fun X296 r4 m6 => ?_)
   rintro ⟨u0, j0⟩ s7 y7 ⟨i5, hfr, q2, y0, s2, o3, d3, p3, m1⟩ h
   refine E_joinC h (fun (s : Unit) e w => ∃ (g : Gh) , FrM iI gI wI g w ∧ e 0 = up0 ∧ OM 1 g w 62 (u0 : List FaultDamage) up0 ∧ e 1 = .int .i64 (x1) ∧ e 2 = .int .i64 (x2) ∧ e 3 = (.func (.func ff3) fa3 fc3) ∧ e 8 = .int .i64 (o0) ∧ e 9 = .int .i64 (j0)) (fun X410 s4 n6 h => ?_) ?_
   ·obtain ⟨j1, hx, h⟩ := bsome h
    refine E_join (fun e w => ∃ (g : Gh) , FrM iI gI wI g w ∧ e 0 = up0 ∧ OM 1 g w 62 (u0 : List FaultDamage) up0 ∧ e 1 = .int .i64 (x1) ∧ e 2 = .int .i64 (x2) ∧ e 3 = (.func (.func ff3) fa3 fc3) ∧ e 8 = .int .i64 (o0) ∧ e 9 = .int .i64 (j0) ∧ e 34 = .bool (j1)) (fun Q' hQ => ?_) (fun t7 z7 hR => ?_)
    ·replace h := hx
     clear hx
     rcases csome h with ⟨n0, h⟩ | ⟨n0, h⟩
     ·obtain ⟨u4, j4, h⟩ := bsome h
      refine L_loadM (x := .tmp 25) Try.isAgg62 Try.sizeOf62 y0 j4 fun j5 e4 o6 => ?_
      obtain ⟨x4, m4, h⟩ := bsome h
      refine L_loadM (x := .tmp 30) Try.isAgg62 Try.sizeOf62 y0 m4 fun l5 i4 p6 => ?_
      obtain ⟨z2, q6, h⟩ := bsome h
      refine E_drawL (g := i5) (n := 17) [(14, (fun v g w => v = .int .i64 (z2)))] [0, 1, 2, 3, 4, 5, 6, 7, 8, 9, 10, 11, 12, 13, 14, 15, 16] rfl mixed (by kernel_rfl) (⟨fun _ => up_eq _, trivial⟩) ?_
      refine L_pur (c := .int .i64 (j0)) rfl rfl .plain (fun _ _ hd => P_move m1) ?_
      refine L_pur (c := .int .i64 (x1)) rfl rfl .plain (fun _ _ hd => P_move s2) ?_
      refine L_pur (c := .bool ((decide (j0 > x1)))) rfl rfl .plain (fun _ _ hd => P_int rfl rfl rfl) ?_
      refine L_pur (c := .bool ((decide (j0 > x1)))) rfl rfl .plain (fun _ _ hd => P_move rfl) ?_
      refine L_pur (c := (.func (.func ff3) fa3 fc3)) rfl rfl (.yes2 rfl rfl n0) (fun _ _ hd => P_move d3) ?_
      refine L_pur (c := up0) rfl rfl (.yes2 rfl rfl n0) (fun _ _ hd => P_move q2) ?_
      refine L_pur (c := .int .i64 (j0)) rfl rfl (.yes2 rfl rfl n0) (fun _ _ hd => P_move m1) ?_
      refine L_pur (c := ePtr up0 j0 5) rfl rfl (.yes2 rfl rfl n0) (fun _ _ hd => P_indexAddrM (α := FaultDamage) Try.underlying29 Try.sizeOf62 rfl y0 rfl j4) ?_
      refine L_ld (c := j5) rfl rfl (.yes2 rfl rfl n0) (fun _ _ h => ⟨h.ch, fun b hb _ => h.below.block b hb⟩) o6 rfl ?_
      refine L_pur (c := up0) rfl rfl (.yes2 rfl rfl n0) (fun _ _ hd => P_move q2) ?_
      refine L_pur (c := .int .i64 (j0)) rfl rfl (.yes2 rfl rfl n0) (fun _ _ hd => P_move m1) ?_
      refine L_pur (c := .int .i64 ((w64 (j0 - (1 : Int))))) rfl rfl (.yes2 rfl rfl n0) (fun _ _ hd => P_int rfl rfl rfl) ?_
      refine L_pur (c := ePtr up0 (w64 (j0 - (1 : Int))) 5) rfl rfl (.yes2 rfl rfl n0) (fun _ _ hd => P_indexAddrM (α := FaultDamage) Try.underlying29 Try.sizeOf62 rfl y0 rfl m4) ?_
      refine L_ld (c := l5) rfl rfl (.yes2 rfl rfl n0) (fun _ _ h => ⟨h.ch, fun b hb _ => h.below.block b hb⟩) p6 rfl ?_
      refine L_do (φ := fun v g w => v = .int .i64 (z2)) rfl rfl (.yes2 rfl rfl n0) (fun g w hd => D_callv (g := g) (vs := [j5, l5]) rfl fen3 (.cons rfl (.cons rfl .nil)) (fcl3 _ _ (hfr.ext hd.1).ch _ _ _ _ _  (e4.ext hd.1) (i4.ext hd.1) q6) fun g' w' v hs hr => ⟨g', hs, RV_int.1 hr⟩) (fun a8 hv => ?_)
      obtain ⟨_, _, _, rfl⟩ := hv
      refine L_pur (c := .bool ((decide (z2 < (0 : Int))))) rfl rfl (.yes2 rfl rfl n0) (fun _ _ hd => P_int rfl rfl rfl) ?_
      refine L_pur (c := .bool ((decide (z2 < (0 : Int))))) rfl rfl .plain (fun _ _ hd => P_pick (b := (decide (j0 > x1))) rfl (pick_t n0 rfl)) ?_
      refine L_nil fun e7 b8 hall => ?_
      have hs := hall.1
      have hfr := hfr.ext hs
      have y0 := y0.ext hs
      have e4 := e4.ext hs
      have i4 := i4.ext hs
      clear hs hall
      refine EL_nil ?_
      obtain rfl := Option.some.inj h
      exact hQ _ _ ⟨e7, hfr, q2, y0, s2, o3, d3, p3, m1, rfl⟩
     ·refine E_drawL (g := i5) (n := 17) [] [0, 1, 2, 3, 4, 5, 6, 7, 8, 9, 10, 11, 12, 13, 14, 15, 16] rfl mixed (by kernel_rfl) trivial ?_
      refine L_pur (c := .int .i64 (j0)) rfl rfl .plain (fun _ _ hd => P_move m1) ?_
      refine L_pur (c := .int .i64 (x1)) rfl rfl .plain (fun _ _ hd => P_move s2) ?_
      refine L_pur (c := .bool ((decide (j0 > x1)))) rfl rfl .plain (fun _ _ hd => P_int rfl rfl rfl) ?_
      refine L_pur (c := .bool ((decide (j0 > x1)))) rfl rfl .plain (fun _ _ hd => P_move rfl) ?_
      refine L_skip rfl (.no2 rfl rfl n0 rfl) ?_
      refine L_skip rfl (.no2 rfl rfl n0 rfl) ?_
      refine L_skip rfl (.no2 rfl rfl n0 rfl) ?_
      refine L_skip rfl (.no2 rfl rfl n0 rfl) ?_
      refine L_skip rfl (.no2 rfl rfl n0 rfl) ?_
      refine L_skip rfl (.no2 rfl rfl n0 rfl) ?_
      refine L_skip rfl (.no2 rfl rfl n0 rfl) ?_
      refine L_skip rfl (.no2 rfl rfl n0 rfl) ?_
      refine L_skip rfl (.no2 rfl rfl n0 rfl) ?_
      refine L_skip rfl (.no2 rfl rfl n0 rfl) ?_
      refine L_skip rfl (.no2 rfl rfl n0 rfl) ?_
      refine L_skip rfl (.no2 rfl rfl n0 rfl) ?_
      refine L_pur (c := .bool false) rfl rfl .plain (fun _ _ hd => P_pick (b := (decide (j0 > x1))) rfl (pick_f n0 rfl)) ?_
      refine L_nil fun g7 c8 hall => ?_
      have hs := hall.1
      have hfr := hfr.ext hs
      have y0 := y0.ext hs
      clear hs hall
      refine EL_nil ?_
      obtain rfl := Option.some.inj h
      exact hQ _ _ ⟨g7, hfr, q2, y0, s2, o3, d3, p3, m1, rfl⟩
    ·clear hx
     obtain ⟨m5, hfr, q3, r3, s3, u3, z3, c4, n5, e3⟩ := hR
     rcases csome h with ⟨m3, h⟩ | ⟨m3, h⟩
     ·refine E_cond_true (Eq.trans (show ev _ _ = .bool (j1) from e3) (congrArg Value.bool m3)) ?_
      exact E_skip (thn_n (n6 () _ _ ⟨m5, hfr, q3, r3, s3, u3, z3, c4, n5⟩ h))
     ·refine E_cond_false (Eq.trans (show ev _ _ = .bool (j1) from e3) (congrArg Value.bool m3)) ?_
      refine E_exit ?_
      refine thn_e ?_
      refine thn_e ?_
      refine blk_hit ?_
      refine blk_n ?_
      obtain rfl := Option.some.inj h
      exact hQ _ _ ⟨m5, hfr, q3, r3, s3, u3, z3, c4⟩
   ·rintro _ u7 d8 ⟨i7, hfr, z1, i1, o5, p5, q5, r5, d2⟩ h
    obtain ⟨m2, hx, h⟩ := bsome h
    refine E_join (fun e w => ∃ (g : Gh) , FrM iI gI wI g w ∧ e 0 = up0 ∧ OM 1 g w 62 (m2 : List FaultDamage) up0 ∧ e 1 = .int .i64 (x1) ∧ e 2 = .int .i64 (x2) ∧ e 3 = (.func (.func ff3) fa3 fc3) ∧ e 8 = .int .i64 (o0) ∧ e 9 = .int .i64 (j0)) (fun Q' hQ => ?_) (fun v7 e8 hR => ?_)
    ·replace h := hx
     clear hx
     refine E_block ?_
     obtain ⟨j3, n4, h⟩ := bsome h
     refine L_loadM (x := .tmp 45) Try.isAgg62 Try.sizeOf62 i1 n4 fun j7 i2 r6 => ?_
     obtain ⟨d4, o4, h⟩ := bsome h
     refine L_loadM (x := .tmp 49) Try.isAgg62 Try.sizeOf62 i1 o4 fun l7 j2 s6 => ?_
     obtain ⟨t6, p4, h⟩ := bsome h
     refine E_drawTL (g := i7) (n := 15) [2, 3, 4] [] [0, 1, 2, 3, 4, 5, 6, 7, 8, 9, 10, 11, 12, 13, 14] rfl mixed (by kernel_rfl) trivial rfl ?_
     refine L_pur (c := up0) rfl rfl .plain (fun _ _ hd => P_move z1) ?_
     refine L_pur (c := .int .i64 (j0)) rfl rfl .plain (fun _ _ hd => P_move d2) ?_
     refine L_purL (c := up0) rfl rfl .plain (P_move z1) ?_
     refine L_purL (c := .int .i64 (j0)) rfl rfl .plain (P_move d2) ?_
     refine L_purL (c := .int .i64 ((w64 (j0 - (1 : Int))))) rfl rfl .plain (P_int rfl rfl rfl) ?_
     refine L_pur (c := up0) rfl rfl .plain (fun _ _ hd => P_move z1) ?_
     refine L_pur (c := .int .i64 (j0)) rfl rfl .plain (fun _ _ hd => P_move d2) ?_
     refine L_pur (c := .int .i64 ((w64 (j0 - (1 : Int))))) rfl rfl .plain (fun _ _ hd => P_int rfl rfl rfl) ?_
     refine L_pur (c := ePtr up0 (w64 (j0 - (1 : Int))) 5) rfl rfl .plain (fun _ _ hd => P_indexAddrM (α := FaultDamage) Try.underlying29 Try.sizeOf62 rfl i1 rfl n4) ?_
     refine L_ld (c := j7) rfl rfl .plain (fun _ _ h => ⟨h.ch, fun b hb _ => h.below.block b hb⟩) r6 rfl ?_
     refine L_pur (c := up0) rfl rfl .plain (fun _ _ hd => P_move z1) ?_
     refine L_pur (c := .int .i64 (j0)) rfl rfl .plain (fun _ _ hd => P_move d2) ?_
     refine L_pur (c := ePtr up0 j0 5) rfl rfl .plain (fun _ _ hd => P_indexAddrM (α := FaultDamage) Try.underlying29 Try.sizeOf62 rfl i1 rfl o4) ?_
     refine L_ld (c := l7) rfl rfl .plain (fun _ _ h => ⟨h.ch, fun b hb _ => h.below.block b hb⟩) s6 rfl ?_
     refine L_pur (c := ePtr up0 j0 5) rfl rfl .plain (fun _ _ hd => P_indexAddrM (α := FaultDamage) Try.underlying29 Try.sizeOf62 rfl i1 rfl p4) ?_
     refine L_nil fun m7 g8 hall => ?_
     have hs := hall.1
     have hfr := hfr.ext hs
     have i1 := i1.ext hs
     have i2 := i2.ext hs
     have j2 := j2.ext hs
     clear hs hall
     refine TL_do .plain rfl (D_storeM (g := m7) (α := FaultDamage) (a' := j3) Try.sizeOf62 rfl i1 p4 rfl i2 fun n7 i8 hs b581 => ?_)
     have hfr := hfr.stp hs
     have i2 := i2.stp hs
     have j2 := j2.stp hs
     obtain ⟨u6, q4, h⟩ := bsome h
     refine TL_pur (v := ePtr up0 (w64 (j0 - (1 : Int))) 5) (P_indexAddrM (α := FaultDamage) Try.underlying29 Try.sizeOf62 rfl b581 rfl q4) .plain rfl ?_
     refine TL_do .plain rfl (D_storeM (g := n7) (α := FaultDamage) (a' := d4) Try.sizeOf62 rfl b581 q4 rfl j2 fun o7 j8 hs b583 => ?_)
     have hfr := hfr.stp hs
     have i2 := i2.stp hs
     have j2 := j2.stp hs
     refine TL_nil ?_
     refine blk_n ?_
     obtain rfl := Option.some.inj h
     exact hQ _ _ ⟨o7, hfr, z1, b583, o5, p5, q5, r5, d2⟩
    ·clear hx
     obtain ⟨p7, hfr, t5, u5, x5, y5, z5, a6, b6⟩ := hR
     refine E_region (EL_pur (v := .int .i64 (j0)) (P_move b6) .plain rfl ?_)
     refine EL_pur (v := .int .i64 ((w64 (j0 - (1 : Int))))) (P_int rfl rfl rfl) .plain rfl ?_
     refine EL_pur (v := .int .i64 ((w64 (j0 - (1 : Int))))) (P_assign rfl) .plain rfl ?_
     exact EL_nil (thn_n (m6 (m2, (w64 (j0 - (1 : Int)))) _ _ ⟨p7, hfr, t5, u5, x5, y5, z5, a6, rfl⟩ h))
  ·clear hx
   obtain ⟨q7, hfr, c6, d6, e6, i6, j6, k6⟩ := hR
   refine E_region (EL_pur (v := .int .i64 (o0)) (P_move k6) .plain rfl ?_)
   refine EL_pur (v := .int .i64 ((w64 (o0 + (1 : Int))))) (P_int rfl rfl rfl) .plain rfl ?_
   refine EL_pur (v := .int .i64 ((w64 (o0 + (1 : Int))))) (P_assign rfl) .plain rfl ?_
   exact EL_nil (thn_n (hk1 (p2, (w64 (o0 + (1 : Int)))) _ _ ⟨q7, hfr, c6, d6, e6, i6, j6, rfl⟩ h))
/-- griffe/tie.mark -/
def f110 (x0 : Bool) : Option (UInt8) :=
 jn (σ := Unit) (fun (_ : Unit) =>
  some ((46 : UInt8))
  ) fun k2 =>
 bif x0 then
  some ((120 : UInt8))
 else
  k2 ()
theorem en110 : Enters Try.prog 110 := enters_of Try.func110 (by kernel_rfl) rfl
theorem wk110 {gI : Gh} {wI : World} {x0 : Bool}  {r : UInt8} (h : f110 x0 = some r) : Fn Try.prog 110 #[.bool (x0)] gI wI (fun _ _ v => v = .int .u8 (UInt8.toNat (r))) := by
 unfold f110 at h
 refine fn_of_E Try.func110 rfl (Nat.le_of_ble_eq_true rfl) fun g0 hm hfr => ?_
 show E _ 4 none _ _ _ _ _
 refine E_seq (E_region (EL_pur (v := .int .u8 (UInt8.toNat 0)) (P_assign rfl) .plain rfl ?_))
 refine EL_nil (thn_n (E_joinC h (fun (s : Unit) e w => ∃ (g : Gh) , Fr gI wI g w) (fun X2 k2 hk2 h => ?_) ?_))
 ·refine E_seq (E_region (EL_pur (v := .bool (x0)) (P_move rfl) .plain rfl ?_))
  refine EL_nil (thn_n ?_)
  rcases csome h with ⟨hc3, h⟩ | ⟨hc3, h⟩
  ·refine E_cond_true (Eq.trans (show ev _ _ = .bool (x0) from rfl) (congrArg Value.bool hc3)) ?_
   refine E_seq (E_region (EL_pur (v := .int .u8 (UInt8.toNat 120)) (P_assign rfl) .plain rfl ?_))
   refine EL_nil (thn_n (E_ret (thn_r ?_)))
   obtain rfl := Option.some.inj h
   exact end1 rfl rfl (show _ = .int .u8 (UInt8.toNat 120) from rfl) ⟨_, hfr, rfl⟩
  ·refine E_cond_false (Eq.trans (show ev _ _ = .bool (x0) from rfl) (congrArg Value.bool hc3)) ?_
   exact E_skip (thn_n (hk2 () _ _ ⟨g0, hfr⟩ h))
 ·rintro _ j0 w4 ⟨g4, hfr⟩ h
  refine E_seq (E_region (EL_pur (v := .int .u8 (UInt8.toNat 46)) (P_assign rfl) .plain rfl ?_))
  refine EL_nil (thn_n (E_ret ?_))
  obtain rfl := Option.some.inj h
  exact end1 rfl rfl (show _ = .int .u8 (UInt8.toNat 46) from rfl) ⟨_, hfr, rfl⟩
/-- (griffe/tie.harness).lifted -/
def f111 (x0 : TieTieHarness) (x1 : Int) (x2 : Int) : Option (Bool) :=
 (idx (((x0).TieHarness).Warps) x2).bind fun y5 =>
 (shr64 x1 y5).bind fun y8 =>
 some (((bit64 .and y8 (1 : Int)) == (1 : Int)))
theorem en111 : Enters Try.prog 111 := enters_of Try.func111 (by kernel_rfl) rfl
theorem wk111 {gI : Gh} {wI : World} {x0 : TieTieHarness} {x1 : Int} {x2 : Int} {up0 : Value} (rp0 : RV gI.m wI x0 up0) {r : Bool} (h : f111 x0 x1 x2 = some r) : Fn Try.prog 111 #[up0, .int .i64 (x1), .int .i64 (x2)] gI wI (fun _ _ v => v = .bool (r)) := by
 unfold f111 at h
 refine fn_of_E Try.func111 rfl (Nat.le_of_ble_eq_true rfl) fun g0 hm hfr => ?_
 have rp0 : RV g0.m wI x0 up0 := hm ▸ rp0
 show E _ 17 none _ _ _ _ _
 refine E_seq (E_region (EL_do .plain rfl (D_box (g := g0) rfl rp0 fun g1 w1 p1 hs q1 => ?_)))
 have hfr := hfr.ext hs
 have rp0 := rp0.ext hs
 refine EL_pur (v := .bool false) (P_assign rfl) .plain rfl ?_
 refine EL_nil (thn_n (E_seq (E_region (EL_pur (v := .int .i64 (x1)) (P_move rfl) .plain rfl ?_))))
 refine EL_pur (v := fPtr p1 0) (P_fieldAddr at_145_0 rfl (PT.ptr q1)) .plain rfl ?_
 have q2 := PT_field (part_TieTieHarness_0).1 q1
 refine EL_pur (v := fPtr (fPtr p1 0) 1) (P_fieldAddr at_24_1 rfl (PT.ptr q2)) .plain rfl ?_
 have q3 := PT_field (part_TieHarness_1).1 q2
 refine EL_do .plain rfl (D_load (g := g1) Try.isAgg22 Try.sizeOf22 rfl q3 fun v4 r4 => ?_)
 refine EL_pur (v := .int .i64 (x2)) (P_move rfl) .plain rfl ?_
 obtain ⟨y5, j0, h⟩ := bsome h
 refine EL_pur (v := ePtr v4 x2 1) (P_indexAddr (α := Int) Try.underlying22 Try.sizeOf3 rfl r4 rfl j0) .plain rfl ?_
 have q6 := PT_idx r4 j0
 refine EL_do .plain rfl (D_load (g := g1) Try.isAgg3 Try.sizeOf3 rfl q6 fun v7 r7 => ?_)
 obtain rfl := RV_int.1 r7
 obtain ⟨y8, n0, h⟩ := bsome h
 refine EL_pur (v := .int .i64 (y8)) (P_int rfl rfl (congrArg (Option.map (Value.int .i64)) n0)) .plain rfl ?_
 refine EL_pur (v := .int .i64 ((bit64 .and y8 (1 : Int)))) (P_int rfl rfl rfl) .plain rfl ?_
 refine EL_pur (v := .bool (((bit64 .and y8 (1 : Int)) == (1 : Int)))) (P_int rfl rfl rfl) .plain rfl ?_
 refine EL_pur (v := .bool (((bit64 .and y8 (1 : Int)) == (1 : Int)))) (P_assign rfl) .plain rfl ?_
 refine EL_nil (thn_n (E_ret ?_))
 obtain rfl := Option.some.inj h
 exact end1 rfl rfl (show _ = .bool (((bit64 .and y8 (1 : Int)) == (1 : Int))) from rfl) ⟨_, hfr, rfl⟩
/-- slices.swapRangeCmpFunc[griffe/api.FaultDamage] -/
def f115 (x0 : List FaultDamage) (x1 : Int) (x2 : Int) (x3 : Int) (x4 : FaultDamage → FaultDamage → Option Int) : Option ((List FaultDamage)) :=
 lp (σ := (List FaultDamage) × Int) (fun k1 (n0, j0) =>
  jn (σ := Unit) (fun (_ : Unit) =>
   Option.bind (α := (List FaultDamage)) (
    (idx n0 (w64 (x2 + j0))).bind fun i2 =>
    (idx n0 (w64 (x1 + j0))).bind fun m2 =>
    (idx n0 (w64 (x1 + j0))).bind fun j4 =>
    (idx ((List.set n0 (Int.toNat (w64 (x1 + j0))) i2)) (w64 (x2 + j0))).bind fun m4 =>
    some ((List.set ((List.set n0 (Int.toNat (w64 (x1 + j0))) i2)) (Int.toNat (w64 (x2 + j0))) m2))
    ) fun y0 =>
   k1 (y0, (w64 (j0 + (1 : Int))))
   ) fun k4 =>
  bif (decide (j0 < x3)) then
   k4 ()
  else
   some (n0)
  ) big (x0, (0 : Int))
theorem en115 : Enters Try.prog 115 := enters_of Try.func115 (by kernel_rfl) rfl
theorem wk115 {iI : Nat} {gI : Gh} {wI : World} {x0 : List FaultDamage} {x1 : Int} {x2 : Int} {x3 : Int} {x4 : FaultDamage → FaultDamage → Option Int} {up0 : Value} (mp0 : OM iI gI wI 62 x0 up0) {up4 : Value} (rp4 : FnV2 Try.prog x4 up4 gI wI) {r : (List FaultDamage)} (h : f115 x0 x1 x2 x3 x4 = some r) : FnM Try.prog 115 #[up0, .int .i64 (x1), .int .i64 (x2), .int .i64 (x3), up4] iI gI wI (fun g w v => v = .tuple #[] ∧ OM iI g w 62 r up0) := by
 unfold f115 at h
 refine fnM_of_E Try.func115 rfl (Nat.le_of_ble_eq_true rfl) fun g0 hm hfr => ?_
 have m3 := mp0
 replace mp0 := mp0.enter
 rw [← hm] at mp0
 replace hm : g0.m = gI.m := by rw [hm]
 obtain ⟨ff4, fa4, fc4, rfl, fen4, fcl4⟩ := rp4
 show E _ 38 none _ _ _ _ _
 refine E_seq (E_region (EL_pur (v := .int .i64 (0)) (P_assign rfl) .plain rfl ?_))
 refine EL_nil (thn_n (E_block ?_))
 refine E_lp h (fun (s : (List FaultDamage) × Int) e w => ∃ (g : Gh) , FrM iI gI wI g w ∧ e 0 = up0 ∧ OM 1 g w 62 (s.1 : List FaultDamage) up0 ∧ e 1 = .int .i64 (x1) ∧ e 2 = .int .i64 (x2) ∧ e 3 = .int .i64 (x3) ∧ e 10 = .int .i64 (s.2)) ⟨g0, hfr, rfl, mp0, rfl, rfl, rfl, rfl⟩ (fun X1 k1 hk1 => ?_)
 rintro ⟨n0, j0⟩ z4 w2 ⟨g2, hfr, u3, p2, z3, c4, q2, j2⟩ h
 refine E_joinC h (fun (s : Unit) e w => ∃ (g : Gh) , FrM iI gI wI g w ∧ e 0 = up0 ∧ OM 1 g w 62 (n0 : List FaultDamage) up0 ∧ e 1 = .int .i64 (x1) ∧ e 2 = .int .i64 (x2) ∧ e 3 = .int .i64 (x3) ∧ e 10 = .int .i64 (j0)) (fun X4 k4 hk4 h => ?_) ?_
 ·refine E_seq (E_region (EL_pur (v := .int .i64 (j0)) (P_move j2) .plain rfl ?_))
  refine EL_pur (v := .int .i64 (x3)) (P_move q2) .plain rfl ?_
  refine EL_pur (v := .bool ((decide (j0 < x3)))) (P_int rfl rfl rfl) .plain rfl ?_
  refine EL_nil (thn_n ?_)
  rcases csome h with ⟨s2, h⟩ | ⟨s2, h⟩
  ·refine E_cond_true (Eq.trans (show ev _ _ = .bool ((decide (j0 < x3))) from rfl) (congrArg Value.bool s2)) ?_
   exact E_skip (thn_n (hk4 () _ _ ⟨g2, hfr, u3, p2, z3, c4, q2, j2⟩ h))
  ·refine E_cond_false (Eq.trans (show ev _ _ = .bool ((decide (j0 < x3))) from rfl) (congrArg Value.bool s2)) ?_
   refine E_exit ?_
   refine thn_e ?_
   refine thn_e ?_
   refine blk_hit ?_
   obtain rfl := Option.some.inj h
   exact end0n rfl rfl ⟨_, hfr, rfl, m3.back p2⟩
 ·rintro _ b5 w6 ⟨g6, hfr, i1, o0, z1, d2, d4, u0⟩ h
  obtain ⟨y0, hx, h⟩ := bsome h
  refine E_join (fun e w => ∃ (g : Gh) , FrM iI gI wI g w ∧ e 0 = up0 ∧ OM 1 g w 62 (y0 : List FaultDamage) up0 ∧ e 1 = .int .i64 (x1) ∧ e 2 = .int .i64 (x2) ∧ e 3 = .int .i64 (x3) ∧ e 10 = .int .i64 (j0)) (fun Q' hQ => ?_) (fun u4 c5 hR => ?_)
  ·replace h := hx
   clear hx
   refine E_block ?_
   obtain ⟨i2, z2, h⟩ := bsome h
   refine L_loadM (x := .tmp 28) Try.isAgg62 Try.sizeOf62 o0 z2 fun n4 j1 e4 => ?_
   obtain ⟨m2, d3, h⟩ := bsome h
   refine L_loadM (x := .tmp 34) Try.isAgg62 Try.sizeOf62 o0 d3 fun o4 m1 i4 => ?_
   obtain ⟨j4, e3, h⟩ := bsome h
   refine E_drawTL (g := g6) (n := 21) [4, 5, 6, 7] [] [0, 1, 2, 3, 4, 5, 6, 7, 8, 9, 10, 11, 12, 13, 14, 15, 16, 17, 18, 19, 20] rfl mixed (by kernel_rfl) trivial rfl ?_
   refine L_pur (c := up0) rfl rfl .plain (fun _ _ hd => P_move i1) ?_
   refine L_pur (c := .int .i64 (x1)) rfl rfl .plain (fun _ _ hd => P_move z1) ?_
   refine L_pur (c := .int .i64 (j0)) rfl rfl .plain (fun _ _ hd => P_move u0) ?_
   refine L_pur (c := .int .i64 ((w64 (x1 + j0)))) rfl rfl .plain (fun _ _ hd => P_int rfl rfl rfl) ?_
   refine L_purL (c := up0) rfl rfl .plain (P_move i1) ?_
   refine L_purL (c := .int .i64 (x2)) rfl rfl .plain (P_move d2) ?_
   refine L_purL (c := .int .i64 (j0)) rfl rfl .plain (P_move u0) ?_
   refine L_purL (c := .int .i64 ((w64 (x2 + j0)))) rfl rfl .plain (P_int rfl rfl rfl) ?_
   refine L_pur (c := up0) rfl rfl .plain (fun _ _ hd => P_move i1) ?_
   refine L_pur (c := .int .i64 (x2)) rfl rfl .plain (fun _ _ hd => P_move d2) ?_
   refine L_pur (c := .int .i64 (j0)) rfl rfl .plain (fun _ _ hd => P_move u0) ?_
   refine L_pur (c := .int .i64 ((w64 (x2 + j0)))) rfl rfl .plain (fun _ _ hd => P_int rfl rfl rfl) ?_
   refine L_pur (c := ePtr up0 (w64 (x2 + j0)) 5) rfl rfl .plain (fun _ _ hd => P_indexAddrM (α := FaultDamage) Try.underlying29 Try.sizeOf62 rfl o0 rfl z2) ?_
   refine L_ld (c := n4) rfl rfl .plain (fun _ _ h => ⟨h.ch, fun b hb _ => h.below.block b hb⟩) e4 rfl ?_
   refine L_pur (c := up0) rfl rfl .plain (fun _ _ hd => P_move i1) ?_
   refine L_pur (c := .int .i64 (x1)) rfl rfl .plain (fun _ _ hd => P_move z1) ?_
   refine L_pur (c := .int .i64 (j0)) rfl rfl .plain (fun _ _ hd => P_move u0) ?_
   refine L_pur (c := .int .i64 ((w64 (x1 + j0)))) rfl rfl .plain (fun _ _ hd => P_int rfl rfl rfl) ?_
   refine L_pur (c := ePtr up0 (w64 (x1 + j0)) 5) rfl rfl .plain (fun _ _ hd => P_indexAddrM (α := FaultDamage) Try.underlying29 Try.sizeOf62 rfl o0 rfl d3) ?_
   refine L_ld (c := o4) rfl rfl .plain (fun _ _ h => ⟨h.ch, fun b hb _ => h.below.block b hb⟩) i4 rfl ?_
   refine L_pur (c := ePtr up0 (w64 (x1 + j0)) 5) rfl rfl .plain (fun _ _ hd => P_indexAddrM (α := FaultDamage) Try.underlying29 Try.sizeOf62 rfl o0 rfl e3) ?_
   refine L_nil fun p4 d5 hall => ?_
   have hs := hall.1
   have hfr := hfr.ext hs
   have o0 := o0.ext hs
   have j1 := j1.ext hs
   have m1 := m1.ext hs
   clear hs hall
   refine TL_do .plain rfl (D_storeM (g := p4) (α := FaultDamage) (a' := i2) Try.sizeOf62 rfl o0 e3 rfl j1 fun q4 e5 hs b74 => ?_)
   have hfr := hfr.stp hs
   have j1 := j1.stp hs
   have m1 := m1.stp hs
   obtain ⟨m4, i3, h⟩ := bsome h
   refine TL_pur (v := ePtr up0 (w64 (x2 + j0)) 5) (P_indexAddrM (α := FaultDamage) Try.underlying29 Try.sizeOf62 rfl b74 rfl i3) .plain rfl ?_
   refine TL_do .plain rfl (D_storeM (g := q4) (α := FaultDamage) (a' := m2) Try.sizeOf62 rfl b74 i3 rfl m1 fun r4 i5 hs b76 => ?_)
   have hfr := hfr.stp hs
   have j1 := j1.stp hs
   have m1 := m1.stp hs
   refine TL_nil ?_
   refine blk_n ?_
   obtain rfl := Option.some.inj h
   exact hQ _ _ ⟨r4, hfr, i1, b76, z1, d2, d4, u0⟩
  ·clear hx
   obtain ⟨s4, hfr, o3, p3, q3, r3, s3, j3⟩ := hR
   refine E_region (EL_pur (v := .int .i64 (j0)) (P_move j3) .plain rfl ?_)
   refine EL_pur (v := .int .i64 ((w64 (j0 + (1 : Int))))) (P_int rfl rfl rfl) .plain rfl ?_
   refine EL_pur (v := .int .i64 ((w64 (j0 + (1 : Int))))) (P_assign rfl) .plain rfl ?_
   exact EL_nil (thn_n (hk1 (y0, (w64 (j0 + (1 : Int)))) _ _ ⟨s4, hfr, o3, p3, q3, r3, s3, rfl⟩ h))
/-- slices.ContainsFunc[[]griffe/api.FaultDamage,griffe/api.FaultDamage] -/
def f53 (x0 : List FaultDamage) (x1 : FaultDamage → Option Bool) : Option (Bool) :=
 (f75 x0 x1).bind fun y2 =>
 some ((decide (y2 ≥ (0 : Int))))
theorem en53 : Enters Try.prog 53 := enters_of Try.func53 (by kernel_rfl) rfl
theorem wk53 {gI : Gh} {wI : World} {x0 : List FaultDamage} {x1 : FaultDamage → Option Bool} {up0 : Value} (rp0 : RV gI.m wI x0 up0) {up1 : Value} (rp1 : FnV1 Try.prog x1 up1 gI wI) {r : Bool} (h : f53 x0 x1 = some r) : Fn Try.prog 53 #[up0, up1] gI wI (fun _ _ v => v = .bool (r)) := by
 unfold f53 at h
 refine fn_of_E Try.func53 rfl (Nat.le_of_ble_eq_true rfl) fun g0 hm hfr => ?_
 have rp0 : RV g0.m wI x0 up0 := hm ▸ rp0
 obtain ⟨ff1, fa1, fc1, rfl, fen1, fcl1⟩ := rp1
 show E _ 9 none _ _ _ _ _
 refine E_seq (E_region (EL_pur (v := .bool false) (P_assign rfl) .plain rfl ?_))
 refine EL_nil (thn_n (E_seq (E_region (EL_pur (v := up0) (P_move rfl) .plain rfl ?_))))
 refine EL_pur (v := (.func (.func ff1) fa1 fc1)) (P_move rfl) .plain rfl ?_
 obtain ⟨y2, j0, h⟩ := bsome h
 refine EL_do .plain rfl (D_call (g := g0) (vs := [up0, (.func (.func ff1) fa1 fc1)]) en75 (.cons rfl (.cons rfl .nil)) (wk75 rp0 (FnV1.ch ⟨_, _, _, rfl, fen1, fcl1⟩ hfr.ch) j0) fun g1 w1_ v1 hs hr => ?_)
 have hfr := hfr.ext hs
 have rp0 := rp0.ext hs
 subst hr
 refine EL_pur (v := .bool ((decide (y2 ≥ (0 : Int))))) (P_int rfl rfl rfl) .plain rfl ?_
 refine EL_pur (v := .bool ((decide (y2 ≥ (0 : Int))))) (P_assign rfl) .plain rfl ?_
 refine EL_nil (thn_n (E_ret ?_))
 obtain rfl := Option.some.inj h
 exact end1 rfl rfl (show _ = .bool ((decide (y2 ≥ (0 : Int)))) from rfl) ⟨_, hfr, rfl⟩
/-- griffe/fault.differ -/
def f56 (x0 : List Str) (x1 : List Str) : Option (It (Int × Int)) :=
 some ((fun σ cons s => f83 x0 x1 σ cons s))
theorem en56 : Enters Try.prog 56 := enters_of Try.func56 (by kernel_rfl) rfl
theorem wk56 {gI : Gh} {wI : World} {x0 : List Str} {x1 : List Str} {up0 : Value} (rp0 : RV gI.m wI x0 up0) {up1 : Value} (rp1 : RV gI.m wI x1 up1) {r : It (Int × Int)} (h : f56 x0 x1 = some r) : Fn Try.prog 56 #[up0, up1] gI wI (fun m w v => ItV Try.prog (RA2 (α := Int) (β := Int)) (r) v m w) := by
 unfold f56 at h
 refine fn_of_E Try.func56 rfl (Nat.le_of_ble_eq_true rfl) fun g0 hm hfr => ?_
 have rp0 : RV g0.m wI x0 up0 := hm ▸ rp0
 have rp1 : RV g0.m wI x1 up1 := hm ▸ rp1
 show E _ 6 none _ _ _ _ _
 refine E_seq (E_region (EL_do .plain rfl (D_box (g := g0) rfl rp0 fun g1 w1 p1 hs q1 => ?_)))
 have hfr := hfr.ext hs
 have rp0 := rp0.ext hs
 have rp1 := rp1.ext hs
 refine EL_do .plain rfl (D_box (g := g1) rfl rp1 fun g2 w2 p2 hs q2 => ?_)
 have hfr := hfr.ext hs
 have rp0 := rp0.ext hs
 have rp1 := rp1.ext hs
 have q1 := q1.ext hs
 refine EL_pur (v := .nilFunc) (P_assign rfl) .plain rfl ?_
 refine EL_nil (thn_n (E_seq (E_region (EL_pur (v := (.func (.func 83) #[] #[p1, p2])) (P_makeFunc (capf_0_2 (show ev _ _ = p1 from rfl) (show ev _ _ = p2 from rfl))) .plain rfl ?_))))
 refine EL_pur (v := (.func (.func 83) #[] #[p1, p2])) (P_assign rfl) .plain rfl ?_
 refine EL_nil (thn_n (E_ret ?_))
 obtain rfl := Option.some.inj h
 exact end1 rfl rfl (show _ = (.func (.func 83) #[] #[p1, p2]) from rfl) ⟨_, hfr, (show ItV Try.prog (RA2 (α := Int) (β := Int)) (fun σ cons s => f83 x0 x1 σ cons s) ((.func (.func 83) #[] #[p1, p2])) g2.m w2 from ⟨83, #[], #[p1, p2], rfl, en83, fun g' w' hch σ cons s s' h => wk83  (q1.ch hch) (q2.ch hch) h⟩)⟩
end Go.Proofs.Ytpiaipiehjcflaa
