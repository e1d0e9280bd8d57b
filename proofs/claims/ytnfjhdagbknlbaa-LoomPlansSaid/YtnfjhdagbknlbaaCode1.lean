import Derived.Test.YtnfjhdagbknlbaaTypes
set_option maxRecDepth 8000
set_option maxHeartbeats 4000000
namespace Go.Proofs.Ytnfjhdagbknlbaa
open Go.RowKit
theorem info_76 : (Try.prog.info? 76).map (fun i => (i.zero, i.size, i.bytes)) = some (some (.agg #[.int .i64 0, .int .i64 0, .int .i64 0]), 3, 24) := by kernel_rfl
theorem mixed : Try.prog.follows .mixedOrders = true := by kernel_rfl
theorem info_3 : (Try.prog.info? 3).map (fun i => (i.zero, i.size, i.bytes)) = some (some (.int .i64 0), 1, 8) := by kernel_rfl
theorem endm_c {P : Program} {e : Env} {ds : List Deferred} {w : World} {fn : Func} {R : Value → World → Prop} {t0 : Tmp} {v0 : Value} {y0 : TypeId} {a0 : Addr} (hres : fn.results = #[.cell t0 y0]) (hd : ds = []) (h0 : e t0 = .pointer (some a0)) (l0 : (loadVar y0 a0).run P w = .ok v0 w) (h : R v0 w) : atEnd P fn R .ret e ds w :=
 ⟨hd, fun tmps ht => ⟨_, by simp [results, hres, ht, asAddr, h0, l0], h⟩⟩
theorem info_82 : (Try.prog.info? 82).map (fun i => (i.zero, i.size, i.bytes)) = some (some (.agg #[.int .i64 0, .int .i64 0, .int .i64 0, .int .i64 0, .int .i64 0]), 5, 40) := by kernel_rfl
theorem fl_82 : Try.prog.fieldsOf 82 = #[{ name := "Width", type := 3, offset := 0, embedded := false, tag := "", pkgPath := "", byteOffset := 0 }, { name := "Chain", type := 3, offset := 1, embedded := false, tag := "", pkgPath := "", byteOffset := 8 }, { name := "Woven", type := 3, offset := 2, embedded := false, tag := "", pkgPath := "", byteOffset := 16 }, { name := "Early", type := 3, offset := 3, embedded := false, tag := "", pkgPath := "", byteOffset := 24 }, { name := "Late", type := 3, offset := 4, embedded := false, tag := "", pkgPath := "", byteOffset := 32 }] := by kernel_rfl
theorem seq_82 : SEq (α := LoomOrder) Try.prog 82 := by
 intro d x y w a b m wx m2 wy hx hy
 obtain ⟨_, ⟨_, _, rfl, rfl, ⟨_, _, rfl, rfl, ⟨_, _, rfl, rfl, ⟨_, _, rfl, rfl, rfl⟩⟩⟩⟩, rfl⟩ := hx
 obtain ⟨_, ⟨_, _, rfl, rfl, ⟨_, _, rfl, rfl, ⟨_, _, rfl, rfl, ⟨_, _, rfl, rfl, rfl⟩⟩⟩⟩, rfl⟩ := hy
 refine (run_equalIn_struct w (d + 1) 82 _ _ (by kernel_rfl) (by kernel_rfl)).trans ?_
 rw [fl_82]
 obtain ⟨x0, x1, x2, x3, x4⟩ := x
 obtain ⟨y0, y1, y2, y3, y4⟩ := y
 show (Op.eqFields (d + 1) #[.int .i64 (x0), .int .i64 (x1), .int .i64 (x2), .int .i64 (x3), .int .i64 (x4)] #[.int .i64 (y0), .int .i64 (y1), .int .i64 (y2), .int .i64 (y3), .int .i64 (y4)] _).run _ _ = _
 have x0p : (part 3 #[.int .i64 (x0), .int .i64 (x1), .int .i64 (x2), .int .i64 (x3), .int .i64 (x4)] 0).run Try.prog w = .ok (.int .i64 (x0)) w := part_one Try.isAgg3 rfl
 have x1p : (part 3 #[.int .i64 (x0), .int .i64 (x1), .int .i64 (x2), .int .i64 (x3), .int .i64 (x4)] 1).run Try.prog w = .ok (.int .i64 (x1)) w := part_one Try.isAgg3 rfl
 have x2p : (part 3 #[.int .i64 (x0), .int .i64 (x1), .int .i64 (x2), .int .i64 (x3), .int .i64 (x4)] 2).run Try.prog w = .ok (.int .i64 (x2)) w := part_one Try.isAgg3 rfl
 have x3p : (part 3 #[.int .i64 (x0), .int .i64 (x1), .int .i64 (x2), .int .i64 (x3), .int .i64 (x4)] 3).run Try.prog w = .ok (.int .i64 (x3)) w := part_one Try.isAgg3 rfl
 have x4p : (part 3 #[.int .i64 (x0), .int .i64 (x1), .int .i64 (x2), .int .i64 (x3), .int .i64 (x4)] 4).run Try.prog w = .ok (.int .i64 (x4)) w := part_one Try.isAgg3 rfl
 have y0p : (part 3 #[.int .i64 (y0), .int .i64 (y1), .int .i64 (y2), .int .i64 (y3), .int .i64 (y4)] 0).run Try.prog w = .ok (.int .i64 (y0)) w := part_one Try.isAgg3 rfl
 have y1p : (part 3 #[.int .i64 (y0), .int .i64 (y1), .int .i64 (y2), .int .i64 (y3), .int .i64 (y4)] 1).run Try.prog w = .ok (.int .i64 (y1)) w := part_one Try.isAgg3 rfl
 have y2p : (part 3 #[.int .i64 (y0), .int .i64 (y1), .int .i64 (y2), .int .i64 (y3), .int .i64 (y4)] 2).run Try.prog w = .ok (.int .i64 (y2)) w := part_one Try.isAgg3 rfl
 have y3p : (part 3 #[.int .i64 (y0), .int .i64 (y1), .int .i64 (y2), .int .i64 (y3), .int .i64 (y4)] 3).run Try.prog w = .ok (.int .i64 (y3)) w := part_one Try.isAgg3 rfl
 have y4p : (part 3 #[.int .i64 (y0), .int .i64 (y1), .int .i64 (y2), .int .i64 (y3), .int .i64 (y4)] 4).run Try.prog w = .ok (.int .i64 (y4)) w := part_one Try.isAgg3 rfl
 simp only [Op.eqFields, Sem.run_bind, Sem.run_ite, Sem.run_pure, x0p, x1p, x2p, x3p, x4p, y0p, y1p, y2p, y3p, y4p, Result.andThen_ok, run_equalIn_int _ _ _ _ _ _ _ Try.underlying3]
 simp
 grind
theorem eg_82 : Try.prog.eqGuardType Try.prog.depth 82 = false := by kernel_rfl
theorem fl_76 : Try.prog.fieldsOf 76 = #[{ name := "Order", type := 3, offset := 0, embedded := false, tag := "", pkgPath := "", byteOffset := 0 }, { name := "Loom", type := 3, offset := 1, embedded := false, tag := "", pkgPath := "", byteOffset := 8 }, { name := "From", type := 3, offset := 2, embedded := false, tag := "", pkgPath := "", byteOffset := 16 }] := by kernel_rfl
theorem seq_76 : SEq (α := LoomRun) Try.prog 76 := by
 intro d x y w a b m wx m2 wy hx hy
 obtain ⟨_, ⟨_, _, rfl, rfl, ⟨_, _, rfl, rfl, rfl⟩⟩, rfl⟩ := hx
 obtain ⟨_, ⟨_, _, rfl, rfl, ⟨_, _, rfl, rfl, rfl⟩⟩, rfl⟩ := hy
 refine (run_equalIn_struct w (d + 1) 76 _ _ (by kernel_rfl) (by kernel_rfl)).trans ?_
 rw [fl_76]
 obtain ⟨x0, x1, x2⟩ := x
 obtain ⟨y0, y1, y2⟩ := y
 show (Op.eqFields (d + 1) #[.int .i64 (x0), .int .i64 (x1), .int .i64 (x2)] #[.int .i64 (y0), .int .i64 (y1), .int .i64 (y2)] _).run _ _ = _
 have x0p : (part 3 #[.int .i64 (x0), .int .i64 (x1), .int .i64 (x2)] 0).run Try.prog w = .ok (.int .i64 (x0)) w := part_one Try.isAgg3 rfl
 have x1p : (part 3 #[.int .i64 (x0), .int .i64 (x1), .int .i64 (x2)] 1).run Try.prog w = .ok (.int .i64 (x1)) w := part_one Try.isAgg3 rfl
 have x2p : (part 3 #[.int .i64 (x0), .int .i64 (x1), .int .i64 (x2)] 2).run Try.prog w = .ok (.int .i64 (x2)) w := part_one Try.isAgg3 rfl
 have y0p : (part 3 #[.int .i64 (y0), .int .i64 (y1), .int .i64 (y2)] 0).run Try.prog w = .ok (.int .i64 (y0)) w := part_one Try.isAgg3 rfl
 have y1p : (part 3 #[.int .i64 (y0), .int .i64 (y1), .int .i64 (y2)] 1).run Try.prog w = .ok (.int .i64 (y1)) w := part_one Try.isAgg3 rfl
 have y2p : (part 3 #[.int .i64 (y0), .int .i64 (y1), .int .i64 (y2)] 2).run Try.prog w = .ok (.int .i64 (y2)) w := part_one Try.isAgg3 rfl
 simp only [Op.eqFields, Sem.run_bind, Sem.run_ite, Sem.run_pure, x0p, x1p, x2p, y0p, y1p, y2p, Result.andThen_ok, run_equalIn_int _ _ _ _ _ _ _ Try.underlying3]
 simp
 grind
theorem eg_76 : Try.prog.eqGuardType Try.prog.depth 76 = false := by kernel_rfl
theorem lay_48 : layoutOf Try.prog 48 = some ([.int .i64 0, .int .i64 0], [(0, 1), (1, 1)]) := by kernel_rfl
theorem endm_ctt {P : Program} {e : Env} {ds : List Deferred} {w : World} {fn : Func} {R : Value → World → Prop} {t0 : Tmp} {v0 : Value} {y0 : TypeId} {a0 : Addr} {t1 : Tmp} {v1 : Value} {t2 : Tmp} {v2 : Value} (hres : fn.results = #[.cell t0 y0, .tmp t1, .tmp t2]) (hd : ds = []) (h0 : e t0 = .pointer (some a0)) (l0 : (loadVar y0 a0).run P w = .ok v0 w) (h1 : e t1 = v1) (h2 : e t2 = v2) (h : R (.tuple #[v0, v1, v2]) w) : atEnd P fn R .ret e ds w :=
 ⟨hd, fun tmps ht => ⟨_, by simp [results, hres, ht, asAddr, h0, l0, h1, h2], h⟩⟩
theorem plain_LoomRun : Plain LoomRun := fun _ m' _ w' x _ h => (plain_two plain_int (plain_two plain_int plain_int)) _ m' _ w' _ _ h
theorem info_4 : (Try.prog.info? 4).map (fun i => (i.zero, i.size, i.bytes)) = some (some (.bool false), 1, 1) := by kernel_rfl
theorem lay_24 : layoutOf Try.prog 24 = some ([.slice none 0 0, .int .i64 0], [(0, 1), (1, 1)]) := by kernel_rfl
theorem lay_82 : layoutOf Try.prog 82 = some ([.int .i64 0, .int .i64 0, .int .i64 0, .int .i64 0, .int .i64 0], [(0, 1), (1, 1), (2, 1), (3, 1), (4, 1)]) := by kernel_rfl
theorem lay_76 : layoutOf Try.prog 76 = some ([.int .i64 0, .int .i64 0, .int .i64 0], [(0, 1), (1, 1), (2, 1)]) := by kernel_rfl
theorem lay_54 : layoutOf Try.prog 54 = some ([.int .i64 0, .int .i64 0, .int .i64 0], [(0, 1), (1, 2)]) := by kernel_rfl
theorem lay_96 : layoutOf Try.prog 96 = some ([.slice none 0 0, .int .i64 0, .slice none 0 0], [(0, 2), (2, 1)]) := by kernel_rfl
theorem endm_ct {P : Program} {e : Env} {ds : List Deferred} {w : World} {fn : Func} {R : Value → World → Prop} {t0 : Tmp} {v0 : Value} {y0 : TypeId} {a0 : Addr} {t1 : Tmp} {v1 : Value} (hres : fn.results = #[.cell t0 y0, .tmp t1]) (hd : ds = []) (h0 : e t0 = .pointer (some a0)) (l0 : (loadVar y0 a0).run P w = .ok v0 w) (h1 : e t1 = v1) (h : R (.tuple #[v0, v1]) w) : atEnd P fn R .ret e ds w :=
 ⟨hd, fun tmps ht => ⟨_, by simp [results, hres, ht, asAddr, h0, l0, h1], h⟩⟩
theorem key_3 : KeyLaw Try.prog 3 (Value.int .i64) := keyLaw_int Try.underlying3
theorem capf_0_1 {e : Env} {f : FuncId} {j0 : Operand} {b0 : Value} (hb0 : ev e j0 = b0) : (Value.func (.func f) ((#[] : Array Operand).map (ev e)) ((#[j0] : Array Operand).map (ev e))) = .func (.func f) #[] #[b0] := by simp [hb0]
theorem capf_0_2 {e : Env} {f : FuncId} {j0 : Operand} {o0 : Operand} {b0 : Value} {b1 : Value} (hb0 : ev e j0 = b0) (hb1 : ev e o0 = b1) : (Value.func (.func f) ((#[] : Array Operand).map (ev e)) ((#[j0, o0] : Array Operand).map (ev e))) = .func (.func f) #[] #[b0, b1] := by simp [hb0, hb1]
theorem plain_LoomOrder : Plain LoomOrder := fun _ m' _ w' x _ h => (plain_two plain_int (plain_two plain_int (plain_two plain_int (plain_two plain_int plain_int)))) _ m' _ w' _ _ h
theorem lay_113 : layoutOf Try.prog 113 = some ([.slice none 0 0, .int .i64 0, .slice none 0 0, .int .i64 0, .int .i64 0, .int .i64 0], [(0, 3), (3, 3)]) := by kernel_rfl
theorem fl_48 : Try.prog.fieldsOf 48 = #[{ name := "Low", type := 3, offset := 0, embedded := false, tag := "", pkgPath := "", byteOffset := 0 }, { name := "High", type := 3, offset := 1, embedded := false, tag := "", pkgPath := "", byteOffset := 8 }] := by kernel_rfl
theorem seq_48 : SEq (α := Span) Try.prog 48 := by
 intro d x y w a b m wx m2 wy hx hy
 obtain ⟨_, ⟨_, _, rfl, rfl, rfl⟩, rfl⟩ := hx
 obtain ⟨_, ⟨_, _, rfl, rfl, rfl⟩, rfl⟩ := hy
 refine (run_equalIn_struct w (d + 1) 48 _ _ (by kernel_rfl) (by kernel_rfl)).trans ?_
 rw [fl_48]
 obtain ⟨x0, x1⟩ := x
 obtain ⟨y0, y1⟩ := y
 show (Op.eqFields (d + 1) #[.int .i64 (x0), .int .i64 (x1)] #[.int .i64 (y0), .int .i64 (y1)] _).run _ _ = _
 have x0p : (part 3 #[.int .i64 (x0), .int .i64 (x1)] 0).run Try.prog w = .ok (.int .i64 (x0)) w := part_one Try.isAgg3 rfl
 have x1p : (part 3 #[.int .i64 (x0), .int .i64 (x1)] 1).run Try.prog w = .ok (.int .i64 (x1)) w := part_one Try.isAgg3 rfl
 have y0p : (part 3 #[.int .i64 (y0), .int .i64 (y1)] 0).run Try.prog w = .ok (.int .i64 (y0)) w := part_one Try.isAgg3 rfl
 have y1p : (part 3 #[.int .i64 (y0), .int .i64 (y1)] 1).run Try.prog w = .ok (.int .i64 (y1)) w := part_one Try.isAgg3 rfl
 simp only [Op.eqFields, Sem.run_bind, Sem.run_ite, Sem.run_pure, x0p, x1p, y0p, y1p, Result.andThen_ok, run_equalIn_int _ _ _ _ _ _ _ Try.underlying3]
 simp
 grind
theorem eg_48 : Try.prog.eqGuardType Try.prog.depth 48 = false := by kernel_rfl
/-- slices.Clone[[]griffe/api.LoomRun,griffe/api.LoomRun] -/
def f67 (x0 : List LoomRun) : Option (List LoomRun) := apnd 24 [] x0
theorem en67 : Enters Try.prog 67 := enters_of Try.func67 (by kernel_rfl) rfl
/-- math/bits.Len, of numbers below 256 -/
def lenTab : Str := (⟨[0, 1, 2, 2, 3, 3, 3, 3, 4, 4, 4, 4, 4, 4, 4, 4, 5, 5, 5, 5, 5, 5, 5, 5, 5, 5, 5, 5, 5, 5, 5, 5, 6, 6, 6, 6, 6, 6, 6, 6, 6, 6, 6, 6, 6, 6, 6, 6, 6, 6, 6, 6, 6, 6, 6, 6, 6, 6, 6, 6, 6, 6, 6, 6, 7, 7, 7, 7, 7, 7, 7, 7, 7, 7, 7, 7, 7, 7, 7, 7, 7, 7, 7, 7, 7, 7, 7, 7, 7, 7, 7, 7, 7, 7, 7, 7, 7, 7, 7, 7, 7, 7, 7, 7, 7, 7, 7, 7, 7, 7, 7, 7, 7, 7, 7, 7, 7, 7, 7, 7, 7, 7, 7, 7, 7, 7, 7, 7, 8, 8, 8, 8, 8, 8, 8, 8, 8, 8, 8, 8, 8, 8, 8, 8, 8, 8, 8, 8, 8, 8, 8, 8, 8, 8, 8, 8, 8, 8, 8, 8, 8, 8, 8, 8, 8, 8, 8, 8, 8, 8, 8, 8, 8, 8, 8, 8, 8, 8, 8, 8, 8, 8, 8, 8, 8, 8, 8, 8, 8, 8, 8, 8, 8, 8, 8, 8, 8, 8, 8, 8, 8, 8, 8, 8, 8, 8, 8, 8, 8, 8, 8, 8, 8, 8, 8, 8, 8, 8, 8, 8, 8, 8, 8, 8, 8, 8, 8, 8, 8, 8, 8, 8, 8, 8, 8, 8, 8, 8, 8, 8, 8, 8, 8, 8, 8, 8, 8, 8, 8, 8, 8, 8, 8, 8, 8, 8]⟩ : Str)
def f115 (x : Int) : Option Int := if 0 ≤ x ∧ x < 256 then (idx lenTab.b x).map fun c => w64 (0 + (c.toNat : Int)) else none
def f101 (x : Int) : Option Int := f115 x
theorem en115 : Enters Try.prog 115 := enters_of Try.func115 (by kernel_rfl) rfl
theorem en101 : Enters Try.prog 101 := enters_of Try.func101 (by kernel_rfl) rfl
theorem wk115 {gI : Gh} {wI : World} {x0 : Int} {r : Int} (h : f115 x0 = some r) : Fn Try.prog 115 #[.int .u64 x0] gI wI (fun _ _ v => v = .int .i64 (r)) := by
 unfold f115 at h
 split at h
 case isFalse => cases h
 rename_i hx
 obtain ⟨h0, h1⟩ := hx
 cases hc : idx lenTab.b x0 with
 | none => rw [hc] at h; cases h
 | some c =>
 rw [hc] at h
 obtain rfl := sinj h
 refine fn_of_E Try.func115 rfl (Nat.le_of_ble_eq_true rfl) fun g0 hm hfr => ?_
 show E _ 25 none _ _ _ _ _
 refine E_seq (E_region (EL_at (.int .i64 0) rfl rfl (EL_nil (thn_n ?_))))
 refine E_seq (E_seq (E_region (EL_mw (.int .u64 x0) rfl rfl ?_)))
 refine EL_pur (v := .bool false) (P_u64lt rfl rfl (by omega)) .plain rfl (EL_nil (thn_n ?_))
 refine E_cond_false rfl (E_skip (thn_n ?_))
 refine E_seq (E_seq (E_region (EL_mw (.int .u64 x0) rfl rfl ?_)))
 refine EL_pur (v := .bool false) (P_u64lt rfl rfl (by omega)) .plain rfl (EL_nil (thn_n ?_))
 refine E_cond_false rfl (E_skip (thn_n ?_))
 refine E_seq (E_seq (E_region (EL_mw (.int .u64 x0) rfl rfl ?_)))
 refine EL_pur (v := .bool false) (P_u64lt rfl rfl (by omega)) .plain rfl (EL_nil (thn_n ?_))
 refine E_cond_false rfl (E_skip (thn_n ?_))
 refine E_seq (E_region (EL_mw (.int .i64 0) rfl rfl ?_))
 refine EL_mw (.int .u64 x0) rfl rfl ?_
 refine EL_pur (v := .int .u8 x0) (P_u64u8 Try.underlying169 Try.underlying5 rfl h0 h1) .plain rfl ?_
 refine EL_pur (v := .int .u8 c.toNat) (P_indexS (s := lenTab) Try.underlying9 rfl rfl hc) .plain rfl ?_
 refine EL_pur (v := .int .i64 (c.toNat : Int)) (P_u8int Try.underlying5 Try.underlying2 rfl) .plain rfl ?_
 refine EL_in (.int .i64 (w64 (0 + (c.toNat : Int)))) rfl rfl rfl rfl ?_
 refine EL_at (.int .i64 (w64 (0 + (c.toNat : Int)))) rfl rfl (EL_nil (thn_n ?_))
 exact E_ret (end1 rfl rfl (show _ = _ from rfl) ⟨_, hfr, rfl⟩)
theorem wk101 {gI : Gh} {wI : World} {x0 : Int} {r : Int} (h : f101 x0 = some r) : Fn Try.prog 101 #[.int .u64 x0] gI wI (fun _ _ v => v = .int .i64 (r)) := by
 unfold f101 at h
 refine fn_of_E Try.func101 rfl (Nat.le_of_ble_eq_true rfl) fun g0 hm hfr => ?_
 show E _ 8 none _ _ _ _ _
 refine E_seq (E_region (EL_at (.int .i64 0) rfl rfl (EL_nil (thn_n ?_))))
 refine E_seq (E_cond_false rfl (E_skip (thn_n ?_)))
 refine E_seq (E_region (EL_mw (.int .u64 x0) rfl rfl ?_))
 refine EL_do .plain rfl (D_call (g := g0) (vs := [.int .u64 x0]) en115 (.cons rfl .nil) (wk115 h) fun g1 w1 v1 hs hr => ?_)
 have hfr := hfr.ext hs
 subst hr
 refine EL_at (.int .i64 r) rfl rfl (EL_nil (thn_n ?_))
 exact E_ret (end1 rfl rfl (show _ = _ from rfl) ⟨_, hfr, rfl⟩)
/-- griffe/griffelaw08.large -/
def f12 (x0 : LoomMill) (x1 : List LoomOrder) (x2 : Int) : Option (Bool) :=
 Option.bind (α := Bool) (
  bif (decide ((((x0).Widths).length : Int) > (10 : Int))) then
   some (true)
  else
   bif (decide (((x1).length : Int) > x2)) then
    bif (decide (((x1).length : Int) ≤ (7 : Int))) then
     some (true)
    else
     some ((decide (((x1).length : Int) > (10 : Int))))
   else
    some ((decide (((x1).length : Int) > (10 : Int))))
  ) fun j1 =>
 some (j1)
theorem en12 : Enters Try.prog 12 := enters_of Try.func12 (by kernel_rfl) rfl
theorem wk12 {gI : Gh} {wI : World} {x0 : LoomMill} {x1 : List LoomOrder} {x2 : Int} {up0 : Value} (rp0 : RV gI.m wI x0 up0) {up1 : Value} (rp1 : RV gI.m wI x1 up1) {r : Bool} (h : f12 x0 x1 x2 = some r) : Fn Try.prog 12 #[up0, up1, .int .i64 (x2)] gI wI (fun _ _ v => v = .bool (r)) := by
 unfold f12 at h
 refine fn_of_E Try.func12 rfl (Nat.le_of_ble_eq_true rfl) fun g0 hm hfr => ?_
 have rp0 : RV g0.m wI x0 up0 := hm ▸ rp0
 have rp1 : RV g0.m wI x1 up1 := hm ▸ rp1
 show E _ 27 none _ _ _ _ _
 refine E_seq (E_region (EL_do .plain rfl (D_box (g := g0) rfl rp0 fun g1 w1 p1 hs q1 => ?_)))
 have hfr := hfr.ext hs
 have rp1 := rp1.ext hs
 refine EL_at (.bool false) rfl rfl ?_
 refine EL_nil (thn_n ?_)
 obtain ⟨j1, hx, h⟩ := bsome h
 refine E_join (fun e w => ∃ (g : Gh) , Fr gI wI g w ∧ e 6 = .bool (j1)) (fun Q' hQ => ?_) (fun j2 z2 hR => ?_)
 ·replace h := hx
  clear hx
  refine E_region (EL_pur (v := fPtr p1 0) (P_fieldAddr at_24_0 rfl (PT.ptr q1)) .plain rfl ?_)
  have q7 := PT_field (part_LoomMill_0).1 q1
  refine EL_do .plain rfl (D_load (g := g1) Try.isAgg22 Try.sizeOf22 rfl q7 fun v8 r8 => ?_)
  refine EL_pur (v := .int .i64 (((x0).Widths).length : Int)) (P_len Try.underlying22 rfl r8) .plain rfl ?_
  refine EL_pur (v := .bool ((decide ((((x0).Widths).length : Int) > (10 : Int))))) (P_int rfl rfl rfl) .plain rfl ?_
  refine EL_pur (v := .bool ((decide ((((x0).Widths).length : Int) > (10 : Int))))) (P_move rfl) .plain rfl ?_
  rcases csome h with ⟨j0, h⟩ | ⟨j0, h⟩
  ·refine EL_skip (.no2 rfl rfl j0 rfl) rfl ?_
   refine EL_skip (.no2 rfl rfl j0 rfl) rfl ?_
   refine EL_skip (.no2 rfl rfl j0 rfl) rfl ?_
   refine EL_skip (.no2 rfl rfl j0 rfl) rfl ?_
   refine EL_skip (.no2 rfl rfl j0 rfl) rfl ?_
   refine EL_dead 3 rfl ?_
   refine EL_skip (.no2 rfl rfl j0 rfl) rfl ?_
   refine EL_pur (v := .bool true) (P_pick (b := (decide ((((x0).Widths).length : Int) > (10 : Int)))) rfl (pick_t j0 rfl)) .plain rfl ?_
   refine EL_dead 5 rfl ?_
   refine EL_at (.bool true) rfl rfl ?_
   refine EL_nil ?_
   obtain rfl := sinj h
   exact hQ _ _ ⟨g1, hfr, rfl⟩
  ·refine EL_pur (v := up1) (P_move rfl) (.yes2 rfl rfl j0) rfl ?_
   refine EL_pur (v := .int .i64 ((x1).length : Int)) (P_len Try.underlying25 rfl rp1) (.yes2 rfl rfl j0) rfl ?_
   refine EL_pur (v := .int .i64 (x2)) (P_move rfl) (.yes2 rfl rfl j0) rfl ?_
   refine EL_pur (v := .bool ((decide (((x1).length : Int) > x2)))) (P_int rfl rfl rfl) (.yes2 rfl rfl j0) rfl ?_
   refine EL_pur (v := .bool ((decide (((x1).length : Int) > x2)))) (P_move rfl) (.yes2 rfl rfl j0) rfl ?_
   rcases csome h with ⟨o0, h⟩ | ⟨o0, h⟩
   ·refine EL_pur (v := up1) (P_move rfl) (.yes2 rfl rfl o0) rfl ?_
    refine EL_pur (v := .int .i64 ((x1).length : Int)) (P_len Try.underlying25 rfl rp1) (.yes2 rfl rfl o0) rfl ?_
    refine EL_pur (v := .bool ((decide (((x1).length : Int) ≤ (7 : Int))))) (P_int rfl rfl rfl) (.yes2 rfl rfl o0) rfl ?_
    refine EL_pur (v := .bool ((decide (((x1).length : Int) ≤ (7 : Int))))) (P_pick (b := (decide (((x1).length : Int) > x2))) rfl (pick_t o0 rfl)) (.yes2 rfl rfl j0) rfl ?_
    refine EL_pur (v := .bool ((decide (((x1).length : Int) ≤ (7 : Int))))) (P_pick (b := (decide ((((x0).Widths).length : Int) > (10 : Int)))) rfl (pick_f j0 rfl)) .plain rfl ?_
    refine EL_mw (.bool ((decide (((x1).length : Int) ≤ (7 : Int))))) rfl rfl ?_
    rcases csome h with ⟨u0, h⟩ | ⟨u0, h⟩
    ·refine EL_skip (.no2 rfl rfl u0 rfl) rfl ?_
     refine EL_skip (.no2 rfl rfl u0 rfl) rfl ?_
     refine EL_skip (.no2 rfl rfl u0 rfl) rfl ?_
     refine EL_pur (v := .bool true) (P_pick (b := (decide (((x1).length : Int) ≤ (7 : Int)))) rfl (pick_t u0 rfl)) .plain rfl ?_
     refine EL_at (.bool true) rfl rfl ?_
     refine EL_nil ?_
     obtain rfl := sinj h
     exact hQ _ _ ⟨g1, hfr, rfl⟩
    ·refine EL_pur (v := up1) (P_move rfl) (.yes2 rfl rfl u0) rfl ?_
     refine EL_pur (v := .int .i64 ((x1).length : Int)) (P_len Try.underlying25 rfl rp1) (.yes2 rfl rfl u0) rfl ?_
     refine EL_pur (v := .bool ((decide (((x1).length : Int) > (10 : Int))))) (P_int rfl rfl rfl) (.yes2 rfl rfl u0) rfl ?_
     refine EL_pur (v := .bool ((decide (((x1).length : Int) > (10 : Int))))) (P_pick (b := (decide (((x1).length : Int) ≤ (7 : Int)))) rfl (pick_f u0 rfl)) .plain rfl ?_
     refine EL_at (.bool ((decide (((x1).length : Int) > (10 : Int))))) rfl rfl ?_
     refine EL_nil ?_
     obtain rfl := sinj h
     exact hQ _ _ ⟨g1, hfr, rfl⟩
   ·refine EL_skip (.no2 rfl rfl o0 rfl) rfl ?_
    refine EL_skip (.no2 rfl rfl o0 rfl) rfl ?_
    refine EL_skip (.no2 rfl rfl o0 rfl) rfl ?_
    refine EL_pur (v := .bool false) (P_pick (b := (decide (((x1).length : Int) > x2))) rfl (pick_f o0 rfl)) (.yes2 rfl rfl j0) rfl ?_
    refine EL_pur (v := .bool false) (P_pick (b := (decide ((((x0).Widths).length : Int) > (10 : Int)))) rfl (pick_f j0 rfl)) .plain rfl ?_
    refine EL_mw (.bool false) rfl rfl ?_
    refine EL_pur (v := up1) (P_move rfl) (.yes2 rfl rfl rfl) rfl ?_
    refine EL_pur (v := .int .i64 ((x1).length : Int)) (P_len Try.underlying25 rfl rp1) (.yes2 rfl rfl rfl) rfl ?_
    refine EL_pur (v := .bool ((decide (((x1).length : Int) > (10 : Int))))) (P_int rfl rfl rfl) (.yes2 rfl rfl rfl) rfl ?_
    refine EL_pur (v := .bool ((decide (((x1).length : Int) > (10 : Int))))) (P_pick (b := false) rfl (pick_f rfl rfl)) .plain rfl ?_
    refine EL_at (.bool ((decide (((x1).length : Int) > (10 : Int))))) rfl rfl ?_
    refine EL_nil ?_
    obtain rfl := sinj h
    exact hQ _ _ ⟨g1, hfr, rfl⟩
 ·clear hx
  obtain ⟨d3, hfr, z1⟩ := hR
  refine E_ret ?_
  obtain rfl := sinj h
  exact end1 rfl rfl (show _ = .bool (j1) from z1) ⟨_, hfr, rfl⟩
/-- griffe/griffelaw08.own -/
def f15 (x0 : LoomMill) : Option (LoomMill) :=
 (apnd 8 (([] : List Int)) ((x0).Widths)).bind fun y7 =>
 some ({ x0 with Widths := y7 })
theorem en15 : Enters Try.prog 15 := enters_of Try.func15 (by kernel_rfl) rfl
theorem wk15 {gI : Gh} {wI : World} {x0 : LoomMill} {up0 : Value} (rp0 : RV gI.m wI x0 up0) {r : LoomMill} (h : f15 x0 = some r) : Fn Try.prog 15 #[up0] gI wI (fun m w v => RV m w (r) v) := by
 unfold f15 at h
 refine fn_of_E Try.func15 rfl (Nat.le_of_ble_eq_true rfl) fun g0 hm hfr => ?_
 have rp0 : RV g0.m wI x0 up0 := hm ▸ rp0
 show E _ 9 none _ _ _ _ _
 refine E_seq (E_region (EL_do .plain rfl (D_boxO (g := g0) 2001 rfl rp0 fun g1 w1 p1 hs b1 => ?_)))
 have hfr := hfr.stp hs
 refine EL_do .plain rfl (D_allocOc (g := g1) 2002 (⟨[], 0⟩ : LoomMill) Try.zeroValue24 (fun m w => ⟨_, (rep_two rep_nil rep_int), rfl⟩) fun g2 w2 p2 hs b2 cb => ?_)
 have hfr := hfr.stp hs
 have b1 := b1.stp hs rfl
 have j1 : OSF 2002 60200 0 g2 w2 3 24 ([] : List Int) p2 := cb.osf (by rfl)
 clear cb
 refine EL_nil (thn_n (E_seq (E_region (EL_do .plain rfl (D_buildSlice (g := g2) 3003 (xs := ([] : List Int)) (vs := []) Try.underlying22 Try.sizeOf3 Try.zeroValue3 rfl rfl .nil RVs.nil rfl rfl fun g3 w3 v3 hs o3 r3 hxt hfl => ?_)))))
 have hfr := hfr.stp hs
 have b1 := b1.stp hs rfl
 have b2 := b2.stp hs rfl
 refine EL_pur (v := fPtr p1 0) (P_fieldAddr at_24_0 rfl (OB.ptr b1)) .plain rfl ?_
 refine EL_do .plain rfl (D_loadF (g := g3) part_LoomMill_0.1 Try.isAgg22 Try.sizeOf22 rfl b1 fun v5 r5 => ?_)
 obtain ⟨y7, j0, h⟩ := bsome h
 refine EL_do .plain rfl (D_append (g := g3) (i := 3003) Try.underlying22 info_3 rfl rfl o3 r3 rfl r5 j0 fun g6 w6 v6 hs o6 r6 _ => ?_)
 have hfr := hfr.stp hs
 have b1 := b1.stp hs rfl
 have b2 := b2.stp hs rfl
 refine EL_pur (v := fPtr p1 0) (P_fieldAddr at_24_0 rfl (OB.ptr b1)) .plain rfl ?_
 refine EL_do .plain rfl (D_storeFc (g := g6) part_LoomMill_0 Try.sizeOf22 rfl b1 rfl r6 fun g9 w9 hs b9 rst hos => ?_)
 have z1 := hos _ _ 3003 3 (y7 : List Int) (rv_cells1 r6) rfl o6
 clear rst hos
 have hfr := hfr.stp hs
 have b2 := b2.stp hs rfl
 refine EL_nil (thn_n (E_seq (E_region (EL_do .plain rfl (D_loadO (g := g9) Try.isAgg24 Try.sizeOf24 rfl b9 fun o0 u0 => ?_)))))
 refine EL_do .plain rfl (D_storeOc (g := g9) (v := o0) Try.sizeOf24 rfl b2 rfl u0 fun j2 z2 hs b11 cb => ?_)
 clear cb
 have hfr := hfr.stp hs
 refine EL_nil (thn_n (E_ret ?_))
 obtain rfl := sinj h
 obtain ⟨ad12, cv12, hp12, hl12, cr12⟩ := ob_read Try.isAgg24 Try.sizeOf24 b11
 exact endm_c rfl rfl ((show _ = p2 from rfl).trans hp12) hl12 ⟨_, hfr, cr12⟩
/-- griffe/griffelaw08.some -/
def f16 (x0 : List LoomOrder) : Option ((List LoomOrder)) :=
 (apnd 40 (([] : List LoomOrder)) x0).bind fun y3 =>
 some (y3)
theorem en16 : Enters Try.prog 16 := enters_of Try.func16 (by kernel_rfl) rfl
theorem wk16 {gI : Gh} {wI : World} {x0 : List LoomOrder} {up0 : Value} (rp0 : RV gI.m wI x0 up0) {r : (List LoomOrder)} (h : f16 x0 = some r) : Fn Try.prog 16 #[up0] gI wI (fun m w v => RV m w (r) v) := by
 unfold f16 at h
 refine fn_of_E Try.func16 rfl (Nat.le_of_ble_eq_true rfl) fun g0 hm hfr => ?_
 have rp0 : RV g0.m wI x0 up0 := hm ▸ rp0
 show E _ 6 none _ _ _ _ _
 refine E_seq (E_region (EL_at (.slice none 0 0) rfl rfl ?_))
 refine EL_nil (thn_n (E_seq (E_region (EL_do .plain rfl (D_buildSlice (g := g0) 3003 (xs := ([] : List LoomOrder)) (vs := []) Try.underlying25 Try.sizeOf82 Try.zeroValue82 rfl rfl .nil RVs.nil rfl rfl fun g1 w1 v1 hs o1 r1 hxt hfl => ?_)))))
 have hfr := hfr.stp hs
 have rp0 := rp0.stp hs
 refine EL_mw up0 rfl rfl ?_
 obtain ⟨y3, hy3, h⟩ := bsome h
 refine EL_do .plain rfl (D_append (g := g1) (i := 3003) Try.underlying25 info_82 rfl rfl o1 r1 rfl rp0 hy3 fun g2 w2 v2 hs o2 r2 _ => ?_)
 have hfr := hfr.stp hs
 refine EL_at v2 rfl rfl ?_
 refine EL_nil (thn_n (E_ret ?_))
 obtain rfl := sinj h
 exact end1 rfl rfl (show _ = v2 from rfl) ⟨_, hfr, r2⟩
/-- griffe/grifferef08.Orders -/
def f19 (x0 : List LoomOrder) (x1 : List LoomOrder) : Option (Bool) :=
 jn (σ := Unit) (fun (_ : Unit) =>
  jn (σ := Unit) (fun (_ : Unit) =>
   some (true)
   ) fun k53 =>
  lp (σ := Int) (fun k54 j0 =>
   jn (σ := Unit) (fun (_ : Unit) =>
    jn (σ := Unit) (fun (_ : Unit) =>
     k54 ((w64 (j0 + (1 : Int))))
     ) fun k80 =>
    (idx x0 j0).bind fun y81 =>
    (idx x1 j0).bind fun y84 =>
    bif (!(decide (y81 = y84))) then
     some (false)
    else
     k80 ()
    ) fun k57 =>
   bif (decide (j0 < ((x0).length : Int))) then
    k57 ()
   else
    k53 ()
   ) big ((0 : Int))
  ) fun k2 =>
 bif (((x0).length : Int) != ((x1).length : Int)) then
  some (false)
 else
  k2 ()
theorem en19 : Enters Try.prog 19 := enters_of Try.func19 (by kernel_rfl) rfl
theorem wk19 {gI : Gh} {wI : World} {x0 : List LoomOrder} {x1 : List LoomOrder} {up0 : Value} (rp0 : RV gI.m wI x0 up0) {up1 : Value} (rp1 : RV gI.m wI x1 up1) {r : Bool} (h : f19 x0 x1 = some r) : Fn Try.prog 19 #[up0, up1] gI wI (fun _ _ v => v = .bool (r)) := by
 unfold f19 at h
 refine fn_of_E Try.func19 rfl (Nat.le_of_ble_eq_true rfl) fun g0 hm hfr => ?_
 have rp0 : RV g0.m wI x0 up0 := hm ▸ rp0
 have rp1 : RV g0.m wI x1 up1 := hm ▸ rp1
 show E _ 26 none _ _ _ _ _
 refine E_seq (E_region (EL_at (.bool false) rfl rfl ?_))
 refine EL_nil (thn_n (E_joinC h (fun (s : Unit) e w => ∃ (g : Gh) , Fr gI wI g w ∧ e 0 = up0 ∧ RV g.m w (x0 : List LoomOrder) up0 ∧ e 1 = up1 ∧ RV g.m w (x1 : List LoomOrder) up1) (fun X2 k2 hk2 h => ?_) ?_))
 ·refine E_seq (E_region (EL_mw up0 rfl rfl ?_))
  refine EL_pur (v := .int .i64 ((x0).length : Int)) (P_len Try.underlying25 rfl rp0) .plain rfl ?_
  refine EL_mw up1 rfl rfl ?_
  refine EL_pur (v := .int .i64 ((x1).length : Int)) (P_len Try.underlying25 rfl rp1) .plain rfl ?_
  refine EL_in (.bool ((((x0).length : Int) != ((x1).length : Int)))) rfl rfl rfl rfl ?_
  refine EL_nil (thn_n ?_)
  rcases csome h with ⟨hc3, h⟩ | ⟨hc3, h⟩
  ·refine E_ct hc3 rfl ?_
   refine E_seq (E_region (EL_at (.bool false) rfl rfl ?_))
   refine EL_nil (thn_n (E_ret (thn_r ?_)))
   obtain rfl := sinj h
   exact end1 rfl rfl (show _ = .bool false from rfl) ⟨_, hfr, rfl⟩
  ·refine E_cf hc3 rfl ?_
   exact E_skip (thn_n (hk2 () _ _ ⟨g0, hfr, rfl, rp0, rfl, rp1⟩ h))
 ·rintro _ m6 w4 ⟨g4, hfr, p4, u4, x4, z4⟩ h
  refine E_joinC h (fun (s : Unit) e w => ∃ (g : Gh) , Fr gI wI g w) (fun X53 k53 c5 h => ?_) ?_
  ·refine E_seq (E_region (EL_at (.int .i64 (0)) rfl rfl ?_))
   refine EL_nil (thn_n (E_block ?_))
   refine E_lp h (fun (s : Int) e w => ∃ (g : Gh) , Fr gI wI g w ∧ e 0 = up0 ∧ RV g.m w (x0 : List LoomOrder) up0 ∧ e 1 = up1 ∧ RV g.m w (x1 : List LoomOrder) up1 ∧ e 5 = .int .i64 (s)) ⟨g4, hfr, p4, u4, x4, z4, rfl⟩ (fun X54 k54 d5 => ?_)
   rintro j0 d6 n6 ⟨o4, hfr, z2, d3, m4, n4, i3⟩ h
   refine E_joinC h (fun (s : Unit) e w => ∃ (g : Gh) , Fr gI wI g w ∧ e 0 = up0 ∧ RV g.m w (x0 : List LoomOrder) up0 ∧ e 1 = up1 ∧ RV g.m w (x1 : List LoomOrder) up1 ∧ e 5 = .int .i64 (j0)) (fun X57 k57 i5 h => ?_) ?_
   ·refine E_seq (E_region (EL_mv i3 rfl ?_))
    refine EL_mv z2 rfl ?_
    refine EL_pur (v := .int .i64 ((x0).length : Int)) (P_len Try.underlying25 rfl d3) .plain rfl ?_
    refine EL_in (.bool ((decide (j0 < ((x0).length : Int))))) rfl rfl rfl rfl ?_
    refine EL_nil (thn_n ?_)
    rcases csome h with ⟨j2, h⟩ | ⟨j2, h⟩
    ·refine E_ct j2 rfl ?_
     exact E_skip (thn_n (i5 () _ _ ⟨o4, hfr, z2, d3, m4, n4, i3⟩ h))
    ·refine E_cf j2 rfl ?_
     refine E_exit ?_
     refine thn_e ?_
     refine thn_e ?_
     refine blk_hit ?_
     exact thn_n (c5 () _ _ ⟨o4, hfr⟩ h)
   ·rintro _ i6 o6 ⟨o5, hfr, j3, o0, o3, u0, j1⟩ h
    refine E_joinC h (fun (s : Unit) e w => ∃ (g : Gh) , Fr gI wI g w ∧ e 0 = up0 ∧ RV g.m w (x0 : List LoomOrder) up0 ∧ e 1 = up1 ∧ RV g.m w (x1 : List LoomOrder) up1 ∧ e 5 = .int .i64 (j0)) (fun X80 k80 j5 h => ?_) ?_
    ·refine E_block ?_
     refine E_seq ?_
     obtain ⟨y81, p3, h⟩ := bsome h
     have p5 := PT_idx o0 p3
     refine L_load (x := .tmp 19) Try.isAgg82 Try.sizeOf82 p5 fun q5 t5 l5 => ?_
     obtain ⟨y84, u3, h⟩ := bsome h
     have u5 := PT_idx u0 u3
     refine L_load (x := .tmp 23) Try.isAgg82 Try.sizeOf82 u5 fun x5 y5 m5 => ?_
     refine E_drawL (g := o5) (n := 9) [] [0, 1, 2, 3, 4, 5, 6, 7, 8] rfl mixed (by kernel_rfl) trivial ?_
     refine L_pur (c := up0) rfl rfl .plain (fun _ _ hd => P_move j3) ?_
     refine L_pur (c := .int .i64 (j0)) rfl rfl .plain (fun _ _ hd => P_move j1) ?_
     refine L_pur (c := ePtr up0 j0 5) rfl rfl .plain (fun _ _ hd => P_indexAddr (α := LoomOrder) Try.underlying25 Try.sizeOf82 rfl o0 rfl p3) ?_
     refine L_ld (c := q5) rfl rfl .plain (fun _ _ h => h.ch) l5 rfl ?_
     refine L_pur (c := up1) rfl rfl .plain (fun _ _ hd => P_move o3) ?_
     refine L_pur (c := .int .i64 (j0)) rfl rfl .plain (fun _ _ hd => P_move j1) ?_
     refine L_pur (c := ePtr up1 j0 5) rfl rfl .plain (fun _ _ hd => P_indexAddr (α := LoomOrder) Try.underlying25 Try.sizeOf82 rfl u0 rfl u3) ?_
     refine L_ld (c := x5) rfl rfl .plain (fun _ _ h => h.ch) m5 rfl ?_
     refine L_pur (c := .bool ((!(decide (y81 = y84))))) rfl rfl .plain (fun _ _ hd => P_sne seq_82 rfl eg_82 rfl rfl t5 y5) ?_
     refine L_nil fun z5 p6 hall => ?_
     have hs := hall.1
     have hfr := hfr.ext hs
     have o0 := o0.ext hs
     have u0 := u0.ext hs
     clear hs hall
     refine EL_nil (thn_n ?_)
     rcases csome h with ⟨z1, h⟩ | ⟨z1, h⟩
     ·refine E_ct z1 rfl ?_
      refine E_seq (E_region (EL_at (.bool false) rfl rfl ?_))
      refine EL_nil (thn_n (E_ret (blk_r ?_)))
      refine thn_r ?_
      refine thn_r ?_
      refine blk_r ?_
      refine thn_r ?_
      obtain rfl := sinj h
      exact end1 rfl rfl (show _ = .bool false from rfl) ⟨_, hfr, rfl⟩
     ·refine E_cf z1 rfl ?_
      exact E_skip (blk_n (thn_n (j5 () _ _ ⟨z5, hfr, j3, o0, o3, u0, j1⟩ h)))
    ·rintro _ b6 j6 ⟨n5, hfr, z3, c4, d4, i4, j4⟩ h
     refine E_region (EL_mv j4 rfl ?_)
     refine EL_in (.int .i64 ((w64 (j0 + (1 : Int))))) rfl rfl rfl rfl ?_
     refine EL_at (.int .i64 ((w64 (j0 + (1 : Int))))) rfl rfl ?_
     exact EL_nil (thn_n (d5 ((w64 (j0 + (1 : Int)))) _ _ ⟨n5, hfr, z3, c4, d4, i4, rfl⟩ h))
  ·rintro _ c6 k6 ⟨l6, hfr⟩ h
   refine E_seq (E_region (EL_at (.bool true) rfl rfl ?_))
   refine EL_nil (thn_n (E_ret ?_))
   obtain rfl := sinj h
   exact end1 rfl rfl (show _ = .bool true from rfl) ⟨_, hfr, rfl⟩
/-- griffe/grifferef08.Runs -/
def f22 (x0 : List LoomRun) (x1 : List LoomRun) : Option (Bool) :=
 jn (σ := Unit) (fun (_ : Unit) =>
  jn (σ := Unit) (fun (_ : Unit) =>
   some (true)
   ) fun k53 =>
  lp (σ := Int) (fun k54 j0 =>
   jn (σ := Unit) (fun (_ : Unit) =>
    jn (σ := Unit) (fun (_ : Unit) =>
     k54 ((w64 (j0 + (1 : Int))))
     ) fun k80 =>
    (idx x0 j0).bind fun y81 =>
    (idx x1 j0).bind fun y84 =>
    bif (!(decide (y81 = y84))) then
     some (false)
    else
     k80 ()
    ) fun k57 =>
   bif (decide (j0 < ((x0).length : Int))) then
    k57 ()
   else
    k53 ()
   ) big ((0 : Int))
  ) fun k2 =>
 bif (((x0).length : Int) != ((x1).length : Int)) then
  some (false)
 else
  k2 ()
theorem en22 : Enters Try.prog 22 := enters_of Try.func22 (by kernel_rfl) rfl
theorem wk22 {gI : Gh} {wI : World} {x0 : List LoomRun} {x1 : List LoomRun} {up0 : Value} (rp0 : RV gI.m wI x0 up0) {up1 : Value} (rp1 : RV gI.m wI x1 up1) {r : Bool} (h : f22 x0 x1 = some r) : Fn Try.prog 22 #[up0, up1] gI wI (fun _ _ v => v = .bool (r)) := by
 unfold f22 at h
 refine fn_of_E Try.func22 rfl (Nat.le_of_ble_eq_true rfl) fun g0 hm hfr => ?_
 have rp0 : RV g0.m wI x0 up0 := hm ▸ rp0
 have rp1 : RV g0.m wI x1 up1 := hm ▸ rp1
 show E _ 26 none _ _ _ _ _
 refine E_seq (E_region (EL_at (.bool false) rfl rfl ?_))
 refine EL_nil (thn_n (E_joinC h (fun (s : Unit) e w => ∃ (g : Gh) , Fr gI wI g w ∧ e 0 = up0 ∧ RV g.m w (x0 : List LoomRun) up0 ∧ e 1 = up1 ∧ RV g.m w (x1 : List LoomRun) up1) (fun X2 k2 hk2 h => ?_) ?_))
 ·refine E_seq (E_region (EL_mw up0 rfl rfl ?_))
  refine EL_pur (v := .int .i64 ((x0).length : Int)) (P_len Try.underlying31 rfl rp0) .plain rfl ?_
  refine EL_mw up1 rfl rfl ?_
  refine EL_pur (v := .int .i64 ((x1).length : Int)) (P_len Try.underlying31 rfl rp1) .plain rfl ?_
  refine EL_in (.bool ((((x0).length : Int) != ((x1).length : Int)))) rfl rfl rfl rfl ?_
  refine EL_nil (thn_n ?_)
  rcases csome h with ⟨hc3, h⟩ | ⟨hc3, h⟩
  ·refine E_ct hc3 rfl ?_
   refine E_seq (E_region (EL_at (.bool false) rfl rfl ?_))
   refine EL_nil (thn_n (E_ret (thn_r ?_)))
   obtain rfl := sinj h
   exact end1 rfl rfl (show _ = .bool false from rfl) ⟨_, hfr, rfl⟩
  ·refine E_cf hc3 rfl ?_
   exact E_skip (thn_n (hk2 () _ _ ⟨g0, hfr, rfl, rp0, rfl, rp1⟩ h))
 ·rintro _ m6 w4 ⟨g4, hfr, p4, u4, x4, z4⟩ h
  refine E_joinC h (fun (s : Unit) e w => ∃ (g : Gh) , Fr gI wI g w) (fun X53 k53 c5 h => ?_) ?_
  ·refine E_seq (E_region (EL_at (.int .i64 (0)) rfl rfl ?_))
   refine EL_nil (thn_n (E_block ?_))
   refine E_lp h (fun (s : Int) e w => ∃ (g : Gh) , Fr gI wI g w ∧ e 0 = up0 ∧ RV g.m w (x0 : List LoomRun) up0 ∧ e 1 = up1 ∧ RV g.m w (x1 : List LoomRun) up1 ∧ e 5 = .int .i64 (s)) ⟨g4, hfr, p4, u4, x4, z4, rfl⟩ (fun X54 k54 d5 => ?_)
   rintro j0 d6 n6 ⟨o4, hfr, z2, d3, m4, n4, i3⟩ h
   refine E_joinC h (fun (s : Unit) e w => ∃ (g : Gh) , Fr gI wI g w ∧ e 0 = up0 ∧ RV g.m w (x0 : List LoomRun) up0 ∧ e 1 = up1 ∧ RV g.m w (x1 : List LoomRun) up1 ∧ e 5 = .int .i64 (j0)) (fun X57 k57 i5 h => ?_) ?_
   ·refine E_seq (E_region (EL_mv i3 rfl ?_))
    refine EL_mv z2 rfl ?_
    refine EL_pur (v := .int .i64 ((x0).length : Int)) (P_len Try.underlying31 rfl d3) .plain rfl ?_
    refine EL_in (.bool ((decide (j0 < ((x0).length : Int))))) rfl rfl rfl rfl ?_
    refine EL_nil (thn_n ?_)
    rcases csome h with ⟨j2, h⟩ | ⟨j2, h⟩
    ·refine E_ct j2 rfl ?_
     exact E_skip (thn_n (i5 () _ _ ⟨o4, hfr, z2, d3, m4, n4, i3⟩ h))
    ·refine E_cf j2 rfl ?_
     refine E_exit ?_
     refine thn_e ?_
     refine thn_e ?_
     refine blk_hit ?_
     exact thn_n (c5 () _ _ ⟨o4, hfr⟩ h)
   ·rintro _ i6 o6 ⟨o5, hfr, j3, o0, o3, u0, j1⟩ h
    refine E_joinC h (fun (s : Unit) e w => ∃ (g : Gh) , Fr gI wI g w ∧ e 0 = up0 ∧ RV g.m w (x0 : List LoomRun) up0 ∧ e 1 = up1 ∧ RV g.m w (x1 : List LoomRun) up1 ∧ e 5 = .int .i64 (j0)) (fun X80 k80 j5 h => ?_) ?_
    ·refine E_block ?_
     refine E_seq ?_
     obtain ⟨y81, p3, h⟩ := bsome h
     have p5 := PT_idx o0 p3
     refine L_load (x := .tmp 19) Try.isAgg76 Try.sizeOf76 p5 fun q5 t5 l5 => ?_
     obtain ⟨y84, u3, h⟩ := bsome h
     have u5 := PT_idx u0 u3
     refine L_load (x := .tmp 23) Try.isAgg76 Try.sizeOf76 u5 fun x5 y5 m5 => ?_
     refine E_drawL (g := o5) (n := 9) [] [0, 1, 2, 3, 4, 5, 6, 7, 8] rfl mixed (by kernel_rfl) trivial ?_
     refine L_pur (c := up0) rfl rfl .plain (fun _ _ hd => P_move j3) ?_
     refine L_pur (c := .int .i64 (j0)) rfl rfl .plain (fun _ _ hd => P_move j1) ?_
     refine L_pur (c := ePtr up0 j0 3) rfl rfl .plain (fun _ _ hd => P_indexAddr (α := LoomRun) Try.underlying31 Try.sizeOf76 rfl o0 rfl p3) ?_
     refine L_ld (c := q5) rfl rfl .plain (fun _ _ h => h.ch) l5 rfl ?_
     refine L_pur (c := up1) rfl rfl .plain (fun _ _ hd => P_move o3) ?_
     refine L_pur (c := .int .i64 (j0)) rfl rfl .plain (fun _ _ hd => P_move j1) ?_
     refine L_pur (c := ePtr up1 j0 3) rfl rfl .plain (fun _ _ hd => P_indexAddr (α := LoomRun) Try.underlying31 Try.sizeOf76 rfl u0 rfl u3) ?_
     refine L_ld (c := x5) rfl rfl .plain (fun _ _ h => h.ch) m5 rfl ?_
     refine L_pur (c := .bool ((!(decide (y81 = y84))))) rfl rfl .plain (fun _ _ hd => P_sne seq_76 rfl eg_76 rfl rfl t5 y5) ?_
     refine L_nil fun z5 p6 hall => ?_
     have hs := hall.1
     have hfr := hfr.ext hs
     have o0 := o0.ext hs
     have u0 := u0.ext hs
     clear hs hall
     refine EL_nil (thn_n ?_)
     rcases csome h with ⟨z1, h⟩ | ⟨z1, h⟩
     ·refine E_ct z1 rfl ?_
      refine E_seq (E_region (EL_at (.bool false) rfl rfl ?_))
      refine EL_nil (thn_n (E_ret (blk_r ?_)))
      refine thn_r ?_
      refine thn_r ?_
      refine blk_r ?_
      refine thn_r ?_
      obtain rfl := sinj h
      exact end1 rfl rfl (show _ = .bool false from rfl) ⟨_, hfr, rfl⟩
     ·refine E_cf z1 rfl ?_
      exact E_skip (blk_n (thn_n (j5 () _ _ ⟨z5, hfr, j3, o0, o3, u0, j1⟩ h)))
    ·rintro _ b6 j6 ⟨n5, hfr, z3, c4, d4, i4, j4⟩ h
     refine E_region (EL_mv j4 rfl ?_)
     refine EL_in (.int .i64 ((w64 (j0 + (1 : Int))))) rfl rfl rfl rfl ?_
     refine EL_at (.int .i64 ((w64 (j0 + (1 : Int))))) rfl rfl ?_
     exact EL_nil (thn_n (d5 ((w64 (j0 + (1 : Int)))) _ _ ⟨n5, hfr, z3, c4, d4, i4, rfl⟩ h))
  ·rintro _ c6 k6 ⟨l6, hfr⟩ h
   refine E_seq (E_region (EL_at (.bool true) rfl rfl ?_))
   refine EL_nil (thn_n (E_ret ?_))
   obtain rfl := sinj h
   exact end1 rfl rfl (show _ = .bool true from rfl) ⟨_, hfr, rfl⟩
/-- griffe/grifferef08.Ints -/
def f28 (x0 : List Int) (x1 : List Int) : Option (Bool) :=
 jn (σ := Unit) (fun (_ : Unit) =>
  jn (σ := Unit) (fun (_ : Unit) =>
   some (true)
   ) fun k53 =>
  lp (σ := Int) (fun k54 j0 =>
   jn (σ := Unit) (fun (_ : Unit) =>
    jn (σ := Unit) (fun (_ : Unit) =>
     k54 ((w64 (j0 + (1 : Int))))
     ) fun k80 =>
    (idx x0 j0).bind fun y81 =>
    (idx x1 j0).bind fun y84 =>
    bif (y81 != y84) then
     some (false)
    else
     k80 ()
    ) fun k57 =>
   bif (decide (j0 < ((x0).length : Int))) then
    k57 ()
   else
    k53 ()
   ) big ((0 : Int))
  ) fun k2 =>
 bif (((x0).length : Int) != ((x1).length : Int)) then
  some (false)
 else
  k2 ()
theorem en28 : Enters Try.prog 28 := enters_of Try.func28 (by kernel_rfl) rfl
theorem wk28 {gI : Gh} {wI : World} {x0 : List Int} {x1 : List Int} {up0 : Value} (rp0 : RV gI.m wI x0 up0) {up1 : Value} (rp1 : RV gI.m wI x1 up1) {r : Bool} (h : f28 x0 x1 = some r) : Fn Try.prog 28 #[up0, up1] gI wI (fun _ _ v => v = .bool (r)) := by
 unfold f28 at h
 refine fn_of_E Try.func28 rfl (Nat.le_of_ble_eq_true rfl) fun g0 hm hfr => ?_
 have rp0 : RV g0.m wI x0 up0 := hm ▸ rp0
 have rp1 : RV g0.m wI x1 up1 := hm ▸ rp1
 show E _ 26 none _ _ _ _ _
 refine E_seq (E_region (EL_at (.bool false) rfl rfl ?_))
 refine EL_nil (thn_n (E_joinC h (fun (s : Unit) e w => ∃ (g : Gh) , Fr gI wI g w ∧ e 0 = up0 ∧ RV g.m w (x0 : List Int) up0 ∧ e 1 = up1 ∧ RV g.m w (x1 : List Int) up1) (fun X2 k2 hk2 h => ?_) ?_))
 ·refine E_seq (E_region (EL_mw up0 rfl rfl ?_))
  refine EL_pur (v := .int .i64 ((x0).length : Int)) (P_len Try.underlying22 rfl rp0) .plain rfl ?_
  refine EL_mw up1 rfl rfl ?_
  refine EL_pur (v := .int .i64 ((x1).length : Int)) (P_len Try.underlying22 rfl rp1) .plain rfl ?_
  refine EL_in (.bool ((((x0).length : Int) != ((x1).length : Int)))) rfl rfl rfl rfl ?_
  refine EL_nil (thn_n ?_)
  rcases csome h with ⟨hc3, h⟩ | ⟨hc3, h⟩
  ·refine E_ct hc3 rfl ?_
   refine E_seq (E_region (EL_at (.bool false) rfl rfl ?_))
   refine EL_nil (thn_n (E_ret (thn_r ?_)))
   obtain rfl := sinj h
   exact end1 rfl rfl (show _ = .bool false from rfl) ⟨_, hfr, rfl⟩
  ·refine E_cf hc3 rfl ?_
   exact E_skip (thn_n (hk2 () _ _ ⟨g0, hfr, rfl, rp0, rfl, rp1⟩ h))
 ·rintro _ k6 w4 ⟨g4, hfr, p4, u4, x4, z4⟩ h
  refine E_joinC h (fun (s : Unit) e w => ∃ (g : Gh) , Fr gI wI g w) (fun X53 k53 c5 h => ?_) ?_
  ·refine E_seq (E_region (EL_at (.int .i64 (0)) rfl rfl ?_))
   refine EL_nil (thn_n (E_block ?_))
   refine E_lp h (fun (s : Int) e w => ∃ (g : Gh) , Fr gI wI g w ∧ e 0 = up0 ∧ RV g.m w (x0 : List Int) up0 ∧ e 1 = up1 ∧ RV g.m w (x1 : List Int) up1 ∧ e 5 = .int .i64 (s)) ⟨g4, hfr, p4, u4, x4, z4, rfl⟩ (fun X54 k54 d5 => ?_)
   rintro j0 b6 l6 ⟨o4, hfr, z2, d3, m4, n4, i3⟩ h
   refine E_joinC h (fun (s : Unit) e w => ∃ (g : Gh) , Fr gI wI g w ∧ e 0 = up0 ∧ RV g.m w (x0 : List Int) up0 ∧ e 1 = up1 ∧ RV g.m w (x1 : List Int) up1 ∧ e 5 = .int .i64 (j0)) (fun X57 k57 i5 h => ?_) ?_
   ·refine E_seq (E_region (EL_mv i3 rfl ?_))
    refine EL_mv z2 rfl ?_
    refine EL_pur (v := .int .i64 ((x0).length : Int)) (P_len Try.underlying22 rfl d3) .plain rfl ?_
    refine EL_in (.bool ((decide (j0 < ((x0).length : Int))))) rfl rfl rfl rfl ?_
    refine EL_nil (thn_n ?_)
    rcases csome h with ⟨j2, h⟩ | ⟨j2, h⟩
    ·refine E_ct j2 rfl ?_
     exact E_skip (thn_n (i5 () _ _ ⟨o4, hfr, z2, d3, m4, n4, i3⟩ h))
    ·refine E_cf j2 rfl ?_
     refine E_exit ?_
     refine thn_e ?_
     refine thn_e ?_
     refine blk_hit ?_
     exact thn_n (c5 () _ _ ⟨o4, hfr⟩ h)
   ·rintro _ c6 m6 ⟨o5, hfr, j3, o0, o3, u0, j1⟩ h
    refine E_joinC h (fun (s : Unit) e w => ∃ (g : Gh) , Fr gI wI g w ∧ e 0 = up0 ∧ RV g.m w (x0 : List Int) up0 ∧ e 1 = up1 ∧ RV g.m w (x1 : List Int) up1 ∧ e 5 = .int .i64 (j0)) (fun X80 k80 j5 h => ?_) ?_
    ·refine E_block ?_
     refine E_seq ?_
     obtain ⟨y81, p3, h⟩ := bsome h
     have p5 := PT_idx o0 p3
     refine L_load (x := .tmp 19) Try.isAgg3 Try.sizeOf3 p5 fun n6 q5 l5 => ?_
     obtain rfl := RV_int.1 q5
     obtain ⟨y84, u3, h⟩ := bsome h
     have t5 := PT_idx u0 u3
     refine L_load (x := .tmp 23) Try.isAgg3 Try.sizeOf3 t5 fun o6 u5 m5 => ?_
     obtain rfl := RV_int.1 u5
     refine E_drawL (g := o5) (n := 9) [] [0, 1, 2, 3, 4, 5, 6, 7, 8] rfl mixed (by kernel_rfl) trivial ?_
     refine L_pur (c := up0) rfl rfl .plain (fun _ _ hd => P_move j3) ?_
     refine L_pur (c := .int .i64 (j0)) rfl rfl .plain (fun _ _ hd => P_move j1) ?_
     refine L_pur (c := ePtr up0 j0 1) rfl rfl .plain (fun _ _ hd => P_indexAddr (α := Int) Try.underlying22 Try.sizeOf3 rfl o0 rfl p3) ?_
     refine L_ld (c := .int .i64 (y81)) rfl rfl .plain (fun _ _ h => h.ch) l5 rfl ?_
     refine L_pur (c := up1) rfl rfl .plain (fun _ _ hd => P_move o3) ?_
     refine L_pur (c := .int .i64 (j0)) rfl rfl .plain (fun _ _ hd => P_move j1) ?_
     refine L_pur (c := ePtr up1 j0 1) rfl rfl .plain (fun _ _ hd => P_indexAddr (α := Int) Try.underlying22 Try.sizeOf3 rfl u0 rfl u3) ?_
     refine L_ld (c := .int .i64 (y84)) rfl rfl .plain (fun _ _ h => h.ch) m5 rfl ?_
     refine L_pur (c := .bool ((y81 != y84))) rfl rfl .plain (fun _ _ hd => P_int rfl rfl rfl) ?_
     refine L_nil fun x5 p6 hall => ?_
     have hs := hall.1
     have hfr := hfr.ext hs
     have o0 := o0.ext hs
     have u0 := u0.ext hs
     clear hs hall
     refine EL_nil (thn_n ?_)
     rcases csome h with ⟨z1, h⟩ | ⟨z1, h⟩
     ·refine E_ct z1 rfl ?_
      refine E_seq (E_region (EL_at (.bool false) rfl rfl ?_))
      refine EL_nil (thn_n (E_ret (blk_r ?_)))
      refine thn_r ?_
      refine thn_r ?_
      refine blk_r ?_
      refine thn_r ?_
      obtain rfl := sinj h
      exact end1 rfl rfl (show _ = .bool false from rfl) ⟨_, hfr, rfl⟩
     ·refine E_cf z1 rfl ?_
      exact E_skip (blk_n (thn_n (j5 () _ _ ⟨x5, hfr, j3, o0, o3, u0, j1⟩ h)))
    ·rintro _ y5 d6 ⟨n5, hfr, z3, c4, d4, i4, j4⟩ h
     refine E_region (EL_mv j4 rfl ?_)
     refine EL_in (.int .i64 ((w64 (j0 + (1 : Int))))) rfl rfl rfl rfl ?_
     refine EL_at (.int .i64 ((w64 (j0 + (1 : Int))))) rfl rfl ?_
     exact EL_nil (thn_n (d5 ((w64 (j0 + (1 : Int)))) _ _ ⟨n5, hfr, z3, c4, d4, i4, rfl⟩ h))
  ·rintro _ z5 i6 ⟨j6, hfr⟩ h
   refine E_seq (E_region (EL_at (.bool true) rfl rfl ?_))
   refine EL_nil (thn_n (E_ret ?_))
   obtain rfl := sinj h
   exact end1 rfl rfl (show _ = .bool true from rfl) ⟨_, hfr, rfl⟩
/-- griffe/griffelaw08.runs -/
def f32 (x0 : List LoomRun) : Option ((List LoomRun)) :=
 (apnd 24 (([] : List LoomRun)) x0).bind fun y3 =>
 some (y3)
theorem en32 : Enters Try.prog 32 := enters_of Try.func32 (by kernel_rfl) rfl
theorem wk32 {gI : Gh} {wI : World} {x0 : List LoomRun} {up0 : Value} (rp0 : RV gI.m wI x0 up0) {r : (List LoomRun)} (h : f32 x0 = some r) : Fn Try.prog 32 #[up0] gI wI (fun m w v => RV m w (r) v) := by
 unfold f32 at h
 refine fn_of_E Try.func32 rfl (Nat.le_of_ble_eq_true rfl) fun g0 hm hfr => ?_
 have rp0 : RV g0.m wI x0 up0 := hm ▸ rp0
 show E _ 6 none _ _ _ _ _
 refine E_seq (E_region (EL_at (.slice none 0 0) rfl rfl ?_))
 refine EL_nil (thn_n (E_seq (E_region (EL_do .plain rfl (D_buildSlice (g := g0) 3003 (xs := ([] : List LoomRun)) (vs := []) Try.underlying31 Try.sizeOf76 Try.zeroValue76 rfl rfl .nil RVs.nil rfl rfl fun g1 w1 v1 hs o1 r1 hxt hfl => ?_)))))
 have hfr := hfr.stp hs
 have rp0 := rp0.stp hs
 refine EL_mw up0 rfl rfl ?_
 obtain ⟨y3, hy3, h⟩ := bsome h
 refine EL_do .plain rfl (D_append (g := g1) (i := 3003) Try.underlying31 info_76 rfl rfl o1 r1 rfl rp0 hy3 fun g2 w2 v2 hs o2 r2 _ => ?_)
 have hfr := hfr.stp hs
 refine EL_at v2 rfl rfl ?_
 refine EL_nil (thn_n (E_ret ?_))
 obtain rfl := sinj h
 exact end1 rfl rfl (show _ = v2 from rfl) ⟨_, hfr, r2⟩
/-- griffe/grifferef08.In -/
def f36 (x0 : Int) (x1 : Int) (x2 : Int) : Option (Bool) :=
 Option.bind (α := Bool) (
  bif (decide (x0 ≥ x1)) then
   some ((decide (x0 ≤ x2)))
  else
   some (false)
  ) fun j0 =>
 some (j0)
theorem en36 : Enters Try.prog 36 := enters_of Try.func36 (by kernel_rfl) rfl
theorem wk36 {gI : Gh} {wI : World} {x0 : Int} {x1 : Int} {x2 : Int}  {r : Bool} (h : f36 x0 x1 x2 = some r) : Fn Try.prog 36 #[.int .i64 (x0), .int .i64 (x1), .int .i64 (x2)] gI wI (fun _ _ v => v = .bool (r)) := by
 unfold f36 at h
 refine fn_of_E Try.func36 rfl (Nat.le_of_ble_eq_true rfl) fun g0 hm hfr => ?_
 show E _ 15 none _ _ _ _ _
 refine E_seq (E_region (EL_at (.bool false) rfl rfl ?_))
 refine EL_nil (thn_n ?_)
 obtain ⟨j0, hx, h⟩ := bsome h
 refine E_join (fun e w => ∃ (g : Gh) , Fr gI wI g w ∧ e 6 = .bool (j0)) (fun Q' hQ => ?_) (fun u0 w3 hR => ?_)
 ·replace h := hx
  clear hx
  refine E_region (EL_mw (.int .i64 (x0)) rfl rfl ?_)
  refine EL_mw (.int .i64 (x1)) rfl rfl ?_
  refine EL_in (.bool ((decide (x0 ≥ x1)))) rfl rfl rfl rfl ?_
  refine EL_mw (.bool ((decide (x0 ≥ x1)))) rfl rfl ?_
  rcases csome h with ⟨hc2, h⟩ | ⟨hc2, h⟩
  ·refine EL_pur (v := .int .i64 (x0)) (P_move rfl) (.yes2 rfl rfl hc2) rfl ?_
   refine EL_pur (v := .int .i64 (x2)) (P_move rfl) (.yes2 rfl rfl hc2) rfl ?_
   refine EL_pur (v := .bool ((decide (x0 ≤ x2)))) (P_int rfl rfl rfl) (.yes2 rfl rfl hc2) rfl ?_
   refine EL_pur (v := .bool ((decide (x0 ≤ x2)))) (P_pick (b := (decide (x0 ≥ x1))) rfl (pick_t hc2 rfl)) .plain rfl ?_
   refine EL_at (.bool ((decide (x0 ≤ x2)))) rfl rfl ?_
   refine EL_nil ?_
   obtain rfl := sinj h
   exact hQ _ _ ⟨g0, hfr, rfl⟩
  ·refine EL_skip (.no2 rfl rfl hc2 rfl) rfl ?_
   refine EL_skip (.no2 rfl rfl hc2 rfl) rfl ?_
   refine EL_skip (.no2 rfl rfl hc2 rfl) rfl ?_
   refine EL_pur (v := .bool false) (P_pick (b := (decide (x0 ≥ x1))) rfl (pick_f hc2 rfl)) .plain rfl ?_
   refine EL_at (.bool false) rfl rfl ?_
   refine EL_nil ?_
   obtain rfl := sinj h
   exact hQ _ _ ⟨g0, hfr, rfl⟩
 ·clear hx
  obtain ⟨g3, hfr, o0⟩ := hR
  refine E_ret ?_
  obtain rfl := sinj h
  exact end1 rfl rfl (show _ = .bool (j0) from o0) ⟨_, hfr, rfl⟩
/-- griffe/griffelaw08.run -/
def f46 (x0 : Int) (x1 : Int) (x2 : Int) : Option (LoomRun) :=
 some ((⟨x0, x1, x2⟩ : LoomRun))
theorem en46 : Enters Try.prog 46 := enters_of Try.func46 (by kernel_rfl) rfl
theorem wk46 {gI : Gh} {wI : World} {x0 : Int} {x1 : Int} {x2 : Int}  {r : LoomRun} (h : f46 x0 x1 x2 = some r) : Fn Try.prog 46 #[.int .i64 (x0), .int .i64 (x1), .int .i64 (x2)] gI wI (fun m w v => RV m w (r) v) := by
 unfold f46 at h
 refine fn_of_E Try.func46 rfl (Nat.le_of_ble_eq_true rfl) fun g0 hm hfr => ?_
 show E _ 11 none _ _ _ _ _
 refine E_seq (E_region (EL_do .plain rfl (D_allocOc (g := g0) 2006 (⟨0, 0, 0⟩ : LoomRun) Try.zeroValue76 (fun m w => ⟨_, (rep_two rep_int (rep_two rep_int rep_int)), rfl⟩) fun g1 w1 p1 hs b1 cb => ?_)))
 have hfr := hfr.stp hs
 clear cb
 refine EL_nil (thn_n (E_seq (E_region (EL_mw (.int .i64 (x0)) rfl rfl ?_))))
 refine EL_mw (.int .i64 (x1)) rfl rfl ?_
 refine EL_mw (.int .i64 (x2)) rfl rfl ?_
 have r2 : RV g1.m w1 (⟨x0, x1, x2⟩ : LoomRun) (.agg (setCh [[.int .i64 0], [.int .i64 0], [.int .i64 0]] [(0, .int .i64 (x0)), (1, .int .i64 (x1)), (2, .int .i64 (x2))]).flatten.toArray) := RV_build rfl (rep_pair (rfl) (rep_pair (rfl) (rep_last (rfl))))
 generalize hv2 : (Value.agg (setCh [[.int .i64 0], [.int .i64 0], [.int .i64 0]] [(0, .int .i64 (x0)), (1, .int .i64 (x1)), (2, .int .i64 (x2))]).flatten.toArray) = v2 at r2
 refine EL_pur (v := v2) (hv2 ▸ P_build (vs := [(0, .int .i64 (x0)), (1, .int .i64 (x1)), (2, .int .i64 (x2))]) [[.int .i64 0], [.int .i64 0], [.int .i64 0]] lay_76 rfl rfl (.cons rfl (.cons rfl (.cons rfl .nil))) ⟨⟨_, rfl, rfl⟩, ⟨⟨_, rfl, rfl⟩, ⟨⟨_, rfl, rfl⟩, trivial⟩⟩⟩) .plain rfl ?_
 refine EL_do .plain rfl (D_storeOc (g := g1) (v := v2) Try.sizeOf76 rfl b1 rfl r2 fun g3 w3 hs b3 cb => ?_)
 clear cb
 have hfr := hfr.stp hs
 refine EL_nil (thn_n (E_ret ?_))
 obtain rfl := sinj h
 obtain ⟨ad4, cv4, hp4, j0, cr4⟩ := ob_read Try.isAgg76 Try.sizeOf76 b3
 exact endm_c rfl rfl ((show _ = p1 from rfl).trans hp4) j0 ⟨_, hfr, cr4⟩
/-- griffe/griffelaw08.mill -/
def f47  : Option (LoomMill) :=
 some ((⟨([(10 : Int), (20 : Int)] : List Int), (2 : Int)⟩ : LoomMill))
theorem en47 : Enters Try.prog 47 := enters_of Try.func47 (by kernel_rfl) rfl
theorem wk47 {gI : Gh} {wI : World}   {r : LoomMill} (h : f47  = some r) : Fn Try.prog 47 #[] gI wI (fun m w v => RV m w (r) v) := by
 unfold f47 at h
 refine fn_of_E Try.func47 rfl (Nat.le_of_ble_eq_true rfl) fun g0 hm hfr => ?_
 show E _ 3 none _ _ _ _ _
 refine E_seq (E_region (EL_do .plain rfl (D_allocOc (g := g0) 2000 (⟨[], 0⟩ : LoomMill) Try.zeroValue24 (fun m w => ⟨_, (rep_two rep_nil rep_int), rfl⟩) fun g1 w1 p1 hs b1 cb => ?_)))
 have hfr := hfr.stp hs
 have o0 : OSF 2000 60000 0 g1 w1 3 24 ([] : List Int) p1 := cb.osf (by rfl)
 clear cb
 refine EL_nil (thn_n (E_seq (E_region (EL_do .plain rfl (D_buildSlice (g := g1) 3001 (xs := ([(10 : Int), (20 : Int)] : List Int)) (vs := [.int .i64 (10), .int .i64 (20)]) Try.underlying22 Try.sizeOf3 Try.zeroValue3 rfl rfl (.cons rfl (.cons rfl .nil)) (RVs.cons (RV_int.2 rfl) (RVs.cons (RV_int.2 rfl) RVs.nil)) rfl rfl fun g2 w2 v2 hs o2 r2 hxt hfl => ?_)))))
 have hfr := hfr.stp hs
 have b1 := b1.stp hs rfl
 have r3 : RV g2.m _ (⟨([(10 : Int), (20 : Int)] : List Int), (2 : Int)⟩ : LoomMill) (.agg (setCh [[.slice none 0 0], [.int .i64 0]] [(0, v2), (1, .int .i64 (2))]).flatten.toArray) := RV_build rfl (rep_pair (RV.cells r2) (rep_last (rfl)))
 generalize hv3 : (Value.agg (setCh [[.slice none 0 0], [.int .i64 0]] [(0, v2), (1, .int .i64 (2))]).flatten.toArray) = v3 at r3
 refine EL_pur (v := v3) (hv3 ▸ P_build (vs := [(0, v2), (1, .int .i64 (2))]) [[.slice none 0 0], [.int .i64 0]] lay_24 rfl rfl (.cons rfl (.cons rfl .nil)) ⟨⟨_, rfl, cells_size r2⟩, ⟨⟨_, rfl, rfl⟩, trivial⟩⟩) .plain rfl ?_
 refine EL_do .plain rfl (D_storeOc (g := g2) (v := v3) Try.sizeOf24 rfl b1 rfl r3 fun g4 w4 hs b4 cb => ?_)
 clear cb
 have hfr := hfr.stp hs
 refine EL_nil (thn_n (E_ret ?_))
 obtain rfl := sinj h
 obtain ⟨ad5, cv5, hp5, j0, cr5⟩ := ob_read Try.isAgg24 Try.sizeOf24 b4
 exact endm_c rfl rfl ((show _ = p1 from rfl).trans hp5) j0 ⟨_, hfr, cr5⟩
/-- griffe/griffelaw08.orders -/
def f48 (x0 : Int) (x1 : Int) : Option ((List LoomOrder)) :=
 some (([(⟨(5 : Int), (1 : Int), (10 : Int), 0, (20 : Int)⟩ : LoomOrder), (⟨(15 : Int), (2 : Int), (12 : Int), 0, (20 : Int)⟩ : LoomOrder), (⟨(5 : Int), x0, x1, 0, (20 : Int)⟩ : LoomOrder)] : List LoomOrder))
theorem en48 : Enters Try.prog 48 := enters_of Try.func48 (by kernel_rfl) rfl
theorem wk48 {gI : Gh} {wI : World} {x0 : Int} {x1 : Int}  {r : (List LoomOrder)} (h : f48 x0 x1 = some r) : Fn Try.prog 48 #[.int .i64 (x0), .int .i64 (x1)] gI wI (fun m w v => RV m w (r) v) := by
 unfold f48 at h
 refine fn_of_E Try.func48 rfl (Nat.le_of_ble_eq_true rfl) fun g0 hm hfr => ?_
 show E _ 11 none _ _ _ _ _
 refine E_seq (E_region (EL_at (.slice none 0 0) rfl rfl ?_))
 refine EL_nil (thn_n (E_seq (E_region ?_)))
 have r1 : RV g0.m wI (⟨(5 : Int), (1 : Int), (10 : Int), 0, (20 : Int)⟩ : LoomOrder) (.agg (setCh [[.int .i64 0], [.int .i64 0], [.int .i64 0], [.int .i64 0], [.int .i64 0]] [(0, .int .i64 (5)), (1, .int .i64 (1)), (2, .int .i64 (10)), (4, .int .i64 (20))]).flatten.toArray) := RV_build rfl (rep_pair (rfl) (rep_pair (rfl) (rep_pair (rfl) (rep_pair (rep_int) (rep_last (rfl))))))
 generalize hv1 : (Value.agg (setCh [[.int .i64 0], [.int .i64 0], [.int .i64 0], [.int .i64 0], [.int .i64 0]] [(0, .int .i64 (5)), (1, .int .i64 (1)), (2, .int .i64 (10)), (4, .int .i64 (20))]).flatten.toArray) = v1 at r1
 refine EL_pur (v := v1) (hv1 ▸ P_build (vs := [(0, .int .i64 (5)), (1, .int .i64 (1)), (2, .int .i64 (10)), (4, .int .i64 (20))]) [[.int .i64 0], [.int .i64 0], [.int .i64 0], [.int .i64 0], [.int .i64 0]] lay_82 rfl rfl (.cons rfl (.cons rfl (.cons rfl (.cons rfl .nil)))) ⟨⟨_, rfl, rfl⟩, ⟨⟨_, rfl, rfl⟩, ⟨⟨_, rfl, rfl⟩, ⟨⟨_, rfl, rfl⟩, trivial⟩⟩⟩⟩) .plain rfl ?_
 have r2 : RV g0.m wI (⟨(15 : Int), (2 : Int), (12 : Int), 0, (20 : Int)⟩ : LoomOrder) (.agg (setCh [[.int .i64 0], [.int .i64 0], [.int .i64 0], [.int .i64 0], [.int .i64 0]] [(0, .int .i64 (15)), (1, .int .i64 (2)), (2, .int .i64 (12)), (4, .int .i64 (20))]).flatten.toArray) := RV_build rfl (rep_pair (rfl) (rep_pair (rfl) (rep_pair (rfl) (rep_pair (rep_int) (rep_last (rfl))))))
 generalize hv2 : (Value.agg (setCh [[.int .i64 0], [.int .i64 0], [.int .i64 0], [.int .i64 0], [.int .i64 0]] [(0, .int .i64 (15)), (1, .int .i64 (2)), (2, .int .i64 (12)), (4, .int .i64 (20))]).flatten.toArray) = v2 at r2
 refine EL_pur (v := v2) (hv2 ▸ P_build (vs := [(0, .int .i64 (15)), (1, .int .i64 (2)), (2, .int .i64 (12)), (4, .int .i64 (20))]) [[.int .i64 0], [.int .i64 0], [.int .i64 0], [.int .i64 0], [.int .i64 0]] lay_82 rfl rfl (.cons rfl (.cons rfl (.cons rfl (.cons rfl .nil)))) ⟨⟨_, rfl, rfl⟩, ⟨⟨_, rfl, rfl⟩, ⟨⟨_, rfl, rfl⟩, ⟨⟨_, rfl, rfl⟩, trivial⟩⟩⟩⟩) .plain rfl ?_
 refine EL_mw (.int .i64 (x0)) rfl rfl ?_
 refine EL_mw (.int .i64 (x1)) rfl rfl ?_
 have r3 : RV g0.m wI (⟨(5 : Int), x0, x1, 0, (20 : Int)⟩ : LoomOrder) (.agg (setCh [[.int .i64 0], [.int .i64 0], [.int .i64 0], [.int .i64 0], [.int .i64 0]] [(0, .int .i64 (5)), (1, .int .i64 (x0)), (2, .int .i64 (x1)), (4, .int .i64 (20))]).flatten.toArray) := RV_build rfl (rep_pair (rfl) (rep_pair (rfl) (rep_pair (rfl) (rep_pair (rep_int) (rep_last (rfl))))))
 generalize hv3 : (Value.agg (setCh [[.int .i64 0], [.int .i64 0], [.int .i64 0], [.int .i64 0], [.int .i64 0]] [(0, .int .i64 (5)), (1, .int .i64 (x0)), (2, .int .i64 (x1)), (4, .int .i64 (20))]).flatten.toArray) = v3 at r3
 refine EL_pur (v := v3) (hv3 ▸ P_build (vs := [(0, .int .i64 (5)), (1, .int .i64 (x0)), (2, .int .i64 (x1)), (4, .int .i64 (20))]) [[.int .i64 0], [.int .i64 0], [.int .i64 0], [.int .i64 0], [.int .i64 0]] lay_82 rfl rfl (.cons rfl (.cons rfl (.cons rfl (.cons rfl .nil)))) ⟨⟨_, rfl, rfl⟩, ⟨⟨_, rfl, rfl⟩, ⟨⟨_, rfl, rfl⟩, ⟨⟨_, rfl, rfl⟩, trivial⟩⟩⟩⟩) .plain rfl ?_
 refine EL_do .plain rfl (D_buildSlice (g := g0) 3010 (xs := ([(⟨(5 : Int), (1 : Int), (10 : Int), 0, (20 : Int)⟩ : LoomOrder), (⟨(15 : Int), (2 : Int), (12 : Int), 0, (20 : Int)⟩ : LoomOrder), (⟨(5 : Int), x0, x1, 0, (20 : Int)⟩ : LoomOrder)] : List LoomOrder)) (vs := [v1, v2, v3]) Try.underlying25 Try.sizeOf82 Try.zeroValue82 rfl rfl (.cons rfl (.cons rfl (.cons rfl .nil))) (RVs.cons r1 (RVs.cons r2 (RVs.cons r3 RVs.nil))) rfl rfl fun g4 w4 v4 hs o4 r4 hxt hfl => ?_)
 have hfr := hfr.stp hs
 refine EL_at v4 rfl rfl ?_
 refine EL_nil (thn_n (E_ret ?_))
 obtain rfl := sinj h
 exact end1 rfl rfl (show _ = v4 from rfl) ⟨_, hfr, r4⟩
/-- griffe/griffelaw08.stop -/
def f49 (x0 : Int) (x1 : Int) : Option (LoomStop) :=
 some ((⟨0, (⟨x0, x1⟩ : Span)⟩ : LoomStop))
theorem en49 : Enters Try.prog 49 := enters_of Try.func49 (by kernel_rfl) rfl
theorem wk49 {gI : Gh} {wI : World} {x0 : Int} {x1 : Int}  {r : LoomStop} (h : f49 x0 x1 = some r) : Fn Try.prog 49 #[.int .i64 (x0), .int .i64 (x1)] gI wI (fun m w v => RV m w (r) v) := by
 unfold f49 at h
 refine fn_of_E Try.func49 rfl (Nat.le_of_ble_eq_true rfl) fun g0 hm hfr => ?_
 show E _ 9 none _ _ _ _ _
 refine E_seq (E_region (EL_do .plain rfl (D_allocOc (g := g0) 2004 (⟨0, ⟨0, 0⟩⟩ : LoomStop) Try.zeroValue54 (fun m w => ⟨_, (rep_two rep_int (rep_two rep_int rep_int)), rfl⟩) fun g1 w1 p1 hs b1 cb => ?_)))
 have hfr := hfr.stp hs
 clear cb
 refine EL_nil (thn_n (E_seq (E_region (EL_mw (.int .i64 (x0)) rfl rfl ?_))))
 refine EL_mw (.int .i64 (x1)) rfl rfl ?_
 have r2 : RV g1.m w1 (⟨x0, x1⟩ : Span) (.agg (setCh [[.int .i64 0], [.int .i64 0]] [(0, .int .i64 (x0)), (1, .int .i64 (x1))]).flatten.toArray) := RV_build rfl (rep_pair (rfl) (rep_last (rfl)))
 generalize hv2 : (Value.agg (setCh [[.int .i64 0], [.int .i64 0]] [(0, .int .i64 (x0)), (1, .int .i64 (x1))]).flatten.toArray) = v2 at r2
 refine EL_pur (v := v2) (hv2 ▸ P_build (vs := [(0, .int .i64 (x0)), (1, .int .i64 (x1))]) [[.int .i64 0], [.int .i64 0]] lay_48 rfl rfl (.cons rfl (.cons rfl .nil)) ⟨⟨_, rfl, rfl⟩, ⟨⟨_, rfl, rfl⟩, trivial⟩⟩) .plain rfl ?_
 have r3 : RV g1.m _ (⟨0, (⟨x0, x1⟩ : Span)⟩ : LoomStop) (.agg (setCh [[.int .i64 0], [.int .i64 0, .int .i64 0]] [(1, v2)]).flatten.toArray) := RV_build rfl (rep_pair (rep_int) (rep_last (RV.cells r2)))
 generalize hv3 : (Value.agg (setCh [[.int .i64 0], [.int .i64 0, .int .i64 0]] [(1, v2)]).flatten.toArray) = v3 at r3
 refine EL_pur (v := v3) (hv3 ▸ P_build (vs := [(1, v2)]) [[.int .i64 0], [.int .i64 0, .int .i64 0]] lay_54 rfl rfl (.cons rfl .nil) ⟨⟨_, rfl, cells_size r2⟩, trivial⟩) .plain rfl ?_
 refine EL_do .plain rfl (D_storeOc (g := g1) (v := v3) Try.sizeOf54 rfl b1 rfl r3 fun g4 w4 hs b4 cb => ?_)
 clear cb
 have hfr := hfr.stp hs
 refine EL_nil (thn_n (E_ret ?_))
 obtain rfl := sinj h
 obtain ⟨ad5, cv5, hp5, j0, cr5⟩ := ob_read Try.isAgg54 Try.sizeOf54 b4
 exact endm_c rfl rfl ((show _ = p1 from rfl).trans hp5) j0 ⟨_, hfr, cr5⟩
/-- (griffe/loom.mill).all -/
def f53 (x0 : LoomLoomMill) : Option (Int) :=
 (shl64 (1 : Int) (((x0).orders).length : Int)).bind fun y4 =>
 some ((w64 (y4 - (1 : Int))))
theorem en53 : Enters Try.prog 53 := enters_of Try.func53 (by kernel_rfl) rfl
theorem wk53 {gI : Gh} {wI : World} {x0 : LoomLoomMill} {up0 : Value} (rp0 : RV gI.m wI x0 up0) {r : Int} (h : f53 x0 = some r) : Fn Try.prog 53 #[up0] gI wI (fun _ _ v => v = .int .i64 (r)) := by
 unfold f53 at h
 refine fn_of_E Try.func53 rfl (Nat.le_of_ble_eq_true rfl) fun g0 hm hfr => ?_
 have rp0 : RV g0.m wI x0 up0 := hm ▸ rp0
 show E _ 8 none _ _ _ _ _
 refine E_seq (E_region (EL_do .plain rfl (D_box (g := g0) rfl rp0 fun g1 w1 p1 hs q1 => ?_)))
 have hfr := hfr.ext hs
 refine EL_at (.int .i64 (0)) rfl rfl ?_
 refine EL_nil (thn_n (E_seq (E_region (EL_pur (v := fPtr p1 2) (P_fieldAddr at_96_1 rfl (PT.ptr q1)) .plain rfl ?_))))
 have q2 := PT_field (part_LoomLoomMill_1).1 q1
 refine EL_do .plain rfl (D_load (g := g1) Try.isAgg25 Try.sizeOf25 rfl q2 fun v3 r3 => ?_)
 refine EL_pur (v := .int .i64 (((x0).orders).length : Int)) (P_len Try.underlying25 rfl r3) .plain rfl ?_
 obtain ⟨y4, j0, h⟩ := bsome h
 refine EL_pur (v := .int .i64 (y4)) (P_int rfl rfl (congrArg (Option.map (Value.int .i64)) j0)) .plain rfl ?_
 refine EL_in (.int .i64 ((w64 (y4 - (1 : Int))))) rfl rfl rfl rfl ?_
 refine EL_at (.int .i64 ((w64 (y4 - (1 : Int))))) rfl rfl ?_
 refine EL_nil (thn_n (E_ret ?_))
 obtain rfl := sinj h
 exact end1 rfl rfl (show _ = .int .i64 ((w64 (y4 - (1 : Int)))) from rfl) ⟨_, hfr, rfl⟩
/-- griffe/loom.Against$1 -/
def f56 (x0 : Int) (z0 : List Bool) : Option (Bool) :=
 (idx z0 x0).bind fun y2 =>
 some ((!y2))
theorem en56 : Enters Try.prog 56 := enters_of Try.func56 (by kernel_rfl) rfl
theorem wk56 {gI : Gh} {wI : World} {x0 : Int} {z0 : List Bool} {pf0 : Value} (qf0 : PT gI.m wI z0 pf0) {r : Bool} (h : f56 x0 z0 = some r) : Fn Try.prog 56 #[.int .i64 (x0), pf0] gI wI (fun _ _ v => v = .bool (r)) := by
 unfold f56 at h
 refine fn_of_E Try.func56 rfl (Nat.le_of_ble_eq_true rfl) fun g0 hm hfr => ?_
 have qf0 : PT g0.m wI z0 pf0 := hm ▸ qf0
 show E _ 9 none _ _ _ _ _
 refine E_seq (E_region (EL_at (.bool false) rfl rfl ?_))
 refine EL_nil (thn_n (E_seq (E_region (EL_do .plain rfl (D_load (g := g0) Try.isAgg101 Try.sizeOf101 rfl qf0 fun v1 r1 => ?_)))))
 refine EL_mw (.int .i64 (x0)) rfl rfl ?_
 obtain ⟨y2, hy2, h⟩ := bsome h
 refine EL_pur (v := ePtr v1 x0 1) (P_indexAddr (α := Bool) Try.underlying101 Try.sizeOf4 rfl r1 rfl hy2) .plain rfl ?_
 have q3 := PT_idx r1 hy2
 refine EL_do .plain rfl (D_load (g := g0) Try.isAgg4 Try.sizeOf4 rfl q3 fun v4 r4 => ?_)
 obtain rfl := RV_bool.1 r4
 refine EL_pur (v := .bool (!y2)) (P_not rfl) .plain rfl ?_
 refine EL_at (.bool (!y2)) rfl rfl ?_
 refine EL_nil (thn_n (E_ret ?_))
 obtain rfl := sinj h
 exact end1 rfl rfl (show _ = .bool (!y2) from rfl) ⟨_, hfr, rfl⟩
/-- griffe/loom.Left$1 -/
def f57 (x0 : Int) (z0 : List Bool) (z1 : LoomLoomMill) : Option (Bool) :=
 (f53 z1).bind fun y4 =>
 (idx z0 (bit64 .andNot y4 x0)).bind fun y5 =>
 some (y5)
theorem en57 : Enters Try.prog 57 := enters_of Try.func57 (by kernel_rfl) rfl
theorem wk57 {gI : Gh} {wI : World} {x0 : Int} {z0 : List Bool} {z1 : LoomLoomMill} {pf0 : Value} (qf0 : PT gI.m wI z0 pf0) {pf1 : Value} (qf1 : PT gI.m wI z1 pf1) {r : Bool} (h : f57 x0 z0 z1 = some r) : Fn Try.prog 57 #[.int .i64 (x0), pf0, pf1] gI wI (fun _ _ v => v = .bool (r)) := by
 unfold f57 at h
 refine fn_of_E Try.func57 rfl (Nat.le_of_ble_eq_true rfl) fun g0 hm hfr => ?_
 have qf0 : PT g0.m wI z0 pf0 := hm ▸ qf0
 have qf1 : PT g0.m wI z1 pf1 := hm ▸ qf1
 show E _ 12 none _ _ _ _ _
 refine E_seq (E_region (EL_at (.bool false) rfl rfl ?_))
 refine EL_nil (thn_n (E_seq (L_load (x := .tmp 1) Try.isAgg101 Try.sizeOf101 qf0 fun v1 r1 hl1 => ?_)))
 refine L_load (x := .tmp 2) Try.isAgg96 Try.sizeOf96 qf1 fun v2 r2 hl2 => ?_
 obtain ⟨y4, o0, h⟩ := bsome h
 obtain ⟨y5, j0, h⟩ := bsome h
 have q6 := PT_idx r1 j0
 refine L_load (x := .tmp 10) Try.isAgg4 Try.sizeOf4 q6 fun v7 r7 hl7 => ?_
 obtain rfl := RV_bool.1 r7
 refine E_drawL (g := g0) (n := 8) [(2, (fun v g w => v = .int .i64 (y4)))] [0, 1, 2, 3, 4, 5, 6, 7] rfl mixed (by kernel_rfl) (⟨fun _ => up_eq _, trivial⟩) ?_
 refine L_ld (c := v1) rfl rfl .plain (fun _ _ h => h.ch) hl1 rfl ?_
 refine L_ld (c := v2) rfl rfl .plain (fun _ _ h => h.ch) hl2 rfl ?_
 refine L_do (φ := fun v g w => v = .int .i64 (y4)) rfl rfl .plain (fun g w hd => D_call (g := g) (vs := [v2]) en53 (.cons rfl .nil) (wk53 (r2.ext hd.1) o0) fun g' w' v hs hr => ⟨g', hs, hr⟩) (fun v3 hv => ?_)
 obtain ⟨_, _, _, rfl⟩ := hv
 refine L_pur (c := .int .i64 (x0)) rfl rfl .plain (fun _ _ hd => P_move rfl) ?_
 refine L_pur (c := .int .i64 ((bit64 .andNot y4 x0))) rfl rfl .plain (fun _ _ hd => P_int rfl rfl rfl) ?_
 refine L_pur (c := ePtr v1 (bit64 .andNot y4 x0) 1) rfl rfl .plain (fun _ _ hd => P_indexAddr (α := Bool) Try.underlying101 Try.sizeOf4 rfl r1 rfl j0) ?_
 refine L_ld (c := .bool (y5)) rfl rfl .plain (fun _ _ h => h.ch) hl7 rfl ?_
 refine L_pur (c := .bool (y5)) rfl rfl .plain (fun _ _ hd => P_assign rfl) ?_
 refine L_nil fun g8 w8 hall => ?_
 have hs := hall.1
 have hfr := hfr.ext hs
 clear hs hall
 refine EL_nil (thn_n (E_ret ?_))
 obtain rfl := sinj h
 exact end1 rfl rfl (show _ = .bool (y5) from rfl) ⟨_, hfr, rfl⟩
/-- griffe/loom.numbers -/
def f59 (x0 : Int) : Option ((List Int)) :=
 Option.bind (α := (List Int)) (
  lp (σ := (List Int) × Int) (fun j5 (o0, j0) =>
   jn (σ := Unit) (fun (_ : Unit) =>
    Option.bind (α := (List Int)) (
     (shr64 x0 j0).bind fun j3 =>
     bif ((bit64 .and j3 (1 : Int)) == (1 : Int)) then
      (apnd 8 o0 (([j0] : List Int))).bind fun l5 =>
      some (l5)
     else
      some (o0)
     ) fun u0 =>
    j5 (u0, (w64 (j0 + (1 : Int))))
    ) fun m5 =>
   (shr64 x0 j0).bind fun u3 =>
   bif (decide (u3 > (0 : Int))) then
    m5 ()
   else
    some (o0)
   ) big ([], (0 : Int))
  ) fun z1 =>
 some (z1)
theorem en59 : Enters Try.prog 59 := enters_of Try.func59 (by kernel_rfl) rfl
theorem wk59 {gI : Gh} {wI : World} {x0 : Int}  {r : (List Int)} (h : f59 x0 = some r) : Fn Try.prog 59 #[.int .i64 (x0)] gI wI (fun m w v => RV m w (r) v) := by
 unfold f59 at h
 refine fn_of_E Try.func59 rfl (Nat.le_of_ble_eq_true rfl) fun g0 hm hfr => ?_
 show E _ 20 none _ _ _ _ _
 refine E_seq (E_region (EL_at (.slice none 0 0) rfl rfl ?_))
 refine EL_nil (thn_n ?_)
 obtain ⟨z1, hx, h⟩ := bsome h
 refine E_join (fun e w => ∃ (g : Gh) (v2 : Value), Fr gI wI g w ∧ e 2 = v2 ∧ RV g.m w (z1 : List Int) v2 ∧ OS 1002 g w 3 (z1 : List Int) v2) (fun Q' hQ => ?_) (fun k6 o6 hR => ?_)
 ·replace h := hx
  clear hx
  refine E_seq (E_region (EL_at (.int .i64 (0)) rfl rfl ?_))
  refine EL_nil (thn_n (E_block ?_))
  refine E_lp h (fun (s : (List Int) × Int) e w => ∃ (g : Gh) (v2 : Value), Fr gI wI g w ∧ e 0 = .int .i64 (x0) ∧ e 2 = v2 ∧ RV g.m w (s.1 : List Int) v2 ∧ OS 1002 g w 3 (s.1 : List Int) v2 ∧ e 3 = .int .i64 (s.2)) ⟨g0, (.slice none 0 0), hfr, rfl, rfl, RV_nil, OS.nil, rfl⟩ (fun X20 j5 q5 => ?_)
  rintro ⟨o0, j0⟩ l6 p6 ⟨n5, j1, hfr, z3, c4, d4, i4, j4⟩ h
  refine E_joinC h (fun (s : Unit) e w => ∃ (g : Gh) , Fr gI wI g w ∧ e 0 = .int .i64 (x0) ∧ e 2 = j1 ∧ RV g.m w (o0 : List Int) j1 ∧ OS 1002 g w 3 (o0 : List Int) j1 ∧ e 3 = .int .i64 (j0)) (fun X24 m5 t5 h => ?_) ?_
  ·refine E_seq (E_region (EL_mv z3 rfl ?_))
   refine EL_mv j4 rfl ?_
   obtain ⟨u3, u5, h⟩ := bsome h
   refine EL_pur (v := .int .i64 (u3)) (P_int rfl rfl (congrArg (Option.map (Value.int .i64)) u5)) .plain rfl ?_
   refine EL_in (.bool ((decide (u3 > (0 : Int))))) rfl rfl rfl rfl ?_
   refine EL_nil (thn_n ?_)
   rcases csome h with ⟨o3, h⟩ | ⟨o3, h⟩
   ·refine E_ct o3 rfl ?_
    exact E_skip (thn_n (t5 () _ _ ⟨n5, hfr, z3, c4, d4, i4, j4⟩ h))
   ·refine E_cf o3 rfl ?_
    refine E_exit ?_
    refine thn_e ?_
    refine thn_e ?_
    refine blk_hit ?_
    obtain rfl := sinj h
    exact hQ _ _ ⟨n5, (j1), hfr, c4, d4, i4⟩
  ·rintro _ m6 q6 ⟨o5, hfr, i3, m4, j2, z2, d3⟩ h
   obtain ⟨u0, hx, h⟩ := bsome h
   refine E_join (fun e w => ∃ (g : Gh) (v2 : Value), Fr gI wI g w ∧ e 0 = .int .i64 (x0) ∧ e 2 = v2 ∧ RV g.m w (u0 : List Int) v2 ∧ OS 1002 g w 3 (u0 : List Int) v2 ∧ e 3 = .int .i64 (j0)) (fun Q' hQ => ?_) (fun n6 r6 hR => ?_)
   ·replace h := hx
    clear hx
    refine E_block ?_
    refine E_seq (E_region (EL_mv i3 rfl ?_))
    refine EL_mv d3 rfl ?_
    obtain ⟨j3, x5, h⟩ := bsome h
    refine EL_pur (v := .int .i64 (j3)) (P_int rfl rfl (congrArg (Option.map (Value.int .i64)) x5)) .plain rfl ?_
    refine EL_in (.int .i64 ((bit64 .and j3 (1 : Int)))) rfl rfl rfl rfl ?_
    refine EL_in (.bool (((bit64 .and j3 (1 : Int)) == (1 : Int)))) rfl rfl rfl rfl ?_
    refine EL_nil (thn_n ?_)
    rcases csome h with ⟨p3, h⟩ | ⟨p3, h⟩
    ·refine E_ct p3 rfl ?_
     refine E_region (EL_mv m4 rfl ?_)
     refine EL_mv d3 rfl ?_
     refine EL_do .plain rfl (D_buildSlice (g := o5) 3017 (xs := ([j0] : List Int)) (vs := [.int .i64 (j0)]) Try.underlying22 Try.sizeOf3 Try.zeroValue3 rfl rfl (.cons rfl .nil) (RVs.cons (RV_int.2 rfl) RVs.nil) rfl rfl fun z5 t6 u6 hs o35 b6 hxt hfl => ?_)
     have hfr := hfr.stp hs
     have j2 := j2.stp hs
     have z2 := z2.stp hs rfl
     obtain ⟨l5, y5, h⟩ := bsome h
     refine EL_do .plain rfl (D_append (g := z5) (i := 1002) Try.underlying22 info_3 rfl rfl z2 j2 rfl b6 y5 fun c6 v6 p5 hs o36 d6 _ => ?_)
     have hfr := hfr.stp hs
     refine EL_at p5 rfl rfl ?_
     refine EL_nil (blk_n ?_)
     obtain rfl := sinj h
     exact hQ _ _ ⟨c6, (p5), hfr, i3, rfl, d6, o36, d3⟩
    ·refine E_cf p3 rfl ?_
     refine E_skip (blk_n ?_)
     obtain rfl := sinj h
     exact hQ _ _ ⟨o5, (j1), hfr, i3, m4, j2, z2, d3⟩
   ·clear hx
    obtain ⟨i6, o4, hfr, p4, u4, x4, z4, c5⟩ := hR
    refine E_region (EL_mv c5 rfl ?_)
    refine EL_in (.int .i64 ((w64 (j0 + (1 : Int))))) rfl rfl rfl rfl ?_
    refine EL_at (.int .i64 ((w64 (j0 + (1 : Int))))) rfl rfl ?_
    exact EL_nil (thn_n (q5 (u0, (w64 (j0 + (1 : Int)))) _ _ ⟨i6, (o4), hfr, p4, u4, x4, z4, rfl⟩ h))
 ·clear hx
  obtain ⟨x6, n4, hfr, d5, i5, j6⟩ := hR
  refine E_seq (E_region (EL_mv d5 rfl ?_))
  refine EL_at n4 rfl rfl ?_
  refine EL_nil (thn_n (E_ret ?_))
  obtain rfl := sinj h
  exact end1 rfl rfl (show _ = n4 from rfl) ⟨_, hfr, i5⟩
/-- (griffe/loom.mill).work -/
def f64 (x0 : LoomLoomMill) (x1 : Int) (x2 : Int) : Option (Int) :=
 Option.bind (α := Int) (
  lp (σ := Int × Int) (fun k48 (j1, j0) =>
   bif (decide (j0 < (((x0).orders).length : Int))) then
    Option.bind (α := Int) (
     (idx ((x0).orders) j0).bind fun y70 =>
     Option.bind (α := Bool) (
      bif (decide ((y70).Early ≥ x1)) then
       some ((decide ((y70).Late ≤ x2)))
      else
       some (false)
      ) fun s25_85 =>
     bif s25_85 then
      some ((w64 (j1 + (y70).Woven)))
     else
      some (j1)
     ) fun s6_89 =>
    k48 (s6_89, (w64 (j0 + (1 : Int))))
   else
    some (j1)
   ) big ((0 : Int), (0 : Int))
  ) fun z1 =>
 some (z1)
theorem en64 : Enters Try.prog 64 := enters_of Try.func64 (by kernel_rfl) rfl
theorem wk64 {gI : Gh} {wI : World} {x0 : LoomLoomMill} {x1 : Int} {x2 : Int} {up0 : Value} (rp0 : RV gI.m wI x0 up0) {r : Int} (h : f64 x0 x1 x2 = some r) : Fn Try.prog 64 #[up0, .int .i64 (x1), .int .i64 (x2)] gI wI (fun _ _ v => v = .int .i64 (r)) := by
 unfold f64 at h
 refine fn_of_E Try.func64 rfl (Nat.le_of_ble_eq_true rfl) fun g0 hm hfr => ?_
 have rp0 : RV g0.m wI x0 up0 := hm ▸ rp0
 show E _ 32 none _ _ _ _ _
 refine E_seq (E_region (EL_do .plain rfl (D_box (g := g0) rfl rp0 fun g1 w1 p1 hs q1 => ?_)))
 have hfr := hfr.ext hs
 refine EL_at (.int .i64 (0)) rfl rfl ?_
 refine EL_nil (thn_n ?_)
 obtain ⟨z1, hx, h⟩ := bsome h
 refine E_join (fun e w => ∃ (g : Gh) , Fr gI wI g w ∧ e 6 = .int .i64 (z1)) (fun Q' hQ => ?_) (fun n6 r6 hR => ?_)
 ·replace h := hx
  clear hx
  refine E_seq (E_region (EL_pur (v := fPtr p1 2) (P_fieldAddr at_96_1 rfl (PT.ptr q1)) .plain rfl ?_))
  have b6 := PT_field (part_LoomLoomMill_1).1 q1
  refine EL_do .plain rfl (D_load (g := g1) Try.isAgg25 Try.sizeOf25 rfl b6 fun z2 y5 => ?_)
  refine EL_pur (v := .int .i64 (((x0).orders).length : Int)) (P_len Try.underlying25 rfl y5) .plain rfl ?_
  refine EL_mw (.int .i64 (0)) rfl rfl ?_
  refine EL_nil (thn_n (E_block ?_))
  refine E_lp h (fun (s : Int × Int) e w => ∃ (g : Gh) , Fr gI wI g w ∧ e 1 = .int .i64 (x1) ∧ e 2 = .int .i64 (x2) ∧ e 6 = .int .i64 (s.1) ∧ e 10 = z2 ∧ RV g.m w ((x0).orders : List LoomOrder) z2 ∧ e 11 = .int .i64 ((((x0).orders).length : Int)) ∧ e 12 = .int .i64 (s.2)) ⟨g1, hfr, rfl, rfl, rfl, rfl, y5, rfl, rfl⟩ (fun X48 k48 z5 => ?_)
  rintro ⟨j1, j0⟩ o6 t6 ⟨c5, hfr, j3, o3, p3, d3, o0, i3, j2⟩ h
  refine E_seq (E_region (EL_pur (v := .bool ((decide (j0 < (((x0).orders).length : Int))))) (P_int j2 i3 rfl) .plain rfl ?_))
  refine EL_nil (thn_n (E_seq ?_))
  rcases csome h with ⟨m4, h⟩ | ⟨m4, h⟩
  ·refine E_ct m4 rfl ?_
   refine E_skip (thn_n ?_)
   obtain ⟨s6_89, hx, h⟩ := bsome h
   refine E_join (fun e w => ∃ (g : Gh) , Fr gI wI g w ∧ e 1 = .int .i64 (x1) ∧ e 2 = .int .i64 (x2) ∧ e 6 = .int .i64 (s6_89) ∧ e 10 = z2 ∧ RV g.m w ((x0).orders : List LoomOrder) z2 ∧ e 11 = .int .i64 ((((x0).orders).length : Int)) ∧ e 12 = .int .i64 (j0)) (fun Q' hQ => ?_) (fun p6 u6 hR => ?_)
   ·replace h := hx
    clear hx
    refine E_block ?_
    refine E_seq (E_region ?_)
    obtain ⟨y70, d5, h⟩ := bsome h
    refine EL_pur (v := ePtr z2 j0 5) (P_indexAddr (α := LoomOrder) Try.underlying25 Try.sizeOf82 d3 o0 j2 d5) .plain rfl ?_
    have c6 := PT_idx o0 d5
    refine EL_do .plain rfl (D_load (g := c5) Try.isAgg82 Try.sizeOf82 rfl c6 fun d6 i5 => ?_)
    refine EL_do .plain rfl (D_allocOc (g := c5) 2008 (⟨0, 0, 0, 0, 0⟩ : LoomOrder) Try.zeroValue82 (fun m w => ⟨_, (rep_two rep_int (rep_two rep_int (rep_two rep_int (rep_two rep_int rep_int)))), rfl⟩) fun i6 v6 u3 hs b73 cb => ?_)
    have hfr := hfr.stp hs
    have o0 := o0.stp hs
    have i5 := i5.stp hs
    clear cb
    refine EL_do .plain rfl (D_storeOc (g := i6) (v := d6) Try.sizeOf82 rfl b73 rfl i5 fun o4 x6 hs b74 cb => ?_)
    clear cb
    have hfr := hfr.stp hs
    have o0 := o0.stp hs
    refine EL_nil (thn_n ?_)
    obtain ⟨s25_85, hx, h⟩ := bsome h
    refine E_join (fun e w => ∃ (g : Gh) , Fr gI wI g w ∧ e 1 = .int .i64 (x1) ∧ e 2 = .int .i64 (x2) ∧ e 6 = .int .i64 (j1) ∧ e 8 = u3 ∧ OB 2008 g w 82 (y70 : LoomOrder) u3 ∧ e 10 = z2 ∧ RV g.m w ((x0).orders : List LoomOrder) z2 ∧ e 11 = .int .i64 ((((x0).orders).length : Int)) ∧ e 12 = .int .i64 (j0) ∧ e 25 = .bool (s25_85)) (fun Q' hQ => ?_) (fun q6 y6 hR => ?_)
    ·replace h := hx
     clear hx
     refine E_region (EL_pur (v := fPtr u3 3) (P_fieldAddr at_82_3 rfl (OB.ptr b74)) .plain rfl ?_)
     refine EL_do .plain rfl (D_loadF (g := o4) part_LoomOrder_3.1 Try.isAgg3 Try.sizeOf3 rfl b74 fun z6 j6 => ?_)
     obtain rfl := RV_int.1 j6
     refine EL_mv j3 rfl ?_
     refine EL_in (.bool ((decide ((y70).Early ≥ x1)))) rfl rfl rfl rfl ?_
     refine EL_mw (.bool ((decide ((y70).Early ≥ x1)))) rfl rfl ?_
     rcases csome h with ⟨u0, h⟩ | ⟨u0, h⟩
     ·refine EL_pur (v := fPtr u3 4) (P_fieldAddr at_82_4 rfl (OB.ptr b74)) (.yes2 rfl rfl u0) rfl ?_
      refine EL_do (.yes2 rfl rfl u0) rfl (D_loadF (g := o4) part_LoomOrder_4.1 Try.isAgg3 Try.sizeOf3 rfl b74 fun a7 k6 => ?_)
      obtain rfl := RV_int.1 k6
      refine EL_pur (v := .int .i64 (x2)) (P_move o3) (.yes2 rfl rfl u0) rfl ?_
      refine EL_pur (v := .bool ((decide ((y70).Late ≤ x2)))) (P_int rfl rfl rfl) (.yes2 rfl rfl u0) rfl ?_
      refine EL_pur (v := .bool ((decide ((y70).Late ≤ x2)))) (P_pick (b := (decide ((y70).Early ≥ x1))) rfl (pick_t u0 rfl)) .plain rfl ?_
      refine EL_nil ?_
      obtain rfl := sinj h
      exact hQ _ _ ⟨o4, hfr, j3, o3, p3, rfl, b74, d3, o0, i3, j2, rfl⟩
     ·refine EL_skip (.no2 rfl rfl u0 rfl) rfl ?_
      refine EL_skip (.no2 rfl rfl u0 rfl) rfl ?_
      refine EL_skip (.no2 rfl rfl u0 rfl) rfl ?_
      refine EL_skip (.no2 rfl rfl u0 rfl) rfl ?_
      refine EL_pur (v := .bool false) (P_pick (b := (decide ((y70).Early ≥ x1))) rfl (pick_f u0 rfl)) .plain rfl ?_
      refine EL_nil ?_
      obtain rfl := sinj h
      exact hQ _ _ ⟨o4, hfr, j3, o3, p3, rfl, b74, d3, o0, i3, j2, rfl⟩
    ·clear hx
     obtain ⟨j5, hfr, p4, u4, x4, p5, z4, z3, c4, d4, i4, j4⟩ := hR
     rcases csome h with ⟨n4, h⟩ | ⟨n4, h⟩
     ·refine E_cond_true (Eq.trans (show ev _ _ = .bool (s25_85) from j4) (congrArg Value.bool n4)) ?_
      refine E_region (EL_mv x4 rfl ?_)
      refine EL_pur (v := fPtr u3 2) (P_fieldAddr at_82_2 p5 (OB.ptr z4)) .plain rfl ?_
      refine EL_do .plain rfl (D_loadF (g := j5) part_LoomOrder_2.1 Try.isAgg3 Try.sizeOf3 rfl z4 fun b7 l6 => ?_)
      obtain rfl := RV_int.1 l6
      refine EL_in (.int .i64 ((w64 (j1 + (y70).Woven)))) rfl rfl rfl rfl ?_
      refine EL_at (.int .i64 ((w64 (j1 + (y70).Woven)))) rfl rfl ?_
      refine EL_nil (blk_n ?_)
      obtain rfl := sinj h
      exact hQ _ _ ⟨j5, hfr, p4, u4, rfl, z3, c4, d4, i4⟩
     ·refine E_cond_false (Eq.trans (show ev _ _ = .bool (s25_85) from j4) (congrArg Value.bool n4)) ?_
      refine E_skip (blk_n ?_)
      obtain rfl := sinj h
      exact hQ _ _ ⟨j5, hfr, p4, u4, x4, z3, c4, d4, i4⟩
   ·clear hx
    obtain ⟨m6, hfr, q5, t5, u5, l5, m5, n5, o5⟩ := hR
    refine E_region (EL_in (.int .i64 ((w64 (j0 + (1 : Int))))) o5 rfl rfl rfl ?_)
    refine EL_mw (.int .i64 ((w64 (j0 + (1 : Int))))) rfl rfl ?_
    exact EL_nil (thn_n (z5 (s6_89, (w64 (j0 + (1 : Int)))) _ _ ⟨m6, hfr, q5, t5, u5, l5, m5, n5, rfl⟩ h))
  ·refine E_cf m4 rfl ?_
   refine E_exit ?_
   refine thn_e ?_
   refine thn_e ?_
   refine blk_hit ?_
   obtain rfl := sinj h
   exact hQ _ _ ⟨c5, hfr, p3⟩
 ·clear hx
  obtain ⟨c7, hfr, x5⟩ := hR
  refine E_seq (E_region (EL_mv x5 rfl ?_))
  refine EL_at (.int .i64 (z1)) rfl rfl ?_
  refine EL_nil (thn_n (E_ret ?_))
  obtain rfl := sinj h
  exact end1 rfl rfl (show _ = .int .i64 (z1) from rfl) ⟨_, hfr, rfl⟩
/-- (griffe/loom.mill).ready -/
def f73 (x0 : LoomLoomMill) (x1 : LoomRun) : Option (Int) :=
 (idx ((x0).orders) (x1).Order).bind fun y9 =>
 some ((w64 ((x1).From + (y9).Woven)))
theorem en73 : Enters Try.prog 73 := enters_of Try.func73 (by kernel_rfl) rfl
theorem wk73 {gI : Gh} {wI : World} {x0 : LoomLoomMill} {x1 : LoomRun} {up0 : Value} (rp0 : RV gI.m wI x0 up0) {up1 : Value} (rp1 : RV gI.m wI x1 up1) {r : Int} (h : f73 x0 x1 = some r) : Fn Try.prog 73 #[up0, up1] gI wI (fun _ _ v => v = .int .i64 (r)) := by
 unfold f73 at h
 refine fn_of_E Try.func73 rfl (Nat.le_of_ble_eq_true rfl) fun g0 hm hfr => ?_
 have rp0 : RV g0.m wI x0 up0 := hm ▸ rp0
 have rp1 : RV g0.m wI x1 up1 := hm ▸ rp1
 show E _ 15 none _ _ _ _ _
 refine E_seq (E_region (EL_do .plain rfl (D_box (g := g0) rfl rp0 fun g1 w1 p1 hs q1 => ?_)))
 have hfr := hfr.ext hs
 have rp1 := rp1.ext hs
 refine EL_do .plain rfl (D_box (g := g1) rfl rp1 fun g2 w2 p2 hs q2 => ?_)
 have hfr := hfr.ext hs
 have q1 := q1.ext hs
 refine EL_at (.int .i64 (0)) rfl rfl ?_
 refine EL_nil (thn_n (E_seq ?_))
 have q3 := PT_field (part_LoomRun_2).1 q2
 refine L_load (x := .tmp 5) Try.isAgg3 Try.sizeOf3 q3 fun v4 r4 u0 => ?_
 obtain rfl := RV_int.1 r4
 have q5 := PT_field (part_LoomLoomMill_1).1 q1
 refine L_load (x := .tmp 7) Try.isAgg25 Try.sizeOf25 q5 fun v6 r6 j1 => ?_
 have q7 := PT_field (part_LoomRun_0).1 q2
 refine L_load (x := .tmp 9) Try.isAgg3 Try.sizeOf3 q7 fun v8 r8 z1 => ?_
 obtain rfl := RV_int.1 r8
 obtain ⟨y9, j0, h⟩ := bsome h
 have o0 := PT_idx r6 j0
 have j2 := PT_field (part_LoomOrder_2).1 o0
 refine L_load (x := .tmp 12) Try.isAgg3 Try.sizeOf3 j2 fun d3 z2 hl12 => ?_
 obtain rfl := RV_int.1 z2
 refine E_drawL (g := g2) (n := 11) [] [0, 1, 2, 3, 4, 5, 6, 7, 8, 9, 10] rfl mixed (by kernel_rfl) trivial ?_
 refine L_pur (c := fPtr p2 2) rfl rfl .plain (fun _ _ hd => P_fieldAddr at_76_2 rfl (PT.ptr q2)) ?_
 refine L_ld (c := .int .i64 ((x1).From)) rfl rfl .plain (fun _ _ h => h.ch) u0 rfl ?_
 refine L_pur (c := fPtr p1 2) rfl rfl .plain (fun _ _ hd => P_fieldAddr at_96_1 rfl (PT.ptr q1)) ?_
 refine L_ld (c := v6) rfl rfl .plain (fun _ _ h => h.ch) j1 rfl ?_
 refine L_pur (c := fPtr p2 0) rfl rfl .plain (fun _ _ hd => P_fieldAddr at_76_0 rfl (PT.ptr q2)) ?_
 refine L_ld (c := .int .i64 ((x1).Order)) rfl rfl .plain (fun _ _ h => h.ch) z1 rfl ?_
 refine L_pur (c := ePtr v6 (x1).Order 5) rfl rfl .plain (fun _ _ hd => P_indexAddr (α := LoomOrder) Try.underlying25 Try.sizeOf82 rfl r6 rfl j0) ?_
 refine L_pur (c := fPtr (ePtr v6 (x1).Order 5) 2) rfl rfl .plain (fun _ _ hd => P_fieldAddr at_82_2 rfl (PT.ptr o0)) ?_
 refine L_ld (c := .int .i64 ((y9).Woven)) rfl rfl .plain (fun _ _ h => h.ch) hl12 rfl ?_
 refine L_pur (c := .int .i64 ((w64 ((x1).From + (y9).Woven)))) rfl rfl .plain (fun _ _ hd => P_int rfl rfl rfl) ?_
 refine L_pur (c := .int .i64 ((w64 ((x1).From + (y9).Woven)))) rfl rfl .plain (fun _ _ hd => P_assign rfl) ?_
 refine L_nil fun i3 j3 hall => ?_
 have hs := hall.1
 have hfr := hfr.ext hs
 clear hs hall
 refine EL_nil (thn_n (E_ret ?_))
 obtain rfl := sinj h
 exact end1 rfl rfl (show _ = .int .i64 ((w64 ((x1).From + (y9).Woven))) from rfl) ⟨_, hfr, rfl⟩
/-- griffe/grifferef08.Before -/
def f76 (x0 : LoomRun) (x1 : LoomRun) : Option (Bool) :=
 Option.bind (α := Bool) (
  bif (decide ((x0).From < (x1).From)) then
   some (true)
  else
   bif ((x0).From == (x1).From) then
    some ((decide ((x0).Order < (x1).Order)))
   else
    some (false)
  ) fun u0 =>
 some (u0)
theorem en76 : Enters Try.prog 76 := enters_of Try.func76 (by kernel_rfl) rfl
theorem wk76 {gI : Gh} {wI : World} {x0 : LoomRun} {x1 : LoomRun} {up0 : Value} (rp0 : RV gI.m wI x0 up0) {up1 : Value} (rp1 : RV gI.m wI x1 up1) {r : Bool} (h : f76 x0 x1 = some r) : Fn Try.prog 76 #[up0, up1] gI wI (fun _ _ v => v = .bool (r)) := by
 unfold f76 at h
 refine fn_of_E Try.func76 rfl (Nat.le_of_ble_eq_true rfl) fun g0 hm hfr => ?_
 have rp0 : RV g0.m wI x0 up0 := hm ▸ rp0
 have rp1 : RV g0.m wI x1 up1 := hm ▸ rp1
 show E _ 24 none _ _ _ _ _
 refine E_seq (E_region (EL_do .plain rfl (D_box (g := g0) rfl rp0 fun g1 w1 p1 hs q1 => ?_)))
 have hfr := hfr.ext hs
 have rp1 := rp1.ext hs
 refine EL_do .plain rfl (D_box (g := g1) rfl rp1 fun g2 w2 p2 hs q2 => ?_)
 have hfr := hfr.ext hs
 have q1 := q1.ext hs
 refine EL_at (.bool false) rfl rfl ?_
 refine EL_nil (thn_n ?_)
 obtain ⟨u0, hx, h⟩ := bsome h
 refine E_join (fun e w => ∃ (g : Gh) , Fr gI wI g w ∧ e 4 = .bool (u0)) (fun Q' hQ => ?_) (fun i4 j4 hR => ?_)
 ·replace h := hx
  clear hx
  refine E_region (EL_pur (v := fPtr p1 2) (P_fieldAddr at_76_2 rfl (PT.ptr q1)) .plain rfl ?_)
  have z1 := PT_field (part_LoomRun_2).1 q1
  refine EL_do .plain rfl (D_load (g := g2) Try.isAgg3 Try.sizeOf3 rfl z1 fun m4 j2 => ?_)
  obtain rfl := RV_int.1 j2
  refine EL_pur (v := fPtr p2 2) (P_fieldAddr at_76_2 rfl (PT.ptr q2)) .plain rfl ?_
  have z2 := PT_field (part_LoomRun_2).1 q2
  refine EL_do .plain rfl (D_load (g := g2) Try.isAgg3 Try.sizeOf3 rfl z2 fun n4 d3 => ?_)
  obtain rfl := RV_int.1 d3
  refine EL_in (.bool ((decide ((x0).From < (x1).From)))) rfl rfl rfl rfl ?_
  refine EL_mw (.bool ((decide ((x0).From < (x1).From)))) rfl rfl ?_
  rcases csome h with ⟨j0, h⟩ | ⟨j0, h⟩
  ·refine EL_skip (.no2 rfl rfl j0 rfl) rfl ?_
   refine EL_skip (.no2 rfl rfl j0 rfl) rfl ?_
   refine EL_skip (.no2 rfl rfl j0 rfl) rfl ?_
   refine EL_skip (.no2 rfl rfl j0 rfl) rfl ?_
   refine EL_skip (.no2 rfl rfl j0 rfl) rfl ?_
   refine EL_skip (.no2 rfl rfl j0 rfl) rfl ?_
   refine EL_dead 5 rfl ?_
   refine EL_skip (.no2 rfl rfl j0 rfl) rfl ?_
   refine EL_pur (v := .bool true) (P_pick (b := (decide ((x0).From < (x1).From))) rfl (pick_t j0 rfl)) .plain rfl ?_
   refine EL_at (.bool true) rfl rfl ?_
   refine EL_nil ?_
   obtain rfl := sinj h
   exact hQ _ _ ⟨g2, hfr, rfl⟩
  ·refine EL_pur (v := fPtr p1 2) (P_fieldAddr at_76_2 rfl (PT.ptr q1)) (.yes2 rfl rfl j0) rfl ?_
   have i3 := PT_field (part_LoomRun_2).1 q1
   refine EL_do (.yes2 rfl rfl j0) rfl (D_load (g := g2) Try.isAgg3 Try.sizeOf3 rfl i3 fun o4 j3 => ?_)
   obtain rfl := RV_int.1 j3
   refine EL_pur (v := fPtr p2 2) (P_fieldAddr at_76_2 rfl (PT.ptr q2)) (.yes2 rfl rfl j0) rfl ?_
   have o3 := PT_field (part_LoomRun_2).1 q2
   refine EL_do (.yes2 rfl rfl j0) rfl (D_load (g := g2) Try.isAgg3 Try.sizeOf3 rfl o3 fun p4 p3 => ?_)
   obtain rfl := RV_int.1 p3
   refine EL_pur (v := .bool (((x0).From == (x1).From))) (P_int rfl rfl rfl) (.yes2 rfl rfl j0) rfl ?_
   refine EL_pur (v := .bool (((x0).From == (x1).From))) (P_move rfl) (.yes2 rfl rfl j0) rfl ?_
   rcases csome h with ⟨o0, h⟩ | ⟨o0, h⟩
   ·refine EL_pur (v := fPtr p1 0) (P_fieldAddr at_76_0 rfl (PT.ptr q1)) (.yes2 rfl rfl o0) rfl ?_
    have u3 := PT_field (part_LoomRun_0).1 q1
    refine EL_do (.yes2 rfl rfl o0) rfl (D_load (g := g2) Try.isAgg3 Try.sizeOf3 rfl u3 fun u4 z3 => ?_)
    obtain rfl := RV_int.1 z3
    refine EL_pur (v := fPtr p2 0) (P_fieldAddr at_76_0 rfl (PT.ptr q2)) (.yes2 rfl rfl o0) rfl ?_
    have c4 := PT_field (part_LoomRun_0).1 q2
    refine EL_do (.yes2 rfl rfl o0) rfl (D_load (g := g2) Try.isAgg3 Try.sizeOf3 rfl c4 fun x4 d4 => ?_)
    obtain rfl := RV_int.1 d4
    refine EL_pur (v := .bool ((decide ((x0).Order < (x1).Order)))) (P_int rfl rfl rfl) (.yes2 rfl rfl o0) rfl ?_
    refine EL_pur (v := .bool ((decide ((x0).Order < (x1).Order)))) (P_pick (b := ((x0).From == (x1).From)) rfl (pick_t o0 rfl)) (.yes2 rfl rfl j0) rfl ?_
    refine EL_pur (v := .bool ((decide ((x0).Order < (x1).Order)))) (P_pick (b := (decide ((x0).From < (x1).From))) rfl (pick_f j0 rfl)) .plain rfl ?_
    refine EL_at (.bool ((decide ((x0).Order < (x1).Order)))) rfl rfl ?_
    refine EL_nil ?_
    obtain rfl := sinj h
    exact hQ _ _ ⟨g2, hfr, rfl⟩
   ·refine EL_skip (.no2 rfl rfl o0 rfl) rfl ?_
    refine EL_skip (.no2 rfl rfl o0 rfl) rfl ?_
    refine EL_skip (.no2 rfl rfl o0 rfl) rfl ?_
    refine EL_skip (.no2 rfl rfl o0 rfl) rfl ?_
    refine EL_skip (.no2 rfl rfl o0 rfl) rfl ?_
    refine EL_pur (v := .bool false) (P_pick (b := ((x0).From == (x1).From)) rfl (pick_f o0 rfl)) (.yes2 rfl rfl j0) rfl ?_
    refine EL_pur (v := .bool false) (P_pick (b := (decide ((x0).From < (x1).From))) rfl (pick_f j0 rfl)) .plain rfl ?_
    refine EL_at (.bool false) rfl rfl ?_
    refine EL_nil ?_
    obtain rfl := sinj h
    exact hQ _ _ ⟨g2, hfr, rfl⟩
 ·clear hx
  obtain ⟨z4, hfr, j1⟩ := hR
  refine E_ret ?_
  obtain rfl := sinj h
  exact end1 rfl rfl (show _ = .bool (u0) from j1) ⟨_, hfr, rfl⟩
/-- griffe/grifferef08.Free -/
def f77 (x0 : LoomMill) (x1 : List LoomOrder) (x2 : LoomRun) (x3 : LoomRun) : Option (Int) :=
 (idx x1 (x2).Order).bind fun y8 =>
 Option.bind (α := Int) (
  (idx x1 (x2).Order).bind fun y80 =>
  (idx x1 (x3).Order).bind fun u0 =>
  bif ((y80).Chain != (u0).Chain) then
   some ((w64 ((w64 ((x2).From + (y8).Woven)) + (x0).Change)))
  else
   some ((w64 ((x2).From + (y8).Woven)))
  ) fun j0 =>
 some (j0)
theorem en77 : Enters Try.prog 77 := enters_of Try.func77 (by kernel_rfl) rfl
theorem wk77 {gI : Gh} {wI : World} {x0 : LoomMill} {x1 : List LoomOrder} {x2 : LoomRun} {x3 : LoomRun} {up0 : Value} (rp0 : RV gI.m wI x0 up0) {up1 : Value} (rp1 : RV gI.m wI x1 up1) {up2 : Value} (rp2 : RV gI.m wI x2 up2) {up3 : Value} (rp3 : RV gI.m wI x3 up3) {r : Int} (h : f77 x0 x1 x2 x3 = some r) : Fn Try.prog 77 #[up0, up1, up2, up3] gI wI (fun _ _ v => v = .int .i64 (r)) := by
 unfold f77 at h
 refine fn_of_E Try.func77 rfl (Nat.le_of_ble_eq_true rfl) fun g0 hm hfr => ?_
 have rp0 : RV g0.m wI x0 up0 := hm ▸ rp0
 have rp1 : RV g0.m wI x1 up1 := hm ▸ rp1
 have rp2 : RV g0.m wI x2 up2 := hm ▸ rp2
 have rp3 : RV g0.m wI x3 up3 := hm ▸ rp3
 show E _ 37 none _ _ _ _ _
 refine E_seq (E_region (EL_do .plain rfl (D_box (g := g0) rfl rp0 fun g1 w1 p1 hs q1 => ?_)))
 have hfr := hfr.ext hs
 have rp1 := rp1.ext hs
 have rp2 := rp2.ext hs
 have rp3 := rp3.ext hs
 refine EL_do .plain rfl (D_box (g := g1) rfl rp2 fun g2 w2 p2 hs q2 => ?_)
 have hfr := hfr.ext hs
 have rp1 := rp1.ext hs
 have rp3 := rp3.ext hs
 have q1 := q1.ext hs
 refine EL_do .plain rfl (D_box (g := g2) rfl rp3 fun g3 w3 p3 hs q3 => ?_)
 have hfr := hfr.ext hs
 have rp1 := rp1.ext hs
 have q1 := q1.ext hs
 have q2 := q2.ext hs
 refine EL_at (.int .i64 (0)) rfl rfl ?_
 refine EL_nil (thn_n (E_seq ?_))
 have q4 := PT_field (part_LoomRun_2).1 q2
 refine L_load (x := .tmp 10) Try.isAgg3 Try.sizeOf3 q4 fun v5 r5 m4 => ?_
 obtain rfl := RV_int.1 r5
 have q6 := PT_field (part_LoomRun_0).1 q2
 refine L_load (x := .tmp 13) Try.isAgg3 Try.sizeOf3 q6 fun v7 r7 hl7 => ?_
 obtain rfl := RV_int.1 r7
 obtain ⟨y8, d3, h⟩ := bsome h
 have q9 := PT_idx rp1 d3
 have n4 := PT_field (part_LoomOrder_2).1 q9
 refine L_load (x := .tmp 16) Try.isAgg3 Try.sizeOf3 n4 fun q5 o4 o3 => ?_
 obtain rfl := RV_int.1 o4
 refine E_drawL (g := g3) (n := 10) [] [0, 1, 2, 3, 4, 5, 6, 7, 8, 9] rfl mixed (by kernel_rfl) trivial ?_
 refine L_pur (c := fPtr p2 2) rfl rfl .plain (fun _ _ hd => P_fieldAddr at_76_2 rfl (PT.ptr q2)) ?_
 refine L_ld (c := .int .i64 ((x2).From)) rfl rfl .plain (fun _ _ h => h.ch) m4 rfl ?_
 refine L_pur (c := up1) rfl rfl .plain (fun _ _ hd => P_move rfl) ?_
 refine L_pur (c := fPtr p2 0) rfl rfl .plain (fun _ _ hd => P_fieldAddr at_76_0 rfl (PT.ptr q2)) ?_
 refine L_ld (c := .int .i64 ((x2).Order)) rfl rfl .plain (fun _ _ h => h.ch) hl7 rfl ?_
 refine L_pur (c := ePtr up1 (x2).Order 5) rfl rfl .plain (fun _ _ hd => P_indexAddr (α := LoomOrder) Try.underlying25 Try.sizeOf82 rfl rp1 rfl d3) ?_
 refine L_pur (c := fPtr (ePtr up1 (x2).Order 5) 2) rfl rfl .plain (fun _ _ hd => P_fieldAddr at_82_2 rfl (PT.ptr q9)) ?_
 refine L_ld (c := .int .i64 ((y8).Woven)) rfl rfl .plain (fun _ _ h => h.ch) o3 rfl ?_
 refine L_pur (c := .int .i64 ((w64 ((x2).From + (y8).Woven)))) rfl rfl .plain (fun _ _ hd => P_int rfl rfl rfl) ?_
 refine L_pur (c := .int .i64 ((w64 ((x2).From + (y8).Woven)))) rfl rfl .plain (fun _ _ hd => P_assign rfl) ?_
 refine L_nil fun p4 t5 hall => ?_
 have hs := hall.1
 have hfr := hfr.ext hs
 have rp1 := rp1.ext hs
 have q1 := q1.ext hs
 have q2 := q2.ext hs
 have q3 := q3.ext hs
 clear hs hall
 refine EL_nil (thn_n ?_)
 obtain ⟨j0, hx, h⟩ := bsome h
 refine E_join (fun e w => ∃ (g : Gh) , Fr gI wI g w ∧ e 9 = .int .i64 (j0)) (fun Q' hQ => ?_) (fun m5 n5 hR => ?_)
 ·replace h := hx
  clear hx
  refine E_seq ?_
  have u4 := PT_field (part_LoomRun_0).1 q2
  refine L_load (x := .tmp 20) Try.isAgg3 Try.sizeOf3 u4 fun u5 x4 u3 => ?_
  obtain rfl := RV_int.1 x4
  obtain ⟨y80, j1, h⟩ := bsome h
  have i3 := PT_idx rp1 j1
  have z4 := PT_field (part_LoomOrder_1).1 i3
  refine L_load (x := .tmp 23) Try.isAgg3 Try.sizeOf3 z4 fun x5 c5 z3 => ?_
  obtain rfl := RV_int.1 c5
  have d5 := PT_field (part_LoomRun_0).1 q3
  refine L_load (x := .tmp 26) Try.isAgg3 Try.sizeOf3 d5 fun y5 i5 c4 => ?_
  obtain rfl := RV_int.1 i5
  obtain ⟨u0, z1, h⟩ := bsome h
  have j3 := PT_idx rp1 z1
  have j5 := PT_field (part_LoomOrder_1).1 j3
  refine L_load (x := .tmp 29) Try.isAgg3 Try.sizeOf3 j5 fun z5 l5 d4 => ?_
  obtain rfl := RV_int.1 l5
  refine E_drawL (g := p4) (n := 13) [] [0, 1, 2, 3, 4, 5, 6, 7, 8, 9, 10, 11, 12] rfl mixed (by kernel_rfl) trivial ?_
  refine L_pur (c := up1) rfl rfl .plain (fun _ _ hd => P_move rfl) ?_
  refine L_pur (c := fPtr p2 0) rfl rfl .plain (fun _ _ hd => P_fieldAddr at_76_0 rfl (PT.ptr q2)) ?_
  refine L_ld (c := .int .i64 ((x2).Order)) rfl rfl .plain (fun _ _ h => h.ch) u3 rfl ?_
  refine L_pur (c := ePtr up1 (x2).Order 5) rfl rfl .plain (fun _ _ hd => P_indexAddr (α := LoomOrder) Try.underlying25 Try.sizeOf82 rfl rp1 rfl j1) ?_
  refine L_pur (c := fPtr (ePtr up1 (x2).Order 5) 1) rfl rfl .plain (fun _ _ hd => P_fieldAddr at_82_1 rfl (PT.ptr i3)) ?_
  refine L_ld (c := .int .i64 ((y80).Chain)) rfl rfl .plain (fun _ _ h => h.ch) z3 rfl ?_
  refine L_pur (c := up1) rfl rfl .plain (fun _ _ hd => P_move rfl) ?_
  refine L_pur (c := fPtr p3 0) rfl rfl .plain (fun _ _ hd => P_fieldAddr at_76_0 rfl (PT.ptr q3)) ?_
  refine L_ld (c := .int .i64 ((x3).Order)) rfl rfl .plain (fun _ _ h => h.ch) c4 rfl ?_
  refine L_pur (c := ePtr up1 (x3).Order 5) rfl rfl .plain (fun _ _ hd => P_indexAddr (α := LoomOrder) Try.underlying25 Try.sizeOf82 rfl rp1 rfl z1) ?_
  refine L_pur (c := fPtr (ePtr up1 (x3).Order 5) 1) rfl rfl .plain (fun _ _ hd => P_fieldAddr at_82_1 rfl (PT.ptr j3)) ?_
  refine L_ld (c := .int .i64 ((u0).Chain)) rfl rfl .plain (fun _ _ h => h.ch) d4 rfl ?_
  refine L_pur (c := .bool (((y80).Chain != (u0).Chain))) rfl rfl .plain (fun _ _ hd => P_int rfl rfl rfl) ?_
  refine L_nil fun j2 b6 hall => ?_
  have hs := hall.1
  have hfr := hfr.ext hs
  have q1 := q1.ext hs
  clear hs hall
  refine EL_nil (thn_n ?_)
  rcases csome h with ⟨o0, h⟩ | ⟨o0, h⟩
  ·refine E_ct o0 rfl ?_
   refine E_region (EL_mw (.int .i64 ((w64 ((x2).From + (y8).Woven)))) rfl rfl ?_)
   refine EL_pur (v := fPtr p1 1) (P_fieldAddr at_24_1 rfl (PT.ptr q1)) .plain rfl ?_
   have i4 := PT_field (part_LoomMill_1).1 q1
   refine EL_do .plain rfl (D_load (g := j2) Try.isAgg3 Try.sizeOf3 rfl i4 fun o5 j4 => ?_)
   obtain rfl := RV_int.1 j4
   refine EL_pur (v := .int .i64 ((w64 ((w64 ((x2).From + (y8).Woven)) + (x0).Change)))) (P_int rfl rfl rfl) .plain rfl ?_
   refine EL_pur (v := .int .i64 ((w64 ((w64 ((x2).From + (y8).Woven)) + (x0).Change)))) (P_assign rfl) .plain rfl ?_
   refine EL_nil ?_
   obtain rfl := sinj h
   exact hQ _ _ ⟨j2, hfr, rfl⟩
  ·refine E_cf o0 rfl ?_
   refine E_skip ?_
   obtain rfl := sinj h
   exact hQ _ _ ⟨j2, hfr, rfl⟩
 ·clear hx
  obtain ⟨p5, hfr, z2⟩ := hR
  refine E_seq (E_region (EL_mv z2 rfl ?_))
  refine EL_at (.int .i64 (j0)) rfl rfl ?_
  refine EL_nil (thn_n (E_ret ?_))
  obtain rfl := sinj h
  exact end1 rfl rfl (show _ = .int .i64 (j0) from rfl) ⟨_, hfr, rfl⟩
end Go.Proofs.Ytnfjhdagbknlbaa
