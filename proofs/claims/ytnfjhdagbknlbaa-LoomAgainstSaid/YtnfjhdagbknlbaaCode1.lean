import Derived.Test.YtnfjhdagbknlbaaTypes
set_option maxRecDepth 8000
set_option maxHeartbeats 4000000
namespace Go.Proofs.Ytnfjhdagbknlbaa
open Go.RowKit
theorem info_76 : (Try.prog.info? 76).map (fun i => (i.zero, i.size, i.bytes)) = some (some (.agg #[.int .i64 0, .int .i64 0, .int .i64 0]), 3, 24) := by kernel_rfl
theorem mixed : Try.prog.follows .mixedOrders = true := by kernel_rfl
theorem info_3 : (Try.prog.info? 3).map (fun i => (i.zero, i.size, i.bytes)) = some (some (.int .i64 0), 1, 8) := by kernel_rfl
theorem endm_c {P : Program} {e : Env} {ds : List Deferred} {w : World} {fn : Func} {R : Value → World → Prop} {t0 : Tmp} {v0 : Value} {y0 : TypeId} {a0 : Addr} (hres : fn.results = #[.cell t0 y0]) (hd : ds = []) (h0 : e t0 = .pointer (some a0)) (l0 : (loadVar y0 a0).run P w = .ok v0 w) (h : R v0 w) : atEnd P fn R .ret e ds w :=
 ⟨hd, fun tmps ht => ⟨_, by simp [results, hres, ht, asAddr, h0, l0], h⟩⟩
theorem info_82 : (Try.prog.info? 82).map (fun i => (i.zero, i.size, i.bytes)) = some (some (.agg #[.int .i64 0, .int .i64 0, .int .i64 0, .int .i64 0, .int .i64 0]), 5, 40) := by kernel_rfl
theorem fl_76 : Try.prog.fieldsOf 76 = #[{ name := "Order", type := 3, offset := 0, embedded := false, tag := "", pkgPath := "", byteOffset := 0 }, { name := "Loom", type := 3, offset := 1, embedded := false, tag := "", pkgPath := "", byteOffset := 8 }, { name := "From", type := 3, offset := 2, embedded := false, tag := "", pkgPath := "", byteOffset := 16 }] := by kernel_rfl
theorem seq_76 : SEq (α := LoomRun) Try.prog 76 := by
 intro d x y w a b m wx m2 wy hx hy
 obtain ⟨_, ⟨_, _, rfl, rfl, ⟨_, _, rfl, rfl, rfl⟩⟩, rfl⟩ := hx
 obtain ⟨_, ⟨_, _, rfl, rfl, ⟨_, _, rfl, rfl, rfl⟩⟩, rfl⟩ := hy
 refine (run_equalIn_struct w (d + 1) 76 _ _ (by kernel_rfl) (by kernel_rfl)).trans ?_
 rw [fl_76]
 obtain ⟨x0, x1, x2⟩ := x
 obtain ⟨y0, y1, y2⟩ := y
 show (Op.eqFields (d + 1) #[.int .i64 (x0), .int .i64 (x1), .int .i64 (x2)] #[.int .i64 (y0), .int .i64 (y1), .int .i64 (y2)] _).run _ _ = _
 have x0p : (part 3 #[.int .i64 (x0), .int .i64 (x1), .int .i64 (x2)] 0).run Try.prog w = .ok (.int .i64 (x0)) w := part_one Try.isAgg3 rfl
 have x1p : (part 3 #[.int .i64 (x0), .int .i64 (x1), .int .i64 (x2)] 1).run Try.prog w = .ok (.int .i64 (x1)) w := part_one Try.isAgg3 rfl
 have x2p : (part 3 #[.int .i64 (x0), .int .i64 (x1), .int .i64 (x2)] 2).run Try.prog w = .ok (.int .i64 (x2)) w := part_one Try.isAgg3 rfl
 have y0p : (part 3 #[.int .i64 (y0), .int .i64 (y1), .int .i64 (y2)] 0).run Try.prog w = .ok (.int .i64 (y0)) w := part_one Try.isAgg3 rfl
 have y1p : (part 3 #[.int .i64 (y0), .int .i64 (y1), .int .i64 (y2)] 1).run Try.prog w = .ok (.int .i64 (y1)) w := part_one Try.isAgg3 rfl
 have y2p : (part 3 #[.int .i64 (y0), .int .i64 (y1), .int .i64 (y2)] 2).run Try.prog w = .ok (.int .i64 (y2)) w := part_one Try.isAgg3 rfl
 simp only [Op.eqFields, Sem.run_bind, Sem.run_ite, Sem.run_pure, x0p, x1p, x2p, y0p, y1p, y2p, Result.andThen_ok, run_equalIn_int _ _ _ _ _ _ _ Try.underlying3]
 simp
 grind
theorem eg_76 : Try.prog.eqGuardType Try.prog.depth 76 = false := by kernel_rfl
theorem lay_48 : layoutOf Try.prog 48 = some ([.int .i64 0, .int .i64 0], [(0, 1), (1, 1)]) := by kernel_rfl
theorem endm_ctt {P : Program} {e : Env} {ds : List Deferred} {w : World} {fn : Func} {R : Value → World → Prop} {t0 : Tmp} {v0 : Value} {y0 : TypeId} {a0 : Addr} {t1 : Tmp} {v1 : Value} {t2 : Tmp} {v2 : Value} (hres : fn.results = #[.cell t0 y0, .tmp t1, .tmp t2]) (hd : ds = []) (h0 : e t0 = .pointer (some a0)) (l0 : (loadVar y0 a0).run P w = .ok v0 w) (h1 : e t1 = v1) (h2 : e t2 = v2) (h : R (.tuple #[v0, v1, v2]) w) : atEnd P fn R .ret e ds w :=
 ⟨hd, fun tmps ht => ⟨_, by simp [results, hres, ht, asAddr, h0, l0, h1, h2], h⟩⟩
theorem plain_LoomRun : Plain LoomRun := fun _ m' _ w' x _ h => (plain_two plain_int (plain_two plain_int plain_int)) _ m' _ w' _ _ h
theorem info_4 : (Try.prog.info? 4).map (fun i => (i.zero, i.size, i.bytes)) = some (some (.bool false), 1, 1) := by kernel_rfl
theorem lay_24 : layoutOf Try.prog 24 = some ([.slice none 0 0, .int .i64 0], [(0, 1), (1, 1)]) := by kernel_rfl
theorem layA_126 : ((Try.prog.info? 126).bind (·.zero)).map (·.cells.toList) = some [.int .i64 0, .int .i64 0, .int .i64 0] := by kernel_rfl
theorem szA_3 : (Try.prog.info? 3).map (·.size) = some 1 := by kernel_rfl
theorem lay_82 : layoutOf Try.prog 82 = some ([.int .i64 0, .int .i64 0, .int .i64 0, .int .i64 0, .int .i64 0], [(0, 1), (1, 1), (2, 1), (3, 1), (4, 1)]) := by kernel_rfl
theorem lay_76 : layoutOf Try.prog 76 = some ([.int .i64 0, .int .i64 0, .int .i64 0], [(0, 1), (1, 1), (2, 1)]) := by kernel_rfl
theorem lay_54 : layoutOf Try.prog 54 = some ([.int .i64 0, .int .i64 0, .int .i64 0], [(0, 1), (1, 2)]) := by kernel_rfl
theorem lay_96 : layoutOf Try.prog 96 = some ([.slice none 0 0, .int .i64 0, .slice none 0 0], [(0, 2), (2, 1)]) := by kernel_rfl
theorem endm_ct {P : Program} {e : Env} {ds : List Deferred} {w : World} {fn : Func} {R : Value → World → Prop} {t0 : Tmp} {v0 : Value} {y0 : TypeId} {a0 : Addr} {t1 : Tmp} {v1 : Value} (hres : fn.results = #[.cell t0 y0, .tmp t1]) (hd : ds = []) (h0 : e t0 = .pointer (some a0)) (l0 : (loadVar y0 a0).run P w = .ok v0 w) (h1 : e t1 = v1) (h : R (.tuple #[v0, v1]) w) : atEnd P fn R .ret e ds w :=
 ⟨hd, fun tmps ht => ⟨_, by simp [results, hres, ht, asAddr, h0, l0, h1], h⟩⟩
theorem key_3 : KeyLaw Try.prog 3 (Value.int .i64) := keyLaw_int Try.underlying3
theorem capf_0_1 {e : Env} {f : FuncId} {o0 : Operand} {b0 : Value} (hb0 : ev e o0 = b0) : (Value.func (.func f) ((#[] : Array Operand).map (ev e)) ((#[o0] : Array Operand).map (ev e))) = .func (.func f) #[] #[b0] := by simp [hb0]
theorem capf_0_2 {e : Env} {f : FuncId} {o0 : Operand} {u0 : Operand} {b0 : Value} {b1 : Value} (hb0 : ev e o0 = b0) (hb1 : ev e u0 = b1) : (Value.func (.func f) ((#[] : Array Operand).map (ev e)) ((#[o0, u0] : Array Operand).map (ev e))) = .func (.func f) #[] #[b0, b1] := by simp [hb0, hb1]
theorem plain_LoomOrder : Plain LoomOrder := fun _ m' _ w' x _ h => (plain_two plain_int (plain_two plain_int (plain_two plain_int (plain_two plain_int plain_int)))) _ m' _ w' _ _ h
theorem lay_113 : layoutOf Try.prog 113 = some ([.slice none 0 0, .int .i64 0, .slice none 0 0, .int .i64 0, .int .i64 0, .int .i64 0], [(0, 3), (3, 3)]) := by kernel_rfl
theorem fl_48 : Try.prog.fieldsOf 48 = #[{ name := "Low", type := 3, offset := 0, embedded := false, tag := "", pkgPath := "", byteOffset := 0 }, { name := "High", type := 3, offset := 1, embedded := false, tag := "", pkgPath := "", byteOffset := 8 }] := by kernel_rfl
theorem seq_48 : SEq (α := Span) Try.prog 48 := by
 intro d x y w a b m wx m2 wy hx hy
 obtain ⟨_, ⟨_, _, rfl, rfl, rfl⟩, rfl⟩ := hx
 obtain ⟨_, ⟨_, _, rfl, rfl, rfl⟩, rfl⟩ := hy
 refine (run_equalIn_struct w (d + 1) 48 _ _ (by kernel_rfl) (by kernel_rfl)).trans ?_
 rw [fl_48]
 obtain ⟨x0, x1⟩ := x
 obtain ⟨y0, y1⟩ := y
 show (Op.eqFields (d + 1) #[.int .i64 (x0), .int .i64 (x1)] #[.int .i64 (y0), .int .i64 (y1)] _).run _ _ = _
 have x0p : (part 3 #[.int .i64 (x0), .int .i64 (x1)] 0).run Try.prog w = .ok (.int .i64 (x0)) w := part_one Try.isAgg3 rfl
 have x1p : (part 3 #[.int .i64 (x0), .int .i64 (x1)] 1).run Try.prog w = .ok (.int .i64 (x1)) w := part_one Try.isAgg3 rfl
 have y0p : (part 3 #[.int .i64 (y0), .int .i64 (y1)] 0).run Try.prog w = .ok (.int .i64 (y0)) w := part_one Try.isAgg3 rfl
 have y1p : (part 3 #[.int .i64 (y0), .int .i64 (y1)] 1).run Try.prog w = .ok (.int .i64 (y1)) w := part_one Try.isAgg3 rfl
 simp only [Op.eqFields, Sem.run_bind, Sem.run_ite, Sem.run_pure, x0p, x1p, y0p, y1p, Result.andThen_ok, run_equalIn_int _ _ _ _ _ _ _ Try.underlying3]
 simp
 grind
theorem eg_48 : Try.prog.eqGuardType Try.prog.depth 48 = false := by kernel_rfl
def f67 (x0 : List LoomRun) : Option (List LoomRun) := apnd 24 [] x0
theorem en67 : Enters Try.prog 67 := enters_of Try.func67 (by kernel_rfl) rfl
def lenTab : Str := (⟨[0, 1, 2, 2, 3, 3, 3, 3, 4, 4, 4, 4, 4, 4, 4, 4, 5, 5, 5, 5, 5, 5, 5, 5, 5, 5, 5, 5, 5, 5, 5, 5, 6, 6, 6, 6, 6, 6, 6, 6, 6, 6, 6, 6, 6, 6, 6, 6, 6, 6, 6, 6, 6, 6, 6, 6, 6, 6, 6, 6, 6, 6, 6, 6, 7, 7, 7, 7, 7, 7, 7, 7, 7, 7, 7, 7, 7, 7, 7, 7, 7, 7, 7, 7, 7, 7, 7, 7, 7, 7, 7, 7, 7, 7, 7, 7, 7, 7, 7, 7, 7, 7, 7, 7, 7, 7, 7, 7, 7, 7, 7, 7, 7, 7, 7, 7, 7, 7, 7, 7, 7, 7, 7, 7, 7, 7, 7, 7, 8, 8, 8, 8, 8, 8, 8, 8, 8, 8, 8, 8, 8, 8, 8, 8, 8, 8, 8, 8, 8, 8, 8, 8, 8, 8, 8, 8, 8, 8, 8, 8, 8, 8, 8, 8, 8, 8, 8, 8, 8, 8, 8, 8, 8, 8, 8, 8, 8, 8, 8, 8, 8, 8, 8, 8, 8, 8, 8, 8, 8, 8, 8, 8, 8, 8, 8, 8, 8, 8, 8, 8, 8, 8, 8, 8, 8, 8, 8, 8, 8, 8, 8, 8, 8, 8, 8, 8, 8, 8, 8, 8, 8, 8, 8, 8, 8, 8, 8, 8, 8, 8, 8, 8, 8, 8, 8, 8, 8, 8, 8, 8, 8, 8, 8, 8, 8, 8, 8, 8, 8, 8, 8, 8, 8, 8, 8, 8]⟩ : Str)
def f115 (x : Int) : Option Int := if 0 ≤ x ∧ x < 256 then (idx lenTab.b x).map fun c => w64 (0 + (c.toNat : Int)) else none
def f101 (x : Int) : Option Int := f115 x
theorem en115 : Enters Try.prog 115 := enters_of Try.func115 (by kernel_rfl) rfl
theorem en101 : Enters Try.prog 101 := enters_of Try.func101 (by kernel_rfl) rfl
theorem wk115 {gI : Gh} {wI : World} {x0 : Int} {r : Int} (h : f115 x0 = some r) : Fn Try.prog 115 #[.int .u64 x0] gI wI (fun _ _ v => v = .int .i64 (r)) := by
 unfold f115 at h
 split at h
 case isFalse => cases h
 rename_i hx
 obtain ⟨h0, h1⟩ := hx
 cases hc : idx lenTab.b x0 with
 | none => rw [hc] at h; cases h
 | some c =>
 rw [hc] at h
 obtain rfl := sinj h
 refine fn_of_E Try.func115 rfl (Nat.le_of_ble_eq_true rfl) fun g0 hm hfr => ?_
 show E _ 25 none _ _ _ _ _
 refine E_seq (E_region (EL_at (.int .i64 0) rfl rfl (EL_nil (thn_n ?_))))
 refine E_seq (E_seq (E_region (EL_mw (.int .u64 x0) rfl rfl ?_)))
 refine EL_pur (v := .bool false) (P_u64lt rfl rfl (by omega)) .plain rfl (EL_nil (thn_n ?_))
 refine E_cond_false rfl (E_skip (thn_n ?_))
 refine E_seq (E_seq (E_region (EL_mw (.int .u64 x0) rfl rfl ?_)))
 refine EL_pur (v := .bool false) (P_u64lt rfl rfl (by omega)) .plain rfl (EL_nil (thn_n ?_))
 refine E_cond_false rfl (E_skip (thn_n ?_))
 refine E_seq (E_seq (E_region (EL_mw (.int .u64 x0) rfl rfl ?_)))
 refine EL_pur (v := .bool false) (P_u64lt rfl rfl (by omega)) .plain rfl (EL_nil (thn_n ?_))
 refine E_cond_false rfl (E_skip (thn_n ?_))
 refine E_seq (E_region (EL_mw (.int .i64 0) rfl rfl ?_))
 refine EL_mw (.int .u64 x0) rfl rfl ?_
 refine EL_pur (v := .int .u8 x0) (P_u64u8 Try.underlying169 Try.underlying5 rfl h0 h1) .plain rfl ?_
 refine EL_pur (v := .int .u8 c.toNat) (P_indexS (s := lenTab) Try.underlying9 rfl rfl hc) .plain rfl ?_
 refine EL_pur (v := .int .i64 (c.toNat : Int)) (P_u8int Try.underlying5 Try.underlying2 rfl) .plain rfl ?_
 refine EL_in (.int .i64 (w64 (0 + (c.toNat : Int)))) rfl rfl rfl rfl ?_
 refine EL_at (.int .i64 (w64 (0 + (c.toNat : Int)))) rfl rfl (EL_nil (thn_n ?_))
 exact E_ret (end1 rfl rfl (show _ = _ from rfl) ⟨_, hfr, rfl⟩)
theorem wk101 {gI : Gh} {wI : World} {x0 : Int} {r : Int} (h : f101 x0 = some r) : Fn Try.prog 101 #[.int .u64 x0] gI wI (fun _ _ v => v = .int .i64 (r)) := by
 unfold f101 at h
 refine fn_of_E Try.func101 rfl (Nat.le_of_ble_eq_true rfl) fun g0 hm hfr => ?_
 show E _ 8 none _ _ _ _ _
 refine E_seq (E_region (EL_at (.int .i64 0) rfl rfl (EL_nil (thn_n ?_))))
 refine E_seq (E_cond_false rfl (E_skip (thn_n ?_)))
 refine E_seq (E_region (EL_mw (.int .u64 x0) rfl rfl ?_))
 refine EL_do .plain rfl (D_call (g := g0) (vs := [.int .u64 x0]) en115 (.cons rfl .nil) (wk115 h) fun g1 w1 v1 hs hr => ?_)
 have hfr := hfr.ext hs
 subst hr
 refine EL_at (.int .i64 r) rfl rfl (EL_nil (thn_n ?_))
 exact E_ret (end1 rfl rfl (show _ = _ from rfl) ⟨_, hfr, rfl⟩)
def f15 (x0 : LoomMill) : Option (LoomMill) :=
 (apnd 8 (([] : List Int)) ((x0).Widths)).bind fun y7 =>
 some ({ x0 with Widths := y7 })
theorem en15 : Enters Try.prog 15 := enters_of Try.func15 (by kernel_rfl) rfl
theorem wk15 {gI : Gh} {wI : World} {x0 : LoomMill} {up0 : Value} (rp0 : RV gI.m wI x0 up0) {r : LoomMill} (h : f15 x0 = some r) : Fn Try.prog 15 #[up0] gI wI (fun m w v => RV m w (r) v) := by
 unfold f15 at h
 refine fn_of_E Try.func15 rfl (Nat.le_of_ble_eq_true rfl) fun g0 hm hfr => ?_
 have rp0 : RV g0.m wI x0 up0 := hm ▸ rp0
 show E _ 9 none _ _ _ _ _
 refine E_seq (E_region (EL_do .plain rfl (D_boxO (g := g0) 2001 rfl rp0 fun g1 w1 p1 hs b1 => ?_)))
 have hfr := hfr.stp hs
 refine EL_do .plain rfl (D_allocOc (g := g1) 2002 (⟨[], 0⟩ : LoomMill) Try.zeroValue24 (fun m w => ⟨_, (rep_two rep_nil rep_int), rfl⟩) fun g2 w2 p2 hs b2 cb => ?_)
 have hfr := hfr.stp hs
 have b1 := b1.stp hs rfl
 have z2 : OSF 2002 60200 0 g2 w2 3 24 ([] : List Int) p2 := cb.osf (by rfl)
 clear cb
 refine EL_nil (thn_n (E_seq (E_region (EL_do .plain rfl (D_buildSlice (g := g2) 3003 (xs := ([] : List Int)) (vs := []) Try.underlying22 Try.sizeOf3 Try.zeroValue3 rfl rfl .nil RVs.nil rfl rfl fun g3 w3 v3 hs o3 r3 hxt hfl => ?_)))))
 have hfr := hfr.stp hs
 have b1 := b1.stp hs rfl
 have b2 := b2.stp hs rfl
 refine EL_pur (v := fPtr p1 0) (P_fieldAddr at_24_0 rfl (OB.ptr b1)) .plain rfl ?_
 refine EL_do .plain rfl (D_loadF (g := g3) part_LoomMill_0.1 Try.isAgg22 Try.sizeOf22 rfl b1 fun v5 r5 => ?_)
 obtain ⟨y7, o0, h⟩ := bsome h
 refine EL_do .plain rfl (D_append (g := g3) (i := 3003) Try.underlying22 info_3 rfl rfl o3 r3 rfl r5 o0 fun g6 w6 v6 hs o6 r6 _ => ?_)
 have hfr := hfr.stp hs
 have b1 := b1.stp hs rfl
 have b2 := b2.stp hs rfl
 refine EL_pur (v := fPtr p1 0) (P_fieldAddr at_24_0 rfl (OB.ptr b1)) .plain rfl ?_
 refine EL_do .plain rfl (D_storeFc (g := g6) part_LoomMill_0 Try.sizeOf22 rfl b1 rfl r6 fun g9 w9 hs b9 rst hos => ?_)
 have d3 := hos _ _ 3003 3 (y7 : List Int) (rv_cells1 r6) rfl o6
 clear rst hos
 have hfr := hfr.stp hs
 have b2 := b2.stp hs rfl
 refine EL_nil (thn_n (E_seq (E_region (EL_do .plain rfl (D_loadO (g := g9) Try.isAgg24 Try.sizeOf24 rfl b9 fun u0 j1 => ?_)))))
 refine EL_do .plain rfl (D_storeOc (g := g9) (v := u0) Try.sizeOf24 rfl b2 rfl j1 fun i3 j3 hs b11 cb => ?_)
 clear cb
 have hfr := hfr.stp hs
 refine EL_nil (thn_n (E_ret ?_))
 obtain rfl := sinj h
 obtain ⟨ad12, cv12, hp12, hl12, cr12⟩ := ob_read Try.isAgg24 Try.sizeOf24 b11
 exact endm_c rfl rfl ((show _ = p2 from rfl).trans hp12) hl12 ⟨_, hfr, cr12⟩
def f16 (x0 : List LoomOrder) : Option ((List LoomOrder)) :=
 (apnd 40 (([] : List LoomOrder)) x0).bind fun y3 =>
 some (y3)
theorem en16 : Enters Try.prog 16 := enters_of Try.func16 (by kernel_rfl) rfl
theorem wk16 {gI : Gh} {wI : World} {x0 : List LoomOrder} {up0 : Value} (rp0 : RV gI.m wI x0 up0) {r : (List LoomOrder)} (h : f16 x0 = some r) : Fn Try.prog 16 #[up0] gI wI (fun m w v => RV m w (r) v) := by
 unfold f16 at h
 refine fn_of_E Try.func16 rfl (Nat.le_of_ble_eq_true rfl) fun g0 hm hfr => ?_
 have rp0 : RV g0.m wI x0 up0 := hm ▸ rp0
 show E _ 6 none _ _ _ _ _
 refine E_seq (E_region (EL_at (.slice none 0 0) rfl rfl ?_))
 refine EL_nil (thn_n (E_seq (E_region (EL_do .plain rfl (D_buildSlice (g := g0) 3003 (xs := ([] : List LoomOrder)) (vs := []) Try.underlying25 Try.sizeOf82 Try.zeroValue82 rfl rfl .nil RVs.nil rfl rfl fun g1 w1 v1 hs o1 r1 hxt hfl => ?_)))))
 have hfr := hfr.stp hs
 have rp0 := rp0.stp hs
 refine EL_mw up0 rfl rfl ?_
 obtain ⟨y3, hy3, h⟩ := bsome h
 refine EL_do .plain rfl (D_append (g := g1) (i := 3003) Try.underlying25 info_82 rfl rfl o1 r1 rfl rp0 hy3 fun g2 w2 v2 hs o2 r2 _ => ?_)
 have hfr := hfr.stp hs
 refine EL_at v2 rfl rfl ?_
 refine EL_nil (thn_n (E_ret ?_))
 obtain rfl := sinj h
 exact end1 rfl rfl (show _ = v2 from rfl) ⟨_, hfr, r2⟩
def f22 (x0 : List LoomRun) (x1 : List LoomRun) : Option (Bool) :=
 jn (σ := Unit) (fun (_ : Unit) =>
  jn (σ := Unit) (fun (_ : Unit) =>
   some (true)
   ) fun k53 =>
  lp (σ := Int) (fun k54 o0 =>
   jn (σ := Unit) (fun (_ : Unit) =>
    jn (σ := Unit) (fun (_ : Unit) =>
     k54 ((w64 (o0 + (1 : Int))))
     ) fun k80 =>
    (idx x0 o0).bind fun y81 =>
    (idx x1 o0).bind fun y84 =>
    bif (!(decide (y81 = y84))) then
     some (false)
    else
     k80 ()
    ) fun k57 =>
   bif (decide (o0 < ((x0).length : Int))) then
    k57 ()
   else
    k53 ()
   ) big ((0 : Int))
  ) fun k2 =>
 bif (((x0).length : Int) != ((x1).length : Int)) then
  some (false)
 else
  k2 ()
theorem en22 : Enters Try.prog 22 := enters_of Try.func22 (by kernel_rfl) rfl
theorem wk22 {gI : Gh} {wI : World} {x0 : List LoomRun} {x1 : List LoomRun} {up0 : Value} (rp0 : RV gI.m wI x0 up0) {up1 : Value} (rp1 : RV gI.m wI x1 up1) {r : Bool} (h : f22 x0 x1 = some r) : Fn Try.prog 22 #[up0, up1] gI wI (fun _ _ v => v = .bool (r)) := by
 unfold f22 at h
 refine fn_of_E Try.func22 rfl (Nat.le_of_ble_eq_true rfl) fun g0 hm hfr => ?_
 have rp0 : RV g0.m wI x0 up0 := hm ▸ rp0
 have rp1 : RV g0.m wI x1 up1 := hm ▸ rp1
 show E _ 26 none _ _ _ _ _
 refine E_seq (E_region (EL_at (.bool false) rfl rfl ?_))
 refine EL_nil (thn_n (E_joinC h (fun (s : Unit) e w => ∃ (g : Gh) , Fr gI wI g w ∧ e 0 = up0 ∧ RV g.m w (x0 : List LoomRun) up0 ∧ e 1 = up1 ∧ RV g.m w (x1 : List LoomRun) up1) (fun X2 k2 hk2 h => ?_) ?_))
 ·refine E_seq (E_region (EL_mw up0 rfl rfl ?_))
  refine EL_pur (v := .int .i64 ((x0).length : Int)) (P_len Try.underlying31 rfl rp0) .plain rfl ?_
  refine EL_mw up1 rfl rfl ?_
  refine EL_pur (v := .int .i64 ((x1).length : Int)) (P_len Try.underlying31 rfl rp1) .plain rfl ?_
  refine EL_in (.bool ((((x0).length : Int) != ((x1).length : Int)))) rfl rfl rfl rfl ?_
  refine EL_nil (thn_n ?_)
  rcases csome h with ⟨hc3, h⟩ | ⟨hc3, h⟩
  ·refine E_ct hc3 rfl ?_
   refine E_seq (E_region (EL_at (.bool false) rfl rfl ?_))
   refine EL_nil (thn_n (E_ret (thn_r ?_)))
   obtain rfl := sinj h
   exact end1 rfl rfl (show _ = .bool false from rfl) ⟨_, hfr, rfl⟩
  ·refine E_cf hc3 rfl ?_
   exact E_skip (thn_n (hk2 () _ _ ⟨g0, hfr, rfl, rp0, rfl, rp1⟩ h))
 ·rintro _ v7 w4 ⟨g4, hfr, u5, x5, c6, d6⟩ h
  refine E_joinC h (fun (s : Unit) e w => ∃ (g : Gh) , Fr gI wI g w) (fun X53 k53 i6 h => ?_) ?_
  ·refine E_seq (E_region (EL_at (.int .i64 (0)) rfl rfl ?_))
   refine EL_nil (thn_n (E_block ?_))
   refine E_lp h (fun (s : Int) e w => ∃ (g : Gh) , Fr gI wI g w ∧ e 0 = up0 ∧ RV g.m w (x0 : List LoomRun) up0 ∧ e 1 = up1 ∧ RV g.m w (x1 : List LoomRun) up1 ∧ e 5 = .int .i64 (s)) ⟨g4, hfr, u5, x5, c6, d6, rfl⟩ (fun X54 k54 j6 => ?_)
   rintro o0 o7 c8 ⟨t5, hfr, j3, o3, p5, q5, u3⟩ h
   refine E_joinC h (fun (s : Unit) e w => ∃ (g : Gh) , Fr gI wI g w ∧ e 0 = up0 ∧ RV g.m w (x0 : List LoomRun) up0 ∧ e 1 = up1 ∧ RV g.m w (x1 : List LoomRun) up1 ∧ e 5 = .int .i64 (o0)) (fun X57 k57 l6 h => ?_) ?_
   ·refine E_seq (E_region (EL_mv u3 rfl ?_))
    refine EL_mv j3 rfl ?_
    refine EL_pur (v := .int .i64 ((x0).length : Int)) (P_len Try.underlying31 rfl o3) .plain rfl ?_
    refine EL_in (.bool ((decide (o0 < ((x0).length : Int))))) rfl rfl rfl rfl ?_
    refine EL_nil (thn_n ?_)
    rcases csome h with ⟨i3, h⟩ | ⟨i3, h⟩
    ·refine E_ct i3 rfl ?_
     exact E_skip (thn_n (l6 () _ _ ⟨t5, hfr, j3, o3, p5, q5, u3⟩ h))
    ·refine E_cf i3 rfl ?_
     refine E_exit ?_
     refine thn_e ?_
     refine thn_e ?_
     refine blk_hit ?_
     exact thn_n (i6 () _ _ ⟨t5, hfr⟩ h)
   ·rintro _ p7 e8 ⟨a7, hfr, z3, u0, d4, j1, z2⟩ h
    refine E_joinC h (fun (s : Unit) e w => ∃ (g : Gh) , Fr gI wI g w ∧ e 0 = up0 ∧ RV g.m w (x0 : List LoomRun) up0 ∧ e 1 = up1 ∧ RV g.m w (x1 : List LoomRun) up1 ∧ e 5 = .int .i64 (o0)) (fun X80 k80 v6 h => ?_) ?_
    ·refine E_block ?_
     refine E_seq ?_
     obtain ⟨y81, m4, h⟩ := bsome h
     have b7 := PT_idx u0 m4
     refine L_load (x := .tmp 19) Try.isAgg76 Try.sizeOf76 b7 fun c7 d7 x6 => ?_
     obtain ⟨y84, p4, h⟩ := bsome h
     have e7 := PT_idx j1 p4
     refine L_load (x := .tmp 23) Try.isAgg76 Try.sizeOf76 e7 fun g7 i7 y6 => ?_
     refine E_drawL (g := a7) (n := 9) [] [0, 1, 2, 3, 4, 5, 6, 7, 8] rfl mixed (by kernel_rfl) trivial ?_
     refine L_pur (c := up0) rfl rfl .plain (fun _ _ hd => P_move z3) ?_
     refine L_pur (c := .int .i64 (o0)) rfl rfl .plain (fun _ _ hd => P_move z2) ?_
     refine L_pur (c := ePtr up0 o0 3) rfl rfl .plain (fun _ _ hd => P_indexAddr (α := LoomRun) Try.underlying31 Try.sizeOf76 rfl u0 rfl m4) ?_
     refine L_ld (c := c7) rfl rfl .plain (fun _ _ h => h.ch) x6 rfl ?_
     refine L_pur (c := up1) rfl rfl .plain (fun _ _ hd => P_move d4) ?_
     refine L_pur (c := .int .i64 (o0)) rfl rfl .plain (fun _ _ hd => P_move z2) ?_
     refine L_pur (c := ePtr up1 o0 3) rfl rfl .plain (fun _ _ hd => P_indexAddr (α := LoomRun) Try.underlying31 Try.sizeOf76 rfl j1 rfl p4) ?_
     refine L_ld (c := g7) rfl rfl .plain (fun _ _ h => h.ch) y6 rfl ?_
     refine L_pur (c := .bool ((!(decide (y81 = y84))))) rfl rfl .plain (fun _ _ hd => P_sne seq_76 rfl eg_76 rfl rfl d7 i7) ?_
     refine L_nil fun j7 g8 hall => ?_
     have hs := hall.1
     have hfr := hfr.ext hs
     have u0 := u0.ext hs
     have j1 := j1.ext hs
     clear hs hall
     refine EL_nil (thn_n ?_)
     rcases csome h with ⟨d3, h⟩ | ⟨d3, h⟩
     ·refine E_ct d3 rfl ?_
      refine E_seq (E_region (EL_at (.bool false) rfl rfl ?_))
      refine EL_nil (thn_n (E_ret (blk_r ?_)))
      refine thn_r ?_
      refine thn_r ?_
      refine blk_r ?_
      refine thn_r ?_
      obtain rfl := sinj h
      exact end1 rfl rfl (show _ = .bool false from rfl) ⟨_, hfr, rfl⟩
     ·refine E_cf d3 rfl ?_
      exact E_skip (blk_n (thn_n (v6 () _ _ ⟨j7, hfr, z3, u0, d4, j1, z2⟩ h)))
    ·rintro _ m7 q7 ⟨z6, hfr, z4, d5, i5, l5, o5⟩ h
     refine E_region (EL_mv o5 rfl ?_)
     refine EL_in (.int .i64 ((w64 (o0 + (1 : Int))))) rfl rfl rfl rfl ?_
     refine EL_at (.int .i64 ((w64 (o0 + (1 : Int))))) rfl rfl ?_
     exact EL_nil (thn_n (j6 ((w64 (o0 + (1 : Int)))) _ _ ⟨z6, hfr, z4, d5, i5, l5, rfl⟩ h))
  ·rintro _ n7 t7 ⟨u7, hfr⟩ h
   refine E_seq (E_region (EL_at (.bool true) rfl rfl ?_))
   refine EL_nil (thn_n (E_ret ?_))
   obtain rfl := sinj h
   exact end1 rfl rfl (show _ = .bool true from rfl) ⟨_, hfr, rfl⟩
def f28 (x0 : List Int) (x1 : List Int) : Option (Bool) :=
 jn (σ := Unit) (fun (_ : Unit) =>
  jn (σ := Unit) (fun (_ : Unit) =>
   some (true)
   ) fun k53 =>
  lp (σ := Int) (fun k54 o0 =>
   jn (σ := Unit) (fun (_ : Unit) =>
    jn (σ := Unit) (fun (_ : Unit) =>
     k54 ((w64 (o0 + (1 : Int))))
     ) fun k80 =>
    (idx x0 o0).bind fun y81 =>
    (idx x1 o0).bind fun y84 =>
    bif (y81 != y84) then
     some (false)
    else
     k80 ()
    ) fun k57 =>
   bif (decide (o0 < ((x0).length : Int))) then
    k57 ()
   else
    k53 ()
   ) big ((0 : Int))
  ) fun k2 =>
 bif (((x0).length : Int) != ((x1).length : Int)) then
  some (false)
 else
  k2 ()
theorem en28 : Enters Try.prog 28 := enters_of Try.func28 (by kernel_rfl) rfl
theorem wk28 {gI : Gh} {wI : World} {x0 : List Int} {x1 : List Int} {up0 : Value} (rp0 : RV gI.m wI x0 up0) {up1 : Value} (rp1 : RV gI.m wI x1 up1) {r : Bool} (h : f28 x0 x1 = some r) : Fn Try.prog 28 #[up0, up1] gI wI (fun _ _ v => v = .bool (r)) := by
 unfold f28 at h
 refine fn_of_E Try.func28 rfl (Nat.le_of_ble_eq_true rfl) fun g0 hm hfr => ?_
 have rp0 : RV g0.m wI x0 up0 := hm ▸ rp0
 have rp1 : RV g0.m wI x1 up1 := hm ▸ rp1
 show E _ 26 none _ _ _ _ _
 refine E_seq (E_region (EL_at (.bool false) rfl rfl ?_))
 refine EL_nil (thn_n (E_joinC h (fun (s : Unit) e w => ∃ (g : Gh) , Fr gI wI g w ∧ e 0 = up0 ∧ RV g.m w (x0 : List Int) up0 ∧ e 1 = up1 ∧ RV g.m w (x1 : List Int) up1) (fun X2 k2 hk2 h => ?_) ?_))
 ·refine E_seq (E_region (EL_mw up0 rfl rfl ?_))
  refine EL_pur (v := .int .i64 ((x0).length : Int)) (P_len Try.underlying22 rfl rp0) .plain rfl ?_
  refine EL_mw up1 rfl rfl ?_
  refine EL_pur (v := .int .i64 ((x1).length : Int)) (P_len Try.underlying22 rfl rp1) .plain rfl ?_
  refine EL_in (.bool ((((x0).length : Int) != ((x1).length : Int)))) rfl rfl rfl rfl ?_
  refine EL_nil (thn_n ?_)
  rcases csome h with ⟨hc3, h⟩ | ⟨hc3, h⟩
  ·refine E_ct hc3 rfl ?_
   refine E_seq (E_region (EL_at (.bool false) rfl rfl ?_))
   refine EL_nil (thn_n (E_ret (thn_r ?_)))
   obtain rfl := sinj h
   exact end1 rfl rfl (show _ = .bool false from rfl) ⟨_, hfr, rfl⟩
  ·refine E_cf hc3 rfl ?_
   exact E_skip (thn_n (hk2 () _ _ ⟨g0, hfr, rfl, rp0, rfl, rp1⟩ h))
 ·rintro _ t7 w4 ⟨g4, hfr, u5, x5, c6, d6⟩ h
  refine E_joinC h (fun (s : Unit) e w => ∃ (g : Gh) , Fr gI wI g w) (fun X53 k53 i6 h => ?_) ?_
  ·refine E_seq (E_region (EL_at (.int .i64 (0)) rfl rfl ?_))
   refine EL_nil (thn_n (E_block ?_))
   refine E_lp h (fun (s : Int) e w => ∃ (g : Gh) , Fr gI wI g w ∧ e 0 = up0 ∧ RV g.m w (x0 : List Int) up0 ∧ e 1 = up1 ∧ RV g.m w (x1 : List Int) up1 ∧ e 5 = .int .i64 (s)) ⟨g4, hfr, u5, x5, c6, d6, rfl⟩ (fun X54 k54 j6 => ?_)
   rintro o0 m7 u7 ⟨t5, hfr, j3, o3, p5, q5, u3⟩ h
   refine E_joinC h (fun (s : Unit) e w => ∃ (g : Gh) , Fr gI wI g w ∧ e 0 = up0 ∧ RV g.m w (x0 : List Int) up0 ∧ e 1 = up1 ∧ RV g.m w (x1 : List Int) up1 ∧ e 5 = .int .i64 (o0)) (fun X57 k57 l6 h => ?_) ?_
   ·refine E_seq (E_region (EL_mv u3 rfl ?_))
    refine EL_mv j3 rfl ?_
    refine EL_pur (v := .int .i64 ((x0).length : Int)) (P_len Try.underlying22 rfl o3) .plain rfl ?_
    refine EL_in (.bool ((decide (o0 < ((x0).length : Int))))) rfl rfl rfl rfl ?_
    refine EL_nil (thn_n ?_)
    rcases csome h with ⟨i3, h⟩ | ⟨i3, h⟩
    ·refine E_ct i3 rfl ?_
     exact E_skip (thn_n (l6 () _ _ ⟨t5, hfr, j3, o3, p5, q5, u3⟩ h))
    ·refine E_cf i3 rfl ?_
     refine E_exit ?_
     refine thn_e ?_
     refine thn_e ?_
     refine blk_hit ?_
     exact thn_n (i6 () _ _ ⟨t5, hfr⟩ h)
   ·rintro _ n7 v7 ⟨a7, hfr, z3, u0, d4, j1, z2⟩ h
    refine E_joinC h (fun (s : Unit) e w => ∃ (g : Gh) , Fr gI wI g w ∧ e 0 = up0 ∧ RV g.m w (x0 : List Int) up0 ∧ e 1 = up1 ∧ RV g.m w (x1 : List Int) up1 ∧ e 5 = .int .i64 (o0)) (fun X80 k80 v6 h => ?_) ?_
    ·refine E_block ?_
     refine E_seq ?_
     obtain ⟨y81, m4, h⟩ := bsome h
     have b7 := PT_idx u0 m4
     refine L_load (x := .tmp 19) Try.isAgg3 Try.sizeOf3 b7 fun c8 c7 x6 => ?_
     obtain rfl := RV_int.1 c7
     obtain ⟨y84, p4, h⟩ := bsome h
     have d7 := PT_idx j1 p4
     refine L_load (x := .tmp 23) Try.isAgg3 Try.sizeOf3 d7 fun e8 e7 y6 => ?_
     obtain rfl := RV_int.1 e7
     refine E_drawL (g := a7) (n := 9) [] [0, 1, 2, 3, 4, 5, 6, 7, 8] rfl mixed (by kernel_rfl) trivial ?_
     refine L_pur (c := up0) rfl rfl .plain (fun _ _ hd => P_move z3) ?_
     refine L_pur (c := .int .i64 (o0)) rfl rfl .plain (fun _ _ hd => P_move z2) ?_
     refine L_pur (c := ePtr up0 o0 1) rfl rfl .plain (fun _ _ hd => P_indexAddr (α := Int) Try.underlying22 Try.sizeOf3 rfl u0 rfl m4) ?_
     refine L_ld (c := .int .i64 (y81)) rfl rfl .plain (fun _ _ h => h.ch) x6 rfl ?_
     refine L_pur (c := up1) rfl rfl .plain (fun _ _ hd => P_move d4) ?_
     refine L_pur (c := .int .i64 (o0)) rfl rfl .plain (fun _ _ hd => P_move z2) ?_
     refine L_pur (c := ePtr up1 o0 1) rfl rfl .plain (fun _ _ hd => P_indexAddr (α := Int) Try.underlying22 Try.sizeOf3 rfl j1 rfl p4) ?_
     refine L_ld (c := .int .i64 (y84)) rfl rfl .plain (fun _ _ h => h.ch) y6 rfl ?_
     refine L_pur (c := .bool ((y81 != y84))) rfl rfl .plain (fun _ _ hd => P_int rfl rfl rfl) ?_
     refine L_nil fun g7 g8 hall => ?_
     have hs := hall.1
     have hfr := hfr.ext hs
     have u0 := u0.ext hs
     have j1 := j1.ext hs
     clear hs hall
     refine EL_nil (thn_n ?_)
     rcases csome h with ⟨d3, h⟩ | ⟨d3, h⟩
     ·refine E_ct d3 rfl ?_
      refine E_seq (E_region (EL_at (.bool false) rfl rfl ?_))
      refine EL_nil (thn_n (E_ret (blk_r ?_)))
      refine thn_r ?_
      refine thn_r ?_
      refine blk_r ?_
      refine thn_r ?_
      obtain rfl := sinj h
      exact end1 rfl rfl (show _ = .bool false from rfl) ⟨_, hfr, rfl⟩
     ·refine E_cf d3 rfl ?_
      exact E_skip (blk_n (thn_n (v6 () _ _ ⟨g7, hfr, z3, u0, d4, j1, z2⟩ h)))
    ·rintro _ i7 o7 ⟨z6, hfr, z4, d5, i5, l5, o5⟩ h
     refine E_region (EL_mv o5 rfl ?_)
     refine EL_in (.int .i64 ((w64 (o0 + (1 : Int))))) rfl rfl rfl rfl ?_
     refine EL_at (.int .i64 ((w64 (o0 + (1 : Int))))) rfl rfl ?_
     exact EL_nil (thn_n (j6 ((w64 (o0 + (1 : Int)))) _ _ ⟨z6, hfr, z4, d5, i5, l5, rfl⟩ h))
  ·rintro _ j7 p7 ⟨q7, hfr⟩ h
   refine E_seq (E_region (EL_at (.bool true) rfl rfl ?_))
   refine EL_nil (thn_n (E_ret ?_))
   obtain rfl := sinj h
   exact end1 rfl rfl (show _ = .bool true from rfl) ⟨_, hfr, rfl⟩
def f32 (x0 : List LoomRun) : Option ((List LoomRun)) :=
 (apnd 24 (([] : List LoomRun)) x0).bind fun y3 =>
 some (y3)
theorem en32 : Enters Try.prog 32 := enters_of Try.func32 (by kernel_rfl) rfl
theorem wk32 {gI : Gh} {wI : World} {x0 : List LoomRun} {up0 : Value} (rp0 : RV gI.m wI x0 up0) {r : (List LoomRun)} (h : f32 x0 = some r) : Fn Try.prog 32 #[up0] gI wI (fun m w v => RV m w (r) v) := by
 unfold f32 at h
 refine fn_of_E Try.func32 rfl (Nat.le_of_ble_eq_true rfl) fun g0 hm hfr => ?_
 have rp0 : RV g0.m wI x0 up0 := hm ▸ rp0
 show E _ 6 none _ _ _ _ _
 refine E_seq (E_region (EL_at (.slice none 0 0) rfl rfl ?_))
 refine EL_nil (thn_n (E_seq (E_region (EL_do .plain rfl (D_buildSlice (g := g0) 3003 (xs := ([] : List LoomRun)) (vs := []) Try.underlying31 Try.sizeOf76 Try.zeroValue76 rfl rfl .nil RVs.nil rfl rfl fun g1 w1 v1 hs o1 r1 hxt hfl => ?_)))))
 have hfr := hfr.stp hs
 have rp0 := rp0.stp hs
 refine EL_mw up0 rfl rfl ?_
 obtain ⟨y3, hy3, h⟩ := bsome h
 refine EL_do .plain rfl (D_append (g := g1) (i := 3003) Try.underlying31 info_76 rfl rfl o1 r1 rfl rp0 hy3 fun g2 w2 v2 hs o2 r2 _ => ?_)
 have hfr := hfr.stp hs
 refine EL_at v2 rfl rfl ?_
 refine EL_nil (thn_n (E_ret ?_))
 obtain rfl := sinj h
 exact end1 rfl rfl (show _ = v2 from rfl) ⟨_, hfr, r2⟩
def f42 (x0 : List LoomOrder) (x1 : List Int) : Option ((List LoomOrder) × (List LoomOrder) × Bool) :=
 jn (σ := (List LoomOrder) × (List LoomOrder)) (fun (z8, a9) =>
  Option.bind (α := (List LoomOrder) × (List LoomOrder)) (
   lp (σ := (List LoomOrder) × (List LoomOrder) × Int × Int) (fun eB (q5, t5, i3, d3) =>
    jn (σ := Unit) (fun (_ : Unit) =>
     Option.bind (α := (List LoomOrder) × (List LoomOrder) × Int) (
      Option.bind (α := Bool) (
       bif (decide (i3 < ((x1).length : Int))) then
        (idx x1 i3).bind fun m8 =>
        some ((m8 == d3))
       else
        some (false)
       ) fun z6 =>
      bif z6 then
       (idx x0 d3).bind fun kA =>
       (apnd 40 t5 (([kA] : List LoomOrder))).bind fun iB =>
       some (q5, iB, (w64 (i3 + (1 : Int))))
      else
       (idx x0 d3).bind fun lA =>
       (apnd 40 q5 (([lA] : List LoomOrder))).bind fun jB =>
       some (jB, t5, i3)
      ) fun (c7, d7, i7) =>
     eB (c7, d7, i7, (w64 (d3 + (1 : Int))))
     ) fun kB =>
    bif (decide (d3 < ((x0).length : Int))) then
     kB ()
    else
     some (q5, t5)
    ) big (z8, a9, (0 : Int), (0 : Int))
   ) fun (j7, m7) =>
  some (j7, m7, true)
  ) fun cE =>
 lp (σ := (List LoomOrder) × (List LoomOrder) × Int) (fun dE (l6, v6, o0) =>
  jn (σ := Unit) (fun (_ : Unit) =>
   jn (σ := (List LoomOrder) × (List LoomOrder)) (fun (i8, k8) =>
    dE (i8, k8, (w64 (o0 + (1 : Int))))
    ) fun eE =>
   Option.bind (α := Bool) (
    (idx x1 o0).bind fun m4 =>
    bif (decide (m4 < (0 : Int))) then
     some (true)
    else
     (idx x1 o0).bind fun p4 =>
     bif (decide (p4 ≥ ((x0).length : Int))) then
      some (true)
     else
      bif (decide (o0 > (0 : Int))) then
       (idx x1 o0).bind fun n7 =>
       (idx x1 (w64 (o0 - (1 : Int)))).bind fun o7 =>
       some ((decide (n7 ≤ o7)))
      else
       some (false)
    ) fun a7 =>
   bif a7 then
    some ([], [], false)
   else
    eE (l6, v6)
   ) fun gE =>
  bif (decide (o0 < ((x1).length : Int))) then
   gE ()
  else
   cE (l6, v6)
  ) big ([], [], (0 : Int))
theorem en42 : Enters Try.prog 42 := enters_of Try.func42 (by kernel_rfl) rfl
theorem wk42 {gI : Gh} {wI : World} {x0 : List LoomOrder} {x1 : List Int} {up0 : Value} (rp0 : RV gI.m wI x0 up0) {up1 : Value} (rp1 : RV gI.m wI x1 up1) {r : (List LoomOrder) × (List LoomOrder) × Bool} (h : f42 x0 x1 = some r) : Fn Try.prog 42 #[up0, up1] gI wI (fun m w v => ∃ y0 y1 y2, v = .tuple #[y0, y1, y2] ∧ RV m w (r.1) y0 ∧ RV m w (r.2.1) y1 ∧ y2 = .bool (r.2.2)) := by
 unfold f42 at h
 refine fn_of_E Try.func42 rfl (Nat.le_of_ble_eq_true rfl) fun g0 hm hfr => ?_
 have rp0 : RV g0.m wI x0 up0 := hm ▸ rp0
 have rp1 : RV g0.m wI x1 up1 := hm ▸ rp1
 show E _ 82 none _ _ _ _ _
 refine E_seq (E_region (EL_at (.slice none 0 0) rfl rfl ?_))
 refine EL_at (.slice none 0 0) rfl rfl ?_
 refine EL_at (.bool false) rfl rfl ?_
 refine EL_nil (thn_n (E_joinC h (fun (s : (List LoomOrder) × (List LoomOrder)) e w => ∃ (g : Gh) (v4 v5 : Value), Fr gI wI g w ∧ e 0 = up0 ∧ RV g.m w (x0 : List LoomOrder) up0 ∧ e 1 = up1 ∧ RV g.m w (x1 : List Int) up1 ∧ e 4 = v4 ∧ RV g.m w (s.1 : List LoomOrder) v4 ∧ OS 1004 g w 82 (s.1 : List LoomOrder) v4 ∧ e 5 = v5 ∧ RV g.m w (s.2 : List LoomOrder) v5 ∧ OS 1005 g w 82 (s.2 : List LoomOrder) v5) (fun X649 cE rE h => ?_) ?_))
 ·refine E_seq (E_region (EL_at (.int .i64 (0)) rfl rfl ?_))
  refine EL_nil (thn_n (E_block ?_))
  refine E_lp h (fun (s : (List LoomOrder) × (List LoomOrder) × Int) e w => ∃ (g : Gh) (v4 v5 : Value), Fr gI wI g w ∧ e 0 = up0 ∧ RV g.m w (x0 : List LoomOrder) up0 ∧ e 1 = up1 ∧ RV g.m w (x1 : List Int) up1 ∧ e 4 = v4 ∧ RV g.m w (s.1 : List LoomOrder) v4 ∧ OS 1004 g w 82 (s.1 : List LoomOrder) v4 ∧ e 5 = v5 ∧ RV g.m w (s.2.1 : List LoomOrder) v5 ∧ OS 1005 g w 82 (s.2.1 : List LoomOrder) v5 ∧ e 7 = .int .i64 (s.2.2)) ⟨g0, (.slice none 0 0), (.slice none 0 0), hfr, rfl, rp0, rfl, rp1, rfl, RV_nil, OS.nil, rfl, RV_nil, OS.nil, rfl⟩ (fun X650 dE sE => ?_)
  rintro ⟨l6, v6, o0⟩ sG yH ⟨iE, x6, y6, hfr, pA, qA, o8, p8, rA, sA, tA, uA, vA, xA, yA⟩ h
  refine E_joinC h (fun (s : Unit) e w => ∃ (g : Gh) , Fr gI wI g w ∧ e 0 = up0 ∧ RV g.m w (x0 : List LoomOrder) up0 ∧ e 1 = up1 ∧ RV g.m w (x1 : List Int) up1 ∧ e 4 = x6 ∧ RV g.m w (l6 : List LoomOrder) x6 ∧ OS 1004 g w 82 (l6 : List LoomOrder) x6 ∧ e 5 = y6 ∧ RV g.m w (v6 : List LoomOrder) y6 ∧ OS 1005 g w 82 (v6 : List LoomOrder) y6 ∧ e 7 = .int .i64 (o0)) (fun X653 gE tE h => ?_) ?_
  ·refine E_seq (E_region (EL_mv yA rfl ?_))
   refine EL_mv o8 rfl ?_
   refine EL_pur (v := .int .i64 ((x1).length : Int)) (P_len Try.underlying22 rfl p8) .plain rfl ?_
   refine EL_in (.bool ((decide (o0 < ((x1).length : Int))))) rfl rfl rfl rfl ?_
   refine EL_nil (thn_n ?_)
   rcases csome h with ⟨mA, h⟩ | ⟨mA, h⟩
   ·refine E_ct mA rfl ?_
    exact E_skip (thn_n (tE () _ _ ⟨iE, hfr, pA, qA, o8, p8, rA, sA, tA, uA, vA, xA, yA⟩ h))
   ·refine E_cf mA rfl ?_
    refine E_exit ?_
    refine thn_e ?_
    refine thn_e ?_
    refine blk_hit ?_
    exact thn_n (rE (l6, v6) _ _ ⟨iE, (x6), (y6), hfr, pA, qA, o8, p8, rA, sA, tA, uA, vA, xA⟩ h)
  ·rintro _ tG zH ⟨nA, hfr, b7, u3, z4, j1, v7, d5, i5, c8, l5, o5, z3⟩ h
   refine E_joinC h (fun (s : (List LoomOrder) × (List LoomOrder)) e w => ∃ (g : Gh) (v4 v5 : Value), Fr gI wI g w ∧ e 0 = up0 ∧ RV g.m w (x0 : List LoomOrder) up0 ∧ e 1 = up1 ∧ RV g.m w (x1 : List Int) up1 ∧ e 4 = v4 ∧ RV g.m w (s.1 : List LoomOrder) v4 ∧ OS 1004 g w 82 (s.1 : List LoomOrder) v4 ∧ e 5 = v5 ∧ RV g.m w (s.2 : List LoomOrder) v5 ∧ OS 1005 g w 82 (s.2 : List LoomOrder) v5 ∧ e 7 = .int .i64 (o0)) (fun X976 eE uE h => ?_) ?_
   ·refine E_block ?_
    obtain ⟨a7, hx, h⟩ := bsome h
    refine E_join (fun e w => ∃ (g : Gh) , Fr gI wI g w ∧ e 0 = up0 ∧ RV g.m w (x0 : List LoomOrder) up0 ∧ e 1 = up1 ∧ RV g.m w (x1 : List Int) up1 ∧ e 4 = x6 ∧ RV g.m w (l6 : List LoomOrder) x6 ∧ OS 1004 g w 82 (l6 : List LoomOrder) x6 ∧ e 5 = y6 ∧ RV g.m w (v6 : List LoomOrder) y6 ∧ OS 1005 g w 82 (v6 : List LoomOrder) y6 ∧ e 7 = .int .i64 (o0) ∧ e 45 = .bool (a7)) (fun Q' hQ => ?_) (fun kG uG hR => ?_)
    ·replace h := hx
     clear hx
     obtain ⟨m4, g7, h⟩ := bsome h
     have vE := PT_idx j1 g7
     refine L_load (x := .tmp 18) Try.isAgg3 Try.sizeOf3 vE fun vG xE e8 => ?_
     obtain rfl := RV_int.1 xE
     rcases csome h with ⟨u0, h⟩ | ⟨u0, h⟩
     ·refine E_drawL (g := nA) (n := 30) [] [0, 1, 2, 3, 4, 5, 6, 7, 8, 9, 10, 11, 12, 13, 14, 15, 16, 17, 18, 19, 20, 21, 22, 23, 24, 25, 26, 27, 28, 29] rfl mixed (by kernel_rfl) trivial ?_
      refine L_pur (c := up1) rfl rfl .plain (fun _ _ hd => P_move z4) ?_
      refine L_pur (c := .int .i64 (o0)) rfl rfl .plain (fun _ _ hd => P_move z3) ?_
      refine L_pur (c := ePtr up1 o0 1) rfl rfl .plain (fun _ _ hd => P_indexAddr (α := Int) Try.underlying22 Try.sizeOf3 rfl j1 rfl g7) ?_
      refine L_ld (c := .int .i64 (m4)) rfl rfl .plain (fun _ _ h => h.ch) e8 rfl ?_
      refine L_pur (c := .bool ((decide (m4 < (0 : Int))))) rfl rfl .plain (fun _ _ hd => P_int rfl rfl rfl) ?_
      refine L_pur (c := .bool ((decide (m4 < (0 : Int))))) rfl rfl .plain (fun _ _ hd => P_move rfl) ?_
      refine L_skip rfl (.no2 rfl rfl u0 rfl) ?_
      refine L_skip rfl (.no2 rfl rfl u0 rfl) ?_
      refine L_skip rfl (.no2 rfl rfl u0 rfl) ?_
      refine L_skip rfl (.no2 rfl rfl u0 rfl) ?_
      refine L_skip rfl (.no2 rfl rfl u0 rfl) ?_
      refine L_skip rfl (.no2 rfl rfl u0 rfl) ?_
      refine L_skip rfl (.no2 rfl rfl u0 rfl) ?_
      refine L_pur (c := .bool true) rfl rfl .plain (fun _ _ hd => P_pick (b := (decide (m4 < (0 : Int)))) rfl (pick_t u0 rfl)) ?_
      refine L_dead (fun _ => rfl) 16 rfl ?_
      refine L_nil fun yE xG hall => ?_
      have hs := hall.1
      have hfr := hfr.ext hs
      have u3 := u3.ext hs
      have j1 := j1.ext hs
      have d5 := d5.ext hs
      have i5 := i5.ext hs
      have l5 := l5.ext hs
      have o5 := o5.ext hs
      clear hs hall
      refine EL_nil ?_
      obtain rfl := sinj h
      exact hQ _ _ ⟨yE, hfr, b7, u3, z4, j1, v7, d5, i5, c8, l5, o5, z3, rfl⟩
     ·obtain ⟨p4, g8, h⟩ := bsome h
      have zE := PT_idx j1 g8
      refine L_load (x := .tmp 24) Try.isAgg3 Try.sizeOf3 zE fun yG cF q8 => ?_
      obtain rfl := RV_int.1 cF
      rcases csome h with ⟨o3, h⟩ | ⟨o3, h⟩
      ·refine E_drawL (g := nA) (n := 30) [] [0, 1, 2, 3, 4, 5, 6, 7, 8, 9, 10, 11, 12, 13, 14, 15, 16, 17, 18, 19, 20, 21, 22, 23, 24, 25, 26, 27, 28, 29] rfl mixed (by kernel_rfl) trivial ?_
       refine L_pur (c := up1) rfl rfl .plain (fun _ _ hd => P_move z4) ?_
       refine L_pur (c := .int .i64 (o0)) rfl rfl .plain (fun _ _ hd => P_move z3) ?_
       refine L_pur (c := ePtr up1 o0 1) rfl rfl .plain (fun _ _ hd => P_indexAddr (α := Int) Try.underlying22 Try.sizeOf3 rfl j1 rfl g7) ?_
       refine L_ld (c := .int .i64 (m4)) rfl rfl .plain (fun _ _ h => h.ch) e8 rfl ?_
       refine L_pur (c := .bool ((decide (m4 < (0 : Int))))) rfl rfl .plain (fun _ _ hd => P_int rfl rfl rfl) ?_
       refine L_pur (c := .bool ((decide (m4 < (0 : Int))))) rfl rfl .plain (fun _ _ hd => P_move rfl) ?_
       refine L_pur (c := up1) rfl rfl (.yes2 rfl rfl u0) (fun _ _ hd => P_move z4) ?_
       refine L_pur (c := .int .i64 (o0)) rfl rfl (.yes2 rfl rfl u0) (fun _ _ hd => P_move z3) ?_
       refine L_pur (c := ePtr up1 o0 1) rfl rfl (.yes2 rfl rfl u0) (fun _ _ hd => P_indexAddr (α := Int) Try.underlying22 Try.sizeOf3 rfl j1 rfl g8) ?_
       refine L_ld (c := .int .i64 (p4)) rfl rfl (.yes2 rfl rfl u0) (fun _ _ h => h.ch) q8 rfl ?_
       refine L_pur (c := up0) rfl rfl (.yes2 rfl rfl u0) (fun _ _ hd => P_move b7) ?_
       refine L_pur (c := .int .i64 ((x0).length : Int)) rfl rfl (.yes2 rfl rfl u0) (fun _ _ hd => P_len Try.underlying25 rfl u3) ?_
       refine L_pur (c := .bool ((decide (p4 ≥ ((x0).length : Int))))) rfl rfl (.yes2 rfl rfl u0) (fun _ _ hd => P_int rfl rfl rfl) ?_
       refine L_pur (c := .bool ((decide (p4 ≥ ((x0).length : Int))))) rfl rfl .plain (fun _ _ hd => P_pick (b := (decide (m4 < (0 : Int)))) rfl (pick_f u0 rfl)) ?_
       refine L_pur (c := .bool ((decide (p4 ≥ ((x0).length : Int))))) rfl rfl .plain (fun _ _ hd => P_move rfl) ?_
       refine L_skip rfl (.no2 rfl rfl o3 rfl) ?_
       refine L_skip rfl (.no2 rfl rfl o3 rfl) ?_
       refine L_skip rfl (.no2 rfl rfl o3 rfl) ?_
       refine L_dead (fun _ => rfl) 10 rfl ?_
       refine L_skip rfl (.no2 rfl rfl o3 rfl) ?_
       refine L_pur (c := .bool true) rfl rfl .plain (fun _ _ hd => P_pick (b := (decide (p4 ≥ ((x0).length : Int)))) rfl (pick_t o3 rfl)) ?_
       refine L_nil fun dF zG hall => ?_
       have hs := hall.1
       have hfr := hfr.ext hs
       have u3 := u3.ext hs
       have j1 := j1.ext hs
       have d5 := d5.ext hs
       have i5 := i5.ext hs
       have l5 := l5.ext hs
       have o5 := o5.ext hs
       clear hs hall
       refine EL_nil ?_
       obtain rfl := sinj h
       exact hQ _ _ ⟨dF, hfr, b7, u3, z4, j1, v7, d5, i5, c8, l5, o5, z3, rfl⟩
      ·rcases csome h with ⟨z2, h⟩ | ⟨z2, h⟩
       ·obtain ⟨n7, zA, h⟩ := bsome h
        have eF := PT_idx j1 zA
        refine L_load (x := .tmp 36) Try.isAgg3 Try.sizeOf3 eF fun aH gF jE => ?_
        obtain rfl := RV_int.1 gF
        obtain ⟨o7, aB, h⟩ := bsome h
        have iF := PT_idx j1 aB
        refine L_load (x := .tmp 41) Try.isAgg3 Try.sizeOf3 iF fun bH jF kE => ?_
        obtain rfl := RV_int.1 jF
        refine E_drawL (g := nA) (n := 30) [] [0, 1, 2, 3, 4, 5, 6, 7, 8, 9, 10, 11, 12, 13, 14, 15, 16, 17, 18, 19, 20, 21, 22, 23, 24, 25, 26, 27, 28, 29] rfl mixed (by kernel_rfl) trivial ?_
        refine L_pur (c := up1) rfl rfl .plain (fun _ _ hd => P_move z4) ?_
        refine L_pur (c := .int .i64 (o0)) rfl rfl .plain (fun _ _ hd => P_move z3) ?_
        refine L_pur (c := ePtr up1 o0 1) rfl rfl .plain (fun _ _ hd => P_indexAddr (α := Int) Try.underlying22 Try.sizeOf3 rfl j1 rfl g7) ?_
        refine L_ld (c := .int .i64 (m4)) rfl rfl .plain (fun _ _ h => h.ch) e8 rfl ?_
        refine L_pur (c := .bool ((decide (m4 < (0 : Int))))) rfl rfl .plain (fun _ _ hd => P_int rfl rfl rfl) ?_
        refine L_pur (c := .bool ((decide (m4 < (0 : Int))))) rfl rfl .plain (fun _ _ hd => P_move rfl) ?_
        refine L_pur (c := up1) rfl rfl (.yes2 rfl rfl u0) (fun _ _ hd => P_move z4) ?_
        refine L_pur (c := .int .i64 (o0)) rfl rfl (.yes2 rfl rfl u0) (fun _ _ hd => P_move z3) ?_
        refine L_pur (c := ePtr up1 o0 1) rfl rfl (.yes2 rfl rfl u0) (fun _ _ hd => P_indexAddr (α := Int) Try.underlying22 Try.sizeOf3 rfl j1 rfl g8) ?_
        refine L_ld (c := .int .i64 (p4)) rfl rfl (.yes2 rfl rfl u0) (fun _ _ h => h.ch) q8 rfl ?_
        refine L_pur (c := up0) rfl rfl (.yes2 rfl rfl u0) (fun _ _ hd => P_move b7) ?_
        refine L_pur (c := .int .i64 ((x0).length : Int)) rfl rfl (.yes2 rfl rfl u0) (fun _ _ hd => P_len Try.underlying25 rfl u3) ?_
        refine L_pur (c := .bool ((decide (p4 ≥ ((x0).length : Int))))) rfl rfl (.yes2 rfl rfl u0) (fun _ _ hd => P_int rfl rfl rfl) ?_
        refine L_pur (c := .bool ((decide (p4 ≥ ((x0).length : Int))))) rfl rfl .plain (fun _ _ hd => P_pick (b := (decide (m4 < (0 : Int)))) rfl (pick_f u0 rfl)) ?_
        refine L_pur (c := .bool ((decide (p4 ≥ ((x0).length : Int))))) rfl rfl .plain (fun _ _ hd => P_move rfl) ?_
        refine L_pur (c := .int .i64 (o0)) rfl rfl (.yes2 rfl rfl o3) (fun _ _ hd => P_move z3) ?_
        refine L_pur (c := .bool ((decide (o0 > (0 : Int))))) rfl rfl (.yes2 rfl rfl o3) (fun _ _ hd => P_int rfl rfl rfl) ?_
        refine L_pur (c := .bool ((decide (o0 > (0 : Int))))) rfl rfl (.yes2 rfl rfl o3) (fun _ _ hd => P_move rfl) ?_
        refine L_pur (c := up1) rfl rfl (.yes2 rfl rfl z2) (fun _ _ hd => P_move z4) ?_
        refine L_pur (c := .int .i64 (o0)) rfl rfl (.yes2 rfl rfl z2) (fun _ _ hd => P_move z3) ?_
        refine L_pur (c := ePtr up1 o0 1) rfl rfl (.yes2 rfl rfl z2) (fun _ _ hd => P_indexAddr (α := Int) Try.underlying22 Try.sizeOf3 rfl j1 rfl zA) ?_
        refine L_ld (c := .int .i64 (n7)) rfl rfl (.yes2 rfl rfl z2) (fun _ _ h => h.ch) jE rfl ?_
        refine L_pur (c := up1) rfl rfl (.yes2 rfl rfl z2) (fun _ _ hd => P_move z4) ?_
        refine L_pur (c := .int .i64 (o0)) rfl rfl (.yes2 rfl rfl z2) (fun _ _ hd => P_move z3) ?_
        refine L_pur (c := .int .i64 ((w64 (o0 - (1 : Int))))) rfl rfl (.yes2 rfl rfl z2) (fun _ _ hd => P_int rfl rfl rfl) ?_
        refine L_pur (c := ePtr up1 (w64 (o0 - (1 : Int))) 1) rfl rfl (.yes2 rfl rfl z2) (fun _ _ hd => P_indexAddr (α := Int) Try.underlying22 Try.sizeOf3 rfl j1 rfl aB) ?_
        refine L_ld (c := .int .i64 (o7)) rfl rfl (.yes2 rfl rfl z2) (fun _ _ h => h.ch) kE rfl ?_
        refine L_pur (c := .bool ((decide (n7 ≤ o7)))) rfl rfl (.yes2 rfl rfl z2) (fun _ _ hd => P_int rfl rfl rfl) ?_
        refine L_pur (c := .bool ((decide (n7 ≤ o7)))) rfl rfl (.yes2 rfl rfl o3) (fun _ _ hd => P_pick (b := (decide (o0 > (0 : Int)))) rfl (pick_t z2 rfl)) ?_
        refine L_pur (c := .bool ((decide (n7 ≤ o7)))) rfl rfl .plain (fun _ _ hd => P_pick (b := (decide (p4 ≥ ((x0).length : Int)))) rfl (pick_f o3 rfl)) ?_
        refine L_nil fun kF cH hall => ?_
        have hs := hall.1
        have hfr := hfr.ext hs
        have u3 := u3.ext hs
        have j1 := j1.ext hs
        have d5 := d5.ext hs
        have i5 := i5.ext hs
        have l5 := l5.ext hs
        have o5 := o5.ext hs
        clear hs hall
        refine EL_nil ?_
        obtain rfl := sinj h
        exact hQ _ _ ⟨kF, hfr, b7, u3, z4, j1, v7, d5, i5, c8, l5, o5, z3, rfl⟩
       ·refine E_drawL (g := nA) (n := 30) [] [0, 1, 2, 3, 4, 5, 6, 7, 8, 9, 10, 11, 12, 13, 14, 15, 16, 17, 18, 19, 20, 21, 22, 23, 24, 25, 26, 27, 28, 29] rfl mixed (by kernel_rfl) trivial ?_
        refine L_pur (c := up1) rfl rfl .plain (fun _ _ hd => P_move z4) ?_
        refine L_pur (c := .int .i64 (o0)) rfl rfl .plain (fun _ _ hd => P_move z3) ?_
        refine L_pur (c := ePtr up1 o0 1) rfl rfl .plain (fun _ _ hd => P_indexAddr (α := Int) Try.underlying22 Try.sizeOf3 rfl j1 rfl g7) ?_
        refine L_ld (c := .int .i64 (m4)) rfl rfl .plain (fun _ _ h => h.ch) e8 rfl ?_
        refine L_pur (c := .bool ((decide (m4 < (0 : Int))))) rfl rfl .plain (fun _ _ hd => P_int rfl rfl rfl) ?_
        refine L_pur (c := .bool ((decide (m4 < (0 : Int))))) rfl rfl .plain (fun _ _ hd => P_move rfl) ?_
        refine L_pur (c := up1) rfl rfl (.yes2 rfl rfl u0) (fun _ _ hd => P_move z4) ?_
        refine L_pur (c := .int .i64 (o0)) rfl rfl (.yes2 rfl rfl u0) (fun _ _ hd => P_move z3) ?_
        refine L_pur (c := ePtr up1 o0 1) rfl rfl (.yes2 rfl rfl u0) (fun _ _ hd => P_indexAddr (α := Int) Try.underlying22 Try.sizeOf3 rfl j1 rfl g8) ?_
        refine L_ld (c := .int .i64 (p4)) rfl rfl (.yes2 rfl rfl u0) (fun _ _ h => h.ch) q8 rfl ?_
        refine L_pur (c := up0) rfl rfl (.yes2 rfl rfl u0) (fun _ _ hd => P_move b7) ?_
        refine L_pur (c := .int .i64 ((x0).length : Int)) rfl rfl (.yes2 rfl rfl u0) (fun _ _ hd => P_len Try.underlying25 rfl u3) ?_
        refine L_pur (c := .bool ((decide (p4 ≥ ((x0).length : Int))))) rfl rfl (.yes2 rfl rfl u0) (fun _ _ hd => P_int rfl rfl rfl) ?_
        refine L_pur (c := .bool ((decide (p4 ≥ ((x0).length : Int))))) rfl rfl .plain (fun _ _ hd => P_pick (b := (decide (m4 < (0 : Int)))) rfl (pick_f u0 rfl)) ?_
        refine L_pur (c := .bool ((decide (p4 ≥ ((x0).length : Int))))) rfl rfl .plain (fun _ _ hd => P_move rfl) ?_
        refine L_pur (c := .int .i64 (o0)) rfl rfl (.yes2 rfl rfl o3) (fun _ _ hd => P_move z3) ?_
        refine L_pur (c := .bool ((decide (o0 > (0 : Int))))) rfl rfl (.yes2 rfl rfl o3) (fun _ _ hd => P_int rfl rfl rfl) ?_
        refine L_pur (c := .bool ((decide (o0 > (0 : Int))))) rfl rfl (.yes2 rfl rfl o3) (fun _ _ hd => P_move rfl) ?_
        refine L_skip rfl (.no2 rfl rfl z2 rfl) ?_
        refine L_skip rfl (.no2 rfl rfl z2 rfl) ?_
        refine L_skip rfl (.no2 rfl rfl z2 rfl) ?_
        refine L_skip rfl (.no2 rfl rfl z2 rfl) ?_
        refine L_skip rfl (.no2 rfl rfl z2 rfl) ?_
        refine L_skip rfl (.no2 rfl rfl z2 rfl) ?_
        refine L_skip rfl (.no2 rfl rfl z2 rfl) ?_
        refine L_skip rfl (.no2 rfl rfl z2 rfl) ?_
        refine L_skip rfl (.no2 rfl rfl z2 rfl) ?_
        refine L_skip rfl (.no2 rfl rfl z2 rfl) ?_
        refine L_pur (c := .bool false) rfl rfl (.yes2 rfl rfl o3) (fun _ _ hd => P_pick (b := (decide (o0 > (0 : Int)))) rfl (pick_f z2 rfl)) ?_
        refine L_pur (c := .bool false) rfl rfl .plain (fun _ _ hd => P_pick (b := (decide (p4 ≥ ((x0).length : Int)))) rfl (pick_f o3 rfl)) ?_
        refine L_nil fun lF dH hall => ?_
        have hs := hall.1
        have hfr := hfr.ext hs
        have u3 := u3.ext hs
        have j1 := j1.ext hs
        have d5 := d5.ext hs
        have i5 := i5.ext hs
        have l5 := l5.ext hs
        have o5 := o5.ext hs
        clear hs hall
        refine EL_nil ?_
        obtain rfl := sinj h
        exact hQ _ _ ⟨lF, hfr, b7, u3, z4, j1, v7, d5, i5, c8, l5, o5, z3, rfl⟩
    ·clear hx
     obtain ⟨mF, hfr, oB, pB, qB, rB, sB, tB, uB, vB, xB, yB, zB, r8⟩ := hR
     rcases csome h with ⟨t8, h⟩ | ⟨t8, h⟩
     ·refine E_cond_true (Eq.trans (show ev _ _ = .bool (a7) from r8) (congrArg Value.bool t8)) ?_
      refine E_seq (E_region (EL_at (.slice none 0 0) rfl rfl ?_))
      refine EL_at (.slice none 0 0) rfl rfl ?_
      refine EL_at (.bool false) rfl rfl ?_
      refine EL_nil (thn_n (E_ret (blk_r ?_)))
      refine thn_r ?_
      refine thn_r ?_
      refine blk_r ?_
      refine thn_r ?_
      obtain rfl := sinj h
      exact end3 rfl rfl (show _ = .slice none 0 0 from rfl) (show _ = .slice none 0 0 from rfl) (show _ = .bool false from rfl) ⟨_, hfr, _, _, _, rfl, RV_nil, RV_nil, rfl⟩
     ·refine E_cond_false (Eq.trans (show ev _ _ = .bool (a7) from r8) (congrArg Value.bool t8)) ?_
      exact E_skip (blk_n (thn_n (uE (l6, v6) _ _ ⟨mF, (x6), (y6), hfr, oB, pB, qB, rB, sB, tB, uB, vB, xB, yB, zB⟩ h)))
   ·rintro ⟨i8, k8⟩ lG gH ⟨nF, aC, bC, hfr, cC, dC, eC, iC, jC, kC, lC, mC, nC, oC, qC⟩ h
    refine E_region (EL_mv qC rfl ?_)
    refine EL_in (.int .i64 ((w64 (o0 + (1 : Int))))) rfl rfl rfl rfl ?_
    refine EL_at (.int .i64 ((w64 (o0 + (1 : Int))))) rfl rfl ?_
    exact EL_nil (thn_n (sE (i8, k8, (w64 (o0 + (1 : Int)))) _ _ ⟨nF, (aC), (bC), hfr, cC, dC, eC, iC, jC, kC, lC, mC, nC, oC, rfl⟩ h))
 ·rintro ⟨z8, a9⟩ mG iH ⟨oF, rC, sC, hfr, tC, uC, vC, xC, yC, zC, aD, bD, cD, dD⟩ h
  refine E_seq (E_region (EL_at (.int .i64 (0)) rfl rfl ?_))
  refine EL_nil (thn_n ?_)
  obtain ⟨⟨j7, m7⟩, hx, h⟩ := bsome h
  refine E_join (fun e w => ∃ (g : Gh) (v4 v5 : Value), Fr gI wI g w ∧ e 4 = v4 ∧ RV g.m w (j7 : List LoomOrder) v4 ∧ OS 1004 g w 82 (j7 : List LoomOrder) v4 ∧ e 5 = v5 ∧ RV g.m w (m7 : List LoomOrder) v5 ∧ OS 1005 g w 82 (m7 : List LoomOrder) v5) (fun Q' hQ => ?_) (fun nG jH hR => ?_)
  ·replace h := hx
   clear hx
   refine E_seq (E_region (EL_at (.int .i64 (0)) rfl rfl ?_))
   refine EL_nil (thn_n (E_block ?_))
   refine E_lp h (fun (s : (List LoomOrder) × (List LoomOrder) × Int × Int) e w => ∃ (g : Gh) (v4 v5 : Value), Fr gI wI g w ∧ e 0 = up0 ∧ RV g.m w (x0 : List LoomOrder) up0 ∧ e 1 = up1 ∧ RV g.m w (x1 : List Int) up1 ∧ e 4 = v4 ∧ RV g.m w (s.1 : List LoomOrder) v4 ∧ OS 1004 g w 82 (s.1 : List LoomOrder) v4 ∧ e 5 = v5 ∧ RV g.m w (s.2.1 : List LoomOrder) v5 ∧ OS 1005 g w 82 (s.2.1 : List LoomOrder) v5 ∧ e 8 = .int .i64 (s.2.2.1) ∧ e 9 = .int .i64 (s.2.2.2)) ⟨oF, (rC), (sC), hfr, tC, uC, vC, xC, yC, zC, aD, bD, cD, dD, rfl, rfl⟩ (fun X1350 eB lE => ?_)
   rintro ⟨q5, t5, i3, d3⟩ oG kH ⟨lB, u5, x5, hfr, d9, e9, eD, gD, g9, i9, j9, k9, l9, n9, iD, o9⟩ h
   refine E_joinC h (fun (s : Unit) e w => ∃ (g : Gh) , Fr gI wI g w ∧ e 0 = up0 ∧ RV g.m w (x0 : List LoomOrder) up0 ∧ e 1 = up1 ∧ RV g.m w (x1 : List Int) up1 ∧ e 4 = u5 ∧ RV g.m w (q5 : List LoomOrder) u5 ∧ OS 1004 g w 82 (q5 : List LoomOrder) u5 ∧ e 5 = x5 ∧ RV g.m w (t5 : List LoomOrder) x5 ∧ OS 1005 g w 82 (t5 : List LoomOrder) x5 ∧ e 8 = .int .i64 (i3) ∧ e 9 = .int .i64 (d3)) (fun X1353 kB mE h => ?_) ?_
   ·refine E_seq (E_region (EL_mv o9 rfl ?_))
    refine EL_mv d9 rfl ?_
    refine EL_pur (v := .int .i64 ((x0).length : Int)) (P_len Try.underlying25 rfl e9) .plain rfl ?_
    refine EL_in (.bool ((decide (d3 < ((x0).length : Int))))) rfl rfl rfl rfl ?_
    refine EL_nil (thn_n ?_)
    rcases csome h with ⟨v8, h⟩ | ⟨v8, h⟩
    ·refine E_ct v8 rfl ?_
     exact E_skip (thn_n (mE () _ _ ⟨lB, hfr, d9, e9, eD, gD, g9, i9, j9, k9, l9, n9, iD, o9⟩ h))
    ·refine E_cf v8 rfl ?_
     refine E_exit ?_
     refine thn_e ?_
     refine thn_e ?_
     refine blk_hit ?_
     obtain ⟨rfl, rfl⟩ := pairs2 h
     exact hQ _ _ ⟨lB, (u5), (x5), hfr, g9, i9, j9, k9, l9, n9⟩
   ·rintro _ pG lH ⟨oA, hfr, p9, q9, p7, e7, r9, t9, u9, y9, z9, bA, q7, l8⟩ h
    obtain ⟨⟨c7, d7, i7⟩, hx, h⟩ := bsome h
    refine E_join (fun e w => ∃ (g : Gh) (v4 v5 : Value), Fr gI wI g w ∧ e 0 = up0 ∧ RV g.m w (x0 : List LoomOrder) up0 ∧ e 1 = up1 ∧ RV g.m w (x1 : List Int) up1 ∧ e 4 = v4 ∧ RV g.m w (c7 : List LoomOrder) v4 ∧ OS 1004 g w 82 (c7 : List LoomOrder) v4 ∧ e 5 = v5 ∧ RV g.m w (d7 : List LoomOrder) v5 ∧ OS 1005 g w 82 (d7 : List LoomOrder) v5 ∧ e 8 = .int .i64 (i7) ∧ e 9 = .int .i64 (d3)) (fun Q' hQ => ?_) (fun qG mH hR => ?_)
    ·replace h := hx
     clear hx
     refine E_block ?_
     obtain ⟨z6, hx, h⟩ := bsome h
     refine E_join (fun e w => ∃ (g : Gh) , Fr gI wI g w ∧ e 0 = up0 ∧ RV g.m w (x0 : List LoomOrder) up0 ∧ e 1 = up1 ∧ RV g.m w (x1 : List Int) up1 ∧ e 4 = u5 ∧ RV g.m w (q5 : List LoomOrder) u5 ∧ OS 1004 g w 82 (q5 : List LoomOrder) u5 ∧ e 5 = x5 ∧ RV g.m w (t5 : List LoomOrder) x5 ∧ OS 1005 g w 82 (t5 : List LoomOrder) x5 ∧ e 8 = .int .i64 (i3) ∧ e 9 = .int .i64 (d3) ∧ e 63 = .bool (z6)) (fun Q' hQ => ?_) (fun rG nH hR => ?_)
     ·replace h := hx
      clear hx
      refine E_region (EL_mv q7 rfl ?_)
      refine EL_mv p7 rfl ?_
      refine EL_pur (v := .int .i64 ((x1).length : Int)) (P_len Try.underlying22 rfl e7) .plain rfl ?_
      refine EL_in (.bool ((decide (i3 < ((x1).length : Int))))) rfl rfl rfl rfl ?_
      refine EL_mw (.bool ((decide (i3 < ((x1).length : Int))))) rfl rfl ?_
      rcases csome h with ⟨d4, h⟩ | ⟨d4, h⟩
      ·refine EL_pur (v := up1) (P_move p7) (.yes2 rfl rfl d4) rfl ?_
       refine EL_pur (v := .int .i64 (i3)) (P_move q7) (.yes2 rfl rfl d4) rfl ?_
       obtain ⟨m8, bB, h⟩ := bsome h
       refine EL_pur (v := ePtr up1 i3 1) (P_indexAddr (α := Int) Try.underlying22 Try.sizeOf3 rfl e7 rfl bB) (.yes2 rfl rfl d4) rfl ?_
       have pF := PT_idx e7 bB
       refine EL_do (.yes2 rfl rfl d4) rfl (D_load (g := oA) Try.isAgg3 Try.sizeOf3 rfl pF fun oH qF => ?_)
       obtain rfl := RV_int.1 qF
       refine EL_pur (v := .int .i64 (d3)) (P_move l8) (.yes2 rfl rfl d4) rfl ?_
       refine EL_pur (v := .bool ((m8 == d3))) (P_int rfl rfl rfl) (.yes2 rfl rfl d4) rfl ?_
       refine EL_pur (v := .bool ((m8 == d3))) (P_pick (b := (decide (i3 < ((x1).length : Int)))) rfl (pick_t d4 rfl)) .plain rfl ?_
       refine EL_nil ?_
       obtain rfl := sinj h
       exact hQ _ _ ⟨oA, hfr, p9, q9, p7, e7, r9, t9, u9, y9, z9, bA, q7, l8, rfl⟩
      ·refine EL_skip (.no2 rfl rfl d4 rfl) rfl ?_
       refine EL_skip (.no2 rfl rfl d4 rfl) rfl ?_
       refine EL_skip (.no2 rfl rfl d4 rfl) rfl ?_
       refine EL_skip (.no2 rfl rfl d4 rfl) rfl ?_
       refine EL_skip (.no2 rfl rfl d4 rfl) rfl ?_
       refine EL_skip (.no2 rfl rfl d4 rfl) rfl ?_
       refine EL_pur (v := .bool false) (P_pick (b := (decide (i3 < ((x1).length : Int)))) rfl (pick_f d4 rfl)) .plain rfl ?_
       refine EL_nil ?_
       obtain rfl := sinj h
       exact hQ _ _ ⟨oA, hfr, p9, q9, p7, e7, r9, t9, u9, y9, z9, bA, q7, l8, rfl⟩
     ·clear hx
      obtain ⟨n8, hfr, t7, j3, cA, p5, dA, c6, d6, eA, i6, j6, gA, u7, x8⟩ := hR
      rcases csome h with ⟨y8, h⟩ | ⟨y8, h⟩
      ·refine E_cond_true (Eq.trans (show ev _ _ = .bool (z6) from x8) (congrArg Value.bool y8)) ?_
       refine E_seq (E_region (EL_mv gA rfl ?_))
       refine EL_in (.int .i64 ((w64 (i3 + (1 : Int))))) rfl rfl rfl rfl ?_
       refine EL_at (.int .i64 ((w64 (i3 + (1 : Int))))) rfl rfl ?_
       refine EL_nil (thn_n (E_region (EL_mv eA rfl ?_)))
       refine EL_mv t7 rfl ?_
       refine EL_mv u7 rfl ?_
       obtain ⟨kA, cB, h⟩ := bsome h
       refine EL_pur (v := ePtr up0 d3 5) (P_indexAddr (α := LoomOrder) Try.underlying25 Try.sizeOf82 rfl j3 rfl cB) .plain rfl ?_
       have rF := PT_idx j3 cB
       refine EL_do .plain rfl (D_load (g := n8) Try.isAgg82 Try.sizeOf82 rfl rF fun sF tF => ?_)
       refine EL_do .plain rfl (D_buildSlice (g := n8) 3071 (xs := ([kA] : List LoomOrder)) (vs := [sF]) Try.underlying25 Try.sizeOf82 Try.zeroValue82 rfl rfl (.cons rfl .nil) (RVs.cons tF RVs.nil) rfl rfl fun uF pH qH hs o1391 vF hxt hfl => ?_)
       have hfr := hfr.stp hs
       have j3 := j3.stp hs
       have p5 := p5.stp hs
       have c6 := c6.stp hs
       have d6 := d6.stp hs rfl
       have i6 := i6.stp hs
       have j6 := j6.stp hs rfl
       obtain ⟨iB, nE, h⟩ := bsome h
       refine EL_do .plain rfl (D_append (g := uF) (i := 1005) Try.underlying25 info_82 rfl rfl j6 i6 rfl vF nE fun xF sH mB hs o1392 yF _ => ?_)
       have hfr := hfr.stp hs
       have j3 := j3.stp hs
       have p5 := p5.stp hs
       have c6 := c6.stp hs
       have d6 := d6.stp hs rfl
       refine EL_at mB rfl rfl ?_
       refine EL_nil (blk_n ?_)
       obtain ⟨rfl, rfl, rfl⟩ := pairs3 h
       exact hQ _ _ ⟨xF, (u5), (mB), hfr, t7, j3, cA, p5, dA, c6, d6, rfl, yF, o1392, rfl, u7⟩
      ·refine E_cond_false (Eq.trans (show ev _ _ = .bool (z6) from x8) (congrArg Value.bool y8)) ?_
       refine E_region (EL_mv dA rfl ?_)
       refine EL_mv t7 rfl ?_
       refine EL_mv u7 rfl ?_
       obtain ⟨lA, dB, h⟩ := bsome h
       refine EL_pur (v := ePtr up0 d3 5) (P_indexAddr (α := LoomOrder) Try.underlying25 Try.sizeOf82 rfl j3 rfl dB) .plain rfl ?_
       have zF := PT_idx j3 dB
       refine EL_do .plain rfl (D_load (g := n8) Try.isAgg82 Try.sizeOf82 rfl zF fun aG bG => ?_)
       refine EL_do .plain rfl (D_buildSlice (g := n8) 3078 (xs := ([lA] : List LoomOrder)) (vs := [aG]) Try.underlying25 Try.sizeOf82 Try.zeroValue82 rfl rfl (.cons rfl .nil) (RVs.cons bG RVs.nil) rfl rfl fun cG tH uH hs o1397 dG hxt hfl => ?_)
       have hfr := hfr.stp hs
       have j3 := j3.stp hs
       have p5 := p5.stp hs
       have c6 := c6.stp hs
       have d6 := d6.stp hs rfl
       have i6 := i6.stp hs
       have j6 := j6.stp hs rfl
       obtain ⟨jB, oE, h⟩ := bsome h
       refine EL_do .plain rfl (D_append (g := cG) (i := 1004) Try.underlying25 info_82 rfl rfl d6 c6 rfl dG oE fun eG vH nB hs o1398 gG _ => ?_)
       have hfr := hfr.stp hs
       have j3 := j3.stp hs
       have p5 := p5.stp hs
       have i6 := i6.stp hs
       have j6 := j6.stp hs rfl
       refine EL_at nB rfl rfl ?_
       refine EL_nil (blk_n ?_)
       obtain ⟨rfl, rfl, rfl⟩ := pairs3 h
       exact hQ _ _ ⟨eG, (nB), (x5), hfr, t7, j3, cA, p5, rfl, gG, o1398, eA, i6, j6, gA, u7⟩
    ·clear hx
     obtain ⟨hG, jD, kD, hfr, lD, mD, nD, oD, pD, qD, rD, sD, tD, uD, vD, xD⟩ := hR
     refine E_region (EL_mv xD rfl ?_)
     refine EL_in (.int .i64 ((w64 (d3 + (1 : Int))))) rfl rfl rfl rfl ?_
     refine EL_at (.int .i64 ((w64 (d3 + (1 : Int))))) rfl rfl ?_
     exact EL_nil (thn_n (lE (c7, d7, i7, (w64 (d3 + (1 : Int)))) _ _ ⟨hG, (jD), (kD), hfr, lD, mD, nD, oD, pD, qD, rD, sD, tD, uD, vD, rfl⟩ h))
  ·clear hx
   obtain ⟨xH, iA, jA, hfr, yD, zD, iG, aE, bE, jG⟩ := hR
   refine E_seq (E_region (EL_mv yD rfl ?_))
   refine EL_mv aE rfl ?_
   refine EL_at iA rfl rfl ?_
   refine EL_at jA rfl rfl ?_
   refine EL_at (.bool true) rfl rfl ?_
   refine EL_nil (thn_n (E_ret ?_))
   obtain rfl := sinj h
   exact end3 rfl rfl (show _ = iA from rfl) (show _ = jA from rfl) (show _ = .bool true from rfl) ⟨_, hfr, _, _, _, rfl, zD, bE, rfl⟩
def f46 (x0 : Int) (x1 : Int) (x2 : Int) : Option (LoomRun) :=
 some ((⟨x0, x1, x2⟩ : LoomRun))
theorem en46 : Enters Try.prog 46 := enters_of Try.func46 (by kernel_rfl) rfl
theorem wk46 {gI : Gh} {wI : World} {x0 : Int} {x1 : Int} {x2 : Int}  {r : LoomRun} (h : f46 x0 x1 x2 = some r) : Fn Try.prog 46 #[.int .i64 (x0), .int .i64 (x1), .int .i64 (x2)] gI wI (fun m w v => RV m w (r) v) := by
 unfold f46 at h
 refine fn_of_E Try.func46 rfl (Nat.le_of_ble_eq_true rfl) fun g0 hm hfr => ?_
 show E _ 11 none _ _ _ _ _
 refine E_seq (E_region (EL_do .plain rfl (D_allocOc (g := g0) 2006 (⟨0, 0, 0⟩ : LoomRun) Try.zeroValue76 (fun m w => ⟨_, (rep_two rep_int (rep_two rep_int rep_int)), rfl⟩) fun g1 w1 p1 hs b1 cb => ?_)))
 have hfr := hfr.stp hs
 clear cb
 refine EL_nil (thn_n (E_seq (E_region (EL_mw (.int .i64 (x0)) rfl rfl ?_))))
 refine EL_mw (.int .i64 (x1)) rfl rfl ?_
 refine EL_mw (.int .i64 (x2)) rfl rfl ?_
 have r2 : RV g1.m w1 (⟨x0, x1, x2⟩ : LoomRun) (.agg (setCh [[.int .i64 0], [.int .i64 0], [.int .i64 0]] [(0, .int .i64 (x0)), (1, .int .i64 (x1)), (2, .int .i64 (x2))]).flatten.toArray) := RV_build rfl (rep_pair (rfl) (rep_pair (rfl) (rep_last (rfl))))
 generalize hv2 : (Value.agg (setCh [[.int .i64 0], [.int .i64 0], [.int .i64 0]] [(0, .int .i64 (x0)), (1, .int .i64 (x1)), (2, .int .i64 (x2))]).flatten.toArray) = v2 at r2
 refine EL_pur (v := v2) (hv2 ▸ P_build (vs := [(0, .int .i64 (x0)), (1, .int .i64 (x1)), (2, .int .i64 (x2))]) [[.int .i64 0], [.int .i64 0], [.int .i64 0]] lay_76 rfl rfl (.cons rfl (.cons rfl (.cons rfl .nil))) ⟨⟨_, rfl, rfl⟩, ⟨⟨_, rfl, rfl⟩, ⟨⟨_, rfl, rfl⟩, trivial⟩⟩⟩) .plain rfl ?_
 refine EL_do .plain rfl (D_storeOc (g := g1) (v := v2) Try.sizeOf76 rfl b1 rfl r2 fun g3 w3 hs b3 cb => ?_)
 clear cb
 have hfr := hfr.stp hs
 refine EL_nil (thn_n (E_ret ?_))
 obtain rfl := sinj h
 obtain ⟨ad4, cv4, hp4, o0, cr4⟩ := ob_read Try.isAgg76 Try.sizeOf76 b3
 exact endm_c rfl rfl ((show _ = p1 from rfl).trans hp4) o0 ⟨_, hfr, cr4⟩
def f47  : Option (LoomMill) :=
 some ((⟨([(10 : Int), (20 : Int)] : List Int), (2 : Int)⟩ : LoomMill))
theorem en47 : Enters Try.prog 47 := enters_of Try.func47 (by kernel_rfl) rfl
theorem wk47 {gI : Gh} {wI : World}   {r : LoomMill} (h : f47  = some r) : Fn Try.prog 47 #[] gI wI (fun m w v => RV m w (r) v) := by
 unfold f47 at h
 refine fn_of_E Try.func47 rfl (Nat.le_of_ble_eq_true rfl) fun g0 hm hfr => ?_
 show E _ 3 none _ _ _ _ _
 refine E_seq (E_region (EL_do .plain rfl (D_allocOc (g := g0) 2000 (⟨[], 0⟩ : LoomMill) Try.zeroValue24 (fun m w => ⟨_, (rep_two rep_nil rep_int), rfl⟩) fun g1 w1 p1 hs b1 cb => ?_)))
 have hfr := hfr.stp hs
 have u0 : OSF 2000 60000 0 g1 w1 3 24 ([] : List Int) p1 := cb.osf (by rfl)
 clear cb
 refine EL_nil (thn_n (E_seq (E_region (EL_do .plain rfl (D_buildSlice (g := g1) 3001 (xs := ([(10 : Int), (20 : Int)] : List Int)) (vs := [.int .i64 (10), .int .i64 (20)]) Try.underlying22 Try.sizeOf3 Try.zeroValue3 rfl rfl (.cons rfl (.cons rfl .nil)) (RVs.cons (RV_int.2 rfl) (RVs.cons (RV_int.2 rfl) RVs.nil)) rfl rfl fun g2 w2 v2 hs o2 r2 hxt hfl => ?_)))))
 have hfr := hfr.stp hs
 have b1 := b1.stp hs rfl
 have r3 : RV g2.m _ (⟨([(10 : Int), (20 : Int)] : List Int), (2 : Int)⟩ : LoomMill) (.agg (setCh [[.slice none 0 0], [.int .i64 0]] [(0, v2), (1, .int .i64 (2))]).flatten.toArray) := RV_build rfl (rep_pair (RV.cells r2) (rep_last (rfl)))
 generalize hv3 : (Value.agg (setCh [[.slice none 0 0], [.int .i64 0]] [(0, v2), (1, .int .i64 (2))]).flatten.toArray) = v3 at r3
 refine EL_pur (v := v3) (hv3 ▸ P_build (vs := [(0, v2), (1, .int .i64 (2))]) [[.slice none 0 0], [.int .i64 0]] lay_24 rfl rfl (.cons rfl (.cons rfl .nil)) ⟨⟨_, rfl, cells_size r2⟩, ⟨⟨_, rfl, rfl⟩, trivial⟩⟩) .plain rfl ?_
 refine EL_do .plain rfl (D_storeOc (g := g2) (v := v3) Try.sizeOf24 rfl b1 rfl r3 fun g4 w4 hs b4 cb => ?_)
 clear cb
 have hfr := hfr.stp hs
 refine EL_nil (thn_n (E_ret ?_))
 obtain rfl := sinj h
 obtain ⟨ad5, cv5, hp5, o0, cr5⟩ := ob_read Try.isAgg24 Try.sizeOf24 b4
 exact endm_c rfl rfl ((show _ = p1 from rfl).trans hp5) o0 ⟨_, hfr, cr5⟩
def f48 (x0 : Int) (x1 : Int) : Option ((List LoomOrder)) :=
 some (([(⟨(5 : Int), (1 : Int), (10 : Int), 0, (20 : Int)⟩ : LoomOrder), (⟨(15 : Int), (2 : Int), (12 : Int), 0, (20 : Int)⟩ : LoomOrder), (⟨(5 : Int), x0, x1, 0, (20 : Int)⟩ : LoomOrder)] : List LoomOrder))
theorem en48 : Enters Try.prog 48 := enters_of Try.func48 (by kernel_rfl) rfl
theorem wk48 {gI : Gh} {wI : World} {x0 : Int} {x1 : Int}  {r : (List LoomOrder)} (h : f48 x0 x1 = some r) : Fn Try.prog 48 #[.int .i64 (x0), .int .i64 (x1)] gI wI (fun m w v => RV m w (r) v) := by
 unfold f48 at h
 refine fn_of_E Try.func48 rfl (Nat.le_of_ble_eq_true rfl) fun g0 hm hfr => ?_
 show E _ 11 none _ _ _ _ _
 refine E_seq (E_region (EL_at (.slice none 0 0) rfl rfl ?_))
 refine EL_nil (thn_n (E_seq (E_region ?_)))
 have r1 : RV g0.m wI (⟨(5 : Int), (1 : Int), (10 : Int), 0, (20 : Int)⟩ : LoomOrder) (.agg (setCh [[.int .i64 0], [.int .i64 0], [.int .i64 0], [.int .i64 0], [.int .i64 0]] [(0, .int .i64 (5)), (1, .int .i64 (1)), (2, .int .i64 (10)), (4, .int .i64 (20))]).flatten.toArray) := RV_build rfl (rep_pair (rfl) (rep_pair (rfl) (rep_pair (rfl) (rep_pair (rep_int) (rep_last (rfl))))))
 generalize hv1 : (Value.agg (setCh [[.int .i64 0], [.int .i64 0], [.int .i64 0], [.int .i64 0], [.int .i64 0]] [(0, .int .i64 (5)), (1, .int .i64 (1)), (2, .int .i64 (10)), (4, .int .i64 (20))]).flatten.toArray) = v1 at r1
 refine EL_pur (v := v1) (hv1 ▸ P_build (vs := [(0, .int .i64 (5)), (1, .int .i64 (1)), (2, .int .i64 (10)), (4, .int .i64 (20))]) [[.int .i64 0], [.int .i64 0], [.int .i64 0], [.int .i64 0], [.int .i64 0]] lay_82 rfl rfl (.cons rfl (.cons rfl (.cons rfl (.cons rfl .nil)))) ⟨⟨_, rfl, rfl⟩, ⟨⟨_, rfl, rfl⟩, ⟨⟨_, rfl, rfl⟩, ⟨⟨_, rfl, rfl⟩, trivial⟩⟩⟩⟩) .plain rfl ?_
 have r2 : RV g0.m wI (⟨(15 : Int), (2 : Int), (12 : Int), 0, (20 : Int)⟩ : LoomOrder) (.agg (setCh [[.int .i64 0], [.int .i64 0], [.int .i64 0], [.int .i64 0], [.int .i64 0]] [(0, .int .i64 (15)), (1, .int .i64 (2)), (2, .int .i64 (12)), (4, .int .i64 (20))]).flatten.toArray) := RV_build rfl (rep_pair (rfl) (rep_pair (rfl) (rep_pair (rfl) (rep_pair (rep_int) (rep_last (rfl))))))
 generalize hv2 : (Value.agg (setCh [[.int .i64 0], [.int .i64 0], [.int .i64 0], [.int .i64 0], [.int .i64 0]] [(0, .int .i64 (15)), (1, .int .i64 (2)), (2, .int .i64 (12)), (4, .int .i64 (20))]).flatten.toArray) = v2 at r2
 refine EL_pur (v := v2) (hv2 ▸ P_build (vs := [(0, .int .i64 (15)), (1, .int .i64 (2)), (2, .int .i64 (12)), (4, .int .i64 (20))]) [[.int .i64 0], [.int .i64 0], [.int .i64 0], [.int .i64 0], [.int .i64 0]] lay_82 rfl rfl (.cons rfl (.cons rfl (.cons rfl (.cons rfl .nil)))) ⟨⟨_, rfl, rfl⟩, ⟨⟨_, rfl, rfl⟩, ⟨⟨_, rfl, rfl⟩, ⟨⟨_, rfl, rfl⟩, trivial⟩⟩⟩⟩) .plain rfl ?_
 refine EL_mw (.int .i64 (x0)) rfl rfl ?_
 refine EL_mw (.int .i64 (x1)) rfl rfl ?_
 have r3 : RV g0.m wI (⟨(5 : Int), x0, x1, 0, (20 : Int)⟩ : LoomOrder) (.agg (setCh [[.int .i64 0], [.int .i64 0], [.int .i64 0], [.int .i64 0], [.int .i64 0]] [(0, .int .i64 (5)), (1, .int .i64 (x0)), (2, .int .i64 (x1)), (4, .int .i64 (20))]).flatten.toArray) := RV_build rfl (rep_pair (rfl) (rep_pair (rfl) (rep_pair (rfl) (rep_pair (rep_int) (rep_last (rfl))))))
 generalize hv3 : (Value.agg (setCh [[.int .i64 0], [.int .i64 0], [.int .i64 0], [.int .i64 0], [.int .i64 0]] [(0, .int .i64 (5)), (1, .int .i64 (x0)), (2, .int .i64 (x1)), (4, .int .i64 (20))]).flatten.toArray) = v3 at r3
 refine EL_pur (v := v3) (hv3 ▸ P_build (vs := [(0, .int .i64 (5)), (1, .int .i64 (x0)), (2, .int .i64 (x1)), (4, .int .i64 (20))]) [[.int .i64 0], [.int .i64 0], [.int .i64 0], [.int .i64 0], [.int .i64 0]] lay_82 rfl rfl (.cons rfl (.cons rfl (.cons rfl (.cons rfl .nil)))) ⟨⟨_, rfl, rfl⟩, ⟨⟨_, rfl, rfl⟩, ⟨⟨_, rfl, rfl⟩, ⟨⟨_, rfl, rfl⟩, trivial⟩⟩⟩⟩) .plain rfl ?_
 refine EL_do .plain rfl (D_buildSlice (g := g0) 3010 (xs := ([(⟨(5 : Int), (1 : Int), (10 : Int), 0, (20 : Int)⟩ : LoomOrder), (⟨(15 : Int), (2 : Int), (12 : Int), 0, (20 : Int)⟩ : LoomOrder), (⟨(5 : Int), x0, x1, 0, (20 : Int)⟩ : LoomOrder)] : List LoomOrder)) (vs := [v1, v2, v3]) Try.underlying25 Try.sizeOf82 Try.zeroValue82 rfl rfl (.cons rfl (.cons rfl (.cons rfl .nil))) (RVs.cons r1 (RVs.cons r2 (RVs.cons r3 RVs.nil))) rfl rfl fun g4 w4 v4 hs o4 r4 hxt hfl => ?_)
 have hfr := hfr.stp hs
 refine EL_at v4 rfl rfl ?_
 refine EL_nil (thn_n (E_ret ?_))
 obtain rfl := sinj h
 exact end1 rfl rfl (show _ = v4 from rfl) ⟨_, hfr, r4⟩
def f49 (x0 : Int) (x1 : Int) : Option (LoomStop) :=
 some ((⟨0, (⟨x0, x1⟩ : Span)⟩ : LoomStop))
theorem en49 : Enters Try.prog 49 := enters_of Try.func49 (by kernel_rfl) rfl
theorem wk49 {gI : Gh} {wI : World} {x0 : Int} {x1 : Int}  {r : LoomStop} (h : f49 x0 x1 = some r) : Fn Try.prog 49 #[.int .i64 (x0), .int .i64 (x1)] gI wI (fun m w v => RV m w (r) v) := by
 unfold f49 at h
 refine fn_of_E Try.func49 rfl (Nat.le_of_ble_eq_true rfl) fun g0 hm hfr => ?_
 show E _ 9 none _ _ _ _ _
 refine E_seq (E_region (EL_do .plain rfl (D_allocOc (g := g0) 2004 (⟨0, ⟨0, 0⟩⟩ : LoomStop) Try.zeroValue54 (fun m w => ⟨_, (rep_two rep_int (rep_two rep_int rep_int)), rfl⟩) fun g1 w1 p1 hs b1 cb => ?_)))
 have hfr := hfr.stp hs
 clear cb
 refine EL_nil (thn_n (E_seq (E_region (EL_mw (.int .i64 (x0)) rfl rfl ?_))))
 refine EL_mw (.int .i64 (x1)) rfl rfl ?_
 have r2 : RV g1.m w1 (⟨x0, x1⟩ : Span) (.agg (setCh [[.int .i64 0], [.int .i64 0]] [(0, .int .i64 (x0)), (1, .int .i64 (x1))]).flatten.toArray) := RV_build rfl (rep_pair (rfl) (rep_last (rfl)))
 generalize hv2 : (Value.agg (setCh [[.int .i64 0], [.int .i64 0]] [(0, .int .i64 (x0)), (1, .int .i64 (x1))]).flatten.toArray) = v2 at r2
 refine EL_pur (v := v2) (hv2 ▸ P_build (vs := [(0, .int .i64 (x0)), (1, .int .i64 (x1))]) [[.int .i64 0], [.int .i64 0]] lay_48 rfl rfl (.cons rfl (.cons rfl .nil)) ⟨⟨_, rfl, rfl⟩, ⟨⟨_, rfl, rfl⟩, trivial⟩⟩) .plain rfl ?_
 have r3 : RV g1.m _ (⟨0, (⟨x0, x1⟩ : Span)⟩ : LoomStop) (.agg (setCh [[.int .i64 0], [.int .i64 0, .int .i64 0]] [(1, v2)]).flatten.toArray) := RV_build rfl (rep_pair (rep_int) (rep_last (RV.cells r2)))
 generalize hv3 : (Value.agg (setCh [[.int .i64 0], [.int .i64 0, .int .i64 0]] [(1, v2)]).flatten.toArray) = v3 at r3
 refine EL_pur (v := v3) (hv3 ▸ P_build (vs := [(1, v2)]) [[.int .i64 0], [.int .i64 0, .int .i64 0]] lay_54 rfl rfl (.cons rfl .nil) ⟨⟨_, rfl, cells_size r2⟩, trivial⟩) .plain rfl ?_
 refine EL_do .plain rfl (D_storeOc (g := g1) (v := v3) Try.sizeOf54 rfl b1 rfl r3 fun g4 w4 hs b4 cb => ?_)
 clear cb
 have hfr := hfr.stp hs
 refine EL_nil (thn_n (E_ret ?_))
 obtain rfl := sinj h
 obtain ⟨ad5, cv5, hp5, o0, cr5⟩ := ob_read Try.isAgg54 Try.sizeOf54 b4
 exact endm_c rfl rfl ((show _ = p1 from rfl).trans hp5) o0 ⟨_, hfr, cr5⟩
def f53 (x0 : LoomLoomMill) : Option (Int) :=
 (shl64 (1 : Int) (((x0).orders).length : Int)).bind fun y4 =>
 some ((w64 (y4 - (1 : Int))))
theorem en53 : Enters Try.prog 53 := enters_of Try.func53 (by kernel_rfl) rfl
theorem wk53 {gI : Gh} {wI : World} {x0 : LoomLoomMill} {up0 : Value} (rp0 : RV gI.m wI x0 up0) {r : Int} (h : f53 x0 = some r) : Fn Try.prog 53 #[up0] gI wI (fun _ _ v => v = .int .i64 (r)) := by
 unfold f53 at h
 refine fn_of_E Try.func53 rfl (Nat.le_of_ble_eq_true rfl) fun g0 hm hfr => ?_
 have rp0 : RV g0.m wI x0 up0 := hm ▸ rp0
 show E _ 8 none _ _ _ _ _
 refine E_seq (E_region (EL_do .plain rfl (D_box (g := g0) rfl rp0 fun g1 w1 p1 hs q1 => ?_)))
 have hfr := hfr.ext hs
 refine EL_at (.int .i64 (0)) rfl rfl ?_
 refine EL_nil (thn_n (E_seq (E_region (EL_pur (v := fPtr p1 2) (P_fieldAddr at_96_1 rfl (PT.ptr q1)) .plain rfl ?_))))
 have q2 := PT_field (part_LoomLoomMill_1).1 q1
 refine EL_do .plain rfl (D_load (g := g1) Try.isAgg25 Try.sizeOf25 rfl q2 fun v3 r3 => ?_)
 refine EL_pur (v := .int .i64 (((x0).orders).length : Int)) (P_len Try.underlying25 rfl r3) .plain rfl ?_
 obtain ⟨y4, o0, h⟩ := bsome h
 refine EL_pur (v := .int .i64 (y4)) (P_int rfl rfl (congrArg (Option.map (Value.int .i64)) o0)) .plain rfl ?_
 refine EL_in (.int .i64 ((w64 (y4 - (1 : Int))))) rfl rfl rfl rfl ?_
 refine EL_at (.int .i64 ((w64 (y4 - (1 : Int))))) rfl rfl ?_
 refine EL_nil (thn_n (E_ret ?_))
 obtain rfl := sinj h
 exact end1 rfl rfl (show _ = .int .i64 ((w64 (y4 - (1 : Int)))) from rfl) ⟨_, hfr, rfl⟩
def f56 (x0 : Int) (z0 : List Bool) : Option (Bool) :=
 (idx z0 x0).bind fun y2 =>
 some ((!y2))
theorem en56 : Enters Try.prog 56 := enters_of Try.func56 (by kernel_rfl) rfl
theorem wk56 {gI : Gh} {wI : World} {x0 : Int} {z0 : List Bool} {pf0 : Value} (qf0 : PT gI.m wI z0 pf0) {r : Bool} (h : f56 x0 z0 = some r) : Fn Try.prog 56 #[.int .i64 (x0), pf0] gI wI (fun _ _ v => v = .bool (r)) := by
 unfold f56 at h
 refine fn_of_E Try.func56 rfl (Nat.le_of_ble_eq_true rfl) fun g0 hm hfr => ?_
 have qf0 : PT g0.m wI z0 pf0 := hm ▸ qf0
 show E _ 9 none _ _ _ _ _
 refine E_seq (E_region (EL_at (.bool false) rfl rfl ?_))
 refine EL_nil (thn_n (E_seq (E_region (EL_do .plain rfl (D_load (g := g0) Try.isAgg101 Try.sizeOf101 rfl qf0 fun v1 r1 => ?_)))))
 refine EL_mw (.int .i64 (x0)) rfl rfl ?_
 obtain ⟨y2, hy2, h⟩ := bsome h
 refine EL_pur (v := ePtr v1 x0 1) (P_indexAddr (α := Bool) Try.underlying101 Try.sizeOf4 rfl r1 rfl hy2) .plain rfl ?_
 have q3 := PT_idx r1 hy2
 refine EL_do .plain rfl (D_load (g := g0) Try.isAgg4 Try.sizeOf4 rfl q3 fun v4 r4 => ?_)
 obtain rfl := RV_bool.1 r4
 refine EL_pur (v := .bool (!y2)) (P_not rfl) .plain rfl ?_
 refine EL_at (.bool (!y2)) rfl rfl ?_
 refine EL_nil (thn_n (E_ret ?_))
 obtain rfl := sinj h
 exact end1 rfl rfl (show _ = .bool (!y2) from rfl) ⟨_, hfr, rfl⟩
def f57 (x0 : Int) (z0 : List Bool) (z1 : LoomLoomMill) : Option (Bool) :=
 (f53 z1).bind fun y4 =>
 (idx z0 (bit64 .andNot y4 x0)).bind fun y5 =>
 some (y5)
theorem en57 : Enters Try.prog 57 := enters_of Try.func57 (by kernel_rfl) rfl
theorem wk57 {gI : Gh} {wI : World} {x0 : Int} {z0 : List Bool} {z1 : LoomLoomMill} {pf0 : Value} (qf0 : PT gI.m wI z0 pf0) {pf1 : Value} (qf1 : PT gI.m wI z1 pf1) {r : Bool} (h : f57 x0 z0 z1 = some r) : Fn Try.prog 57 #[.int .i64 (x0), pf0, pf1] gI wI (fun _ _ v => v = .bool (r)) := by
 unfold f57 at h
 refine fn_of_E Try.func57 rfl (Nat.le_of_ble_eq_true rfl) fun g0 hm hfr => ?_
 have qf0 : PT g0.m wI z0 pf0 := hm ▸ qf0
 have qf1 : PT g0.m wI z1 pf1 := hm ▸ qf1
 show E _ 12 none _ _ _ _ _
 refine E_seq (E_region (EL_at (.bool false) rfl rfl ?_))
 refine EL_nil (thn_n (E_seq (L_load (x := .tmp 1) Try.isAgg101 Try.sizeOf101 qf0 fun v1 r1 hl1 => ?_)))
 refine L_load (x := .tmp 2) Try.isAgg96 Try.sizeOf96 qf1 fun v2 r2 hl2 => ?_
 obtain ⟨y4, o0, h⟩ := bsome h
 obtain ⟨y5, hy5, h⟩ := bsome h
 have q6 := PT_idx r1 hy5
 refine L_load (x := .tmp 10) Try.isAgg4 Try.sizeOf4 q6 fun v7 r7 hl7 => ?_
 obtain rfl := RV_bool.1 r7
 refine E_drawL (g := g0) (n := 8) [(2, (fun v g w => v = .int .i64 (y4)))] [0, 1, 2, 3, 4, 5, 6, 7] rfl mixed (by kernel_rfl) (⟨fun _ => up_eq _, trivial⟩) ?_
 refine L_ld (c := v1) rfl rfl .plain (fun _ _ h => h.ch) hl1 rfl ?_
 refine L_ld (c := v2) rfl rfl .plain (fun _ _ h => h.ch) hl2 rfl ?_
 refine L_do (φ := fun v g w => v = .int .i64 (y4)) rfl rfl .plain (fun g w hd => D_call (g := g) (vs := [v2]) en53 (.cons rfl .nil) (wk53 (r2.ext hd.1) o0) fun g' w' v hs hr => ⟨g', hs, hr⟩) (fun v3 hv => ?_)
 obtain ⟨_, _, _, rfl⟩ := hv
 refine L_pur (c := .int .i64 (x0)) rfl rfl .plain (fun _ _ hd => P_move rfl) ?_
 refine L_pur (c := .int .i64 ((bit64 .andNot y4 x0))) rfl rfl .plain (fun _ _ hd => P_int rfl rfl rfl) ?_
 refine L_pur (c := ePtr v1 (bit64 .andNot y4 x0) 1) rfl rfl .plain (fun _ _ hd => P_indexAddr (α := Bool) Try.underlying101 Try.sizeOf4 rfl r1 rfl hy5) ?_
 refine L_ld (c := .bool (y5)) rfl rfl .plain (fun _ _ h => h.ch) hl7 rfl ?_
 refine L_pur (c := .bool (y5)) rfl rfl .plain (fun _ _ hd => P_assign rfl) ?_
 refine L_nil fun g8 w8 hall => ?_
 have hs := hall.1
 have hfr := hfr.ext hs
 clear hs hall
 refine EL_nil (thn_n (E_ret ?_))
 obtain rfl := sinj h
 exact end1 rfl rfl (show _ = .bool (y5) from rfl) ⟨_, hfr, rfl⟩
def f59 (x0 : Int) : Option ((List Int)) :=
 Option.bind (α := (List Int)) (
  lp (σ := (List Int) × Int) (fun v6 (u0, o0) =>
   jn (σ := Unit) (fun (_ : Unit) =>
    Option.bind (α := (List Int)) (
     (shr64 x0 o0).bind fun z3 =>
     bif ((bit64 .and z3 (1 : Int)) == (1 : Int)) then
      (apnd 8 u0 (([o0] : List Int))).bind fun x6 =>
      some (x6)
     else
      some (u0)
     ) fun j1 =>
    v6 (j1, (w64 (o0 + (1 : Int))))
    ) fun y6 =>
   (shr64 x0 o0).bind fun p4 =>
   bif (decide (p4 > (0 : Int))) then
    y6 ()
   else
    some (u0)
   ) big ([], (0 : Int))
  ) fun d3 =>
 some (d3)
theorem en59 : Enters Try.prog 59 := enters_of Try.func59 (by kernel_rfl) rfl
theorem wk59 {gI : Gh} {wI : World} {x0 : Int}  {r : (List Int)} (h : f59 x0 = some r) : Fn Try.prog 59 #[.int .i64 (x0)] gI wI (fun m w v => RV m w (r) v) := by
 unfold f59 at h
 refine fn_of_E Try.func59 rfl (Nat.le_of_ble_eq_true rfl) fun g0 hm hfr => ?_
 show E _ 20 none _ _ _ _ _
 refine E_seq (E_region (EL_at (.slice none 0 0) rfl rfl ?_))
 refine EL_nil (thn_n ?_)
 obtain ⟨d3, hx, h⟩ := bsome h
 refine E_join (fun e w => ∃ (g : Gh) (v2 : Value), Fr gI wI g w ∧ e 2 = v2 ∧ RV g.m w (d3 : List Int) v2 ∧ OS 1002 g w 3 (d3 : List Int) v2) (fun Q' hQ => ?_) (fun t7 e8 hR => ?_)
 ·replace h := hx
  clear hx
  refine E_seq (E_region (EL_at (.int .i64 (0)) rfl rfl ?_))
  refine EL_nil (thn_n (E_block ?_))
  refine E_lp h (fun (s : (List Int) × Int) e w => ∃ (g : Gh) (v2 : Value), Fr gI wI g w ∧ e 0 = .int .i64 (x0) ∧ e 2 = v2 ∧ RV g.m w (s.1 : List Int) v2 ∧ OS 1002 g w 3 (s.1 : List Int) v2 ∧ e 3 = .int .i64 (s.2)) ⟨g0, (.slice none 0 0), hfr, rfl, rfl, RV_nil, OS.nil, rfl⟩ (fun X20 v6 c7 => ?_)
  rintro ⟨u0, o0⟩ u7 g8 ⟨z6, z2, hfr, z4, d5, i5, l5, o5⟩ h
  refine E_joinC h (fun (s : Unit) e w => ∃ (g : Gh) , Fr gI wI g w ∧ e 0 = .int .i64 (x0) ∧ e 2 = z2 ∧ RV g.m w (u0 : List Int) z2 ∧ OS 1002 g w 3 (u0 : List Int) z2 ∧ e 3 = .int .i64 (o0)) (fun X24 y6 d7 h => ?_) ?_
  ·refine E_seq (E_region (EL_mv z4 rfl ?_))
   refine EL_mv o5 rfl ?_
   obtain ⟨p4, e7, h⟩ := bsome h
   refine EL_pur (v := .int .i64 (p4)) (P_int rfl rfl (congrArg (Option.map (Value.int .i64)) e7)) .plain rfl ?_
   refine EL_in (.bool ((decide (p4 > (0 : Int))))) rfl rfl rfl rfl ?_
   refine EL_nil (thn_n ?_)
   rcases csome h with ⟨d4, h⟩ | ⟨d4, h⟩
   ·refine E_ct d4 rfl ?_
    exact E_skip (thn_n (d7 () _ _ ⟨z6, hfr, z4, d5, i5, l5, o5⟩ h))
   ·refine E_cf d4 rfl ?_
    refine E_exit ?_
    refine thn_e ?_
    refine thn_e ?_
    refine blk_hit ?_
    obtain rfl := sinj h
    exact hQ _ _ ⟨z6, (z2), hfr, d5, i5, l5⟩
  ·rintro _ v7 i8 ⟨a7, hfr, u3, p5, i3, j3, o3⟩ h
   obtain ⟨j1, hx, h⟩ := bsome h
   refine E_join (fun e w => ∃ (g : Gh) (v2 : Value), Fr gI wI g w ∧ e 0 = .int .i64 (x0) ∧ e 2 = v2 ∧ RV g.m w (j1 : List Int) v2 ∧ OS 1002 g w 3 (j1 : List Int) v2 ∧ e 3 = .int .i64 (o0)) (fun Q' hQ => ?_) (fun c8 k8 hR => ?_)
   ·replace h := hx
    clear hx
    refine E_block ?_
    refine E_seq (E_region (EL_mv u3 rfl ?_))
    refine EL_mv o3 rfl ?_
    obtain ⟨z3, g7, h⟩ := bsome h
    refine EL_pur (v := .int .i64 (z3)) (P_int rfl rfl (congrArg (Option.map (Value.int .i64)) g7)) .plain rfl ?_
    refine EL_in (.int .i64 ((bit64 .and z3 (1 : Int)))) rfl rfl rfl rfl ?_
    refine EL_in (.bool (((bit64 .and z3 (1 : Int)) == (1 : Int)))) rfl rfl rfl rfl ?_
    refine EL_nil (thn_n ?_)
    rcases csome h with ⟨m4, h⟩ | ⟨m4, h⟩
    ·refine E_ct m4 rfl ?_
     refine E_region (EL_mv p5 rfl ?_)
     refine EL_mv o3 rfl ?_
     refine EL_do .plain rfl (D_buildSlice (g := a7) 3017 (xs := ([o0] : List Int)) (vs := [.int .i64 (o0)]) Try.underlying22 Try.sizeOf3 Try.zeroValue3 rfl rfl (.cons rfl .nil) (RVs.cons (RV_int.2 rfl) RVs.nil) rfl rfl fun j7 l8 m8 hs o35 m7 hxt hfl => ?_)
     have hfr := hfr.stp hs
     have i3 := i3.stp hs
     have j3 := j3.stp hs rfl
     obtain ⟨x6, i7, h⟩ := bsome h
     refine EL_do .plain rfl (D_append (g := j7) (i := 1002) Try.underlying22 info_3 rfl rfl j3 i3 rfl m7 i7 fun n7 n8 b7 hs o36 o7 _ => ?_)
     have hfr := hfr.stp hs
     refine EL_at b7 rfl rfl ?_
     refine EL_nil (blk_n ?_)
     obtain rfl := sinj h
     exact hQ _ _ ⟨n7, (b7), hfr, u3, rfl, o7, o36, o3⟩
    ·refine E_cf m4 rfl ?_
     refine E_skip (blk_n ?_)
     obtain rfl := sinj h
     exact hQ _ _ ⟨a7, (z2), hfr, u3, p5, i3, j3, o3⟩
   ·clear hx
    obtain ⟨p7, t5, hfr, u5, x5, c6, d6, i6⟩ := hR
    refine E_region (EL_mv i6 rfl ?_)
    refine EL_in (.int .i64 ((w64 (o0 + (1 : Int))))) rfl rfl rfl rfl ?_
    refine EL_at (.int .i64 ((w64 (o0 + (1 : Int))))) rfl rfl ?_
    exact EL_nil (thn_n (c7 (j1, (w64 (o0 + (1 : Int)))) _ _ ⟨p7, (t5), hfr, u5, x5, c6, d6, rfl⟩ h))
 ·clear hx
  obtain ⟨o8, q5, hfr, j6, l6, q7⟩ := hR
  refine E_seq (E_region (EL_mv j6 rfl ?_))
  refine EL_at q5 rfl rfl ?_
  refine EL_nil (thn_n (E_ret ?_))
  obtain rfl := sinj h
  exact end1 rfl rfl (show _ = q5 from rfl) ⟨_, hfr, l6⟩
def f64 (x0 : LoomLoomMill) (x1 : Int) (x2 : Int) : Option (Int) :=
 Option.bind (α := Int) (
  lp (σ := Int × Int) (fun k48 (z2, o0) =>
   bif (decide (o0 < (((x0).orders).length : Int))) then
    Option.bind (α := Int) (
     (idx ((x0).orders) o0).bind fun y70 =>
     Option.bind (α := Bool) (
      bif (decide ((y70).Early ≥ x1)) then
       some ((decide ((y70).Late ≤ x2)))
      else
       some (false)
      ) fun s25_85 =>
     bif s25_85 then
      some ((w64 (z2 + (y70).Woven)))
     else
      some (z2)
     ) fun s6_89 =>
    k48 (s6_89, (w64 (o0 + (1 : Int))))
   else
    some (z2)
   ) big ((0 : Int), (0 : Int))
  ) fun d3 =>
 some (d3)
theorem en64 : Enters Try.prog 64 := enters_of Try.func64 (by kernel_rfl) rfl
theorem wk64 {gI : Gh} {wI : World} {x0 : LoomLoomMill} {x1 : Int} {x2 : Int} {up0 : Value} (rp0 : RV gI.m wI x0 up0) {r : Int} (h : f64 x0 x1 x2 = some r) : Fn Try.prog 64 #[up0, .int .i64 (x1), .int .i64 (x2)] gI wI (fun _ _ v => v = .int .i64 (r)) := by
 unfold f64 at h
 refine fn_of_E Try.func64 rfl (Nat.le_of_ble_eq_true rfl) fun g0 hm hfr => ?_
 have rp0 : RV g0.m wI x0 up0 := hm ▸ rp0
 show E _ 32 none _ _ _ _ _
 refine E_seq (E_region (EL_do .plain rfl (D_box (g := g0) rfl rp0 fun g1 w1 p1 hs q1 => ?_)))
 have hfr := hfr.ext hs
 refine EL_at (.int .i64 (0)) rfl rfl ?_
 refine EL_nil (thn_n ?_)
 obtain ⟨d3, hx, h⟩ := bsome h
 refine E_join (fun e w => ∃ (g : Gh) , Fr gI wI g w ∧ e 6 = .int .i64 (d3)) (fun Q' hQ => ?_) (fun c8 k8 hR => ?_)
 ·replace h := hx
  clear hx
  refine E_seq (E_region (EL_pur (v := fPtr p1 2) (P_fieldAddr at_96_1 rfl (PT.ptr q1)) .plain rfl ?_))
  have m7 := PT_field (part_LoomLoomMill_1).1 q1
  refine EL_do .plain rfl (D_load (g := g1) Try.isAgg25 Try.sizeOf25 rfl m7 fun j3 i7 => ?_)
  refine EL_pur (v := .int .i64 (((x0).orders).length : Int)) (P_len Try.underlying25 rfl i7) .plain rfl ?_
  refine EL_mw (.int .i64 (0)) rfl rfl ?_
  refine EL_nil (thn_n (E_block ?_))
  refine E_lp h (fun (s : Int × Int) e w => ∃ (g : Gh) , Fr gI wI g w ∧ e 1 = .int .i64 (x1) ∧ e 2 = .int .i64 (x2) ∧ e 6 = .int .i64 (s.1) ∧ e 10 = j3 ∧ RV g.m w ((x0).orders : List LoomOrder) j3 ∧ e 11 = .int .i64 ((((x0).orders).length : Int)) ∧ e 12 = .int .i64 (s.2)) ⟨g1, hfr, rfl, rfl, rfl, rfl, i7, rfl, rfl⟩ (fun X48 k48 j7 => ?_)
  rintro ⟨z2, o0⟩ e8 l8 ⟨i6, hfr, z3, d4, m4, o3, u0, u3, i3⟩ h
  refine E_seq (E_region (EL_pur (v := .bool ((decide (o0 < (((x0).orders).length : Int))))) (P_int i3 u3 rfl) .plain rfl ?_))
  refine EL_nil (thn_n (E_seq ?_))
  rcases csome h with ⟨p5, h⟩ | ⟨p5, h⟩
  ·refine E_ct p5 rfl ?_
   refine E_skip (thn_n ?_)
   obtain ⟨s6_89, hx, h⟩ := bsome h
   refine E_join (fun e w => ∃ (g : Gh) , Fr gI wI g w ∧ e 1 = .int .i64 (x1) ∧ e 2 = .int .i64 (x2) ∧ e 6 = .int .i64 (s6_89) ∧ e 10 = j3 ∧ RV g.m w ((x0).orders : List LoomOrder) j3 ∧ e 11 = .int .i64 ((((x0).orders).length : Int)) ∧ e 12 = .int .i64 (o0)) (fun Q' hQ => ?_) (fun g8 m8 hR => ?_)
   ·replace h := hx
    clear hx
    refine E_block ?_
    refine E_seq (E_region ?_)
    obtain ⟨y70, j6, h⟩ := bsome h
    refine EL_pur (v := ePtr j3 o0 5) (P_indexAddr (α := LoomOrder) Try.underlying25 Try.sizeOf82 o3 u0 i3 j6) .plain rfl ?_
    have n7 := PT_idx u0 j6
    refine EL_do .plain rfl (D_load (g := i6) Try.isAgg82 Try.sizeOf82 rfl n7 fun o7 l6 => ?_)
    refine EL_do .plain rfl (D_allocOc (g := i6) 2008 (⟨0, 0, 0, 0, 0⟩ : LoomOrder) Try.zeroValue82 (fun m w => ⟨_, (rep_two rep_int (rep_two rep_int (rep_two rep_int (rep_two rep_int rep_int)))), rfl⟩) fun p7 n8 p4 hs b73 cb => ?_)
    have hfr := hfr.stp hs
    have u0 := u0.stp hs
    have l6 := l6.stp hs
    clear cb
    refine EL_do .plain rfl (D_storeOc (g := p7) (v := o7) Try.sizeOf82 rfl b73 rfl l6 fun t5 o8 hs b74 cb => ?_)
    clear cb
    have hfr := hfr.stp hs
    have u0 := u0.stp hs
    refine EL_nil (thn_n ?_)
    obtain ⟨s25_85, hx, h⟩ := bsome h
    refine E_join (fun e w => ∃ (g : Gh) , Fr gI wI g w ∧ e 1 = .int .i64 (x1) ∧ e 2 = .int .i64 (x2) ∧ e 6 = .int .i64 (z2) ∧ e 8 = p4 ∧ OB 2008 g w 82 (y70 : LoomOrder) p4 ∧ e 10 = j3 ∧ RV g.m w ((x0).orders : List LoomOrder) j3 ∧ e 11 = .int .i64 ((((x0).orders).length : Int)) ∧ e 12 = .int .i64 (o0) ∧ e 25 = .bool (s25_85)) (fun Q' hQ => ?_) (fun i8 p8 hR => ?_)
    ·replace h := hx
     clear hx
     refine E_region (EL_pur (v := fPtr p4 3) (P_fieldAddr at_82_3 rfl (OB.ptr b74)) .plain rfl ?_)
     refine EL_do .plain rfl (D_loadF (g := t5) part_LoomOrder_3.1 Try.isAgg3 Try.sizeOf3 rfl b74 fun q8 q7 => ?_)
     obtain rfl := RV_int.1 q7
     refine EL_mv z3 rfl ?_
     refine EL_in (.bool ((decide ((y70).Early ≥ x1)))) rfl rfl rfl rfl ?_
     refine EL_mw (.bool ((decide ((y70).Early ≥ x1)))) rfl rfl ?_
     rcases csome h with ⟨j1, h⟩ | ⟨j1, h⟩
     ·refine EL_pur (v := fPtr p4 4) (P_fieldAddr at_82_4 rfl (OB.ptr b74)) (.yes2 rfl rfl j1) rfl ?_
      refine EL_do (.yes2 rfl rfl j1) rfl (D_loadF (g := t5) part_LoomOrder_4.1 Try.isAgg3 Try.sizeOf3 rfl b74 fun r8 t7 => ?_)
      obtain rfl := RV_int.1 t7
      refine EL_pur (v := .int .i64 (x2)) (P_move d4) (.yes2 rfl rfl j1) rfl ?_
      refine EL_pur (v := .bool ((decide ((y70).Late ≤ x2)))) (P_int rfl rfl rfl) (.yes2 rfl rfl j1) rfl ?_
      refine EL_pur (v := .bool ((decide ((y70).Late ≤ x2)))) (P_pick (b := (decide ((y70).Early ≥ x1))) rfl (pick_t j1 rfl)) .plain rfl ?_
      refine EL_nil ?_
      obtain rfl := sinj h
      exact hQ _ _ ⟨t5, hfr, z3, d4, m4, rfl, b74, o3, u0, u3, i3, rfl⟩
     ·refine EL_skip (.no2 rfl rfl j1 rfl) rfl ?_
      refine EL_skip (.no2 rfl rfl j1 rfl) rfl ?_
      refine EL_skip (.no2 rfl rfl j1 rfl) rfl ?_
      refine EL_skip (.no2 rfl rfl j1 rfl) rfl ?_
      refine EL_pur (v := .bool false) (P_pick (b := (decide ((y70).Early ≥ x1))) rfl (pick_f j1 rfl)) .plain rfl ?_
      refine EL_nil ?_
      obtain rfl := sinj h
      exact hQ _ _ ⟨t5, hfr, z3, d4, m4, rfl, b74, o3, u0, u3, i3, rfl⟩
    ·clear hx
     obtain ⟨v6, hfr, u5, x5, c6, b7, d6, z4, d5, i5, l5, o5⟩ := hR
     rcases csome h with ⟨q5, h⟩ | ⟨q5, h⟩
     ·refine E_cond_true (Eq.trans (show ev _ _ = .bool (s25_85) from o5) (congrArg Value.bool q5)) ?_
      refine E_region (EL_mv c6 rfl ?_)
      refine EL_pur (v := fPtr p4 2) (P_fieldAddr at_82_2 b7 (OB.ptr d6)) .plain rfl ?_
      refine EL_do .plain rfl (D_loadF (g := v6) part_LoomOrder_2.1 Try.isAgg3 Try.sizeOf3 rfl d6 fun t8 u7 => ?_)
      obtain rfl := RV_int.1 u7
      refine EL_in (.int .i64 ((w64 (z2 + (y70).Woven)))) rfl rfl rfl rfl ?_
      refine EL_at (.int .i64 ((w64 (z2 + (y70).Woven)))) rfl rfl ?_
      refine EL_nil (blk_n ?_)
      obtain rfl := sinj h
      exact hQ _ _ ⟨v6, hfr, u5, x5, rfl, z4, d5, i5, l5⟩
     ·refine E_cond_false (Eq.trans (show ev _ _ = .bool (s25_85) from o5) (congrArg Value.bool q5)) ?_
      refine E_skip (blk_n ?_)
      obtain rfl := sinj h
      exact hQ _ _ ⟨v6, hfr, u5, x5, c6, z4, d5, i5, l5⟩
   ·clear hx
    obtain ⟨v7, hfr, c7, d7, e7, x6, y6, z6, a7⟩ := hR
    refine E_region (EL_in (.int .i64 ((w64 (o0 + (1 : Int))))) a7 rfl rfl rfl ?_)
    refine EL_mw (.int .i64 ((w64 (o0 + (1 : Int))))) rfl rfl ?_
    exact EL_nil (thn_n (j7 (s6_89, (w64 (o0 + (1 : Int)))) _ _ ⟨v7, hfr, c7, d7, e7, x6, y6, z6, rfl⟩ h))
  ·refine E_cf p5 rfl ?_
   refine E_exit ?_
   refine thn_e ?_
   refine thn_e ?_
   refine blk_hit ?_
   obtain rfl := sinj h
   exact hQ _ _ ⟨i6, hfr, m4⟩
 ·clear hx
  obtain ⟨v8, hfr, g7⟩ := hR
  refine E_seq (E_region (EL_mv g7 rfl ?_))
  refine EL_at (.int .i64 (d3)) rfl rfl ?_
  refine EL_nil (thn_n (E_ret ?_))
  obtain rfl := sinj h
  exact end1 rfl rfl (show _ = .int .i64 (d3) from rfl) ⟨_, hfr, rfl⟩
def f73 (x0 : LoomLoomMill) (x1 : LoomRun) : Option (Int) :=
 (idx ((x0).orders) (x1).Order).bind fun y9 =>
 some ((w64 ((x1).From + (y9).Woven)))
theorem en73 : Enters Try.prog 73 := enters_of Try.func73 (by kernel_rfl) rfl
theorem wk73 {gI : Gh} {wI : World} {x0 : LoomLoomMill} {x1 : LoomRun} {up0 : Value} (rp0 : RV gI.m wI x0 up0) {up1 : Value} (rp1 : RV gI.m wI x1 up1) {r : Int} (h : f73 x0 x1 = some r) : Fn Try.prog 73 #[up0, up1] gI wI (fun _ _ v => v = .int .i64 (r)) := by
 unfold f73 at h
 refine fn_of_E Try.func73 rfl (Nat.le_of_ble_eq_true rfl) fun g0 hm hfr => ?_
 have rp0 : RV g0.m wI x0 up0 := hm ▸ rp0
 have rp1 : RV g0.m wI x1 up1 := hm ▸ rp1
 show E _ 15 none _ _ _ _ _
 refine E_seq (E_region (EL_do .plain rfl (D_box (g := g0) rfl rp0 fun g1 w1 p1 hs q1 => ?_)))
 have hfr := hfr.ext hs
 have rp1 := rp1.ext hs
 refine EL_do .plain rfl (D_box (g := g1) rfl rp1 fun g2 w2 p2 hs q2 => ?_)
 have hfr := hfr.ext hs
 have q1 := q1.ext hs
 refine EL_at (.int .i64 (0)) rfl rfl ?_
 refine EL_nil (thn_n (E_seq ?_))
 have q3 := PT_field (part_LoomRun_2).1 q2
 refine L_load (x := .tmp 5) Try.isAgg3 Try.sizeOf3 q3 fun v4 r4 j1 => ?_
 obtain rfl := RV_int.1 r4
 have q5 := PT_field (part_LoomLoomMill_1).1 q1
 refine L_load (x := .tmp 7) Try.isAgg25 Try.sizeOf25 q5 fun v6 r6 z2 => ?_
 have q7 := PT_field (part_LoomRun_0).1 q2
 refine L_load (x := .tmp 9) Try.isAgg3 Try.sizeOf3 q7 fun v8 r8 d3 => ?_
 obtain rfl := RV_int.1 r8
 obtain ⟨y9, o0, h⟩ := bsome h
 have u0 := PT_idx r6 o0
 have i3 := PT_field (part_LoomOrder_2).1 u0
 refine L_load (x := .tmp 12) Try.isAgg3 Try.sizeOf3 i3 fun o3 j3 hl12 => ?_
 obtain rfl := RV_int.1 j3
 refine E_drawL (g := g2) (n := 11) [] [0, 1, 2, 3, 4, 5, 6, 7, 8, 9, 10] rfl mixed (by kernel_rfl) trivial ?_
 refine L_pur (c := fPtr p2 2) rfl rfl .plain (fun _ _ hd => P_fieldAddr at_76_2 rfl (PT.ptr q2)) ?_
 refine L_ld (c := .int .i64 ((x1).From)) rfl rfl .plain (fun _ _ h => h.ch) j1 rfl ?_
 refine L_pur (c := fPtr p1 2) rfl rfl .plain (fun _ _ hd => P_fieldAddr at_96_1 rfl (PT.ptr q1)) ?_
 refine L_ld (c := v6) rfl rfl .plain (fun _ _ h => h.ch) z2 rfl ?_
 refine L_pur (c := fPtr p2 0) rfl rfl .plain (fun _ _ hd => P_fieldAddr at_76_0 rfl (PT.ptr q2)) ?_
 refine L_ld (c := .int .i64 ((x1).Order)) rfl rfl .plain (fun _ _ h => h.ch) d3 rfl ?_
 refine L_pur (c := ePtr v6 (x1).Order 5) rfl rfl .plain (fun _ _ hd => P_indexAddr (α := LoomOrder) Try.underlying25 Try.sizeOf82 rfl r6 rfl o0) ?_
 refine L_pur (c := fPtr (ePtr v6 (x1).Order 5) 2) rfl rfl .plain (fun _ _ hd => P_fieldAddr at_82_2 rfl (PT.ptr u0)) ?_
 refine L_ld (c := .int .i64 ((y9).Woven)) rfl rfl .plain (fun _ _ h => h.ch) hl12 rfl ?_
 refine L_pur (c := .int .i64 ((w64 ((x1).From + (y9).Woven)))) rfl rfl .plain (fun _ _ hd => P_int rfl rfl rfl) ?_
 refine L_pur (c := .int .i64 ((w64 ((x1).From + (y9).Woven)))) rfl rfl .plain (fun _ _ hd => P_assign rfl) ?_
 refine L_nil fun u3 z3 hall => ?_
 have hs := hall.1
 have hfr := hfr.ext hs
 clear hs hall
 refine EL_nil (thn_n (E_ret ?_))
 obtain rfl := sinj h
 exact end1 rfl rfl (show _ = .int .i64 ((w64 ((x1).From + (y9).Woven))) from rfl) ⟨_, hfr, rfl⟩
end Go.Proofs.Ytnfjhdagbknlbaa
