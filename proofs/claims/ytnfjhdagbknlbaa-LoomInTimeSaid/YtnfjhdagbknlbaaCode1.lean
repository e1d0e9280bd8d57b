import Derived.Test.YtnfjhdagbknlbaaTypes
set_option maxRecDepth 8000
set_option maxHeartbeats 4000000
namespace Go.Proofs.Ytnfjhdagbknlbaa
open Go.RowKit
theorem info_76 : (Try.prog.info? 76).map (fun i => (i.zero, i.size, i.bytes)) = some (some (.agg #[.int .i64 0, .int .i64 0, .int .i64 0]), 3, 24) := by kernel_rfl
theorem mixed : Try.prog.follows .mixedOrders = true := by kernel_rfl
theorem info_3 : (Try.prog.info? 3).map (fun i => (i.zero, i.size, i.bytes)) = some (some (.int .i64 0), 1, 8) := by kernel_rfl
theorem endm_c {P : Program} {e : Env} {ds : List Deferred} {w : World} {fn : Func} {R : Value → World → Prop} {t0 : Tmp} {v0 : Value} {y0 : TypeId} {a0 : Addr} (hres : fn.results = #[.cell t0 y0]) (hd : ds = []) (h0 : e t0 = .pointer (some a0)) (l0 : (loadVar y0 a0).run P w = .ok v0 w) (h : R v0 w) : atEnd P fn R .ret e ds w :=
 ⟨hd, fun tmps ht => ⟨_, by simp [results, hres, ht, asAddr, h0, l0], h⟩⟩
theorem info_82 : (Try.prog.info? 82).map (fun i => (i.zero, i.size, i.bytes)) = some (some (.agg #[.int .i64 0, .int .i64 0, .int .i64 0, .int .i64 0, .int .i64 0]), 5, 40) := by kernel_rfl
theorem fl_76 : Try.prog.fieldsOf 76 = #[{ name := "Order", type := 3, offset := 0, embedded := false, tag := "", pkgPath := "", byteOffset := 0 }, { name := "Loom", type := 3, offset := 1, embedded := false, tag := "", pkgPath := "", byteOffset := 8 }, { name := "From", type := 3, offset := 2, embedded := false, tag := "", pkgPath := "", byteOffset := 16 }] := by kernel_rfl
theorem seq_76 : SEq (α := LoomRun) Try.prog 76 := by
 intro d x y w a b m wx m2 wy hx hy
 obtain ⟨_, ⟨_, _, rfl, rfl, ⟨_, _, rfl, rfl, rfl⟩⟩, rfl⟩ := hx
 obtain ⟨_, ⟨_, _, rfl, rfl, ⟨_, _, rfl, rfl, rfl⟩⟩, rfl⟩ := hy
 refine (run_equalIn_struct w (d + 1) 76 _ _ (by kernel_rfl) (by kernel_rfl)).trans ?_
 rw [fl_76]
 obtain ⟨x0, x1, x2⟩ := x
 obtain ⟨y0, y1, y2⟩ := y
 show (Op.eqFields (d + 1) #[.int .i64 (x0), .int .i64 (x1), .int .i64 (x2)] #[.int .i64 (y0), .int .i64 (y1), .int .i64 (y2)] _).run _ _ = _
 have x0p : (part 3 #[.int .i64 (x0), .int .i64 (x1), .int .i64 (x2)] 0).run Try.prog w = .ok (.int .i64 (x0)) w := part_one Try.isAgg3 rfl
 have x1p : (part 3 #[.int .i64 (x0), .int .i64 (x1), .int .i64 (x2)] 1).run Try.prog w = .ok (.int .i64 (x1)) w := part_one Try.isAgg3 rfl
 have x2p : (part 3 #[.int .i64 (x0), .int .i64 (x1), .int .i64 (x2)] 2).run Try.prog w = .ok (.int .i64 (x2)) w := part_one Try.isAgg3 rfl
 have y0p : (part 3 #[.int .i64 (y0), .int .i64 (y1), .int .i64 (y2)] 0).run Try.prog w = .ok (.int .i64 (y0)) w := part_one Try.isAgg3 rfl
 have y1p : (part 3 #[.int .i64 (y0), .int .i64 (y1), .int .i64 (y2)] 1).run Try.prog w = .ok (.int .i64 (y1)) w := part_one Try.isAgg3 rfl
 have y2p : (part 3 #[.int .i64 (y0), .int .i64 (y1), .int .i64 (y2)] 2).run Try.prog w = .ok (.int .i64 (y2)) w := part_one Try.isAgg3 rfl
 simp only [Op.eqFields, Sem.run_bind, Sem.run_ite, Sem.run_pure, x0p, x1p, x2p, y0p, y1p, y2p, Result.andThen_ok, run_equalIn_int _ _ _ _ _ _ _ Try.underlying3]
 simp
 grind
theorem eg_76 : Try.prog.eqGuardType Try.prog.depth 76 = false := by kernel_rfl
theorem lay_48 : layoutOf Try.prog 48 = some ([.int .i64 0, .int .i64 0], [(0, 1), (1, 1)]) := by kernel_rfl
theorem endm_ctt {P : Program} {e : Env} {ds : List Deferred} {w : World} {fn : Func} {R : Value → World → Prop} {t0 : Tmp} {v0 : Value} {y0 : TypeId} {a0 : Addr} {t1 : Tmp} {v1 : Value} {t2 : Tmp} {v2 : Value} (hres : fn.results = #[.cell t0 y0, .tmp t1, .tmp t2]) (hd : ds = []) (h0 : e t0 = .pointer (some a0)) (l0 : (loadVar y0 a0).run P w = .ok v0 w) (h1 : e t1 = v1) (h2 : e t2 = v2) (h : R (.tuple #[v0, v1, v2]) w) : atEnd P fn R .ret e ds w :=
 ⟨hd, fun tmps ht => ⟨_, by simp [results, hres, ht, asAddr, h0, l0, h1, h2], h⟩⟩
theorem plain_LoomRun : Plain LoomRun := fun _ m' _ w' x _ h => (plain_two plain_int (plain_two plain_int plain_int)) _ m' _ w' _ _ h
theorem info_4 : (Try.prog.info? 4).map (fun i => (i.zero, i.size, i.bytes)) = some (some (.bool false), 1, 1) := by kernel_rfl
theorem lay_24 : layoutOf Try.prog 24 = some ([.slice none 0 0, .int .i64 0], [(0, 1), (1, 1)]) := by kernel_rfl
theorem layA_126 : ((Try.prog.info? 126).bind (·.zero)).map (·.cells.toList) = some [.int .i64 0, .int .i64 0, .int .i64 0] := by kernel_rfl
theorem szA_3 : (Try.prog.info? 3).map (·.size) = some 1 := by kernel_rfl
theorem lay_82 : layoutOf Try.prog 82 = some ([.int .i64 0, .int .i64 0, .int .i64 0, .int .i64 0, .int .i64 0], [(0, 1), (1, 1), (2, 1), (3, 1), (4, 1)]) := by kernel_rfl
theorem lay_76 : layoutOf Try.prog 76 = some ([.int .i64 0, .int .i64 0, .int .i64 0], [(0, 1), (1, 1), (2, 1)]) := by kernel_rfl
theorem lay_54 : layoutOf Try.prog 54 = some ([.int .i64 0, .int .i64 0, .int .i64 0], [(0, 1), (1, 2)]) := by kernel_rfl
theorem lay_96 : layoutOf Try.prog 96 = some ([.slice none 0 0, .int .i64 0, .slice none 0 0], [(0, 2), (2, 1)]) := by kernel_rfl
theorem endm_ct {P : Program} {e : Env} {ds : List Deferred} {w : World} {fn : Func} {R : Value → World → Prop} {t0 : Tmp} {v0 : Value} {y0 : TypeId} {a0 : Addr} {t1 : Tmp} {v1 : Value} (hres : fn.results = #[.cell t0 y0, .tmp t1]) (hd : ds = []) (h0 : e t0 = .pointer (some a0)) (l0 : (loadVar y0 a0).run P w = .ok v0 w) (h1 : e t1 = v1) (h : R (.tuple #[v0, v1]) w) : atEnd P fn R .ret e ds w :=
 ⟨hd, fun tmps ht => ⟨_, by simp [results, hres, ht, asAddr, h0, l0, h1], h⟩⟩
theorem key_3 : KeyLaw Try.prog 3 (Value.int .i64) := keyLaw_int Try.underlying3
theorem capf_0_1 {e : Env} {f : FuncId} {o0 : Operand} {b0 : Value} (hb0 : ev e o0 = b0) : (Value.func (.func f) ((#[] : Array Operand).map (ev e)) ((#[o0] : Array Operand).map (ev e))) = .func (.func f) #[] #[b0] := by simp [hb0]
theorem capf_0_2 {e : Env} {f : FuncId} {o0 : Operand} {u0 : Operand} {b0 : Value} {b1 : Value} (hb0 : ev e o0 = b0) (hb1 : ev e u0 = b1) : (Value.func (.func f) ((#[] : Array Operand).map (ev e)) ((#[o0, u0] : Array Operand).map (ev e))) = .func (.func f) #[] #[b0, b1] := by simp [hb0, hb1]
theorem plain_LoomOrder : Plain LoomOrder := fun _ m' _ w' x _ h => (plain_two plain_int (plain_two plain_int (plain_two plain_int (plain_two plain_int plain_int)))) _ m' _ w' _ _ h
theorem lay_113 : layoutOf Try.prog 113 = some ([.slice none 0 0, .int .i64 0, .slice none 0 0, .int .i64 0, .int .i64 0, .int .i64 0], [(0, 3), (3, 3)]) := by kernel_rfl
theorem tup2_0 {b0 b1 : Value} {B0 : Value → Prop} {B1 : Value → Prop} (h : ∃ c0 c1 : Value, Value.tuple #[b0, b1] = .tuple #[c0, c1] ∧ B0 c0 ∧ B1 c1) : B0 b0 := by
 obtain ⟨c0, c1, he, h0, h1⟩ := h; simp at he; obtain ⟨rfl, rfl⟩ := he; exact h0
theorem fl_48 : Try.prog.fieldsOf 48 = #[{ name := "Low", type := 3, offset := 0, embedded := false, tag := "", pkgPath := "", byteOffset := 0 }, { name := "High", type := 3, offset := 1, embedded := false, tag := "", pkgPath := "", byteOffset := 8 }] := by kernel_rfl
theorem seq_48 : SEq (α := Span) Try.prog 48 := by
 intro d x y w a b m wx m2 wy hx hy
 obtain ⟨_, ⟨_, _, rfl, rfl, rfl⟩, rfl⟩ := hx
 obtain ⟨_, ⟨_, _, rfl, rfl, rfl⟩, rfl⟩ := hy
 refine (run_equalIn_struct w (d + 1) 48 _ _ (by kernel_rfl) (by kernel_rfl)).trans ?_
 rw [fl_48]
 obtain ⟨x0, x1⟩ := x
 obtain ⟨y0, y1⟩ := y
 show (Op.eqFields (d + 1) #[.int .i64 (x0), .int .i64 (x1)] #[.int .i64 (y0), .int .i64 (y1)] _).run _ _ = _
 have x0p : (part 3 #[.int .i64 (x0), .int .i64 (x1)] 0).run Try.prog w = .ok (.int .i64 (x0)) w := part_one Try.isAgg3 rfl
 have x1p : (part 3 #[.int .i64 (x0), .int .i64 (x1)] 1).run Try.prog w = .ok (.int .i64 (x1)) w := part_one Try.isAgg3 rfl
 have y0p : (part 3 #[.int .i64 (y0), .int .i64 (y1)] 0).run Try.prog w = .ok (.int .i64 (y0)) w := part_one Try.isAgg3 rfl
 have y1p : (part 3 #[.int .i64 (y0), .int .i64 (y1)] 1).run Try.prog w = .ok (.int .i64 (y1)) w := part_one Try.isAgg3 rfl
 simp only [Op.eqFields, Sem.run_bind, Sem.run_ite, Sem.run_pure, x0p, x1p, y0p, y1p, Result.andThen_ok, run_equalIn_int _ _ _ _ _ _ _ Try.underlying3]
 simp
 grind
theorem eg_48 : Try.prog.eqGuardType Try.prog.depth 48 = false := by kernel_rfl
def f67 (x0 : List LoomRun) : Option (List LoomRun) := apnd 24 [] x0
theorem en67 : Enters Try.prog 67 := enters_of Try.func67 (by kernel_rfl) rfl
def lenTab : Str := (⟨[0, 1, 2, 2, 3, 3, 3, 3, 4, 4, 4, 4, 4, 4, 4, 4, 5, 5, 5, 5, 5, 5, 5, 5, 5, 5, 5, 5, 5, 5, 5, 5, 6, 6, 6, 6, 6, 6, 6, 6, 6, 6, 6, 6, 6, 6, 6, 6, 6, 6, 6, 6, 6, 6, 6, 6, 6, 6, 6, 6, 6, 6, 6, 6, 7, 7, 7, 7, 7, 7, 7, 7, 7, 7, 7, 7, 7, 7, 7, 7, 7, 7, 7, 7, 7, 7, 7, 7, 7, 7, 7, 7, 7, 7, 7, 7, 7, 7, 7, 7, 7, 7, 7, 7, 7, 7, 7, 7, 7, 7, 7, 7, 7, 7, 7, 7, 7, 7, 7, 7, 7, 7, 7, 7, 7, 7, 7, 7, 8, 8, 8, 8, 8, 8, 8, 8, 8, 8, 8, 8, 8, 8, 8, 8, 8, 8, 8, 8, 8, 8, 8, 8, 8, 8, 8, 8, 8, 8, 8, 8, 8, 8, 8, 8, 8, 8, 8, 8, 8, 8, 8, 8, 8, 8, 8, 8, 8, 8, 8, 8, 8, 8, 8, 8, 8, 8, 8, 8, 8, 8, 8, 8, 8, 8, 8, 8, 8, 8, 8, 8, 8, 8, 8, 8, 8, 8, 8, 8, 8, 8, 8, 8, 8, 8, 8, 8, 8, 8, 8, 8, 8, 8, 8, 8, 8, 8, 8, 8, 8, 8, 8, 8, 8, 8, 8, 8, 8, 8, 8, 8, 8, 8, 8, 8, 8, 8, 8, 8, 8, 8, 8, 8, 8, 8, 8, 8]⟩ : Str)
def f115 (x : Int) : Option Int := if 0 ≤ x ∧ x < 256 then (idx lenTab.b x).map fun c => w64 (0 + (c.toNat : Int)) else none
def f101 (x : Int) : Option Int := f115 x
theorem en115 : Enters Try.prog 115 := enters_of Try.func115 (by kernel_rfl) rfl
theorem en101 : Enters Try.prog 101 := enters_of Try.func101 (by kernel_rfl) rfl
theorem wk115 {gI : Gh} {wI : World} {x0 : Int} {r : Int} (h : f115 x0 = some r) : Fn Try.prog 115 #[.int .u64 x0] gI wI (fun _ _ v => v = .int .i64 (r)) := by
 unfold f115 at h
 split at h
 case isFalse => cases h
 rename_i hx
 obtain ⟨h0, h1⟩ := hx
 cases hc : idx lenTab.b x0 with
 | none => rw [hc] at h; cases h
 | some c =>
 rw [hc] at h
 obtain rfl := sinj h
 refine fn_of_E Try.func115 rfl (Nat.le_of_ble_eq_true rfl) fun g0 hm hfr => ?_
 show E _ 25 none _ _ _ _ _
 refine E_seq (E_region (EL_at (.int .i64 0) rfl rfl (EL_nil (thn_n ?_))))
 refine E_seq (E_seq (E_region (EL_mw (.int .u64 x0) rfl rfl ?_)))
 refine EL_pur (v := .bool false) (P_u64lt rfl rfl (by omega)) .plain rfl (EL_nil (thn_n ?_))
 refine E_cond_false rfl (E_skip (thn_n ?_))
 refine E_seq (E_seq (E_region (EL_mw (.int .u64 x0) rfl rfl ?_)))
 refine EL_pur (v := .bool false) (P_u64lt rfl rfl (by omega)) .plain rfl (EL_nil (thn_n ?_))
 refine E_cond_false rfl (E_skip (thn_n ?_))
 refine E_seq (E_seq (E_region (EL_mw (.int .u64 x0) rfl rfl ?_)))
 refine EL_pur (v := .bool false) (P_u64lt rfl rfl (by omega)) .plain rfl (EL_nil (thn_n ?_))
 refine E_cond_false rfl (E_skip (thn_n ?_))
 refine E_seq (E_region (EL_mw (.int .i64 0) rfl rfl ?_))
 refine EL_mw (.int .u64 x0) rfl rfl ?_
 refine EL_pur (v := .int .u8 x0) (P_u64u8 Try.underlying169 Try.underlying5 rfl h0 h1) .plain rfl ?_
 refine EL_pur (v := .int .u8 c.toNat) (P_indexS (s := lenTab) Try.underlying9 rfl rfl hc) .plain rfl ?_
 refine EL_pur (v := .int .i64 (c.toNat : Int)) (P_u8int Try.underlying5 Try.underlying2 rfl) .plain rfl ?_
 refine EL_in (.int .i64 (w64 (0 + (c.toNat : Int)))) rfl rfl rfl rfl ?_
 refine EL_at (.int .i64 (w64 (0 + (c.toNat : Int)))) rfl rfl (EL_nil (thn_n ?_))
 exact E_ret (end1 rfl rfl (show _ = _ from rfl) ⟨_, hfr, rfl⟩)
theorem wk101 {gI : Gh} {wI : World} {x0 : Int} {r : Int} (h : f101 x0 = some r) : Fn Try.prog 101 #[.int .u64 x0] gI wI (fun _ _ v => v = .int .i64 (r)) := by
 unfold f101 at h
 refine fn_of_E Try.func101 rfl (Nat.le_of_ble_eq_true rfl) fun g0 hm hfr => ?_
 show E _ 8 none _ _ _ _ _
 refine E_seq (E_region (EL_at (.int .i64 0) rfl rfl (EL_nil (thn_n ?_))))
 refine E_seq (E_cond_false rfl (E_skip (thn_n ?_)))
 refine E_seq (E_region (EL_mw (.int .u64 x0) rfl rfl ?_))
 refine EL_do .plain rfl (D_call (g := g0) (vs := [.int .u64 x0]) en115 (.cons rfl .nil) (wk115 h) fun g1 w1 v1 hs hr => ?_)
 have hfr := hfr.ext hs
 subst hr
 refine EL_at (.int .i64 r) rfl rfl (EL_nil (thn_n ?_))
 exact E_ret (end1 rfl rfl (show _ = _ from rfl) ⟨_, hfr, rfl⟩)
def f12 (x0 : LoomMill) (x1 : List LoomOrder) (x2 : Int) : Option (Bool) :=
 Option.bind (α := Bool) (
  bif (decide ((((x0).Widths).length : Int) > (10 : Int))) then
   some (true)
  else
   bif (decide (((x1).length : Int) > x2)) then
    bif (decide (((x1).length : Int) ≤ (7 : Int))) then
     some (true)
    else
     some ((decide (((x1).length : Int) > (10 : Int))))
   else
    some ((decide (((x1).length : Int) > (10 : Int))))
  ) fun z2 =>
 some (z2)
def f15 (x0 : LoomMill) : Option (LoomMill) :=
 (apnd 8 (([] : List Int)) ((x0).Widths)).bind fun y7 =>
 some ({ x0 with Widths := y7 })
theorem en15 : Enters Try.prog 15 := enters_of Try.func15 (by kernel_rfl) rfl
theorem wk15 {gI : Gh} {wI : World} {x0 : LoomMill} {up0 : Value} (rp0 : RV gI.m wI x0 up0) {r : LoomMill} (h : f15 x0 = some r) : Fn Try.prog 15 #[up0] gI wI (fun m w v => RV m w (r) v) := by
 unfold f15 at h
 refine fn_of_E Try.func15 rfl (Nat.le_of_ble_eq_true rfl) fun g0 hm hfr => ?_
 have rp0 : RV g0.m wI x0 up0 := hm ▸ rp0
 show E _ 9 none _ _ _ _ _
 refine E_seq (E_region (EL_do .plain rfl (D_boxO (g := g0) 2001 rfl rp0 fun g1 w1 p1 hs b1 => ?_)))
 have hfr := hfr.stp hs
 refine EL_do .plain rfl (D_allocOc (g := g1) 2002 (⟨[], 0⟩ : LoomMill) Try.zeroValue24 (fun m w => ⟨_, (rep_two rep_nil rep_int), rfl⟩) fun g2 w2 p2 hs b2 cb => ?_)
 have hfr := hfr.stp hs
 have b1 := b1.stp hs rfl
 have z2 : OSF 2002 60200 0 g2 w2 3 24 ([] : List Int) p2 := cb.osf (by rfl)
 clear cb
 refine EL_nil (thn_n (E_seq (E_region (EL_do .plain rfl (D_buildSlice (g := g2) 3003 (xs := ([] : List Int)) (vs := []) Try.underlying22 Try.sizeOf3 Try.zeroValue3 rfl rfl .nil RVs.nil rfl rfl fun g3 w3 v3 hs o3 r3 hxt hfl => ?_)))))
 have hfr := hfr.stp hs
 have b1 := b1.stp hs rfl
 have b2 := b2.stp hs rfl
 refine EL_pur (v := fPtr p1 0) (P_fieldAddr at_24_0 rfl (OB.ptr b1)) .plain rfl ?_
 refine EL_do .plain rfl (D_loadF (g := g3) part_LoomMill_0.1 Try.isAgg22 Try.sizeOf22 rfl b1 fun v5 r5 => ?_)
 obtain ⟨y7, o0, h⟩ := bsome h
 refine EL_do .plain rfl (D_append (g := g3) (i := 3003) Try.underlying22 info_3 rfl rfl o3 r3 rfl r5 o0 fun g6 w6 v6 hs o6 r6 _ => ?_)
 have hfr := hfr.stp hs
 have b1 := b1.stp hs rfl
 have b2 := b2.stp hs rfl
 refine EL_pur (v := fPtr p1 0) (P_fieldAddr at_24_0 rfl (OB.ptr b1)) .plain rfl ?_
 refine EL_do .plain rfl (D_storeFc (g := g6) part_LoomMill_0 Try.sizeOf22 rfl b1 rfl r6 fun g9 w9 hs b9 rst hos => ?_)
 have d3 := hos _ _ 3003 3 (y7 : List Int) (rv_cells1 r6) rfl o6
 clear rst hos
 have hfr := hfr.stp hs
 have b2 := b2.stp hs rfl
 refine EL_nil (thn_n (E_seq (E_region (EL_do .plain rfl (D_loadO (g := g9) Try.isAgg24 Try.sizeOf24 rfl b9 fun u0 j1 => ?_)))))
 refine EL_do .plain rfl (D_storeOc (g := g9) (v := u0) Try.sizeOf24 rfl b2 rfl j1 fun i3 j3 hs b11 cb => ?_)
 clear cb
 have hfr := hfr.stp hs
 refine EL_nil (thn_n (E_ret ?_))
 obtain rfl := sinj h
 obtain ⟨ad12, cv12, hp12, hl12, cr12⟩ := ob_read Try.isAgg24 Try.sizeOf24 b11
 exact endm_c rfl rfl ((show _ = p2 from rfl).trans hp12) hl12 ⟨_, hfr, cr12⟩
def f16 (x0 : List LoomOrder) : Option ((List LoomOrder)) :=
 (apnd 40 (([] : List LoomOrder)) x0).bind fun y3 =>
 some (y3)
theorem en16 : Enters Try.prog 16 := enters_of Try.func16 (by kernel_rfl) rfl
theorem wk16 {gI : Gh} {wI : World} {x0 : List LoomOrder} {up0 : Value} (rp0 : RV gI.m wI x0 up0) {r : (List LoomOrder)} (h : f16 x0 = some r) : Fn Try.prog 16 #[up0] gI wI (fun m w v => RV m w (r) v) := by
 unfold f16 at h
 refine fn_of_E Try.func16 rfl (Nat.le_of_ble_eq_true rfl) fun g0 hm hfr => ?_
 have rp0 : RV g0.m wI x0 up0 := hm ▸ rp0
 show E _ 6 none _ _ _ _ _
 refine E_seq (E_region (EL_at (.slice none 0 0) rfl rfl ?_))
 refine EL_nil (thn_n (E_seq (E_region (EL_do .plain rfl (D_buildSlice (g := g0) 3003 (xs := ([] : List LoomOrder)) (vs := []) Try.underlying25 Try.sizeOf82 Try.zeroValue82 rfl rfl .nil RVs.nil rfl rfl fun g1 w1 v1 hs o1 r1 hxt hfl => ?_)))))
 have hfr := hfr.stp hs
 have rp0 := rp0.stp hs
 refine EL_mw up0 rfl rfl ?_
 obtain ⟨y3, hy3, h⟩ := bsome h
 refine EL_do .plain rfl (D_append (g := g1) (i := 3003) Try.underlying25 info_82 rfl rfl o1 r1 rfl rp0 hy3 fun g2 w2 v2 hs o2 r2 _ => ?_)
 have hfr := hfr.stp hs
 refine EL_at v2 rfl rfl ?_
 refine EL_nil (thn_n (E_ret ?_))
 obtain rfl := sinj h
 exact end1 rfl rfl (show _ = v2 from rfl) ⟨_, hfr, r2⟩
def f19 (x0 : List LoomOrder) (x1 : List LoomOrder) : Option (Bool) :=
 jn (σ := Unit) (fun (_ : Unit) =>
  jn (σ := Unit) (fun (_ : Unit) =>
   some (true)
   ) fun k53 =>
  lp (σ := Int) (fun k54 o0 =>
   jn (σ := Unit) (fun (_ : Unit) =>
    jn (σ := Unit) (fun (_ : Unit) =>
     k54 ((w64 (o0 + (1 : Int))))
     ) fun k80 =>
    (idx x0 o0).bind fun y81 =>
    (idx x1 o0).bind fun y84 =>
    bif (!(decide (y81 = y84))) then
     some (false)
    else
     k80 ()
    ) fun k57 =>
   bif (decide (o0 < ((x0).length : Int))) then
    k57 ()
   else
    k53 ()
   ) big ((0 : Int))
  ) fun k2 =>
 bif (((x0).length : Int) != ((x1).length : Int)) then
  some (false)
 else
  k2 ()
def f22 (x0 : List LoomRun) (x1 : List LoomRun) : Option (Bool) :=
 jn (σ := Unit) (fun (_ : Unit) =>
  jn (σ := Unit) (fun (_ : Unit) =>
   some (true)
   ) fun k53 =>
  lp (σ := Int) (fun k54 o0 =>
   jn (σ := Unit) (fun (_ : Unit) =>
    jn (σ := Unit) (fun (_ : Unit) =>
     k54 ((w64 (o0 + (1 : Int))))
     ) fun k80 =>
    (idx x0 o0).bind fun y81 =>
    (idx x1 o0).bind fun y84 =>
    bif (!(decide (y81 = y84))) then
     some (false)
    else
     k80 ()
    ) fun k57 =>
   bif (decide (o0 < ((x0).length : Int))) then
    k57 ()
   else
    k53 ()
   ) big ((0 : Int))
  ) fun k2 =>
 bif (((x0).length : Int) != ((x1).length : Int)) then
  some (false)
 else
  k2 ()
theorem en22 : Enters Try.prog 22 := enters_of Try.func22 (by kernel_rfl) rfl
theorem wk22 {gI : Gh} {wI : World} {x0 : List LoomRun} {x1 : List LoomRun} {up0 : Value} (rp0 : RV gI.m wI x0 up0) {up1 : Value} (rp1 : RV gI.m wI x1 up1) {r : Bool} (h : f22 x0 x1 = some r) : Fn Try.prog 22 #[up0, up1] gI wI (fun _ _ v => v = .bool (r)) := by
 unfold f22 at h
 refine fn_of_E Try.func22 rfl (Nat.le_of_ble_eq_true rfl) fun g0 hm hfr => ?_
 have rp0 : RV g0.m wI x0 up0 := hm ▸ rp0
 have rp1 : RV g0.m wI x1 up1 := hm ▸ rp1
 show E _ 26 none _ _ _ _ _
 refine E_seq (E_region (EL_at (.bool false) rfl rfl ?_))
 refine EL_nil (thn_n (E_joinC h (fun (s : Unit) e w => ∃ (g : Gh) , Fr gI wI g w ∧ e 0 = up0 ∧ RV g.m w (x0 : List LoomRun) up0 ∧ e 1 = up1 ∧ RV g.m w (x1 : List LoomRun) up1) (fun X2 k2 hk2 h => ?_) ?_))
 ·refine E_seq (E_region (EL_mw up0 rfl rfl ?_))
  refine EL_pur (v := .int .i64 ((x0).length : Int)) (P_len Try.underlying31 rfl rp0) .plain rfl ?_
  refine EL_mw up1 rfl rfl ?_
  refine EL_pur (v := .int .i64 ((x1).length : Int)) (P_len Try.underlying31 rfl rp1) .plain rfl ?_
  refine EL_in (.bool ((((x0).length : Int) != ((x1).length : Int)))) rfl rfl rfl rfl ?_
  refine EL_nil (thn_n ?_)
  rcases csome h with ⟨hc3, h⟩ | ⟨hc3, h⟩
  ·refine E_ct hc3 rfl ?_
   refine E_seq (E_region (EL_at (.bool false) rfl rfl ?_))
   refine EL_nil (thn_n (E_ret (thn_r ?_)))
   obtain rfl := sinj h
   exact end1 rfl rfl (show _ = .bool false from rfl) ⟨_, hfr, rfl⟩
  ·refine E_cf hc3 rfl ?_
   exact E_skip (thn_n (hk2 () _ _ ⟨g0, hfr, rfl, rp0, rfl, rp1⟩ h))
 ·rintro _ v7 w4 ⟨g4, hfr, u5, x5, c6, d6⟩ h
  refine E_joinC h (fun (s : Unit) e w => ∃ (g : Gh) , Fr gI wI g w) (fun X53 k53 i6 h => ?_) ?_
  ·refine E_seq (E_region (EL_at (.int .i64 (0)) rfl rfl ?_))
   refine EL_nil (thn_n (E_block ?_))
   refine E_lp h (fun (s : Int) e w => ∃ (g : Gh) , Fr gI wI g w ∧ e 0 = up0 ∧ RV g.m w (x0 : List LoomRun) up0 ∧ e 1 = up1 ∧ RV g.m w (x1 : List LoomRun) up1 ∧ e 5 = .int .i64 (s)) ⟨g4, hfr, u5, x5, c6, d6, rfl⟩ (fun X54 k54 j6 => ?_)
   rintro o0 o7 c8 ⟨t5, hfr, j3, o3, p5, q5, u3⟩ h
   refine E_joinC h (fun (s : Unit) e w => ∃ (g : Gh) , Fr gI wI g w ∧ e 0 = up0 ∧ RV g.m w (x0 : List LoomRun) up0 ∧ e 1 = up1 ∧ RV g.m w (x1 : List LoomRun) up1 ∧ e 5 = .int .i64 (o0)) (fun X57 k57 l6 h => ?_) ?_
   ·refine E_seq (E_region (EL_mv u3 rfl ?_))
    refine EL_mv j3 rfl ?_
    refine EL_pur (v := .int .i64 ((x0).length : Int)) (P_len Try.underlying31 rfl o3) .plain rfl ?_
    refine EL_in (.bool ((decide (o0 < ((x0).length : Int))))) rfl rfl rfl rfl ?_
    refine EL_nil (thn_n ?_)
    rcases csome h with ⟨i3, h⟩ | ⟨i3, h⟩
    ·refine E_ct i3 rfl ?_
     exact E_skip (thn_n (l6 () _ _ ⟨t5, hfr, j3, o3, p5, q5, u3⟩ h))
    ·refine E_cf i3 rfl ?_
     refine E_exit ?_
     refine thn_e ?_
     refine thn_e ?_
     refine blk_hit ?_
     exact thn_n (i6 () _ _ ⟨t5, hfr⟩ h)
   ·rintro _ p7 e8 ⟨a7, hfr, z3, u0, d4, j1, z2⟩ h
    refine E_joinC h (fun (s : Unit) e w => ∃ (g : Gh) , Fr gI wI g w ∧ e 0 = up0 ∧ RV g.m w (x0 : List LoomRun) up0 ∧ e 1 = up1 ∧ RV g.m w (x1 : List LoomRun) up1 ∧ e 5 = .int .i64 (o0)) (fun X80 k80 v6 h => ?_) ?_
    ·refine E_block ?_
     refine E_seq ?_
     obtain ⟨y81, m4, h⟩ := bsome h
     have b7 := PT_idx u0 m4
     refine L_load (x := .tmp 19) Try.isAgg76 Try.sizeOf76 b7 fun c7 d7 x6 => ?_
     obtain ⟨y84, p4, h⟩ := bsome h
     have e7 := PT_idx j1 p4
     refine L_load (x := .tmp 23) Try.isAgg76 Try.sizeOf76 e7 fun g7 i7 y6 => ?_
     refine E_drawL (g := a7) (n := 9) [] [0, 1, 2, 3, 4, 5, 6, 7, 8] rfl mixed (by kernel_rfl) trivial ?_
     refine L_pur (c := up0) rfl rfl .plain (fun _ _ hd => P_move z3) ?_
     refine L_pur (c := .int .i64 (o0)) rfl rfl .plain (fun _ _ hd => P_move z2) ?_
     refine L_pur (c := ePtr up0 o0 3) rfl rfl .plain (fun _ _ hd => P_indexAddr (α := LoomRun) Try.underlying31 Try.sizeOf76 rfl u0 rfl m4) ?_
     refine L_ld (c := c7) rfl rfl .plain (fun _ _ h => h.ch) x6 rfl ?_
     refine L_pur (c := up1) rfl rfl .plain (fun _ _ hd => P_move d4) ?_
     refine L_pur (c := .int .i64 (o0)) rfl rfl .plain (fun _ _ hd => P_move z2) ?_
     refine L_pur (c := ePtr up1 o0 3) rfl rfl .plain (fun _ _ hd => P_indexAddr (α := LoomRun) Try.underlying31 Try.sizeOf76 rfl j1 rfl p4) ?_
     refine L_ld (c := g7) rfl rfl .plain (fun _ _ h => h.ch) y6 rfl ?_
     refine L_pur (c := .bool ((!(decide (y81 = y84))))) rfl rfl .plain (fun _ _ hd => P_sne seq_76 rfl eg_76 rfl rfl d7 i7) ?_
     refine L_nil fun j7 g8 hall => ?_
     have hs := hall.1
     have hfr := hfr.ext hs
     have u0 := u0.ext hs
     have j1 := j1.ext hs
     clear hs hall
     refine EL_nil (thn_n ?_)
     rcases csome h with ⟨d3, h⟩ | ⟨d3, h⟩
     ·refine E_ct d3 rfl ?_
      refine E_seq (E_region (EL_at (.bool false) rfl rfl ?_))
      refine EL_nil (thn_n (E_ret (blk_r ?_)))
      refine thn_r ?_
      refine thn_r ?_
      refine blk_r ?_
      refine thn_r ?_
      obtain rfl := sinj h
      exact end1 rfl rfl (show _ = .bool false from rfl) ⟨_, hfr, rfl⟩
     ·refine E_cf d3 rfl ?_
      exact E_skip (blk_n (thn_n (v6 () _ _ ⟨j7, hfr, z3, u0, d4, j1, z2⟩ h)))
    ·rintro _ m7 q7 ⟨z6, hfr, z4, d5, i5, l5, o5⟩ h
     refine E_region (EL_mv o5 rfl ?_)
     refine EL_in (.int .i64 ((w64 (o0 + (1 : Int))))) rfl rfl rfl rfl ?_
     refine EL_at (.int .i64 ((w64 (o0 + (1 : Int))))) rfl rfl ?_
     exact EL_nil (thn_n (j6 ((w64 (o0 + (1 : Int)))) _ _ ⟨z6, hfr, z4, d5, i5, l5, rfl⟩ h))
  ·rintro _ n7 t7 ⟨u7, hfr⟩ h
   refine E_seq (E_region (EL_at (.bool true) rfl rfl ?_))
   refine EL_nil (thn_n (E_ret ?_))
   obtain rfl := sinj h
   exact end1 rfl rfl (show _ = .bool true from rfl) ⟨_, hfr, rfl⟩
def f28 (x0 : List Int) (x1 : List Int) : Option (Bool) :=
 jn (σ := Unit) (fun (_ : Unit) =>
  jn (σ := Unit) (fun (_ : Unit) =>
   some (true)
   ) fun k53 =>
  lp (σ := Int) (fun k54 o0 =>
   jn (σ := Unit) (fun (_ : Unit) =>
    jn (σ := Unit) (fun (_ : Unit) =>
     k54 ((w64 (o0 + (1 : Int))))
     ) fun k80 =>
    (idx x0 o0).bind fun y81 =>
    (idx x1 o0).bind fun y84 =>
    bif (y81 != y84) then
     some (false)
    else
     k80 ()
    ) fun k57 =>
   bif (decide (o0 < ((x0).length : Int))) then
    k57 ()
   else
    k53 ()
   ) big ((0 : Int))
  ) fun k2 =>
 bif (((x0).length : Int) != ((x1).length : Int)) then
  some (false)
 else
  k2 ()
theorem en28 : Enters Try.prog 28 := enters_of Try.func28 (by kernel_rfl) rfl
theorem wk28 {gI : Gh} {wI : World} {x0 : List Int} {x1 : List Int} {up0 : Value} (rp0 : RV gI.m wI x0 up0) {up1 : Value} (rp1 : RV gI.m wI x1 up1) {r : Bool} (h : f28 x0 x1 = some r) : Fn Try.prog 28 #[up0, up1] gI wI (fun _ _ v => v = .bool (r)) := by
 unfold f28 at h
 refine fn_of_E Try.func28 rfl (Nat.le_of_ble_eq_true rfl) fun g0 hm hfr => ?_
 have rp0 : RV g0.m wI x0 up0 := hm ▸ rp0
 have rp1 : RV g0.m wI x1 up1 := hm ▸ rp1
 show E _ 26 none _ _ _ _ _
 refine E_seq (E_region (EL_at (.bool false) rfl rfl ?_))
 refine EL_nil (thn_n (E_joinC h (fun (s : Unit) e w => ∃ (g : Gh) , Fr gI wI g w ∧ e 0 = up0 ∧ RV g.m w (x0 : List Int) up0 ∧ e 1 = up1 ∧ RV g.m w (x1 : List Int) up1) (fun X2 k2 hk2 h => ?_) ?_))
 ·refine E_seq (E_region (EL_mw up0 rfl rfl ?_))
  refine EL_pur (v := .int .i64 ((x0).length : Int)) (P_len Try.underlying22 rfl rp0) .plain rfl ?_
  refine EL_mw up1 rfl rfl ?_
  refine EL_pur (v := .int .i64 ((x1).length : Int)) (P_len Try.underlying22 rfl rp1) .plain rfl ?_
  refine EL_in (.bool ((((x0).length : Int) != ((x1).length : Int)))) rfl rfl rfl rfl ?_
  refine EL_nil (thn_n ?_)
  rcases csome h with ⟨hc3, h⟩ | ⟨hc3, h⟩
  ·refine E_ct hc3 rfl ?_
   refine E_seq (E_region (EL_at (.bool false) rfl rfl ?_))
   refine EL_nil (thn_n (E_ret (thn_r ?_)))
   obtain rfl := sinj h
   exact end1 rfl rfl (show _ = .bool false from rfl) ⟨_, hfr, rfl⟩
  ·refine E_cf hc3 rfl ?_
   exact E_skip (thn_n (hk2 () _ _ ⟨g0, hfr, rfl, rp0, rfl, rp1⟩ h))
 ·rintro _ t7 w4 ⟨g4, hfr, u5, x5, c6, d6⟩ h
  refine E_joinC h (fun (s : Unit) e w => ∃ (g : Gh) , Fr gI wI g w) (fun X53 k53 i6 h => ?_) ?_
  ·refine E_seq (E_region (EL_at (.int .i64 (0)) rfl rfl ?_))
   refine EL_nil (thn_n (E_block ?_))
   refine E_lp h (fun (s : Int) e w => ∃ (g : Gh) , Fr gI wI g w ∧ e 0 = up0 ∧ RV g.m w (x0 : List Int) up0 ∧ e 1 = up1 ∧ RV g.m w (x1 : List Int) up1 ∧ e 5 = .int .i64 (s)) ⟨g4, hfr, u5, x5, c6, d6, rfl⟩ (fun X54 k54 j6 => ?_)
   rintro o0 m7 u7 ⟨t5, hfr, j3, o3, p5, q5, u3⟩ h
   refine E_joinC h (fun (s : Unit) e w => ∃ (g : Gh) , Fr gI wI g w ∧ e 0 = up0 ∧ RV g.m w (x0 : List Int) up0 ∧ e 1 = up1 ∧ RV g.m w (x1 : List Int) up1 ∧ e 5 = .int .i64 (o0)) (fun X57 k57 l6 h => ?_) ?_
   ·refine E_seq (E_region (EL_mv u3 rfl ?_))
    refine EL_mv j3 rfl ?_
    refine EL_pur (v := .int .i64 ((x0).length : Int)) (P_len Try.underlying22 rfl o3) .plain rfl ?_
    refine EL_in (.bool ((decide (o0 < ((x0).length : Int))))) rfl rfl rfl rfl ?_
    refine EL_nil (thn_n ?_)
    rcases csome h with ⟨i3, h⟩ | ⟨i3, h⟩
    ·refine E_ct i3 rfl ?_
     exact E_skip (thn_n (l6 () _ _ ⟨t5, hfr, j3, o3, p5, q5, u3⟩ h))
    ·refine E_cf i3 rfl ?_
     refine E_exit ?_
     refine thn_e ?_
     refine thn_e ?_
     refine blk_hit ?_
     exact thn_n (i6 () _ _ ⟨t5, hfr⟩ h)
   ·rintro _ n7 v7 ⟨a7, hfr, z3, u0, d4, j1, z2⟩ h
    refine E_joinC h (fun (s : Unit) e w => ∃ (g : Gh) , Fr gI wI g w ∧ e 0 = up0 ∧ RV g.m w (x0 : List Int) up0 ∧ e 1 = up1 ∧ RV g.m w (x1 : List Int) up1 ∧ e 5 = .int .i64 (o0)) (fun X80 k80 v6 h => ?_) ?_
    ·refine E_block ?_
     refine E_seq ?_
     obtain ⟨y81, m4, h⟩ := bsome h
     have b7 := PT_idx u0 m4
     refine L_load (x := .tmp 19) Try.isAgg3 Try.sizeOf3 b7 fun c8 c7 x6 => ?_
     obtain rfl := RV_int.1 c7
     obtain ⟨y84, p4, h⟩ := bsome h
     have d7 := PT_idx j1 p4
     refine L_load (x := .tmp 23) Try.isAgg3 Try.sizeOf3 d7 fun e8 e7 y6 => ?_
     obtain rfl := RV_int.1 e7
     refine E_drawL (g := a7) (n := 9) [] [0, 1, 2, 3, 4, 5, 6, 7, 8] rfl mixed (by kernel_rfl) trivial ?_
     refine L_pur (c := up0) rfl rfl .plain (fun _ _ hd => P_move z3) ?_
     refine L_pur (c := .int .i64 (o0)) rfl rfl .plain (fun _ _ hd => P_move z2) ?_
     refine L_pur (c := ePtr up0 o0 1) rfl rfl .plain (fun _ _ hd => P_indexAddr (α := Int) Try.underlying22 Try.sizeOf3 rfl u0 rfl m4) ?_
     refine L_ld (c := .int .i64 (y81)) rfl rfl .plain (fun _ _ h => h.ch) x6 rfl ?_
     refine L_pur (c := up1) rfl rfl .plain (fun _ _ hd => P_move d4) ?_
     refine L_pur (c := .int .i64 (o0)) rfl rfl .plain (fun _ _ hd => P_move z2) ?_
     refine L_pur (c := ePtr up1 o0 1) rfl rfl .plain (fun _ _ hd => P_indexAddr (α := Int) Try.underlying22 Try.sizeOf3 rfl j1 rfl p4) ?_
     refine L_ld (c := .int .i64 (y84)) rfl rfl .plain (fun _ _ h => h.ch) y6 rfl ?_
     refine L_pur (c := .bool ((y81 != y84))) rfl rfl .plain (fun _ _ hd => P_int rfl rfl rfl) ?_
     refine L_nil fun g7 g8 hall => ?_
     have hs := hall.1
     have hfr := hfr.ext hs
     have u0 := u0.ext hs
     have j1 := j1.ext hs
     clear hs hall
     refine EL_nil (thn_n ?_)
     rcases csome h with ⟨d3, h⟩ | ⟨d3, h⟩
     ·refine E_ct d3 rfl ?_
      refine E_seq (E_region (EL_at (.bool false) rfl rfl ?_))
      refine EL_nil (thn_n (E_ret (blk_r ?_)))
      refine thn_r ?_
      refine thn_r ?_
      refine blk_r ?_
      refine thn_r ?_
      obtain rfl := sinj h
      exact end1 rfl rfl (show _ = .bool false from rfl) ⟨_, hfr, rfl⟩
     ·refine E_cf d3 rfl ?_
      exact E_skip (blk_n (thn_n (v6 () _ _ ⟨g7, hfr, z3, u0, d4, j1, z2⟩ h)))
    ·rintro _ i7 o7 ⟨z6, hfr, z4, d5, i5, l5, o5⟩ h
     refine E_region (EL_mv o5 rfl ?_)
     refine EL_in (.int .i64 ((w64 (o0 + (1 : Int))))) rfl rfl rfl rfl ?_
     refine EL_at (.int .i64 ((w64 (o0 + (1 : Int))))) rfl rfl ?_
     exact EL_nil (thn_n (j6 ((w64 (o0 + (1 : Int)))) _ _ ⟨z6, hfr, z4, d5, i5, l5, rfl⟩ h))
  ·rintro _ j7 p7 ⟨q7, hfr⟩ h
   refine E_seq (E_region (EL_at (.bool true) rfl rfl ?_))
   refine EL_nil (thn_n (E_ret ?_))
   obtain rfl := sinj h
   exact end1 rfl rfl (show _ = .bool true from rfl) ⟨_, hfr, rfl⟩
def f32 (x0 : List LoomRun) : Option ((List LoomRun)) :=
 (apnd 24 (([] : List LoomRun)) x0).bind fun y3 =>
 some (y3)
theorem en32 : Enters Try.prog 32 := enters_of Try.func32 (by kernel_rfl) rfl
theorem wk32 {gI : Gh} {wI : World} {x0 : List LoomRun} {up0 : Value} (rp0 : RV gI.m wI x0 up0) {r : (List LoomRun)} (h : f32 x0 = some r) : Fn Try.prog 32 #[up0] gI wI (fun m w v => RV m w (r) v) := by
 unfold f32 at h
 refine fn_of_E Try.func32 rfl (Nat.le_of_ble_eq_true rfl) fun g0 hm hfr => ?_
 have rp0 : RV g0.m wI x0 up0 := hm ▸ rp0
 show E _ 6 none _ _ _ _ _
 refine E_seq (E_region (EL_at (.slice none 0 0) rfl rfl ?_))
 refine EL_nil (thn_n (E_seq (E_region (EL_do .plain rfl (D_buildSlice (g := g0) 3003 (xs := ([] : List LoomRun)) (vs := []) Try.underlying31 Try.sizeOf76 Try.zeroValue76 rfl rfl .nil RVs.nil rfl rfl fun g1 w1 v1 hs o1 r1 hxt hfl => ?_)))))
 have hfr := hfr.stp hs
 have rp0 := rp0.stp hs
 refine EL_mw up0 rfl rfl ?_
 obtain ⟨y3, hy3, h⟩ := bsome h
 refine EL_do .plain rfl (D_append (g := g1) (i := 3003) Try.underlying31 info_76 rfl rfl o1 r1 rfl rp0 hy3 fun g2 w2 v2 hs o2 r2 _ => ?_)
 have hfr := hfr.stp hs
 refine EL_at v2 rfl rfl ?_
 refine EL_nil (thn_n (E_ret ?_))
 obtain rfl := sinj h
 exact end1 rfl rfl (show _ = v2 from rfl) ⟨_, hfr, r2⟩
def f36 (x0 : Int) (x1 : Int) (x2 : Int) : Option (Bool) :=
 Option.bind (α := Bool) (
  bif (decide (x0 ≥ x1)) then
   some ((decide (x0 ≤ x2)))
  else
   some (false)
  ) fun o0 =>
 some (o0)
def f44 (x0 : LoomMill) (x1 : List LoomOrder) (x2 : List LoomRun) : Option (Bool) :=
 jn (σ := Unit) (fun (_ : Unit) =>
  some (true)
  ) fun zC =>
 lp (σ := Int) (fun aD d3 =>
  jn (σ := Unit) (fun (_ : Unit) =>
   jn (σ := Unit) (fun (_ : Unit) =>
    aD ((w64 (d3 + (1 : Int))))
    ) fun bD =>
   lp (σ := Int) (fun cD j3 =>
    jn (σ := Unit) (fun (_ : Unit) =>
     jn (σ := Unit) (fun (_ : Unit) =>
      cD ((w64 (j3 + (1 : Int))))
      ) fun yB =>
     (idx x2 d3).bind fun o0 =>
     (idx x2 j3).bind fun j1 =>
     jn (σ := Unit) (fun (_ : Unit) =>
      Option.bind (α := Bool) (
       lp (σ := Bool × Int) (fun dD (z4, o3) =>
        jn (σ := Unit) (fun (_ : Unit) =>
         Option.bind (α := Bool) (
          (idx x2 o3).bind fun z2 =>
          bif z4 then
           some (true)
          else
           bif (o3 != d3) then
            bif (o3 != j3) then
             bif ((z2).Loom == (o0).Loom) then
              bif (decide ((z2).From > (o0).From)) then
               bif (decide ((z2).From < (j1).From)) then
                some (true)
               else
                bif ((z2).From == (j1).From) then
                 some ((decide ((z2).Order < (j1).Order)))
                else
                 some (false)
              else
               bif ((z2).From == (o0).From) then
                bif (decide ((z2).Order > (o0).Order)) then
                 bif (decide ((z2).From < (j1).From)) then
                  some (true)
                 else
                  bif ((z2).From == (j1).From) then
                   some ((decide ((z2).Order < (j1).Order)))
                  else
                   some (false)
                else
                 some (false)
               else
                some (false)
             else
              some (false)
            else
             some (false)
           else
            some (false)
          ) fun r8 =>
         dD (r8, (w64 (o3 + (1 : Int))))
         ) fun eD =>
        bif (decide (o3 < ((x2).length : Int))) then
         eD ()
        else
         some (z4)
        ) big (false, (0 : Int))
       ) fun z6 =>
      (idx x1 (o0).Order).bind fun m8 =>
      Option.bind (α := Int) (
       Option.bind (α := Bool) (
        bif (!z6) then
         (idx x1 (o0).Order).bind fun y8 =>
         (idx x1 (j1).Order).bind fun z8 =>
         some (((y8).Chain != (z8).Chain))
        else
         some (false)
        ) fun l8 =>
       bif l8 then
        some ((w64 ((w64 ((o0).From + (m8).Woven)) + (x0).Change)))
       else
        some ((w64 ((o0).From + (m8).Woven)))
       ) fun t8 =>
      bif (decide ((j1).From < t8)) then
       some (false)
      else
       yB ()
      ) fun gD =>
     Option.bind (α := Bool) (
      bif (d3 == j3) then
       some (true)
      else
       bif ((o0).Loom != (j1).Loom) then
        some (true)
       else
        bif (decide ((o0).From > (j1).From)) then
         some (true)
        else
         bif ((o0).From == (j1).From) then
          some ((decide ((o0).Order > (j1).Order)))
         else
          some (false)
      ) fun n8 =>
     bif n8 then
      yB ()
     else
      gD ()
     ) fun iD =>
    bif (decide (j3 < ((x2).length : Int))) then
     iD ()
    else
     bD ()
    ) big ((0 : Int))
   ) fun jD =>
  bif (decide (d3 < ((x2).length : Int))) then
   jD ()
  else
   zC ()
  ) big ((0 : Int))
theorem en44 : Enters Try.prog 44 := enters_of Try.func44 (by kernel_rfl) rfl
theorem wk44 {gI : Gh} {wI : World} {x0 : LoomMill} {x1 : List LoomOrder} {x2 : List LoomRun} {up0 : Value} (rp0 : RV gI.m wI x0 up0) {up1 : Value} (rp1 : RV gI.m wI x1 up1) {up2 : Value} (rp2 : RV gI.m wI x2 up2) {r : Bool} (h : f44 x0 x1 x2 = some r) : Fn Try.prog 44 #[up0, up1, up2] gI wI (fun _ _ v => v = .bool (r)) := by
 unfold f44 at h
 refine fn_of_E Try.func44 rfl (Nat.le_of_ble_eq_true rfl) fun g0 hm hfr => ?_
 have rp0 : RV g0.m wI x0 up0 := hm ▸ rp0
 have rp1 : RV g0.m wI x1 up1 := hm ▸ rp1
 have rp2 : RV g0.m wI x2 up2 := hm ▸ rp2
 show E _ 170 none _ _ _ _ _
 refine E_seq (E_region (EL_do .plain rfl (D_box (g := g0) rfl rp0 fun g1 w1 p1 hs q1 => ?_)))
 have hfr := hfr.ext hs
 have rp1 := rp1.ext hs
 have rp2 := rp2.ext hs
 refine EL_at (.bool false) rfl rfl ?_
 refine EL_nil (thn_n (E_joinC h (fun (s : Unit) e w => ∃ (g : Gh) , Fr gI wI g w) (fun X2946 zC oG h => ?_) ?_))
 ·refine E_seq (E_region (EL_at (.int .i64 (0)) rfl rfl ?_))
  refine EL_nil (thn_n (E_block ?_))
  refine E_lp h (fun (s : Int) e w => ∃ (g : Gh) , Fr gI wI g w ∧ e 1 = up1 ∧ RV g.m w (x1 : List LoomOrder) up1 ∧ e 2 = up2 ∧ RV g.m w (x2 : List LoomRun) up2 ∧ e 3 = p1 ∧ PT g.m w (x0 : LoomMill) p1 ∧ e 7 = .int .i64 (s)) ⟨g1, hfr, rfl, rp1, rfl, rp2, rfl, q1, rfl⟩ (fun X2947 aD pG => ?_)
  rintro d3 yJ uK ⟨kD, hfr, zD, aE, kA, lA, bE, cE, mA⟩ h
  refine E_joinC h (fun (s : Unit) e w => ∃ (g : Gh) , Fr gI wI g w ∧ e 1 = up1 ∧ RV g.m w (x1 : List LoomOrder) up1 ∧ e 2 = up2 ∧ RV g.m w (x2 : List LoomRun) up2 ∧ e 3 = p1 ∧ PT g.m w (x0 : LoomMill) p1 ∧ e 7 = .int .i64 (d3)) (fun X2950 jD qG h => ?_) ?_
  ·refine E_seq (E_region (EL_mv mA rfl ?_))
   refine EL_mv kA rfl ?_
   refine EL_pur (v := .int .i64 ((x2).length : Int)) (P_len Try.underlying31 rfl lA) .plain rfl ?_
   refine EL_in (.bool ((decide (d3 < ((x2).length : Int))))) rfl rfl rfl rfl ?_
   refine EL_nil (thn_n ?_)
   rcases csome h with ⟨n9, h⟩ | ⟨n9, h⟩
   ·refine E_ct n9 rfl ?_
    exact E_skip (thn_n (qG () _ _ ⟨kD, hfr, zD, aE, kA, lA, bE, cE, mA⟩ h))
   ·refine E_cf n9 rfl ?_
    refine E_exit ?_
    refine thn_e ?_
    refine thn_e ?_
    refine blk_hit ?_
    exact thn_n (oG () _ _ ⟨kD, hfr⟩ h)
  ·rintro _ zJ vK ⟨kH, hfr, dE, eE, gE, iE, jE, kE, lE⟩ h
   refine E_joinC h (fun (s : Unit) e w => ∃ (g : Gh) , Fr gI wI g w ∧ e 1 = up1 ∧ RV g.m w (x1 : List LoomOrder) up1 ∧ e 2 = up2 ∧ RV g.m w (x2 : List LoomRun) up2 ∧ e 3 = p1 ∧ PT g.m w (x0 : LoomMill) p1 ∧ e 7 = .int .i64 (d3)) (fun X4421 bD rG h => ?_) ?_
   ·refine E_block ?_
    refine E_seq (E_region (EL_at (.int .i64 (0)) rfl rfl ?_))
    refine EL_nil (thn_n (E_block ?_))
    refine E_lp h (fun (s : Int) e w => ∃ (g : Gh) , Fr gI wI g w ∧ e 1 = up1 ∧ RV g.m w (x1 : List LoomOrder) up1 ∧ e 2 = up2 ∧ RV g.m w (x2 : List LoomRun) up2 ∧ e 3 = p1 ∧ PT g.m w (x0 : LoomMill) p1 ∧ e 7 = .int .i64 (d3) ∧ e 8 = .int .i64 (s)) ⟨kH, hfr, dE, eE, gE, iE, jE, kE, lE, rfl⟩ (fun X4422 cD sG => ?_)
    rintro j3 aK xK ⟨lD, hfr, nA, oA, d9, e9, pA, qA, rA, sA⟩ h
    refine E_joinC h (fun (s : Unit) e w => ∃ (g : Gh) , Fr gI wI g w ∧ e 1 = up1 ∧ RV g.m w (x1 : List LoomOrder) up1 ∧ e 2 = up2 ∧ RV g.m w (x2 : List LoomRun) up2 ∧ e 3 = p1 ∧ PT g.m w (x0 : LoomMill) p1 ∧ e 7 = .int .i64 (d3) ∧ e 8 = .int .i64 (j3)) (fun X4425 iD tG h => ?_) ?_
    ·refine E_seq (E_region (EL_mv sA rfl ?_))
     refine EL_mv d9 rfl ?_
     refine EL_pur (v := .int .i64 ((x2).length : Int)) (P_len Try.underlying31 rfl e9) .plain rfl ?_
     refine EL_in (.bool ((decide (j3 < ((x2).length : Int))))) rfl rfl rfl rfl ?_
     refine EL_nil (thn_n ?_)
     rcases csome h with ⟨o9, h⟩ | ⟨o9, h⟩
     ·refine E_ct o9 rfl ?_
      exact E_skip (thn_n (tG () _ _ ⟨lD, hfr, nA, oA, d9, e9, pA, qA, rA, sA⟩ h))
     ·refine E_cf o9 rfl ?_
      refine E_exit ?_
      refine thn_e ?_
      refine thn_e ?_
      refine blk_hit ?_
      exact blk_n (thn_n (rG () _ _ ⟨lD, hfr, nA, oA, d9, e9, pA, qA, rA⟩ h))
    ·rintro _ bK lH ⟨mD, hfr, o8, d7, e8, j6, p8, e7, g8, i8⟩ h
     refine E_joinC h (fun (s : Unit) e w => ∃ (g : Gh) , Fr gI wI g w ∧ e 1 = up1 ∧ RV g.m w (x1 : List LoomOrder) up1 ∧ e 2 = up2 ∧ RV g.m w (x2 : List LoomRun) up2 ∧ e 3 = p1 ∧ PT g.m w (x0 : LoomMill) p1 ∧ e 7 = .int .i64 (d3) ∧ e 8 = .int .i64 (j3)) (fun X5158 yB cC h => ?_) ?_
     ·refine E_block ?_
      refine E_seq ?_
      obtain ⟨o0, dC, h⟩ := bsome h
      have mH := PT_idx j6 dC
      refine L_load (x := .tmp 29) Try.isAgg76 Try.sizeOf76 mH fun nD zB uG => ?_
      obtain ⟨j1, eC, h⟩ := bsome h
      have nH := PT_idx j6 eC
      refine L_load (x := .tmp 33) Try.isAgg76 Try.sizeOf76 nH fun oD a9 vG => ?_
      refine E_drawTL (g := mD) (n := 10) [4, 5, 6, 7] [(8, (fun v g w => OB 2009 g w 76 (⟨0, 0, 0⟩ : LoomRun) v)), (9, (fun v g w => OB 2010 g w 76 (⟨0, 0, 0⟩ : LoomRun) v))] [0, 1, 2, 3, 4, 5, 6, 7, 8, 9] rfl mixed (by kernel_rfl) (⟨fun _ => up_ob, fun _ => up_ob, trivial⟩) rfl ?_
      refine L_pur (c := up2) rfl rfl .plain (fun _ _ hd => P_move e8) ?_
      refine L_pur (c := .int .i64 (d3)) rfl rfl .plain (fun _ _ hd => P_move g8) ?_
      refine L_pur (c := ePtr up2 d3 3) rfl rfl .plain (fun _ _ hd => P_indexAddr (α := LoomRun) Try.underlying31 Try.sizeOf76 rfl j6 rfl dC) ?_
      refine L_ld (c := nD) rfl rfl .plain (fun _ _ h => h.ch) uG rfl ?_
      refine L_purL (c := up2) rfl rfl .plain (P_move e8) ?_
      refine L_purL (c := .int .i64 (j3)) rfl rfl .plain (P_move i8) ?_
      refine L_purL (c := ePtr up2 j3 3) rfl rfl .plain (P_indexAddr (α := LoomRun) Try.underlying31 Try.sizeOf76 rfl j6 rfl eC) ?_
      refine L_ldL (c := oD) rfl rfl .plain (fun _ _ h => h.ch) rfl vG rfl ?_
      refine L_do (φ := fun v g w => OB 2009 g w 76 (⟨0, 0, 0⟩ : LoomRun) v) rfl rfl .plain (fun g w hd => D_allocX (g := g) 2009 (⟨0, 0, 0⟩ : LoomRun) Try.zeroValue76 (fun m w => ⟨_, (rep_two rep_int (rep_two rep_int rep_int)), rfl⟩) fun g' w' v hs b => ⟨g', hs, b⟩) (fun p5 hv => ?_)
      clear hv
      refine L_do (φ := fun v g w => OB 2010 g w 76 (⟨0, 0, 0⟩ : LoomRun) v) rfl rfl .plain (fun g w hd => D_allocX (g := g) 2010 (⟨0, 0, 0⟩ : LoomRun) Try.zeroValue76 (fun m w => ⟨_, (rep_two rep_int (rep_two rep_int rep_int)), rfl⟩) fun g' w' v hs b => ⟨g', hs, b⟩) (fun p4 hv => ?_)
      clear hv
      refine L_nil fun pD oH hall => ?_
      have hs := hall.1
      have hlt : Lt mD.m lH pD oH := hs.ch
      have hfr := hfr.ext hs
      have d7 := d7.ext hs
      have j6 := j6.ext hs
      have e7 := e7.ext hs
      have zB := zB.ext hs
      have a9 := a9.ext hs
      have b5181 := (word_all (A := fun g w => OB 2009 g w 76 (⟨0, 0, 0⟩ : LoomRun) p5) 8 rfl hall)
      have b5182 := (word_all (A := fun g w => OB 2010 g w 76 (⟨0, 0, 0⟩ : LoomRun) p4) 9 rfl hall)
      clear hs hall
      refine TL_do hlt.w .plain rfl (D_storeOc (g := pD) (v := nD) Try.sizeOf76 rfl b5181 rfl zB fun pH yK hs b5183 cb => ?_)
      clear cb
      have hfr := hfr.stp hs
      have hlt := hlt.stp hs
      have d7 := d7.stp hs
      have j6 := j6.stp hs
      have e7 := e7.stp hs
      have a9 := a9.stp hs
      have b5182 := b5182.stp hs rfl
      refine TL_do hlt.w .plain rfl (D_storeOc (g := pH) (v := oD) Try.sizeOf76 rfl b5182 rfl a9 fun q7 zK hs b5184 cb => ?_)
      clear cb
      have hfr := hfr.stp hs
      have hlt := hlt.stp hs
      have d7 := d7.stp hs
      have j6 := j6.stp hs
      have e7 := e7.stp hs
      have b5183 := b5183.stp hs rfl
      refine TL_nil hlt.w ?_
      clear hlt
      refine thn_n (E_joinC h (fun (s : Unit) e w => ∃ (g : Gh) , Fr gI wI g w ∧ e 1 = up1 ∧ RV g.m w (x1 : List LoomOrder) up1 ∧ e 2 = up2 ∧ RV g.m w (x2 : List LoomRun) up2 ∧ e 3 = p1 ∧ PT g.m w (x0 : LoomMill) p1 ∧ e 7 = .int .i64 (d3) ∧ e 8 = .int .i64 (j3) ∧ e 9 = p5 ∧ OB 2009 g w 76 (o0 : LoomRun) p5 ∧ e 10 = p4 ∧ OB 2010 g w 76 (j1 : LoomRun) p4) (fun X5227 gD xG h => ?_) ?_)
      ·obtain ⟨n8, hx, h⟩ := bsome h
       refine E_join (fun e w => ∃ (g : Gh) , Fr gI wI g w ∧ e 1 = up1 ∧ RV g.m w (x1 : List LoomOrder) up1 ∧ e 2 = up2 ∧ RV g.m w (x2 : List LoomRun) up2 ∧ e 3 = p1 ∧ PT g.m w (x0 : LoomMill) p1 ∧ e 7 = .int .i64 (d3) ∧ e 8 = .int .i64 (j3) ∧ e 9 = p5 ∧ OB 2009 g w 76 (o0 : LoomRun) p5 ∧ e 10 = p4 ∧ OB 2010 g w 76 (j1 : LoomRun) p4 ∧ e 65 = .bool (n8)) (fun Q' hQ => ?_) (fun cK aL hR => ?_)
       ·replace h := hx
        clear hx
        refine E_region (EL_mv g8 rfl ?_)
        refine EL_mv i8 rfl ?_
        refine EL_in (.bool ((d3 == j3))) rfl rfl rfl rfl ?_
        refine EL_mw (.bool ((d3 == j3))) rfl rfl ?_
        rcases csome h with ⟨g7, h⟩ | ⟨g7, h⟩
        ·refine EL_skip (.no2 rfl rfl g7 rfl) rfl ?_
         refine EL_skip (.no2 rfl rfl g7 rfl) rfl ?_
         refine EL_skip (.no2 rfl rfl g7 rfl) rfl ?_
         refine EL_skip (.no2 rfl rfl g7 rfl) rfl ?_
         refine EL_skip (.no2 rfl rfl g7 rfl) rfl ?_
         refine EL_pur (v := .bool true) (P_pick (b := (d3 == j3)) rfl (pick_t g7 rfl)) .plain rfl ?_
         refine EL_dead 21 rfl ?_
         refine EL_nil ?_
         obtain rfl := sinj h
         exact hQ _ _ ⟨q7, hfr, o8, d7, e8, j6, p8, e7, g8, i8, rfl, b5183, rfl, b5184, rfl⟩
        ·refine EL_pur (v := fPtr p5 1) (P_fieldAddr at_76_1 rfl (OB.ptr b5183)) (.yes2 rfl rfl g7) rfl ?_
         refine EL_do (.yes2 rfl rfl g7) rfl (D_loadF (g := q7) part_LoomRun_1.1 Try.isAgg3 Try.sizeOf3 rfl b5183 fun bL qH => ?_)
         obtain rfl := RV_int.1 qH
         refine EL_pur (v := fPtr p4 1) (P_fieldAddr at_76_1 rfl (OB.ptr b5184)) (.yes2 rfl rfl g7) rfl ?_
         refine EL_do (.yes2 rfl rfl g7) rfl (D_loadF (g := q7) part_LoomRun_1.1 Try.isAgg3 Try.sizeOf3 rfl b5184 fun cL sH => ?_)
         obtain rfl := RV_int.1 sH
         refine EL_pur (v := .bool (((o0).Loom != (j1).Loom))) (P_int rfl rfl rfl) (.yes2 rfl rfl g7) rfl ?_
         refine EL_pur (v := .bool (((o0).Loom != (j1).Loom))) (P_pick (b := (d3 == j3)) rfl (pick_f g7 rfl)) .plain rfl ?_
         refine EL_mw (.bool (((o0).Loom != (j1).Loom))) rfl rfl ?_
         rcases csome h with ⟨i7, h⟩ | ⟨i7, h⟩
         ·refine EL_skip (.no2 rfl rfl i7 rfl) rfl ?_
          refine EL_skip (.no2 rfl rfl i7 rfl) rfl ?_
          refine EL_skip (.no2 rfl rfl i7 rfl) rfl ?_
          refine EL_skip (.no2 rfl rfl i7 rfl) rfl ?_
          refine EL_skip (.no2 rfl rfl i7 rfl) rfl ?_
          refine EL_pur (v := .bool true) (P_pick (b := ((o0).Loom != (j1).Loom)) rfl (pick_t i7 rfl)) .plain rfl ?_
          refine EL_dead 14 rfl ?_
          refine EL_nil ?_
          obtain rfl := sinj h
          exact hQ _ _ ⟨q7, hfr, o8, d7, e8, j6, p8, e7, g8, i8, rfl, b5183, rfl, b5184, rfl⟩
         ·refine EL_pur (v := fPtr p5 2) (P_fieldAddr at_76_2 rfl (OB.ptr b5183)) (.yes2 rfl rfl i7) rfl ?_
          refine EL_do (.yes2 rfl rfl i7) rfl (D_loadF (g := q7) part_LoomRun_2.1 Try.isAgg3 Try.sizeOf3 rfl b5183 fun dL tH => ?_)
          obtain rfl := RV_int.1 tH
          refine EL_pur (v := fPtr p4 2) (P_fieldAddr at_76_2 rfl (OB.ptr b5184)) (.yes2 rfl rfl i7) rfl ?_
          refine EL_do (.yes2 rfl rfl i7) rfl (D_loadF (g := q7) part_LoomRun_2.1 Try.isAgg3 Try.sizeOf3 rfl b5184 fun eL uH => ?_)
          obtain rfl := RV_int.1 uH
          refine EL_pur (v := .bool ((decide ((o0).From > (j1).From)))) (P_int rfl rfl rfl) (.yes2 rfl rfl i7) rfl ?_
          refine EL_pur (v := .bool ((decide ((o0).From > (j1).From)))) (P_pick (b := ((o0).Loom != (j1).Loom)) rfl (pick_f i7 rfl)) .plain rfl ?_
          refine EL_mw (.bool ((decide ((o0).From > (j1).From)))) rfl rfl ?_
          rcases csome h with ⟨q5, h⟩ | ⟨q5, h⟩
          ·refine EL_skip (.no2 rfl rfl q5 rfl) rfl ?_
           refine EL_skip (.no2 rfl rfl q5 rfl) rfl ?_
           refine EL_skip (.no2 rfl rfl q5 rfl) rfl ?_
           refine EL_skip (.no2 rfl rfl q5 rfl) rfl ?_
           refine EL_skip (.no2 rfl rfl q5 rfl) rfl ?_
           refine EL_skip (.no2 rfl rfl q5 rfl) rfl ?_
           refine EL_dead 5 rfl ?_
           refine EL_skip (.no2 rfl rfl q5 rfl) rfl ?_
           refine EL_pur (v := .bool true) (P_pick (b := (decide ((o0).From > (j1).From))) rfl (pick_t q5 rfl)) .plain rfl ?_
           refine EL_nil ?_
           obtain rfl := sinj h
           exact hQ _ _ ⟨q7, hfr, o8, d7, e8, j6, p8, e7, g8, i8, rfl, b5183, rfl, b5184, rfl⟩
          ·refine EL_pur (v := fPtr p5 2) (P_fieldAddr at_76_2 rfl (OB.ptr b5183)) (.yes2 rfl rfl q5) rfl ?_
           refine EL_do (.yes2 rfl rfl q5) rfl (D_loadF (g := q7) part_LoomRun_2.1 Try.isAgg3 Try.sizeOf3 rfl b5183 fun gL vH => ?_)
           obtain rfl := RV_int.1 vH
           refine EL_pur (v := fPtr p4 2) (P_fieldAddr at_76_2 rfl (OB.ptr b5184)) (.yes2 rfl rfl q5) rfl ?_
           refine EL_do (.yes2 rfl rfl q5) rfl (D_loadF (g := q7) part_LoomRun_2.1 Try.isAgg3 Try.sizeOf3 rfl b5184 fun iL xH => ?_)
           obtain rfl := RV_int.1 xH
           refine EL_pur (v := .bool (((o0).From == (j1).From))) (P_int rfl rfl rfl) (.yes2 rfl rfl q5) rfl ?_
           refine EL_pur (v := .bool (((o0).From == (j1).From))) (P_move rfl) (.yes2 rfl rfl q5) rfl ?_
           rcases csome h with ⟨j7, h⟩ | ⟨j7, h⟩
           ·refine EL_pur (v := fPtr p5 0) (P_fieldAddr at_76_0 rfl (OB.ptr b5183)) (.yes2 rfl rfl j7) rfl ?_
            refine EL_do (.yes2 rfl rfl j7) rfl (D_loadF (g := q7) part_LoomRun_0.1 Try.isAgg3 Try.sizeOf3 rfl b5183 fun jL yH => ?_)
            obtain rfl := RV_int.1 yH
            refine EL_pur (v := fPtr p4 0) (P_fieldAddr at_76_0 rfl (OB.ptr b5184)) (.yes2 rfl rfl j7) rfl ?_
            refine EL_do (.yes2 rfl rfl j7) rfl (D_loadF (g := q7) part_LoomRun_0.1 Try.isAgg3 Try.sizeOf3 rfl b5184 fun kL zH => ?_)
            obtain rfl := RV_int.1 zH
            refine EL_pur (v := .bool ((decide ((o0).Order > (j1).Order)))) (P_int rfl rfl rfl) (.yes2 rfl rfl j7) rfl ?_
            refine EL_pur (v := .bool ((decide ((o0).Order > (j1).Order)))) (P_pick (b := ((o0).From == (j1).From)) rfl (pick_t j7 rfl)) (.yes2 rfl rfl q5) rfl ?_
            refine EL_pur (v := .bool ((decide ((o0).Order > (j1).Order)))) (P_pick (b := (decide ((o0).From > (j1).From))) rfl (pick_f q5 rfl)) .plain rfl ?_
            refine EL_nil ?_
            obtain rfl := sinj h
            exact hQ _ _ ⟨q7, hfr, o8, d7, e8, j6, p8, e7, g8, i8, rfl, b5183, rfl, b5184, rfl⟩
           ·refine EL_skip (.no2 rfl rfl j7 rfl) rfl ?_
            refine EL_skip (.no2 rfl rfl j7 rfl) rfl ?_
            refine EL_skip (.no2 rfl rfl j7 rfl) rfl ?_
            refine EL_skip (.no2 rfl rfl j7 rfl) rfl ?_
            refine EL_skip (.no2 rfl rfl j7 rfl) rfl ?_
            refine EL_pur (v := .bool false) (P_pick (b := ((o0).From == (j1).From)) rfl (pick_f j7 rfl)) (.yes2 rfl rfl q5) rfl ?_
            refine EL_pur (v := .bool false) (P_pick (b := (decide ((o0).From > (j1).From))) rfl (pick_f q5 rfl)) .plain rfl ?_
            refine EL_nil ?_
            obtain rfl := sinj h
            exact hQ _ _ ⟨q7, hfr, o8, d7, e8, j6, p8, e7, g8, i8, rfl, b5183, rfl, b5184, rfl⟩
       ·clear hx
        obtain ⟨qD, hfr, tA, uA, vA, xA, yA, zA, aB, bB, mE, nE, mC, nC, p9⟩ := hR
        rcases csome h with ⟨q9, h⟩ | ⟨q9, h⟩
        ·refine E_cond_true (Eq.trans (show ev _ _ = .bool (n8) from p9) (congrArg Value.bool q9)) ?_
         refine E_exit ?_
         refine thn_e ?_
         refine blk_hit ?_
         exact thn_n (cC () _ _ ⟨qD, hfr, tA, uA, vA, xA, yA, zA, aB, bB⟩ h)
        ·refine E_cond_false (Eq.trans (show ev _ _ = .bool (n8) from p9) (congrArg Value.bool q9)) ?_
         exact E_skip (thn_n (xG () _ _ ⟨qD, hfr, tA, uA, vA, xA, yA, zA, aB, bB, mE, nE, mC, nC⟩ h))
      ·rintro _ dK lL ⟨aI, hfr, oE, rE, sE, tE, uE, vE, xE, yE, zE, cF, oC, qC⟩ h
       refine E_seq (E_region (EL_at (.bool false) rfl rfl ?_))
       refine EL_nil (thn_n ?_)
       obtain ⟨z6, hx, h⟩ := bsome h
       refine E_join (fun e w => ∃ (g : Gh) , Fr gI wI g w ∧ e 1 = up1 ∧ RV g.m w (x1 : List LoomOrder) up1 ∧ e 2 = up2 ∧ RV g.m w (x2 : List LoomRun) up2 ∧ e 3 = p1 ∧ PT g.m w (x0 : LoomMill) p1 ∧ e 7 = .int .i64 (d3) ∧ e 8 = .int .i64 (j3) ∧ e 9 = p5 ∧ OB 2009 g w 76 (o0 : LoomRun) p5 ∧ e 10 = p4 ∧ OB 2010 g w 76 (j1 : LoomRun) p4 ∧ e 11 = .bool (z6)) (fun Q' hQ => ?_) (fun eK mL hR => ?_)
       ·replace h := hx
        clear hx
        refine E_seq (E_region (EL_at (.int .i64 (0)) rfl rfl ?_))
        refine EL_nil (thn_n (E_block ?_))
        refine E_lp h (fun (s : Bool × Int) e w => ∃ (g : Gh) , Fr gI wI g w ∧ e 1 = up1 ∧ RV g.m w (x1 : List LoomOrder) up1 ∧ e 2 = up2 ∧ RV g.m w (x2 : List LoomRun) up2 ∧ e 3 = p1 ∧ PT g.m w (x0 : LoomMill) p1 ∧ e 7 = .int .i64 (d3) ∧ e 8 = .int .i64 (j3) ∧ e 9 = p5 ∧ OB 2009 g w 76 (o0 : LoomRun) p5 ∧ e 10 = p4 ∧ OB 2010 g w 76 (j1 : LoomRun) p4 ∧ e 11 = .bool (s.1) ∧ e 12 = .int .i64 (s.2)) ⟨aI, hfr, oE, rE, sE, tE, uE, vE, xE, yE, zE, cF, oC, qC, rfl, rfl⟩ (fun X5390 dD yG => ?_)
        rintro ⟨z4, o3⟩ lK nL ⟨rD, hfr, cB, dB, g9, i9, eB, iB, jB, kB, lB, mB, r9, t9, u9, y9⟩ h
        refine E_joinC h (fun (s : Unit) e w => ∃ (g : Gh) , Fr gI wI g w ∧ e 1 = up1 ∧ RV g.m w (x1 : List LoomOrder) up1 ∧ e 2 = up2 ∧ RV g.m w (x2 : List LoomRun) up2 ∧ e 3 = p1 ∧ PT g.m w (x0 : LoomMill) p1 ∧ e 7 = .int .i64 (d3) ∧ e 8 = .int .i64 (j3) ∧ e 9 = p5 ∧ OB 2009 g w 76 (o0 : LoomRun) p5 ∧ e 10 = p4 ∧ OB 2010 g w 76 (j1 : LoomRun) p4 ∧ e 11 = .bool (z4) ∧ e 12 = .int .i64 (o3)) (fun X5393 eD zG h => ?_) ?_
        ·refine E_seq (E_region (EL_mv y9 rfl ?_))
         refine EL_mv g9 rfl ?_
         refine EL_pur (v := .int .i64 ((x2).length : Int)) (P_len Try.underlying31 rfl i9) .plain rfl ?_
         refine EL_in (.bool ((decide (o3 < ((x2).length : Int))))) rfl rfl rfl rfl ?_
         refine EL_nil (thn_n ?_)
         rcases csome h with ⟨z9, h⟩ | ⟨z9, h⟩
         ·refine E_ct z9 rfl ?_
          exact E_skip (thn_n (zG () _ _ ⟨rD, hfr, cB, dB, g9, i9, eB, iB, jB, kB, lB, mB, r9, t9, u9, y9⟩ h))
         ·refine E_cf z9 rfl ?_
          refine E_exit ?_
          refine thn_e ?_
          refine thn_e ?_
          refine blk_hit ?_
          obtain rfl := sinj h
          exact hQ _ _ ⟨rD, hfr, cB, dB, g9, i9, eB, iB, jB, kB, lB, mB, r9, t9, u9⟩
        ·rintro _ mK oL ⟨sD, hfr, a7, c6, v6, d5, b7, d6, x6, y6, i6, z3, m4, i3, rC, o5⟩ h
         obtain ⟨r8, hx, h⟩ := bsome h
         refine E_join (fun e w => ∃ (g : Gh) , Fr gI wI g w ∧ e 1 = up1 ∧ RV g.m w (x1 : List LoomOrder) up1 ∧ e 2 = up2 ∧ RV g.m w (x2 : List LoomRun) up2 ∧ e 3 = p1 ∧ PT g.m w (x0 : LoomMill) p1 ∧ e 7 = .int .i64 (d3) ∧ e 8 = .int .i64 (j3) ∧ e 9 = p5 ∧ OB 2009 g w 76 (o0 : LoomRun) p5 ∧ e 10 = p4 ∧ OB 2010 g w 76 (j1 : LoomRun) p4 ∧ e 11 = .bool (r8) ∧ e 12 = .int .i64 (o3)) (fun Q' hQ => ?_) (fun nK pL hR => ?_)
         ·replace h := hx
          clear hx
          refine E_block ?_
          refine E_seq (E_region (EL_mv v6 rfl ?_))
          refine EL_mv o5 rfl ?_
          obtain ⟨z2, iC, h⟩ := bsome h
          refine EL_pur (v := ePtr up2 o3 3) (P_indexAddr (α := LoomRun) Try.underlying31 Try.sizeOf76 rfl d5 rfl iC) .plain rfl ?_
          have bI := PT_idx d5 iC
          refine EL_do .plain rfl (D_load (g := sD) Try.isAgg76 Try.sizeOf76 rfl bI fun cI aC => ?_)
          refine EL_do .plain rfl (D_allocOc (g := sD) 2013 (⟨0, 0, 0⟩ : LoomRun) Try.zeroValue76 (fun m w => ⟨_, (rep_two rep_int (rep_two rep_int rep_int)), rfl⟩) fun dI qL k8 hs b5455 cb => ?_)
          have hfr := hfr.stp hs
          have c6 := c6.stp hs
          have d5 := d5.stp hs
          have d6 := d6.stp hs
          have z3 := z3.stp hs rfl
          have i3 := i3.stp hs rfl
          have aC := aC.stp hs
          clear cb
          refine EL_do .plain rfl (D_storeOc (g := dI) (v := cI) Try.sizeOf76 rfl b5455 rfl aC fun d4 rL hs b5456 cb => ?_)
          clear cb
          have hfr := hfr.stp hs
          have c6 := c6.stp hs
          have d5 := d5.stp hs
          have d6 := d6.stp hs
          have z3 := z3.stp hs rfl
          have i3 := i3.stp hs rfl
          refine EL_nil (thn_n (E_region (EL_mv rC rfl ?_)))
          refine EL_mw (.bool (z4)) rfl rfl ?_
          rcases csome h with ⟨u0, h⟩ | ⟨u0, h⟩
          ·refine EL_skip (.no2 rfl rfl u0 rfl) rfl ?_
           refine EL_skip (.no2 rfl rfl u0 rfl) rfl ?_
           refine EL_skip (.no2 rfl rfl u0 rfl) rfl ?_
           refine EL_skip (.no2 rfl rfl u0 rfl) rfl ?_
           refine EL_dead 3 rfl ?_
           refine EL_skip (.no2 rfl rfl u0 rfl) rfl ?_
           refine EL_skip (.no2 rfl rfl u0 rfl) rfl ?_
           refine EL_dead 5 rfl ?_
           refine EL_skip (.no2 rfl rfl u0 rfl) rfl ?_
           refine EL_skip (.no2 rfl rfl u0 rfl) rfl ?_
           refine EL_dead 19 rfl ?_
           refine EL_skip (.no2 rfl rfl u0 rfl) rfl ?_
           refine EL_skip (.no2 rfl rfl u0 rfl) rfl ?_
           refine EL_dead 19 rfl ?_
           refine EL_skip (.no2 rfl rfl u0 rfl) rfl ?_
           refine EL_pur (v := .bool true) (P_pick (b := z4) rfl (pick_t u0 rfl)) .plain rfl ?_
           refine EL_at (.bool true) rfl rfl ?_
           refine EL_nil (blk_n ?_)
           obtain rfl := sinj h
           exact hQ _ _ ⟨d4, hfr, a7, c6, v6, d5, b7, d6, x6, y6, i6, z3, m4, i3, rfl, o5⟩
          ·refine EL_pur (v := .int .i64 (o3)) (P_move o5) (.yes2 rfl rfl u0) rfl ?_
           refine EL_pur (v := .int .i64 (d3)) (P_move x6) (.yes2 rfl rfl u0) rfl ?_
           refine EL_pur (v := .bool ((o3 != d3))) (P_int rfl rfl rfl) (.yes2 rfl rfl u0) rfl ?_
           refine EL_pur (v := .bool ((o3 != d3))) (P_move rfl) (.yes2 rfl rfl u0) rfl ?_
           rcases csome h with ⟨c8, h⟩ | ⟨c8, h⟩
           ·refine EL_pur (v := .int .i64 (o3)) (P_move o5) (.yes2 rfl rfl c8) rfl ?_
            refine EL_pur (v := .int .i64 (j3)) (P_move y6) (.yes2 rfl rfl c8) rfl ?_
            refine EL_pur (v := .bool ((o3 != j3))) (P_int rfl rfl rfl) (.yes2 rfl rfl c8) rfl ?_
            refine EL_pur (v := .bool ((o3 != j3))) (P_pick (b := (o3 != d3)) rfl (pick_t c8 rfl)) (.yes2 rfl rfl u0) rfl ?_
            refine EL_pur (v := .bool ((o3 != j3))) (P_move rfl) (.yes2 rfl rfl u0) rfl ?_
            rcases csome h with ⟨m7, h⟩ | ⟨m7, h⟩
            ·refine EL_pur (v := fPtr k8 1) (P_fieldAddr at_76_1 rfl (OB.ptr b5456)) (.yes2 rfl rfl m7) rfl ?_
             refine EL_do (.yes2 rfl rfl m7) rfl (D_loadF (g := d4) part_LoomRun_1.1 Try.isAgg3 Try.sizeOf3 rfl b5456 fun tL eI => ?_)
             obtain rfl := RV_int.1 eI
             refine EL_pur (v := fPtr p5 1) (P_fieldAddr at_76_1 i6 (OB.ptr z3)) (.yes2 rfl rfl m7) rfl ?_
             refine EL_do (.yes2 rfl rfl m7) rfl (D_loadF (g := d4) part_LoomRun_1.1 Try.isAgg3 Try.sizeOf3 rfl z3 fun uL iI => ?_)
             obtain rfl := RV_int.1 iI
             refine EL_pur (v := .bool (((z2).Loom == (o0).Loom))) (P_int rfl rfl rfl) (.yes2 rfl rfl m7) rfl ?_
             refine EL_pur (v := .bool (((z2).Loom == (o0).Loom))) (P_pick (b := (o3 != j3)) rfl (pick_t m7 rfl)) (.yes2 rfl rfl u0) rfl ?_
             refine EL_pur (v := .bool (((z2).Loom == (o0).Loom))) (P_move rfl) (.yes2 rfl rfl u0) rfl ?_
             rcases csome h with ⟨i5, h⟩ | ⟨i5, h⟩
             ·refine EL_pur (v := fPtr k8 2) (P_fieldAddr at_76_2 rfl (OB.ptr b5456)) (.yes2 rfl rfl i5) rfl ?_
              refine EL_do (.yes2 rfl rfl i5) rfl (D_loadF (g := d4) part_LoomRun_2.1 Try.isAgg3 Try.sizeOf3 rfl b5456 fun vL jI => ?_)
              obtain rfl := RV_int.1 jI
              refine EL_pur (v := fPtr p5 2) (P_fieldAddr at_76_2 i6 (OB.ptr z3)) (.yes2 rfl rfl i5) rfl ?_
              refine EL_do (.yes2 rfl rfl i5) rfl (D_loadF (g := d4) part_LoomRun_2.1 Try.isAgg3 Try.sizeOf3 rfl z3 fun xL kI => ?_)
              obtain rfl := RV_int.1 kI
              refine EL_pur (v := .bool ((decide ((z2).From > (o0).From)))) (P_int rfl rfl rfl) (.yes2 rfl rfl i5) rfl ?_
              refine EL_pur (v := .bool ((decide ((z2).From > (o0).From)))) (P_move rfl) (.yes2 rfl rfl i5) rfl ?_
              rcases csome h with ⟨t5, h⟩ | ⟨t5, h⟩
              ·refine EL_skip (.no2 rfl rfl t5 rfl) rfl ?_
               refine EL_skip (.no2 rfl rfl t5 rfl) rfl ?_
               refine EL_skip (.no2 rfl rfl t5 rfl) rfl ?_
               refine EL_skip (.no2 rfl rfl t5 rfl) rfl ?_
               refine EL_skip (.no2 rfl rfl t5 rfl) rfl ?_
               refine EL_skip (.no2 rfl rfl t5 rfl) rfl ?_
               refine EL_dead 5 rfl ?_
               refine EL_skip (.no2 rfl rfl t5 rfl) rfl ?_
               refine EL_pur (v := .bool true) (P_pick (b := (decide ((z2).From > (o0).From))) rfl (pick_t t5 rfl)) (.yes2 rfl rfl i5) rfl ?_
               refine EL_pur (v := .bool true) (P_pick (b := ((z2).Loom == (o0).Loom)) rfl (pick_t i5 rfl)) (.yes2 rfl rfl u0) rfl ?_
               refine EL_pur (v := .bool true) (P_move rfl) (.yes2 rfl rfl u0) rfl ?_
               refine EL_pur (v := fPtr k8 2) (P_fieldAddr at_76_2 rfl (OB.ptr b5456)) (.yes2 rfl rfl rfl) rfl ?_
               refine EL_do (.yes2 rfl rfl rfl) rfl (D_loadF (g := d4) part_LoomRun_2.1 Try.isAgg3 Try.sizeOf3 rfl b5456 fun yL lI => ?_)
               obtain rfl := RV_int.1 lI
               refine EL_pur (v := fPtr p4 2) (P_fieldAddr at_76_2 m4 (OB.ptr i3)) (.yes2 rfl rfl rfl) rfl ?_
               refine EL_do (.yes2 rfl rfl rfl) rfl (D_loadF (g := d4) part_LoomRun_2.1 Try.isAgg3 Try.sizeOf3 rfl i3 fun zL mI => ?_)
               obtain rfl := RV_int.1 mI
               refine EL_pur (v := .bool ((decide ((z2).From < (j1).From)))) (P_int rfl rfl rfl) (.yes2 rfl rfl rfl) rfl ?_
               refine EL_pur (v := .bool ((decide ((z2).From < (j1).From)))) (P_move rfl) (.yes2 rfl rfl rfl) rfl ?_
               rcases csome h with ⟨u5, h⟩ | ⟨u5, h⟩
               ·refine EL_skip (.no2 rfl rfl u5 rfl) rfl ?_
                refine EL_skip (.no2 rfl rfl u5 rfl) rfl ?_
                refine EL_skip (.no2 rfl rfl u5 rfl) rfl ?_
                refine EL_skip (.no2 rfl rfl u5 rfl) rfl ?_
                refine EL_skip (.no2 rfl rfl u5 rfl) rfl ?_
                refine EL_skip (.no2 rfl rfl u5 rfl) rfl ?_
                refine EL_dead 5 rfl ?_
                refine EL_skip (.no2 rfl rfl u5 rfl) rfl ?_
                refine EL_pur (v := .bool true) (P_pick (b := (decide ((z2).From < (j1).From))) rfl (pick_t u5 rfl)) (.yes2 rfl rfl rfl) rfl ?_
                refine EL_pur (v := .bool true) (P_pick (b := true) rfl (pick_t rfl rfl)) (.yes2 rfl rfl u0) rfl ?_
                refine EL_pur (v := .bool true) (P_pick (b := z4) rfl (pick_f u0 rfl)) .plain rfl ?_
                refine EL_at (.bool true) rfl rfl ?_
                refine EL_nil (blk_n ?_)
                obtain rfl := sinj h
                exact hQ _ _ ⟨d4, hfr, a7, c6, v6, d5, b7, d6, x6, y6, i6, z3, m4, i3, rfl, o5⟩
               ·refine EL_pur (v := fPtr k8 2) (P_fieldAddr at_76_2 rfl (OB.ptr b5456)) (.yes2 rfl rfl u5) rfl ?_
                refine EL_do (.yes2 rfl rfl u5) rfl (D_loadF (g := d4) part_LoomRun_2.1 Try.isAgg3 Try.sizeOf3 rfl b5456 fun aM nI => ?_)
                obtain rfl := RV_int.1 nI
                refine EL_pur (v := fPtr p4 2) (P_fieldAddr at_76_2 m4 (OB.ptr i3)) (.yes2 rfl rfl u5) rfl ?_
                refine EL_do (.yes2 rfl rfl u5) rfl (D_loadF (g := d4) part_LoomRun_2.1 Try.isAgg3 Try.sizeOf3 rfl i3 fun bM oI => ?_)
                obtain rfl := RV_int.1 oI
                refine EL_pur (v := .bool (((z2).From == (j1).From))) (P_int rfl rfl rfl) (.yes2 rfl rfl u5) rfl ?_
                refine EL_pur (v := .bool (((z2).From == (j1).From))) (P_move rfl) (.yes2 rfl rfl u5) rfl ?_
                rcases csome h with ⟨n7, h⟩ | ⟨n7, h⟩
                ·refine EL_pur (v := fPtr k8 0) (P_fieldAddr at_76_0 rfl (OB.ptr b5456)) (.yes2 rfl rfl n7) rfl ?_
                 refine EL_do (.yes2 rfl rfl n7) rfl (D_loadF (g := d4) part_LoomRun_0.1 Try.isAgg3 Try.sizeOf3 rfl b5456 fun cM pI => ?_)
                 obtain rfl := RV_int.1 pI
                 refine EL_pur (v := fPtr p4 0) (P_fieldAddr at_76_0 m4 (OB.ptr i3)) (.yes2 rfl rfl n7) rfl ?_
                 refine EL_do (.yes2 rfl rfl n7) rfl (D_loadF (g := d4) part_LoomRun_0.1 Try.isAgg3 Try.sizeOf3 rfl i3 fun dM qI => ?_)
                 obtain rfl := RV_int.1 qI
                 refine EL_pur (v := .bool ((decide ((z2).Order < (j1).Order)))) (P_int rfl rfl rfl) (.yes2 rfl rfl n7) rfl ?_
                 refine EL_pur (v := .bool ((decide ((z2).Order < (j1).Order)))) (P_pick (b := ((z2).From == (j1).From)) rfl (pick_t n7 rfl)) (.yes2 rfl rfl u5) rfl ?_
                 refine EL_pur (v := .bool ((decide ((z2).Order < (j1).Order)))) (P_pick (b := (decide ((z2).From < (j1).From))) rfl (pick_f u5 rfl)) (.yes2 rfl rfl rfl) rfl ?_
                 refine EL_pur (v := .bool ((decide ((z2).Order < (j1).Order)))) (P_pick (b := true) rfl (pick_t rfl rfl)) (.yes2 rfl rfl u0) rfl ?_
                 refine EL_pur (v := .bool ((decide ((z2).Order < (j1).Order)))) (P_pick (b := z4) rfl (pick_f u0 rfl)) .plain rfl ?_
                 refine EL_at (.bool ((decide ((z2).Order < (j1).Order)))) rfl rfl ?_
                 refine EL_nil (blk_n ?_)
                 obtain rfl := sinj h
                 exact hQ _ _ ⟨d4, hfr, a7, c6, v6, d5, b7, d6, x6, y6, i6, z3, m4, i3, rfl, o5⟩
                ·refine EL_skip (.no2 rfl rfl n7 rfl) rfl ?_
                 refine EL_skip (.no2 rfl rfl n7 rfl) rfl ?_
                 refine EL_skip (.no2 rfl rfl n7 rfl) rfl ?_
                 refine EL_skip (.no2 rfl rfl n7 rfl) rfl ?_
                 refine EL_skip (.no2 rfl rfl n7 rfl) rfl ?_
                 refine EL_pur (v := .bool false) (P_pick (b := ((z2).From == (j1).From)) rfl (pick_f n7 rfl)) (.yes2 rfl rfl u5) rfl ?_
                 refine EL_pur (v := .bool false) (P_pick (b := (decide ((z2).From < (j1).From))) rfl (pick_f u5 rfl)) (.yes2 rfl rfl rfl) rfl ?_
                 refine EL_pur (v := .bool false) (P_pick (b := true) rfl (pick_t rfl rfl)) (.yes2 rfl rfl u0) rfl ?_
                 refine EL_pur (v := .bool false) (P_pick (b := z4) rfl (pick_f u0 rfl)) .plain rfl ?_
                 refine EL_at (.bool false) rfl rfl ?_
                 refine EL_nil (blk_n ?_)
                 obtain rfl := sinj h
                 exact hQ _ _ ⟨d4, hfr, a7, c6, v6, d5, b7, d6, x6, y6, i6, z3, m4, i3, rfl, o5⟩
              ·refine EL_pur (v := fPtr k8 2) (P_fieldAddr at_76_2 rfl (OB.ptr b5456)) (.yes2 rfl rfl t5) rfl ?_
               refine EL_do (.yes2 rfl rfl t5) rfl (D_loadF (g := d4) part_LoomRun_2.1 Try.isAgg3 Try.sizeOf3 rfl b5456 fun eM rI => ?_)
               obtain rfl := RV_int.1 rI
               refine EL_pur (v := fPtr p5 2) (P_fieldAddr at_76_2 i6 (OB.ptr z3)) (.yes2 rfl rfl t5) rfl ?_
               refine EL_do (.yes2 rfl rfl t5) rfl (D_loadF (g := d4) part_LoomRun_2.1 Try.isAgg3 Try.sizeOf3 rfl z3 fun gM sI => ?_)
               obtain rfl := RV_int.1 sI
               refine EL_pur (v := .bool (((z2).From == (o0).From))) (P_int rfl rfl rfl) (.yes2 rfl rfl t5) rfl ?_
               refine EL_pur (v := .bool (((z2).From == (o0).From))) (P_move rfl) (.yes2 rfl rfl t5) rfl ?_
               rcases csome h with ⟨o7, h⟩ | ⟨o7, h⟩
               ·refine EL_pur (v := fPtr k8 0) (P_fieldAddr at_76_0 rfl (OB.ptr b5456)) (.yes2 rfl rfl o7) rfl ?_
                refine EL_do (.yes2 rfl rfl o7) rfl (D_loadF (g := d4) part_LoomRun_0.1 Try.isAgg3 Try.sizeOf3 rfl b5456 fun iM tI => ?_)
                obtain rfl := RV_int.1 tI
                refine EL_pur (v := fPtr p5 0) (P_fieldAddr at_76_0 i6 (OB.ptr z3)) (.yes2 rfl rfl o7) rfl ?_
                refine EL_do (.yes2 rfl rfl o7) rfl (D_loadF (g := d4) part_LoomRun_0.1 Try.isAgg3 Try.sizeOf3 rfl z3 fun jM uI => ?_)
                obtain rfl := RV_int.1 uI
                refine EL_pur (v := .bool ((decide ((z2).Order > (o0).Order)))) (P_int rfl rfl rfl) (.yes2 rfl rfl o7) rfl ?_
                refine EL_pur (v := .bool ((decide ((z2).Order > (o0).Order)))) (P_pick (b := ((z2).From == (o0).From)) rfl (pick_t o7 rfl)) (.yes2 rfl rfl t5) rfl ?_
                refine EL_pur (v := .bool ((decide ((z2).Order > (o0).Order)))) (P_pick (b := (decide ((z2).From > (o0).From))) rfl (pick_f t5 rfl)) (.yes2 rfl rfl i5) rfl ?_
                refine EL_pur (v := .bool ((decide ((z2).Order > (o0).Order)))) (P_pick (b := ((z2).Loom == (o0).Loom)) rfl (pick_t i5 rfl)) (.yes2 rfl rfl u0) rfl ?_
                refine EL_pur (v := .bool ((decide ((z2).Order > (o0).Order)))) (P_move rfl) (.yes2 rfl rfl u0) rfl ?_
                rcases csome h with ⟨l5, h⟩ | ⟨l5, h⟩
                ·refine EL_pur (v := fPtr k8 2) (P_fieldAddr at_76_2 rfl (OB.ptr b5456)) (.yes2 rfl rfl l5) rfl ?_
                 refine EL_do (.yes2 rfl rfl l5) rfl (D_loadF (g := d4) part_LoomRun_2.1 Try.isAgg3 Try.sizeOf3 rfl b5456 fun kM vI => ?_)
                 obtain rfl := RV_int.1 vI
                 refine EL_pur (v := fPtr p4 2) (P_fieldAddr at_76_2 m4 (OB.ptr i3)) (.yes2 rfl rfl l5) rfl ?_
                 refine EL_do (.yes2 rfl rfl l5) rfl (D_loadF (g := d4) part_LoomRun_2.1 Try.isAgg3 Try.sizeOf3 rfl i3 fun mM xI => ?_)
                 obtain rfl := RV_int.1 xI
                 refine EL_pur (v := .bool ((decide ((z2).From < (j1).From)))) (P_int rfl rfl rfl) (.yes2 rfl rfl l5) rfl ?_
                 refine EL_pur (v := .bool ((decide ((z2).From < (j1).From)))) (P_move rfl) (.yes2 rfl rfl l5) rfl ?_
                 rcases csome h with ⟨x5, h⟩ | ⟨x5, h⟩
                 ·refine EL_skip (.no2 rfl rfl x5 rfl) rfl ?_
                  refine EL_skip (.no2 rfl rfl x5 rfl) rfl ?_
                  refine EL_skip (.no2 rfl rfl x5 rfl) rfl ?_
                  refine EL_skip (.no2 rfl rfl x5 rfl) rfl ?_
                  refine EL_skip (.no2 rfl rfl x5 rfl) rfl ?_
                  refine EL_skip (.no2 rfl rfl x5 rfl) rfl ?_
                  refine EL_dead 5 rfl ?_
                  refine EL_skip (.no2 rfl rfl x5 rfl) rfl ?_
                  refine EL_pur (v := .bool true) (P_pick (b := (decide ((z2).From < (j1).From))) rfl (pick_t x5 rfl)) (.yes2 rfl rfl l5) rfl ?_
                  refine EL_pur (v := .bool true) (P_pick (b := (decide ((z2).Order > (o0).Order))) rfl (pick_t l5 rfl)) (.yes2 rfl rfl u0) rfl ?_
                  refine EL_pur (v := .bool true) (P_pick (b := z4) rfl (pick_f u0 rfl)) .plain rfl ?_
                  refine EL_at (.bool true) rfl rfl ?_
                  refine EL_nil (blk_n ?_)
                  obtain rfl := sinj h
                  exact hQ _ _ ⟨d4, hfr, a7, c6, v6, d5, b7, d6, x6, y6, i6, z3, m4, i3, rfl, o5⟩
                 ·refine EL_pur (v := fPtr k8 2) (P_fieldAddr at_76_2 rfl (OB.ptr b5456)) (.yes2 rfl rfl x5) rfl ?_
                  refine EL_do (.yes2 rfl rfl x5) rfl (D_loadF (g := d4) part_LoomRun_2.1 Try.isAgg3 Try.sizeOf3 rfl b5456 fun nM yI => ?_)
                  obtain rfl := RV_int.1 yI
                  refine EL_pur (v := fPtr p4 2) (P_fieldAddr at_76_2 m4 (OB.ptr i3)) (.yes2 rfl rfl x5) rfl ?_
                  refine EL_do (.yes2 rfl rfl x5) rfl (D_loadF (g := d4) part_LoomRun_2.1 Try.isAgg3 Try.sizeOf3 rfl i3 fun oM zI => ?_)
                  obtain rfl := RV_int.1 zI
                  refine EL_pur (v := .bool (((z2).From == (j1).From))) (P_int rfl rfl rfl) (.yes2 rfl rfl x5) rfl ?_
                  refine EL_pur (v := .bool (((z2).From == (j1).From))) (P_move rfl) (.yes2 rfl rfl x5) rfl ?_
                  rcases csome h with ⟨p7, h⟩ | ⟨p7, h⟩
                  ·refine EL_pur (v := fPtr k8 0) (P_fieldAddr at_76_0 rfl (OB.ptr b5456)) (.yes2 rfl rfl p7) rfl ?_
                   refine EL_do (.yes2 rfl rfl p7) rfl (D_loadF (g := d4) part_LoomRun_0.1 Try.isAgg3 Try.sizeOf3 rfl b5456 fun pM aJ => ?_)
                   obtain rfl := RV_int.1 aJ
                   refine EL_pur (v := fPtr p4 0) (P_fieldAddr at_76_0 m4 (OB.ptr i3)) (.yes2 rfl rfl p7) rfl ?_
                   refine EL_do (.yes2 rfl rfl p7) rfl (D_loadF (g := d4) part_LoomRun_0.1 Try.isAgg3 Try.sizeOf3 rfl i3 fun qM bJ => ?_)
                   obtain rfl := RV_int.1 bJ
                   refine EL_pur (v := .bool ((decide ((z2).Order < (j1).Order)))) (P_int rfl rfl rfl) (.yes2 rfl rfl p7) rfl ?_
                   refine EL_pur (v := .bool ((decide ((z2).Order < (j1).Order)))) (P_pick (b := ((z2).From == (j1).From)) rfl (pick_t p7 rfl)) (.yes2 rfl rfl x5) rfl ?_
                   refine EL_pur (v := .bool ((decide ((z2).Order < (j1).Order)))) (P_pick (b := (decide ((z2).From < (j1).From))) rfl (pick_f x5 rfl)) (.yes2 rfl rfl l5) rfl ?_
                   refine EL_pur (v := .bool ((decide ((z2).Order < (j1).Order)))) (P_pick (b := (decide ((z2).Order > (o0).Order))) rfl (pick_t l5 rfl)) (.yes2 rfl rfl u0) rfl ?_
                   refine EL_pur (v := .bool ((decide ((z2).Order < (j1).Order)))) (P_pick (b := z4) rfl (pick_f u0 rfl)) .plain rfl ?_
                   refine EL_at (.bool ((decide ((z2).Order < (j1).Order)))) rfl rfl ?_
                   refine EL_nil (blk_n ?_)
                   obtain rfl := sinj h
                   exact hQ _ _ ⟨d4, hfr, a7, c6, v6, d5, b7, d6, x6, y6, i6, z3, m4, i3, rfl, o5⟩
                  ·refine EL_skip (.no2 rfl rfl p7 rfl) rfl ?_
                   refine EL_skip (.no2 rfl rfl p7 rfl) rfl ?_
                   refine EL_skip (.no2 rfl rfl p7 rfl) rfl ?_
                   refine EL_skip (.no2 rfl rfl p7 rfl) rfl ?_
                   refine EL_skip (.no2 rfl rfl p7 rfl) rfl ?_
                   refine EL_pur (v := .bool false) (P_pick (b := ((z2).From == (j1).From)) rfl (pick_f p7 rfl)) (.yes2 rfl rfl x5) rfl ?_
                   refine EL_pur (v := .bool false) (P_pick (b := (decide ((z2).From < (j1).From))) rfl (pick_f x5 rfl)) (.yes2 rfl rfl l5) rfl ?_
                   refine EL_pur (v := .bool false) (P_pick (b := (decide ((z2).Order > (o0).Order))) rfl (pick_t l5 rfl)) (.yes2 rfl rfl u0) rfl ?_
                   refine EL_pur (v := .bool false) (P_pick (b := z4) rfl (pick_f u0 rfl)) .plain rfl ?_
                   refine EL_at (.bool false) rfl rfl ?_
                   refine EL_nil (blk_n ?_)
                   obtain rfl := sinj h
                   exact hQ _ _ ⟨d4, hfr, a7, c6, v6, d5, b7, d6, x6, y6, i6, z3, m4, i3, rfl, o5⟩
                ·refine EL_skip (.no2 rfl rfl l5 rfl) rfl ?_
                 refine EL_skip (.no2 rfl rfl l5 rfl) rfl ?_
                 refine EL_skip (.no2 rfl rfl l5 rfl) rfl ?_
                 refine EL_skip (.no2 rfl rfl l5 rfl) rfl ?_
                 refine EL_skip (.no2 rfl rfl l5 rfl) rfl ?_
                 refine EL_skip (.no2 rfl rfl l5 rfl) rfl ?_
                 refine EL_dead 12 rfl ?_
                 refine EL_skip (.no2 rfl rfl l5 rfl) rfl ?_
                 refine EL_pur (v := .bool false) (P_pick (b := (decide ((z2).Order > (o0).Order))) rfl (pick_f l5 rfl)) (.yes2 rfl rfl u0) rfl ?_
                 refine EL_pur (v := .bool false) (P_pick (b := z4) rfl (pick_f u0 rfl)) .plain rfl ?_
                 refine EL_at (.bool false) rfl rfl ?_
                 refine EL_nil (blk_n ?_)
                 obtain rfl := sinj h
                 exact hQ _ _ ⟨d4, hfr, a7, c6, v6, d5, b7, d6, x6, y6, i6, z3, m4, i3, rfl, o5⟩
               ·refine EL_skip (.no2 rfl rfl o7 rfl) rfl ?_
                refine EL_skip (.no2 rfl rfl o7 rfl) rfl ?_
                refine EL_skip (.no2 rfl rfl o7 rfl) rfl ?_
                refine EL_skip (.no2 rfl rfl o7 rfl) rfl ?_
                refine EL_skip (.no2 rfl rfl o7 rfl) rfl ?_
                refine EL_pur (v := .bool false) (P_pick (b := ((z2).From == (o0).From)) rfl (pick_f o7 rfl)) (.yes2 rfl rfl t5) rfl ?_
                refine EL_pur (v := .bool false) (P_pick (b := (decide ((z2).From > (o0).From))) rfl (pick_f t5 rfl)) (.yes2 rfl rfl i5) rfl ?_
                refine EL_pur (v := .bool false) (P_pick (b := ((z2).Loom == (o0).Loom)) rfl (pick_t i5 rfl)) (.yes2 rfl rfl u0) rfl ?_
                refine EL_pur (v := .bool false) (P_move rfl) (.yes2 rfl rfl u0) rfl ?_
                refine EL_dead 19 rfl ?_
                refine EL_pur (v := .bool false) (P_pick (b := false) rfl (pick_f rfl rfl)) (.yes2 rfl rfl u0) rfl ?_
                refine EL_pur (v := .bool false) (P_pick (b := z4) rfl (pick_f u0 rfl)) .plain rfl ?_
                refine EL_at (.bool false) rfl rfl ?_
                refine EL_nil (blk_n ?_)
                obtain rfl := sinj h
                exact hQ _ _ ⟨d4, hfr, a7, c6, v6, d5, b7, d6, x6, y6, i6, z3, m4, i3, rfl, o5⟩
             ·refine EL_skip (.no2 rfl rfl i5 rfl) rfl ?_
              refine EL_skip (.no2 rfl rfl i5 rfl) rfl ?_
              refine EL_skip (.no2 rfl rfl i5 rfl) rfl ?_
              refine EL_skip (.no2 rfl rfl i5 rfl) rfl ?_
              refine EL_skip (.no2 rfl rfl i5 rfl) rfl ?_
              refine EL_skip (.no2 rfl rfl i5 rfl) rfl ?_
              refine EL_dead 12 rfl ?_
              refine EL_skip (.no2 rfl rfl i5 rfl) rfl ?_
              refine EL_pur (v := .bool false) (P_pick (b := ((z2).Loom == (o0).Loom)) rfl (pick_f i5 rfl)) (.yes2 rfl rfl u0) rfl ?_
              refine EL_pur (v := .bool false) (P_move rfl) (.yes2 rfl rfl u0) rfl ?_
              refine EL_dead 19 rfl ?_
              refine EL_pur (v := .bool false) (P_pick (b := false) rfl (pick_f rfl rfl)) (.yes2 rfl rfl u0) rfl ?_
              refine EL_pur (v := .bool false) (P_pick (b := z4) rfl (pick_f u0 rfl)) .plain rfl ?_
              refine EL_at (.bool false) rfl rfl ?_
              refine EL_nil (blk_n ?_)
              obtain rfl := sinj h
              exact hQ _ _ ⟨d4, hfr, a7, c6, v6, d5, b7, d6, x6, y6, i6, z3, m4, i3, rfl, o5⟩
            ·refine EL_skip (.no2 rfl rfl m7 rfl) rfl ?_
             refine EL_skip (.no2 rfl rfl m7 rfl) rfl ?_
             refine EL_skip (.no2 rfl rfl m7 rfl) rfl ?_
             refine EL_skip (.no2 rfl rfl m7 rfl) rfl ?_
             refine EL_skip (.no2 rfl rfl m7 rfl) rfl ?_
             refine EL_pur (v := .bool false) (P_pick (b := (o3 != j3)) rfl (pick_f m7 rfl)) (.yes2 rfl rfl u0) rfl ?_
             refine EL_pur (v := .bool false) (P_move rfl) (.yes2 rfl rfl u0) rfl ?_
             refine EL_dead 19 rfl ?_
             refine EL_pur (v := .bool false) (P_pick (b := false) rfl (pick_f rfl rfl)) (.yes2 rfl rfl u0) rfl ?_
             refine EL_pur (v := .bool false) (P_move rfl) (.yes2 rfl rfl u0) rfl ?_
             refine EL_dead 19 rfl ?_
             refine EL_pur (v := .bool false) (P_pick (b := false) rfl (pick_f rfl rfl)) (.yes2 rfl rfl u0) rfl ?_
             refine EL_pur (v := .bool false) (P_pick (b := z4) rfl (pick_f u0 rfl)) .plain rfl ?_
             refine EL_at (.bool false) rfl rfl ?_
             refine EL_nil (blk_n ?_)
             obtain rfl := sinj h
             exact hQ _ _ ⟨d4, hfr, a7, c6, v6, d5, b7, d6, x6, y6, i6, z3, m4, i3, rfl, o5⟩
           ·refine EL_skip (.no2 rfl rfl c8 rfl) rfl ?_
            refine EL_skip (.no2 rfl rfl c8 rfl) rfl ?_
            refine EL_skip (.no2 rfl rfl c8 rfl) rfl ?_
            refine EL_pur (v := .bool false) (P_pick (b := (o3 != d3)) rfl (pick_f c8 rfl)) (.yes2 rfl rfl u0) rfl ?_
            refine EL_pur (v := .bool false) (P_move rfl) (.yes2 rfl rfl u0) rfl ?_
            refine EL_dead 5 rfl ?_
            refine EL_pur (v := .bool false) (P_pick (b := false) rfl (pick_f rfl rfl)) (.yes2 rfl rfl u0) rfl ?_
            refine EL_pur (v := .bool false) (P_move rfl) (.yes2 rfl rfl u0) rfl ?_
            refine EL_dead 19 rfl ?_
            refine EL_pur (v := .bool false) (P_pick (b := false) rfl (pick_f rfl rfl)) (.yes2 rfl rfl u0) rfl ?_
            refine EL_pur (v := .bool false) (P_move rfl) (.yes2 rfl rfl u0) rfl ?_
            refine EL_dead 19 rfl ?_
            refine EL_pur (v := .bool false) (P_pick (b := false) rfl (pick_f rfl rfl)) (.yes2 rfl rfl u0) rfl ?_
            refine EL_pur (v := .bool false) (P_pick (b := z4) rfl (pick_f u0 rfl)) .plain rfl ?_
            refine EL_at (.bool false) rfl rfl ?_
            refine EL_nil (blk_n ?_)
            obtain rfl := sinj h
            exact hQ _ _ ⟨d4, hfr, a7, c6, v6, d5, b7, d6, x6, y6, i6, z3, m4, i3, rfl, o5⟩
         ·clear hx
          obtain ⟨cJ, hfr, dF, eF, gF, iF, jF, kF, lF, mF, nF, oF, sC, tC, uC, vC⟩ := hR
          refine E_region (EL_mv vC rfl ?_)
          refine EL_in (.int .i64 ((w64 (o3 + (1 : Int))))) rfl rfl rfl rfl ?_
          refine EL_at (.int .i64 ((w64 (o3 + (1 : Int))))) rfl rfl ?_
          exact EL_nil (thn_n (yG (r8, (w64 (o3 + (1 : Int)))) _ _ ⟨cJ, hfr, dF, eF, gF, iF, jF, kF, lF, mF, nF, oF, sC, tC, uC, rfl⟩ h))
       ·clear hx
        obtain ⟨dJ, hfr, q8, l6, nB, t7, oB, u7, pB, qB, j9, v7, x8, c7, bA⟩ := hR
        refine E_seq (L_loadO (x := .tmp 136) part_LoomRun_2.1 Try.isAgg3 Try.sizeOf3 v7 fun rM eJ aH => ?_)
        obtain rfl := RV_int.1 eJ
        refine L_loadO (x := .tmp 139) part_LoomRun_0.1 Try.isAgg3 Try.sizeOf3 v7 fun sM gJ bH => ?_
        obtain rfl := RV_int.1 gJ
        obtain ⟨m8, jC, h⟩ := bsome h
        have tD := PT_idx l6 jC
        have iJ := PT_field (part_LoomOrder_2).1 tD
        refine L_load (x := .tmp 142) Try.isAgg3 Try.sizeOf3 iJ fun tM jJ cH => ?_
        obtain rfl := RV_int.1 jJ
        refine E_drawL (g := dJ) (n := 10) [] [0, 1, 2, 3, 4, 5, 6, 7, 8, 9] rfl mixed (by kernel_rfl) trivial ?_
        refine L_pur (c := fPtr p5 2) rfl rfl .plain (fun _ _ hd => P_fieldAddr at_76_2 j9 (OB.ptr v7)) ?_
        refine L_ld (c := .int .i64 ((o0).From)) rfl rfl .plain (fun _ _ h => ⟨h.ch, fun b hb _ => h.below.block b hb⟩) aH rfl ?_
        refine L_pur (c := up1) rfl rfl .plain (fun _ _ hd => P_move q8) ?_
        refine L_pur (c := fPtr p5 0) rfl rfl .plain (fun _ _ hd => P_fieldAddr at_76_0 j9 (OB.ptr v7)) ?_
        refine L_ld (c := .int .i64 ((o0).Order)) rfl rfl .plain (fun _ _ h => ⟨h.ch, fun b hb _ => h.below.block b hb⟩) bH rfl ?_
        refine L_pur (c := ePtr up1 (o0).Order 5) rfl rfl .plain (fun _ _ hd => P_indexAddr (α := LoomOrder) Try.underlying25 Try.sizeOf82 rfl l6 rfl jC) ?_
        refine L_pur (c := fPtr (ePtr up1 (o0).Order 5) 2) rfl rfl .plain (fun _ _ hd => P_fieldAddr at_82_2 rfl (PT.ptr tD)) ?_
        refine L_ld (c := .int .i64 ((m8).Woven)) rfl rfl .plain (fun _ _ h => h.ch) cH rfl ?_
        refine L_pur (c := .int .i64 ((w64 ((o0).From + (m8).Woven)))) rfl rfl .plain (fun _ _ hd => P_int rfl rfl rfl) ?_
        refine L_pur (c := .int .i64 ((w64 ((o0).From + (m8).Woven)))) rfl rfl .plain (fun _ _ hd => P_assign rfl) ?_
        refine L_nil fun uD uM hall => ?_
        have hs := hall.1
        have hfr := hfr.ext hs
        have l6 := l6.ext hs
        have t7 := t7.ext hs
        have u7 := u7.ext hs
        have v7 := v7.ext hs
        have c7 := c7.ext hs
        clear hs hall
        refine EL_nil (thn_n ?_)
        obtain ⟨t8, hx, h⟩ := bsome h
        refine E_join (fun e w => ∃ (g : Gh) , Fr gI wI g w ∧ e 1 = up1 ∧ RV g.m w (x1 : List LoomOrder) up1 ∧ e 2 = up2 ∧ RV g.m w (x2 : List LoomRun) up2 ∧ e 3 = p1 ∧ PT g.m w (x0 : LoomMill) p1 ∧ e 7 = .int .i64 (d3) ∧ e 8 = .int .i64 (j3) ∧ e 10 = p4 ∧ OB 2010 g w 76 (j1 : LoomRun) p4 ∧ e 14 = .int .i64 (t8)) (fun Q' hQ => ?_) (fun oK vM hR => ?_)
        ·replace h := hx
         clear hx
         obtain ⟨l8, hx, h⟩ := bsome h
         refine E_join (fun e w => ∃ (g : Gh) , Fr gI wI g w ∧ e 1 = up1 ∧ RV g.m w (x1 : List LoomOrder) up1 ∧ e 2 = up2 ∧ RV g.m w (x2 : List LoomRun) up2 ∧ e 3 = p1 ∧ PT g.m w (x0 : LoomMill) p1 ∧ e 7 = .int .i64 (d3) ∧ e 8 = .int .i64 (j3) ∧ e 10 = p4 ∧ OB 2010 g w 76 (j1 : LoomRun) p4 ∧ e 14 = .int .i64 ((w64 ((o0).From + (m8).Woven))) ∧ e 161 = .bool (l8)) (fun Q' hQ => ?_) (fun pK xM hR => ?_)
         ·replace h := hx
          clear hx
          rcases csome h with ⟨u3, h⟩ | ⟨u3, h⟩
          ·refine L_loadO (x := .tmp 149) part_LoomRun_0.1 Try.isAgg3 Try.sizeOf3 v7 fun yM kJ dH => ?_
           obtain rfl := RV_int.1 kJ
           obtain ⟨y8, kC, h⟩ := bsome h
           have vD := PT_idx l6 kC
           have lJ := PT_field (part_LoomOrder_1).1 vD
           refine L_load (x := .tmp 152) Try.isAgg3 Try.sizeOf3 lJ fun zM mJ gH => ?_
           obtain rfl := RV_int.1 mJ
           refine L_loadO (x := .tmp 155) part_LoomRun_0.1 Try.isAgg3 Try.sizeOf3 c7 fun aN nJ iH => ?_
           obtain rfl := RV_int.1 nJ
           obtain ⟨z8, lC, h⟩ := bsome h
           have xD := PT_idx l6 lC
           have oJ := PT_field (part_LoomOrder_1).1 xD
           refine L_load (x := .tmp 158) Try.isAgg3 Try.sizeOf3 oJ fun bN pJ jH => ?_
           obtain rfl := RV_int.1 pJ
           refine E_drawL (g := uD) (n := 17) [] [0, 1, 2, 3, 4, 5, 6, 7, 8, 9, 10, 11, 12, 13, 14, 15, 16] rfl mixed (by kernel_rfl) trivial ?_
           refine L_pur (c := .bool (z6)) rfl rfl .plain (fun _ _ hd => P_move bA) ?_
           refine L_pur (c := .bool (!z6)) rfl rfl .plain (fun _ _ hd => P_not rfl) ?_
           refine L_pur (c := .bool (!z6)) rfl rfl .plain (fun _ _ hd => P_move rfl) ?_
           refine L_pur (c := up1) rfl rfl (.yes2 rfl rfl u3) (fun _ _ hd => P_move q8) ?_
           refine L_pur (c := fPtr p5 0) rfl rfl (.yes2 rfl rfl u3) (fun _ _ hd => P_fieldAddr at_76_0 j9 (OB.ptr v7)) ?_
           refine L_ld (c := .int .i64 ((o0).Order)) rfl rfl (.yes2 rfl rfl u3) (fun _ _ h => ⟨h.ch, fun b hb _ => h.below.block b hb⟩) dH rfl ?_
           refine L_pur (c := ePtr up1 (o0).Order 5) rfl rfl (.yes2 rfl rfl u3) (fun _ _ hd => P_indexAddr (α := LoomOrder) Try.underlying25 Try.sizeOf82 rfl l6 rfl kC) ?_
           refine L_pur (c := fPtr (ePtr up1 (o0).Order 5) 1) rfl rfl (.yes2 rfl rfl u3) (fun _ _ hd => P_fieldAddr at_82_1 rfl (PT.ptr vD)) ?_
           refine L_ld (c := .int .i64 ((y8).Chain)) rfl rfl (.yes2 rfl rfl u3) (fun _ _ h => h.ch) gH rfl ?_
           refine L_pur (c := up1) rfl rfl (.yes2 rfl rfl u3) (fun _ _ hd => P_move q8) ?_
           refine L_pur (c := fPtr p4 0) rfl rfl (.yes2 rfl rfl u3) (fun _ _ hd => P_fieldAddr at_76_0 x8 (OB.ptr c7)) ?_
           refine L_ld (c := .int .i64 ((j1).Order)) rfl rfl (.yes2 rfl rfl u3) (fun _ _ h => ⟨h.ch, fun b hb _ => h.below.block b hb⟩) iH rfl ?_
           refine L_pur (c := ePtr up1 (j1).Order 5) rfl rfl (.yes2 rfl rfl u3) (fun _ _ hd => P_indexAddr (α := LoomOrder) Try.underlying25 Try.sizeOf82 rfl l6 rfl lC) ?_
           refine L_pur (c := fPtr (ePtr up1 (j1).Order 5) 1) rfl rfl (.yes2 rfl rfl u3) (fun _ _ hd => P_fieldAddr at_82_1 rfl (PT.ptr xD)) ?_
           refine L_ld (c := .int .i64 ((z8).Chain)) rfl rfl (.yes2 rfl rfl u3) (fun _ _ h => h.ch) jH rfl ?_
           refine L_pur (c := .bool (((y8).Chain != (z8).Chain))) rfl rfl (.yes2 rfl rfl u3) (fun _ _ hd => P_int rfl rfl rfl) ?_
           refine L_pur (c := .bool (((y8).Chain != (z8).Chain))) rfl rfl .plain (fun _ _ hd => P_pick (b := (!z6)) rfl (pick_t u3 rfl)) ?_
           refine L_nil fun qJ cN hall => ?_
           have hs := hall.1
           have hfr := hfr.ext hs
           have l6 := l6.ext hs
           have t7 := t7.ext hs
           have u7 := u7.ext hs
           have c7 := c7.ext hs
           clear hs hall
           refine EL_nil ?_
           obtain rfl := sinj h
           exact hQ _ _ ⟨qJ, hfr, q8, l6, nB, t7, oB, u7, pB, qB, x8, c7, rfl, rfl⟩
          ·refine E_drawL (g := uD) (n := 17) [] [0, 1, 2, 3, 4, 5, 6, 7, 8, 9, 10, 11, 12, 13, 14, 15, 16] rfl mixed (by kernel_rfl) trivial ?_
           refine L_pur (c := .bool (z6)) rfl rfl .plain (fun _ _ hd => P_move bA) ?_
           refine L_pur (c := .bool (!z6)) rfl rfl .plain (fun _ _ hd => P_not rfl) ?_
           refine L_pur (c := .bool (!z6)) rfl rfl .plain (fun _ _ hd => P_move rfl) ?_
           refine L_skip rfl (.no2 rfl rfl u3 rfl) ?_
           refine L_skip rfl (.no2 rfl rfl u3 rfl) ?_
           refine L_skip rfl (.no2 rfl rfl u3 rfl) ?_
           refine L_skip rfl (.no2 rfl rfl u3 rfl) ?_
           refine L_skip rfl (.no2 rfl rfl u3 rfl) ?_
           refine L_skip rfl (.no2 rfl rfl u3 rfl) ?_
           refine L_skip rfl (.no2 rfl rfl u3 rfl) ?_
           refine L_skip rfl (.no2 rfl rfl u3 rfl) ?_
           refine L_skip rfl (.no2 rfl rfl u3 rfl) ?_
           refine L_skip rfl (.no2 rfl rfl u3 rfl) ?_
           refine L_skip rfl (.no2 rfl rfl u3 rfl) ?_
           refine L_skip rfl (.no2 rfl rfl u3 rfl) ?_
           refine L_skip rfl (.no2 rfl rfl u3 rfl) ?_
           refine L_pur (c := .bool false) rfl rfl .plain (fun _ _ hd => P_pick (b := (!z6)) rfl (pick_f u3 rfl)) ?_
           refine L_nil fun rJ dN hall => ?_
           have hs := hall.1
           have hfr := hfr.ext hs
           have l6 := l6.ext hs
           have t7 := t7.ext hs
           have u7 := u7.ext hs
           have c7 := c7.ext hs
           clear hs hall
           refine EL_nil ?_
           obtain rfl := sinj h
           exact hQ _ _ ⟨rJ, hfr, q8, l6, nB, t7, oB, u7, pB, qB, x8, c7, rfl, rfl⟩
         ·clear hx
          obtain ⟨bC, hfr, rB, sB, tB, uB, k9, v8, vB, xB, cA, dA, eA, l9⟩ := hR
          rcases csome h with ⟨gA, h⟩ | ⟨gA, h⟩
          ·refine E_cond_true (Eq.trans (show ev _ _ = .bool (l8) from l9) (congrArg Value.bool gA)) ?_
           refine E_region (EL_mv eA rfl ?_)
           refine EL_pur (v := fPtr p1 1) (P_fieldAddr at_24_1 k9 (PT.ptr v8)) .plain rfl ?_
           have sJ := PT_field (part_LoomMill_1).1 v8
           refine EL_do .plain rfl (D_load (g := bC) Try.isAgg3 Try.sizeOf3 rfl sJ fun eN tJ => ?_)
           obtain rfl := RV_int.1 tJ
           refine EL_pur (v := .int .i64 ((w64 ((w64 ((o0).From + (m8).Woven)) + (x0).Change)))) (P_int rfl rfl rfl) .plain rfl ?_
           refine EL_pur (v := .int .i64 ((w64 ((w64 ((o0).From + (m8).Woven)) + (x0).Change)))) (P_assign rfl) .plain rfl ?_
           refine EL_nil ?_
           obtain rfl := sinj h
           exact hQ _ _ ⟨bC, hfr, rB, sB, tB, uB, k9, v8, vB, xB, cA, dA, rfl⟩
          ·refine E_cond_false (Eq.trans (show ev _ _ = .bool (l8) from l9) (congrArg Value.bool gA)) ?_
           refine E_skip ?_
           obtain rfl := sinj h
           exact hQ _ _ ⟨bC, hfr, rB, sB, tB, uB, k9, v8, vB, xB, cA, dA, eA⟩
        ·clear hx
         obtain ⟨yD, hfr, pF, qF, rF, sF, tF, uF, vF, xF, xC, iA, yC⟩ := hR
         refine E_seq (E_region (EL_pur (v := fPtr p4 2) (P_fieldAddr at_76_2 xC (OB.ptr iA)) .plain rfl ?_))
         refine EL_do .plain rfl (D_loadF (g := yD) part_LoomRun_2.1 Try.isAgg3 Try.sizeOf3 rfl iA fun gN uJ => ?_)
         obtain rfl := RV_int.1 uJ
         refine EL_mv yC rfl ?_
         refine EL_in (.bool ((decide ((j1).From < t8)))) rfl rfl rfl rfl ?_
         refine EL_nil (thn_n ?_)
         rcases csome h with ⟨jA, h⟩ | ⟨jA, h⟩
         ·refine E_ct jA rfl ?_
          refine E_seq (E_region (EL_at (.bool false) rfl rfl ?_))
          refine EL_nil (thn_n (E_ret (blk_r ?_)))
          refine thn_r ?_
          refine thn_r ?_
          refine blk_r ?_
          refine blk_r ?_
          refine thn_r ?_
          refine thn_r ?_
          refine blk_r ?_
          refine thn_r ?_
          obtain rfl := sinj h
          exact end1 rfl rfl (show _ = .bool false from rfl) ⟨_, hfr, rfl⟩
         ·refine E_cf jA rfl ?_
          exact E_skip (blk_n (thn_n (cC () _ _ ⟨yD, hfr, pF, qF, rF, sF, tF, uF, vF, xF⟩ h)))
     ·rintro _ qK iN ⟨vJ, hfr, yF, zF, aG, bG, cG, dG, eG, gG⟩ h
      refine E_region (EL_mv gG rfl ?_)
      refine EL_in (.int .i64 ((w64 (j3 + (1 : Int))))) rfl rfl rfl rfl ?_
      refine EL_at (.int .i64 ((w64 (j3 + (1 : Int))))) rfl rfl ?_
      exact EL_nil (thn_n (sG ((w64 (j3 + (1 : Int)))) _ _ ⟨vJ, hfr, yF, zF, aG, bG, cG, dG, eG, rfl⟩ h))
   ·rintro _ sK jN ⟨xJ, hfr, hG, iG, jG, kG, lG, mG, nG⟩ h
    refine E_region (EL_mv nG rfl ?_)
    refine EL_in (.int .i64 ((w64 (d3 + (1 : Int))))) rfl rfl rfl rfl ?_
    refine EL_at (.int .i64 ((w64 (d3 + (1 : Int))))) rfl rfl ?_
    exact EL_nil (thn_n (pG ((w64 (d3 + (1 : Int)))) _ _ ⟨xJ, hfr, hG, iG, jG, kG, lG, mG, rfl⟩ h))
 ·rintro _ tK kN ⟨lN, hfr⟩ h
  refine E_seq (E_region (EL_at (.bool true) rfl rfl ?_))
  refine EL_nil (thn_n (E_ret ?_))
  obtain rfl := sinj h
  exact end1 rfl rfl (show _ = .bool true from rfl) ⟨_, hfr, rfl⟩
def f46 (x0 : Int) (x1 : Int) (x2 : Int) : Option (LoomRun) :=
 some ((⟨x0, x1, x2⟩ : LoomRun))
theorem en46 : Enters Try.prog 46 := enters_of Try.func46 (by kernel_rfl) rfl
theorem wk46 {gI : Gh} {wI : World} {x0 : Int} {x1 : Int} {x2 : Int}  {r : LoomRun} (h : f46 x0 x1 x2 = some r) : Fn Try.prog 46 #[.int .i64 (x0), .int .i64 (x1), .int .i64 (x2)] gI wI (fun m w v => RV m w (r) v) := by
 unfold f46 at h
 refine fn_of_E Try.func46 rfl (Nat.le_of_ble_eq_true rfl) fun g0 hm hfr => ?_
 show E _ 11 none _ _ _ _ _
 refine E_seq (E_region (EL_do .plain rfl (D_allocOc (g := g0) 2006 (⟨0, 0, 0⟩ : LoomRun) Try.zeroValue76 (fun m w => ⟨_, (rep_two rep_int (rep_two rep_int rep_int)), rfl⟩) fun g1 w1 p1 hs b1 cb => ?_)))
 have hfr := hfr.stp hs
 clear cb
 refine EL_nil (thn_n (E_seq (E_region (EL_mw (.int .i64 (x0)) rfl rfl ?_))))
 refine EL_mw (.int .i64 (x1)) rfl rfl ?_
 refine EL_mw (.int .i64 (x2)) rfl rfl ?_
 have r2 : RV g1.m w1 (⟨x0, x1, x2⟩ : LoomRun) (.agg (setCh [[.int .i64 0], [.int .i64 0], [.int .i64 0]] [(0, .int .i64 (x0)), (1, .int .i64 (x1)), (2, .int .i64 (x2))]).flatten.toArray) := RV_build rfl (rep_pair (rfl) (rep_pair (rfl) (rep_last (rfl))))
 generalize hv2 : (Value.agg (setCh [[.int .i64 0], [.int .i64 0], [.int .i64 0]] [(0, .int .i64 (x0)), (1, .int .i64 (x1)), (2, .int .i64 (x2))]).flatten.toArray) = v2 at r2
 refine EL_pur (v := v2) (hv2 ▸ P_build (vs := [(0, .int .i64 (x0)), (1, .int .i64 (x1)), (2, .int .i64 (x2))]) [[.int .i64 0], [.int .i64 0], [.int .i64 0]] lay_76 rfl rfl (.cons rfl (.cons rfl (.cons rfl .nil))) ⟨⟨_, rfl, rfl⟩, ⟨⟨_, rfl, rfl⟩, ⟨⟨_, rfl, rfl⟩, trivial⟩⟩⟩) .plain rfl ?_
 refine EL_do .plain rfl (D_storeOc (g := g1) (v := v2) Try.sizeOf76 rfl b1 rfl r2 fun g3 w3 hs b3 cb => ?_)
 clear cb
 have hfr := hfr.stp hs
 refine EL_nil (thn_n (E_ret ?_))
 obtain rfl := sinj h
 obtain ⟨ad4, cv4, hp4, o0, cr4⟩ := ob_read Try.isAgg76 Try.sizeOf76 b3
 exact endm_c rfl rfl ((show _ = p1 from rfl).trans hp4) o0 ⟨_, hfr, cr4⟩
def f47  : Option (LoomMill) :=
 some ((⟨([(10 : Int), (20 : Int)] : List Int), (2 : Int)⟩ : LoomMill))
theorem en47 : Enters Try.prog 47 := enters_of Try.func47 (by kernel_rfl) rfl
theorem wk47 {gI : Gh} {wI : World}   {r : LoomMill} (h : f47  = some r) : Fn Try.prog 47 #[] gI wI (fun m w v => RV m w (r) v) := by
 unfold f47 at h
 refine fn_of_E Try.func47 rfl (Nat.le_of_ble_eq_true rfl) fun g0 hm hfr => ?_
 show E _ 3 none _ _ _ _ _
 refine E_seq (E_region (EL_do .plain rfl (D_allocOc (g := g0) 2000 (⟨[], 0⟩ : LoomMill) Try.zeroValue24 (fun m w => ⟨_, (rep_two rep_nil rep_int), rfl⟩) fun g1 w1 p1 hs b1 cb => ?_)))
 have hfr := hfr.stp hs
 have u0 : OSF 2000 60000 0 g1 w1 3 24 ([] : List Int) p1 := cb.osf (by rfl)
 clear cb
 refine EL_nil (thn_n (E_seq (E_region (EL_do .plain rfl (D_buildSlice (g := g1) 3001 (xs := ([(10 : Int), (20 : Int)] : List Int)) (vs := [.int .i64 (10), .int .i64 (20)]) Try.underlying22 Try.sizeOf3 Try.zeroValue3 rfl rfl (.cons rfl (.cons rfl .nil)) (RVs.cons (RV_int.2 rfl) (RVs.cons (RV_int.2 rfl) RVs.nil)) rfl rfl fun g2 w2 v2 hs o2 r2 hxt hfl => ?_)))))
 have hfr := hfr.stp hs
 have b1 := b1.stp hs rfl
 have r3 : RV g2.m _ (⟨([(10 : Int), (20 : Int)] : List Int), (2 : Int)⟩ : LoomMill) (.agg (setCh [[.slice none 0 0], [.int .i64 0]] [(0, v2), (1, .int .i64 (2))]).flatten.toArray) := RV_build rfl (rep_pair (RV.cells r2) (rep_last (rfl)))
 generalize hv3 : (Value.agg (setCh [[.slice none 0 0], [.int .i64 0]] [(0, v2), (1, .int .i64 (2))]).flatten.toArray) = v3 at r3
 refine EL_pur (v := v3) (hv3 ▸ P_build (vs := [(0, v2), (1, .int .i64 (2))]) [[.slice none 0 0], [.int .i64 0]] lay_24 rfl rfl (.cons rfl (.cons rfl .nil)) ⟨⟨_, rfl, cells_size r2⟩, ⟨⟨_, rfl, rfl⟩, trivial⟩⟩) .plain rfl ?_
 refine EL_do .plain rfl (D_storeOc (g := g2) (v := v3) Try.sizeOf24 rfl b1 rfl r3 fun g4 w4 hs b4 cb => ?_)
 clear cb
 have hfr := hfr.stp hs
 refine EL_nil (thn_n (E_ret ?_))
 obtain rfl := sinj h
 obtain ⟨ad5, cv5, hp5, o0, cr5⟩ := ob_read Try.isAgg24 Try.sizeOf24 b4
 exact endm_c rfl rfl ((show _ = p1 from rfl).trans hp5) o0 ⟨_, hfr, cr5⟩
def f48 (x0 : Int) (x1 : Int) : Option ((List LoomOrder)) :=
 some (([(⟨(5 : Int), (1 : Int), (10 : Int), 0, (20 : Int)⟩ : LoomOrder), (⟨(15 : Int), (2 : Int), (12 : Int), 0, (20 : Int)⟩ : LoomOrder), (⟨(5 : Int), x0, x1, 0, (20 : Int)⟩ : LoomOrder)] : List LoomOrder))
theorem en48 : Enters Try.prog 48 := enters_of Try.func48 (by kernel_rfl) rfl
theorem wk48 {gI : Gh} {wI : World} {x0 : Int} {x1 : Int}  {r : (List LoomOrder)} (h : f48 x0 x1 = some r) : Fn Try.prog 48 #[.int .i64 (x0), .int .i64 (x1)] gI wI (fun m w v => RV m w (r) v) := by
 unfold f48 at h
 refine fn_of_E Try.func48 rfl (Nat.le_of_ble_eq_true rfl) fun g0 hm hfr => ?_
 show E _ 11 none _ _ _ _ _
 refine E_seq (E_region (EL_at (.slice none 0 0) rfl rfl ?_))
 refine EL_nil (thn_n (E_seq (E_region ?_)))
 have r1 : RV g0.m wI (⟨(5 : Int), (1 : Int), (10 : Int), 0, (20 : Int)⟩ : LoomOrder) (.agg (setCh [[.int .i64 0], [.int .i64 0], [.int .i64 0], [.int .i64 0], [.int .i64 0]] [(0, .int .i64 (5)), (1, .int .i64 (1)), (2, .int .i64 (10)), (4, .int .i64 (20))]).flatten.toArray) := RV_build rfl (rep_pair (rfl) (rep_pair (rfl) (rep_pair (rfl) (rep_pair (rep_int) (rep_last (rfl))))))
 generalize hv1 : (Value.agg (setCh [[.int .i64 0], [.int .i64 0], [.int .i64 0], [.int .i64 0], [.int .i64 0]] [(0, .int .i64 (5)), (1, .int .i64 (1)), (2, .int .i64 (10)), (4, .int .i64 (20))]).flatten.toArray) = v1 at r1
 refine EL_pur (v := v1) (hv1 ▸ P_build (vs := [(0, .int .i64 (5)), (1, .int .i64 (1)), (2, .int .i64 (10)), (4, .int .i64 (20))]) [[.int .i64 0], [.int .i64 0], [.int .i64 0], [.int .i64 0], [.int .i64 0]] lay_82 rfl rfl (.cons rfl (.cons rfl (.cons rfl (.cons rfl .nil)))) ⟨⟨_, rfl, rfl⟩, ⟨⟨_, rfl, rfl⟩, ⟨⟨_, rfl, rfl⟩, ⟨⟨_, rfl, rfl⟩, trivial⟩⟩⟩⟩) .plain rfl ?_
 have r2 : RV g0.m wI (⟨(15 : Int), (2 : Int), (12 : Int), 0, (20 : Int)⟩ : LoomOrder) (.agg (setCh [[.int .i64 0], [.int .i64 0], [.int .i64 0], [.int .i64 0], [.int .i64 0]] [(0, .int .i64 (15)), (1, .int .i64 (2)), (2, .int .i64 (12)), (4, .int .i64 (20))]).flatten.toArray) := RV_build rfl (rep_pair (rfl) (rep_pair (rfl) (rep_pair (rfl) (rep_pair (rep_int) (rep_last (rfl))))))
 generalize hv2 : (Value.agg (setCh [[.int .i64 0], [.int .i64 0], [.int .i64 0], [.int .i64 0], [.int .i64 0]] [(0, .int .i64 (15)), (1, .int .i64 (2)), (2, .int .i64 (12)), (4, .int .i64 (20))]).flatten.toArray) = v2 at r2
 refine EL_pur (v := v2) (hv2 ▸ P_build (vs := [(0, .int .i64 (15)), (1, .int .i64 (2)), (2, .int .i64 (12)), (4, .int .i64 (20))]) [[.int .i64 0], [.int .i64 0], [.int .i64 0], [.int .i64 0], [.int .i64 0]] lay_82 rfl rfl (.cons rfl (.cons rfl (.cons rfl (.cons rfl .nil)))) ⟨⟨_, rfl, rfl⟩, ⟨⟨_, rfl, rfl⟩, ⟨⟨_, rfl, rfl⟩, ⟨⟨_, rfl, rfl⟩, trivial⟩⟩⟩⟩) .plain rfl ?_
 refine EL_mw (.int .i64 (x0)) rfl rfl ?_
 refine EL_mw (.int .i64 (x1)) rfl rfl ?_
 have r3 : RV g0.m wI (⟨(5 : Int), x0, x1, 0, (20 : Int)⟩ : LoomOrder) (.agg (setCh [[.int .i64 0], [.int .i64 0], [.int .i64 0], [.int .i64 0], [.int .i64 0]] [(0, .int .i64 (5)), (1, .int .i64 (x0)), (2, .int .i64 (x1)), (4, .int .i64 (20))]).flatten.toArray) := RV_build rfl (rep_pair (rfl) (rep_pair (rfl) (rep_pair (rfl) (rep_pair (rep_int) (rep_last (rfl))))))
 generalize hv3 : (Value.agg (setCh [[.int .i64 0], [.int .i64 0], [.int .i64 0], [.int .i64 0], [.int .i64 0]] [(0, .int .i64 (5)), (1, .int .i64 (x0)), (2, .int .i64 (x1)), (4, .int .i64 (20))]).flatten.toArray) = v3 at r3
 refine EL_pur (v := v3) (hv3 ▸ P_build (vs := [(0, .int .i64 (5)), (1, .int .i64 (x0)), (2, .int .i64 (x1)), (4, .int .i64 (20))]) [[.int .i64 0], [.int .i64 0], [.int .i64 0], [.int .i64 0], [.int .i64 0]] lay_82 rfl rfl (.cons rfl (.cons rfl (.cons rfl (.cons rfl .nil)))) ⟨⟨_, rfl, rfl⟩, ⟨⟨_, rfl, rfl⟩, ⟨⟨_, rfl, rfl⟩, ⟨⟨_, rfl, rfl⟩, trivial⟩⟩⟩⟩) .plain rfl ?_
 refine EL_do .plain rfl (D_buildSlice (g := g0) 3010 (xs := ([(⟨(5 : Int), (1 : Int), (10 : Int), 0, (20 : Int)⟩ : LoomOrder), (⟨(15 : Int), (2 : Int), (12 : Int), 0, (20 : Int)⟩ : LoomOrder), (⟨(5 : Int), x0, x1, 0, (20 : Int)⟩ : LoomOrder)] : List LoomOrder)) (vs := [v1, v2, v3]) Try.underlying25 Try.sizeOf82 Try.zeroValue82 rfl rfl (.cons rfl (.cons rfl (.cons rfl .nil))) (RVs.cons r1 (RVs.cons r2 (RVs.cons r3 RVs.nil))) rfl rfl fun g4 w4 v4 hs o4 r4 hxt hfl => ?_)
 have hfr := hfr.stp hs
 refine EL_at v4 rfl rfl ?_
 refine EL_nil (thn_n (E_ret ?_))
 obtain rfl := sinj h
 exact end1 rfl rfl (show _ = v4 from rfl) ⟨_, hfr, r4⟩
def f49 (x0 : Int) (x1 : Int) : Option (LoomStop) :=
 some ((⟨0, (⟨x0, x1⟩ : Span)⟩ : LoomStop))
theorem en49 : Enters Try.prog 49 := enters_of Try.func49 (by kernel_rfl) rfl
theorem wk49 {gI : Gh} {wI : World} {x0 : Int} {x1 : Int}  {r : LoomStop} (h : f49 x0 x1 = some r) : Fn Try.prog 49 #[.int .i64 (x0), .int .i64 (x1)] gI wI (fun m w v => RV m w (r) v) := by
 unfold f49 at h
 refine fn_of_E Try.func49 rfl (Nat.le_of_ble_eq_true rfl) fun g0 hm hfr => ?_
 show E _ 9 none _ _ _ _ _
 refine E_seq (E_region (EL_do .plain rfl (D_allocOc (g := g0) 2004 (⟨0, ⟨0, 0⟩⟩ : LoomStop) Try.zeroValue54 (fun m w => ⟨_, (rep_two rep_int (rep_two rep_int rep_int)), rfl⟩) fun g1 w1 p1 hs b1 cb => ?_)))
 have hfr := hfr.stp hs
 clear cb
 refine EL_nil (thn_n (E_seq (E_region (EL_mw (.int .i64 (x0)) rfl rfl ?_))))
 refine EL_mw (.int .i64 (x1)) rfl rfl ?_
 have r2 : RV g1.m w1 (⟨x0, x1⟩ : Span) (.agg (setCh [[.int .i64 0], [.int .i64 0]] [(0, .int .i64 (x0)), (1, .int .i64 (x1))]).flatten.toArray) := RV_build rfl (rep_pair (rfl) (rep_last (rfl)))
 generalize hv2 : (Value.agg (setCh [[.int .i64 0], [.int .i64 0]] [(0, .int .i64 (x0)), (1, .int .i64 (x1))]).flatten.toArray) = v2 at r2
 refine EL_pur (v := v2) (hv2 ▸ P_build (vs := [(0, .int .i64 (x0)), (1, .int .i64 (x1))]) [[.int .i64 0], [.int .i64 0]] lay_48 rfl rfl (.cons rfl (.cons rfl .nil)) ⟨⟨_, rfl, rfl⟩, ⟨⟨_, rfl, rfl⟩, trivial⟩⟩) .plain rfl ?_
 have r3 : RV g1.m _ (⟨0, (⟨x0, x1⟩ : Span)⟩ : LoomStop) (.agg (setCh [[.int .i64 0], [.int .i64 0, .int .i64 0]] [(1, v2)]).flatten.toArray) := RV_build rfl (rep_pair (rep_int) (rep_last (RV.cells r2)))
 generalize hv3 : (Value.agg (setCh [[.int .i64 0], [.int .i64 0, .int .i64 0]] [(1, v2)]).flatten.toArray) = v3 at r3
 refine EL_pur (v := v3) (hv3 ▸ P_build (vs := [(1, v2)]) [[.int .i64 0], [.int .i64 0, .int .i64 0]] lay_54 rfl rfl (.cons rfl .nil) ⟨⟨_, rfl, cells_size r2⟩, trivial⟩) .plain rfl ?_
 refine EL_do .plain rfl (D_storeOc (g := g1) (v := v3) Try.sizeOf54 rfl b1 rfl r3 fun g4 w4 hs b4 cb => ?_)
 clear cb
 have hfr := hfr.stp hs
 refine EL_nil (thn_n (E_ret ?_))
 obtain rfl := sinj h
 obtain ⟨ad5, cv5, hp5, o0, cr5⟩ := ob_read Try.isAgg54 Try.sizeOf54 b4
 exact endm_c rfl rfl ((show _ = p1 from rfl).trans hp5) o0 ⟨_, hfr, cr5⟩
def f53 (x0 : LoomLoomMill) : Option (Int) :=
 (shl64 (1 : Int) (((x0).orders).length : Int)).bind fun y4 =>
 some ((w64 (y4 - (1 : Int))))
theorem en53 : Enters Try.prog 53 := enters_of Try.func53 (by kernel_rfl) rfl
theorem wk53 {gI : Gh} {wI : World} {x0 : LoomLoomMill} {up0 : Value} (rp0 : RV gI.m wI x0 up0) {r : Int} (h : f53 x0 = some r) : Fn Try.prog 53 #[up0] gI wI (fun _ _ v => v = .int .i64 (r)) := by
 unfold f53 at h
 refine fn_of_E Try.func53 rfl (Nat.le_of_ble_eq_true rfl) fun g0 hm hfr => ?_
 have rp0 : RV g0.m wI x0 up0 := hm ▸ rp0
 show E _ 8 none _ _ _ _ _
 refine E_seq (E_region (EL_do .plain rfl (D_box (g := g0) rfl rp0 fun g1 w1 p1 hs q1 => ?_)))
 have hfr := hfr.ext hs
 refine EL_at (.int .i64 (0)) rfl rfl ?_
 refine EL_nil (thn_n (E_seq (E_region (EL_pur (v := fPtr p1 2) (P_fieldAddr at_96_1 rfl (PT.ptr q1)) .plain rfl ?_))))
 have q2 := PT_field (part_LoomLoomMill_1).1 q1
 refine EL_do .plain rfl (D_load (g := g1) Try.isAgg25 Try.sizeOf25 rfl q2 fun v3 r3 => ?_)
 refine EL_pur (v := .int .i64 (((x0).orders).length : Int)) (P_len Try.underlying25 rfl r3) .plain rfl ?_
 obtain ⟨y4, o0, h⟩ := bsome h
 refine EL_pur (v := .int .i64 (y4)) (P_int rfl rfl (congrArg (Option.map (Value.int .i64)) o0)) .plain rfl ?_
 refine EL_in (.int .i64 ((w64 (y4 - (1 : Int))))) rfl rfl rfl rfl ?_
 refine EL_at (.int .i64 ((w64 (y4 - (1 : Int))))) rfl rfl ?_
 refine EL_nil (thn_n (E_ret ?_))
 obtain rfl := sinj h
 exact end1 rfl rfl (show _ = .int .i64 ((w64 (y4 - (1 : Int)))) from rfl) ⟨_, hfr, rfl⟩
def f56 (x0 : Int) (z0 : List Bool) : Option (Bool) :=
 (idx z0 x0).bind fun y2 =>
 some ((!y2))
theorem en56 : Enters Try.prog 56 := enters_of Try.func56 (by kernel_rfl) rfl
theorem wk56 {gI : Gh} {wI : World} {x0 : Int} {z0 : List Bool} {pf0 : Value} (qf0 : PT gI.m wI z0 pf0) {r : Bool} (h : f56 x0 z0 = some r) : Fn Try.prog 56 #[.int .i64 (x0), pf0] gI wI (fun _ _ v => v = .bool (r)) := by
 unfold f56 at h
 refine fn_of_E Try.func56 rfl (Nat.le_of_ble_eq_true rfl) fun g0 hm hfr => ?_
 have qf0 : PT g0.m wI z0 pf0 := hm ▸ qf0
 show E _ 9 none _ _ _ _ _
 refine E_seq (E_region (EL_at (.bool false) rfl rfl ?_))
 refine EL_nil (thn_n (E_seq (E_region (EL_do .plain rfl (D_load (g := g0) Try.isAgg101 Try.sizeOf101 rfl qf0 fun v1 r1 => ?_)))))
 refine EL_mw (.int .i64 (x0)) rfl rfl ?_
 obtain ⟨y2, hy2, h⟩ := bsome h
 refine EL_pur (v := ePtr v1 x0 1) (P_indexAddr (α := Bool) Try.underlying101 Try.sizeOf4 rfl r1 rfl hy2) .plain rfl ?_
 have q3 := PT_idx r1 hy2
 refine EL_do .plain rfl (D_load (g := g0) Try.isAgg4 Try.sizeOf4 rfl q3 fun v4 r4 => ?_)
 obtain rfl := RV_bool.1 r4
 refine EL_pur (v := .bool (!y2)) (P_not rfl) .plain rfl ?_
 refine EL_at (.bool (!y2)) rfl rfl ?_
 refine EL_nil (thn_n (E_ret ?_))
 obtain rfl := sinj h
 exact end1 rfl rfl (show _ = .bool (!y2) from rfl) ⟨_, hfr, rfl⟩
def f57 (x0 : Int) (z0 : List Bool) (z1 : LoomLoomMill) : Option (Bool) :=
 (f53 z1).bind fun y4 =>
 (idx z0 (bit64 .andNot y4 x0)).bind fun y5 =>
 some (y5)
theorem en57 : Enters Try.prog 57 := enters_of Try.func57 (by kernel_rfl) rfl
theorem wk57 {gI : Gh} {wI : World} {x0 : Int} {z0 : List Bool} {z1 : LoomLoomMill} {pf0 : Value} (qf0 : PT gI.m wI z0 pf0) {pf1 : Value} (qf1 : PT gI.m wI z1 pf1) {r : Bool} (h : f57 x0 z0 z1 = some r) : Fn Try.prog 57 #[.int .i64 (x0), pf0, pf1] gI wI (fun _ _ v => v = .bool (r)) := by
 unfold f57 at h
 refine fn_of_E Try.func57 rfl (Nat.le_of_ble_eq_true rfl) fun g0 hm hfr => ?_
 have qf0 : PT g0.m wI z0 pf0 := hm ▸ qf0
 have qf1 : PT g0.m wI z1 pf1 := hm ▸ qf1
 show E _ 12 none _ _ _ _ _
 refine E_seq (E_region (EL_at (.bool false) rfl rfl ?_))
 refine EL_nil (thn_n (E_seq (L_load (x := .tmp 1) Try.isAgg101 Try.sizeOf101 qf0 fun v1 r1 hl1 => ?_)))
 refine L_load (x := .tmp 2) Try.isAgg96 Try.sizeOf96 qf1 fun v2 r2 hl2 => ?_
 obtain ⟨y4, o0, h⟩ := bsome h
 obtain ⟨y5, hy5, h⟩ := bsome h
 have q6 := PT_idx r1 hy5
 refine L_load (x := .tmp 10) Try.isAgg4 Try.sizeOf4 q6 fun v7 r7 hl7 => ?_
 obtain rfl := RV_bool.1 r7
 refine E_drawL (g := g0) (n := 8) [(2, (fun v g w => v = .int .i64 (y4)))] [0, 1, 2, 3, 4, 5, 6, 7] rfl mixed (by kernel_rfl) (⟨fun _ => up_eq _, trivial⟩) ?_
 refine L_ld (c := v1) rfl rfl .plain (fun _ _ h => h.ch) hl1 rfl ?_
 refine L_ld (c := v2) rfl rfl .plain (fun _ _ h => h.ch) hl2 rfl ?_
 refine L_do (φ := fun v g w => v = .int .i64 (y4)) rfl rfl .plain (fun g w hd => D_call (g := g) (vs := [v2]) en53 (.cons rfl .nil) (wk53 (r2.ext hd.1) o0) fun g' w' v hs hr => ⟨g', hs, hr⟩) (fun v3 hv => ?_)
 obtain ⟨_, _, _, rfl⟩ := hv
 refine L_pur (c := .int .i64 (x0)) rfl rfl .plain (fun _ _ hd => P_move rfl) ?_
 refine L_pur (c := .int .i64 ((bit64 .andNot y4 x0))) rfl rfl .plain (fun _ _ hd => P_int rfl rfl rfl) ?_
 refine L_pur (c := ePtr v1 (bit64 .andNot y4 x0) 1) rfl rfl .plain (fun _ _ hd => P_indexAddr (α := Bool) Try.underlying101 Try.sizeOf4 rfl r1 rfl hy5) ?_
 refine L_ld (c := .bool (y5)) rfl rfl .plain (fun _ _ h => h.ch) hl7 rfl ?_
 refine L_pur (c := .bool (y5)) rfl rfl .plain (fun _ _ hd => P_assign rfl) ?_
 refine L_nil fun g8 w8 hall => ?_
 have hs := hall.1
 have hfr := hfr.ext hs
 clear hs hall
 refine EL_nil (thn_n (E_ret ?_))
 obtain rfl := sinj h
 exact end1 rfl rfl (show _ = .bool (y5) from rfl) ⟨_, hfr, rfl⟩
def f59 (x0 : Int) : Option ((List Int)) :=
 Option.bind (α := (List Int)) (
  lp (σ := (List Int) × Int) (fun v6 (u0, o0) =>
   jn (σ := Unit) (fun (_ : Unit) =>
    Option.bind (α := (List Int)) (
     (shr64 x0 o0).bind fun z3 =>
     bif ((bit64 .and z3 (1 : Int)) == (1 : Int)) then
      (apnd 8 u0 (([o0] : List Int))).bind fun x6 =>
      some (x6)
     else
      some (u0)
     ) fun j1 =>
    v6 (j1, (w64 (o0 + (1 : Int))))
    ) fun y6 =>
   (shr64 x0 o0).bind fun p4 =>
   bif (decide (p4 > (0 : Int))) then
    y6 ()
   else
    some (u0)
   ) big ([], (0 : Int))
  ) fun d3 =>
 some (d3)
theorem en59 : Enters Try.prog 59 := enters_of Try.func59 (by kernel_rfl) rfl
theorem wk59 {gI : Gh} {wI : World} {x0 : Int}  {r : (List Int)} (h : f59 x0 = some r) : Fn Try.prog 59 #[.int .i64 (x0)] gI wI (fun m w v => RV m w (r) v) := by
 unfold f59 at h
 refine fn_of_E Try.func59 rfl (Nat.le_of_ble_eq_true rfl) fun g0 hm hfr => ?_
 show E _ 20 none _ _ _ _ _
 refine E_seq (E_region (EL_at (.slice none 0 0) rfl rfl ?_))
 refine EL_nil (thn_n ?_)
 obtain ⟨d3, hx, h⟩ := bsome h
 refine E_join (fun e w => ∃ (g : Gh) (v2 : Value), Fr gI wI g w ∧ e 2 = v2 ∧ RV g.m w (d3 : List Int) v2 ∧ OS 1002 g w 3 (d3 : List Int) v2) (fun Q' hQ => ?_) (fun t7 e8 hR => ?_)
 ·replace h := hx
  clear hx
  refine E_seq (E_region (EL_at (.int .i64 (0)) rfl rfl ?_))
  refine EL_nil (thn_n (E_block ?_))
  refine E_lp h (fun (s : (List Int) × Int) e w => ∃ (g : Gh) (v2 : Value), Fr gI wI g w ∧ e 0 = .int .i64 (x0) ∧ e 2 = v2 ∧ RV g.m w (s.1 : List Int) v2 ∧ OS 1002 g w 3 (s.1 : List Int) v2 ∧ e 3 = .int .i64 (s.2)) ⟨g0, (.slice none 0 0), hfr, rfl, rfl, RV_nil, OS.nil, rfl⟩ (fun X20 v6 c7 => ?_)
  rintro ⟨u0, o0⟩ u7 g8 ⟨z6, z2, hfr, z4, d5, i5, l5, o5⟩ h
  refine E_joinC h (fun (s : Unit) e w => ∃ (g : Gh) , Fr gI wI g w ∧ e 0 = .int .i64 (x0) ∧ e 2 = z2 ∧ RV g.m w (u0 : List Int) z2 ∧ OS 1002 g w 3 (u0 : List Int) z2 ∧ e 3 = .int .i64 (o0)) (fun X24 y6 d7 h => ?_) ?_
  ·refine E_seq (E_region (EL_mv z4 rfl ?_))
   refine EL_mv o5 rfl ?_
   obtain ⟨p4, e7, h⟩ := bsome h
   refine EL_pur (v := .int .i64 (p4)) (P_int rfl rfl (congrArg (Option.map (Value.int .i64)) e7)) .plain rfl ?_
   refine EL_in (.bool ((decide (p4 > (0 : Int))))) rfl rfl rfl rfl ?_
   refine EL_nil (thn_n ?_)
   rcases csome h with ⟨d4, h⟩ | ⟨d4, h⟩
   ·refine E_ct d4 rfl ?_
    exact E_skip (thn_n (d7 () _ _ ⟨z6, hfr, z4, d5, i5, l5, o5⟩ h))
   ·refine E_cf d4 rfl ?_
    refine E_exit ?_
    refine thn_e ?_
    refine thn_e ?_
    refine blk_hit ?_
    obtain rfl := sinj h
    exact hQ _ _ ⟨z6, (z2), hfr, d5, i5, l5⟩
  ·rintro _ v7 i8 ⟨a7, hfr, u3, p5, i3, j3, o3⟩ h
   obtain ⟨j1, hx, h⟩ := bsome h
   refine E_join (fun e w => ∃ (g : Gh) (v2 : Value), Fr gI wI g w ∧ e 0 = .int .i64 (x0) ∧ e 2 = v2 ∧ RV g.m w (j1 : List Int) v2 ∧ OS 1002 g w 3 (j1 : List Int) v2 ∧ e 3 = .int .i64 (o0)) (fun Q' hQ => ?_) (fun c8 k8 hR => ?_)
   ·replace h := hx
    clear hx
    refine E_block ?_
    refine E_seq (E_region (EL_mv u3 rfl ?_))
    refine EL_mv o3 rfl ?_
    obtain ⟨z3, g7, h⟩ := bsome h
    refine EL_pur (v := .int .i64 (z3)) (P_int rfl rfl (congrArg (Option.map (Value.int .i64)) g7)) .plain rfl ?_
    refine EL_in (.int .i64 ((bit64 .and z3 (1 : Int)))) rfl rfl rfl rfl ?_
    refine EL_in (.bool (((bit64 .and z3 (1 : Int)) == (1 : Int)))) rfl rfl rfl rfl ?_
    refine EL_nil (thn_n ?_)
    rcases csome h with ⟨m4, h⟩ | ⟨m4, h⟩
    ·refine E_ct m4 rfl ?_
     refine E_region (EL_mv p5 rfl ?_)
     refine EL_mv o3 rfl ?_
     refine EL_do .plain rfl (D_buildSlice (g := a7) 3017 (xs := ([o0] : List Int)) (vs := [.int .i64 (o0)]) Try.underlying22 Try.sizeOf3 Try.zeroValue3 rfl rfl (.cons rfl .nil) (RVs.cons (RV_int.2 rfl) RVs.nil) rfl rfl fun j7 l8 m8 hs o35 m7 hxt hfl => ?_)
     have hfr := hfr.stp hs
     have i3 := i3.stp hs
     have j3 := j3.stp hs rfl
     obtain ⟨x6, i7, h⟩ := bsome h
     refine EL_do .plain rfl (D_append (g := j7) (i := 1002) Try.underlying22 info_3 rfl rfl j3 i3 rfl m7 i7 fun n7 n8 b7 hs o36 o7 _ => ?_)
     have hfr := hfr.stp hs
     refine EL_at b7 rfl rfl ?_
     refine EL_nil (blk_n ?_)
     obtain rfl := sinj h
     exact hQ _ _ ⟨n7, (b7), hfr, u3, rfl, o7, o36, o3⟩
    ·refine E_cf m4 rfl ?_
     refine E_skip (blk_n ?_)
     obtain rfl := sinj h
     exact hQ _ _ ⟨a7, (z2), hfr, u3, p5, i3, j3, o3⟩
   ·clear hx
    obtain ⟨p7, t5, hfr, u5, x5, c6, d6, i6⟩ := hR
    refine E_region (EL_mv i6 rfl ?_)
    refine EL_in (.int .i64 ((w64 (o0 + (1 : Int))))) rfl rfl rfl rfl ?_
    refine EL_at (.int .i64 ((w64 (o0 + (1 : Int))))) rfl rfl ?_
    exact EL_nil (thn_n (c7 (j1, (w64 (o0 + (1 : Int)))) _ _ ⟨p7, (t5), hfr, u5, x5, c6, d6, rfl⟩ h))
 ·clear hx
  obtain ⟨o8, q5, hfr, j6, l6, q7⟩ := hR
  refine E_seq (E_region (EL_mv j6 rfl ?_))
  refine EL_at q5 rfl rfl ?_
  refine EL_nil (thn_n (E_ret ?_))
  obtain rfl := sinj h
  exact end1 rfl rfl (show _ = q5 from rfl) ⟨_, hfr, l6⟩
def f64 (x0 : LoomLoomMill) (x1 : Int) (x2 : Int) : Option (Int) :=
 Option.bind (α := Int) (
  lp (σ := Int × Int) (fun k48 (z2, o0) =>
   bif (decide (o0 < (((x0).orders).length : Int))) then
    Option.bind (α := Int) (
     (idx ((x0).orders) o0).bind fun y70 =>
     Option.bind (α := Bool) (
      bif (decide ((y70).Early ≥ x1)) then
       some ((decide ((y70).Late ≤ x2)))
      else
       some (false)
      ) fun s25_85 =>
     bif s25_85 then
      some ((w64 (z2 + (y70).Woven)))
     else
      some (z2)
     ) fun s6_89 =>
    k48 (s6_89, (w64 (o0 + (1 : Int))))
   else
    some (z2)
   ) big ((0 : Int), (0 : Int))
  ) fun d3 =>
 some (d3)
theorem en64 : Enters Try.prog 64 := enters_of Try.func64 (by kernel_rfl) rfl
theorem wk64 {gI : Gh} {wI : World} {x0 : LoomLoomMill} {x1 : Int} {x2 : Int} {up0 : Value} (rp0 : RV gI.m wI x0 up0) {r : Int} (h : f64 x0 x1 x2 = some r) : Fn Try.prog 64 #[up0, .int .i64 (x1), .int .i64 (x2)] gI wI (fun _ _ v => v = .int .i64 (r)) := by
 unfold f64 at h
 refine fn_of_E Try.func64 rfl (Nat.le_of_ble_eq_true rfl) fun g0 hm hfr => ?_
 have rp0 : RV g0.m wI x0 up0 := hm ▸ rp0
 show E _ 32 none _ _ _ _ _
 refine E_seq (E_region (EL_do .plain rfl (D_box (g := g0) rfl rp0 fun g1 w1 p1 hs q1 => ?_)))
 have hfr := hfr.ext hs
 refine EL_at (.int .i64 (0)) rfl rfl ?_
 refine EL_nil (thn_n ?_)
 obtain ⟨d3, hx, h⟩ := bsome h
 refine E_join (fun e w => ∃ (g : Gh) , Fr gI wI g w ∧ e 6 = .int .i64 (d3)) (fun Q' hQ => ?_) (fun c8 k8 hR => ?_)
 ·replace h := hx
  clear hx
  refine E_seq (E_region (EL_pur (v := fPtr p1 2) (P_fieldAddr at_96_1 rfl (PT.ptr q1)) .plain rfl ?_))
  have m7 := PT_field (part_LoomLoomMill_1).1 q1
  refine EL_do .plain rfl (D_load (g := g1) Try.isAgg25 Try.sizeOf25 rfl m7 fun j3 i7 => ?_)
  refine EL_pur (v := .int .i64 (((x0).orders).length : Int)) (P_len Try.underlying25 rfl i7) .plain rfl ?_
  refine EL_mw (.int .i64 (0)) rfl rfl ?_
  refine EL_nil (thn_n (E_block ?_))
  refine E_lp h (fun (s : Int × Int) e w => ∃ (g : Gh) , Fr gI wI g w ∧ e 1 = .int .i64 (x1) ∧ e 2 = .int .i64 (x2) ∧ e 6 = .int .i64 (s.1) ∧ e 10 = j3 ∧ RV g.m w ((x0).orders : List LoomOrder) j3 ∧ e 11 = .int .i64 ((((x0).orders).length : Int)) ∧ e 12 = .int .i64 (s.2)) ⟨g1, hfr, rfl, rfl, rfl, rfl, i7, rfl, rfl⟩ (fun X48 k48 j7 => ?_)
  rintro ⟨z2, o0⟩ e8 l8 ⟨i6, hfr, z3, d4, m4, o3, u0, u3, i3⟩ h
  refine E_seq (E_region (EL_pur (v := .bool ((decide (o0 < (((x0).orders).length : Int))))) (P_int i3 u3 rfl) .plain rfl ?_))
  refine EL_nil (thn_n (E_seq ?_))
  rcases csome h with ⟨p5, h⟩ | ⟨p5, h⟩
  ·refine E_ct p5 rfl ?_
   refine E_skip (thn_n ?_)
   obtain ⟨s6_89, hx, h⟩ := bsome h
   refine E_join (fun e w => ∃ (g : Gh) , Fr gI wI g w ∧ e 1 = .int .i64 (x1) ∧ e 2 = .int .i64 (x2) ∧ e 6 = .int .i64 (s6_89) ∧ e 10 = j3 ∧ RV g.m w ((x0).orders : List LoomOrder) j3 ∧ e 11 = .int .i64 ((((x0).orders).length : Int)) ∧ e 12 = .int .i64 (o0)) (fun Q' hQ => ?_) (fun g8 m8 hR => ?_)
   ·replace h := hx
    clear hx
    refine E_block ?_
    refine E_seq (E_region ?_)
    obtain ⟨y70, j6, h⟩ := bsome h
    refine EL_pur (v := ePtr j3 o0 5) (P_indexAddr (α := LoomOrder) Try.underlying25 Try.sizeOf82 o3 u0 i3 j6) .plain rfl ?_
    have n7 := PT_idx u0 j6
    refine EL_do .plain rfl (D_load (g := i6) Try.isAgg82 Try.sizeOf82 rfl n7 fun o7 l6 => ?_)
    refine EL_do .plain rfl (D_allocOc (g := i6) 2008 (⟨0, 0, 0, 0, 0⟩ : LoomOrder) Try.zeroValue82 (fun m w => ⟨_, (rep_two rep_int (rep_two rep_int (rep_two rep_int (rep_two rep_int rep_int)))), rfl⟩) fun p7 n8 p4 hs b73 cb => ?_)
    have hfr := hfr.stp hs
    have u0 := u0.stp hs
    have l6 := l6.stp hs
    clear cb
    refine EL_do .plain rfl (D_storeOc (g := p7) (v := o7) Try.sizeOf82 rfl b73 rfl l6 fun t5 o8 hs b74 cb => ?_)
    clear cb
    have hfr := hfr.stp hs
    have u0 := u0.stp hs
    refine EL_nil (thn_n ?_)
    obtain ⟨s25_85, hx, h⟩ := bsome h
    refine E_join (fun e w => ∃ (g : Gh) , Fr gI wI g w ∧ e 1 = .int .i64 (x1) ∧ e 2 = .int .i64 (x2) ∧ e 6 = .int .i64 (z2) ∧ e 8 = p4 ∧ OB 2008 g w 82 (y70 : LoomOrder) p4 ∧ e 10 = j3 ∧ RV g.m w ((x0).orders : List LoomOrder) j3 ∧ e 11 = .int .i64 ((((x0).orders).length : Int)) ∧ e 12 = .int .i64 (o0) ∧ e 25 = .bool (s25_85)) (fun Q' hQ => ?_) (fun i8 p8 hR => ?_)
    ·replace h := hx
     clear hx
     refine E_region (EL_pur (v := fPtr p4 3) (P_fieldAddr at_82_3 rfl (OB.ptr b74)) .plain rfl ?_)
     refine EL_do .plain rfl (D_loadF (g := t5) part_LoomOrder_3.1 Try.isAgg3 Try.sizeOf3 rfl b74 fun q8 q7 => ?_)
     obtain rfl := RV_int.1 q7
     refine EL_mv z3 rfl ?_
     refine EL_in (.bool ((decide ((y70).Early ≥ x1)))) rfl rfl rfl rfl ?_
     refine EL_mw (.bool ((decide ((y70).Early ≥ x1)))) rfl rfl ?_
     rcases csome h with ⟨j1, h⟩ | ⟨j1, h⟩
     ·refine EL_pur (v := fPtr p4 4) (P_fieldAddr at_82_4 rfl (OB.ptr b74)) (.yes2 rfl rfl j1) rfl ?_
      refine EL_do (.yes2 rfl rfl j1) rfl (D_loadF (g := t5) part_LoomOrder_4.1 Try.isAgg3 Try.sizeOf3 rfl b74 fun r8 t7 => ?_)
      obtain rfl := RV_int.1 t7
      refine EL_pur (v := .int .i64 (x2)) (P_move d4) (.yes2 rfl rfl j1) rfl ?_
      refine EL_pur (v := .bool ((decide ((y70).Late ≤ x2)))) (P_int rfl rfl rfl) (.yes2 rfl rfl j1) rfl ?_
      refine EL_pur (v := .bool ((decide ((y70).Late ≤ x2)))) (P_pick (b := (decide ((y70).Early ≥ x1))) rfl (pick_t j1 rfl)) .plain rfl ?_
      refine EL_nil ?_
      obtain rfl := sinj h
      exact hQ _ _ ⟨t5, hfr, z3, d4, m4, rfl, b74, o3, u0, u3, i3, rfl⟩
     ·refine EL_skip (.no2 rfl rfl j1 rfl) rfl ?_
      refine EL_skip (.no2 rfl rfl j1 rfl) rfl ?_
      refine EL_skip (.no2 rfl rfl j1 rfl) rfl ?_
      refine EL_skip (.no2 rfl rfl j1 rfl) rfl ?_
      refine EL_pur (v := .bool false) (P_pick (b := (decide ((y70).Early ≥ x1))) rfl (pick_f j1 rfl)) .plain rfl ?_
      refine EL_nil ?_
      obtain rfl := sinj h
      exact hQ _ _ ⟨t5, hfr, z3, d4, m4, rfl, b74, o3, u0, u3, i3, rfl⟩
    ·clear hx
     obtain ⟨v6, hfr, u5, x5, c6, b7, d6, z4, d5, i5, l5, o5⟩ := hR
     rcases csome h with ⟨q5, h⟩ | ⟨q5, h⟩
     ·refine E_cond_true (Eq.trans (show ev _ _ = .bool (s25_85) from o5) (congrArg Value.bool q5)) ?_
      refine E_region (EL_mv c6 rfl ?_)
      refine EL_pur (v := fPtr p4 2) (P_fieldAddr at_82_2 b7 (OB.ptr d6)) .plain rfl ?_
      refine EL_do .plain rfl (D_loadF (g := v6) part_LoomOrder_2.1 Try.isAgg3 Try.sizeOf3 rfl d6 fun t8 u7 => ?_)
      obtain rfl := RV_int.1 u7
      refine EL_in (.int .i64 ((w64 (z2 + (y70).Woven)))) rfl rfl rfl rfl ?_
      refine EL_at (.int .i64 ((w64 (z2 + (y70).Woven)))) rfl rfl ?_
      refine EL_nil (blk_n ?_)
      obtain rfl := sinj h
      exact hQ _ _ ⟨v6, hfr, u5, x5, rfl, z4, d5, i5, l5⟩
     ·refine E_cond_false (Eq.trans (show ev _ _ = .bool (s25_85) from o5) (congrArg Value.bool q5)) ?_
      refine E_skip (blk_n ?_)
      obtain rfl := sinj h
      exact hQ _ _ ⟨v6, hfr, u5, x5, c6, z4, d5, i5, l5⟩
   ·clear hx
    obtain ⟨v7, hfr, c7, d7, e7, x6, y6, z6, a7⟩ := hR
    refine E_region (EL_in (.int .i64 ((w64 (o0 + (1 : Int))))) a7 rfl rfl rfl ?_)
    refine EL_mw (.int .i64 ((w64 (o0 + (1 : Int))))) rfl rfl ?_
    exact EL_nil (thn_n (j7 (s6_89, (w64 (o0 + (1 : Int)))) _ _ ⟨v7, hfr, c7, d7, e7, x6, y6, z6, rfl⟩ h))
  ·refine E_cf p5 rfl ?_
   refine E_exit ?_
   refine thn_e ?_
   refine thn_e ?_
   refine blk_hit ?_
   obtain rfl := sinj h
   exact hQ _ _ ⟨i6, hfr, m4⟩
 ·clear hx
  obtain ⟨v8, hfr, g7⟩ := hR
  refine E_seq (E_region (EL_mv g7 rfl ?_))
  refine EL_at (.int .i64 (d3)) rfl rfl ?_
  refine EL_nil (thn_n (E_ret ?_))
  obtain rfl := sinj h
  exact end1 rfl rfl (show _ = .int .i64 (d3) from rfl) ⟨_, hfr, rfl⟩
def f73 (x0 : LoomLoomMill) (x1 : LoomRun) : Option (Int) :=
 (idx ((x0).orders) (x1).Order).bind fun y9 =>
 some ((w64 ((x1).From + (y9).Woven)))
theorem en73 : Enters Try.prog 73 := enters_of Try.func73 (by kernel_rfl) rfl
theorem wk73 {gI : Gh} {wI : World} {x0 : LoomLoomMill} {x1 : LoomRun} {up0 : Value} (rp0 : RV gI.m wI x0 up0) {up1 : Value} (rp1 : RV gI.m wI x1 up1) {r : Int} (h : f73 x0 x1 = some r) : Fn Try.prog 73 #[up0, up1] gI wI (fun _ _ v => v = .int .i64 (r)) := by
 unfold f73 at h
 refine fn_of_E Try.func73 rfl (Nat.le_of_ble_eq_true rfl) fun g0 hm hfr => ?_
 have rp0 : RV g0.m wI x0 up0 := hm ▸ rp0
 have rp1 : RV g0.m wI x1 up1 := hm ▸ rp1
 show E _ 15 none _ _ _ _ _
 refine E_seq (E_region (EL_do .plain rfl (D_box (g := g0) rfl rp0 fun g1 w1 p1 hs q1 => ?_)))
 have hfr := hfr.ext hs
 have rp1 := rp1.ext hs
 refine EL_do .plain rfl (D_box (g := g1) rfl rp1 fun g2 w2 p2 hs q2 => ?_)
 have hfr := hfr.ext hs
 have q1 := q1.ext hs
 refine EL_at (.int .i64 (0)) rfl rfl ?_
 refine EL_nil (thn_n (E_seq ?_))
 have q3 := PT_field (part_LoomRun_2).1 q2
 refine L_load (x := .tmp 5) Try.isAgg3 Try.sizeOf3 q3 fun v4 r4 j1 => ?_
 obtain rfl := RV_int.1 r4
 have q5 := PT_field (part_LoomLoomMill_1).1 q1
 refine L_load (x := .tmp 7) Try.isAgg25 Try.sizeOf25 q5 fun v6 r6 z2 => ?_
 have q7 := PT_field (part_LoomRun_0).1 q2
 refine L_load (x := .tmp 9) Try.isAgg3 Try.sizeOf3 q7 fun v8 r8 d3 => ?_
 obtain rfl := RV_int.1 r8
 obtain ⟨y9, o0, h⟩ := bsome h
 have u0 := PT_idx r6 o0
 have i3 := PT_field (part_LoomOrder_2).1 u0
 refine L_load (x := .tmp 12) Try.isAgg3 Try.sizeOf3 i3 fun o3 j3 hl12 => ?_
 obtain rfl := RV_int.1 j3
 refine E_drawL (g := g2) (n := 11) [] [0, 1, 2, 3, 4, 5, 6, 7, 8, 9, 10] rfl mixed (by kernel_rfl) trivial ?_
 refine L_pur (c := fPtr p2 2) rfl rfl .plain (fun _ _ hd => P_fieldAddr at_76_2 rfl (PT.ptr q2)) ?_
 refine L_ld (c := .int .i64 ((x1).From)) rfl rfl .plain (fun _ _ h => h.ch) j1 rfl ?_
 refine L_pur (c := fPtr p1 2) rfl rfl .plain (fun _ _ hd => P_fieldAddr at_96_1 rfl (PT.ptr q1)) ?_
 refine L_ld (c := v6) rfl rfl .plain (fun _ _ h => h.ch) z2 rfl ?_
 refine L_pur (c := fPtr p2 0) rfl rfl .plain (fun _ _ hd => P_fieldAddr at_76_0 rfl (PT.ptr q2)) ?_
 refine L_ld (c := .int .i64 ((x1).Order)) rfl rfl .plain (fun _ _ h => h.ch) d3 rfl ?_
 refine L_pur (c := ePtr v6 (x1).Order 5) rfl rfl .plain (fun _ _ hd => P_indexAddr (α := LoomOrder) Try.underlying25 Try.sizeOf82 rfl r6 rfl o0) ?_
 refine L_pur (c := fPtr (ePtr v6 (x1).Order 5) 2) rfl rfl .plain (fun _ _ hd => P_fieldAddr at_82_2 rfl (PT.ptr u0)) ?_
 refine L_ld (c := .int .i64 ((y9).Woven)) rfl rfl .plain (fun _ _ h => h.ch) hl12 rfl ?_
 refine L_pur (c := .int .i64 ((w64 ((x1).From + (y9).Woven)))) rfl rfl .plain (fun _ _ hd => P_int rfl rfl rfl) ?_
 refine L_pur (c := .int .i64 ((w64 ((x1).From + (y9).Woven)))) rfl rfl .plain (fun _ _ hd => P_assign rfl) ?_
 refine L_nil fun u3 z3 hall => ?_
 have hs := hall.1
 have hfr := hfr.ext hs
 clear hs hall
 refine EL_nil (thn_n (E_ret ?_))
 obtain rfl := sinj h
 exact end1 rfl rfl (show _ = .int .i64 ((w64 ((x1).From + (y9).Woven))) from rfl) ⟨_, hfr, rfl⟩
def f76 (x0 : LoomRun) (x1 : LoomRun) : Option (Bool) :=
 Option.bind (α := Bool) (
  bif (decide ((x0).From < (x1).From)) then
   some (true)
  else
   bif ((x0).From == (x1).From) then
    some ((decide ((x0).Order < (x1).Order)))
   else
    some (false)
  ) fun j1 =>
 some (j1)
def f77 (x0 : LoomMill) (x1 : List LoomOrder) (x2 : LoomRun) (x3 : LoomRun) : Option (Int) :=
 (idx x1 (x2).Order).bind fun y8 =>
 Option.bind (α := Int) (
  (idx x1 (x2).Order).bind fun y80 =>
  (idx x1 (x3).Order).bind fun j1 =>
  bif ((y80).Chain != (j1).Chain) then
   some ((w64 ((w64 ((x2).From + (y8).Woven)) + (x0).Change)))
  else
   some ((w64 ((x2).From + (y8).Woven)))
  ) fun o0 =>
 some (o0)
end Go.Proofs.Ytnfjhdagbknlbaa
