import Derived.Test.YtnfjhdagbknlbaaTypes
set_option maxRecDepth 8000
set_option maxHeartbeats 4000000
namespace Go.Proofs.Ytnfjhdagbknlbaa
open Go.RowKit
theorem info_76 : (Try.prog.info? 76).map (fun i => (i.zero, i.size, i.bytes)) = some (some (.agg #[.int .i64 0, .int .i64 0, .int .i64 0]), 3, 24) := by kernel_rfl
theorem plain_LoomOrder : Plain LoomOrder := fun _ m' _ w' x _ h => (plain_two plain_int (plain_two plain_int (plain_two plain_int (plain_two plain_int plain_int)))) _ m' _ w' _ _ h
theorem plain_LoomRun : Plain LoomRun := fun _ m' _ w' x _ h => (plain_two plain_int (plain_two plain_int plain_int)) _ m' _ w' _ _ h
theorem mixed : Try.prog.follows .mixedOrders = true := by kernel_rfl
theorem info_3 : (Try.prog.info? 3).map (fun i => (i.zero, i.size, i.bytes)) = some (some (.int .i64 0), 1, 8) := by kernel_rfl
theorem endm_c {P : Program} {e : Env} {ds : List Deferred} {w : World} {fn : Func} {R : Value → World → Prop} {t0 : Tmp} {v0 : Value} {y0 : TypeId} {a0 : Addr} (hres : fn.results = #[.cell t0 y0]) (hd : ds = []) (h0 : e t0 = .pointer (some a0)) (l0 : (loadVar y0 a0).run P w = .ok v0 w) (h : R v0 w) : atEnd P fn R .ret e ds w :=
 ⟨hd, fun tmps ht => ⟨_, by simp [results, hres, ht, asAddr, h0, l0], h⟩⟩
theorem info_82 : (Try.prog.info? 82).map (fun i => (i.zero, i.size, i.bytes)) = some (some (.agg #[.int .i64 0, .int .i64 0, .int .i64 0, .int .i64 0, .int .i64 0]), 5, 40) := by kernel_rfl
theorem fl_76 : Try.prog.fieldsOf 76 = #[{ name := "Order", type := 3, offset := 0, embedded := false, tag := "", pkgPath := "", byteOffset := 0 }, { name := "Loom", type := 3, offset := 1, embedded := false, tag := "", pkgPath := "", byteOffset := 8 }, { name := "From", type := 3, offset := 2, embedded := false, tag := "", pkgPath := "", byteOffset := 16 }] := by kernel_rfl
theorem seq_76 : SEq (α := LoomRun) Try.prog 76 := by
 intro d x y w a b m wx m2 wy hx hy
 obtain ⟨_, ⟨_, _, rfl, rfl, ⟨_, _, rfl, rfl, rfl⟩⟩, rfl⟩ := hx
 obtain ⟨_, ⟨_, _, rfl, rfl, ⟨_, _, rfl, rfl, rfl⟩⟩, rfl⟩ := hy
 refine (run_equalIn_struct w (d + 1) 76 _ _ (by kernel_rfl) (by kernel_rfl)).trans ?_
 rw [fl_76]
 obtain ⟨x0, x1, x2⟩ := x
 obtain ⟨y0, y1, y2⟩ := y
 show (Op.eqFields (d + 1) #[.int .i64 (x0), .int .i64 (x1), .int .i64 (x2)] #[.int .i64 (y0), .int .i64 (y1), .int .i64 (y2)] _).run _ _ = _
 have x0p : (part 3 #[.int .i64 (x0), .int .i64 (x1), .int .i64 (x2)] 0).run Try.prog w = .ok (.int .i64 (x0)) w := part_one Try.isAgg3 rfl
 have x1p : (part 3 #[.int .i64 (x0), .int .i64 (x1), .int .i64 (x2)] 1).run Try.prog w = .ok (.int .i64 (x1)) w := part_one Try.isAgg3 rfl
 have x2p : (part 3 #[.int .i64 (x0), .int .i64 (x1), .int .i64 (x2)] 2).run Try.prog w = .ok (.int .i64 (x2)) w := part_one Try.isAgg3 rfl
 have y0p : (part 3 #[.int .i64 (y0), .int .i64 (y1), .int .i64 (y2)] 0).run Try.prog w = .ok (.int .i64 (y0)) w := part_one Try.isAgg3 rfl
 have y1p : (part 3 #[.int .i64 (y0), .int .i64 (y1), .int .i64 (y2)] 1).run Try.prog w = .ok (.int .i64 (y1)) w := part_one Try.isAgg3 rfl
 have y2p : (part 3 #[.int .i64 (y0), .int .i64 (y1), .int .i64 (y2)] 2).run Try.prog w = .ok (.int .i64 (y2)) w := part_one Try.isAgg3 rfl
 simp only [Op.eqFields, Sem.run_bind, Sem.run_ite, Sem.run_pure, x0p, x1p, x2p, y0p, y1p, y2p, Result.andThen_ok, run_equalIn_int _ _ _ _ _ _ _ Try.underlying3]
 simp
 grind
theorem eg_76 : Try.prog.eqGuardType Try.prog.depth 76 = false := by kernel_rfl
theorem lay_48 : layoutOf Try.prog 48 = some ([.int .i64 0, .int .i64 0], [(0, 1), (1, 1)]) := by kernel_rfl
theorem endm_ctt {P : Program} {e : Env} {ds : List Deferred} {w : World} {fn : Func} {R : Value → World → Prop} {t0 : Tmp} {v0 : Value} {y0 : TypeId} {a0 : Addr} {t1 : Tmp} {v1 : Value} {t2 : Tmp} {v2 : Value} (hres : fn.results = #[.cell t0 y0, .tmp t1, .tmp t2]) (hd : ds = []) (h0 : e t0 = .pointer (some a0)) (l0 : (loadVar y0 a0).run P w = .ok v0 w) (h1 : e t1 = v1) (h2 : e t2 = v2) (h : R (.tuple #[v0, v1, v2]) w) : atEnd P fn R .ret e ds w :=
 ⟨hd, fun tmps ht => ⟨_, by simp [results, hres, ht, asAddr, h0, l0, h1, h2], h⟩⟩
theorem info_4 : (Try.prog.info? 4).map (fun i => (i.zero, i.size, i.bytes)) = some (some (.bool false), 1, 1) := by kernel_rfl
theorem lay_24 : layoutOf Try.prog 24 = some ([.slice none 0 0, .int .i64 0], [(0, 1), (1, 1)]) := by kernel_rfl
theorem layA_126 : ((Try.prog.info? 126).bind (·.zero)).map (·.cells.toList) = some [.int .i64 0, .int .i64 0, .int .i64 0] := by kernel_rfl
theorem szA_3 : (Try.prog.info? 3).map (·.size) = some 1 := by kernel_rfl
theorem lay_82 : layoutOf Try.prog 82 = some ([.int .i64 0, .int .i64 0, .int .i64 0, .int .i64 0, .int .i64 0], [(0, 1), (1, 1), (2, 1), (3, 1), (4, 1)]) := by kernel_rfl
theorem lay_76 : layoutOf Try.prog 76 = some ([.int .i64 0, .int .i64 0, .int .i64 0], [(0, 1), (1, 1), (2, 1)]) := by kernel_rfl
theorem lay_54 : layoutOf Try.prog 54 = some ([.int .i64 0, .int .i64 0, .int .i64 0], [(0, 1), (1, 2)]) := by kernel_rfl
theorem lay_96 : layoutOf Try.prog 96 = some ([.slice none 0 0, .int .i64 0, .slice none 0 0], [(0, 2), (2, 1)]) := by kernel_rfl
theorem endm_ct {P : Program} {e : Env} {ds : List Deferred} {w : World} {fn : Func} {R : Value → World → Prop} {t0 : Tmp} {v0 : Value} {y0 : TypeId} {a0 : Addr} {t1 : Tmp} {v1 : Value} (hres : fn.results = #[.cell t0 y0, .tmp t1]) (hd : ds = []) (h0 : e t0 = .pointer (some a0)) (l0 : (loadVar y0 a0).run P w = .ok v0 w) (h1 : e t1 = v1) (h : R (.tuple #[v0, v1]) w) : atEnd P fn R .ret e ds w :=
 ⟨hd, fun tmps ht => ⟨_, by simp [results, hres, ht, asAddr, h0, l0, h1], h⟩⟩
theorem key_3 : KeyLaw Try.prog 3 (Value.int .i64) := keyLaw_int Try.underlying3
theorem capf_0_1 {e : Env} {f : FuncId} {o0 : Operand} {b0 : Value} (hb0 : ev e o0 = b0) : (Value.func (.func f) ((#[] : Array Operand).map (ev e)) ((#[o0] : Array Operand).map (ev e))) = .func (.func f) #[] #[b0] := by simp [hb0]
theorem capf_0_2 {e : Env} {f : FuncId} {o0 : Operand} {u3 : Operand} {b0 : Value} {b1 : Value} (hb0 : ev e o0 = b0) (hb1 : ev e u3 = b1) : (Value.func (.func f) ((#[] : Array Operand).map (ev e)) ((#[o0, u3] : Array Operand).map (ev e))) = .func (.func f) #[] #[b0, b1] := by simp [hb0, hb1]
theorem lay_113 : layoutOf Try.prog 113 = some ([.slice none 0 0, .int .i64 0, .slice none 0 0, .int .i64 0, .int .i64 0, .int .i64 0], [(0, 3), (3, 3)]) := by kernel_rfl
theorem tup2_0 {b0 b1 : Value} {B0 : Value → Prop} {B1 : Value → Prop} (h : ∃ c0 c1 : Value, Value.tuple #[b0, b1] = .tuple #[c0, c1] ∧ B0 c0 ∧ B1 c1) : B0 b0 := by
 obtain ⟨c0, c1, he, h0, h1⟩ := h; simp at he; obtain ⟨rfl, rfl⟩ := he; exact h0
@[reducible] def ow_LoomMill : Ow LoomMill := Ow.struct (fun (x : LoomMill) => (x.Widths, x.Change)) (Ow.pair (Ow.list 3 (Ow.sh Int)) (Ow.sh Int))
theorem fl_LoomMill_0 : Fl ow_LoomMill (Ow.list 3 (Ow.sh Int)) 0 (fun (x : LoomMill) y => { x with Widths := y }) (fun (q : (ow_LoomMill).S) (r : ((Ow.list 3 (Ow.sh Int))).S) => (r, Prod.snd q)) := Fl.of _ (Fl.fst _ _) (fun _ _ => rfl)
theorem fl_48 : Try.prog.fieldsOf 48 = #[{ name := "Low", type := 3, offset := 0, embedded := false, tag := "", pkgPath := "", byteOffset := 0 }, { name := "High", type := 3, offset := 1, embedded := false, tag := "", pkgPath := "", byteOffset := 8 }] := by kernel_rfl
theorem seq_48 : SEq (α := Span) Try.prog 48 := by
 intro d x y w a b m wx m2 wy hx hy
 obtain ⟨_, ⟨_, _, rfl, rfl, rfl⟩, rfl⟩ := hx
 obtain ⟨_, ⟨_, _, rfl, rfl, rfl⟩, rfl⟩ := hy
 refine (run_equalIn_struct w (d + 1) 48 _ _ (by kernel_rfl) (by kernel_rfl)).trans ?_
 rw [fl_48]
 obtain ⟨x0, x1⟩ := x
 obtain ⟨y0, y1⟩ := y
 show (Op.eqFields (d + 1) #[.int .i64 (x0), .int .i64 (x1)] #[.int .i64 (y0), .int .i64 (y1)] _).run _ _ = _
 have x0p : (part 3 #[.int .i64 (x0), .int .i64 (x1)] 0).run Try.prog w = .ok (.int .i64 (x0)) w := part_one Try.isAgg3 rfl
 have x1p : (part 3 #[.int .i64 (x0), .int .i64 (x1)] 1).run Try.prog w = .ok (.int .i64 (x1)) w := part_one Try.isAgg3 rfl
 have y0p : (part 3 #[.int .i64 (y0), .int .i64 (y1)] 0).run Try.prog w = .ok (.int .i64 (y0)) w := part_one Try.isAgg3 rfl
 have y1p : (part 3 #[.int .i64 (y0), .int .i64 (y1)] 1).run Try.prog w = .ok (.int .i64 (y1)) w := part_one Try.isAgg3 rfl
 simp only [Op.eqFields, Sem.run_bind, Sem.run_ite, Sem.run_pure, x0p, x1p, y0p, y1p, Result.andThen_ok, run_equalIn_int _ _ _ _ _ _ _ Try.underlying3]
 simp
 grind
theorem eg_48 : Try.prog.eqGuardType Try.prog.depth 48 = false := by kernel_rfl
def f67 (x0 : List LoomRun) : Option (List LoomRun) := apnd 24 [] x0
theorem en67 : Enters Try.prog 67 := enters_of Try.func67 (by kernel_rfl) rfl
def lenTab : Str := (⟨[0, 1, 2, 2, 3, 3, 3, 3, 4, 4, 4, 4, 4, 4, 4, 4, 5, 5, 5, 5, 5, 5, 5, 5, 5, 5, 5, 5, 5, 5, 5, 5, 6, 6, 6, 6, 6, 6, 6, 6, 6, 6, 6, 6, 6, 6, 6, 6, 6, 6, 6, 6, 6, 6, 6, 6, 6, 6, 6, 6, 6, 6, 6, 6, 7, 7, 7, 7, 7, 7, 7, 7, 7, 7, 7, 7, 7, 7, 7, 7, 7, 7, 7, 7, 7, 7, 7, 7, 7, 7, 7, 7, 7, 7, 7, 7, 7, 7, 7, 7, 7, 7, 7, 7, 7, 7, 7, 7, 7, 7, 7, 7, 7, 7, 7, 7, 7, 7, 7, 7, 7, 7, 7, 7, 7, 7, 7, 7, 8, 8, 8, 8, 8, 8, 8, 8, 8, 8, 8, 8, 8, 8, 8, 8, 8, 8, 8, 8, 8, 8, 8, 8, 8, 8, 8, 8, 8, 8, 8, 8, 8, 8, 8, 8, 8, 8, 8, 8, 8, 8, 8, 8, 8, 8, 8, 8, 8, 8, 8, 8, 8, 8, 8, 8, 8, 8, 8, 8, 8, 8, 8, 8, 8, 8, 8, 8, 8, 8, 8, 8, 8, 8, 8, 8, 8, 8, 8, 8, 8, 8, 8, 8, 8, 8, 8, 8, 8, 8, 8, 8, 8, 8, 8, 8, 8, 8, 8, 8, 8, 8, 8, 8, 8, 8, 8, 8, 8, 8, 8, 8, 8, 8, 8, 8, 8, 8, 8, 8, 8, 8, 8, 8, 8, 8, 8, 8]⟩ : Str)
def f115 (x : Int) : Option Int := if 0 ≤ x ∧ x < 256 then (idx lenTab.b x).map fun c => w64 (0 + (c.toNat : Int)) else none
def f101 (x : Int) : Option Int := f115 x
theorem en115 : Enters Try.prog 115 := enters_of Try.func115 (by kernel_rfl) rfl
theorem en101 : Enters Try.prog 101 := enters_of Try.func101 (by kernel_rfl) rfl
theorem wk115 {gI : Gh} {wI : World} {x0 : Int} {r : Int} (h : f115 x0 = some r) : Fn Try.prog 115 #[.int .u64 x0] gI wI (fun _ _ v => v = .int .i64 (r)) := by
 unfold f115 at h
 split at h
 case isFalse => cases h
 rename_i hx
 obtain ⟨h0, h1⟩ := hx
 cases hc : idx lenTab.b x0 with
 | none => rw [hc] at h; cases h
 | some c =>
 rw [hc] at h
 obtain rfl := sinj h
 refine fn_of_E Try.func115 rfl (Nat.le_of_ble_eq_true rfl) fun g0 hm hfr => ?_
 show E _ 25 none _ _ _ _ _
 refine E_seq (E_region (EL_at (.int .i64 0) rfl rfl (EL_nil (thn_n ?_))))
 refine E_seq (E_seq (E_region (EL_mw (.int .u64 x0) rfl rfl ?_)))
 refine EL_p (.bool false) (P_u64lt rfl rfl (by omega)) rfl (EL_nil (thn_n ?_))
 refine E_cond_false rfl (E_skip (thn_n ?_))
 refine E_seq (E_seq (E_region (EL_mw (.int .u64 x0) rfl rfl ?_)))
 refine EL_p (.bool false) (P_u64lt rfl rfl (by omega)) rfl (EL_nil (thn_n ?_))
 refine E_cond_false rfl (E_skip (thn_n ?_))
 refine E_seq (E_seq (E_region (EL_mw (.int .u64 x0) rfl rfl ?_)))
 refine EL_p (.bool false) (P_u64lt rfl rfl (by omega)) rfl (EL_nil (thn_n ?_))
 refine E_cond_false rfl (E_skip (thn_n ?_))
 refine E_seq (E_region (EL_mw (.int .i64 0) rfl rfl ?_))
 refine EL_mw (.int .u64 x0) rfl rfl ?_
 refine EL_p (.int .u8 x0) (P_u64u8 Try.underlying169 Try.underlying5 rfl h0 h1) rfl ?_
 refine EL_p (.int .u8 c.toNat) (P_indexS (s := lenTab) Try.underlying9 rfl rfl hc) rfl ?_
 refine EL_p (.int .i64 (c.toNat : Int)) (P_u8int Try.underlying5 Try.underlying2 rfl) rfl ?_
 refine EL_in (.int .i64 (w64 (0 + (c.toNat : Int)))) rfl rfl rfl rfl ?_
 refine EL_at (.int .i64 (w64 (0 + (c.toNat : Int)))) rfl rfl (EL_nil (thn_n ?_))
 exact E_ret (end1 rfl rfl (show _ = _ from rfl) ⟨_, hfr, rfl⟩)
theorem wk101 {gI : Gh} {wI : World} {x0 : Int} {r : Int} (h : f101 x0 = some r) : Fn Try.prog 101 #[.int .u64 x0] gI wI (fun _ _ v => v = .int .i64 (r)) := by
 unfold f101 at h
 refine fn_of_E Try.func101 rfl (Nat.le_of_ble_eq_true rfl) fun g0 hm hfr => ?_
 show E _ 8 none _ _ _ _ _
 refine E_seq (E_region (EL_at (.int .i64 0) rfl rfl (EL_nil (thn_n ?_))))
 refine E_seq (E_cond_false rfl (E_skip (thn_n ?_)))
 refine E_seq (E_region (EL_mw (.int .u64 x0) rfl rfl ?_))
 refine EL_do .plain rfl (D_call (g := g0) (vs := [.int .u64 x0]) en115 (.cons rfl .nil) (wk115 h) fun g1 w1 v1 hs hr => ?_)
 have hfr := hfr.ext hs
 subst hr
 refine EL_at (.int .i64 r) rfl rfl (EL_nil (thn_n ?_))
 exact E_ret (end1 rfl rfl (show _ = _ from rfl) ⟨_, hfr, rfl⟩)
def f15 (x0 : LoomMill) : Option (LoomMill) :=
 (apnd 8 (([] : List Int)) ((x0).Widths)).bind fun y7 =>
 some ({ x0 with Widths := y7 })
theorem en15 : Enters Try.prog 15 := enters_of Try.func15 (by kernel_rfl) rfl
theorem wk15 {gI : Gh} {wI : World} {x0 : LoomMill} {up0 : Value} (rp0 : RV gI.m wI x0 up0) {r : LoomMill} (h : f15 x0 = some r) : Fn Try.prog 15 #[up0] gI wI (fun m w v => RV m w (r) v) := by
 unfold f15 at h
 refine fn_of_E Try.func15 rfl (Nat.le_of_ble_eq_true rfl) fun g0 hm hfr => ?_
 have rp0 : RV g0.m wI x0 up0 := hm ▸ rp0
 show E _ 9 none _ _ _ _ _
 refine E_seq (E_region (EL_do .plain rfl (D_boxO (g := g0) 2001 rfl rp0 fun g1 w1 p1 hs b1 => ?_)))
 have hfr := hfr.stp hs
 refine EL_do .plain rfl (D_allocOc (g := g1) 2002 (⟨[], 0⟩ : LoomMill) Try.zeroValue24 (fun m w => ⟨_, (rep_two rep_nil rep_int), rfl⟩) fun g2 w2 p2 hs b2 cb => ?_)
 have hfr := hfr.stp hs
 have b1 := b1.stp hs rfl
 have t5 : OSF 2002 60200 0 g2 w2 3 24 ([] : List Int) p2 := cb.osf (by rfl)
 clear cb
 refine EL_nil (thn_n (E_seq (E_region (EL_do .plain rfl (D_buildSlice (g := g2) 3003 (xs := ([] : List Int)) (vs := []) Try.underlying22 Try.sizeOf3 Try.zeroValue3 rfl rfl .nil RVs.nil rfl rfl fun g3 w3 v3 hs o3 r3 hxt hfl => ?_)))))
 have hfr := hfr.stp hs
 have b1 := b1.stp hs rfl
 have b2 := b2.stp hs rfl
 refine EL_p (fPtr p1 0) (P_fieldAddr at_24_0 rfl (OB.ptr b1)) rfl ?_
 refine EL_do .plain rfl (D_loadF (g := g3) part_LoomMill_0.1 Try.isAgg22 Try.sizeOf22 rfl b1 fun v5 r5 => ?_)
 obtain ⟨y7, o0, h⟩ := bsome h
 refine EL_do .plain rfl (D_append (g := g3) (i := 3003) Try.underlying22 info_3 rfl rfl o3 r3 rfl r5 o0 fun g6 w6 v6 hs o6 r6 _ => ?_)
 have hfr := hfr.stp hs
 have b1 := b1.stp hs rfl
 have b2 := b2.stp hs rfl
 refine EL_p (fPtr p1 0) (P_fieldAddr at_24_0 rfl (OB.ptr b1)) rfl ?_
 refine EL_do .plain rfl (D_storeFc (g := g6) part_LoomMill_0 Try.sizeOf22 rfl b1 rfl r6 fun g9 w9 hs b9 rst hos => ?_)
 have x5 := hos _ _ 3003 3 (y7 : List Int) (rv_cells1 r6) rfl o6
 clear rst hos
 have hfr := hfr.stp hs
 have b2 := b2.stp hs rfl
 refine EL_nil (thn_n (E_seq (E_region (EL_do .plain rfl (D_loadO (g := g9) Try.isAgg24 Try.sizeOf24 rfl b9 fun u3 l5 => ?_)))))
 refine EL_do .plain rfl (D_storeOc (g := g9) (v := u3) Try.sizeOf24 rfl b2 rfl l5 fun i6 j6 hs b11 cb => ?_)
 clear cb
 have hfr := hfr.stp hs
 refine EL_nil (thn_n (E_ret ?_))
 obtain rfl := sinj h
 obtain ⟨ad12, cv12, hp12, hl12, cr12⟩ := ob_read Try.isAgg24 Try.sizeOf24 b11
 exact endm_c rfl rfl ((show _ = p2 from rfl).trans hp12) hl12 ⟨_, hfr, cr12⟩
def f16 (x0 : List LoomOrder) : Option ((List LoomOrder)) :=
 (apnd 40 (([] : List LoomOrder)) x0).bind fun y3 =>
 some (y3)
theorem en16 : Enters Try.prog 16 := enters_of Try.func16 (by kernel_rfl) rfl
theorem wk16 {gI : Gh} {wI : World} {x0 : List LoomOrder} {up0 : Value} (rp0 : RV gI.m wI x0 up0) {r : (List LoomOrder)} (h : f16 x0 = some r) : Fn Try.prog 16 #[up0] gI wI (fun m w v => RV m w (r) v) := by
 unfold f16 at h
 refine fn_of_E Try.func16 rfl (Nat.le_of_ble_eq_true rfl) fun g0 hm hfr => ?_
 have rp0 : RV g0.m wI x0 up0 := hm ▸ rp0
 show E _ 6 none _ _ _ _ _
 refine E_seq (E_region (EL_at (.slice none 0 0) rfl rfl ?_))
 refine EL_nil (thn_n (E_seq (E_region (EL_do .plain rfl (D_buildSlice (g := g0) 3003 (xs := ([] : List LoomOrder)) (vs := []) Try.underlying25 Try.sizeOf82 Try.zeroValue82 rfl rfl .nil RVs.nil rfl rfl fun g1 w1 v1 hs o1 r1 hxt hfl => ?_)))))
 have hfr := hfr.stp hs
 have rp0 := rp0.stp hs
 refine EL_mw up0 rfl rfl ?_
 obtain ⟨y3, hy3, h⟩ := bsome h
 refine EL_do .plain rfl (D_append (g := g1) (i := 3003) Try.underlying25 info_82 rfl rfl o1 r1 rfl rp0 hy3 fun g2 w2 v2 hs o2 r2 _ => ?_)
 have hfr := hfr.stp hs
 refine EL_at v2 rfl rfl ?_
 refine EL_nil (thn_n (E_ret ?_))
 obtain rfl := sinj h
 exact end1 rfl rfl (show _ = v2 from rfl) ⟨_, hfr, r2⟩
def f22 (x0 : List LoomRun) (x1 : List LoomRun) : Option (Bool) :=
 jn (σ := Unit) (fun _ =>
  jn (σ := Unit) (fun _ =>
   some (true)
   ) fun k53 =>
  lp (σ := Int) (fun k54 o0 =>
   jn (σ := Unit) (fun _ =>
    jn (σ := Unit) (fun _ =>
     k54 ((w64 (o0 + (1 : Int))))
     ) fun k9 =>
    (idx x0 o0).bind fun m7 =>
    (idx x1 o0).bind fun g8 =>
    bif (!(decide (m7 = g8))) then
     some (false)
    else
     k9 ()
    ) fun k57 =>
   bif (decide (o0 < ((x0).length : Int))) then
    k57 ()
   else
    k53 ()
   ) big ((0 : Int))
  ) fun k2 =>
 bif (((x0).length : Int) != ((x1).length : Int)) then
  some (false)
 else
  k2 ()
theorem en22 : Enters Try.prog 22 := enters_of Try.func22 (by kernel_rfl) rfl
theorem wk22 {gI : Gh} {wI : World} {x0 : List LoomRun} {x1 : List LoomRun} {up0 : Value} (rp0 : RV gI.m wI x0 up0) {up1 : Value} (rp1 : RV gI.m wI x1 up1) {r : Bool} (h : f22 x0 x1 = some r) : Fn Try.prog 22 #[up0, up1] gI wI (fun _ _ v => v = .bool (r)) := by
 unfold f22 at h
 refine fn_of_E Try.func22 rfl (Nat.le_of_ble_eq_true rfl) fun g0 hm hfr => ?_
 have rp0 : RV g0.m wI x0 up0 := hm ▸ rp0
 have rp1 : RV g0.m wI x1 up1 := hm ▸ rp1
 show E _ 26 none _ _ _ _ _
 refine E_seq (E_region (EL_at (.bool false) rfl rfl ?_))
 refine EL_nil (thn_n (E_joinC h (fun (s : Unit) e w => ∃ (g : Gh) , Fr gI wI g w ∧ e 0 = up0 ∧ RV g.m w (x0 : List LoomRun) up0 ∧ e 1 = up1 ∧ RV g.m w (x1 : List LoomRun) up1) (fun X2 k2 hk2 h => ?_) ?_))
 ·refine E_seq (E_region (EL_mw up0 rfl rfl ?_))
  refine EL_p (.int .i64 ((x0).length : Int)) (P_len Try.underlying31 rfl rp0) rfl ?_
  refine EL_mw up1 rfl rfl ?_
  refine EL_p (.int .i64 ((x1).length : Int)) (P_len Try.underlying31 rfl rp1) rfl ?_
  refine EL_in (.bool ((((x0).length : Int) != ((x1).length : Int)))) rfl rfl rfl rfl ?_
  refine EL_nil (thn_n ?_)
  rcases csome h with ⟨hc3, h⟩ | ⟨hc3, h⟩
  ·refine E_ct hc3 rfl ?_
   refine E_seq (E_region (EL_at (.bool false) rfl rfl ?_))
   refine EL_nil (thn_n (E_ret (thn_r ?_)))
   obtain rfl := sinj h
   exact end1 rfl rfl (show _ = .bool false from rfl) ⟨_, hfr, rfl⟩
  ·refine E_cf hc3 rfl ?_
   exact E_skip (thn_n (hk2 () _ _ ⟨g0, hfr, rfl, rp0, rfl, rp1⟩ h))
 ·rintro _ vC w4 ⟨g4, hfr, n9, u9, y9, z9⟩ h
  refine E_joinC h (fun (s : Unit) e w => ∃ (g : Gh) , Fr gI wI g w) (fun X53 k53 bA h => ?_) ?_
  ·refine E_seq (E_region (EL_at (.int .i64 (0)) rfl rfl ?_))
   refine EL_nil (thn_n (E_block ?_))
   refine E_lp h (fun (s : Int) e w => ∃ (g : Gh) , Fr gI wI g w ∧ e 0 = up0 ∧ RV g.m w (x0 : List LoomRun) up0 ∧ e 1 = up1 ∧ RV g.m w (x1 : List LoomRun) up1 ∧ e 5 = .int .i64 (s)) ⟨g4, hfr, n9, u9, y9, z9, rfl⟩ (fun X54 k54 iA => ?_)
   rintro o0 eC aD ⟨l9, hfr, j6, x6, a9, d9, y6⟩ h
   refine E_joinC h (fun (s : Unit) e w => ∃ (g : Gh) , Fr gI wI g w ∧ e 0 = up0 ∧ RV g.m w (x0 : List LoomRun) up0 ∧ e 1 = up1 ∧ RV g.m w (x1 : List LoomRun) up1 ∧ e 5 = .int .i64 (o0)) (fun X57 k57 rA h => ?_) ?_
   ·refine E_seq (E_region (EL_mv y6 rfl ?_))
    refine EL_mv j6 rfl ?_
    refine EL_p (.int .i64 ((x0).length : Int)) (P_len Try.underlying31 rfl x6) rfl ?_
    refine EL_in (.bool ((decide (o0 < ((x0).length : Int))))) rfl rfl rfl rfl ?_
    refine EL_nil (thn_n ?_)
    rcases csome h with ⟨i6, h⟩ | ⟨i6, h⟩
    ·refine E_ct i6 rfl ?_
     exact E_skip (thn_n (rA () _ _ ⟨l9, hfr, j6, x6, a9, d9, y6⟩ h))
    ·refine E_cf i6 rfl ?_
     refine E_exit ?_
     refine thn_e ?_
     refine thn_e ?_
     refine blk_hit ?_
     exact thn_n (bA () _ _ ⟨l9, hfr⟩ h)
   ·rintro _ mC bD ⟨jB, hfr, d7, u3, i7, l5, t5⟩ h
    refine E_joinC h (fun (s : Unit) e w => ∃ (g : Gh) , Fr gI wI g w ∧ e 0 = up0 ∧ RV g.m w (x0 : List LoomRun) up0 ∧ e 1 = up1 ∧ RV g.m w (x1 : List LoomRun) up1 ∧ e 5 = .int .i64 (o0)) (fun X81 k9 yA h => ?_) ?_
    ·refine E_block ?_
     refine E_seq ?_
     obtain ⟨m7, k8, h⟩ := bsome h
     have lB := PT_idx u3 k8
     refine L_load (x := .tmp 19) Try.isAgg76 Try.sizeOf76 lB fun mB nB aB => ?_
     obtain ⟨g8, l8, h⟩ := bsome h
     have oB := PT_idx l5 l8
     refine L_load (x := .tmp 23) Try.isAgg76 Try.sizeOf76 oB fun tB vB dB => ?_
     refine E_drawL (g := jB) (n := 9) [] [0, 1, 2, 3, 4, 5, 6, 7, 8] rfl mixed (by kernel_rfl) trivial ?_
     refine L_p up0 rfl rfl (P_move d7) ?_
     refine L_p (.int .i64 (o0)) rfl rfl (P_move t5) ?_
     refine L_p (ePtr up0 o0 3) rfl rfl (P_indexAddr (α := LoomRun) Try.underlying31 Try.sizeOf76 rfl u3 rfl k8) ?_
     refine L_ld (c := mB) rfl rfl .plain (fun _ _ h => h.ch) aB rfl ?_
     refine L_p up1 rfl rfl (P_move i7) ?_
     refine L_p (.int .i64 (o0)) rfl rfl (P_move t5) ?_
     refine L_p (ePtr up1 o0 3) rfl rfl (P_indexAddr (α := LoomRun) Try.underlying31 Try.sizeOf76 rfl l5 rfl l8) ?_
     refine L_ld (c := tB) rfl rfl .plain (fun _ _ h => h.ch) dB rfl ?_
     refine L_p (.bool ((!(decide (m7 = g8))))) rfl rfl (P_sne seq_76 rfl eg_76 rfl rfl nB vB) ?_
     refine L_nl fun yB cD hs => ?_
     have hfr := hfr.ext hs
     have u3 := u3.ext hs
     have l5 := l5.ext hs
     clear hs
     refine EL_nil (thn_n ?_)
     rcases csome h with ⟨x5, h⟩ | ⟨x5, h⟩
     ·refine E_ct x5 rfl ?_
      refine E_seq (E_region (EL_at (.bool false) rfl rfl ?_))
      refine EL_nil (thn_n (E_ret (blk_r ?_)))
      refine thn_r ?_
      refine thn_r ?_
      refine blk_r ?_
      refine thn_r ?_
      obtain rfl := sinj h
      exact end1 rfl rfl (show _ = .bool false from rfl) ⟨_, hfr, rfl⟩
     ·refine E_cf x5 rfl ?_
      exact E_skip (blk_n (thn_n (yA () _ _ ⟨yB, hfr, d7, u3, i7, l5, t5⟩ h)))
    ·rintro _ zB qC ⟨iB, hfr, m8, n8, r8, v8, x8⟩ h
     refine E_region (EL_mv x8 rfl ?_)
     refine EL_in (.int .i64 ((w64 (o0 + (1 : Int))))) rfl rfl rfl rfl ?_
     refine EL_at (.int .i64 ((w64 (o0 + (1 : Int))))) rfl rfl ?_
     exact EL_nil (thn_n (iA ((w64 (o0 + (1 : Int)))) _ _ ⟨iB, hfr, m8, n8, r8, v8, rfl⟩ h))
  ·rintro _ cC rC ⟨uC, hfr⟩ h
   refine E_seq (E_region (EL_at (.bool true) rfl rfl ?_))
   refine EL_nil (thn_n (E_ret ?_))
   obtain rfl := sinj h
   exact end1 rfl rfl (show _ = .bool true from rfl) ⟨_, hfr, rfl⟩
def f28 (x0 : List Int) (x1 : List Int) : Option (Bool) :=
 jn (σ := Unit) (fun _ =>
  jn (σ := Unit) (fun _ =>
   some (true)
   ) fun k53 =>
  lp (σ := Int) (fun k54 o0 =>
   jn (σ := Unit) (fun _ =>
    jn (σ := Unit) (fun _ =>
     k54 ((w64 (o0 + (1 : Int))))
     ) fun k9 =>
    (idx x0 o0).bind fun j6 =>
    (idx x1 o0).bind fun x6 =>
    bif (j6 != x6) then
     some (false)
    else
     k9 ()
    ) fun k57 =>
   bif (decide (o0 < ((x0).length : Int))) then
    k57 ()
   else
    k53 ()
   ) big ((0 : Int))
  ) fun k2 =>
 bif (((x0).length : Int) != ((x1).length : Int)) then
  some (false)
 else
  k2 ()
theorem en28 : Enters Try.prog 28 := enters_of Try.func28 (by kernel_rfl) rfl
theorem wk28 {gI : Gh} {wI : World} {x0 : List Int} {x1 : List Int} {up0 : Value} (rp0 : RV gI.m wI x0 up0) {up1 : Value} (rp1 : RV gI.m wI x1 up1) {r : Bool} (h : f28 x0 x1 = some r) : Fn Try.prog 28 #[up0, up1] gI wI (fun _ _ v => v = .bool (r)) := by
 unfold f28 at h
 refine fn_of_E Try.func28 rfl (Nat.le_of_ble_eq_true rfl) fun g0 hm hfr => ?_
 have rp0 : RV g0.m wI x0 up0 := hm ▸ rp0
 have rp1 : RV g0.m wI x1 up1 := hm ▸ rp1
 show E _ 26 none _ _ _ _ _
 refine E_seq (E_region (EL_at (.bool false) rfl rfl ?_))
 refine EL_nil (thn_n (E_joinC h (fun (s : Unit) e w => ∃ (g : Gh) , Fr gI wI g w ∧ e 0 = up0 ∧ RV g.m w (x0 : List Int) up0 ∧ e 1 = up1 ∧ RV g.m w (x1 : List Int) up1) (fun X2 k2 hk2 h => ?_) ?_))
 ·refine E_seq (E_region (EL_mw up0 rfl rfl ?_))
  refine EL_p (.int .i64 ((x0).length : Int)) (P_len Try.underlying22 rfl rp0) rfl ?_
  refine EL_mw up1 rfl rfl ?_
  refine EL_p (.int .i64 ((x1).length : Int)) (P_len Try.underlying22 rfl rp1) rfl ?_
  refine EL_in (.bool ((((x0).length : Int) != ((x1).length : Int)))) rfl rfl rfl rfl ?_
  refine EL_nil (thn_n ?_)
  rcases csome h with ⟨hc3, h⟩ | ⟨hc3, h⟩
  ·refine E_ct hc3 rfl ?_
   refine E_seq (E_region (EL_at (.bool false) rfl rfl ?_))
   refine EL_nil (thn_n (E_ret (thn_r ?_)))
   obtain rfl := sinj h
   exact end1 rfl rfl (show _ = .bool false from rfl) ⟨_, hfr, rfl⟩
  ·refine E_cf hc3 rfl ?_
   exact E_skip (thn_n (hk2 () _ _ ⟨g0, hfr, rfl, rp0, rfl, rp1⟩ h))
 ·rintro _ rC w4 ⟨g4, hfr, n9, u9, y9, z9⟩ h
  refine E_joinC h (fun (s : Unit) e w => ∃ (g : Gh) , Fr gI wI g w) (fun X53 k53 bA h => ?_) ?_
  ·refine E_seq (E_region (EL_at (.int .i64 (0)) rfl rfl ?_))
   refine EL_nil (thn_n (E_block ?_))
   refine E_lp h (fun (s : Int) e w => ∃ (g : Gh) , Fr gI wI g w ∧ e 0 = up0 ∧ RV g.m w (x0 : List Int) up0 ∧ e 1 = up1 ∧ RV g.m w (x1 : List Int) up1 ∧ e 5 = .int .i64 (s)) ⟨g4, hfr, n9, u9, y9, z9, rfl⟩ (fun X54 k54 iA => ?_)
   rintro o0 zB uC ⟨l9, hfr, y6, d7, a9, d9, i7⟩ h
   refine E_joinC h (fun (s : Unit) e w => ∃ (g : Gh) , Fr gI wI g w ∧ e 0 = up0 ∧ RV g.m w (x0 : List Int) up0 ∧ e 1 = up1 ∧ RV g.m w (x1 : List Int) up1 ∧ e 5 = .int .i64 (o0)) (fun X57 k57 rA h => ?_) ?_
   ·refine E_seq (E_region (EL_mv i7 rfl ?_))
    refine EL_mv y6 rfl ?_
    refine EL_p (.int .i64 ((x0).length : Int)) (P_len Try.underlying22 rfl d7) rfl ?_
    refine EL_in (.bool ((decide (o0 < ((x0).length : Int))))) rfl rfl rfl rfl ?_
    refine EL_nil (thn_n ?_)
    rcases csome h with ⟨i6, h⟩ | ⟨i6, h⟩
    ·refine E_ct i6 rfl ?_
     exact E_skip (thn_n (rA () _ _ ⟨l9, hfr, y6, d7, a9, d9, i7⟩ h))
    ·refine E_cf i6 rfl ?_
     refine E_exit ?_
     refine thn_e ?_
     refine thn_e ?_
     refine blk_hit ?_
     exact thn_n (bA () _ _ ⟨l9, hfr⟩ h)
   ·rintro _ cC vC ⟨jB, hfr, m7, u3, g8, l5, t5⟩ h
    refine E_joinC h (fun (s : Unit) e w => ∃ (g : Gh) , Fr gI wI g w ∧ e 0 = up0 ∧ RV g.m w (x0 : List Int) up0 ∧ e 1 = up1 ∧ RV g.m w (x1 : List Int) up1 ∧ e 5 = .int .i64 (o0)) (fun X81 k9 yA h => ?_) ?_
    ·refine E_block ?_
     refine E_seq ?_
     obtain ⟨j6, k8, h⟩ := bsome h
     have lB := PT_idx u3 k8
     refine L_load (x := .tmp 19) Try.isAgg3 Try.sizeOf3 lB fun aD mB aB => ?_
     obtain rfl := RV_int.1 mB
     obtain ⟨x6, l8, h⟩ := bsome h
     have nB := PT_idx l5 l8
     refine L_load (x := .tmp 23) Try.isAgg3 Try.sizeOf3 nB fun bD oB dB => ?_
     obtain rfl := RV_int.1 oB
     refine E_drawL (g := jB) (n := 9) [] [0, 1, 2, 3, 4, 5, 6, 7, 8] rfl mixed (by kernel_rfl) trivial ?_
     refine L_p up0 rfl rfl (P_move m7) ?_
     refine L_p (.int .i64 (o0)) rfl rfl (P_move t5) ?_
     refine L_p (ePtr up0 o0 1) rfl rfl (P_indexAddr (α := Int) Try.underlying22 Try.sizeOf3 rfl u3 rfl k8) ?_
     refine L_ld (c := .int .i64 (j6)) rfl rfl .plain (fun _ _ h => h.ch) aB rfl ?_
     refine L_p up1 rfl rfl (P_move g8) ?_
     refine L_p (.int .i64 (o0)) rfl rfl (P_move t5) ?_
     refine L_p (ePtr up1 o0 1) rfl rfl (P_indexAddr (α := Int) Try.underlying22 Try.sizeOf3 rfl l5 rfl l8) ?_
     refine L_ld (c := .int .i64 (x6)) rfl rfl .plain (fun _ _ h => h.ch) dB rfl ?_
     refine L_p (.bool ((j6 != x6))) rfl rfl (P_int rfl rfl rfl) ?_
     refine L_nl fun tB cD hs => ?_
     have hfr := hfr.ext hs
     have u3 := u3.ext hs
     have l5 := l5.ext hs
     clear hs
     refine EL_nil (thn_n ?_)
     rcases csome h with ⟨x5, h⟩ | ⟨x5, h⟩
     ·refine E_ct x5 rfl ?_
      refine E_seq (E_region (EL_at (.bool false) rfl rfl ?_))
      refine EL_nil (thn_n (E_ret (blk_r ?_)))
      refine thn_r ?_
      refine thn_r ?_
      refine blk_r ?_
      refine thn_r ?_
      obtain rfl := sinj h
      exact end1 rfl rfl (show _ = .bool false from rfl) ⟨_, hfr, rfl⟩
     ·refine E_cf x5 rfl ?_
      exact E_skip (blk_n (thn_n (yA () _ _ ⟨tB, hfr, m7, u3, g8, l5, t5⟩ h)))
    ·rintro _ vB eC ⟨iB, hfr, m8, n8, r8, v8, x8⟩ h
     refine E_region (EL_mv x8 rfl ?_)
     refine EL_in (.int .i64 ((w64 (o0 + (1 : Int))))) rfl rfl rfl rfl ?_
     refine EL_at (.int .i64 ((w64 (o0 + (1 : Int))))) rfl rfl ?_
     exact EL_nil (thn_n (iA ((w64 (o0 + (1 : Int)))) _ _ ⟨iB, hfr, m8, n8, r8, v8, rfl⟩ h))
  ·rintro _ yB mC ⟨qC, hfr⟩ h
   refine E_seq (E_region (EL_at (.bool true) rfl rfl ?_))
   refine EL_nil (thn_n (E_ret ?_))
   obtain rfl := sinj h
   exact end1 rfl rfl (show _ = .bool true from rfl) ⟨_, hfr, rfl⟩
def f32 (x0 : List LoomRun) : Option ((List LoomRun)) :=
 (apnd 24 (([] : List LoomRun)) x0).bind fun y3 =>
 some (y3)
theorem en32 : Enters Try.prog 32 := enters_of Try.func32 (by kernel_rfl) rfl
theorem wk32 {gI : Gh} {wI : World} {x0 : List LoomRun} {up0 : Value} (rp0 : RV gI.m wI x0 up0) {r : (List LoomRun)} (h : f32 x0 = some r) : Fn Try.prog 32 #[up0] gI wI (fun m w v => RV m w (r) v) := by
 unfold f32 at h
 refine fn_of_E Try.func32 rfl (Nat.le_of_ble_eq_true rfl) fun g0 hm hfr => ?_
 have rp0 : RV g0.m wI x0 up0 := hm ▸ rp0
 show E _ 6 none _ _ _ _ _
 refine E_seq (E_region (EL_at (.slice none 0 0) rfl rfl ?_))
 refine EL_nil (thn_n (E_seq (E_region (EL_do .plain rfl (D_buildSlice (g := g0) 3003 (xs := ([] : List LoomRun)) (vs := []) Try.underlying31 Try.sizeOf76 Try.zeroValue76 rfl rfl .nil RVs.nil rfl rfl fun g1 w1 v1 hs o1 r1 hxt hfl => ?_)))))
 have hfr := hfr.stp hs
 have rp0 := rp0.stp hs
 refine EL_mw up0 rfl rfl ?_
 obtain ⟨y3, hy3, h⟩ := bsome h
 refine EL_do .plain rfl (D_append (g := g1) (i := 3003) Try.underlying31 info_76 rfl rfl o1 r1 rfl rp0 hy3 fun g2 w2 v2 hs o2 r2 _ => ?_)
 have hfr := hfr.stp hs
 refine EL_at v2 rfl rfl ?_
 refine EL_nil (thn_n (E_ret ?_))
 obtain rfl := sinj h
 exact end1 rfl rfl (show _ = v2 from rfl) ⟨_, hfr, r2⟩
def f46 (x0 : Int) (x1 : Int) (x2 : Int) : Option (LoomRun) :=
 some ((⟨x0, x1, x2⟩ : LoomRun))
theorem en46 : Enters Try.prog 46 := enters_of Try.func46 (by kernel_rfl) rfl
theorem wk46 {gI : Gh} {wI : World} {x0 : Int} {x1 : Int} {x2 : Int}  {r : LoomRun} (h : f46 x0 x1 x2 = some r) : Fn Try.prog 46 #[.int .i64 (x0), .int .i64 (x1), .int .i64 (x2)] gI wI (fun m w v => RV m w (r) v) := by
 unfold f46 at h
 refine fn_of_E Try.func46 rfl (Nat.le_of_ble_eq_true rfl) fun g0 hm hfr => ?_
 show E _ 11 none _ _ _ _ _
 refine E_seq (E_region (EL_do .plain rfl (D_allocOc (g := g0) 2006 (⟨0, 0, 0⟩ : LoomRun) Try.zeroValue76 (fun m w => ⟨_, (rep_two rep_int (rep_two rep_int rep_int)), rfl⟩) fun g1 w1 p1 hs b1 cb => ?_)))
 have hfr := hfr.stp hs
 clear cb
 refine EL_nil (thn_n (E_seq (E_region (EL_mw (.int .i64 (x0)) rfl rfl ?_))))
 refine EL_mw (.int .i64 (x1)) rfl rfl ?_
 refine EL_mw (.int .i64 (x2)) rfl rfl ?_
 have r2 : RV g1.m w1 (⟨x0, x1, x2⟩ : LoomRun) (.agg (setCh [[.int .i64 0], [.int .i64 0], [.int .i64 0]] [(0, .int .i64 (x0)), (1, .int .i64 (x1)), (2, .int .i64 (x2))]).flatten.toArray) := RV_build rfl (rep_pair (rfl) (rep_pair (rfl) (rep_last (rfl))))
 generalize hv2 : (Value.agg (setCh [[.int .i64 0], [.int .i64 0], [.int .i64 0]] [(0, .int .i64 (x0)), (1, .int .i64 (x1)), (2, .int .i64 (x2))]).flatten.toArray) = v2 at r2
 refine EL_p v2 (hv2 ▸ P_build (vs := [(0, .int .i64 (x0)), (1, .int .i64 (x1)), (2, .int .i64 (x2))]) [[.int .i64 0], [.int .i64 0], [.int .i64 0]] lay_76 rfl rfl (.cons rfl (.cons rfl (.cons rfl .nil))) ⟨⟨_, rfl, rfl⟩, ⟨⟨_, rfl, rfl⟩, ⟨⟨_, rfl, rfl⟩, trivial⟩⟩⟩) rfl ?_
 refine EL_do .plain rfl (D_storeOc (g := g1) (v := v2) Try.sizeOf76 rfl b1 rfl r2 fun g3 w3 hs b3 cb => ?_)
 clear cb
 have hfr := hfr.stp hs
 refine EL_nil (thn_n (E_ret ?_))
 obtain rfl := sinj h
 obtain ⟨ad4, cv4, hp4, o0, cr4⟩ := ob_read Try.isAgg76 Try.sizeOf76 b3
 exact endm_c rfl rfl ((show _ = p1 from rfl).trans hp4) o0 ⟨_, hfr, cr4⟩
def f47  : Option (LoomMill) :=
 some ((⟨([(10 : Int), (20 : Int)] : List Int), (2 : Int)⟩ : LoomMill))
theorem en47 : Enters Try.prog 47 := enters_of Try.func47 (by kernel_rfl) rfl
theorem wk47 {gI : Gh} {wI : World}   {r : LoomMill} (h : f47  = some r) : Fn Try.prog 47 #[] gI wI (fun m w v => RV m w (r) v) := by
 unfold f47 at h
 refine fn_of_E Try.func47 rfl (Nat.le_of_ble_eq_true rfl) fun g0 hm hfr => ?_
 show E _ 3 none _ _ _ _ _
 refine E_seq (E_region (EL_do .plain rfl (D_allocOc (g := g0) 2000 (⟨[], 0⟩ : LoomMill) Try.zeroValue24 (fun m w => ⟨_, (rep_two rep_nil rep_int), rfl⟩) fun g1 w1 p1 hs b1 cb => ?_)))
 have hfr := hfr.stp hs
 have x5 : OSF 2000 60000 0 g1 w1 3 24 ([] : List Int) p1 := cb.osf (by rfl)
 clear cb
 refine EL_nil (thn_n (E_seq (E_region (EL_do .plain rfl (D_buildSlice (g := g1) 3001 (xs := ([(10 : Int), (20 : Int)] : List Int)) (vs := [.int .i64 (10), .int .i64 (20)]) Try.underlying22 Try.sizeOf3 Try.zeroValue3 rfl rfl (.cons rfl (.cons rfl .nil)) (RVs.cons (RV_int.2 rfl) (RVs.cons (RV_int.2 rfl) RVs.nil)) rfl rfl fun g2 w2 v2 hs o2 r2 hxt hfl => ?_)))))
 have hfr := hfr.stp hs
 have b1 := b1.stp hs rfl
 have r3 : RV g2.m _ (⟨([(10 : Int), (20 : Int)] : List Int), (2 : Int)⟩ : LoomMill) (.agg (setCh [[.slice none 0 0], [.int .i64 0]] [(0, v2), (1, .int .i64 (2))]).flatten.toArray) := RV_build rfl (rep_pair (RV.cells r2) (rep_last (rfl)))
 generalize hv3 : (Value.agg (setCh [[.slice none 0 0], [.int .i64 0]] [(0, v2), (1, .int .i64 (2))]).flatten.toArray) = v3 at r3
 refine EL_p v3 (hv3 ▸ P_build (vs := [(0, v2), (1, .int .i64 (2))]) [[.slice none 0 0], [.int .i64 0]] lay_24 rfl rfl (.cons rfl (.cons rfl .nil)) ⟨⟨_, rfl, cells_size r2⟩, ⟨⟨_, rfl, rfl⟩, trivial⟩⟩) rfl ?_
 refine EL_do .plain rfl (D_storeOc (g := g2) (v := v3) Try.sizeOf24 rfl b1 rfl r3 fun g4 w4 hs b4 cb => ?_)
 obtain ⟨l5, t5, o0, _, _⟩ := RV_list r2
 have i6 : OSF 2000 3001 0 g4 w4 3 24 (([(10 : Int), (20 : Int)] : List Int) : List Int) p1 := cb.osfv (by rw [← hv3, o0]; rfl) (o2.stp hs rfl)
 clear cb
 have hfr := hfr.stp hs
 refine EL_nil (thn_n (E_ret ?_))
 obtain rfl := sinj h
 obtain ⟨ad5, cv5, hp5, u3, cr5⟩ := ob_read Try.isAgg24 Try.sizeOf24 b4
 exact endm_c rfl rfl ((show _ = p1 from rfl).trans hp5) u3 ⟨_, hfr, cr5⟩
def f48 (x0 : Int) (x1 : Int) : Option ((List LoomOrder)) :=
 some (([(⟨(5 : Int), (1 : Int), (10 : Int), 0, (20 : Int)⟩ : LoomOrder), (⟨(15 : Int), (2 : Int), (12 : Int), 0, (20 : Int)⟩ : LoomOrder), (⟨(5 : Int), x0, x1, 0, (20 : Int)⟩ : LoomOrder)] : List LoomOrder))
theorem en48 : Enters Try.prog 48 := enters_of Try.func48 (by kernel_rfl) rfl
theorem wk48 {gI : Gh} {wI : World} {x0 : Int} {x1 : Int}  {r : (List LoomOrder)} (h : f48 x0 x1 = some r) : Fn Try.prog 48 #[.int .i64 (x0), .int .i64 (x1)] gI wI (fun m w v => RV m w (r) v) := by
 unfold f48 at h
 refine fn_of_E Try.func48 rfl (Nat.le_of_ble_eq_true rfl) fun g0 hm hfr => ?_
 show E _ 11 none _ _ _ _ _
 refine E_seq (E_region (EL_at (.slice none 0 0) rfl rfl ?_))
 refine EL_nil (thn_n (E_seq (E_region ?_)))
 have r1 : RV g0.m wI (⟨(5 : Int), (1 : Int), (10 : Int), 0, (20 : Int)⟩ : LoomOrder) (.agg (setCh [[.int .i64 0], [.int .i64 0], [.int .i64 0], [.int .i64 0], [.int .i64 0]] [(0, .int .i64 (5)), (1, .int .i64 (1)), (2, .int .i64 (10)), (4, .int .i64 (20))]).flatten.toArray) := RV_build rfl (rep_pair (rfl) (rep_pair (rfl) (rep_pair (rfl) (rep_pair (rep_int) (rep_last (rfl))))))
 generalize hv1 : (Value.agg (setCh [[.int .i64 0], [.int .i64 0], [.int .i64 0], [.int .i64 0], [.int .i64 0]] [(0, .int .i64 (5)), (1, .int .i64 (1)), (2, .int .i64 (10)), (4, .int .i64 (20))]).flatten.toArray) = v1 at r1
 refine EL_p v1 (hv1 ▸ P_build (vs := [(0, .int .i64 (5)), (1, .int .i64 (1)), (2, .int .i64 (10)), (4, .int .i64 (20))]) [[.int .i64 0], [.int .i64 0], [.int .i64 0], [.int .i64 0], [.int .i64 0]] lay_82 rfl rfl (.cons rfl (.cons rfl (.cons rfl (.cons rfl .nil)))) ⟨⟨_, rfl, rfl⟩, ⟨⟨_, rfl, rfl⟩, ⟨⟨_, rfl, rfl⟩, ⟨⟨_, rfl, rfl⟩, trivial⟩⟩⟩⟩) rfl ?_
 have r2 : RV g0.m wI (⟨(15 : Int), (2 : Int), (12 : Int), 0, (20 : Int)⟩ : LoomOrder) (.agg (setCh [[.int .i64 0], [.int .i64 0], [.int .i64 0], [.int .i64 0], [.int .i64 0]] [(0, .int .i64 (15)), (1, .int .i64 (2)), (2, .int .i64 (12)), (4, .int .i64 (20))]).flatten.toArray) := RV_build rfl (rep_pair (rfl) (rep_pair (rfl) (rep_pair (rfl) (rep_pair (rep_int) (rep_last (rfl))))))
 generalize hv2 : (Value.agg (setCh [[.int .i64 0], [.int .i64 0], [.int .i64 0], [.int .i64 0], [.int .i64 0]] [(0, .int .i64 (15)), (1, .int .i64 (2)), (2, .int .i64 (12)), (4, .int .i64 (20))]).flatten.toArray) = v2 at r2
 refine EL_p v2 (hv2 ▸ P_build (vs := [(0, .int .i64 (15)), (1, .int .i64 (2)), (2, .int .i64 (12)), (4, .int .i64 (20))]) [[.int .i64 0], [.int .i64 0], [.int .i64 0], [.int .i64 0], [.int .i64 0]] lay_82 rfl rfl (.cons rfl (.cons rfl (.cons rfl (.cons rfl .nil)))) ⟨⟨_, rfl, rfl⟩, ⟨⟨_, rfl, rfl⟩, ⟨⟨_, rfl, rfl⟩, ⟨⟨_, rfl, rfl⟩, trivial⟩⟩⟩⟩) rfl ?_
 refine EL_mw (.int .i64 (x0)) rfl rfl ?_
 refine EL_mw (.int .i64 (x1)) rfl rfl ?_
 have r3 : RV g0.m wI (⟨(5 : Int), x0, x1, 0, (20 : Int)⟩ : LoomOrder) (.agg (setCh [[.int .i64 0], [.int .i64 0], [.int .i64 0], [.int .i64 0], [.int .i64 0]] [(0, .int .i64 (5)), (1, .int .i64 (x0)), (2, .int .i64 (x1)), (4, .int .i64 (20))]).flatten.toArray) := RV_build rfl (rep_pair (rfl) (rep_pair (rfl) (rep_pair (rfl) (rep_pair (rep_int) (rep_last (rfl))))))
 generalize hv3 : (Value.agg (setCh [[.int .i64 0], [.int .i64 0], [.int .i64 0], [.int .i64 0], [.int .i64 0]] [(0, .int .i64 (5)), (1, .int .i64 (x0)), (2, .int .i64 (x1)), (4, .int .i64 (20))]).flatten.toArray) = v3 at r3
 refine EL_p v3 (hv3 ▸ P_build (vs := [(0, .int .i64 (5)), (1, .int .i64 (x0)), (2, .int .i64 (x1)), (4, .int .i64 (20))]) [[.int .i64 0], [.int .i64 0], [.int .i64 0], [.int .i64 0], [.int .i64 0]] lay_82 rfl rfl (.cons rfl (.cons rfl (.cons rfl (.cons rfl .nil)))) ⟨⟨_, rfl, rfl⟩, ⟨⟨_, rfl, rfl⟩, ⟨⟨_, rfl, rfl⟩, ⟨⟨_, rfl, rfl⟩, trivial⟩⟩⟩⟩) rfl ?_
 refine EL_do .plain rfl (D_buildSlice (g := g0) 3010 (xs := ([(⟨(5 : Int), (1 : Int), (10 : Int), 0, (20 : Int)⟩ : LoomOrder), (⟨(15 : Int), (2 : Int), (12 : Int), 0, (20 : Int)⟩ : LoomOrder), (⟨(5 : Int), x0, x1, 0, (20 : Int)⟩ : LoomOrder)] : List LoomOrder)) (vs := [v1, v2, v3]) Try.underlying25 Try.sizeOf82 Try.zeroValue82 rfl rfl (.cons rfl (.cons rfl (.cons rfl .nil))) (RVs.cons r1 (RVs.cons r2 (RVs.cons r3 RVs.nil))) rfl rfl fun g4 w4 v4 hs o4 r4 hxt hfl => ?_)
 have hfr := hfr.stp hs
 refine EL_at v4 rfl rfl ?_
 refine EL_nil (thn_n (E_ret ?_))
 obtain rfl := sinj h
 exact end1 rfl rfl (show _ = v4 from rfl) ⟨_, hfr, r4⟩
def f49 (x0 : Int) (x1 : Int) : Option (LoomStop) :=
 some ((⟨0, (⟨x0, x1⟩ : Span)⟩ : LoomStop))
theorem en49 : Enters Try.prog 49 := enters_of Try.func49 (by kernel_rfl) rfl
theorem wk49 {gI : Gh} {wI : World} {x0 : Int} {x1 : Int}  {r : LoomStop} (h : f49 x0 x1 = some r) : Fn Try.prog 49 #[.int .i64 (x0), .int .i64 (x1)] gI wI (fun m w v => RV m w (r) v) := by
 unfold f49 at h
 refine fn_of_E Try.func49 rfl (Nat.le_of_ble_eq_true rfl) fun g0 hm hfr => ?_
 show E _ 9 none _ _ _ _ _
 refine E_seq (E_region (EL_do .plain rfl (D_allocOc (g := g0) 2004 (⟨0, ⟨0, 0⟩⟩ : LoomStop) Try.zeroValue54 (fun m w => ⟨_, (rep_two rep_int (rep_two rep_int rep_int)), rfl⟩) fun g1 w1 p1 hs b1 cb => ?_)))
 have hfr := hfr.stp hs
 clear cb
 refine EL_nil (thn_n (E_seq (E_region (EL_mw (.int .i64 (x0)) rfl rfl ?_))))
 refine EL_mw (.int .i64 (x1)) rfl rfl ?_
 have r2 : RV g1.m w1 (⟨x0, x1⟩ : Span) (.agg (setCh [[.int .i64 0], [.int .i64 0]] [(0, .int .i64 (x0)), (1, .int .i64 (x1))]).flatten.toArray) := RV_build rfl (rep_pair (rfl) (rep_last (rfl)))
 generalize hv2 : (Value.agg (setCh [[.int .i64 0], [.int .i64 0]] [(0, .int .i64 (x0)), (1, .int .i64 (x1))]).flatten.toArray) = v2 at r2
 refine EL_p v2 (hv2 ▸ P_build (vs := [(0, .int .i64 (x0)), (1, .int .i64 (x1))]) [[.int .i64 0], [.int .i64 0]] lay_48 rfl rfl (.cons rfl (.cons rfl .nil)) ⟨⟨_, rfl, rfl⟩, ⟨⟨_, rfl, rfl⟩, trivial⟩⟩) rfl ?_
 have r3 : RV g1.m _ (⟨0, (⟨x0, x1⟩ : Span)⟩ : LoomStop) (.agg (setCh [[.int .i64 0], [.int .i64 0, .int .i64 0]] [(1, v2)]).flatten.toArray) := RV_build rfl (rep_pair (rep_int) (rep_last (RV.cells r2)))
 generalize hv3 : (Value.agg (setCh [[.int .i64 0], [.int .i64 0, .int .i64 0]] [(1, v2)]).flatten.toArray) = v3 at r3
 refine EL_p v3 (hv3 ▸ P_build (vs := [(1, v2)]) [[.int .i64 0], [.int .i64 0, .int .i64 0]] lay_54 rfl rfl (.cons rfl .nil) ⟨⟨_, rfl, cells_size r2⟩, trivial⟩) rfl ?_
 refine EL_do .plain rfl (D_storeOc (g := g1) (v := v3) Try.sizeOf54 rfl b1 rfl r3 fun g4 w4 hs b4 cb => ?_)
 clear cb
 have hfr := hfr.stp hs
 refine EL_nil (thn_n (E_ret ?_))
 obtain rfl := sinj h
 obtain ⟨ad5, cv5, hp5, o0, cr5⟩ := ob_read Try.isAgg54 Try.sizeOf54 b4
 exact endm_c rfl rfl ((show _ = p1 from rfl).trans hp5) o0 ⟨_, hfr, cr5⟩
def f53 (x0 : LoomLoomMill) : Option (Int) :=
 (shl64 (1 : Int) (((x0).orders).length : Int)).bind fun y4 =>
 some ((w64 (y4 - (1 : Int))))
theorem en53 : Enters Try.prog 53 := enters_of Try.func53 (by kernel_rfl) rfl
theorem wk53 {gI : Gh} {wI : World} {x0 : LoomLoomMill} {up0 : Value} (rp0 : RV gI.m wI x0 up0) {r : Int} (h : f53 x0 = some r) : Fn Try.prog 53 #[up0] gI wI (fun _ _ v => v = .int .i64 (r)) := by
 unfold f53 at h
 refine fn_of_E Try.func53 rfl (Nat.le_of_ble_eq_true rfl) fun g0 hm hfr => ?_
 have rp0 : RV g0.m wI x0 up0 := hm ▸ rp0
 show E _ 8 none _ _ _ _ _
 refine E_seq (E_region (EL_do .plain rfl (D_box (g := g0) rfl rp0 fun g1 w1 p1 hs q1 => ?_)))
 have hfr := hfr.ext hs
 refine EL_at (.int .i64 (0)) rfl rfl ?_
 refine EL_nil (thn_n (E_seq (E_region (EL_p (fPtr p1 2) (P_fieldAddr at_96_1 rfl (PT.ptr q1)) rfl ?_))))
 have q2 := PT_field (part_LoomLoomMill_1).1 q1
 refine EL_do .plain rfl (D_load (g := g1) Try.isAgg25 Try.sizeOf25 rfl q2 fun v3 r3 => ?_)
 refine EL_p (.int .i64 (((x0).orders).length : Int)) (P_len Try.underlying25 rfl r3) rfl ?_
 obtain ⟨y4, o0, h⟩ := bsome h
 refine EL_p (.int .i64 (y4)) (P_int rfl rfl (congrArg (Option.map (Value.int .i64)) o0)) rfl ?_
 refine EL_in (.int .i64 ((w64 (y4 - (1 : Int))))) rfl rfl rfl rfl ?_
 refine EL_at (.int .i64 ((w64 (y4 - (1 : Int))))) rfl rfl ?_
 refine EL_nil (thn_n (E_ret ?_))
 obtain rfl := sinj h
 exact end1 rfl rfl (show _ = .int .i64 ((w64 (y4 - (1 : Int)))) from rfl) ⟨_, hfr, rfl⟩
def f56 (x0 : Int) (z0 : List Bool) : Option (Bool) :=
 (idx z0 x0).bind fun y2 =>
 some ((!y2))
theorem en56 : Enters Try.prog 56 := enters_of Try.func56 (by kernel_rfl) rfl
theorem wk56 {gI : Gh} {wI : World} {x0 : Int} {z0 : List Bool} {pf0 : Value} (qf0 : PT gI.m wI z0 pf0) {r : Bool} (h : f56 x0 z0 = some r) : Fn Try.prog 56 #[.int .i64 (x0), pf0] gI wI (fun _ _ v => v = .bool (r)) := by
 unfold f56 at h
 refine fn_of_E Try.func56 rfl (Nat.le_of_ble_eq_true rfl) fun g0 hm hfr => ?_
 have qf0 : PT g0.m wI z0 pf0 := hm ▸ qf0
 show E _ 9 none _ _ _ _ _
 refine E_seq (E_region (EL_at (.bool false) rfl rfl ?_))
 refine EL_nil (thn_n (E_seq (E_region (EL_do .plain rfl (D_load (g := g0) Try.isAgg101 Try.sizeOf101 rfl qf0 fun v1 r1 => ?_)))))
 refine EL_mw (.int .i64 (x0)) rfl rfl ?_
 obtain ⟨y2, hy2, h⟩ := bsome h
 refine EL_p (ePtr v1 x0 1) (P_indexAddr (α := Bool) Try.underlying101 Try.sizeOf4 rfl r1 rfl hy2) rfl ?_
 have q3 := PT_idx r1 hy2
 refine EL_do .plain rfl (D_load (g := g0) Try.isAgg4 Try.sizeOf4 rfl q3 fun v4 r4 => ?_)
 obtain rfl := RV_bool.1 r4
 refine EL_p (.bool (!y2)) (P_not rfl) rfl ?_
 refine EL_at (.bool (!y2)) rfl rfl ?_
 refine EL_nil (thn_n (E_ret ?_))
 obtain rfl := sinj h
 exact end1 rfl rfl (show _ = .bool (!y2) from rfl) ⟨_, hfr, rfl⟩
def f57 (x0 : Int) (z0 : List Bool) (z1 : LoomLoomMill) : Option (Bool) :=
 (f53 z1).bind fun y4 =>
 (idx z0 (bit64 .andNot y4 x0)).bind fun y5 =>
 some (y5)
theorem en57 : Enters Try.prog 57 := enters_of Try.func57 (by kernel_rfl) rfl
theorem wk57 {gI : Gh} {wI : World} {x0 : Int} {z0 : List Bool} {z1 : LoomLoomMill} {pf0 : Value} (qf0 : PT gI.m wI z0 pf0) {pf1 : Value} (qf1 : PT gI.m wI z1 pf1) {r : Bool} (h : f57 x0 z0 z1 = some r) : Fn Try.prog 57 #[.int .i64 (x0), pf0, pf1] gI wI (fun _ _ v => v = .bool (r)) := by
 unfold f57 at h
 refine fn_of_E Try.func57 rfl (Nat.le_of_ble_eq_true rfl) fun g0 hm hfr => ?_
 have qf0 : PT g0.m wI z0 pf0 := hm ▸ qf0
 have qf1 : PT g0.m wI z1 pf1 := hm ▸ qf1
 show E _ 12 none _ _ _ _ _
 refine E_seq (E_region (EL_at (.bool false) rfl rfl ?_))
 refine EL_nil (thn_n (E_seq (L_load (x := .tmp 1) Try.isAgg101 Try.sizeOf101 qf0 fun v1 r1 hl1 => ?_)))
 refine L_load (x := .tmp 2) Try.isAgg96 Try.sizeOf96 qf1 fun v2 r2 hl2 => ?_
 obtain ⟨y4, o0, h⟩ := bsome h
 obtain ⟨y5, hy5, h⟩ := bsome h
 have q6 := PT_idx r1 hy5
 refine L_load (x := .tmp 10) Try.isAgg4 Try.sizeOf4 q6 fun v7 r7 hl7 => ?_
 obtain rfl := RV_bool.1 r7
 refine E_drawL (g := g0) (n := 8) [(2, (fun v g w => v = .int .i64 (y4)))] [0, 1, 2, 3, 4, 5, 6, 7] rfl mixed (by kernel_rfl) (⟨fun _ => up_eq _, trivial⟩) ?_
 refine L_ld (c := v1) rfl rfl .plain (fun _ _ h => h.ch) hl1 rfl ?_
 refine L_ld (c := v2) rfl rfl .plain (fun _ _ h => h.ch) hl2 rfl ?_
 refine L_do (φ := fun v g w => v = .int .i64 (y4)) rfl rfl .plain (fun g w hd => D_call (g := g) (vs := [v2]) en53 (.cons rfl .nil) (wk53 (r2.ext hd.1) o0) fun g' w' v hs hr => ⟨g', hs, hr⟩) (fun v3 hv => ?_)
 obtain ⟨_, _, _, rfl⟩ := hv
 refine L_p (.int .i64 (x0)) rfl rfl (P_move rfl) ?_
 refine L_p (.int .i64 ((bit64 .andNot y4 x0))) rfl rfl (P_int rfl rfl rfl) ?_
 refine L_p (ePtr v1 (bit64 .andNot y4 x0) 1) rfl rfl (P_indexAddr (α := Bool) Try.underlying101 Try.sizeOf4 rfl r1 rfl hy5) ?_
 refine L_ld (c := .bool (y5)) rfl rfl .plain (fun _ _ h => h.ch) hl7 rfl ?_
 refine L_p (.bool (y5)) rfl rfl (P_assign rfl) ?_
 refine L_nl fun g8 w8 hs => ?_
 have hfr := hfr.ext hs
 clear hs
 refine EL_nil (thn_n (E_ret ?_))
 obtain rfl := sinj h
 exact end1 rfl rfl (show _ = .bool (y5) from rfl) ⟨_, hfr, rfl⟩
def f59 (x0 : Int) : Option ((List Int)) :=
 Option.bind (α := (List Int)) (
  lp (σ := (List Int) × Int) (fun bA (u3, o0) =>
   jn (σ := Unit) (fun _ =>
    Option.bind (α := (List Int)) (
     (shr64 x0 o0).bind fun d7 =>
     bif ((bit64 .and d7 (1 : Int)) == (1 : Int)) then
      (apnd 8 u3 (([o0] : List Int))).bind fun iA =>
      some (iA)
     else
      some (u3)
     ) fun l5 =>
    bA (l5, (w64 (o0 + (1 : Int))))
    ) fun rA =>
   (shr64 x0 o0).bind fun g8 =>
   bif (decide (g8 > (0 : Int))) then
    rA ()
   else
    some (u3)
   ) big ([], (0 : Int))
  ) fun x5 =>
 some (x5)
theorem en59 : Enters Try.prog 59 := enters_of Try.func59 (by kernel_rfl) rfl
theorem wk59 {gI : Gh} {wI : World} {x0 : Int}  {r : (List Int)} (h : f59 x0 = some r) : Fn Try.prog 59 #[.int .i64 (x0)] gI wI (fun m w v => RV m w (r) v) := by
 unfold f59 at h
 refine fn_of_E Try.func59 rfl (Nat.le_of_ble_eq_true rfl) fun g0 hm hfr => ?_
 show E _ 20 none _ _ _ _ _
 refine E_seq (E_region (EL_at (.slice none 0 0) rfl rfl ?_))
 refine EL_nil (thn_n ?_)
 obtain ⟨x5, hx, h⟩ := bsome h
 refine E_join (fun e w => ∃ (g : Gh) (v2 : Value), Fr gI wI g w ∧ e 2 = v2 ∧ RV g.m w (x5 : List Int) v2 ∧ OS 1002 g w 3 (x5 : List Int) v2) (fun Q' hQ => ?_) (fun eC uC hR => ?_)
 ·replace h := hx
  clear hx
  refine E_seq (E_region (EL_at (.int .i64 (0)) rfl rfl ?_))
  refine EL_nil (thn_n (E_block ?_))
  refine E_lp h (fun (s : (List Int) × Int) e w => ∃ (g : Gh) (v2 : Value), Fr gI wI g w ∧ e 0 = .int .i64 (x0) ∧ e 2 = v2 ∧ RV g.m w (s.1 : List Int) v2 ∧ OS 1002 g w 3 (s.1 : List Int) v2 ∧ e 3 = .int .i64 (s.2)) ⟨g0, (.slice none 0 0), hfr, rfl, rfl, RV_nil, OS.nil, rfl⟩ (fun X20 bA iB => ?_)
  rintro ⟨u3, o0⟩ mC vC ⟨yA, t5, hfr, k8, l8, m8, n8, r8⟩ h
  refine E_joinC h (fun (s : Unit) e w => ∃ (g : Gh) , Fr gI wI g w ∧ e 0 = .int .i64 (x0) ∧ e 2 = t5 ∧ RV g.m w (u3 : List Int) t5 ∧ OS 1002 g w 3 (u3 : List Int) t5 ∧ e 3 = .int .i64 (o0)) (fun X24 rA jB h => ?_) ?_
  ·refine E_seq (E_region (EL_mv k8 rfl ?_))
   refine EL_mv r8 rfl ?_
   obtain ⟨g8, lB, h⟩ := bsome h
   refine EL_p (.int .i64 (g8)) (P_int rfl rfl (congrArg (Option.map (Value.int .i64)) lB)) rfl ?_
   refine EL_in (.bool ((decide (g8 > (0 : Int))))) rfl rfl rfl rfl ?_
   refine EL_nil (thn_n ?_)
   rcases csome h with ⟨i7, h⟩ | ⟨i7, h⟩
   ·refine E_ct i7 rfl ?_
    exact E_skip (thn_n (jB () _ _ ⟨yA, hfr, k8, l8, m8, n8, r8⟩ h))
   ·refine E_cf i7 rfl ?_
    refine E_exit ?_
    refine thn_e ?_
    refine thn_e ?_
    refine blk_hit ?_
    obtain rfl := sinj h
    exact hQ _ _ ⟨yA, (t5), hfr, l8, m8, n8⟩
  ·rintro _ qC aD ⟨aB, hfr, y6, v8, i6, j6, x6⟩ h
   obtain ⟨l5, hx, h⟩ := bsome h
   refine E_join (fun e w => ∃ (g : Gh) (v2 : Value), Fr gI wI g w ∧ e 0 = .int .i64 (x0) ∧ e 2 = v2 ∧ RV g.m w (l5 : List Int) v2 ∧ OS 1002 g w 3 (l5 : List Int) v2 ∧ e 3 = .int .i64 (o0)) (fun Q' hQ => ?_) (fun rC bD hR => ?_)
   ·replace h := hx
    clear hx
    refine E_block ?_
    refine E_seq (E_region (EL_mv y6 rfl ?_))
    refine EL_mv x6 rfl ?_
    obtain ⟨d7, mB, h⟩ := bsome h
    refine EL_p (.int .i64 (d7)) (P_int rfl rfl (congrArg (Option.map (Value.int .i64)) mB)) rfl ?_
    refine EL_in (.int .i64 ((bit64 .and d7 (1 : Int)))) rfl rfl rfl rfl ?_
    refine EL_in (.bool (((bit64 .and d7 (1 : Int)) == (1 : Int)))) rfl rfl rfl rfl ?_
    refine EL_nil (thn_n ?_)
    rcases csome h with ⟨m7, h⟩ | ⟨m7, h⟩
    ·refine E_ct m7 rfl ?_
     refine E_region (EL_mv v8 rfl ?_)
     refine EL_mv x6 rfl ?_
     refine EL_do .plain rfl (D_buildSlice (g := aB) 3017 (xs := ([o0] : List Int)) (vs := [.int .i64 (o0)]) Try.underlying22 Try.sizeOf3 Try.zeroValue3 rfl rfl (.cons rfl .nil) (RVs.cons (RV_int.2 rfl) RVs.nil) rfl rfl fun oB cD eD hs o35 tB hxt hfl => ?_)
     have hfr := hfr.stp hs
     have i6 := i6.stp hs
     have j6 := j6.stp hs rfl
     obtain ⟨iA, nB, h⟩ := bsome h
     refine EL_do .plain rfl (D_append (g := oB) (i := 1002) Try.underlying22 info_3 rfl rfl j6 i6 rfl tB nB fun vB gD dB hs o36 yB _ => ?_)
     have hfr := hfr.stp hs
     refine EL_at dB rfl rfl ?_
     refine EL_nil (blk_n ?_)
     obtain rfl := sinj h
     exact hQ _ _ ⟨vB, (dB), hfr, y6, rfl, yB, o36, x6⟩
    ·refine E_cf m7 rfl ?_
     refine E_skip (blk_n ?_)
     obtain rfl := sinj h
     exact hQ _ _ ⟨aB, (t5), hfr, y6, v8, i6, j6, x6⟩
   ·clear hx
    obtain ⟨zB, a9, hfr, d9, k9, l9, n9, u9⟩ := hR
    refine E_region (EL_mv u9 rfl ?_)
    refine EL_in (.int .i64 ((w64 (o0 + (1 : Int))))) rfl rfl rfl rfl ?_
    refine EL_at (.int .i64 ((w64 (o0 + (1 : Int))))) rfl rfl ?_
    exact EL_nil (thn_n (iB (l5, (w64 (o0 + (1 : Int)))) _ _ ⟨zB, (a9), hfr, d9, k9, l9, n9, rfl⟩ h))
 ·clear hx
  obtain ⟨iD, x8, hfr, y9, z9, cC⟩ := hR
  refine E_seq (E_region (EL_mv y9 rfl ?_))
  refine EL_at x8 rfl rfl ?_
  refine EL_nil (thn_n (E_ret ?_))
  obtain rfl := sinj h
  exact end1 rfl rfl (show _ = x8 from rfl) ⟨_, hfr, z9⟩
def f64 (x0 : LoomLoomMill) (x1 : Int) (x2 : Int) : Option (Int) :=
 Option.bind (α := Int) (
  lp (σ := Int × Int) (fun k48 (l5, o0) =>
   bif (decide (o0 < (((x0).orders).length : Int))) then
    Option.bind (α := Int) (
     (idx ((x0).orders) o0).bind fun y71 =>
     Option.bind (α := Bool) (
      bif (decide ((y71).Early ≥ x1)) then
       some ((decide ((y71).Late ≤ x2)))
      else
       some (false)
      ) fun x5 =>
     bif x5 then
      some ((w64 (l5 + (y71).Woven)))
     else
      some (l5)
     ) fun x6 =>
    k48 (x6, (w64 (o0 + (1 : Int))))
   else
    some (l5)
   ) big ((0 : Int), (0 : Int))
  ) fun i6 =>
 some (i6)
theorem en64 : Enters Try.prog 64 := enters_of Try.func64 (by kernel_rfl) rfl
theorem wk64 {gI : Gh} {wI : World} {x0 : LoomLoomMill} {x1 : Int} {x2 : Int} {up0 : Value} (rp0 : RV gI.m wI x0 up0) {r : Int} (h : f64 x0 x1 x2 = some r) : Fn Try.prog 64 #[up0, .int .i64 (x1), .int .i64 (x2)] gI wI (fun _ _ v => v = .int .i64 (r)) := by
 unfold f64 at h
 refine fn_of_E Try.func64 rfl (Nat.le_of_ble_eq_true rfl) fun g0 hm hfr => ?_
 have rp0 : RV g0.m wI x0 up0 := hm ▸ rp0
 show E _ 32 none _ _ _ _ _
 refine E_seq (E_region (EL_do .plain rfl (D_box (g := g0) rfl rp0 fun g1 w1 p1 hs q1 => ?_)))
 have hfr := hfr.ext hs
 refine EL_at (.int .i64 (0)) rfl rfl ?_
 refine EL_nil (thn_n ?_)
 obtain ⟨i6, hx, h⟩ := bsome h
 refine E_join (fun e w => ∃ (g : Gh) , Fr gI wI g w ∧ e 6 = .int .i64 (i6)) (fun Q' hQ => ?_) (fun vC eD hR => ?_)
 ·replace h := hx
  clear hx
  refine E_seq (E_region (EL_p (fPtr p1 2) (P_fieldAddr at_96_1 rfl (PT.ptr q1)) rfl ?_))
  have yB := PT_field (part_LoomLoomMill_1).1 q1
  refine EL_do .plain rfl (D_load (g := g1) Try.isAgg25 Try.sizeOf25 rfl yB fun y6 tB => ?_)
  refine EL_p (.int .i64 (((x0).orders).length : Int)) (P_len Try.underlying25 rfl tB) rfl ?_
  refine EL_mw (.int .i64 (0)) rfl rfl ?_
  refine EL_nil (thn_n (E_block ?_))
  refine E_lp h (fun (s : Int × Int) e w => ∃ (g : Gh) , Fr gI wI g w ∧ e 1 = .int .i64 (x1) ∧ e 2 = .int .i64 (x2) ∧ e 6 = .int .i64 (s.1) ∧ e 10 = y6 ∧ RV g.m w ((x0).orders : List LoomOrder) y6 ∧ e 11 = .int .i64 ((((x0).orders).length : Int)) ∧ e 12 = .int .i64 (s.2)) ⟨g1, hfr, rfl, rfl, rfl, rfl, tB, rfl, rfl⟩ (fun X48 k48 vB => ?_)
  rintro ⟨l5, o0⟩ aD gD ⟨z9, hfr, m7, g8, k8, d7, u3, i7, j6⟩ h
  refine E_seq (E_region (EL_p (.bool ((decide (o0 < (((x0).orders).length : Int))))) (P_int j6 i7 rfl) rfl ?_))
  refine EL_nil (thn_n (E_seq ?_))
  rcases csome h with ⟨a9, h⟩ | ⟨a9, h⟩
  ·refine E_ct a9 rfl ?_
   refine E_skip (thn_n ?_)
   obtain ⟨x6, hx, h⟩ := bsome h
   refine E_join (fun e w => ∃ (g : Gh) , Fr gI wI g w ∧ e 1 = .int .i64 (x1) ∧ e 2 = .int .i64 (x2) ∧ e 6 = .int .i64 (x6) ∧ e 10 = y6 ∧ RV g.m w ((x0).orders : List LoomOrder) y6 ∧ e 11 = .int .i64 ((((x0).orders).length : Int)) ∧ e 12 = .int .i64 (o0)) (fun Q' hQ => ?_) (fun bD iD hR => ?_)
   ·replace h := hx
    clear hx
    refine E_block ?_
    refine E_seq (E_region ?_)
    obtain ⟨y71, bA, h⟩ := bsome h
    refine EL_p (ePtr y6 o0 5) (P_indexAddr (α := LoomOrder) Try.underlying25 Try.sizeOf82 d7 u3 j6 bA) rfl ?_
    have zB := PT_idx u3 bA
    refine EL_do .plain rfl (D_load (g := z9) Try.isAgg82 Try.sizeOf82 rfl zB fun cC iA => ?_)
    refine EL_do .plain rfl (D_allocOc (g := z9) 2008 (⟨0, 0, 0, 0, 0⟩ : LoomOrder) Try.zeroValue82 (fun m w => ⟨_, (rep_two rep_int (rep_two rep_int (rep_two rep_int (rep_two rep_int rep_int)))), rfl⟩) fun eC jD l8 hs b74 cb => ?_)
    have hfr := hfr.stp hs
    have u3 := u3.stp hs
    have iA := iA.stp hs
    clear cb
    refine EL_do .plain rfl (D_storeOc (g := eC) (v := cC) Try.sizeOf82 rfl b74 rfl iA fun k9 lD hs b75 cb => ?_)
    clear cb
    have hfr := hfr.stp hs
    have u3 := u3.stp hs
    refine EL_nil (thn_n ?_)
    obtain ⟨x5, hx, h⟩ := bsome h
    refine E_join (fun e w => ∃ (g : Gh) , Fr gI wI g w ∧ e 1 = .int .i64 (x1) ∧ e 2 = .int .i64 (x2) ∧ e 6 = .int .i64 (l5) ∧ e 8 = l8 ∧ OB 2008 g w 82 (y71 : LoomOrder) l8 ∧ e 10 = y6 ∧ RV g.m w ((x0).orders : List LoomOrder) y6 ∧ e 11 = .int .i64 ((((x0).orders).length : Int)) ∧ e 12 = .int .i64 (o0) ∧ e 25 = .bool (x5)) (fun Q' hQ => ?_) (fun cD mD hR => ?_)
    ·replace h := hx
     clear hx
     refine E_region (EL_p (fPtr l8 3) (P_fieldAddr at_82_3 rfl (OB.ptr b75)) rfl ?_)
     refine EL_do .plain rfl (D_loadF (g := k9) part_LoomOrder_3.1 Try.isAgg3 Try.sizeOf3 rfl b75 fun nD mC => ?_)
     obtain rfl := RV_int.1 mC
     refine EL_mv m7 rfl ?_
     refine EL_in (.bool ((decide ((y71).Early ≥ x1)))) rfl rfl rfl rfl ?_
     refine EL_mw (.bool ((decide ((y71).Early ≥ x1)))) rfl rfl ?_
     rcases csome h with ⟨t5, h⟩ | ⟨t5, h⟩
     ·refine EL_y (fPtr l8 4) (P_fieldAddr at_82_4 rfl (OB.ptr b75)) rfl rfl t5 rfl ?_
      refine EL_do (.yes2 rfl rfl t5) rfl (D_loadF (g := k9) part_LoomOrder_4.1 Try.isAgg3 Try.sizeOf3 rfl b75 fun oD qC => ?_)
      obtain rfl := RV_int.1 qC
      refine EL_y (.int .i64 (x2)) (P_move g8) rfl rfl t5 rfl ?_
      refine EL_y (.bool ((decide ((y71).Late ≤ x2)))) (P_int rfl rfl rfl) rfl rfl t5 rfl ?_
      refine EL_p (.bool ((decide ((y71).Late ≤ x2)))) (P_pick (b := (decide ((y71).Early ≥ x1))) rfl (pick_t t5 rfl)) rfl ?_
      refine EL_nil ?_
      obtain rfl := sinj h
      exact hQ _ _ ⟨k9, hfr, m7, g8, k8, rfl, b75, d7, u3, i7, j6, rfl⟩
     ·refine EL_s rfl rfl t5 rfl rfl ?_
      iterate 3 refine EL_s rfl rfl t5 rfl rfl ?_
      refine EL_p (.bool false) (P_pick (b := (decide ((y71).Early ≥ x1))) rfl (pick_f t5 rfl)) rfl ?_
      refine EL_nil ?_
      obtain rfl := sinj h
      exact hQ _ _ ⟨k9, hfr, m7, g8, k8, rfl, b75, d7, u3, i7, j6, rfl⟩
    ·clear hx
     obtain ⟨rA, hfr, l9, n9, u9, jB, y9, m8, n8, r8, v8, x8⟩ := hR
     rcases csome h with ⟨d9, h⟩ | ⟨d9, h⟩
     ·refine E_cond_true (Eq.trans (show ev _ _ = .bool (x5) from x8) (congrArg Value.bool d9)) ?_
      refine E_region (EL_mv u9 rfl ?_)
      refine EL_p (fPtr l8 2) (P_fieldAddr at_82_2 jB (OB.ptr y9)) rfl ?_
      refine EL_do .plain rfl (D_loadF (g := rA) part_LoomOrder_2.1 Try.isAgg3 Try.sizeOf3 rfl y9 fun sD rC => ?_)
      obtain rfl := RV_int.1 rC
      refine EL_in (.int .i64 ((w64 (l5 + (y71).Woven)))) rfl rfl rfl rfl ?_
      refine EL_at (.int .i64 ((w64 (l5 + (y71).Woven)))) rfl rfl ?_
      refine EL_nil (blk_n ?_)
      obtain rfl := sinj h
      exact hQ _ _ ⟨rA, hfr, l9, n9, rfl, m8, n8, r8, v8⟩
     ·refine E_cond_false (Eq.trans (show ev _ _ = .bool (x5) from x8) (congrArg Value.bool d9)) ?_
      refine E_skip (blk_n ?_)
      obtain rfl := sinj h
      exact hQ _ _ ⟨rA, hfr, l9, n9, u9, m8, n8, r8, v8⟩
   ·clear hx
    obtain ⟨uC, hfr, lB, mB, nB, yA, aB, dB, iB⟩ := hR
    refine E_region (EL_in (.int .i64 ((w64 (o0 + (1 : Int))))) iB rfl rfl rfl ?_)
    refine EL_mw (.int .i64 ((w64 (o0 + (1 : Int))))) rfl rfl ?_
    exact EL_nil (thn_n (vB (x6, (w64 (o0 + (1 : Int)))) _ _ ⟨uC, hfr, lB, mB, nB, yA, aB, dB, rfl⟩ h))
  ·refine E_cf a9 rfl ?_
   refine E_exit ?_
   refine thn_e ?_
   refine thn_e ?_
   refine blk_hit ?_
   obtain rfl := sinj h
   exact hQ _ _ ⟨z9, hfr, k8⟩
 ·clear hx
  obtain ⟨tD, hfr, oB⟩ := hR
  refine E_seq (E_region (EL_mv oB rfl ?_))
  refine EL_at (.int .i64 (i6)) rfl rfl ?_
  refine EL_nil (thn_n (E_ret ?_))
  obtain rfl := sinj h
  exact end1 rfl rfl (show _ = .int .i64 (i6) from rfl) ⟨_, hfr, rfl⟩
def f73 (x0 : LoomLoomMill) (x1 : LoomRun) : Option (Int) :=
 (idx ((x0).orders) (x1).Order).bind fun y9 =>
 some ((w64 ((x1).From + (y9).Woven)))
theorem en73 : Enters Try.prog 73 := enters_of Try.func73 (by kernel_rfl) rfl
theorem wk73 {gI : Gh} {wI : World} {x0 : LoomLoomMill} {x1 : LoomRun} {up0 : Value} (rp0 : RV gI.m wI x0 up0) {up1 : Value} (rp1 : RV gI.m wI x1 up1) {r : Int} (h : f73 x0 x1 = some r) : Fn Try.prog 73 #[up0, up1] gI wI (fun _ _ v => v = .int .i64 (r)) := by
 unfold f73 at h
 refine fn_of_E Try.func73 rfl (Nat.le_of_ble_eq_true rfl) fun g0 hm hfr => ?_
 have rp0 : RV g0.m wI x0 up0 := hm ▸ rp0
 have rp1 : RV g0.m wI x1 up1 := hm ▸ rp1
 show E _ 15 none _ _ _ _ _
 refine E_seq (E_region (EL_do .plain rfl (D_box (g := g0) rfl rp0 fun g1 w1 p1 hs q1 => ?_)))
 have hfr := hfr.ext hs
 have rp1 := rp1.ext hs
 refine EL_do .plain rfl (D_box (g := g1) rfl rp1 fun g2 w2 p2 hs q2 => ?_)
 have hfr := hfr.ext hs
 have q1 := q1.ext hs
 refine EL_at (.int .i64 (0)) rfl rfl ?_
 refine EL_nil (thn_n (E_seq ?_))
 have q3 := PT_field (part_LoomRun_2).1 q2
 refine L_load (x := .tmp 5) Try.isAgg3 Try.sizeOf3 q3 fun v4 r4 l5 => ?_
 obtain rfl := RV_int.1 r4
 have q5 := PT_field (part_LoomLoomMill_1).1 q1
 refine L_load (x := .tmp 7) Try.isAgg25 Try.sizeOf25 q5 fun v6 r6 t5 => ?_
 have q7 := PT_field (part_LoomRun_0).1 q2
 refine L_load (x := .tmp 9) Try.isAgg3 Try.sizeOf3 q7 fun v8 r8 x5 => ?_
 obtain rfl := RV_int.1 r8
 obtain ⟨y9, o0, h⟩ := bsome h
 have u3 := PT_idx r6 o0
 have i6 := PT_field (part_LoomOrder_2).1 u3
 refine L_load (x := .tmp 12) Try.isAgg3 Try.sizeOf3 i6 fun x6 j6 hl12 => ?_
 obtain rfl := RV_int.1 j6
 refine E_drawL (g := g2) (n := 11) [] [0, 1, 2, 3, 4, 5, 6, 7, 8, 9, 10] rfl mixed (by kernel_rfl) trivial ?_
 refine L_p (fPtr p2 2) rfl rfl (P_fieldAddr at_76_2 rfl (PT.ptr q2)) ?_
 refine L_ld (c := .int .i64 ((x1).From)) rfl rfl .plain (fun _ _ h => h.ch) l5 rfl ?_
 refine L_p (fPtr p1 2) rfl rfl (P_fieldAddr at_96_1 rfl (PT.ptr q1)) ?_
 refine L_ld (c := v6) rfl rfl .plain (fun _ _ h => h.ch) t5 rfl ?_
 refine L_p (fPtr p2 0) rfl rfl (P_fieldAddr at_76_0 rfl (PT.ptr q2)) ?_
 refine L_ld (c := .int .i64 ((x1).Order)) rfl rfl .plain (fun _ _ h => h.ch) x5 rfl ?_
 refine L_p (ePtr v6 (x1).Order 5) rfl rfl (P_indexAddr (α := LoomOrder) Try.underlying25 Try.sizeOf82 rfl r6 rfl o0) ?_
 refine L_p (fPtr (ePtr v6 (x1).Order 5) 2) rfl rfl (P_fieldAddr at_82_2 rfl (PT.ptr u3)) ?_
 refine L_ld (c := .int .i64 ((y9).Woven)) rfl rfl .plain (fun _ _ h => h.ch) hl12 rfl ?_
 refine L_p (.int .i64 ((w64 ((x1).From + (y9).Woven)))) rfl rfl (P_int rfl rfl rfl) ?_
 refine L_p (.int .i64 ((w64 ((x1).From + (y9).Woven)))) rfl rfl (P_assign rfl) ?_
 refine L_nl fun y6 d7 hs => ?_
 have hfr := hfr.ext hs
 clear hs
 refine EL_nil (thn_n (E_ret ?_))
 obtain rfl := sinj h
 exact end1 rfl rfl (show _ = .int .i64 ((w64 ((x1).From + (y9).Woven))) from rfl) ⟨_, hfr, rfl⟩
def f89 (x0 : List Int) : Option (Int) :=
 jn (σ := Unit) (fun _ =>
  some ((0 : Int))
  ) fun n8 =>
 lp (σ := Int) (fun r8 o0 =>
  bif (decide (o0 < ((x0).length : Int))) then
   jn (σ := Unit) (fun _ =>
    r8 ((w64 (o0 + (1 : Int))))
    ) fun v8 =>
   (idx x0 o0).bind fun y23 =>
   bif (y23 != (0 : Int)) then
    some (y23)
   else
    v8 ()
  else
   n8 ()
  ) big ((0 : Int))
theorem en89 : Enters Try.prog 89 := enters_of Try.func89 (by kernel_rfl) rfl
theorem wk89 {gI : Gh} {wI : World} {x0 : List Int} {up0 : Value} (rp0 : RV gI.m wI x0 up0) {r : Int} (h : f89 x0 = some r) : Fn Try.prog 89 #[up0] gI wI (fun _ _ v => v = .int .i64 (r)) := by
 unfold f89 at h
 refine fn_of_E Try.func89 rfl (Nat.le_of_ble_eq_true rfl) fun g0 hm hfr => ?_
 have rp0 : RV g0.m wI x0 up0 := hm ▸ rp0
 show E _ 18 none _ _ _ _ _
 refine E_seq (E_region (EL_at (.int .i64 (0)) rfl rfl ?_))
 refine EL_nil (thn_n (E_seq (E_region (EL_at (.int .i64 (0)) rfl rfl ?_))))
 refine EL_nil (thn_n (E_joinC h (fun (s : Unit) e w => ∃ (g : Gh) , Fr gI wI g w ∧ e 3 = .int .i64 ((0 : Int))) (fun X14 n8 x8 h => ?_) ?_))
 ·refine E_seq (E_region (EL_mw up0 rfl rfl ?_))
  refine EL_p (.int .i64 ((x0).length : Int)) (P_len Try.underlying22 rfl rp0) rfl ?_
  refine EL_mw (.int .i64 (0)) rfl rfl ?_
  refine EL_nil (thn_n (E_block ?_))
  refine E_lp h (fun (s : Int) e w => ∃ (g : Gh) , Fr gI wI g w ∧ e 3 = .int .i64 ((0 : Int)) ∧ e 6 = up0 ∧ RV g.m w (x0 : List Int) up0 ∧ e 7 = .int .i64 (((x0).length : Int)) ∧ e 8 = .int .i64 (s)) ⟨g0, hfr, rfl, rfl, rp0, rfl, rfl⟩ (fun X15 r8 a9 => ?_)
  rintro o0 u9 bA ⟨y6, hfr, u3, j6, l5, x6, t5⟩ h
  refine E_seq (E_region (EL_in (.bool ((decide (o0 < ((x0).length : Int))))) t5 x6 rfl rfl ?_))
  refine EL_nil (thn_n (E_seq ?_))
  rcases csome h with ⟨x5, h⟩ | ⟨x5, h⟩
  ·refine E_ct x5 rfl ?_
   refine E_skip (thn_n (E_joinC h (fun (s : Unit) e w => ∃ (g : Gh) , Fr gI wI g w ∧ e 3 = .int .i64 ((0 : Int)) ∧ e 6 = up0 ∧ RV g.m w (x0 : List Int) up0 ∧ e 7 = .int .i64 (((x0).length : Int)) ∧ e 8 = .int .i64 (o0)) (fun X22 v8 d9 h => ?_) ?_))
   ·refine E_block ?_
    refine E_seq (E_region ?_)
    obtain ⟨y23, d7, h⟩ := bsome h
    refine EL_p (ePtr up0 o0 1) (P_indexAddr (α := Int) Try.underlying22 Try.sizeOf3 j6 l5 t5 d7) rfl ?_
    have k9 := PT_idx l5 d7
    refine EL_do .plain rfl (D_load (g := y6) Try.isAgg3 Try.sizeOf3 rfl k9 fun iA l9 => ?_)
    obtain rfl := RV_int.1 l9
    refine EL_at (.int .i64 (y23)) rfl rfl ?_
    refine EL_nil (thn_n (E_seq (E_region (EL_mw (.int .i64 (y23)) rfl rfl ?_))))
    refine EL_mv u3 rfl ?_
    refine EL_in (.bool ((y23 != (0 : Int)))) rfl rfl rfl rfl ?_
    refine EL_nil (thn_n ?_)
    rcases csome h with ⟨i6, h⟩ | ⟨i6, h⟩
    ·refine E_ct i6 rfl ?_
     refine E_seq (E_region (EL_mw (.int .i64 (y23)) rfl rfl ?_))
     refine EL_at (.int .i64 (y23)) rfl rfl ?_
     refine EL_nil (thn_n (E_ret (blk_r ?_)))
     refine thn_r ?_
     refine thn_r ?_
     refine blk_r ?_
     refine thn_r ?_
     obtain rfl := sinj h
     exact end1 rfl rfl (show _ = .int .i64 (y23) from rfl) ⟨_, hfr, rfl⟩
    ·refine E_cf i6 rfl ?_
     exact E_skip (blk_n (thn_n (d9 () _ _ ⟨y6, hfr, u3, j6, l5, x6, t5⟩ h)))
   ·rintro _ y9 rA ⟨n9, hfr, i7, m7, g8, k8, l8⟩ h
    refine E_region (EL_in (.int .i64 ((w64 (o0 + (1 : Int))))) l8 rfl rfl rfl ?_)
    refine EL_mw (.int .i64 ((w64 (o0 + (1 : Int))))) rfl rfl ?_
    exact EL_nil (thn_n (a9 ((w64 (o0 + (1 : Int)))) _ _ ⟨n9, hfr, i7, m7, g8, k8, rfl⟩ h))
  ·refine E_cf x5 rfl ?_
   refine E_exit ?_
   refine thn_e ?_
   refine thn_e ?_
   refine blk_hit ?_
   exact thn_n (x8 () _ _ ⟨y6, hfr, u3⟩ h)
 ·rintro _ z9 yA ⟨aB, hfr, m8⟩ h
  refine E_seq (E_region (EL_mv m8 rfl ?_))
  refine EL_at (.int .i64 ((0 : Int))) rfl rfl ?_
  refine EL_nil (thn_n (E_ret ?_))
  obtain rfl := sinj h
  exact end1 rfl rfl (show _ = .int .i64 ((0 : Int)) from rfl) ⟨_, hfr, rfl⟩
def f91 (x0 : List LoomRun) (x1 : LoomRun → Option Bool) : Option (Int) :=
 jn (σ := Unit) (fun _ =>
  some ((-1 : Int))
  ) fun k18 =>
 lp (σ := Int) (fun k19 o0 =>
  bif (decide (o0 < ((x0).length : Int))) then
   jn (σ := Unit) (fun _ =>
    k19 ((w64 (o0 + (1 : Int))))
    ) fun k28 =>
   (idx x0 o0).bind fun m8 =>
   (x1 m8).bind fun n8 =>
   bif n8 then
    some (o0)
   else
    k28 ()
  else
   k18 ()
  ) big ((0 : Int))
theorem en91 : Enters Try.prog 91 := enters_of Try.func91 (by kernel_rfl) rfl
theorem wk91 {gI : Gh} {wI : World} {x0 : List LoomRun} {x1 : LoomRun → Option Bool} {up0 : Value} (rp0 : RV gI.m wI x0 up0) {up1 : Value} (rp1 : FnV1 Try.prog x1 up1 gI wI) {r : Int} (h : f91 x0 x1 = some r) : Fn Try.prog 91 #[up0, up1] gI wI (fun _ _ v => v = .int .i64 (r)) := by
 unfold f91 at h
 refine fn_of_E Try.func91 rfl (Nat.le_of_ble_eq_true rfl) fun g0 hm hfr => ?_
 have rp0 : RV g0.m wI x0 up0 := hm ▸ rp0
 obtain ⟨ff1, fa1, fc1, rfl, fen1, fcl1⟩ := rp1
 show E _ 19 none _ _ _ _ _
 refine E_seq (E_region (EL_at (.int .i64 (0)) rfl rfl ?_))
 refine EL_nil (thn_n (E_joinC h (fun (s : Unit) e w => ∃ (g : Gh) , Fr gI wI g w) (fun X18 k18 r8 h => ?_) ?_))
 ·refine E_seq (E_region (EL_mw up0 rfl rfl ?_))
  refine EL_p (.int .i64 ((x0).length : Int)) (P_len Try.underlying31 rfl rp0) rfl ?_
  refine EL_mw (.int .i64 (0)) rfl rfl ?_
  refine EL_nil (thn_n (E_block ?_))
  refine E_lp h (fun (s : Int) e w => ∃ (g : Gh) , Fr gI wI g w ∧ e 0 = up0 ∧ RV g.m w (x0 : List LoomRun) up0 ∧ e 1 = (.func (.func ff1) fa1 fc1) ∧ e 7 = .int .i64 (((x0).length : Int)) ∧ e 8 = .int .i64 (s)) ⟨g0, hfr, rfl, rp0, rfl, rfl, rfl⟩ (fun X19 k19 v8 => ?_)
  rintro o0 y9 iA ⟨y6, hfr, i6, u3, j6, x6, l5⟩ h
  refine E_seq (E_region (EL_in (.bool ((decide (o0 < ((x0).length : Int))))) l5 x6 rfl rfl ?_))
  refine EL_nil (thn_n (E_seq ?_))
  rcases csome h with ⟨t5, h⟩ | ⟨t5, h⟩
  ·refine E_ct t5 rfl ?_
   refine E_skip (thn_n (E_joinC h (fun (s : Unit) e w => ∃ (g : Gh) , Fr gI wI g w ∧ e 0 = up0 ∧ RV g.m w (x0 : List LoomRun) up0 ∧ e 1 = (.func (.func ff1) fa1 fc1) ∧ e 7 = .int .i64 (((x0).length : Int)) ∧ e 8 = .int .i64 (o0)) (fun X28 k28 x8 h => ?_) ?_))
   ·refine E_block ?_
    refine E_seq (E_region (EL_mv l5 rfl ?_))
    refine EL_at (.int .i64 (o0)) rfl rfl ?_
    refine EL_nil (thn_n (E_seq (E_region (EL_mv j6 rfl ?_))))
    refine EL_mv i6 rfl ?_
    refine EL_mw (.int .i64 (o0)) rfl rfl ?_
    obtain ⟨m8, d7, h⟩ := bsome h
    refine EL_p (ePtr up0 o0 3) (P_indexAddr (α := LoomRun) Try.underlying31 Try.sizeOf76 rfl u3 rfl d7) rfl ?_
    have d9 := PT_idx u3 d7
    refine EL_do .plain rfl (D_load (g := y6) Try.isAgg76 Try.sizeOf76 rfl d9 fun k9 l9 => ?_)
    obtain ⟨n8, a9, h⟩ := bsome h
    refine EL_do .plain rfl (D_callv (g := y6) (vs := [k9]) rfl fen1 (.cons rfl .nil) (fcl1 _ _ hfr.ch _ _ _  l9 a9) fun n9 rA yA hs hr => ?_)
    have hfr := hfr.ext hs
    have u3 := u3.ext hs
    obtain rfl := RV_bool.1 hr
    refine EL_nil (thn_n ?_)
    rcases csome h with ⟨x5, h⟩ | ⟨x5, h⟩
    ·refine E_ct x5 rfl ?_
     refine E_seq (E_region (EL_mw (.int .i64 (o0)) rfl rfl ?_))
     refine EL_at (.int .i64 (o0)) rfl rfl ?_
     refine EL_nil (thn_n (E_ret (blk_r ?_)))
     refine thn_r ?_
     refine thn_r ?_
     refine blk_r ?_
     refine thn_r ?_
     obtain rfl := sinj h
     exact end1 rfl rfl (show _ = .int .i64 (o0) from rfl) ⟨_, hfr, rfl⟩
    ·refine E_cf x5 rfl ?_
     exact E_skip (blk_n (thn_n (x8 () _ _ ⟨n9, hfr, i6, u3, j6, x6, l5⟩ h)))
   ·rintro _ z9 aB ⟨u9, hfr, i7, m7, g8, k8, l8⟩ h
    refine E_region (EL_in (.int .i64 ((w64 (o0 + (1 : Int))))) l8 rfl rfl rfl ?_)
    refine EL_mw (.int .i64 ((w64 (o0 + (1 : Int))))) rfl rfl ?_
    exact EL_nil (thn_n (v8 ((w64 (o0 + (1 : Int)))) _ _ ⟨u9, hfr, i7, m7, g8, k8, rfl⟩ h))
  ·refine E_cf t5 rfl ?_
   refine E_exit ?_
   refine thn_e ?_
   refine thn_e ?_
   refine blk_hit ?_
   exact thn_n (r8 () _ _ ⟨y6, hfr⟩ h)
 ·rintro _ bA dB ⟨iB, hfr⟩ h
  refine E_seq (E_region (EL_at (.int .i64 (-1)) rfl rfl ?_))
  refine EL_nil (thn_n (E_ret ?_))
  obtain rfl := sinj h
  exact end1 rfl rfl (show _ = .int .i64 (-1) from rfl) ⟨_, hfr, rfl⟩
end Go.Proofs.Ytnfjhdagbknlbaa
