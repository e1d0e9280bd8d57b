import Derived.Test.YtnfjhdagbknlbaaTypes
set_option maxRecDepth 8000
set_option maxHeartbeats 4000000
namespace Go.Proofs.Ytnfjhdagbknlbaa
open Go.RowKit
theorem info_76 : (Try.prog.info? 76).map (fun i => (i.zero, i.size, i.bytes)) = some (some (.agg #[.int .i64 0, .int .i64 0, .int .i64 0]), 3, 24) := by kernel_rfl
theorem mixed : Try.prog.follows .mixedOrders = true := by kernel_rfl
theorem info_3 : (Try.prog.info? 3).map (fun i => (i.zero, i.size, i.bytes)) = some (some (.int .i64 0), 1, 8) := by kernel_rfl
theorem endm_c {P : Program} {e : Env} {ds : List Deferred} {w : World} {fn : Func} {R : Value → World → Prop} {t0 : Tmp} {v0 : Value} {y0 : TypeId} {a0 : Addr} (hres : fn.results = #[.cell t0 y0]) (hd : ds = []) (h0 : e t0 = .pointer (some a0)) (l0 : (loadVar y0 a0).run P w = .ok v0 w) (h : R v0 w) : atEnd P fn R .ret e ds w :=
 ⟨hd, fun tmps ht => ⟨_, by simp [results, hres, ht, asAddr, h0, l0], h⟩⟩
theorem info_82 : (Try.prog.info? 82).map (fun i => (i.zero, i.size, i.bytes)) = some (some (.agg #[.int .i64 0, .int .i64 0, .int .i64 0, .int .i64 0, .int .i64 0]), 5, 40) := by kernel_rfl
theorem fl_76 : Try.prog.fieldsOf 76 = #[{ name := "Order", type := 3, offset := 0, embedded := false, tag := "", pkgPath := "", byteOffset := 0 }, { name := "Loom", type := 3, offset := 1, embedded := false, tag := "", pkgPath := "", byteOffset := 8 }, { name := "From", type := 3, offset := 2, embedded := false, tag := "", pkgPath := "", byteOffset := 16 }] := by kernel_rfl
theorem seq_76 : SEq (α := LoomRun) Try.prog 76 := by
 intro d x y w a b m wx m2 wy hx hy
 obtain ⟨_, ⟨_, _, rfl, rfl, ⟨_, _, rfl, rfl, rfl⟩⟩, rfl⟩ := hx
 obtain ⟨_, ⟨_, _, rfl, rfl, ⟨_, _, rfl, rfl, rfl⟩⟩, rfl⟩ := hy
 refine (run_equalIn_struct w (d + 1) 76 _ _ (by kernel_rfl) (by kernel_rfl)).trans ?_
 rw [fl_76]
 obtain ⟨x0, x1, x2⟩ := x
 obtain ⟨y0, y1, y2⟩ := y
 show (Op.eqFields (d + 1) #[.int .i64 (x0), .int .i64 (x1), .int .i64 (x2)] #[.int .i64 (y0), .int .i64 (y1), .int .i64 (y2)] _).run _ _ = _
 have x0p : (part 3 #[.int .i64 (x0), .int .i64 (x1), .int .i64 (x2)] 0).run Try.prog w = .ok (.int .i64 (x0)) w := part_one Try.isAgg3 rfl
 have x1p : (part 3 #[.int .i64 (x0), .int .i64 (x1), .int .i64 (x2)] 1).run Try.prog w = .ok (.int .i64 (x1)) w := part_one Try.isAgg3 rfl
 have x2p : (part 3 #[.int .i64 (x0), .int .i64 (x1), .int .i64 (x2)] 2).run Try.prog w = .ok (.int .i64 (x2)) w := part_one Try.isAgg3 rfl
 have y0p : (part 3 #[.int .i64 (y0), .int .i64 (y1), .int .i64 (y2)] 0).run Try.prog w = .ok (.int .i64 (y0)) w := part_one Try.isAgg3 rfl
 have y1p : (part 3 #[.int .i64 (y0), .int .i64 (y1), .int .i64 (y2)] 1).run Try.prog w = .ok (.int .i64 (y1)) w := part_one Try.isAgg3 rfl
 have y2p : (part 3 #[.int .i64 (y0), .int .i64 (y1), .int .i64 (y2)] 2).run Try.prog w = .ok (.int .i64 (y2)) w := part_one Try.isAgg3 rfl
 simp only [Op.eqFields, Sem.run_bind, Sem.run_ite, Sem.run_pure, x0p, x1p, x2p, y0p, y1p, y2p, Result.andThen_ok, run_equalIn_int _ _ _ _ _ _ _ Try.underlying3]
 simp
 grind
theorem eg_76 : Try.prog.eqGuardType Try.prog.depth 76 = false := by kernel_rfl
theorem lay_48 : layoutOf Try.prog 48 = some ([.int .i64 0, .int .i64 0], [(0, 1), (1, 1)]) := by kernel_rfl
theorem endm_ctt {P : Program} {e : Env} {ds : List Deferred} {w : World} {fn : Func} {R : Value → World → Prop} {t0 : Tmp} {v0 : Value} {y0 : TypeId} {a0 : Addr} {t1 : Tmp} {v1 : Value} {t2 : Tmp} {v2 : Value} (hres : fn.results = #[.cell t0 y0, .tmp t1, .tmp t2]) (hd : ds = []) (h0 : e t0 = .pointer (some a0)) (l0 : (loadVar y0 a0).run P w = .ok v0 w) (h1 : e t1 = v1) (h2 : e t2 = v2) (h : R (.tuple #[v0, v1, v2]) w) : atEnd P fn R .ret e ds w :=
 ⟨hd, fun tmps ht => ⟨_, by simp [results, hres, ht, asAddr, h0, l0, h1, h2], h⟩⟩
theorem plain_LoomRun : Plain LoomRun := fun _ m' _ w' x _ h => (plain_two plain_int (plain_two plain_int plain_int)) _ m' _ w' _ _ h
theorem info_4 : (Try.prog.info? 4).map (fun i => (i.zero, i.size, i.bytes)) = some (some (.bool false), 1, 1) := by kernel_rfl
theorem lay_24 : layoutOf Try.prog 24 = some ([.slice none 0 0, .int .i64 0], [(0, 1), (1, 1)]) := by kernel_rfl
theorem layA_126 : ((Try.prog.info? 126).bind (·.zero)).map (·.cells.toList) = some [.int .i64 0, .int .i64 0, .int .i64 0] := by kernel_rfl
theorem szA_3 : (Try.prog.info? 3).map (·.size) = some 1 := by kernel_rfl
theorem lay_82 : layoutOf Try.prog 82 = some ([.int .i64 0, .int .i64 0, .int .i64 0, .int .i64 0, .int .i64 0], [(0, 1), (1, 1), (2, 1), (3, 1), (4, 1)]) := by kernel_rfl
theorem lay_76 : layoutOf Try.prog 76 = some ([.int .i64 0, .int .i64 0, .int .i64 0], [(0, 1), (1, 1), (2, 1)]) := by kernel_rfl
theorem lay_54 : layoutOf Try.prog 54 = some ([.int .i64 0, .int .i64 0, .int .i64 0], [(0, 1), (1, 2)]) := by kernel_rfl
theorem lay_96 : layoutOf Try.prog 96 = some ([.slice none 0 0, .int .i64 0, .slice none 0 0], [(0, 2), (2, 1)]) := by kernel_rfl
theorem endm_ct {P : Program} {e : Env} {ds : List Deferred} {w : World} {fn : Func} {R : Value → World → Prop} {t0 : Tmp} {v0 : Value} {y0 : TypeId} {a0 : Addr} {t1 : Tmp} {v1 : Value} (hres : fn.results = #[.cell t0 y0, .tmp t1]) (hd : ds = []) (h0 : e t0 = .pointer (some a0)) (l0 : (loadVar y0 a0).run P w = .ok v0 w) (h1 : e t1 = v1) (h : R (.tuple #[v0, v1]) w) : atEnd P fn R .ret e ds w :=
 ⟨hd, fun tmps ht => ⟨_, by simp [results, hres, ht, asAddr, h0, l0, h1], h⟩⟩
theorem key_3 : KeyLaw Try.prog 3 (Value.int .i64) := keyLaw_int Try.underlying3
theorem capf_0_1 {e : Env} {f : FuncId} {o0 : Operand} {b0 : Value} (hb0 : ev e o0 = b0) : (Value.func (.func f) ((#[] : Array Operand).map (ev e)) ((#[o0] : Array Operand).map (ev e))) = .func (.func f) #[] #[b0] := by simp [hb0]
theorem capf_0_2 {e : Env} {f : FuncId} {o0 : Operand} {u0 : Operand} {b0 : Value} {b1 : Value} (hb0 : ev e o0 = b0) (hb1 : ev e u0 = b1) : (Value.func (.func f) ((#[] : Array Operand).map (ev e)) ((#[o0, u0] : Array Operand).map (ev e))) = .func (.func f) #[] #[b0, b1] := by simp [hb0, hb1]
theorem plain_LoomOrder : Plain LoomOrder := fun _ m' _ w' x _ h => (plain_two plain_int (plain_two plain_int (plain_two plain_int (plain_two plain_int plain_int)))) _ m' _ w' _ _ h
theorem lay_113 : layoutOf Try.prog 113 = some ([.slice none 0 0, .int .i64 0, .slice none 0 0, .int .i64 0, .int .i64 0, .int .i64 0], [(0, 3), (3, 3)]) := by kernel_rfl
theorem tup2_0 {b0 b1 : Value} {B0 : Value → Prop} {B1 : Value → Prop} (h : ∃ c0 c1 : Value, Value.tuple #[b0, b1] = .tuple #[c0, c1] ∧ B0 c0 ∧ B1 c1) : B0 b0 := by
 obtain ⟨c0, c1, he, h0, h1⟩ := h; simp at he; obtain ⟨rfl, rfl⟩ := he; exact h0
theorem tup3_0 {b0 b1 b2 : Value} {B0 : Value → Prop} {B1 : Value → Prop} {B2 : Value → Prop} (h : ∃ c0 c1 c2 : Value, Value.tuple #[b0, b1, b2] = .tuple #[c0, c1, c2] ∧ B0 c0 ∧ B1 c1 ∧ B2 c2) : B0 b0 := by
 obtain ⟨c0, c1, c2, he, h0, h1, h2⟩ := h; simp at he; obtain ⟨rfl, rfl, rfl⟩ := he; exact h0
theorem tup3_1 {b0 b1 b2 : Value} {B0 : Value → Prop} {B1 : Value → Prop} {B2 : Value → Prop} (h : ∃ c0 c1 c2 : Value, Value.tuple #[b0, b1, b2] = .tuple #[c0, c1, c2] ∧ B0 c0 ∧ B1 c1 ∧ B2 c2) : B1 b1 := by
 obtain ⟨c0, c1, c2, he, h0, h1, h2⟩ := h; simp at he; obtain ⟨rfl, rfl, rfl⟩ := he; exact h1
theorem fl_48 : Try.prog.fieldsOf 48 = #[{ name := "Low", type := 3, offset := 0, embedded := false, tag := "", pkgPath := "", byteOffset := 0 }, { name := "High", type := 3, offset := 1, embedded := false, tag := "", pkgPath := "", byteOffset := 8 }] := by kernel_rfl
theorem seq_48 : SEq (α := Span) Try.prog 48 := by
 intro d x y w a b m wx m2 wy hx hy
 obtain ⟨_, ⟨_, _, rfl, rfl, rfl⟩, rfl⟩ := hx
 obtain ⟨_, ⟨_, _, rfl, rfl, rfl⟩, rfl⟩ := hy
 refine (run_equalIn_struct w (d + 1) 48 _ _ (by kernel_rfl) (by kernel_rfl)).trans ?_
 rw [fl_48]
 obtain ⟨x0, x1⟩ := x
 obtain ⟨y0, y1⟩ := y
 show (Op.eqFields (d + 1) #[.int .i64 (x0), .int .i64 (x1)] #[.int .i64 (y0), .int .i64 (y1)] _).run _ _ = _
 have x0p : (part 3 #[.int .i64 (x0), .int .i64 (x1)] 0).run Try.prog w = .ok (.int .i64 (x0)) w := part_one Try.isAgg3 rfl
 have x1p : (part 3 #[.int .i64 (x0), .int .i64 (x1)] 1).run Try.prog w = .ok (.int .i64 (x1)) w := part_one Try.isAgg3 rfl
 have y0p : (part 3 #[.int .i64 (y0), .int .i64 (y1)] 0).run Try.prog w = .ok (.int .i64 (y0)) w := part_one Try.isAgg3 rfl
 have y1p : (part 3 #[.int .i64 (y0), .int .i64 (y1)] 1).run Try.prog w = .ok (.int .i64 (y1)) w := part_one Try.isAgg3 rfl
 simp only [Op.eqFields, Sem.run_bind, Sem.run_ite, Sem.run_pure, x0p, x1p, y0p, y1p, Result.andThen_ok, run_equalIn_int _ _ _ _ _ _ _ Try.underlying3]
 simp
 grind
theorem eg_48 : Try.prog.eqGuardType Try.prog.depth 48 = false := by kernel_rfl
def f67 (x0 : List LoomRun) : Option (List LoomRun) := apnd 24 [] x0
theorem en67 : Enters Try.prog 67 := enters_of Try.func67 (by kernel_rfl) rfl
def lenTab : Str := (⟨[0, 1, 2, 2, 3, 3, 3, 3, 4, 4, 4, 4, 4, 4, 4, 4, 5, 5, 5, 5, 5, 5, 5, 5, 5, 5, 5, 5, 5, 5, 5, 5, 6, 6, 6, 6, 6, 6, 6, 6, 6, 6, 6, 6, 6, 6, 6, 6, 6, 6, 6, 6, 6, 6, 6, 6, 6, 6, 6, 6, 6, 6, 6, 6, 7, 7, 7, 7, 7, 7, 7, 7, 7, 7, 7, 7, 7, 7, 7, 7, 7, 7, 7, 7, 7, 7, 7, 7, 7, 7, 7, 7, 7, 7, 7, 7, 7, 7, 7, 7, 7, 7, 7, 7, 7, 7, 7, 7, 7, 7, 7, 7, 7, 7, 7, 7, 7, 7, 7, 7, 7, 7, 7, 7, 7, 7, 7, 7, 8, 8, 8, 8, 8, 8, 8, 8, 8, 8, 8, 8, 8, 8, 8, 8, 8, 8, 8, 8, 8, 8, 8, 8, 8, 8, 8, 8, 8, 8, 8, 8, 8, 8, 8, 8, 8, 8, 8, 8, 8, 8, 8, 8, 8, 8, 8, 8, 8, 8, 8, 8, 8, 8, 8, 8, 8, 8, 8, 8, 8, 8, 8, 8, 8, 8, 8, 8, 8, 8, 8, 8, 8, 8, 8, 8, 8, 8, 8, 8, 8, 8, 8, 8, 8, 8, 8, 8, 8, 8, 8, 8, 8, 8, 8, 8, 8, 8, 8, 8, 8, 8, 8, 8, 8, 8, 8, 8, 8, 8, 8, 8, 8, 8, 8, 8, 8, 8, 8, 8, 8, 8, 8, 8, 8, 8, 8, 8]⟩ : Str)
def f115 (x : Int) : Option Int := if 0 ≤ x ∧ x < 256 then (idx lenTab.b x).map fun c => w64 (0 + (c.toNat : Int)) else none
def f101 (x : Int) : Option Int := f115 x
theorem en115 : Enters Try.prog 115 := enters_of Try.func115 (by kernel_rfl) rfl
theorem en101 : Enters Try.prog 101 := enters_of Try.func101 (by kernel_rfl) rfl
theorem wk115 {gI : Gh} {wI : World} {x0 : Int} {r : Int} (h : f115 x0 = some r) : Fn Try.prog 115 #[.int .u64 x0] gI wI (fun _ _ v => v = .int .i64 (r)) := by
 unfold f115 at h
 split at h
 case isFalse => cases h
 rename_i hx
 obtain ⟨h0, h1⟩ := hx
 cases hc : idx lenTab.b x0 with
 | none => rw [hc] at h; cases h
 | some c =>
 rw [hc] at h
 obtain rfl := sinj h
 refine fn_of_E Try.func115 rfl (Nat.le_of_ble_eq_true rfl) fun g0 hm hfr => ?_
 show E _ 25 none _ _ _ _ _
 refine Zf (Za (Zg (.int .i64 0) rfl rfl (Zb (Zd ?_))))
 refine Zf (Zf (Za (Zn (.int .u64 x0) rfl rfl ?_)))
 refine EL_p (.bool false) (P_u64lt rfl rfl (by omega)) rfl (Zb (Zd ?_))
 refine E_cond_false rfl (Zu (Zd ?_))
 refine Zf (Zf (Za (Zn (.int .u64 x0) rfl rfl ?_)))
 refine EL_p (.bool false) (P_u64lt rfl rfl (by omega)) rfl (Zb (Zd ?_))
 refine E_cond_false rfl (Zu (Zd ?_))
 refine Zf (Zf (Za (Zn (.int .u64 x0) rfl rfl ?_)))
 refine EL_p (.bool false) (P_u64lt rfl rfl (by omega)) rfl (Zb (Zd ?_))
 refine E_cond_false rfl (Zu (Zd ?_))
 refine Zf (Za (Zn (.int .i64 0) rfl rfl ?_))
 refine Zn (.int .u64 x0) rfl rfl ?_
 refine EL_p (.int .u8 x0) (P_u64u8 Try.underlying169 Try.underlying5 rfl h0 h1) rfl ?_
 refine EL_p (.int .u8 c.toNat) (P_indexS (s := lenTab) Try.underlying9 rfl rfl hc) rfl ?_
 refine EL_p (.int .i64 (c.toNat : Int)) (P_u8int Try.underlying5 Try.underlying2 rfl) rfl ?_
 refine EL_in (.int .i64 (w64 (0 + (c.toNat : Int)))) rfl rfl rfl rfl ?_
 refine Zg (.int .i64 (w64 (0 + (c.toNat : Int)))) rfl rfl (Zb (Zd ?_))
 exact E_ret (end1 rfl rfl (show _ = _ from rfl) ⟨_, hfr, rfl⟩)
theorem wk101 {gI : Gh} {wI : World} {x0 : Int} {r : Int} (h : f101 x0 = some r) : Fn Try.prog 101 #[.int .u64 x0] gI wI (fun _ _ v => v = .int .i64 (r)) := by
 unfold f101 at h
 refine fn_of_E Try.func101 rfl (Nat.le_of_ble_eq_true rfl) fun g0 hm hfr => ?_
 show E _ 8 none _ _ _ _ _
 refine Zf (Za (Zg (.int .i64 0) rfl rfl (Zb (Zd ?_))))
 refine Zf (E_cond_false rfl (Zu (Zd ?_)))
 refine Zf (Za (Zn (.int .u64 x0) rfl rfl ?_))
 refine Ze .plain rfl (Zp (g := g0) (vs := [.int .u64 x0]) en115 (.cons rfl .nil) (wk115 h) fun g1 w1 v1 hs hr => ?_)
 have hfr := hfr.ext hs
 subst hr
 refine Zg (.int .i64 r) rfl rfl (Zb (Zd ?_))
 exact E_ret (end1 rfl rfl (show _ = _ from rfl) ⟨_, hfr, rfl⟩)
def f12 (x0 : LoomMill) (x1 : List LoomOrder) (x2 : Int) : Option (Bool) :=
 Option.bind (α := Bool) (
  bif (decide ((((x0).Widths).length : Int) > (10 : Int))) then
   some (true)
  else
   bif (decide (((x1).length : Int) > x2)) then
    bif (decide (((x1).length : Int) ≤ (7 : Int))) then
     some (true)
    else
     some ((decide (((x1).length : Int) > (10 : Int))))
   else
    some ((decide (((x1).length : Int) > (10 : Int))))
  ) fun z2 =>
 some (z2)
def f15 (x0 : LoomMill) : Option (LoomMill) :=
 (apnd 8 (([] : List Int)) ((x0).Widths)).bind fun y7 =>
 some ({ x0 with Widths := y7 })
theorem en15 : Enters Try.prog 15 := enters_of Try.func15 (by kernel_rfl) rfl
theorem wk15 {gI : Gh} {wI : World} {x0 : LoomMill} {up0 : Value} (rp0 : RV gI.m wI x0 up0) {r : LoomMill} (h : f15 x0 = some r) : Fn Try.prog 15 #[up0] gI wI (fun m w v => RV m w (r) v) := by
 unfold f15 at h
 refine fn_of_E Try.func15 rfl (Nat.le_of_ble_eq_true rfl) fun g0 hm hfr => ?_
 have rp0 : RV g0.m wI x0 up0 := hm ▸ rp0
 show E _ 9 none _ _ _ _ _
 refine Zf (Za (Ze .plain rfl (D_boxO (g := g0) 2001 rfl rp0 fun g1 w1 p1 hs b1 => ?_)))
 have hfr := hfr.stp hs
 refine Ze .plain rfl (D_allocOc (g := g1) 2002 (⟨[], 0⟩ : LoomMill) Try.zeroValue24 (fun m w => ⟨_, (rep_two rep_nil rep_int), rfl⟩) fun g2 w2 p2 hs b2 cb => ?_)
 have hfr := hfr.stp hs
 have b1 := b1.stp hs rfl
 have z2 : OSF 2002 60200 0 g2 w2 3 24 ([] : List Int) p2 := cb.osf (by rfl)
 clear cb
 refine Zb (Zd (Zf (Za (Ze .plain rfl (D_buildSlice (g := g2) 3003 (xs := ([] : List Int)) (vs := []) Try.underlying22 Try.sizeOf3 Try.zeroValue3 rfl rfl .nil RVs.nil rfl rfl fun g3 w3 v3 hs o3 r3 hxt hfl => ?_)))))
 have hfr := hfr.stp hs
 have b1 := b1.stp hs rfl
 have b2 := b2.stp hs rfl
 refine EL_p (fPtr p1 0) (Zc at_24_0 rfl (OB.ptr b1)) rfl ?_
 refine Ze .plain rfl (D_loadF (g := g3) part_LoomMill_0.1 Try.isAgg22 Try.sizeOf22 rfl b1 fun v5 r5 => ?_)
 obtain ⟨y7, o0, h⟩ := bsome h
 refine Ze .plain rfl (D_append (g := g3) (i := 3003) Try.underlying22 info_3 rfl rfl o3 r3 rfl r5 o0 fun g6 w6 v6 hs o6 r6 _ => ?_)
 have hfr := hfr.stp hs
 have b1 := b1.stp hs rfl
 have b2 := b2.stp hs rfl
 refine EL_p (fPtr p1 0) (Zc at_24_0 rfl (OB.ptr b1)) rfl ?_
 refine Ze .plain rfl (D_storeFc (g := g6) part_LoomMill_0 Try.sizeOf22 rfl b1 rfl r6 fun g9 w9 hs b9 rst hos => ?_)
 have d3 := hos _ _ 3003 3 (y7 : List Int) (rv_cells1 r6) rfl o6
 clear rst hos
 have hfr := hfr.stp hs
 have b2 := b2.stp hs rfl
 refine Zb (Zd (Zf (Za (Ze .plain rfl (D_loadO (g := g9) Try.isAgg24 Try.sizeOf24 rfl b9 fun u0 j1 => ?_)))))
 refine Ze .plain rfl (D_storeOc (g := g9) (v := u0) Try.sizeOf24 rfl b2 rfl j1 fun i3 j3 hs b11 cb => ?_)
 clear cb
 have hfr := hfr.stp hs
 refine Zb (Zd (E_ret ?_))
 obtain rfl := sinj h
 obtain ⟨ad12, cv12, hp12, hl12, cr12⟩ := ob_read Try.isAgg24 Try.sizeOf24 b11
 exact endm_c rfl rfl ((show _ = p2 from rfl).trans hp12) hl12 ⟨_, hfr, cr12⟩
def f16 (x0 : List LoomOrder) : Option ((List LoomOrder)) :=
 (apnd 40 (([] : List LoomOrder)) x0).bind fun y3 =>
 some (y3)
theorem en16 : Enters Try.prog 16 := enters_of Try.func16 (by kernel_rfl) rfl
theorem wk16 {gI : Gh} {wI : World} {x0 : List LoomOrder} {up0 : Value} (rp0 : RV gI.m wI x0 up0) {r : (List LoomOrder)} (h : f16 x0 = some r) : Fn Try.prog 16 #[up0] gI wI (fun m w v => RV m w (r) v) := by
 unfold f16 at h
 refine fn_of_E Try.func16 rfl (Nat.le_of_ble_eq_true rfl) fun g0 hm hfr => ?_
 have rp0 : RV g0.m wI x0 up0 := hm ▸ rp0
 show E _ 6 none _ _ _ _ _
 refine Zf (Za (Zg (.slice none 0 0) rfl rfl ?_))
 refine Zb (Zd (Zf (Za (Ze .plain rfl (D_buildSlice (g := g0) 3003 (xs := ([] : List LoomOrder)) (vs := []) Try.underlying25 Try.sizeOf82 Try.zeroValue82 rfl rfl .nil RVs.nil rfl rfl fun g1 w1 v1 hs o1 r1 hxt hfl => ?_)))))
 have hfr := hfr.stp hs
 have rp0 := rp0.stp hs
 refine Zn up0 rfl rfl ?_
 obtain ⟨y3, hy3, h⟩ := bsome h
 refine Ze .plain rfl (D_append (g := g1) (i := 3003) Try.underlying25 info_82 rfl rfl o1 r1 rfl rp0 hy3 fun g2 w2 v2 hs o2 r2 _ => ?_)
 have hfr := hfr.stp hs
 refine Zg v2 rfl rfl ?_
 refine Zb (Zd (E_ret ?_))
 obtain rfl := sinj h
 exact end1 rfl rfl (show _ = v2 from rfl) ⟨_, hfr, r2⟩
def f19 (x0 : List LoomOrder) (x1 : List LoomOrder) : Option (Bool) :=
 jn (σ := Unit) (fun _ =>
  jn (σ := Unit) (fun _ =>
   some (true)
   ) fun k53 =>
  lp (σ := Int) (fun k54 o0 =>
   jn (σ := Unit) (fun _ =>
    jn (σ := Unit) (fun _ =>
     k54 ((w64 (o0 + (1 : Int))))
     ) fun k80 =>
    (idx x0 o0).bind fun y81 =>
    (idx x1 o0).bind fun y84 =>
    bif (!(decide (y81 = y84))) then
     some (false)
    else
     k80 ()
    ) fun k57 =>
   bif (decide (o0 < ((x0).length : Int))) then
    k57 ()
   else
    k53 ()
   ) big ((0 : Int))
  ) fun k2 =>
 bif (((x0).length : Int) != ((x1).length : Int)) then
  some (false)
 else
  k2 ()
def f22 (x0 : List LoomRun) (x1 : List LoomRun) : Option (Bool) :=
 jn (σ := Unit) (fun _ =>
  jn (σ := Unit) (fun _ =>
   some (true)
   ) fun k53 =>
  lp (σ := Int) (fun k54 o0 =>
   jn (σ := Unit) (fun _ =>
    jn (σ := Unit) (fun _ =>
     k54 ((w64 (o0 + (1 : Int))))
     ) fun k80 =>
    (idx x0 o0).bind fun y81 =>
    (idx x1 o0).bind fun y84 =>
    bif (!(decide (y81 = y84))) then
     some (false)
    else
     k80 ()
    ) fun k57 =>
   bif (decide (o0 < ((x0).length : Int))) then
    k57 ()
   else
    k53 ()
   ) big ((0 : Int))
  ) fun k2 =>
 bif (((x0).length : Int) != ((x1).length : Int)) then
  some (false)
 else
  k2 ()
theorem en22 : Enters Try.prog 22 := enters_of Try.func22 (by kernel_rfl) rfl
theorem wk22 {gI : Gh} {wI : World} {x0 : List LoomRun} {x1 : List LoomRun} {up0 : Value} (rp0 : RV gI.m wI x0 up0) {up1 : Value} (rp1 : RV gI.m wI x1 up1) {r : Bool} (h : f22 x0 x1 = some r) : Fn Try.prog 22 #[up0, up1] gI wI (fun _ _ v => v = .bool (r)) := by
 unfold f22 at h
 refine fn_of_E Try.func22 rfl (Nat.le_of_ble_eq_true rfl) fun g0 hm hfr => ?_
 have rp0 : RV g0.m wI x0 up0 := hm ▸ rp0
 have rp1 : RV g0.m wI x1 up1 := hm ▸ rp1
 show E _ 26 none _ _ _ _ _
 refine Zf (Za (Zg (.bool false) rfl rfl ?_))
 refine Zb (Zd (Zq h (fun (s : Unit) e w => ∃ (g : Gh) , Fr gI wI g w ∧ e 0 = up0 ∧ RV g.m w (x0 : List LoomRun) up0 ∧ e 1 = up1 ∧ RV g.m w (x1 : List LoomRun) up1) (fun X2 k2 hk2 h => ?_) ?_))
 ·refine Zf (Za (Zn up0 rfl rfl ?_))
  refine EL_p (.int .i64 ((x0).length : Int)) (P_len Try.underlying31 rfl rp0) rfl ?_
  refine Zn up1 rfl rfl ?_
  refine EL_p (.int .i64 ((x1).length : Int)) (P_len Try.underlying31 rfl rp1) rfl ?_
  refine EL_in (.bool ((((x0).length : Int) != ((x1).length : Int)))) rfl rfl rfl rfl ?_
  refine Zb (Zd ?_)
  rcases Zt h with ⟨hc3, h⟩ | ⟨hc3, h⟩
  ·refine E_ct hc3 rfl ?_
   refine Zf (Za (Zg (.bool false) rfl rfl ?_))
   refine Zb (Zd (E_ret (thn_r ?_)))
   obtain rfl := sinj h
   exact end1 rfl rfl (show _ = .bool false from rfl) ⟨_, hfr, rfl⟩
  ·refine E_cf hc3 rfl ?_
   exact Zu (Zd (hk2 () _ _ ⟨g0, hfr, rfl, rp0, rfl, rp1⟩ h))
 ·rintro _ x8 w4 ⟨g4, hfr, a7, b7, c7, d7⟩ h
  refine Zq h (fun (s : Unit) e w => ∃ (g : Gh) , Fr gI wI g w) (fun X53 k53 e7 h => ?_) ?_
  ·refine Zf (Za (Zg (.int .i64 (0)) rfl rfl ?_))
   refine Zb (Zd (Zr ?_))
   refine E_lp h (fun (s : Int) e w => ∃ (g : Gh) , Fr gI wI g w ∧ e 0 = up0 ∧ RV g.m w (x0 : List LoomRun) up0 ∧ e 1 = up1 ∧ RV g.m w (x1 : List LoomRun) up1 ∧ e 5 = .int .i64 (s)) ⟨g4, hfr, a7, b7, c7, d7, rfl⟩ (fun X54 k54 g7 => ?_)
   rintro o0 o8 y8 ⟨y6, hfr, j3, o3, v6, x6, u3⟩ h
   refine Zq h (fun (s : Unit) e w => ∃ (g : Gh) , Fr gI wI g w ∧ e 0 = up0 ∧ RV g.m w (x0 : List LoomRun) up0 ∧ e 1 = up1 ∧ RV g.m w (x1 : List LoomRun) up1 ∧ e 5 = .int .i64 (o0)) (fun X57 k57 i7 h => ?_) ?_
   ·refine Zf (Za (Zo u3 rfl ?_))
    refine Zo j3 rfl ?_
    refine EL_p (.int .i64 ((x0).length : Int)) (P_len Try.underlying31 rfl o3) rfl ?_
    refine EL_in (.bool ((decide (o0 < ((x0).length : Int))))) rfl rfl rfl rfl ?_
    refine Zb (Zd ?_)
    rcases Zt h with ⟨i3, h⟩ | ⟨i3, h⟩
    ·refine E_ct i3 rfl ?_
     exact Zu (Zd (i7 () _ _ ⟨y6, hfr, j3, o3, v6, x6, u3⟩ h))
    ·refine E_cf i3 rfl ?_
     refine E_exit ?_
     refine thn_e ?_
     refine thn_e ?_
     refine blk_hit ?_
     exact Zd (e7 () _ _ ⟨y6, hfr⟩ h)
   ·rintro _ q8 a9 ⟨u7, hfr, z3, u0, z4, j1, z2⟩ h
    refine Zq h (fun (s : Unit) e w => ∃ (g : Gh) , Fr gI wI g w ∧ e 0 = up0 ∧ RV g.m w (x0 : List LoomRun) up0 ∧ e 1 = up1 ∧ RV g.m w (x1 : List LoomRun) up1 ∧ e 5 = .int .i64 (o0)) (fun X80 k80 j7 h => ?_) ?_
    ·refine Zr ?_
     refine Zf ?_
     obtain ⟨y81, i5, h⟩ := bsome h
     have v7 := PT_idx u0 i5
     refine Zs (x := .tmp 19) Try.isAgg76 Try.sizeOf76 v7 fun c8 e8 m7 => ?_
     obtain ⟨y84, l5, h⟩ := bsome h
     have g8 := PT_idx j1 l5
     refine Zs (x := .tmp 23) Try.isAgg76 Try.sizeOf76 g8 fun i8 k8 n7 => ?_
     refine E_drawL (g := u7) (n := 9) [] [0, 1, 2, 3, 4, 5, 6, 7, 8] rfl mixed (by kernel_rfl) trivial ?_
     refine L_p up0 rfl rfl (Zk z3) ?_
     refine L_p (.int .i64 (o0)) rfl rfl (Zk z2) ?_
     refine L_p (ePtr up0 o0 3) rfl rfl (Zh (α := LoomRun) Try.underlying31 Try.sizeOf76 rfl u0 rfl i5) ?_
     refine L_ld (c := c8) rfl rfl .plain (fun _ _ h => h.ch) m7 rfl ?_
     refine L_p up1 rfl rfl (Zk z4) ?_
     refine L_p (.int .i64 (o0)) rfl rfl (Zk z2) ?_
     refine L_p (ePtr up1 o0 3) rfl rfl (Zh (α := LoomRun) Try.underlying31 Try.sizeOf76 rfl j1 rfl l5) ?_
     refine L_ld (c := i8) rfl rfl .plain (fun _ _ h => h.ch) n7 rfl ?_
     refine L_p (.bool ((!(decide (y81 = y84))))) rfl rfl (P_sne seq_76 rfl eg_76 rfl rfl e8 k8) ?_
     refine L_nl fun l8 d9 hs => ?_
     have hfr := hfr.ext hs
     have u0 := u0.ext hs
     have j1 := j1.ext hs
     clear hs
     refine Zb (Zd ?_)
     rcases Zt h with ⟨d3, h⟩ | ⟨d3, h⟩
     ·refine E_ct d3 rfl ?_
      refine Zf (Za (Zg (.bool false) rfl rfl ?_))
      refine Zb (Zd (E_ret (blk_r ?_)))
      refine thn_r ?_
      refine thn_r ?_
      refine blk_r ?_
      refine thn_r ?_
      obtain rfl := sinj h
      exact end1 rfl rfl (show _ = .bool false from rfl) ⟨_, hfr, rfl⟩
     ·refine E_cf d3 rfl ?_
      exact Zu (blk_n (Zd (j7 () _ _ ⟨l8, hfr, z3, u0, z4, j1, z2⟩ h)))
    ·rintro _ m8 r8 ⟨o7, hfr, q5, t5, x5, i6, j6⟩ h
     refine Za (Zo j6 rfl ?_)
     refine EL_in (.int .i64 ((w64 (o0 + (1 : Int))))) rfl rfl rfl rfl ?_
     refine Zg (.int .i64 ((w64 (o0 + (1 : Int))))) rfl rfl ?_
     exact Zb (Zd (g7 ((w64 (o0 + (1 : Int)))) _ _ ⟨o7, hfr, q5, t5, x5, i6, rfl⟩ h))
  ·rintro _ n8 t8 ⟨v8, hfr⟩ h
   refine Zf (Za (Zg (.bool true) rfl rfl ?_))
   refine Zb (Zd (E_ret ?_))
   obtain rfl := sinj h
   exact end1 rfl rfl (show _ = .bool true from rfl) ⟨_, hfr, rfl⟩
def f28 (x0 : List Int) (x1 : List Int) : Option (Bool) :=
 jn (σ := Unit) (fun _ =>
  jn (σ := Unit) (fun _ =>
   some (true)
   ) fun k53 =>
  lp (σ := Int) (fun k54 o0 =>
   jn (σ := Unit) (fun _ =>
    jn (σ := Unit) (fun _ =>
     k54 ((w64 (o0 + (1 : Int))))
     ) fun k80 =>
    (idx x0 o0).bind fun y81 =>
    (idx x1 o0).bind fun y84 =>
    bif (y81 != y84) then
     some (false)
    else
     k80 ()
    ) fun k57 =>
   bif (decide (o0 < ((x0).length : Int))) then
    k57 ()
   else
    k53 ()
   ) big ((0 : Int))
  ) fun k2 =>
 bif (((x0).length : Int) != ((x1).length : Int)) then
  some (false)
 else
  k2 ()
theorem en28 : Enters Try.prog 28 := enters_of Try.func28 (by kernel_rfl) rfl
theorem wk28 {gI : Gh} {wI : World} {x0 : List Int} {x1 : List Int} {up0 : Value} (rp0 : RV gI.m wI x0 up0) {up1 : Value} (rp1 : RV gI.m wI x1 up1) {r : Bool} (h : f28 x0 x1 = some r) : Fn Try.prog 28 #[up0, up1] gI wI (fun _ _ v => v = .bool (r)) := by
 unfold f28 at h
 refine fn_of_E Try.func28 rfl (Nat.le_of_ble_eq_true rfl) fun g0 hm hfr => ?_
 have rp0 : RV g0.m wI x0 up0 := hm ▸ rp0
 have rp1 : RV g0.m wI x1 up1 := hm ▸ rp1
 show E _ 26 none _ _ _ _ _
 refine Zf (Za (Zg (.bool false) rfl rfl ?_))
 refine Zb (Zd (Zq h (fun (s : Unit) e w => ∃ (g : Gh) , Fr gI wI g w ∧ e 0 = up0 ∧ RV g.m w (x0 : List Int) up0 ∧ e 1 = up1 ∧ RV g.m w (x1 : List Int) up1) (fun X2 k2 hk2 h => ?_) ?_))
 ·refine Zf (Za (Zn up0 rfl rfl ?_))
  refine EL_p (.int .i64 ((x0).length : Int)) (P_len Try.underlying22 rfl rp0) rfl ?_
  refine Zn up1 rfl rfl ?_
  refine EL_p (.int .i64 ((x1).length : Int)) (P_len Try.underlying22 rfl rp1) rfl ?_
  refine EL_in (.bool ((((x0).length : Int) != ((x1).length : Int)))) rfl rfl rfl rfl ?_
  refine Zb (Zd ?_)
  rcases Zt h with ⟨hc3, h⟩ | ⟨hc3, h⟩
  ·refine E_ct hc3 rfl ?_
   refine Zf (Za (Zg (.bool false) rfl rfl ?_))
   refine Zb (Zd (E_ret (thn_r ?_)))
   obtain rfl := sinj h
   exact end1 rfl rfl (show _ = .bool false from rfl) ⟨_, hfr, rfl⟩
  ·refine E_cf hc3 rfl ?_
   exact Zu (Zd (hk2 () _ _ ⟨g0, hfr, rfl, rp0, rfl, rp1⟩ h))
 ·rintro _ t8 w4 ⟨g4, hfr, a7, b7, c7, d7⟩ h
  refine Zq h (fun (s : Unit) e w => ∃ (g : Gh) , Fr gI wI g w) (fun X53 k53 e7 h => ?_) ?_
  ·refine Zf (Za (Zg (.int .i64 (0)) rfl rfl ?_))
   refine Zb (Zd (Zr ?_))
   refine E_lp h (fun (s : Int) e w => ∃ (g : Gh) , Fr gI wI g w ∧ e 0 = up0 ∧ RV g.m w (x0 : List Int) up0 ∧ e 1 = up1 ∧ RV g.m w (x1 : List Int) up1 ∧ e 5 = .int .i64 (s)) ⟨g4, hfr, a7, b7, c7, d7, rfl⟩ (fun X54 k54 g7 => ?_)
   rintro o0 m8 v8 ⟨y6, hfr, j3, o3, v6, x6, u3⟩ h
   refine Zq h (fun (s : Unit) e w => ∃ (g : Gh) , Fr gI wI g w ∧ e 0 = up0 ∧ RV g.m w (x0 : List Int) up0 ∧ e 1 = up1 ∧ RV g.m w (x1 : List Int) up1 ∧ e 5 = .int .i64 (o0)) (fun X57 k57 i7 h => ?_) ?_
   ·refine Zf (Za (Zo u3 rfl ?_))
    refine Zo j3 rfl ?_
    refine EL_p (.int .i64 ((x0).length : Int)) (P_len Try.underlying22 rfl o3) rfl ?_
    refine EL_in (.bool ((decide (o0 < ((x0).length : Int))))) rfl rfl rfl rfl ?_
    refine Zb (Zd ?_)
    rcases Zt h with ⟨i3, h⟩ | ⟨i3, h⟩
    ·refine E_ct i3 rfl ?_
     exact Zu (Zd (i7 () _ _ ⟨y6, hfr, j3, o3, v6, x6, u3⟩ h))
    ·refine E_cf i3 rfl ?_
     refine E_exit ?_
     refine thn_e ?_
     refine thn_e ?_
     refine blk_hit ?_
     exact Zd (e7 () _ _ ⟨y6, hfr⟩ h)
   ·rintro _ n8 x8 ⟨u7, hfr, z3, u0, z4, j1, z2⟩ h
    refine Zq h (fun (s : Unit) e w => ∃ (g : Gh) , Fr gI wI g w ∧ e 0 = up0 ∧ RV g.m w (x0 : List Int) up0 ∧ e 1 = up1 ∧ RV g.m w (x1 : List Int) up1 ∧ e 5 = .int .i64 (o0)) (fun X80 k80 j7 h => ?_) ?_
    ·refine Zr ?_
     refine Zf ?_
     obtain ⟨y81, i5, h⟩ := bsome h
     have v7 := PT_idx u0 i5
     refine Zs (x := .tmp 19) Try.isAgg3 Try.sizeOf3 v7 fun y8 c8 m7 => ?_
     obtain rfl := Zj.1 c8
     obtain ⟨y84, l5, h⟩ := bsome h
     have e8 := PT_idx j1 l5
     refine Zs (x := .tmp 23) Try.isAgg3 Try.sizeOf3 e8 fun a9 g8 n7 => ?_
     obtain rfl := Zj.1 g8
     refine E_drawL (g := u7) (n := 9) [] [0, 1, 2, 3, 4, 5, 6, 7, 8] rfl mixed (by kernel_rfl) trivial ?_
     refine L_p up0 rfl rfl (Zk z3) ?_
     refine L_p (.int .i64 (o0)) rfl rfl (Zk z2) ?_
     refine L_p (ePtr up0 o0 1) rfl rfl (Zh (α := Int) Try.underlying22 Try.sizeOf3 rfl u0 rfl i5) ?_
     refine L_ld (c := .int .i64 (y81)) rfl rfl .plain (fun _ _ h => h.ch) m7 rfl ?_
     refine L_p up1 rfl rfl (Zk z4) ?_
     refine L_p (.int .i64 (o0)) rfl rfl (Zk z2) ?_
     refine L_p (ePtr up1 o0 1) rfl rfl (Zh (α := Int) Try.underlying22 Try.sizeOf3 rfl j1 rfl l5) ?_
     refine L_ld (c := .int .i64 (y84)) rfl rfl .plain (fun _ _ h => h.ch) n7 rfl ?_
     refine L_p (.bool ((y81 != y84))) rfl rfl (P_int rfl rfl rfl) ?_
     refine L_nl fun i8 d9 hs => ?_
     have hfr := hfr.ext hs
     have u0 := u0.ext hs
     have j1 := j1.ext hs
     clear hs
     refine Zb (Zd ?_)
     rcases Zt h with ⟨d3, h⟩ | ⟨d3, h⟩
     ·refine E_ct d3 rfl ?_
      refine Zf (Za (Zg (.bool false) rfl rfl ?_))
      refine Zb (Zd (E_ret (blk_r ?_)))
      refine thn_r ?_
      refine thn_r ?_
      refine blk_r ?_
      refine thn_r ?_
      obtain rfl := sinj h
      exact end1 rfl rfl (show _ = .bool false from rfl) ⟨_, hfr, rfl⟩
     ·refine E_cf d3 rfl ?_
      exact Zu (blk_n (Zd (j7 () _ _ ⟨i8, hfr, z3, u0, z4, j1, z2⟩ h)))
    ·rintro _ k8 o8 ⟨o7, hfr, q5, t5, x5, i6, j6⟩ h
     refine Za (Zo j6 rfl ?_)
     refine EL_in (.int .i64 ((w64 (o0 + (1 : Int))))) rfl rfl rfl rfl ?_
     refine Zg (.int .i64 ((w64 (o0 + (1 : Int))))) rfl rfl ?_
     exact Zb (Zd (g7 ((w64 (o0 + (1 : Int)))) _ _ ⟨o7, hfr, q5, t5, x5, i6, rfl⟩ h))
  ·rintro _ l8 q8 ⟨r8, hfr⟩ h
   refine Zf (Za (Zg (.bool true) rfl rfl ?_))
   refine Zb (Zd (E_ret ?_))
   obtain rfl := sinj h
   exact end1 rfl rfl (show _ = .bool true from rfl) ⟨_, hfr, rfl⟩
def f32 (x0 : List LoomRun) : Option ((List LoomRun)) :=
 (apnd 24 (([] : List LoomRun)) x0).bind fun y3 =>
 some (y3)
theorem en32 : Enters Try.prog 32 := enters_of Try.func32 (by kernel_rfl) rfl
theorem wk32 {gI : Gh} {wI : World} {x0 : List LoomRun} {up0 : Value} (rp0 : RV gI.m wI x0 up0) {r : (List LoomRun)} (h : f32 x0 = some r) : Fn Try.prog 32 #[up0] gI wI (fun m w v => RV m w (r) v) := by
 unfold f32 at h
 refine fn_of_E Try.func32 rfl (Nat.le_of_ble_eq_true rfl) fun g0 hm hfr => ?_
 have rp0 : RV g0.m wI x0 up0 := hm ▸ rp0
 show E _ 6 none _ _ _ _ _
 refine Zf (Za (Zg (.slice none 0 0) rfl rfl ?_))
 refine Zb (Zd (Zf (Za (Ze .plain rfl (D_buildSlice (g := g0) 3003 (xs := ([] : List LoomRun)) (vs := []) Try.underlying31 Try.sizeOf76 Try.zeroValue76 rfl rfl .nil RVs.nil rfl rfl fun g1 w1 v1 hs o1 r1 hxt hfl => ?_)))))
 have hfr := hfr.stp hs
 have rp0 := rp0.stp hs
 refine Zn up0 rfl rfl ?_
 obtain ⟨y3, hy3, h⟩ := bsome h
 refine Ze .plain rfl (D_append (g := g1) (i := 3003) Try.underlying31 info_76 rfl rfl o1 r1 rfl rp0 hy3 fun g2 w2 v2 hs o2 r2 _ => ?_)
 have hfr := hfr.stp hs
 refine Zg v2 rfl rfl ?_
 refine Zb (Zd (E_ret ?_))
 obtain rfl := sinj h
 exact end1 rfl rfl (show _ = v2 from rfl) ⟨_, hfr, r2⟩
def f36 (x0 : Int) (x1 : Int) (x2 : Int) : Option (Bool) :=
 Option.bind (α := Bool) (
  bif (decide (x0 ≥ x1)) then
   some ((decide (x0 ≤ x2)))
  else
   some (false)
  ) fun o0 =>
 some (o0)
def f42 (x0 : List LoomOrder) (x1 : List Int) : Option ((List LoomOrder) × (List LoomOrder) × Bool) :=
 jn (σ := (List LoomOrder) × (List LoomOrder)) (fun (jA, kA) =>
  Option.bind (α := (List LoomOrder) × (List LoomOrder)) (
   lp (σ := (List LoomOrder) × (List LoomOrder) × Int × Int) (fun vC (x6, y6, d3, z2) =>
    jn (σ := Unit) (fun _ =>
     Option.bind (α := (List LoomOrder) × (List LoomOrder) × Int) (
      Option.bind (α := Bool) (
       bif (decide (d3 < ((x1).length : Int))) then
        (idx x1 d3).bind fun l9 =>
        some ((l9 == z2))
       else
        some (false)
       ) fun o7 =>
      bif o7 then
       (idx x0 z2).bind fun oB =>
       (apnd 40 y6 (([oB] : List LoomOrder))).bind fun xC =>
       some (x6, xC, (w64 (d3 + (1 : Int))))
      else
       (idx x0 z2).bind fun tB =>
       (apnd 40 x6 (([tB] : List LoomOrder))).bind fun yC =>
       some (yC, y6, d3)
      ) fun (c8, e8, k8) =>
     vC (c8, e8, k8, (w64 (z2 + (1 : Int))))
     ) fun aD =>
    bif (decide (z2 < ((x0).length : Int))) then
     aD ()
    else
     some (x6, y6)
    ) big (jA, kA, (0 : Int), (0 : Int))
   ) fun (l8, m8) =>
  some (l8, m8, true)
  ) fun gG =>
 lp (σ := (List LoomOrder) × (List LoomOrder) × Int) (fun hG (i7, j7, o0) =>
  jn (σ := Unit) (fun _ =>
   jn (σ := (List LoomOrder) × (List LoomOrder)) (fun (e9, i9) =>
    hG (e9, i9, (w64 (o0 + (1 : Int))))
    ) fun iG =>
   Option.bind (α := Bool) (
    (idx x1 o0).bind fun u3 =>
    bif (decide (u3 < (0 : Int))) then
     some (true)
    else
     (idx x1 o0).bind fun z3 =>
     bif (decide (z3 ≥ ((x0).length : Int))) then
      some (true)
     else
      bif (decide (o0 > (0 : Int))) then
       (idx x1 o0).bind fun n8 =>
       (idx x1 (w64 (o0 - (1 : Int)))).bind fun o8 =>
       some ((decide (n8 ≤ o8)))
      else
       some (false)
    ) fun u7 =>
   bif u7 then
    some ([], [], false)
   else
    iG (i7, j7)
   ) fun jG =>
  bif (decide (o0 < ((x1).length : Int))) then
   jG ()
  else
   gG (i7, j7)
  ) big ([], [], (0 : Int))
def f43 (x0 : LoomRun) (z0 : LoomStop) (z1 : List LoomOrder) : Option (Bool) :=
 Option.bind (α := Bool) (
  bif ((x0).Loom == (z0).Loom) then
   bif (decide ((x0).From ≤ ((z0).Days).High)) then
    (idx z1 (x0).Order).bind fun j1 =>
    some ((decide ((w64 ((x0).From + (j1).Woven)) > ((z0).Days).Low)))
   else
    some (false)
  else
   some (false)
  ) fun z2 =>
 some (z2)
theorem en43 : Enters Try.prog 43 := enters_of Try.func43 (by kernel_rfl) rfl
theorem wk43 {gI : Gh} {wI : World} {x0 : LoomRun} {z0 : LoomStop} {z1 : List LoomOrder} {up0 : Value} (rp0 : RV gI.m wI x0 up0) {pf0 : Value} (qf0 : PT gI.m wI z0 pf0) {pf1 : Value} (qf1 : PT gI.m wI z1 pf1) {r : Bool} (h : f43 x0 z0 z1 = some r) : Fn Try.prog 43 #[up0, pf0, pf1] gI wI (fun _ _ v => v = .bool (r)) := by
 unfold f43 at h
 refine fn_of_E Try.func43 rfl (Nat.le_of_ble_eq_true rfl) fun g0 hm hfr => ?_
 have qf0 : PT g0.m wI z0 pf0 := hm ▸ qf0
 have qf1 : PT g0.m wI z1 pf1 := hm ▸ qf1
 have rp0 : RV g0.m wI x0 up0 := hm ▸ rp0
 show E _ 33 none _ _ _ _ _
 refine Zf (Za (Ze .plain rfl (D_box (g := g0) rfl rp0 fun g1 w1 p1 hs q1 => ?_)))
 have hfr := hfr.ext hs
 have qf0 := qf0.ext hs
 have qf1 := qf1.ext hs
 refine Zg (.bool false) rfl rfl ?_
 refine Zb (Zd ?_)
 obtain ⟨z2, hx, h⟩ := bsome h
 refine E_join (fun e w => ∃ (g : Gh) , Fr gI wI g w ∧ e 4 = .bool (z2)) (fun Q' hQ => ?_) (fun l8 m8 hR => ?_)
 ·replace h := hx
  clear hx
  have y6 := Zm (part_LoomRun_1).1 q1
  refine Zs (x := .tmp 5) Try.isAgg3 Try.sizeOf3 y6 fun n8 a7 d3 => ?_
  obtain rfl := Zj.1 a7
  have b7 := Zm (part_LoomStop_0).1 qf0
  refine Zs (x := .tmp 7) Try.isAgg3 Try.sizeOf3 b7 fun o8 c7 i3 => ?_
  obtain rfl := Zj.1 c7
  rcases Zt h with ⟨o0, h⟩ | ⟨o0, h⟩
  ·have d7 := Zm (part_LoomRun_2).1 q1
   refine Zs (x := .tmp 11) Try.isAgg3 Try.sizeOf3 d7 fun q8 e7 u3 => ?_
   obtain rfl := Zj.1 e7
   have j3 := Zm (part_LoomStop_1).1 qf0
   have g7 := Zm (part_Span_1).1 j3
   refine Zs (x := .tmp 14) Try.isAgg3 Try.sizeOf3 g7 fun r8 i7 z3 => ?_
   obtain rfl := Zj.1 i7
   rcases Zt h with ⟨u0, h⟩ | ⟨u0, h⟩
   ·have j7 := Zm (part_LoomRun_2).1 q1
    refine Zs (x := .tmp 19) Try.isAgg3 Try.sizeOf3 j7 fun t8 m7 x5 => ?_
    obtain rfl := Zj.1 m7
    refine Zs (x := .tmp 2) Try.isAgg25 Try.sizeOf25 qf1 fun o3 i5 i6 => ?_
    have n7 := Zm (part_LoomRun_0).1 q1
    refine Zs (x := .tmp 22) Try.isAgg3 Try.sizeOf3 n7 fun v8 o7 j6 => ?_
    obtain rfl := Zj.1 o7
    obtain ⟨j1, z4, h⟩ := bsome h
    have l5 := PT_idx i5 z4
    have u7 := Zm (part_LoomOrder_2).1 l5
    refine Zs (x := .tmp 25) Try.isAgg3 Try.sizeOf3 u7 fun x8 v7 v6 => ?_
    obtain rfl := Zj.1 v7
    have q5 := Zm (part_LoomStop_1).1 qf0
    have c8 := Zm (part_Span_0).1 q5
    refine Zs (x := .tmp 29) Try.isAgg3 Try.sizeOf3 c8 fun y8 e8 x6 => ?_
    obtain rfl := Zj.1 e8
    refine E_drawL (g := g1) (n := 29) [] [0, 1, 2, 3, 4, 5, 6, 7, 8, 9, 10, 11, 12, 13, 14, 15, 16, 17, 18, 19, 20, 21, 22, 23, 24, 25, 26, 27, 28] rfl mixed (by kernel_rfl) trivial ?_
    refine L_p (fPtr p1 1) rfl rfl (Zc at_76_1 rfl (PT.ptr q1)) ?_
    refine L_ld (c := .int .i64 ((x0).Loom)) rfl rfl .plain (fun _ _ h => h.ch) d3 rfl ?_
    refine L_p (fPtr pf0 0) rfl rfl (Zc at_54_0 rfl (PT.ptr qf0)) ?_
    refine L_ld (c := .int .i64 ((z0).Loom)) rfl rfl .plain (fun _ _ h => h.ch) i3 rfl ?_
    refine L_p (.bool (((x0).Loom == (z0).Loom))) rfl rfl (P_int rfl rfl rfl) ?_
    refine L_p (.bool (((x0).Loom == (z0).Loom))) rfl rfl (Zk rfl) ?_
    refine L_y (fPtr p1 2) rfl rfl rfl rfl o0 (Zc at_76_2 rfl (PT.ptr q1)) ?_
    refine L_ld (c := .int .i64 ((x0).From)) rfl rfl (.yes2 rfl rfl o0) (fun _ _ h => h.ch) u3 rfl ?_
    refine L_y (fPtr pf0 1) rfl rfl rfl rfl o0 (Zc at_54_1 rfl (PT.ptr qf0)) ?_
    refine L_y (fPtr (fPtr pf0 1) 1) rfl rfl rfl rfl o0 (Zc at_48_1 rfl (PT.ptr j3)) ?_
    refine L_ld (c := .int .i64 (((z0).Days).High)) rfl rfl (.yes2 rfl rfl o0) (fun _ _ h => h.ch) z3 rfl ?_
    refine L_y (.bool ((decide ((x0).From ≤ ((z0).Days).High)))) rfl rfl rfl rfl o0 (P_int rfl rfl rfl) ?_
    refine L_p (.bool ((decide ((x0).From ≤ ((z0).Days).High)))) rfl rfl (Zl (b := ((x0).Loom == (z0).Loom)) rfl (pick_t o0 rfl)) ?_
    refine L_p (.bool ((decide ((x0).From ≤ ((z0).Days).High)))) rfl rfl (Zk rfl) ?_
    refine L_y (fPtr p1 2) rfl rfl rfl rfl u0 (Zc at_76_2 rfl (PT.ptr q1)) ?_
    refine L_ld (c := .int .i64 ((x0).From)) rfl rfl (.yes2 rfl rfl u0) (fun _ _ h => h.ch) x5 rfl ?_
    refine L_ld (c := o3) rfl rfl (.yes2 rfl rfl u0) (fun _ _ h => h.ch) i6 rfl ?_
    refine L_y (fPtr p1 0) rfl rfl rfl rfl u0 (Zc at_76_0 rfl (PT.ptr q1)) ?_
    refine L_ld (c := .int .i64 ((x0).Order)) rfl rfl (.yes2 rfl rfl u0) (fun _ _ h => h.ch) j6 rfl ?_
    refine L_y (ePtr o3 (x0).Order 5) rfl rfl rfl rfl u0 (Zh (α := LoomOrder) Try.underlying25 Try.sizeOf82 rfl i5 rfl z4) ?_
    refine L_y (fPtr (ePtr o3 (x0).Order 5) 2) rfl rfl rfl rfl u0 (Zc at_82_2 rfl (PT.ptr l5)) ?_
    refine L_ld (c := .int .i64 ((j1).Woven)) rfl rfl (.yes2 rfl rfl u0) (fun _ _ h => h.ch) v6 rfl ?_
    refine L_y (.int .i64 ((w64 ((x0).From + (j1).Woven)))) rfl rfl rfl rfl u0 (P_int rfl rfl rfl) ?_
    refine L_y (fPtr pf0 1) rfl rfl rfl rfl u0 (Zc at_54_1 rfl (PT.ptr qf0)) ?_
    refine L_y (fPtr (fPtr pf0 1) 0) rfl rfl rfl rfl u0 (Zc at_48_0 rfl (PT.ptr q5)) ?_
    refine L_ld (c := .int .i64 (((z0).Days).Low)) rfl rfl (.yes2 rfl rfl u0) (fun _ _ h => h.ch) x6 rfl ?_
    refine L_y (.bool ((decide ((w64 ((x0).From + (j1).Woven)) > ((z0).Days).Low)))) rfl rfl rfl rfl u0 (P_int rfl rfl rfl) ?_
    refine L_p (.bool ((decide ((w64 ((x0).From + (j1).Woven)) > ((z0).Days).Low)))) rfl rfl (Zl (b := (decide ((x0).From ≤ ((z0).Days).High))) rfl (pick_t u0 rfl)) ?_
    refine L_p (.bool ((decide ((w64 ((x0).From + (j1).Woven)) > ((z0).Days).Low)))) rfl rfl (P_assign rfl) ?_
    refine L_nl fun g8 a9 hs => ?_
    have hfr := hfr.ext hs
    clear hs
    refine Zb ?_
    obtain rfl := sinj h
    exact hQ _ _ ⟨g8, hfr, rfl⟩
   ·refine E_drawL (g := g1) (n := 29) [] [0, 1, 2, 3, 4, 5, 6, 7, 8, 9, 10, 11, 12, 13, 14, 15, 16, 17, 18, 19, 20, 21, 22, 23, 24, 25, 26, 27, 28] rfl mixed (by kernel_rfl) trivial ?_
    refine L_p (fPtr p1 1) rfl rfl (Zc at_76_1 rfl (PT.ptr q1)) ?_
    refine L_ld (c := .int .i64 ((x0).Loom)) rfl rfl .plain (fun _ _ h => h.ch) d3 rfl ?_
    refine L_p (fPtr pf0 0) rfl rfl (Zc at_54_0 rfl (PT.ptr qf0)) ?_
    refine L_ld (c := .int .i64 ((z0).Loom)) rfl rfl .plain (fun _ _ h => h.ch) i3 rfl ?_
    refine L_p (.bool (((x0).Loom == (z0).Loom))) rfl rfl (P_int rfl rfl rfl) ?_
    refine L_p (.bool (((x0).Loom == (z0).Loom))) rfl rfl (Zk rfl) ?_
    refine L_y (fPtr p1 2) rfl rfl rfl rfl o0 (Zc at_76_2 rfl (PT.ptr q1)) ?_
    refine L_ld (c := .int .i64 ((x0).From)) rfl rfl (.yes2 rfl rfl o0) (fun _ _ h => h.ch) u3 rfl ?_
    refine L_y (fPtr pf0 1) rfl rfl rfl rfl o0 (Zc at_54_1 rfl (PT.ptr qf0)) ?_
    refine L_y (fPtr (fPtr pf0 1) 1) rfl rfl rfl rfl o0 (Zc at_48_1 rfl (PT.ptr j3)) ?_
    refine L_ld (c := .int .i64 (((z0).Days).High)) rfl rfl (.yes2 rfl rfl o0) (fun _ _ h => h.ch) z3 rfl ?_
    refine L_y (.bool ((decide ((x0).From ≤ ((z0).Days).High)))) rfl rfl rfl rfl o0 (P_int rfl rfl rfl) ?_
    refine L_p (.bool ((decide ((x0).From ≤ ((z0).Days).High)))) rfl rfl (Zl (b := ((x0).Loom == (z0).Loom)) rfl (pick_t o0 rfl)) ?_
    refine L_p (.bool ((decide ((x0).From ≤ ((z0).Days).High)))) rfl rfl (Zk rfl) ?_
    iterate 13 refine L_s rfl rfl rfl u0 rfl ?_
    refine L_p (.bool false) rfl rfl (Zl (b := (decide ((x0).From ≤ ((z0).Days).High))) rfl (pick_f u0 rfl)) ?_
    refine L_p (.bool false) rfl rfl (P_assign rfl) ?_
    refine L_nl fun i8 d9 hs => ?_
    have hfr := hfr.ext hs
    clear hs
    refine Zb ?_
    obtain rfl := sinj h
    exact hQ _ _ ⟨i8, hfr, rfl⟩
  ·refine E_drawL (g := g1) (n := 29) [] [0, 1, 2, 3, 4, 5, 6, 7, 8, 9, 10, 11, 12, 13, 14, 15, 16, 17, 18, 19, 20, 21, 22, 23, 24, 25, 26, 27, 28] rfl mixed (by kernel_rfl) trivial ?_
   refine L_p (fPtr p1 1) rfl rfl (Zc at_76_1 rfl (PT.ptr q1)) ?_
   refine L_ld (c := .int .i64 ((x0).Loom)) rfl rfl .plain (fun _ _ h => h.ch) d3 rfl ?_
   refine L_p (fPtr pf0 0) rfl rfl (Zc at_54_0 rfl (PT.ptr qf0)) ?_
   refine L_ld (c := .int .i64 ((z0).Loom)) rfl rfl .plain (fun _ _ h => h.ch) i3 rfl ?_
   refine L_p (.bool (((x0).Loom == (z0).Loom))) rfl rfl (P_int rfl rfl rfl) ?_
   refine L_p (.bool (((x0).Loom == (z0).Loom))) rfl rfl (Zk rfl) ?_
   iterate 6 refine L_s rfl rfl rfl o0 rfl ?_
   refine L_p (.bool false) rfl rfl (Zl (b := ((x0).Loom == (z0).Loom)) rfl (pick_f o0 rfl)) ?_
   refine L_dead (fun _ => rfl) 15 rfl ?_
   refine L_p (.bool false) rfl rfl (P_assign rfl) ?_
   refine L_nl fun k8 e9 hs => ?_
   have hfr := hfr.ext hs
   clear hs
   refine Zb ?_
   obtain rfl := sinj h
   exact hQ _ _ ⟨k8, hfr, rfl⟩
 ·clear hx
  obtain ⟨i9, hfr, t5⟩ := hR
  refine E_ret ?_
  obtain rfl := sinj h
  exact end1 rfl rfl (show _ = .bool (z2) from t5) ⟨_, hfr, rfl⟩
def f44 (x0 : LoomMill) (x1 : List LoomOrder) (x2 : List LoomRun) : Option (Bool) :=
 jn (σ := Unit) (fun _ =>
  some (true)
  ) fun uE =>
 lp (σ := Int) (fun vE d3 =>
  jn (σ := Unit) (fun _ =>
   jn (σ := Unit) (fun _ =>
    vE ((w64 (d3 + (1 : Int))))
    ) fun xE =>
   lp (σ := Int) (fun yE j3 =>
    jn (σ := Unit) (fun _ =>
     jn (σ := Unit) (fun _ =>
      yE ((w64 (j3 + (1 : Int))))
      ) fun tD =>
     (idx x2 d3).bind fun o0 =>
     (idx x2 j3).bind fun u0 =>
     jn (σ := Unit) (fun _ =>
      Option.bind (α := Bool) (
       lp (σ := Bool × Int) (fun zE (l5, o3) =>
        jn (σ := Unit) (fun _ =>
         Option.bind (α := Bool) (
          (idx x2 o3).bind fun z2 =>
          bif l5 then
           some (true)
          else
           bif (o3 != d3) then
            bif (o3 != j3) then
             bif ((z2).Loom == (o0).Loom) then
              bif (decide ((z2).From > (o0).From)) then
               bif (decide ((z2).From < (u0).From)) then
                some (true)
               else
                bif ((z2).From == (u0).From) then
                 some ((decide ((z2).Order < (u0).Order)))
                else
                 some (false)
              else
               bif ((z2).From == (o0).From) then
                bif (decide ((z2).Order > (o0).Order)) then
                 bif (decide ((z2).From < (u0).From)) then
                  some (true)
                 else
                  bif ((z2).From == (u0).From) then
                   some ((decide ((z2).Order < (u0).Order)))
                  else
                   some (false)
                else
                 some (false)
               else
                some (false)
             else
              some (false)
            else
             some (false)
           else
            some (false)
          ) fun y9 =>
         zE (y9, (w64 (o3 + (1 : Int))))
         ) fun cF =>
        bif (decide (o3 < ((x2).length : Int))) then
         cF ()
        else
         some (l5)
        ) big (false, (0 : Int))
       ) fun i7 =>
      (idx x1 (o0).Order).bind fun l9 =>
      Option.bind (α := Int) (
       Option.bind (α := Bool) (
        bif (!i7) then
         (idx x1 (o0).Order).bind fun iA =>
         (idx x1 (u0).Order).bind fun jA =>
         some (((iA).Chain != (jA).Chain))
        else
         some (false)
        ) fun k9 =>
       bif k9 then
        some ((w64 ((w64 ((o0).From + (l9).Woven)) + (x0).Change)))
       else
        some ((w64 ((o0).From + (l9).Woven)))
       ) fun z9 =>
      bif (decide ((u0).From < z9)) then
       some (false)
      else
       tD ()
      ) fun dF =>
     Option.bind (α := Bool) (
      bif (d3 == j3) then
       some (true)
      else
       bif ((o0).Loom != (u0).Loom) then
        some (true)
       else
        bif (decide ((o0).From > (u0).From)) then
         some (true)
        else
         bif ((o0).From == (u0).From) then
          some ((decide ((o0).Order > (u0).Order)))
         else
          some (false)
      ) fun n9 =>
     bif n9 then
      tD ()
     else
      dF ()
     ) fun eF =>
    bif (decide (j3 < ((x2).length : Int))) then
     eF ()
    else
     xE ()
    ) big ((0 : Int))
   ) fun iF =>
  bif (decide (d3 < ((x2).length : Int))) then
   iF ()
  else
   uE ()
  ) big ((0 : Int))
theorem en44 : Enters Try.prog 44 := enters_of Try.func44 (by kernel_rfl) rfl
theorem wk44 {gI : Gh} {wI : World} {x0 : LoomMill} {x1 : List LoomOrder} {x2 : List LoomRun} {up0 : Value} (rp0 : RV gI.m wI x0 up0) {up1 : Value} (rp1 : RV gI.m wI x1 up1) {up2 : Value} (rp2 : RV gI.m wI x2 up2) {r : Bool} (h : f44 x0 x1 x2 = some r) : Fn Try.prog 44 #[up0, up1, up2] gI wI (fun _ _ v => v = .bool (r)) := by
 unfold f44 at h
 refine fn_of_E Try.func44 rfl (Nat.le_of_ble_eq_true rfl) fun g0 hm hfr => ?_
 have rp0 : RV g0.m wI x0 up0 := hm ▸ rp0
 have rp1 : RV g0.m wI x1 up1 := hm ▸ rp1
 have rp2 : RV g0.m wI x2 up2 := hm ▸ rp2
 show E _ 170 none _ _ _ _ _
 refine Zf (Za (Ze .plain rfl (D_box (g := g0) rfl rp0 fun g1 w1 p1 hs q1 => ?_)))
 have hfr := hfr.ext hs
 have rp1 := rp1.ext hs
 have rp2 := rp2.ext hs
 refine Zg (.bool false) rfl rfl ?_
 refine Zb (Zd (Zq h (fun (s : Unit) e w => ∃ (g : Gh) , Fr gI wI g w) (fun X2946 uE rI h => ?_) ?_))
 ·refine Zf (Za (Zg (.int .i64 (0)) rfl rfl ?_))
  refine Zb (Zd (Zr ?_))
  refine E_lp h (fun (s : Int) e w => ∃ (g : Gh) , Fr gI wI g w ∧ e 1 = up1 ∧ RV g.m w (x1 : List LoomOrder) up1 ∧ e 2 = up2 ∧ RV g.m w (x2 : List LoomRun) up2 ∧ e 3 = p1 ∧ PT g.m w (x0 : LoomMill) p1 ∧ e 7 = .int .i64 (s)) ⟨g1, hfr, rfl, rp1, rfl, rp2, rfl, q1, rfl⟩ (fun X2947 vE sI => ?_)
  rintro d3 eM xM ⟨nF, hfr, cG, dG, oB, tB, eG, gG, vB⟩ h
  refine Zq h (fun (s : Unit) e w => ∃ (g : Gh) , Fr gI wI g w ∧ e 1 = up1 ∧ RV g.m w (x1 : List LoomOrder) up1 ∧ e 2 = up2 ∧ RV g.m w (x2 : List LoomRun) up2 ∧ e 3 = p1 ∧ PT g.m w (x0 : LoomMill) p1 ∧ e 7 = .int .i64 (d3)) (fun X2950 iF tI h => ?_) ?_
  ·refine Zf (Za (Zo vB rfl ?_))
   refine Zo oB rfl ?_
   refine EL_p (.int .i64 ((x2).length : Int)) (P_len Try.underlying31 rfl tB) rfl ?_
   refine EL_in (.bool ((decide (d3 < ((x2).length : Int))))) rfl rfl rfl rfl ?_
   refine Zb (Zd ?_)
   rcases Zt h with ⟨sA, h⟩ | ⟨sA, h⟩
   ·refine E_ct sA rfl ?_
    exact Zu (Zd (tI () _ _ ⟨nF, hfr, cG, dG, oB, tB, eG, gG, vB⟩ h))
   ·refine E_cf sA rfl ?_
    refine E_exit ?_
    refine thn_e ?_
    refine thn_e ?_
    refine blk_hit ?_
    exact Zd (rI () _ _ ⟨nF, hfr⟩ h)
  ·rintro _ gM yM ⟨mJ, hfr, hG, iG, jG, kG, lG, mG, nG⟩ h
   refine Zq h (fun (s : Unit) e w => ∃ (g : Gh) , Fr gI wI g w ∧ e 1 = up1 ∧ RV g.m w (x1 : List LoomOrder) up1 ∧ e 2 = up2 ∧ RV g.m w (x2 : List LoomRun) up2 ∧ e 3 = p1 ∧ PT g.m w (x0 : LoomMill) p1 ∧ e 7 = .int .i64 (d3)) (fun X4421 xE uI h => ?_) ?_
   ·refine Zr ?_
    refine Zf (Za (Zg (.int .i64 (0)) rfl rfl ?_))
    refine Zb (Zd (Zr ?_))
    refine E_lp h (fun (s : Int) e w => ∃ (g : Gh) , Fr gI wI g w ∧ e 1 = up1 ∧ RV g.m w (x1 : List LoomOrder) up1 ∧ e 2 = up2 ∧ RV g.m w (x2 : List LoomRun) up2 ∧ e 3 = p1 ∧ PT g.m w (x0 : LoomMill) p1 ∧ e 7 = .int .i64 (d3) ∧ e 8 = .int .i64 (s)) ⟨mJ, hfr, hG, iG, jG, kG, lG, mG, nG, rfl⟩ (fun X4422 yE vI => ?_)
    rintro j3 iM zM ⟨oF, hfr, xB, yB, lA, mA, zB, aC, cC, dC⟩ h
    refine Zq h (fun (s : Unit) e w => ∃ (g : Gh) , Fr gI wI g w ∧ e 1 = up1 ∧ RV g.m w (x1 : List LoomOrder) up1 ∧ e 2 = up2 ∧ RV g.m w (x2 : List LoomRun) up2 ∧ e 3 = p1 ∧ PT g.m w (x0 : LoomMill) p1 ∧ e 7 = .int .i64 (d3) ∧ e 8 = .int .i64 (j3)) (fun X4425 eF xI h => ?_) ?_
    ·refine Zf (Za (Zo dC rfl ?_))
     refine Zo lA rfl ?_
     refine EL_p (.int .i64 ((x2).length : Int)) (P_len Try.underlying31 rfl mA) rfl ?_
     refine EL_in (.bool ((decide (j3 < ((x2).length : Int))))) rfl rfl rfl rfl ?_
     refine Zb (Zd ?_)
     rcases Zt h with ⟨uA, h⟩ | ⟨uA, h⟩
     ·refine E_ct uA rfl ?_
      exact Zu (Zd (xI () _ _ ⟨oF, hfr, xB, yB, lA, mA, zB, aC, cC, dC⟩ h))
     ·refine E_cf uA rfl ?_
      refine E_exit ?_
      refine thn_e ?_
      refine thn_e ?_
      refine blk_hit ?_
      exact blk_n (Zd (uI () _ _ ⟨oF, hfr, xB, yB, lA, mA, zB, aC, cC⟩ h))
    ·rintro _ jM nJ ⟨pF, hfr, o9, e8, a9, x6, t9, g8, d9, e9⟩ h
     refine Zq h (fun (s : Unit) e w => ∃ (g : Gh) , Fr gI wI g w ∧ e 1 = up1 ∧ RV g.m w (x1 : List LoomOrder) up1 ∧ e 2 = up2 ∧ RV g.m w (x2 : List LoomRun) up2 ∧ e 3 = p1 ∧ PT g.m w (x0 : LoomMill) p1 ∧ e 7 = .int .i64 (d3) ∧ e 8 = .int .i64 (j3)) (fun X5158 tD yD h => ?_) ?_
     ·refine Zr ?_
      refine Zf ?_
      obtain ⟨o0, zD, h⟩ := bsome h
      have oJ := PT_idx x6 zD
      refine Zs (x := .tmp 29) Try.isAgg76 Try.sizeOf76 oJ fun qF uD yI => ?_
      obtain ⟨u0, aE, h⟩ := bsome h
      have pJ := PT_idx x6 aE
      refine Zs (x := .tmp 33) Try.isAgg76 Try.sizeOf76 pJ fun rF kA zI => ?_
      refine E_drawTL (g := pF) (n := 10) [4, 5, 6, 7] [(8, (fun v g w => OB 2009 g w 76 (⟨0, 0, 0⟩ : LoomRun) v)), (9, (fun v g w => OB 2010 g w 76 (⟨0, 0, 0⟩ : LoomRun) v))] [0, 1, 2, 3, 4, 5, 6, 7, 8, 9] rfl mixed (by kernel_rfl) (⟨fun _ => up_ob, fun _ => up_ob, trivial⟩) rfl ?_
      refine L_p up2 rfl rfl (Zk a9) ?_
      refine L_p (.int .i64 (d3)) rfl rfl (Zk d9) ?_
      refine L_p (ePtr up2 d3 3) rfl rfl (Zh (α := LoomRun) Try.underlying31 Try.sizeOf76 rfl x6 rfl zD) ?_
      refine L_ld (c := qF) rfl rfl .plain (fun _ _ h => h.ch) yI rfl ?_
      refine L_purL (c := up2) rfl rfl .plain (Zk a9) ?_
      refine L_purL (c := .int .i64 (j3)) rfl rfl .plain (Zk e9) ?_
      refine L_purL (c := ePtr up2 j3 3) rfl rfl .plain (Zh (α := LoomRun) Try.underlying31 Try.sizeOf76 rfl x6 rfl aE) ?_
      refine L_ldL (c := rF) rfl rfl .plain (fun _ _ h => h.ch) rfl zI rfl ?_
      refine L_do (φ := fun v g w => OB 2009 g w 76 (⟨0, 0, 0⟩ : LoomRun) v) rfl rfl .plain (fun g w hd => D_allocX (g := g) 2009 (⟨0, 0, 0⟩ : LoomRun) Try.zeroValue76 (fun m w => ⟨_, (rep_two rep_int (rep_two rep_int rep_int)), rfl⟩) fun g' w' v hs b => ⟨g', hs, b⟩) (fun x5 hv => ?_)
      clear hv
      refine L_do (φ := fun v g w => OB 2010 g w 76 (⟨0, 0, 0⟩ : LoomRun) v) rfl rfl .plain (fun g w hd => D_allocX (g := g) 2010 (⟨0, 0, 0⟩ : LoomRun) Try.zeroValue76 (fun m w => ⟨_, (rep_two rep_int (rep_two rep_int rep_int)), rfl⟩) fun g' w' v hs b => ⟨g', hs, b⟩) (fun i5 hv => ?_)
      clear hv
      refine L_nil fun sF qJ hall => ?_
      have hs := hall.1
      have hlt : Lt pF.m nJ sF qJ := hs.ch
      have hfr := hfr.ext hs
      have e8 := e8.ext hs
      have x6 := x6.ext hs
      have g8 := g8.ext hs
      have uD := uD.ext hs
      have kA := kA.ext hs
      have b5181 := (word_all (A := fun g w => OB 2009 g w 76 (⟨0, 0, 0⟩ : LoomRun) x5) 8 rfl hall)
      have b5182 := (word_all (A := fun g w => OB 2010 g w 76 (⟨0, 0, 0⟩ : LoomRun) i5) 9 rfl hall)
      clear hs hall
      refine TL_do hlt.w .plain rfl (D_storeOc (g := sF) (v := qF) Try.sizeOf76 rfl b5181 rfl uD fun rJ bN hs b5183 cb => ?_)
      clear cb
      have hfr := hfr.stp hs
      have hlt := hlt.stp hs
      have e8 := e8.stp hs
      have x6 := x6.stp hs
      have g8 := g8.stp hs
      have kA := kA.stp hs
      have b5182 := b5182.stp hs rfl
      refine TL_do hlt.w .plain rfl (D_storeOc (g := rJ) (v := rF) Try.sizeOf76 rfl b5182 rfl kA fun i8 cN hs b5184 cb => ?_)
      clear cb
      have hfr := hfr.stp hs
      have hlt := hlt.stp hs
      have e8 := e8.stp hs
      have x6 := x6.stp hs
      have g8 := g8.stp hs
      have b5183 := b5183.stp hs rfl
      refine TL_nil hlt.w ?_
      clear hlt
      refine Zd (Zq h (fun (s : Unit) e w => ∃ (g : Gh) , Fr gI wI g w ∧ e 1 = up1 ∧ RV g.m w (x1 : List LoomOrder) up1 ∧ e 2 = up2 ∧ RV g.m w (x2 : List LoomRun) up2 ∧ e 3 = p1 ∧ PT g.m w (x0 : LoomMill) p1 ∧ e 7 = .int .i64 (d3) ∧ e 8 = .int .i64 (j3) ∧ e 9 = x5 ∧ OB 2009 g w 76 (o0 : LoomRun) x5 ∧ e 10 = i5 ∧ OB 2010 g w 76 (u0 : LoomRun) i5) (fun X5227 dF aJ h => ?_) ?_)
      ·obtain ⟨n9, hx, h⟩ := bsome h
       refine E_join (fun e w => ∃ (g : Gh) , Fr gI wI g w ∧ e 1 = up1 ∧ RV g.m w (x1 : List LoomOrder) up1 ∧ e 2 = up2 ∧ RV g.m w (x2 : List LoomRun) up2 ∧ e 3 = p1 ∧ PT g.m w (x0 : LoomMill) p1 ∧ e 7 = .int .i64 (d3) ∧ e 8 = .int .i64 (j3) ∧ e 9 = x5 ∧ OB 2009 g w 76 (o0 : LoomRun) x5 ∧ e 10 = i5 ∧ OB 2010 g w 76 (u0 : LoomRun) i5 ∧ e 65 = .bool (n9)) (fun Q' hQ => ?_) (fun kM dN hR => ?_)
       ·replace h := hx
        clear hx
        refine Za (Zo d9 rfl ?_)
        refine Zo e9 rfl ?_
        refine EL_in (.bool ((d3 == j3))) rfl rfl rfl rfl ?_
        refine Zn (.bool ((d3 == j3))) rfl rfl ?_
        rcases Zt h with ⟨k8, h⟩ | ⟨k8, h⟩
        ·refine EL_s rfl rfl k8 rfl rfl ?_
         iterate 4 refine EL_s rfl rfl k8 rfl rfl ?_
         refine EL_p (.bool true) (Zl (b := (d3 == j3)) rfl (pick_t k8 rfl)) rfl ?_
         refine EL_dead 21 rfl ?_
         refine Zb ?_
         obtain rfl := sinj h
         exact hQ _ _ ⟨i8, hfr, o9, e8, a9, x6, t9, g8, d9, e9, rfl, b5183, rfl, b5184, rfl⟩
        ·refine EL_y (fPtr x5 1) (Zc at_76_1 rfl (OB.ptr b5183)) rfl rfl k8 rfl ?_
         refine Ze (.yes2 rfl rfl k8) rfl (D_loadF (g := i8) part_LoomRun_1.1 Try.isAgg3 Try.sizeOf3 rfl b5183 fun eN sJ => ?_)
         obtain rfl := Zj.1 sJ
         refine EL_y (fPtr i5 1) (Zc at_76_1 rfl (OB.ptr b5184)) rfl rfl k8 rfl ?_
         refine Ze (.yes2 rfl rfl k8) rfl (D_loadF (g := i8) part_LoomRun_1.1 Try.isAgg3 Try.sizeOf3 rfl b5184 fun gN tJ => ?_)
         obtain rfl := Zj.1 tJ
         refine EL_y (.bool (((o0).Loom != (u0).Loom))) (P_int rfl rfl rfl) rfl rfl k8 rfl ?_
         refine EL_p (.bool (((o0).Loom != (u0).Loom))) (Zl (b := (d3 == j3)) rfl (pick_f k8 rfl)) rfl ?_
         refine Zn (.bool (((o0).Loom != (u0).Loom))) rfl rfl ?_
         rcases Zt h with ⟨l8, h⟩ | ⟨l8, h⟩
         ·refine EL_s rfl rfl l8 rfl rfl ?_
          iterate 4 refine EL_s rfl rfl l8 rfl rfl ?_
          refine EL_p (.bool true) (Zl (b := ((o0).Loom != (u0).Loom)) rfl (pick_t l8 rfl)) rfl ?_
          refine EL_dead 14 rfl ?_
          refine Zb ?_
          obtain rfl := sinj h
          exact hQ _ _ ⟨i8, hfr, o9, e8, a9, x6, t9, g8, d9, e9, rfl, b5183, rfl, b5184, rfl⟩
         ·refine EL_y (fPtr x5 2) (Zc at_76_2 rfl (OB.ptr b5183)) rfl rfl l8 rfl ?_
          refine Ze (.yes2 rfl rfl l8) rfl (D_loadF (g := i8) part_LoomRun_2.1 Try.isAgg3 Try.sizeOf3 rfl b5183 fun iN uJ => ?_)
          obtain rfl := Zj.1 uJ
          refine EL_y (fPtr i5 2) (Zc at_76_2 rfl (OB.ptr b5184)) rfl rfl l8 rfl ?_
          refine Ze (.yes2 rfl rfl l8) rfl (D_loadF (g := i8) part_LoomRun_2.1 Try.isAgg3 Try.sizeOf3 rfl b5184 fun jN vJ => ?_)
          obtain rfl := Zj.1 vJ
          refine EL_y (.bool ((decide ((o0).From > (u0).From)))) (P_int rfl rfl rfl) rfl rfl l8 rfl ?_
          refine EL_p (.bool ((decide ((o0).From > (u0).From)))) (Zl (b := ((o0).Loom != (u0).Loom)) rfl (pick_f l8 rfl)) rfl ?_
          refine Zn (.bool ((decide ((o0).From > (u0).From)))) rfl rfl ?_
          rcases Zt h with ⟨j7, h⟩ | ⟨j7, h⟩
          ·refine EL_s rfl rfl j7 rfl rfl ?_
           iterate 5 refine EL_s rfl rfl j7 rfl rfl ?_
           refine EL_dead 5 rfl ?_
           refine EL_s rfl rfl j7 rfl rfl ?_
           refine EL_p (.bool true) (Zl (b := (decide ((o0).From > (u0).From))) rfl (pick_t j7 rfl)) rfl ?_
           refine Zb ?_
           obtain rfl := sinj h
           exact hQ _ _ ⟨i8, hfr, o9, e8, a9, x6, t9, g8, d9, e9, rfl, b5183, rfl, b5184, rfl⟩
          ·refine EL_y (fPtr x5 2) (Zc at_76_2 rfl (OB.ptr b5183)) rfl rfl j7 rfl ?_
           refine Ze (.yes2 rfl rfl j7) rfl (D_loadF (g := i8) part_LoomRun_2.1 Try.isAgg3 Try.sizeOf3 rfl b5183 fun kN xJ => ?_)
           obtain rfl := Zj.1 xJ
           refine EL_y (fPtr i5 2) (Zc at_76_2 rfl (OB.ptr b5184)) rfl rfl j7 rfl ?_
           refine Ze (.yes2 rfl rfl j7) rfl (D_loadF (g := i8) part_LoomRun_2.1 Try.isAgg3 Try.sizeOf3 rfl b5184 fun lN yJ => ?_)
           obtain rfl := Zj.1 yJ
           refine EL_y (.bool (((o0).From == (u0).From))) (P_int rfl rfl rfl) rfl rfl j7 rfl ?_
           refine EL_y (.bool (((o0).From == (u0).From))) (Zk rfl) rfl rfl j7 rfl ?_
           rcases Zt h with ⟨m8, h⟩ | ⟨m8, h⟩
           ·refine EL_y (fPtr x5 0) (Zc at_76_0 rfl (OB.ptr b5183)) rfl rfl m8 rfl ?_
            refine Ze (.yes2 rfl rfl m8) rfl (D_loadF (g := i8) part_LoomRun_0.1 Try.isAgg3 Try.sizeOf3 rfl b5183 fun mN zJ => ?_)
            obtain rfl := Zj.1 zJ
            refine EL_y (fPtr i5 0) (Zc at_76_0 rfl (OB.ptr b5184)) rfl rfl m8 rfl ?_
            refine Ze (.yes2 rfl rfl m8) rfl (D_loadF (g := i8) part_LoomRun_0.1 Try.isAgg3 Try.sizeOf3 rfl b5184 fun nN aK => ?_)
            obtain rfl := Zj.1 aK
            refine EL_y (.bool ((decide ((o0).Order > (u0).Order)))) (P_int rfl rfl rfl) rfl rfl m8 rfl ?_
            refine EL_y (.bool ((decide ((o0).Order > (u0).Order)))) (Zl (b := ((o0).From == (u0).From)) rfl (pick_t m8 rfl)) rfl rfl j7 rfl ?_
            refine EL_p (.bool ((decide ((o0).Order > (u0).Order)))) (Zl (b := (decide ((o0).From > (u0).From))) rfl (pick_f j7 rfl)) rfl ?_
            refine Zb ?_
            obtain rfl := sinj h
            exact hQ _ _ ⟨i8, hfr, o9, e8, a9, x6, t9, g8, d9, e9, rfl, b5183, rfl, b5184, rfl⟩
           ·refine EL_s rfl rfl m8 rfl rfl ?_
            iterate 4 refine EL_s rfl rfl m8 rfl rfl ?_
            refine EL_y (.bool false) (Zl (b := ((o0).From == (u0).From)) rfl (pick_f m8 rfl)) rfl rfl j7 rfl ?_
            refine EL_p (.bool false) (Zl (b := (decide ((o0).From > (u0).From))) rfl (pick_f j7 rfl)) rfl ?_
            refine Zb ?_
            obtain rfl := sinj h
            exact hQ _ _ ⟨i8, hfr, o9, e8, a9, x6, t9, g8, d9, e9, rfl, b5183, rfl, b5184, rfl⟩
       ·clear hx
        obtain ⟨tF, hfr, eC, iC, jC, kC, lC, mC, qC, rC, oG, pG, gE, iE, xA⟩ := hR
        rcases Zt h with ⟨yA, h⟩ | ⟨yA, h⟩
        ·refine E_cond_true (Eq.trans (show ev _ _ = .bool (n9) from xA) (congrArg Value.bool yA)) ?_
         refine E_exit ?_
         refine thn_e ?_
         refine blk_hit ?_
         exact Zd (yD () _ _ ⟨tF, hfr, eC, iC, jC, kC, lC, mC, qC, rC⟩ h)
        ·refine E_cond_false (Eq.trans (show ev _ _ = .bool (n9) from xA) (congrArg Value.bool yA)) ?_
         exact Zu (Zd (aJ () _ _ ⟨tF, hfr, eC, iC, jC, kC, lC, mC, qC, rC, oG, pG, gE, iE⟩ h))
      ·rintro _ mM oN ⟨bK, hfr, qG, rG, sG, tG, uG, vG, xG, yG, zG, aH, jE, kE⟩ h
       refine Zf (Za (Zg (.bool false) rfl rfl ?_))
       refine Zb (Zd ?_)
       obtain ⟨i7, hx, h⟩ := bsome h
       refine E_join (fun e w => ∃ (g : Gh) , Fr gI wI g w ∧ e 1 = up1 ∧ RV g.m w (x1 : List LoomOrder) up1 ∧ e 2 = up2 ∧ RV g.m w (x2 : List LoomRun) up2 ∧ e 3 = p1 ∧ PT g.m w (x0 : LoomMill) p1 ∧ e 7 = .int .i64 (d3) ∧ e 8 = .int .i64 (j3) ∧ e 9 = x5 ∧ OB 2009 g w 76 (o0 : LoomRun) x5 ∧ e 10 = i5 ∧ OB 2010 g w 76 (u0 : LoomRun) i5 ∧ e 11 = .bool (i7)) (fun Q' hQ => ?_) (fun nM pN hR => ?_)
       ·replace h := hx
        clear hx
        refine Zf (Za (Zg (.int .i64 (0)) rfl rfl ?_))
        refine Zb (Zd (Zr ?_))
        refine E_lp h (fun (s : Bool × Int) e w => ∃ (g : Gh) , Fr gI wI g w ∧ e 1 = up1 ∧ RV g.m w (x1 : List LoomOrder) up1 ∧ e 2 = up2 ∧ RV g.m w (x2 : List LoomRun) up2 ∧ e 3 = p1 ∧ PT g.m w (x0 : LoomMill) p1 ∧ e 7 = .int .i64 (d3) ∧ e 8 = .int .i64 (j3) ∧ e 9 = x5 ∧ OB 2009 g w 76 (o0 : LoomRun) x5 ∧ e 10 = i5 ∧ OB 2010 g w 76 (u0 : LoomRun) i5 ∧ e 11 = .bool (s.1) ∧ e 12 = .int .i64 (s.2)) ⟨bK, hfr, qG, rG, sG, tG, uG, vG, xG, yG, zG, aH, jE, kE, rfl, rfl⟩ (fun X5390 zE bJ => ?_)
        rintro ⟨l5, o3⟩ oM qN ⟨uF, hfr, tC, uC, nA, oA, vC, xC, yC, aD, bD, cD, zA, aB, bB, cB⟩ h
        refine Zq h (fun (s : Unit) e w => ∃ (g : Gh) , Fr gI wI g w ∧ e 1 = up1 ∧ RV g.m w (x1 : List LoomOrder) up1 ∧ e 2 = up2 ∧ RV g.m w (x2 : List LoomRun) up2 ∧ e 3 = p1 ∧ PT g.m w (x0 : LoomMill) p1 ∧ e 7 = .int .i64 (d3) ∧ e 8 = .int .i64 (j3) ∧ e 9 = x5 ∧ OB 2009 g w 76 (o0 : LoomRun) x5 ∧ e 10 = i5 ∧ OB 2010 g w 76 (u0 : LoomRun) i5 ∧ e 11 = .bool (l5) ∧ e 12 = .int .i64 (o3)) (fun X5393 cF cJ h => ?_) ?_
        ·refine Zf (Za (Zo cB rfl ?_))
         refine Zo nA rfl ?_
         refine EL_p (.int .i64 ((x2).length : Int)) (P_len Try.underlying31 rfl oA) rfl ?_
         refine EL_in (.bool ((decide (o3 < ((x2).length : Int))))) rfl rfl rfl rfl ?_
         refine Zb (Zd ?_)
         rcases Zt h with ⟨dB, h⟩ | ⟨dB, h⟩
         ·refine E_ct dB rfl ?_
          exact Zu (Zd (cJ () _ _ ⟨uF, hfr, tC, uC, nA, oA, vC, xC, yC, aD, bD, cD, zA, aB, bB, cB⟩ h))
         ·refine E_cf dB rfl ?_
          refine E_exit ?_
          refine thn_e ?_
          refine thn_e ?_
          refine blk_hit ?_
          obtain rfl := sinj h
          exact hQ _ _ ⟨uF, hfr, tC, uC, nA, oA, vC, xC, yC, aD, bD, cD, zA, aB, bB⟩
        ·rintro _ pM rN ⟨vF, hfr, u7, i6, d7, q5, v7, j6, e7, g7, v6, u3, z4, i3, lE, t5⟩ h
         obtain ⟨y9, hx, h⟩ := bsome h
         refine E_join (fun e w => ∃ (g : Gh) , Fr gI wI g w ∧ e 1 = up1 ∧ RV g.m w (x1 : List LoomOrder) up1 ∧ e 2 = up2 ∧ RV g.m w (x2 : List LoomRun) up2 ∧ e 3 = p1 ∧ PT g.m w (x0 : LoomMill) p1 ∧ e 7 = .int .i64 (d3) ∧ e 8 = .int .i64 (j3) ∧ e 9 = x5 ∧ OB 2009 g w 76 (o0 : LoomRun) x5 ∧ e 10 = i5 ∧ OB 2010 g w 76 (u0 : LoomRun) i5 ∧ e 11 = .bool (y9) ∧ e 12 = .int .i64 (o3)) (fun Q' hQ => ?_) (fun qM sN hR => ?_)
         ·replace h := hx
          clear hx
          refine Zr ?_
          refine Zf (Za (Zo d7 rfl ?_))
          refine Zo t5 rfl ?_
          obtain ⟨z2, bE, h⟩ := bsome h
          refine EL_p (ePtr up2 o3 3) (Zh (α := LoomRun) Try.underlying31 Try.sizeOf76 rfl q5 rfl bE) rfl ?_
          have cK := PT_idx q5 bE
          refine Ze .plain rfl (D_load (g := vF) Try.isAgg76 Try.sizeOf76 rfl cK fun dK vD => ?_)
          refine Ze .plain rfl (D_allocOc (g := vF) 2013 (⟨0, 0, 0⟩ : LoomRun) Try.zeroValue76 (fun m w => ⟨_, (rep_two rep_int (rep_two rep_int rep_int)), rfl⟩) fun eK tN i9 hs b5455 cb => ?_)
          have hfr := hfr.stp hs
          have i6 := i6.stp hs
          have q5 := q5.stp hs
          have j6 := j6.stp hs
          have u3 := u3.stp hs rfl
          have i3 := i3.stp hs rfl
          have vD := vD.stp hs
          clear cb
          refine Ze .plain rfl (D_storeOc (g := eK) (v := dK) Try.sizeOf76 rfl b5455 rfl vD fun z3 uN hs b5456 cb => ?_)
          clear cb
          have hfr := hfr.stp hs
          have i6 := i6.stp hs
          have q5 := q5.stp hs
          have j6 := j6.stp hs
          have u3 := u3.stp hs rfl
          have i3 := i3.stp hs rfl
          refine Zb (Zd (Za (Zo lE rfl ?_)))
          refine Zn (.bool (l5)) rfl rfl ?_
          rcases Zt h with ⟨j1, h⟩ | ⟨j1, h⟩
          ·refine EL_s rfl rfl j1 rfl rfl ?_
           iterate 3 refine EL_s rfl rfl j1 rfl rfl ?_
           refine EL_dead 3 rfl ?_
           refine EL_s rfl rfl j1 rfl rfl ?_
           refine EL_s rfl rfl j1 rfl rfl ?_
           refine EL_dead 5 rfl ?_
           refine EL_s rfl rfl j1 rfl rfl ?_
           refine EL_s rfl rfl j1 rfl rfl ?_
           refine EL_dead 19 rfl ?_
           refine EL_s rfl rfl j1 rfl rfl ?_
           refine EL_s rfl rfl j1 rfl rfl ?_
           refine EL_dead 19 rfl ?_
           refine EL_s rfl rfl j1 rfl rfl ?_
           refine EL_p (.bool true) (Zl (b := l5) rfl (pick_t j1 rfl)) rfl ?_
           refine Zg (.bool true) rfl rfl ?_
           refine Zb (blk_n ?_)
           obtain rfl := sinj h
           exact hQ _ _ ⟨z3, hfr, u7, i6, d7, q5, v7, j6, e7, g7, v6, u3, z4, i3, rfl, t5⟩
          ·refine EL_y (.int .i64 (o3)) (Zk t5) rfl rfl j1 rfl ?_
           refine EL_y (.int .i64 (d3)) (Zk e7) rfl rfl j1 rfl ?_
           refine EL_y (.bool ((o3 != d3))) (P_int rfl rfl rfl) rfl rfl j1 rfl ?_
           refine EL_y (.bool ((o3 != d3))) (Zk rfl) rfl rfl j1 rfl ?_
           rcases Zt h with ⟨y8, h⟩ | ⟨y8, h⟩
           ·refine EL_y (.int .i64 (o3)) (Zk t5) rfl rfl y8 rfl ?_
            refine EL_y (.int .i64 (j3)) (Zk g7) rfl rfl y8 rfl ?_
            refine EL_y (.bool ((o3 != j3))) (P_int rfl rfl rfl) rfl rfl y8 rfl ?_
            refine EL_y (.bool ((o3 != j3))) (Zl (b := (o3 != d3)) rfl (pick_t y8 rfl)) rfl rfl j1 rfl ?_
            refine EL_y (.bool ((o3 != j3))) (Zk rfl) rfl rfl j1 rfl ?_
            rcases Zt h with ⟨n8, h⟩ | ⟨n8, h⟩
            ·refine EL_y (fPtr i9 1) (Zc at_76_1 rfl (OB.ptr b5456)) rfl rfl n8 rfl ?_
             refine Ze (.yes2 rfl rfl n8) rfl (D_loadF (g := z3) part_LoomRun_1.1 Try.isAgg3 Try.sizeOf3 rfl b5456 fun vN lK => ?_)
             obtain rfl := Zj.1 lK
             refine EL_y (fPtr x5 1) (Zc at_76_1 v6 (OB.ptr u3)) rfl rfl n8 rfl ?_
             refine Ze (.yes2 rfl rfl n8) rfl (D_loadF (g := z3) part_LoomRun_1.1 Try.isAgg3 Try.sizeOf3 rfl u3 fun xN mK => ?_)
             obtain rfl := Zj.1 mK
             refine EL_y (.bool (((z2).Loom == (o0).Loom))) (P_int rfl rfl rfl) rfl rfl n8 rfl ?_
             refine EL_y (.bool (((z2).Loom == (o0).Loom))) (Zl (b := (o3 != j3)) rfl (pick_t n8 rfl)) rfl rfl j1 rfl ?_
             refine EL_y (.bool (((z2).Loom == (o0).Loom))) (Zk rfl) rfl rfl j1 rfl ?_
             rcases Zt h with ⟨y6, h⟩ | ⟨y6, h⟩
             ·refine EL_y (fPtr i9 2) (Zc at_76_2 rfl (OB.ptr b5456)) rfl rfl y6 rfl ?_
              refine Ze (.yes2 rfl rfl y6) rfl (D_loadF (g := z3) part_LoomRun_2.1 Try.isAgg3 Try.sizeOf3 rfl b5456 fun yN nK => ?_)
              obtain rfl := Zj.1 nK
              refine EL_y (fPtr x5 2) (Zc at_76_2 v6 (OB.ptr u3)) rfl rfl y6 rfl ?_
              refine Ze (.yes2 rfl rfl y6) rfl (D_loadF (g := z3) part_LoomRun_2.1 Try.isAgg3 Try.sizeOf3 rfl u3 fun zN oK => ?_)
              obtain rfl := Zj.1 oK
              refine EL_y (.bool ((decide ((z2).From > (o0).From)))) (P_int rfl rfl rfl) rfl rfl y6 rfl ?_
              refine EL_y (.bool ((decide ((z2).From > (o0).From)))) (Zk rfl) rfl rfl y6 rfl ?_
              rcases Zt h with ⟨m7, h⟩ | ⟨m7, h⟩
              ·refine EL_s rfl rfl m7 rfl rfl ?_
               iterate 5 refine EL_s rfl rfl m7 rfl rfl ?_
               refine EL_dead 5 rfl ?_
               refine EL_s rfl rfl m7 rfl rfl ?_
               refine EL_y (.bool true) (Zl (b := (decide ((z2).From > (o0).From))) rfl (pick_t m7 rfl)) rfl rfl y6 rfl ?_
               refine EL_y (.bool true) (Zl (b := ((z2).Loom == (o0).Loom)) rfl (pick_t y6 rfl)) rfl rfl j1 rfl ?_
               refine EL_y (.bool true) (Zk rfl) rfl rfl j1 rfl ?_
               refine EL_y (fPtr i9 2) (Zc at_76_2 rfl (OB.ptr b5456)) rfl rfl rfl rfl ?_
               refine Ze (.yes2 rfl rfl rfl) rfl (D_loadF (g := z3) part_LoomRun_2.1 Try.isAgg3 Try.sizeOf3 rfl b5456 fun aO pK => ?_)
               obtain rfl := Zj.1 pK
               refine EL_y (fPtr i5 2) (Zc at_76_2 z4 (OB.ptr i3)) rfl rfl rfl rfl ?_
               refine Ze (.yes2 rfl rfl rfl) rfl (D_loadF (g := z3) part_LoomRun_2.1 Try.isAgg3 Try.sizeOf3 rfl i3 fun bO qK => ?_)
               obtain rfl := Zj.1 qK
               refine EL_y (.bool ((decide ((z2).From < (u0).From)))) (P_int rfl rfl rfl) rfl rfl rfl rfl ?_
               refine EL_y (.bool ((decide ((z2).From < (u0).From)))) (Zk rfl) rfl rfl rfl rfl ?_
               rcases Zt h with ⟨n7, h⟩ | ⟨n7, h⟩
               ·refine EL_s rfl rfl n7 rfl rfl ?_
                iterate 5 refine EL_s rfl rfl n7 rfl rfl ?_
                refine EL_dead 5 rfl ?_
                refine EL_s rfl rfl n7 rfl rfl ?_
                refine EL_y (.bool true) (Zl (b := (decide ((z2).From < (u0).From))) rfl (pick_t n7 rfl)) rfl rfl rfl rfl ?_
                refine EL_y (.bool true) (Zl (b := true) rfl (pick_t rfl rfl)) rfl rfl j1 rfl ?_
                refine EL_p (.bool true) (Zl (b := l5) rfl (pick_f j1 rfl)) rfl ?_
                refine Zg (.bool true) rfl rfl ?_
                refine Zb (blk_n ?_)
                obtain rfl := sinj h
                exact hQ _ _ ⟨z3, hfr, u7, i6, d7, q5, v7, j6, e7, g7, v6, u3, z4, i3, rfl, t5⟩
               ·refine EL_y (fPtr i9 2) (Zc at_76_2 rfl (OB.ptr b5456)) rfl rfl n7 rfl ?_
                refine Ze (.yes2 rfl rfl n7) rfl (D_loadF (g := z3) part_LoomRun_2.1 Try.isAgg3 Try.sizeOf3 rfl b5456 fun cO sK => ?_)
                obtain rfl := Zj.1 sK
                refine EL_y (fPtr i5 2) (Zc at_76_2 z4 (OB.ptr i3)) rfl rfl n7 rfl ?_
                refine Ze (.yes2 rfl rfl n7) rfl (D_loadF (g := z3) part_LoomRun_2.1 Try.isAgg3 Try.sizeOf3 rfl i3 fun dO tK => ?_)
                obtain rfl := Zj.1 tK
                refine EL_y (.bool (((z2).From == (u0).From))) (P_int rfl rfl rfl) rfl rfl n7 rfl ?_
                refine EL_y (.bool (((z2).From == (u0).From))) (Zk rfl) rfl rfl n7 rfl ?_
                rcases Zt h with ⟨o8, h⟩ | ⟨o8, h⟩
                ·refine EL_y (fPtr i9 0) (Zc at_76_0 rfl (OB.ptr b5456)) rfl rfl o8 rfl ?_
                 refine Ze (.yes2 rfl rfl o8) rfl (D_loadF (g := z3) part_LoomRun_0.1 Try.isAgg3 Try.sizeOf3 rfl b5456 fun eO uK => ?_)
                 obtain rfl := Zj.1 uK
                 refine EL_y (fPtr i5 0) (Zc at_76_0 z4 (OB.ptr i3)) rfl rfl o8 rfl ?_
                 refine Ze (.yes2 rfl rfl o8) rfl (D_loadF (g := z3) part_LoomRun_0.1 Try.isAgg3 Try.sizeOf3 rfl i3 fun gO vK => ?_)
                 obtain rfl := Zj.1 vK
                 refine EL_y (.bool ((decide ((z2).Order < (u0).Order)))) (P_int rfl rfl rfl) rfl rfl o8 rfl ?_
                 refine EL_y (.bool ((decide ((z2).Order < (u0).Order)))) (Zl (b := ((z2).From == (u0).From)) rfl (pick_t o8 rfl)) rfl rfl n7 rfl ?_
                 refine EL_y (.bool ((decide ((z2).Order < (u0).Order)))) (Zl (b := (decide ((z2).From < (u0).From))) rfl (pick_f n7 rfl)) rfl rfl rfl rfl ?_
                 refine EL_y (.bool ((decide ((z2).Order < (u0).Order)))) (Zl (b := true) rfl (pick_t rfl rfl)) rfl rfl j1 rfl ?_
                 refine EL_p (.bool ((decide ((z2).Order < (u0).Order)))) (Zl (b := l5) rfl (pick_f j1 rfl)) rfl ?_
                 refine Zg (.bool ((decide ((z2).Order < (u0).Order)))) rfl rfl ?_
                 refine Zb (blk_n ?_)
                 obtain rfl := sinj h
                 exact hQ _ _ ⟨z3, hfr, u7, i6, d7, q5, v7, j6, e7, g7, v6, u3, z4, i3, rfl, t5⟩
                ·refine EL_s rfl rfl o8 rfl rfl ?_
                 iterate 4 refine EL_s rfl rfl o8 rfl rfl ?_
                 refine EL_y (.bool false) (Zl (b := ((z2).From == (u0).From)) rfl (pick_f o8 rfl)) rfl rfl n7 rfl ?_
                 refine EL_y (.bool false) (Zl (b := (decide ((z2).From < (u0).From))) rfl (pick_f n7 rfl)) rfl rfl rfl rfl ?_
                 refine EL_y (.bool false) (Zl (b := true) rfl (pick_t rfl rfl)) rfl rfl j1 rfl ?_
                 refine EL_p (.bool false) (Zl (b := l5) rfl (pick_f j1 rfl)) rfl ?_
                 refine Zg (.bool false) rfl rfl ?_
                 refine Zb (blk_n ?_)
                 obtain rfl := sinj h
                 exact hQ _ _ ⟨z3, hfr, u7, i6, d7, q5, v7, j6, e7, g7, v6, u3, z4, i3, rfl, t5⟩
              ·refine EL_y (fPtr i9 2) (Zc at_76_2 rfl (OB.ptr b5456)) rfl rfl m7 rfl ?_
               refine Ze (.yes2 rfl rfl m7) rfl (D_loadF (g := z3) part_LoomRun_2.1 Try.isAgg3 Try.sizeOf3 rfl b5456 fun iO xK => ?_)
               obtain rfl := Zj.1 xK
               refine EL_y (fPtr x5 2) (Zc at_76_2 v6 (OB.ptr u3)) rfl rfl m7 rfl ?_
               refine Ze (.yes2 rfl rfl m7) rfl (D_loadF (g := z3) part_LoomRun_2.1 Try.isAgg3 Try.sizeOf3 rfl u3 fun jO yK => ?_)
               obtain rfl := Zj.1 yK
               refine EL_y (.bool (((z2).From == (o0).From))) (P_int rfl rfl rfl) rfl rfl m7 rfl ?_
               refine EL_y (.bool (((z2).From == (o0).From))) (Zk rfl) rfl rfl m7 rfl ?_
               rcases Zt h with ⟨q8, h⟩ | ⟨q8, h⟩
               ·refine EL_y (fPtr i9 0) (Zc at_76_0 rfl (OB.ptr b5456)) rfl rfl q8 rfl ?_
                refine Ze (.yes2 rfl rfl q8) rfl (D_loadF (g := z3) part_LoomRun_0.1 Try.isAgg3 Try.sizeOf3 rfl b5456 fun kO zK => ?_)
                obtain rfl := Zj.1 zK
                refine EL_y (fPtr x5 0) (Zc at_76_0 v6 (OB.ptr u3)) rfl rfl q8 rfl ?_
                refine Ze (.yes2 rfl rfl q8) rfl (D_loadF (g := z3) part_LoomRun_0.1 Try.isAgg3 Try.sizeOf3 rfl u3 fun lO aL => ?_)
                obtain rfl := Zj.1 aL
                refine EL_y (.bool ((decide ((z2).Order > (o0).Order)))) (P_int rfl rfl rfl) rfl rfl q8 rfl ?_
                refine EL_y (.bool ((decide ((z2).Order > (o0).Order)))) (Zl (b := ((z2).From == (o0).From)) rfl (pick_t q8 rfl)) rfl rfl m7 rfl ?_
                refine EL_y (.bool ((decide ((z2).Order > (o0).Order)))) (Zl (b := (decide ((z2).From > (o0).From))) rfl (pick_f m7 rfl)) rfl rfl y6 rfl ?_
                refine EL_y (.bool ((decide ((z2).Order > (o0).Order)))) (Zl (b := ((z2).Loom == (o0).Loom)) rfl (pick_t y6 rfl)) rfl rfl j1 rfl ?_
                refine EL_y (.bool ((decide ((z2).Order > (o0).Order)))) (Zk rfl) rfl rfl j1 rfl ?_
                rcases Zt h with ⟨a7, h⟩ | ⟨a7, h⟩
                ·refine EL_y (fPtr i9 2) (Zc at_76_2 rfl (OB.ptr b5456)) rfl rfl a7 rfl ?_
                 refine Ze (.yes2 rfl rfl a7) rfl (D_loadF (g := z3) part_LoomRun_2.1 Try.isAgg3 Try.sizeOf3 rfl b5456 fun mO bL => ?_)
                 obtain rfl := Zj.1 bL
                 refine EL_y (fPtr i5 2) (Zc at_76_2 z4 (OB.ptr i3)) rfl rfl a7 rfl ?_
                 refine Ze (.yes2 rfl rfl a7) rfl (D_loadF (g := z3) part_LoomRun_2.1 Try.isAgg3 Try.sizeOf3 rfl i3 fun nO cL => ?_)
                 obtain rfl := Zj.1 cL
                 refine EL_y (.bool ((decide ((z2).From < (u0).From)))) (P_int rfl rfl rfl) rfl rfl a7 rfl ?_
                 refine EL_y (.bool ((decide ((z2).From < (u0).From)))) (Zk rfl) rfl rfl a7 rfl ?_
                 rcases Zt h with ⟨o7, h⟩ | ⟨o7, h⟩
                 ·refine EL_s rfl rfl o7 rfl rfl ?_
                  iterate 5 refine EL_s rfl rfl o7 rfl rfl ?_
                  refine EL_dead 5 rfl ?_
                  refine EL_s rfl rfl o7 rfl rfl ?_
                  refine EL_y (.bool true) (Zl (b := (decide ((z2).From < (u0).From))) rfl (pick_t o7 rfl)) rfl rfl a7 rfl ?_
                  refine EL_y (.bool true) (Zl (b := (decide ((z2).Order > (o0).Order))) rfl (pick_t a7 rfl)) rfl rfl j1 rfl ?_
                  refine EL_p (.bool true) (Zl (b := l5) rfl (pick_f j1 rfl)) rfl ?_
                  refine Zg (.bool true) rfl rfl ?_
                  refine Zb (blk_n ?_)
                  obtain rfl := sinj h
                  exact hQ _ _ ⟨z3, hfr, u7, i6, d7, q5, v7, j6, e7, g7, v6, u3, z4, i3, rfl, t5⟩
                 ·refine EL_y (fPtr i9 2) (Zc at_76_2 rfl (OB.ptr b5456)) rfl rfl o7 rfl ?_
                  refine Ze (.yes2 rfl rfl o7) rfl (D_loadF (g := z3) part_LoomRun_2.1 Try.isAgg3 Try.sizeOf3 rfl b5456 fun oO dL => ?_)
                  obtain rfl := Zj.1 dL
                  refine EL_y (fPtr i5 2) (Zc at_76_2 z4 (OB.ptr i3)) rfl rfl o7 rfl ?_
                  refine Ze (.yes2 rfl rfl o7) rfl (D_loadF (g := z3) part_LoomRun_2.1 Try.isAgg3 Try.sizeOf3 rfl i3 fun pO eL => ?_)
                  obtain rfl := Zj.1 eL
                  refine EL_y (.bool (((z2).From == (u0).From))) (P_int rfl rfl rfl) rfl rfl o7 rfl ?_
                  refine EL_y (.bool (((z2).From == (u0).From))) (Zk rfl) rfl rfl o7 rfl ?_
                  rcases Zt h with ⟨r8, h⟩ | ⟨r8, h⟩
                  ·refine EL_y (fPtr i9 0) (Zc at_76_0 rfl (OB.ptr b5456)) rfl rfl r8 rfl ?_
                   refine Ze (.yes2 rfl rfl r8) rfl (D_loadF (g := z3) part_LoomRun_0.1 Try.isAgg3 Try.sizeOf3 rfl b5456 fun qO gL => ?_)
                   obtain rfl := Zj.1 gL
                   refine EL_y (fPtr i5 0) (Zc at_76_0 z4 (OB.ptr i3)) rfl rfl r8 rfl ?_
                   refine Ze (.yes2 rfl rfl r8) rfl (D_loadF (g := z3) part_LoomRun_0.1 Try.isAgg3 Try.sizeOf3 rfl i3 fun rO iL => ?_)
                   obtain rfl := Zj.1 iL
                   refine EL_y (.bool ((decide ((z2).Order < (u0).Order)))) (P_int rfl rfl rfl) rfl rfl r8 rfl ?_
                   refine EL_y (.bool ((decide ((z2).Order < (u0).Order)))) (Zl (b := ((z2).From == (u0).From)) rfl (pick_t r8 rfl)) rfl rfl o7 rfl ?_
                   refine EL_y (.bool ((decide ((z2).Order < (u0).Order)))) (Zl (b := (decide ((z2).From < (u0).From))) rfl (pick_f o7 rfl)) rfl rfl a7 rfl ?_
                   refine EL_y (.bool ((decide ((z2).Order < (u0).Order)))) (Zl (b := (decide ((z2).Order > (o0).Order))) rfl (pick_t a7 rfl)) rfl rfl j1 rfl ?_
                   refine EL_p (.bool ((decide ((z2).Order < (u0).Order)))) (Zl (b := l5) rfl (pick_f j1 rfl)) rfl ?_
                   refine Zg (.bool ((decide ((z2).Order < (u0).Order)))) rfl rfl ?_
                   refine Zb (blk_n ?_)
                   obtain rfl := sinj h
                   exact hQ _ _ ⟨z3, hfr, u7, i6, d7, q5, v7, j6, e7, g7, v6, u3, z4, i3, rfl, t5⟩
                  ·refine EL_s rfl rfl r8 rfl rfl ?_
                   iterate 4 refine EL_s rfl rfl r8 rfl rfl ?_
                   refine EL_y (.bool false) (Zl (b := ((z2).From == (u0).From)) rfl (pick_f r8 rfl)) rfl rfl o7 rfl ?_
                   refine EL_y (.bool false) (Zl (b := (decide ((z2).From < (u0).From))) rfl (pick_f o7 rfl)) rfl rfl a7 rfl ?_
                   refine EL_y (.bool false) (Zl (b := (decide ((z2).Order > (o0).Order))) rfl (pick_t a7 rfl)) rfl rfl j1 rfl ?_
                   refine EL_p (.bool false) (Zl (b := l5) rfl (pick_f j1 rfl)) rfl ?_
                   refine Zg (.bool false) rfl rfl ?_
                   refine Zb (blk_n ?_)
                   obtain rfl := sinj h
                   exact hQ _ _ ⟨z3, hfr, u7, i6, d7, q5, v7, j6, e7, g7, v6, u3, z4, i3, rfl, t5⟩
                ·refine EL_s rfl rfl a7 rfl rfl ?_
                 iterate 5 refine EL_s rfl rfl a7 rfl rfl ?_
                 refine EL_dead 12 rfl ?_
                 refine EL_s rfl rfl a7 rfl rfl ?_
                 refine EL_y (.bool false) (Zl (b := (decide ((z2).Order > (o0).Order))) rfl (pick_f a7 rfl)) rfl rfl j1 rfl ?_
                 refine EL_p (.bool false) (Zl (b := l5) rfl (pick_f j1 rfl)) rfl ?_
                 refine Zg (.bool false) rfl rfl ?_
                 refine Zb (blk_n ?_)
                 obtain rfl := sinj h
                 exact hQ _ _ ⟨z3, hfr, u7, i6, d7, q5, v7, j6, e7, g7, v6, u3, z4, i3, rfl, t5⟩
               ·refine EL_s rfl rfl q8 rfl rfl ?_
                iterate 4 refine EL_s rfl rfl q8 rfl rfl ?_
                refine EL_y (.bool false) (Zl (b := ((z2).From == (o0).From)) rfl (pick_f q8 rfl)) rfl rfl m7 rfl ?_
                refine EL_y (.bool false) (Zl (b := (decide ((z2).From > (o0).From))) rfl (pick_f m7 rfl)) rfl rfl y6 rfl ?_
                refine EL_y (.bool false) (Zl (b := ((z2).Loom == (o0).Loom)) rfl (pick_t y6 rfl)) rfl rfl j1 rfl ?_
                refine EL_y (.bool false) (Zk rfl) rfl rfl j1 rfl ?_
                refine EL_dead 19 rfl ?_
                refine EL_y (.bool false) (Zl (b := false) rfl (pick_f rfl rfl)) rfl rfl j1 rfl ?_
                refine EL_p (.bool false) (Zl (b := l5) rfl (pick_f j1 rfl)) rfl ?_
                refine Zg (.bool false) rfl rfl ?_
                refine Zb (blk_n ?_)
                obtain rfl := sinj h
                exact hQ _ _ ⟨z3, hfr, u7, i6, d7, q5, v7, j6, e7, g7, v6, u3, z4, i3, rfl, t5⟩
             ·refine EL_s rfl rfl y6 rfl rfl ?_
              iterate 5 refine EL_s rfl rfl y6 rfl rfl ?_
              refine EL_dead 12 rfl ?_
              refine EL_s rfl rfl y6 rfl rfl ?_
              refine EL_y (.bool false) (Zl (b := ((z2).Loom == (o0).Loom)) rfl (pick_f y6 rfl)) rfl rfl j1 rfl ?_
              refine EL_y (.bool false) (Zk rfl) rfl rfl j1 rfl ?_
              refine EL_dead 19 rfl ?_
              refine EL_y (.bool false) (Zl (b := false) rfl (pick_f rfl rfl)) rfl rfl j1 rfl ?_
              refine EL_p (.bool false) (Zl (b := l5) rfl (pick_f j1 rfl)) rfl ?_
              refine Zg (.bool false) rfl rfl ?_
              refine Zb (blk_n ?_)
              obtain rfl := sinj h
              exact hQ _ _ ⟨z3, hfr, u7, i6, d7, q5, v7, j6, e7, g7, v6, u3, z4, i3, rfl, t5⟩
            ·refine EL_s rfl rfl n8 rfl rfl ?_
             iterate 4 refine EL_s rfl rfl n8 rfl rfl ?_
             refine EL_y (.bool false) (Zl (b := (o3 != j3)) rfl (pick_f n8 rfl)) rfl rfl j1 rfl ?_
             refine EL_y (.bool false) (Zk rfl) rfl rfl j1 rfl ?_
             refine EL_dead 19 rfl ?_
             refine EL_y (.bool false) (Zl (b := false) rfl (pick_f rfl rfl)) rfl rfl j1 rfl ?_
             refine EL_y (.bool false) (Zk rfl) rfl rfl j1 rfl ?_
             refine EL_dead 19 rfl ?_
             refine EL_y (.bool false) (Zl (b := false) rfl (pick_f rfl rfl)) rfl rfl j1 rfl ?_
             refine EL_p (.bool false) (Zl (b := l5) rfl (pick_f j1 rfl)) rfl ?_
             refine Zg (.bool false) rfl rfl ?_
             refine Zb (blk_n ?_)
             obtain rfl := sinj h
             exact hQ _ _ ⟨z3, hfr, u7, i6, d7, q5, v7, j6, e7, g7, v6, u3, z4, i3, rfl, t5⟩
           ·refine EL_s rfl rfl y8 rfl rfl ?_
            refine EL_s rfl rfl y8 rfl rfl ?_
            refine EL_s rfl rfl y8 rfl rfl ?_
            refine EL_y (.bool false) (Zl (b := (o3 != d3)) rfl (pick_f y8 rfl)) rfl rfl j1 rfl ?_
            refine EL_y (.bool false) (Zk rfl) rfl rfl j1 rfl ?_
            refine EL_dead 5 rfl ?_
            refine EL_y (.bool false) (Zl (b := false) rfl (pick_f rfl rfl)) rfl rfl j1 rfl ?_
            refine EL_y (.bool false) (Zk rfl) rfl rfl j1 rfl ?_
            refine EL_dead 19 rfl ?_
            refine EL_y (.bool false) (Zl (b := false) rfl (pick_f rfl rfl)) rfl rfl j1 rfl ?_
            refine EL_y (.bool false) (Zk rfl) rfl rfl j1 rfl ?_
            refine EL_dead 19 rfl ?_
            refine EL_y (.bool false) (Zl (b := false) rfl (pick_f rfl rfl)) rfl rfl j1 rfl ?_
            refine EL_p (.bool false) (Zl (b := l5) rfl (pick_f j1 rfl)) rfl ?_
            refine Zg (.bool false) rfl rfl ?_
            refine Zb (blk_n ?_)
            obtain rfl := sinj h
            exact hQ _ _ ⟨z3, hfr, u7, i6, d7, q5, v7, j6, e7, g7, v6, u3, z4, i3, rfl, t5⟩
         ·clear hx
          obtain ⟨jL, hfr, bH, cH, dH, gH, iH, jH, kH, lH, mH, nH, mE, nE, oE, rE⟩ := hR
          refine Za (Zo rE rfl ?_)
          refine EL_in (.int .i64 ((w64 (o3 + (1 : Int))))) rfl rfl rfl rfl ?_
          refine Zg (.int .i64 ((w64 (o3 + (1 : Int))))) rfl rfl ?_
          exact Zb (Zd (bJ (y9, (w64 (o3 + (1 : Int)))) _ _ ⟨jL, hfr, bH, cH, dH, gH, iH, jH, kH, lH, mH, nH, mE, nE, oE, rfl⟩ h))
       ·clear hx
        obtain ⟨kL, hfr, u9, c7, eD, t8, gD, v8, iD, jD, pA, x8, gA, c8, eB⟩ := hR
        refine Zf (L_loadO (x := .tmp 136) part_LoomRun_2.1 Try.isAgg3 Try.sizeOf3 x8 fun sO lL dJ => ?_)
        obtain rfl := Zj.1 lL
        refine L_loadO (x := .tmp 139) part_LoomRun_0.1 Try.isAgg3 Try.sizeOf3 x8 fun tO mL eJ => ?_
        obtain rfl := Zj.1 mL
        obtain ⟨l9, cE, h⟩ := bsome h
        have xF := PT_idx c7 cE
        have nL := Zm (part_LoomOrder_2).1 xF
        refine Zs (x := .tmp 142) Try.isAgg3 Try.sizeOf3 nL fun uO oL gJ => ?_
        obtain rfl := Zj.1 oL
        refine E_drawL (g := kL) (n := 10) [] [0, 1, 2, 3, 4, 5, 6, 7, 8, 9] rfl mixed (by kernel_rfl) trivial ?_
        refine L_p (fPtr x5 2) rfl rfl (Zc at_76_2 pA (OB.ptr x8)) ?_
        refine L_ld (c := .int .i64 ((o0).From)) rfl rfl .plain (fun _ _ h => ⟨h.ch, fun b hb _ => h.below.block b hb⟩) dJ rfl ?_
        refine L_p up1 rfl rfl (Zk u9) ?_
        refine L_p (fPtr x5 0) rfl rfl (Zc at_76_0 pA (OB.ptr x8)) ?_
        refine L_ld (c := .int .i64 ((o0).Order)) rfl rfl .plain (fun _ _ h => ⟨h.ch, fun b hb _ => h.below.block b hb⟩) eJ rfl ?_
        refine L_p (ePtr up1 (o0).Order 5) rfl rfl (Zh (α := LoomOrder) Try.underlying25 Try.sizeOf82 rfl c7 rfl cE) ?_
        refine L_p (fPtr (ePtr up1 (o0).Order 5) 2) rfl rfl (Zc at_82_2 rfl (PT.ptr xF)) ?_
        refine L_ld (c := .int .i64 ((l9).Woven)) rfl rfl .plain (fun _ _ h => h.ch) gJ rfl ?_
        refine L_p (.int .i64 ((w64 ((o0).From + (l9).Woven)))) rfl rfl (P_int rfl rfl rfl) ?_
        refine L_p (.int .i64 ((w64 ((o0).From + (l9).Woven)))) rfl rfl (P_assign rfl) ?_
        refine L_nl fun yF vO hs => ?_
        have hfr := hfr.ext hs
        have c7 := c7.ext hs
        have t8 := t8.ext hs
        have v8 := v8.ext hs
        have x8 := x8.ext hs
        have c8 := c8.ext hs
        clear hs
        refine Zb (Zd ?_)
        obtain ⟨z9, hx, h⟩ := bsome h
        refine E_join (fun e w => ∃ (g : Gh) , Fr gI wI g w ∧ e 1 = up1 ∧ RV g.m w (x1 : List LoomOrder) up1 ∧ e 2 = up2 ∧ RV g.m w (x2 : List LoomRun) up2 ∧ e 3 = p1 ∧ PT g.m w (x0 : LoomMill) p1 ∧ e 7 = .int .i64 (d3) ∧ e 8 = .int .i64 (j3) ∧ e 10 = i5 ∧ OB 2010 g w 76 (u0 : LoomRun) i5 ∧ e 14 = .int .i64 (z9)) (fun Q' hQ => ?_) (fun rM xO hR => ?_)
        ·replace h := hx
         clear hx
         obtain ⟨k9, hx, h⟩ := bsome h
         refine E_join (fun e w => ∃ (g : Gh) , Fr gI wI g w ∧ e 1 = up1 ∧ RV g.m w (x1 : List LoomOrder) up1 ∧ e 2 = up2 ∧ RV g.m w (x2 : List LoomRun) up2 ∧ e 3 = p1 ∧ PT g.m w (x0 : LoomMill) p1 ∧ e 7 = .int .i64 (d3) ∧ e 8 = .int .i64 (j3) ∧ e 10 = i5 ∧ OB 2010 g w 76 (u0 : LoomRun) i5 ∧ e 14 = .int .i64 ((w64 ((o0).From + (l9).Woven))) ∧ e 161 = .bool (k9)) (fun Q' hQ => ?_) (fun sM yO hR => ?_)
         ·replace h := hx
          clear hx
          rcases Zt h with ⟨b7, h⟩ | ⟨b7, h⟩
          ·refine L_loadO (x := .tmp 149) part_LoomRun_0.1 Try.isAgg3 Try.sizeOf3 x8 fun zO pL iJ => ?_
           obtain rfl := Zj.1 pL
           obtain ⟨iA, dE, h⟩ := bsome h
           have zF := PT_idx c7 dE
           have qL := Zm (part_LoomOrder_1).1 zF
           refine Zs (x := .tmp 152) Try.isAgg3 Try.sizeOf3 qL fun aP rL jJ => ?_
           obtain rfl := Zj.1 rL
           refine L_loadO (x := .tmp 155) part_LoomRun_0.1 Try.isAgg3 Try.sizeOf3 c8 fun bP tL kJ => ?_
           obtain rfl := Zj.1 tL
           obtain ⟨jA, eE, h⟩ := bsome h
           have aG := PT_idx c7 eE
           have uL := Zm (part_LoomOrder_1).1 aG
           refine Zs (x := .tmp 158) Try.isAgg3 Try.sizeOf3 uL fun cP vL lJ => ?_
           obtain rfl := Zj.1 vL
           refine E_drawL (g := yF) (n := 17) [] [0, 1, 2, 3, 4, 5, 6, 7, 8, 9, 10, 11, 12, 13, 14, 15, 16] rfl mixed (by kernel_rfl) trivial ?_
           refine L_p (.bool (i7)) rfl rfl (Zk eB) ?_
           refine L_p (.bool (!i7)) rfl rfl (P_not rfl) ?_
           refine L_p (.bool (!i7)) rfl rfl (Zk rfl) ?_
           refine L_y up1 rfl rfl rfl rfl b7 (Zk u9) ?_
           refine L_y (fPtr x5 0) rfl rfl rfl rfl b7 (Zc at_76_0 pA (OB.ptr x8)) ?_
           refine L_ld (c := .int .i64 ((o0).Order)) rfl rfl (.yes2 rfl rfl b7) (fun _ _ h => ⟨h.ch, fun b hb _ => h.below.block b hb⟩) iJ rfl ?_
           refine L_y (ePtr up1 (o0).Order 5) rfl rfl rfl rfl b7 (Zh (α := LoomOrder) Try.underlying25 Try.sizeOf82 rfl c7 rfl dE) ?_
           refine L_y (fPtr (ePtr up1 (o0).Order 5) 1) rfl rfl rfl rfl b7 (Zc at_82_1 rfl (PT.ptr zF)) ?_
           refine L_ld (c := .int .i64 ((iA).Chain)) rfl rfl (.yes2 rfl rfl b7) (fun _ _ h => h.ch) jJ rfl ?_
           refine L_y up1 rfl rfl rfl rfl b7 (Zk u9) ?_
           refine L_y (fPtr i5 0) rfl rfl rfl rfl b7 (Zc at_76_0 gA (OB.ptr c8)) ?_
           refine L_ld (c := .int .i64 ((u0).Order)) rfl rfl (.yes2 rfl rfl b7) (fun _ _ h => ⟨h.ch, fun b hb _ => h.below.block b hb⟩) kJ rfl ?_
           refine L_y (ePtr up1 (u0).Order 5) rfl rfl rfl rfl b7 (Zh (α := LoomOrder) Try.underlying25 Try.sizeOf82 rfl c7 rfl eE) ?_
           refine L_y (fPtr (ePtr up1 (u0).Order 5) 1) rfl rfl rfl rfl b7 (Zc at_82_1 rfl (PT.ptr aG)) ?_
           refine L_ld (c := .int .i64 ((jA).Chain)) rfl rfl (.yes2 rfl rfl b7) (fun _ _ h => h.ch) lJ rfl ?_
           refine L_y (.bool (((iA).Chain != (jA).Chain))) rfl rfl rfl rfl b7 (P_int rfl rfl rfl) ?_
           refine L_p (.bool (((iA).Chain != (jA).Chain))) rfl rfl (Zl (b := (!i7)) rfl (pick_t b7 rfl)) ?_
           refine L_nl fun xL dP hs => ?_
           have hfr := hfr.ext hs
           have c7 := c7.ext hs
           have t8 := t8.ext hs
           have v8 := v8.ext hs
           have c8 := c8.ext hs
           clear hs
           refine Zb ?_
           obtain rfl := sinj h
           exact hQ _ _ ⟨xL, hfr, u9, c7, eD, t8, gD, v8, iD, jD, gA, c8, rfl, rfl⟩
          ·refine E_drawL (g := yF) (n := 17) [] [0, 1, 2, 3, 4, 5, 6, 7, 8, 9, 10, 11, 12, 13, 14, 15, 16] rfl mixed (by kernel_rfl) trivial ?_
           refine L_p (.bool (i7)) rfl rfl (Zk eB) ?_
           refine L_p (.bool (!i7)) rfl rfl (P_not rfl) ?_
           refine L_p (.bool (!i7)) rfl rfl (Zk rfl) ?_
           iterate 13 refine L_s rfl rfl rfl b7 rfl ?_
           refine L_p (.bool false) rfl rfl (Zl (b := (!i7)) rfl (pick_f b7 rfl)) ?_
           refine L_nl fun yL eP hs => ?_
           have hfr := hfr.ext hs
           have c7 := c7.ext hs
           have t8 := t8.ext hs
           have v8 := v8.ext hs
           have c8 := c8.ext hs
           clear hs
           refine Zb ?_
           obtain rfl := sinj h
           exact hQ _ _ ⟨yL, hfr, u9, c7, eD, t8, gD, v8, iD, jD, gA, c8, rfl, rfl⟩
         ·clear hx
          obtain ⟨xD, hfr, kD, lD, mD, nD, qA, bA, oD, sD, iB, jB, kB, rA⟩ := hR
          rcases Zt h with ⟨lB, h⟩ | ⟨lB, h⟩
          ·refine E_cond_true (Eq.trans (show ev _ _ = .bool (k9) from rA) (congrArg Value.bool lB)) ?_
           refine Za (Zo kB rfl ?_)
           refine EL_p (fPtr p1 1) (Zc at_24_1 qA (PT.ptr bA)) rfl ?_
           have zL := Zm (part_LoomMill_1).1 bA
           refine Ze .plain rfl (D_load (g := xD) Try.isAgg3 Try.sizeOf3 rfl zL fun gP aM => ?_)
           obtain rfl := Zj.1 aM
           refine EL_p (.int .i64 ((w64 ((w64 ((o0).From + (l9).Woven)) + (x0).Change)))) (P_int rfl rfl rfl) rfl ?_
           refine EL_p (.int .i64 ((w64 ((w64 ((o0).From + (l9).Woven)) + (x0).Change)))) (P_assign rfl) rfl ?_
           refine Zb ?_
           obtain rfl := sinj h
           exact hQ _ _ ⟨xD, hfr, kD, lD, mD, nD, qA, bA, oD, sD, iB, jB, rfl⟩
          ·refine E_cond_false (Eq.trans (show ev _ _ = .bool (k9) from rA) (congrArg Value.bool lB)) ?_
           refine Zu ?_
           obtain rfl := sinj h
           exact hQ _ _ ⟨xD, hfr, kD, lD, mD, nD, qA, bA, oD, sD, iB, jB, kB⟩
        ·clear hx
         obtain ⟨bG, hfr, oH, pH, qH, sH, tH, uH, vH, xH, sE, mB, tE⟩ := hR
         refine Zf (Za (EL_p (fPtr i5 2) (Zc at_76_2 sE (OB.ptr mB)) rfl ?_))
         refine Ze .plain rfl (D_loadF (g := bG) part_LoomRun_2.1 Try.isAgg3 Try.sizeOf3 rfl mB fun iP bM => ?_)
         obtain rfl := Zj.1 bM
         refine Zo tE rfl ?_
         refine EL_in (.bool ((decide ((u0).From < z9)))) rfl rfl rfl rfl ?_
         refine Zb (Zd ?_)
         rcases Zt h with ⟨nB, h⟩ | ⟨nB, h⟩
         ·refine E_ct nB rfl ?_
          refine Zf (Za (Zg (.bool false) rfl rfl ?_))
          refine Zb (Zd (E_ret (blk_r ?_)))
          refine thn_r ?_
          refine thn_r ?_
          refine blk_r ?_
          refine blk_r ?_
          refine thn_r ?_
          refine thn_r ?_
          refine blk_r ?_
          refine thn_r ?_
          obtain rfl := sinj h
          exact end1 rfl rfl (show _ = .bool false from rfl) ⟨_, hfr, rfl⟩
         ·refine E_cf nB rfl ?_
          exact Zu (blk_n (Zd (yD () _ _ ⟨bG, hfr, oH, pH, qH, sH, tH, uH, vH, xH⟩ h)))
     ·rintro _ tM jP ⟨cM, hfr, yH, zH, aI, bI, cI, dI, iI, jI⟩ h
      refine Za (Zo jI rfl ?_)
      refine EL_in (.int .i64 ((w64 (j3 + (1 : Int))))) rfl rfl rfl rfl ?_
      refine Zg (.int .i64 ((w64 (j3 + (1 : Int))))) rfl rfl ?_
      exact Zb (Zd (vI ((w64 (j3 + (1 : Int)))) _ _ ⟨cM, hfr, yH, zH, aI, bI, cI, dI, iI, rfl⟩ h))
   ·rintro _ uM kP ⟨dM, hfr, kI, lI, mI, nI, oI, pI, qI⟩ h
    refine Za (Zo qI rfl ?_)
    refine EL_in (.int .i64 ((w64 (d3 + (1 : Int))))) rfl rfl rfl rfl ?_
    refine Zg (.int .i64 ((w64 (d3 + (1 : Int))))) rfl rfl ?_
    exact Zb (Zd (sI ((w64 (d3 + (1 : Int)))) _ _ ⟨dM, hfr, kI, lI, mI, nI, oI, pI, rfl⟩ h))
 ·rintro _ vM lP ⟨mP, hfr⟩ h
  refine Zf (Za (Zg (.bool true) rfl rfl ?_))
  refine Zb (Zd (E_ret ?_))
  obtain rfl := sinj h
  exact end1 rfl rfl (show _ = .bool true from rfl) ⟨_, hfr, rfl⟩
def f46 (x0 : Int) (x1 : Int) (x2 : Int) : Option (LoomRun) :=
 some ((⟨x0, x1, x2⟩ : LoomRun))
theorem en46 : Enters Try.prog 46 := enters_of Try.func46 (by kernel_rfl) rfl
theorem wk46 {gI : Gh} {wI : World} {x0 : Int} {x1 : Int} {x2 : Int}  {r : LoomRun} (h : f46 x0 x1 x2 = some r) : Fn Try.prog 46 #[.int .i64 (x0), .int .i64 (x1), .int .i64 (x2)] gI wI (fun m w v => RV m w (r) v) := by
 unfold f46 at h
 refine fn_of_E Try.func46 rfl (Nat.le_of_ble_eq_true rfl) fun g0 hm hfr => ?_
 show E _ 11 none _ _ _ _ _
 refine Zf (Za (Ze .plain rfl (D_allocOc (g := g0) 2006 (⟨0, 0, 0⟩ : LoomRun) Try.zeroValue76 (fun m w => ⟨_, (rep_two rep_int (rep_two rep_int rep_int)), rfl⟩) fun g1 w1 p1 hs b1 cb => ?_)))
 have hfr := hfr.stp hs
 clear cb
 refine Zb (Zd (Zf (Za (Zn (.int .i64 (x0)) rfl rfl ?_))))
 refine Zn (.int .i64 (x1)) rfl rfl ?_
 refine Zn (.int .i64 (x2)) rfl rfl ?_
 have r2 : RV g1.m w1 (⟨x0, x1, x2⟩ : LoomRun) (.agg (setCh [[.int .i64 0], [.int .i64 0], [.int .i64 0]] [(0, .int .i64 (x0)), (1, .int .i64 (x1)), (2, .int .i64 (x2))]).flatten.toArray) := RV_build rfl (rep_pair (rfl) (rep_pair (rfl) (rep_last (rfl))))
 generalize hv2 : (Value.agg (setCh [[.int .i64 0], [.int .i64 0], [.int .i64 0]] [(0, .int .i64 (x0)), (1, .int .i64 (x1)), (2, .int .i64 (x2))]).flatten.toArray) = v2 at r2
 refine EL_p v2 (hv2 ▸ P_build (vs := [(0, .int .i64 (x0)), (1, .int .i64 (x1)), (2, .int .i64 (x2))]) [[.int .i64 0], [.int .i64 0], [.int .i64 0]] lay_76 rfl rfl (.cons rfl (.cons rfl (.cons rfl .nil))) ⟨⟨_, rfl, rfl⟩, ⟨⟨_, rfl, rfl⟩, ⟨⟨_, rfl, rfl⟩, trivial⟩⟩⟩) rfl ?_
 refine Ze .plain rfl (D_storeOc (g := g1) (v := v2) Try.sizeOf76 rfl b1 rfl r2 fun g3 w3 hs b3 cb => ?_)
 clear cb
 have hfr := hfr.stp hs
 refine Zb (Zd (E_ret ?_))
 obtain rfl := sinj h
 obtain ⟨ad4, cv4, hp4, o0, cr4⟩ := ob_read Try.isAgg76 Try.sizeOf76 b3
 exact endm_c rfl rfl ((show _ = p1 from rfl).trans hp4) o0 ⟨_, hfr, cr4⟩
def f47  : Option (LoomMill) :=
 some ((⟨([(10 : Int), (20 : Int)] : List Int), (2 : Int)⟩ : LoomMill))
theorem en47 : Enters Try.prog 47 := enters_of Try.func47 (by kernel_rfl) rfl
theorem wk47 {gI : Gh} {wI : World}   {r : LoomMill} (h : f47  = some r) : Fn Try.prog 47 #[] gI wI (fun m w v => RV m w (r) v) := by
 unfold f47 at h
 refine fn_of_E Try.func47 rfl (Nat.le_of_ble_eq_true rfl) fun g0 hm hfr => ?_
 show E _ 3 none _ _ _ _ _
 refine Zf (Za (Ze .plain rfl (D_allocOc (g := g0) 2000 (⟨[], 0⟩ : LoomMill) Try.zeroValue24 (fun m w => ⟨_, (rep_two rep_nil rep_int), rfl⟩) fun g1 w1 p1 hs b1 cb => ?_)))
 have hfr := hfr.stp hs
 have u0 : OSF 2000 60000 0 g1 w1 3 24 ([] : List Int) p1 := cb.osf (by rfl)
 clear cb
 refine Zb (Zd (Zf (Za (Ze .plain rfl (D_buildSlice (g := g1) 3001 (xs := ([(10 : Int), (20 : Int)] : List Int)) (vs := [.int .i64 (10), .int .i64 (20)]) Try.underlying22 Try.sizeOf3 Try.zeroValue3 rfl rfl (.cons rfl (.cons rfl .nil)) (RVs.cons (Zj.2 rfl) (RVs.cons (Zj.2 rfl) RVs.nil)) rfl rfl fun g2 w2 v2 hs o2 r2 hxt hfl => ?_)))))
 have hfr := hfr.stp hs
 have b1 := b1.stp hs rfl
 have r3 : RV g2.m _ (⟨([(10 : Int), (20 : Int)] : List Int), (2 : Int)⟩ : LoomMill) (.agg (setCh [[.slice none 0 0], [.int .i64 0]] [(0, v2), (1, .int .i64 (2))]).flatten.toArray) := RV_build rfl (rep_pair (RV.cells r2) (rep_last (rfl)))
 generalize hv3 : (Value.agg (setCh [[.slice none 0 0], [.int .i64 0]] [(0, v2), (1, .int .i64 (2))]).flatten.toArray) = v3 at r3
 refine EL_p v3 (hv3 ▸ P_build (vs := [(0, v2), (1, .int .i64 (2))]) [[.slice none 0 0], [.int .i64 0]] lay_24 rfl rfl (.cons rfl (.cons rfl .nil)) ⟨⟨_, rfl, cells_size r2⟩, ⟨⟨_, rfl, rfl⟩, trivial⟩⟩) rfl ?_
 refine Ze .plain rfl (D_storeOc (g := g2) (v := v3) Try.sizeOf24 rfl b1 rfl r3 fun g4 w4 hs b4 cb => ?_)
 clear cb
 have hfr := hfr.stp hs
 refine Zb (Zd (E_ret ?_))
 obtain rfl := sinj h
 obtain ⟨ad5, cv5, hp5, o0, cr5⟩ := ob_read Try.isAgg24 Try.sizeOf24 b4
 exact endm_c rfl rfl ((show _ = p1 from rfl).trans hp5) o0 ⟨_, hfr, cr5⟩
def f48 (x0 : Int) (x1 : Int) : Option ((List LoomOrder)) :=
 some (([(⟨(5 : Int), (1 : Int), (10 : Int), 0, (20 : Int)⟩ : LoomOrder), (⟨(15 : Int), (2 : Int), (12 : Int), 0, (20 : Int)⟩ : LoomOrder), (⟨(5 : Int), x0, x1, 0, (20 : Int)⟩ : LoomOrder)] : List LoomOrder))
theorem en48 : Enters Try.prog 48 := enters_of Try.func48 (by kernel_rfl) rfl
theorem wk48 {gI : Gh} {wI : World} {x0 : Int} {x1 : Int}  {r : (List LoomOrder)} (h : f48 x0 x1 = some r) : Fn Try.prog 48 #[.int .i64 (x0), .int .i64 (x1)] gI wI (fun m w v => RV m w (r) v) := by
 unfold f48 at h
 refine fn_of_E Try.func48 rfl (Nat.le_of_ble_eq_true rfl) fun g0 hm hfr => ?_
 show E _ 11 none _ _ _ _ _
 refine Zf (Za (Zg (.slice none 0 0) rfl rfl ?_))
 refine Zb (Zd (Zf (Za ?_)))
 have r1 : RV g0.m wI (⟨(5 : Int), (1 : Int), (10 : Int), 0, (20 : Int)⟩ : LoomOrder) (.agg (setCh [[.int .i64 0], [.int .i64 0], [.int .i64 0], [.int .i64 0], [.int .i64 0]] [(0, .int .i64 (5)), (1, .int .i64 (1)), (2, .int .i64 (10)), (4, .int .i64 (20))]).flatten.toArray) := RV_build rfl (rep_pair (rfl) (rep_pair (rfl) (rep_pair (rfl) (rep_pair (rep_int) (rep_last (rfl))))))
 generalize hv1 : (Value.agg (setCh [[.int .i64 0], [.int .i64 0], [.int .i64 0], [.int .i64 0], [.int .i64 0]] [(0, .int .i64 (5)), (1, .int .i64 (1)), (2, .int .i64 (10)), (4, .int .i64 (20))]).flatten.toArray) = v1 at r1
 refine EL_p v1 (hv1 ▸ P_build (vs := [(0, .int .i64 (5)), (1, .int .i64 (1)), (2, .int .i64 (10)), (4, .int .i64 (20))]) [[.int .i64 0], [.int .i64 0], [.int .i64 0], [.int .i64 0], [.int .i64 0]] lay_82 rfl rfl (.cons rfl (.cons rfl (.cons rfl (.cons rfl .nil)))) ⟨⟨_, rfl, rfl⟩, ⟨⟨_, rfl, rfl⟩, ⟨⟨_, rfl, rfl⟩, ⟨⟨_, rfl, rfl⟩, trivial⟩⟩⟩⟩) rfl ?_
 have r2 : RV g0.m wI (⟨(15 : Int), (2 : Int), (12 : Int), 0, (20 : Int)⟩ : LoomOrder) (.agg (setCh [[.int .i64 0], [.int .i64 0], [.int .i64 0], [.int .i64 0], [.int .i64 0]] [(0, .int .i64 (15)), (1, .int .i64 (2)), (2, .int .i64 (12)), (4, .int .i64 (20))]).flatten.toArray) := RV_build rfl (rep_pair (rfl) (rep_pair (rfl) (rep_pair (rfl) (rep_pair (rep_int) (rep_last (rfl))))))
 generalize hv2 : (Value.agg (setCh [[.int .i64 0], [.int .i64 0], [.int .i64 0], [.int .i64 0], [.int .i64 0]] [(0, .int .i64 (15)), (1, .int .i64 (2)), (2, .int .i64 (12)), (4, .int .i64 (20))]).flatten.toArray) = v2 at r2
 refine EL_p v2 (hv2 ▸ P_build (vs := [(0, .int .i64 (15)), (1, .int .i64 (2)), (2, .int .i64 (12)), (4, .int .i64 (20))]) [[.int .i64 0], [.int .i64 0], [.int .i64 0], [.int .i64 0], [.int .i64 0]] lay_82 rfl rfl (.cons rfl (.cons rfl (.cons rfl (.cons rfl .nil)))) ⟨⟨_, rfl, rfl⟩, ⟨⟨_, rfl, rfl⟩, ⟨⟨_, rfl, rfl⟩, ⟨⟨_, rfl, rfl⟩, trivial⟩⟩⟩⟩) rfl ?_
 refine Zn (.int .i64 (x0)) rfl rfl ?_
 refine Zn (.int .i64 (x1)) rfl rfl ?_
 have r3 : RV g0.m wI (⟨(5 : Int), x0, x1, 0, (20 : Int)⟩ : LoomOrder) (.agg (setCh [[.int .i64 0], [.int .i64 0], [.int .i64 0], [.int .i64 0], [.int .i64 0]] [(0, .int .i64 (5)), (1, .int .i64 (x0)), (2, .int .i64 (x1)), (4, .int .i64 (20))]).flatten.toArray) := RV_build rfl (rep_pair (rfl) (rep_pair (rfl) (rep_pair (rfl) (rep_pair (rep_int) (rep_last (rfl))))))
 generalize hv3 : (Value.agg (setCh [[.int .i64 0], [.int .i64 0], [.int .i64 0], [.int .i64 0], [.int .i64 0]] [(0, .int .i64 (5)), (1, .int .i64 (x0)), (2, .int .i64 (x1)), (4, .int .i64 (20))]).flatten.toArray) = v3 at r3
 refine EL_p v3 (hv3 ▸ P_build (vs := [(0, .int .i64 (5)), (1, .int .i64 (x0)), (2, .int .i64 (x1)), (4, .int .i64 (20))]) [[.int .i64 0], [.int .i64 0], [.int .i64 0], [.int .i64 0], [.int .i64 0]] lay_82 rfl rfl (.cons rfl (.cons rfl (.cons rfl (.cons rfl .nil)))) ⟨⟨_, rfl, rfl⟩, ⟨⟨_, rfl, rfl⟩, ⟨⟨_, rfl, rfl⟩, ⟨⟨_, rfl, rfl⟩, trivial⟩⟩⟩⟩) rfl ?_
 refine Ze .plain rfl (D_buildSlice (g := g0) 3010 (xs := ([(⟨(5 : Int), (1 : Int), (10 : Int), 0, (20 : Int)⟩ : LoomOrder), (⟨(15 : Int), (2 : Int), (12 : Int), 0, (20 : Int)⟩ : LoomOrder), (⟨(5 : Int), x0, x1, 0, (20 : Int)⟩ : LoomOrder)] : List LoomOrder)) (vs := [v1, v2, v3]) Try.underlying25 Try.sizeOf82 Try.zeroValue82 rfl rfl (.cons rfl (.cons rfl (.cons rfl .nil))) (RVs.cons r1 (RVs.cons r2 (RVs.cons r3 RVs.nil))) rfl rfl fun g4 w4 v4 hs o4 r4 hxt hfl => ?_)
 have hfr := hfr.stp hs
 refine Zg v4 rfl rfl ?_
 refine Zb (Zd (E_ret ?_))
 obtain rfl := sinj h
 exact end1 rfl rfl (show _ = v4 from rfl) ⟨_, hfr, r4⟩
def f49 (x0 : Int) (x1 : Int) : Option (LoomStop) :=
 some ((⟨0, (⟨x0, x1⟩ : Span)⟩ : LoomStop))
theorem en49 : Enters Try.prog 49 := enters_of Try.func49 (by kernel_rfl) rfl
theorem wk49 {gI : Gh} {wI : World} {x0 : Int} {x1 : Int}  {r : LoomStop} (h : f49 x0 x1 = some r) : Fn Try.prog 49 #[.int .i64 (x0), .int .i64 (x1)] gI wI (fun m w v => RV m w (r) v) := by
 unfold f49 at h
 refine fn_of_E Try.func49 rfl (Nat.le_of_ble_eq_true rfl) fun g0 hm hfr => ?_
 show E _ 9 none _ _ _ _ _
 refine Zf (Za (Ze .plain rfl (D_allocOc (g := g0) 2004 (⟨0, ⟨0, 0⟩⟩ : LoomStop) Try.zeroValue54 (fun m w => ⟨_, (rep_two rep_int (rep_two rep_int rep_int)), rfl⟩) fun g1 w1 p1 hs b1 cb => ?_)))
 have hfr := hfr.stp hs
 clear cb
 refine Zb (Zd (Zf (Za (Zn (.int .i64 (x0)) rfl rfl ?_))))
 refine Zn (.int .i64 (x1)) rfl rfl ?_
 have r2 : RV g1.m w1 (⟨x0, x1⟩ : Span) (.agg (setCh [[.int .i64 0], [.int .i64 0]] [(0, .int .i64 (x0)), (1, .int .i64 (x1))]).flatten.toArray) := RV_build rfl (rep_pair (rfl) (rep_last (rfl)))
 generalize hv2 : (Value.agg (setCh [[.int .i64 0], [.int .i64 0]] [(0, .int .i64 (x0)), (1, .int .i64 (x1))]).flatten.toArray) = v2 at r2
 refine EL_p v2 (hv2 ▸ P_build (vs := [(0, .int .i64 (x0)), (1, .int .i64 (x1))]) [[.int .i64 0], [.int .i64 0]] lay_48 rfl rfl (.cons rfl (.cons rfl .nil)) ⟨⟨_, rfl, rfl⟩, ⟨⟨_, rfl, rfl⟩, trivial⟩⟩) rfl ?_
 have r3 : RV g1.m _ (⟨0, (⟨x0, x1⟩ : Span)⟩ : LoomStop) (.agg (setCh [[.int .i64 0], [.int .i64 0, .int .i64 0]] [(1, v2)]).flatten.toArray) := RV_build rfl (rep_pair (rep_int) (rep_last (RV.cells r2)))
 generalize hv3 : (Value.agg (setCh [[.int .i64 0], [.int .i64 0, .int .i64 0]] [(1, v2)]).flatten.toArray) = v3 at r3
 refine EL_p v3 (hv3 ▸ P_build (vs := [(1, v2)]) [[.int .i64 0], [.int .i64 0, .int .i64 0]] lay_54 rfl rfl (.cons rfl .nil) ⟨⟨_, rfl, cells_size r2⟩, trivial⟩) rfl ?_
 refine Ze .plain rfl (D_storeOc (g := g1) (v := v3) Try.sizeOf54 rfl b1 rfl r3 fun g4 w4 hs b4 cb => ?_)
 clear cb
 have hfr := hfr.stp hs
 refine Zb (Zd (E_ret ?_))
 obtain rfl := sinj h
 obtain ⟨ad5, cv5, hp5, o0, cr5⟩ := ob_read Try.isAgg54 Try.sizeOf54 b4
 exact endm_c rfl rfl ((show _ = p1 from rfl).trans hp5) o0 ⟨_, hfr, cr5⟩
def f53 (x0 : LoomLoomMill) : Option (Int) :=
 (shl64 (1 : Int) (((x0).orders).length : Int)).bind fun y4 =>
 some ((w64 (y4 - (1 : Int))))
theorem en53 : Enters Try.prog 53 := enters_of Try.func53 (by kernel_rfl) rfl
theorem wk53 {gI : Gh} {wI : World} {x0 : LoomLoomMill} {up0 : Value} (rp0 : RV gI.m wI x0 up0) {r : Int} (h : f53 x0 = some r) : Fn Try.prog 53 #[up0] gI wI (fun _ _ v => v = .int .i64 (r)) := by
 unfold f53 at h
 refine fn_of_E Try.func53 rfl (Nat.le_of_ble_eq_true rfl) fun g0 hm hfr => ?_
 have rp0 : RV g0.m wI x0 up0 := hm ▸ rp0
 show E _ 8 none _ _ _ _ _
 refine Zf (Za (Ze .plain rfl (D_box (g := g0) rfl rp0 fun g1 w1 p1 hs q1 => ?_)))
 have hfr := hfr.ext hs
 refine Zg (.int .i64 (0)) rfl rfl ?_
 refine Zb (Zd (Zf (Za (EL_p (fPtr p1 2) (Zc at_96_1 rfl (PT.ptr q1)) rfl ?_))))
 have q2 := Zm (part_LoomLoomMill_1).1 q1
 refine Ze .plain rfl (D_load (g := g1) Try.isAgg25 Try.sizeOf25 rfl q2 fun v3 r3 => ?_)
 refine EL_p (.int .i64 (((x0).orders).length : Int)) (P_len Try.underlying25 rfl r3) rfl ?_
 obtain ⟨y4, o0, h⟩ := bsome h
 refine EL_p (.int .i64 (y4)) (P_int rfl rfl (congrArg (Option.map (Value.int .i64)) o0)) rfl ?_
 refine EL_in (.int .i64 ((w64 (y4 - (1 : Int))))) rfl rfl rfl rfl ?_
 refine Zg (.int .i64 ((w64 (y4 - (1 : Int))))) rfl rfl ?_
 refine Zb (Zd (E_ret ?_))
 obtain rfl := sinj h
 exact end1 rfl rfl (show _ = .int .i64 ((w64 (y4 - (1 : Int)))) from rfl) ⟨_, hfr, rfl⟩
def f56 (x0 : Int) (z0 : List Bool) : Option (Bool) :=
 (idx z0 x0).bind fun y2 =>
 some ((!y2))
theorem en56 : Enters Try.prog 56 := enters_of Try.func56 (by kernel_rfl) rfl
theorem wk56 {gI : Gh} {wI : World} {x0 : Int} {z0 : List Bool} {pf0 : Value} (qf0 : PT gI.m wI z0 pf0) {r : Bool} (h : f56 x0 z0 = some r) : Fn Try.prog 56 #[.int .i64 (x0), pf0] gI wI (fun _ _ v => v = .bool (r)) := by
 unfold f56 at h
 refine fn_of_E Try.func56 rfl (Nat.le_of_ble_eq_true rfl) fun g0 hm hfr => ?_
 have qf0 : PT g0.m wI z0 pf0 := hm ▸ qf0
 show E _ 9 none _ _ _ _ _
 refine Zf (Za (Zg (.bool false) rfl rfl ?_))
 refine Zb (Zd (Zf (Za (Ze .plain rfl (D_load (g := g0) Try.isAgg101 Try.sizeOf101 rfl qf0 fun v1 r1 => ?_)))))
 refine Zn (.int .i64 (x0)) rfl rfl ?_
 obtain ⟨y2, hy2, h⟩ := bsome h
 refine EL_p (ePtr v1 x0 1) (Zh (α := Bool) Try.underlying101 Try.sizeOf4 rfl r1 rfl hy2) rfl ?_
 have q3 := PT_idx r1 hy2
 refine Ze .plain rfl (D_load (g := g0) Try.isAgg4 Try.sizeOf4 rfl q3 fun v4 r4 => ?_)
 obtain rfl := RV_bool.1 r4
 refine EL_p (.bool (!y2)) (P_not rfl) rfl ?_
 refine Zg (.bool (!y2)) rfl rfl ?_
 refine Zb (Zd (E_ret ?_))
 obtain rfl := sinj h
 exact end1 rfl rfl (show _ = .bool (!y2) from rfl) ⟨_, hfr, rfl⟩
def f57 (x0 : Int) (z0 : List Bool) (z1 : LoomLoomMill) : Option (Bool) :=
 (f53 z1).bind fun y4 =>
 (idx z0 (bit64 .andNot y4 x0)).bind fun y5 =>
 some (y5)
theorem en57 : Enters Try.prog 57 := enters_of Try.func57 (by kernel_rfl) rfl
theorem wk57 {gI : Gh} {wI : World} {x0 : Int} {z0 : List Bool} {z1 : LoomLoomMill} {pf0 : Value} (qf0 : PT gI.m wI z0 pf0) {pf1 : Value} (qf1 : PT gI.m wI z1 pf1) {r : Bool} (h : f57 x0 z0 z1 = some r) : Fn Try.prog 57 #[.int .i64 (x0), pf0, pf1] gI wI (fun _ _ v => v = .bool (r)) := by
 unfold f57 at h
 refine fn_of_E Try.func57 rfl (Nat.le_of_ble_eq_true rfl) fun g0 hm hfr => ?_
 have qf0 : PT g0.m wI z0 pf0 := hm ▸ qf0
 have qf1 : PT g0.m wI z1 pf1 := hm ▸ qf1
 show E _ 12 none _ _ _ _ _
 refine Zf (Za (Zg (.bool false) rfl rfl ?_))
 refine Zb (Zd (Zf (Zs (x := .tmp 1) Try.isAgg101 Try.sizeOf101 qf0 fun v1 r1 hl1 => ?_)))
 refine Zs (x := .tmp 2) Try.isAgg96 Try.sizeOf96 qf1 fun v2 r2 hl2 => ?_
 obtain ⟨y4, o0, h⟩ := bsome h
 obtain ⟨y5, hy5, h⟩ := bsome h
 have q6 := PT_idx r1 hy5
 refine Zs (x := .tmp 10) Try.isAgg4 Try.sizeOf4 q6 fun v7 r7 hl7 => ?_
 obtain rfl := RV_bool.1 r7
 refine E_drawL (g := g0) (n := 8) [(2, (fun v g w => v = .int .i64 (y4)))] [0, 1, 2, 3, 4, 5, 6, 7] rfl mixed (by kernel_rfl) (⟨fun _ => up_eq _, trivial⟩) ?_
 refine L_ld (c := v1) rfl rfl .plain (fun _ _ h => h.ch) hl1 rfl ?_
 refine L_ld (c := v2) rfl rfl .plain (fun _ _ h => h.ch) hl2 rfl ?_
 refine L_do (φ := fun v g w => v = .int .i64 (y4)) rfl rfl .plain (fun g w hd => Zp (g := g) (vs := [v2]) en53 (.cons rfl .nil) (wk53 (r2.ext hd.1) o0) fun g' w' v hs hr => ⟨g', hs, hr⟩) (fun v3 hv => ?_)
 obtain ⟨_, _, _, rfl⟩ := hv
 refine L_p (.int .i64 (x0)) rfl rfl (Zk rfl) ?_
 refine L_p (.int .i64 ((bit64 .andNot y4 x0))) rfl rfl (P_int rfl rfl rfl) ?_
 refine L_p (ePtr v1 (bit64 .andNot y4 x0) 1) rfl rfl (Zh (α := Bool) Try.underlying101 Try.sizeOf4 rfl r1 rfl hy5) ?_
 refine L_ld (c := .bool (y5)) rfl rfl .plain (fun _ _ h => h.ch) hl7 rfl ?_
 refine L_p (.bool (y5)) rfl rfl (P_assign rfl) ?_
 refine L_nl fun g8 w8 hs => ?_
 have hfr := hfr.ext hs
 clear hs
 refine Zb (Zd (E_ret ?_))
 obtain rfl := sinj h
 exact end1 rfl rfl (show _ = .bool (y5) from rfl) ⟨_, hfr, rfl⟩
def f59 (x0 : Int) : Option ((List Int)) :=
 Option.bind (α := (List Int)) (
  lp (σ := (List Int) × Int) (fun j7 (u0, o0) =>
   jn (σ := Unit) (fun _ =>
    Option.bind (α := (List Int)) (
     (shr64 x0 o0).bind fun z3 =>
     bif ((bit64 .and z3 (1 : Int)) == (1 : Int)) then
      (apnd 8 u0 (([o0] : List Int))).bind fun m7 =>
      some (m7)
     else
      some (u0)
     ) fun j1 =>
    j7 (j1, (w64 (o0 + (1 : Int))))
    ) fun n7 =>
   (shr64 x0 o0).bind fun l5 =>
   bif (decide (l5 > (0 : Int))) then
    n7 ()
   else
    some (u0)
   ) big ([], (0 : Int))
  ) fun d3 =>
 some (d3)
theorem en59 : Enters Try.prog 59 := enters_of Try.func59 (by kernel_rfl) rfl
theorem wk59 {gI : Gh} {wI : World} {x0 : Int}  {r : (List Int)} (h : f59 x0 = some r) : Fn Try.prog 59 #[.int .i64 (x0)] gI wI (fun m w v => RV m w (r) v) := by
 unfold f59 at h
 refine fn_of_E Try.func59 rfl (Nat.le_of_ble_eq_true rfl) fun g0 hm hfr => ?_
 show E _ 20 none _ _ _ _ _
 refine Zf (Za (Zg (.slice none 0 0) rfl rfl ?_))
 refine Zb (Zd ?_)
 obtain ⟨d3, hx, h⟩ := bsome h
 refine E_join (fun e w => ∃ (g : Gh) (v2 : Value), Fr gI wI g w ∧ e 2 = v2 ∧ RV g.m w (d3 : List Int) v2 ∧ OS 1002 g w 3 (d3 : List Int) v2) (fun Q' hQ => ?_) (fun t8 a9 hR => ?_)
 ·replace h := hx
  clear hx
  refine Zf (Za (Zg (.int .i64 (0)) rfl rfl ?_))
  refine Zb (Zd (Zr ?_))
  refine E_lp h (fun (s : (List Int) × Int) e w => ∃ (g : Gh) (v2 : Value), Fr gI wI g w ∧ e 0 = .int .i64 (x0) ∧ e 2 = v2 ∧ RV g.m w (s.1 : List Int) v2 ∧ OS 1002 g w 3 (s.1 : List Int) v2 ∧ e 3 = .int .i64 (s.2)) ⟨g0, (.slice none 0 0), hfr, rfl, rfl, RV_nil, OS.nil, rfl⟩ (fun X20 j7 c8 => ?_)
  rintro ⟨u0, o0⟩ v8 d9 ⟨o7, z2, hfr, q5, t5, x5, i6, j6⟩ h
  refine Zq h (fun (s : Unit) e w => ∃ (g : Gh) , Fr gI wI g w ∧ e 0 = .int .i64 (x0) ∧ e 2 = z2 ∧ RV g.m w (u0 : List Int) z2 ∧ OS 1002 g w 3 (u0 : List Int) z2 ∧ e 3 = .int .i64 (o0)) (fun X24 n7 e8 h => ?_) ?_
  ·refine Zf (Za (Zo q5 rfl ?_))
   refine Zo j6 rfl ?_
   obtain ⟨l5, g8, h⟩ := bsome h
   refine EL_p (.int .i64 (l5)) (P_int rfl rfl (congrArg (Option.map (Value.int .i64)) g8)) rfl ?_
   refine EL_in (.bool ((decide (l5 > (0 : Int))))) rfl rfl rfl rfl ?_
   refine Zb (Zd ?_)
   rcases Zt h with ⟨z4, h⟩ | ⟨z4, h⟩
   ·refine E_ct z4 rfl ?_
    exact Zu (Zd (e8 () _ _ ⟨o7, hfr, q5, t5, x5, i6, j6⟩ h))
   ·refine E_cf z4 rfl ?_
    refine E_exit ?_
    refine thn_e ?_
    refine thn_e ?_
    refine blk_hit ?_
    obtain rfl := sinj h
    exact hQ _ _ ⟨o7, (z2), hfr, t5, x5, i6⟩
  ·rintro _ x8 e9 ⟨u7, hfr, u3, v6, i3, j3, o3⟩ h
   obtain ⟨j1, hx, h⟩ := bsome h
   refine E_join (fun e w => ∃ (g : Gh) (v2 : Value), Fr gI wI g w ∧ e 0 = .int .i64 (x0) ∧ e 2 = v2 ∧ RV g.m w (j1 : List Int) v2 ∧ OS 1002 g w 3 (j1 : List Int) v2 ∧ e 3 = .int .i64 (o0)) (fun Q' hQ => ?_) (fun y8 i9 hR => ?_)
   ·replace h := hx
    clear hx
    refine Zr ?_
    refine Zf (Za (Zo u3 rfl ?_))
    refine Zo o3 rfl ?_
    obtain ⟨z3, i8, h⟩ := bsome h
    refine EL_p (.int .i64 (z3)) (P_int rfl rfl (congrArg (Option.map (Value.int .i64)) i8)) rfl ?_
    refine EL_in (.int .i64 ((bit64 .and z3 (1 : Int)))) rfl rfl rfl rfl ?_
    refine EL_in (.bool (((bit64 .and z3 (1 : Int)) == (1 : Int)))) rfl rfl rfl rfl ?_
    refine Zb (Zd ?_)
    rcases Zt h with ⟨i5, h⟩ | ⟨i5, h⟩
    ·refine E_ct i5 rfl ?_
     refine Za (Zo v6 rfl ?_)
     refine Zo o3 rfl ?_
     refine Ze .plain rfl (D_buildSlice (g := u7) 3017 (xs := ([o0] : List Int)) (vs := [.int .i64 (o0)]) Try.underlying22 Try.sizeOf3 Try.zeroValue3 rfl rfl (.cons rfl .nil) (RVs.cons (Zj.2 rfl) RVs.nil) rfl rfl fun l8 k9 l9 hs o35 m8 hxt hfl => ?_)
     have hfr := hfr.stp hs
     have i3 := i3.stp hs
     have j3 := j3.stp hs rfl
     obtain ⟨m7, k8, h⟩ := bsome h
     refine Ze .plain rfl (D_append (g := l8) (i := 1002) Try.underlying22 info_3 rfl rfl j3 i3 rfl m8 k8 fun n8 n9 v7 hs o36 o8 _ => ?_)
     have hfr := hfr.stp hs
     refine Zg v7 rfl rfl ?_
     refine Zb (blk_n ?_)
     obtain rfl := sinj h
     exact hQ _ _ ⟨n8, (v7), hfr, u3, rfl, o8, o36, o3⟩
    ·refine E_cf i5 rfl ?_
     refine Zu (blk_n ?_)
     obtain rfl := sinj h
     exact hQ _ _ ⟨u7, (z2), hfr, u3, v6, i3, j3, o3⟩
   ·clear hx
    obtain ⟨q8, y6, hfr, a7, b7, c7, d7, e7⟩ := hR
    refine Za (Zo e7 rfl ?_)
    refine EL_in (.int .i64 ((w64 (o0 + (1 : Int))))) rfl rfl rfl rfl ?_
    refine Zg (.int .i64 ((w64 (o0 + (1 : Int))))) rfl rfl ?_
    exact Zb (Zd (c8 (j1, (w64 (o0 + (1 : Int)))) _ _ ⟨q8, (y6), hfr, a7, b7, c7, d7, rfl⟩ h))
 ·clear hx
  obtain ⟨o9, x6, hfr, g7, i7, r8⟩ := hR
  refine Zf (Za (Zo g7 rfl ?_))
  refine Zg x6 rfl rfl ?_
  refine Zb (Zd (E_ret ?_))
  obtain rfl := sinj h
  exact end1 rfl rfl (show _ = x6 from rfl) ⟨_, hfr, i7⟩
def f64 (x0 : LoomLoomMill) (x1 : Int) (x2 : Int) : Option (Int) :=
 Option.bind (α := Int) (
  lp (σ := Int × Int) (fun k48 (j1, o0) =>
   bif (decide (o0 < (((x0).orders).length : Int))) then
    Option.bind (α := Int) (
     (idx ((x0).orders) o0).bind fun y70 =>
     Option.bind (α := Bool) (
      bif (decide ((y70).Early ≥ x1)) then
       some ((decide ((y70).Late ≤ x2)))
      else
       some (false)
      ) fun s25_85 =>
     bif s25_85 then
      some ((w64 (j1 + (y70).Woven)))
     else
      some (j1)
     ) fun s6_89 =>
    k48 (s6_89, (w64 (o0 + (1 : Int))))
   else
    some (j1)
   ) big ((0 : Int), (0 : Int))
  ) fun d3 =>
 some (d3)
theorem en64 : Enters Try.prog 64 := enters_of Try.func64 (by kernel_rfl) rfl
theorem wk64 {gI : Gh} {wI : World} {x0 : LoomLoomMill} {x1 : Int} {x2 : Int} {up0 : Value} (rp0 : RV gI.m wI x0 up0) {r : Int} (h : f64 x0 x1 x2 = some r) : Fn Try.prog 64 #[up0, .int .i64 (x1), .int .i64 (x2)] gI wI (fun _ _ v => v = .int .i64 (r)) := by
 unfold f64 at h
 refine fn_of_E Try.func64 rfl (Nat.le_of_ble_eq_true rfl) fun g0 hm hfr => ?_
 have rp0 : RV g0.m wI x0 up0 := hm ▸ rp0
 show E _ 32 none _ _ _ _ _
 refine Zf (Za (Ze .plain rfl (D_box (g := g0) rfl rp0 fun g1 w1 p1 hs q1 => ?_)))
 have hfr := hfr.ext hs
 refine Zg (.int .i64 (0)) rfl rfl ?_
 refine Zb (Zd ?_)
 obtain ⟨d3, hx, h⟩ := bsome h
 refine E_join (fun e w => ∃ (g : Gh) , Fr gI wI g w ∧ e 6 = .int .i64 (d3)) (fun Q' hQ => ?_) (fun y8 i9 hR => ?_)
 ·replace h := hx
  clear hx
  refine Zf (Za (EL_p (fPtr p1 2) (Zc at_96_1 rfl (PT.ptr q1)) rfl ?_))
  have m8 := Zm (part_LoomLoomMill_1).1 q1
  refine Ze .plain rfl (D_load (g := g1) Try.isAgg25 Try.sizeOf25 rfl m8 fun j3 k8 => ?_)
  refine EL_p (.int .i64 (((x0).orders).length : Int)) (P_len Try.underlying25 rfl k8) rfl ?_
  refine Zn (.int .i64 (0)) rfl rfl ?_
  refine Zb (Zd (Zr ?_))
  refine E_lp h (fun (s : Int × Int) e w => ∃ (g : Gh) , Fr gI wI g w ∧ e 1 = .int .i64 (x1) ∧ e 2 = .int .i64 (x2) ∧ e 6 = .int .i64 (s.1) ∧ e 10 = j3 ∧ RV g.m w ((x0).orders : List LoomOrder) j3 ∧ e 11 = .int .i64 ((((x0).orders).length : Int)) ∧ e 12 = .int .i64 (s.2)) ⟨g1, hfr, rfl, rfl, rfl, rfl, k8, rfl, rfl⟩ (fun X48 k48 l8 => ?_)
  rintro ⟨j1, o0⟩ a9 k9 ⟨e7, hfr, z3, z4, i5, o3, u0, u3, i3⟩ h
  refine Zf (Za (EL_p (.bool ((decide (o0 < (((x0).orders).length : Int))))) (P_int i3 u3 rfl) rfl ?_))
  refine Zb (Zd (Zf ?_))
  rcases Zt h with ⟨v6, h⟩ | ⟨v6, h⟩
  ·refine E_ct v6 rfl ?_
   refine Zu (Zd ?_)
   obtain ⟨s6_89, hx, h⟩ := bsome h
   refine E_join (fun e w => ∃ (g : Gh) , Fr gI wI g w ∧ e 1 = .int .i64 (x1) ∧ e 2 = .int .i64 (x2) ∧ e 6 = .int .i64 (s6_89) ∧ e 10 = j3 ∧ RV g.m w ((x0).orders : List LoomOrder) j3 ∧ e 11 = .int .i64 ((((x0).orders).length : Int)) ∧ e 12 = .int .i64 (o0)) (fun Q' hQ => ?_) (fun d9 l9 hR => ?_)
   ·replace h := hx
    clear hx
    refine Zr ?_
    refine Zf (Za ?_)
    obtain ⟨y70, g7, h⟩ := bsome h
    refine EL_p (ePtr j3 o0 5) (Zh (α := LoomOrder) Try.underlying25 Try.sizeOf82 o3 u0 i3 g7) rfl ?_
    have n8 := PT_idx u0 g7
    refine Ze .plain rfl (D_load (g := e7) Try.isAgg82 Try.sizeOf82 rfl n8 fun o8 i7 => ?_)
    refine Ze .plain rfl (D_allocOc (g := e7) 2008 (⟨0, 0, 0, 0, 0⟩ : LoomOrder) Try.zeroValue82 (fun m w => ⟨_, (rep_two rep_int (rep_two rep_int (rep_two rep_int (rep_two rep_int rep_int)))), rfl⟩) fun q8 n9 l5 hs b73 cb => ?_)
    have hfr := hfr.stp hs
    have u0 := u0.stp hs
    have i7 := i7.stp hs
    clear cb
    refine Ze .plain rfl (D_storeOc (g := q8) (v := o8) Try.sizeOf82 rfl b73 rfl i7 fun y6 o9 hs b74 cb => ?_)
    clear cb
    have hfr := hfr.stp hs
    have u0 := u0.stp hs
    refine Zb (Zd ?_)
    obtain ⟨s25_85, hx, h⟩ := bsome h
    refine E_join (fun e w => ∃ (g : Gh) , Fr gI wI g w ∧ e 1 = .int .i64 (x1) ∧ e 2 = .int .i64 (x2) ∧ e 6 = .int .i64 (j1) ∧ e 8 = l5 ∧ OB 2008 g w 82 (y70 : LoomOrder) l5 ∧ e 10 = j3 ∧ RV g.m w ((x0).orders : List LoomOrder) j3 ∧ e 11 = .int .i64 ((((x0).orders).length : Int)) ∧ e 12 = .int .i64 (o0) ∧ e 25 = .bool (s25_85)) (fun Q' hQ => ?_) (fun e9 t9 hR => ?_)
    ·replace h := hx
     clear hx
     refine Za (EL_p (fPtr l5 3) (Zc at_82_3 rfl (OB.ptr b74)) rfl ?_)
     refine Ze .plain rfl (D_loadF (g := y6) part_LoomOrder_3.1 Try.isAgg3 Try.sizeOf3 rfl b74 fun u9 r8 => ?_)
     obtain rfl := Zj.1 r8
     refine Zo z3 rfl ?_
     refine EL_in (.bool ((decide ((y70).Early ≥ x1)))) rfl rfl rfl rfl ?_
     refine Zn (.bool ((decide ((y70).Early ≥ x1)))) rfl rfl ?_
     rcases Zt h with ⟨z2, h⟩ | ⟨z2, h⟩
     ·refine EL_y (fPtr l5 4) (Zc at_82_4 rfl (OB.ptr b74)) rfl rfl z2 rfl ?_
      refine Ze (.yes2 rfl rfl z2) rfl (D_loadF (g := y6) part_LoomOrder_4.1 Try.isAgg3 Try.sizeOf3 rfl b74 fun y9 t8 => ?_)
      obtain rfl := Zj.1 t8
      refine EL_y (.int .i64 (x2)) (Zk z4) rfl rfl z2 rfl ?_
      refine EL_y (.bool ((decide ((y70).Late ≤ x2)))) (P_int rfl rfl rfl) rfl rfl z2 rfl ?_
      refine EL_p (.bool ((decide ((y70).Late ≤ x2)))) (Zl (b := (decide ((y70).Early ≥ x1))) rfl (pick_t z2 rfl)) rfl ?_
      refine Zb ?_
      obtain rfl := sinj h
      exact hQ _ _ ⟨y6, hfr, z3, z4, i5, rfl, b74, o3, u0, u3, i3, rfl⟩
     ·refine EL_s rfl rfl z2 rfl rfl ?_
      iterate 3 refine EL_s rfl rfl z2 rfl rfl ?_
      refine EL_p (.bool false) (Zl (b := (decide ((y70).Early ≥ x1))) rfl (pick_f z2 rfl)) rfl ?_
      refine Zb ?_
      obtain rfl := sinj h
      exact hQ _ _ ⟨y6, hfr, z3, z4, i5, rfl, b74, o3, u0, u3, i3, rfl⟩
    ·clear hx
     obtain ⟨j7, hfr, a7, b7, c7, v7, d7, q5, t5, x5, i6, j6⟩ := hR
     rcases Zt h with ⟨x6, h⟩ | ⟨x6, h⟩
     ·refine E_cond_true (Eq.trans (show ev _ _ = .bool (s25_85) from j6) (congrArg Value.bool x6)) ?_
      refine Za (Zo c7 rfl ?_)
      refine EL_p (fPtr l5 2) (Zc at_82_2 v7 (OB.ptr d7)) rfl ?_
      refine Ze .plain rfl (D_loadF (g := j7) part_LoomOrder_2.1 Try.isAgg3 Try.sizeOf3 rfl d7 fun z9 v8 => ?_)
      obtain rfl := Zj.1 v8
      refine EL_in (.int .i64 ((w64 (j1 + (y70).Woven)))) rfl rfl rfl rfl ?_
      refine Zg (.int .i64 ((w64 (j1 + (y70).Woven)))) rfl rfl ?_
      refine Zb (blk_n ?_)
      obtain rfl := sinj h
      exact hQ _ _ ⟨j7, hfr, a7, b7, rfl, q5, t5, x5, i6⟩
     ·refine E_cond_false (Eq.trans (show ev _ _ = .bool (s25_85) from j6) (congrArg Value.bool x6)) ?_
      refine Zu (blk_n ?_)
      obtain rfl := sinj h
      exact hQ _ _ ⟨j7, hfr, a7, b7, c7, q5, t5, x5, i6⟩
   ·clear hx
    obtain ⟨x8, hfr, c8, e8, g8, m7, n7, o7, u7⟩ := hR
    refine Za (EL_in (.int .i64 ((w64 (o0 + (1 : Int))))) u7 rfl rfl rfl ?_)
    refine Zn (.int .i64 ((w64 (o0 + (1 : Int))))) rfl rfl ?_
    exact Zb (Zd (l8 (s6_89, (w64 (o0 + (1 : Int)))) _ _ ⟨x8, hfr, c8, e8, g8, m7, n7, o7, rfl⟩ h))
  ·refine E_cf v6 rfl ?_
   refine E_exit ?_
   refine thn_e ?_
   refine thn_e ?_
   refine blk_hit ?_
   obtain rfl := sinj h
   exact hQ _ _ ⟨e7, hfr, i5⟩
 ·clear hx
  obtain ⟨bA, hfr, i8⟩ := hR
  refine Zf (Za (Zo i8 rfl ?_))
  refine Zg (.int .i64 (d3)) rfl rfl ?_
  refine Zb (Zd (E_ret ?_))
  obtain rfl := sinj h
  exact end1 rfl rfl (show _ = .int .i64 (d3) from rfl) ⟨_, hfr, rfl⟩
def f73 (x0 : LoomLoomMill) (x1 : LoomRun) : Option (Int) :=
 (idx ((x0).orders) (x1).Order).bind fun y9 =>
 some ((w64 ((x1).From + (y9).Woven)))
theorem en73 : Enters Try.prog 73 := enters_of Try.func73 (by kernel_rfl) rfl
theorem wk73 {gI : Gh} {wI : World} {x0 : LoomLoomMill} {x1 : LoomRun} {up0 : Value} (rp0 : RV gI.m wI x0 up0) {up1 : Value} (rp1 : RV gI.m wI x1 up1) {r : Int} (h : f73 x0 x1 = some r) : Fn Try.prog 73 #[up0, up1] gI wI (fun _ _ v => v = .int .i64 (r)) := by
 unfold f73 at h
 refine fn_of_E Try.func73 rfl (Nat.le_of_ble_eq_true rfl) fun g0 hm hfr => ?_
 have rp0 : RV g0.m wI x0 up0 := hm ▸ rp0
 have rp1 : RV g0.m wI x1 up1 := hm ▸ rp1
 show E _ 15 none _ _ _ _ _
 refine Zf (Za (Ze .plain rfl (D_box (g := g0) rfl rp0 fun g1 w1 p1 hs q1 => ?_)))
 have hfr := hfr.ext hs
 have rp1 := rp1.ext hs
 refine Ze .plain rfl (D_box (g := g1) rfl rp1 fun g2 w2 p2 hs q2 => ?_)
 have hfr := hfr.ext hs
 have q1 := q1.ext hs
 refine Zg (.int .i64 (0)) rfl rfl ?_
 refine Zb (Zd (Zf ?_))
 have q3 := Zm (part_LoomRun_2).1 q2
 refine Zs (x := .tmp 5) Try.isAgg3 Try.sizeOf3 q3 fun v4 r4 j1 => ?_
 obtain rfl := Zj.1 r4
 have q5 := Zm (part_LoomLoomMill_1).1 q1
 refine Zs (x := .tmp 7) Try.isAgg25 Try.sizeOf25 q5 fun v6 r6 z2 => ?_
 have q7 := Zm (part_LoomRun_0).1 q2
 refine Zs (x := .tmp 9) Try.isAgg3 Try.sizeOf3 q7 fun v8 r8 d3 => ?_
 obtain rfl := Zj.1 r8
 obtain ⟨y9, o0, h⟩ := bsome h
 have u0 := PT_idx r6 o0
 have i3 := Zm (part_LoomOrder_2).1 u0
 refine Zs (x := .tmp 12) Try.isAgg3 Try.sizeOf3 i3 fun o3 j3 hl12 => ?_
 obtain rfl := Zj.1 j3
 refine E_drawL (g := g2) (n := 11) [] [0, 1, 2, 3, 4, 5, 6, 7, 8, 9, 10] rfl mixed (by kernel_rfl) trivial ?_
 refine L_p (fPtr p2 2) rfl rfl (Zc at_76_2 rfl (PT.ptr q2)) ?_
 refine L_ld (c := .int .i64 ((x1).From)) rfl rfl .plain (fun _ _ h => h.ch) j1 rfl ?_
 refine L_p (fPtr p1 2) rfl rfl (Zc at_96_1 rfl (PT.ptr q1)) ?_
 refine L_ld (c := v6) rfl rfl .plain (fun _ _ h => h.ch) z2 rfl ?_
 refine L_p (fPtr p2 0) rfl rfl (Zc at_76_0 rfl (PT.ptr q2)) ?_
 refine L_ld (c := .int .i64 ((x1).Order)) rfl rfl .plain (fun _ _ h => h.ch) d3 rfl ?_
 refine L_p (ePtr v6 (x1).Order 5) rfl rfl (Zh (α := LoomOrder) Try.underlying25 Try.sizeOf82 rfl r6 rfl o0) ?_
 refine L_p (fPtr (ePtr v6 (x1).Order 5) 2) rfl rfl (Zc at_82_2 rfl (PT.ptr u0)) ?_
 refine L_ld (c := .int .i64 ((y9).Woven)) rfl rfl .plain (fun _ _ h => h.ch) hl12 rfl ?_
 refine L_p (.int .i64 ((w64 ((x1).From + (y9).Woven)))) rfl rfl (P_int rfl rfl rfl) ?_
 refine L_p (.int .i64 ((w64 ((x1).From + (y9).Woven)))) rfl rfl (P_assign rfl) ?_
 refine L_nl fun u3 z3 hs => ?_
 have hfr := hfr.ext hs
 clear hs
 refine Zb (Zd (E_ret ?_))
 obtain rfl := sinj h
 exact end1 rfl rfl (show _ = .int .i64 ((w64 ((x1).From + (y9).Woven))) from rfl) ⟨_, hfr, rfl⟩
def f75 (x0 : List LoomOrder) (x1 : LoomRun) (x2 : LoomStop) : Option (Bool) :=
 jn (σ := Unit) (fun _ =>
  some (false)
  ) fun c7 =>
 lp (σ := Int) (fun d7 o0 =>
  jn (σ := Unit) (fun _ =>
   jn (σ := Unit) (fun _ =>
    d7 ((w64 (o0 + (1 : Int))))
    ) fun e7 =>
   Option.bind (α := Bool) (
    bif ((x1).Loom == (x2).Loom) then
     (f36 o0 (((x2).Days).Low) (((x2).Days).High)).bind fun a7 =>
     some (a7)
    else
     some (false)
    ) fun d3 =>
   bif d3 then
    some (true)
   else
    e7 ()
   ) fun g7 =>
  (idx x0 (x1).Order).bind fun z4 =>
  bif (decide (o0 < (w64 ((x1).From + (z4).Woven)))) then
   g7 ()
  else
   c7 ()
  ) big ((x1).From)
def f76 (x0 : LoomRun) (x1 : LoomRun) : Option (Bool) :=
 Option.bind (α := Bool) (
  bif (decide ((x0).From < (x1).From)) then
   some (true)
  else
   bif ((x0).From == (x1).From) then
    some ((decide ((x0).Order < (x1).Order)))
   else
    some (false)
  ) fun j1 =>
 some (j1)
def f77 (x0 : LoomMill) (x1 : List LoomOrder) (x2 : LoomRun) (x3 : LoomRun) : Option (Int) :=
 (idx x1 (x2).Order).bind fun y8 =>
 Option.bind (α := Int) (
  (idx x1 (x2).Order).bind fun y80 =>
  (idx x1 (x3).Order).bind fun j1 =>
  bif ((y80).Chain != (j1).Chain) then
   some ((w64 ((w64 ((x2).From + (y8).Woven)) + (x0).Change)))
  else
   some ((w64 ((x2).From + (y8).Woven)))
  ) fun o0 =>
 some (o0)
def f89 (x0 : List Int) : Option (Int) :=
 jn (σ := Unit) (fun _ =>
  some ((0 : Int))
  ) fun i6 =>
 lp (σ := Int) (fun j6 o0 =>
  bif (decide (o0 < ((x0).length : Int))) then
   jn (σ := Unit) (fun _ =>
    j6 ((w64 (o0 + (1 : Int))))
    ) fun v6 =>
   (idx x0 o0).bind fun y23 =>
   bif (y23 != (0 : Int)) then
    some (y23)
   else
    v6 ()
  else
   i6 ()
  ) big ((0 : Int))
theorem en89 : Enters Try.prog 89 := enters_of Try.func89 (by kernel_rfl) rfl
theorem wk89 {gI : Gh} {wI : World} {x0 : List Int} {up0 : Value} (rp0 : RV gI.m wI x0 up0) {r : Int} (h : f89 x0 = some r) : Fn Try.prog 89 #[up0] gI wI (fun _ _ v => v = .int .i64 (r)) := by
 unfold f89 at h
 refine fn_of_E Try.func89 rfl (Nat.le_of_ble_eq_true rfl) fun g0 hm hfr => ?_
 have rp0 : RV g0.m wI x0 up0 := hm ▸ rp0
 show E _ 18 none _ _ _ _ _
 refine Zf (Za (Zg (.int .i64 (0)) rfl rfl ?_))
 refine Zb (Zd (Zf (Za (Zg (.int .i64 (0)) rfl rfl ?_))))
 refine Zb (Zd (Zq h (fun (s : Unit) e w => ∃ (g : Gh) , Fr gI wI g w ∧ e 3 = .int .i64 ((0 : Int))) (fun X14 i6 x6 h => ?_) ?_))
 ·refine Zf (Za (Zn up0 rfl rfl ?_))
  refine EL_p (.int .i64 ((x0).length : Int)) (P_len Try.underlying22 rfl rp0) rfl ?_
  refine Zn (.int .i64 (0)) rfl rfl ?_
  refine Zb (Zd (Zr ?_))
  refine E_lp h (fun (s : Int) e w => ∃ (g : Gh) , Fr gI wI g w ∧ e 3 = .int .i64 ((0 : Int)) ∧ e 6 = up0 ∧ RV g.m w (x0 : List Int) up0 ∧ e 7 = .int .i64 (((x0).length : Int)) ∧ e 8 = .int .i64 (s)) ⟨g0, hfr, rfl, rfl, rp0, rfl, rfl⟩ (fun X15 j6 y6 => ?_)
  rintro o0 e7 j7 ⟨u3, hfr, u0, j3, j1, o3, z2⟩ h
  refine Zf (Za (EL_in (.bool ((decide (o0 < ((x0).length : Int))))) z2 o3 rfl rfl ?_))
  refine Zb (Zd (Zf ?_))
  rcases Zt h with ⟨d3, h⟩ | ⟨d3, h⟩
  ·refine E_ct d3 rfl ?_
   refine Zu (Zd (Zq h (fun (s : Unit) e w => ∃ (g : Gh) , Fr gI wI g w ∧ e 3 = .int .i64 ((0 : Int)) ∧ e 6 = up0 ∧ RV g.m w (x0 : List Int) up0 ∧ e 7 = .int .i64 (((x0).length : Int)) ∧ e 8 = .int .i64 (o0)) (fun X22 v6 a7 h => ?_) ?_))
   ·refine Zr ?_
    refine Zf (Za ?_)
    obtain ⟨y23, z3, h⟩ := bsome h
    refine EL_p (ePtr up0 o0 1) (Zh (α := Int) Try.underlying22 Try.sizeOf3 j3 j1 z2 z3) rfl ?_
    have b7 := PT_idx j1 z3
    refine Ze .plain rfl (D_load (g := u3) Try.isAgg3 Try.sizeOf3 rfl b7 fun m7 c7 => ?_)
    obtain rfl := Zj.1 c7
    refine Zg (.int .i64 (y23)) rfl rfl ?_
    refine Zb (Zd (Zf (Za (Zn (.int .i64 (y23)) rfl rfl ?_))))
    refine Zo u0 rfl ?_
    refine EL_in (.bool ((y23 != (0 : Int)))) rfl rfl rfl rfl ?_
    refine Zb (Zd ?_)
    rcases Zt h with ⟨i3, h⟩ | ⟨i3, h⟩
    ·refine E_ct i3 rfl ?_
     refine Zf (Za (Zn (.int .i64 (y23)) rfl rfl ?_))
     refine Zg (.int .i64 (y23)) rfl rfl ?_
     refine Zb (Zd (E_ret (blk_r ?_)))
     refine thn_r ?_
     refine thn_r ?_
     refine blk_r ?_
     refine thn_r ?_
     obtain rfl := sinj h
     exact end1 rfl rfl (show _ = .int .i64 (y23) from rfl) ⟨_, hfr, rfl⟩
    ·refine E_cf i3 rfl ?_
     exact Zu (blk_n (Zd (a7 () _ _ ⟨u3, hfr, u0, j3, j1, o3, z2⟩ h)))
   ·rintro _ g7 n7 ⟨d7, hfr, z4, i5, l5, q5, t5⟩ h
    refine Za (EL_in (.int .i64 ((w64 (o0 + (1 : Int))))) t5 rfl rfl rfl ?_)
    refine Zn (.int .i64 ((w64 (o0 + (1 : Int))))) rfl rfl ?_
    exact Zb (Zd (y6 ((w64 (o0 + (1 : Int)))) _ _ ⟨d7, hfr, z4, i5, l5, q5, rfl⟩ h))
  ·refine E_cf d3 rfl ?_
   refine E_exit ?_
   refine thn_e ?_
   refine thn_e ?_
   refine blk_hit ?_
   exact Zd (x6 () _ _ ⟨u3, hfr, u0⟩ h)
 ·rintro _ i7 o7 ⟨u7, hfr, x5⟩ h
  refine Zf (Za (Zo x5 rfl ?_))
  refine Zg (.int .i64 ((0 : Int))) rfl rfl ?_
  refine Zb (Zd (E_ret ?_))
  obtain rfl := sinj h
  exact end1 rfl rfl (show _ = .int .i64 ((0 : Int)) from rfl) ⟨_, hfr, rfl⟩
def f91 (x0 : List LoomRun) (x1 : LoomRun → Option Bool) : Option (Int) :=
 jn (σ := Unit) (fun _ =>
  some ((-1 : Int))
  ) fun k18 =>
 lp (σ := Int) (fun k19 o0 =>
  bif (decide (o0 < ((x0).length : Int))) then
   jn (σ := Unit) (fun _ =>
    k19 ((w64 (o0 + (1 : Int))))
    ) fun k28 =>
   (idx x0 o0).bind fun x5 =>
   (x1 x5).bind fun i6 =>
   bif i6 then
    some (o0)
   else
    k28 ()
  else
   k18 ()
  ) big ((0 : Int))
theorem en91 : Enters Try.prog 91 := enters_of Try.func91 (by kernel_rfl) rfl
theorem wk91 {gI : Gh} {wI : World} {x0 : List LoomRun} {x1 : LoomRun → Option Bool} {up0 : Value} (rp0 : RV gI.m wI x0 up0) {up1 : Value} (rp1 : FnV1 Try.prog x1 up1 gI wI) {r : Int} (h : f91 x0 x1 = some r) : Fn Try.prog 91 #[up0, up1] gI wI (fun _ _ v => v = .int .i64 (r)) := by
 unfold f91 at h
 refine fn_of_E Try.func91 rfl (Nat.le_of_ble_eq_true rfl) fun g0 hm hfr => ?_
 have rp0 : RV g0.m wI x0 up0 := hm ▸ rp0
 obtain ⟨ff1, fa1, fc1, rfl, fen1, fcl1⟩ := rp1
 show E _ 19 none _ _ _ _ _
 refine Zf (Za (Zg (.int .i64 (0)) rfl rfl ?_))
 refine Zb (Zd (Zq h (fun (s : Unit) e w => ∃ (g : Gh) , Fr gI wI g w) (fun X18 k18 j6 h => ?_) ?_))
 ·refine Zf (Za (Zn up0 rfl rfl ?_))
  refine EL_p (.int .i64 ((x0).length : Int)) (P_len Try.underlying31 rfl rp0) rfl ?_
  refine Zn (.int .i64 (0)) rfl rfl ?_
  refine Zb (Zd (Zr ?_))
  refine E_lp h (fun (s : Int) e w => ∃ (g : Gh) , Fr gI wI g w ∧ e 0 = up0 ∧ RV g.m w (x0 : List LoomRun) up0 ∧ e 1 = (.func (.func ff1) fa1 fc1) ∧ e 7 = .int .i64 (((x0).length : Int)) ∧ e 8 = .int .i64 (s)) ⟨g0, hfr, rfl, rp0, rfl, rfl, rfl⟩ (fun X19 k19 v6 => ?_)
  rintro o0 g7 m7 ⟨u3, hfr, i3, u0, j3, o3, j1⟩ h
  refine Zf (Za (EL_in (.bool ((decide (o0 < ((x0).length : Int))))) j1 o3 rfl rfl ?_))
  refine Zb (Zd (Zf ?_))
  rcases Zt h with ⟨z2, h⟩ | ⟨z2, h⟩
  ·refine E_ct z2 rfl ?_
   refine Zu (Zd (Zq h (fun (s : Unit) e w => ∃ (g : Gh) , Fr gI wI g w ∧ e 0 = up0 ∧ RV g.m w (x0 : List LoomRun) up0 ∧ e 1 = (.func (.func ff1) fa1 fc1) ∧ e 7 = .int .i64 (((x0).length : Int)) ∧ e 8 = .int .i64 (o0)) (fun X28 k28 x6 h => ?_) ?_))
   ·refine Zr ?_
    refine Zf (Za (Zo j1 rfl ?_))
    refine Zg (.int .i64 (o0)) rfl rfl ?_
    refine Zb (Zd (Zf (Za (Zo j3 rfl ?_))))
    refine Zo i3 rfl ?_
    refine Zn (.int .i64 (o0)) rfl rfl ?_
    obtain ⟨x5, z3, h⟩ := bsome h
    refine EL_p (ePtr up0 o0 3) (Zh (α := LoomRun) Try.underlying31 Try.sizeOf76 rfl u0 rfl z3) rfl ?_
    have a7 := PT_idx u0 z3
    refine Ze .plain rfl (D_load (g := u3) Try.isAgg76 Try.sizeOf76 rfl a7 fun b7 c7 => ?_)
    obtain ⟨i6, y6, h⟩ := bsome h
    refine Ze .plain rfl (D_callv (g := u3) (vs := [b7]) rfl fen1 (.cons rfl .nil) (fcl1 _ _ hfr.ch _ _ _  c7 y6) fun d7 n7 o7 hs hr => ?_)
    have hfr := hfr.ext hs
    have u0 := u0.ext hs
    obtain rfl := RV_bool.1 hr
    refine Zb (Zd ?_)
    rcases Zt h with ⟨d3, h⟩ | ⟨d3, h⟩
    ·refine E_ct d3 rfl ?_
     refine Zf (Za (Zn (.int .i64 (o0)) rfl rfl ?_))
     refine Zg (.int .i64 (o0)) rfl rfl ?_
     refine Zb (Zd (E_ret (blk_r ?_)))
     refine thn_r ?_
     refine thn_r ?_
     refine blk_r ?_
     refine thn_r ?_
     obtain rfl := sinj h
     exact end1 rfl rfl (show _ = .int .i64 (o0) from rfl) ⟨_, hfr, rfl⟩
    ·refine E_cf d3 rfl ?_
     exact Zu (blk_n (Zd (x6 () _ _ ⟨d7, hfr, i3, u0, j3, o3, j1⟩ h)))
   ·rintro _ i7 u7 ⟨e7, hfr, z4, i5, l5, q5, t5⟩ h
    refine Za (EL_in (.int .i64 ((w64 (o0 + (1 : Int))))) t5 rfl rfl rfl ?_)
    refine Zn (.int .i64 ((w64 (o0 + (1 : Int))))) rfl rfl ?_
    exact Zb (Zd (v6 ((w64 (o0 + (1 : Int)))) _ _ ⟨e7, hfr, z4, i5, l5, q5, rfl⟩ h))
  ·refine E_cf z2 rfl ?_
   refine E_exit ?_
   refine thn_e ?_
   refine thn_e ?_
   refine blk_hit ?_
   exact Zd (j6 () _ _ ⟨u3, hfr⟩ h)
 ·rintro _ j7 v7 ⟨c8, hfr⟩ h
  refine Zf (Za (Zg (.int .i64 (-1)) rfl rfl ?_))
  refine Zb (Zd (E_ret ?_))
  obtain rfl := sinj h
  exact end1 rfl rfl (show _ = .int .i64 (-1) from rfl) ⟨_, hfr, rfl⟩
end Go.Proofs.Ytnfjhdagbknlbaa
