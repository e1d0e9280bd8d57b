import Derived.Test.YtcjpochjapnoaaaGreatTypes
set_option maxRecDepth 8000
set_option maxHeartbeats 4000000
namespace Go.Proofs.YtcjpochjapnoaaaGreat
open Go.RowKit
theorem info_3 : (Tryz.prog.info? 3).map (fun i => (i.zero, i.size, i.bytes)) = some (some (.int .i64 0), 1, 8) := by kernel_rfl
theorem info_39 : (Tryz.prog.info? 39).map (fun i => (i.zero, i.size, i.bytes)) = some (some (.agg #[.int .i64 0, .int .i64 0, .int .i64 0, .int .i64 0, .bool false]), 5, 40) := by kernel_rfl
theorem info_5 : (Tryz.prog.info? 5).map (fun i => (i.zero, i.size, i.bytes)) = some (some (.int .u8 0), 1, 1) := by kernel_rfl
theorem lay_82 : layoutOf Tryz.prog 82 = some ([.int .i64 0, .int .i64 0], [(0, 1), (1, 1)]) := by kernel_rfl
theorem lay_35 : layoutOf Tryz.prog 35 = some ([.slice none 0 0, .slice none 0 0, .int .i64 0, .int .i64 0], [(0, 1), (1, 1), (2, 1), (3, 1)]) := by kernel_rfl
theorem endm_c {P : Program} {e : Env} {ds : List Deferred} {w : World} {fn : Func} {R : Value → World → Prop} {t0 : Tmp} {v0 : Value} {y0 : TypeId} {a0 : Addr} (hres : fn.results = #[.cell t0 y0]) (hd : ds = []) (h0 : e t0 = .pointer (some a0)) (l0 : (loadVar y0 a0).run P w = .ok v0 w) (h : R v0 w) : atEnd P fn R .ret e ds w :=
 ⟨hd, fun tmps ht => ⟨_, by simp [results, hres, ht, asAddr, h0, l0], h⟩⟩
theorem lay_39 : layoutOf Tryz.prog 39 = some ([.int .i64 0, .int .i64 0, .int .i64 0, .int .i64 0, .bool false], [(0, 1), (1, 1), (2, 1), (3, 1), (4, 1)]) := by kernel_rfl
theorem mixed : Tryz.prog.follows .mixedOrders = true := by kernel_rfl
theorem info_82 : (Tryz.prog.info? 82).map (fun i => (i.zero, i.size, i.bytes)) = some (some (.agg #[.int .i64 0, .int .i64 0]), 2, 16) := by kernel_rfl
theorem lay_53 : layoutOf Tryz.prog 53 = some ([.int .i64 0, .int .i64 0, .int .i64 0, .slice none 0 0, .int .i64 0], [(0, 1), (1, 1), (2, 1), (3, 1), (4, 1)]) := by kernel_rfl
theorem endm_ct {P : Program} {e : Env} {ds : List Deferred} {w : World} {fn : Func} {R : Value → World → Prop} {t0 : Tmp} {v0 : Value} {y0 : TypeId} {a0 : Addr} {t1 : Tmp} {v1 : Value} (hres : fn.results = #[.cell t0 y0, .tmp t1]) (hd : ds = []) (h0 : e t0 = .pointer (some a0)) (l0 : (loadVar y0 a0).run P w = .ok v0 w) (h1 : e t1 = v1) (h : R (.tuple #[v0, v1]) w) : atEnd P fn R .ret e ds w :=
 ⟨hd, fun tmps ht => ⟨_, by simp [results, hres, ht, asAddr, h0, l0, h1], h⟩⟩
theorem lay_29 : layoutOf Tryz.prog 29 = some ([.int .i64 0, .slice none 0 0], [(0, 1), (1, 1)]) := by kernel_rfl
theorem capf_0_2 {e : Env} {f : FuncId} {o0 : Operand} {u0 : Operand} {b0 : Value} {b1 : Value} (hb0 : ev e o0 = b0) (hb1 : ev e u0 = b1) : (Value.func (.func f) ((#[] : Array Operand).map (ev e)) ((#[o0, u0] : Array Operand).map (ev e))) = .func (.func f) #[] #[b0, b1] := by simp [hb0, hb1]
theorem lay_27 : layoutOf Tryz.prog 27 = some ([.int .i64 0, .slice none 0 0], [(0, 1), (1, 1)]) := by kernel_rfl
theorem lay_31 : layoutOf Tryz.prog 31 = some ([.int .i64 0, .slice none 0 0, .int .i64 0, .slice none 0 0], [(0, 2), (2, 2)]) := by kernel_rfl
theorem key_3 : KeyLaw Tryz.prog 3 (Value.int .i64) := keyLaw_int Tryz.underlying3
theorem lay_96 : layoutOf Tryz.prog 96 = some ([.slice none 0 0, .slice none 0 0, .int .i64 0, .int .i64 0], [(0, 4)]) := by kernel_rfl
theorem layA_178 : ((Tryz.prog.info? 178).bind (·.zero)).map (·.cells.toList) = some [.int .i64 0, .int .i64 0] := by kernel_rfl
theorem szA_37 : (Tryz.prog.info? 37).map (·.size) = some 1 := by kernel_rfl
theorem capf_0_1 {e : Env} {f : FuncId} {o0 : Operand} {b0 : Value} (hb0 : ev e o0 = b0) : (Value.func (.func f) ((#[] : Array Operand).map (ev e)) ((#[o0] : Array Operand).map (ev e))) = .func (.func f) #[] #[b0] := by simp [hb0]
theorem lay_86 : layoutOf Tryz.prog 86 = some ([.int .i64 0, .slice none 0 0, .int .i64 0, .slice none 0 0], [(0, 4)]) := by kernel_rfl
theorem fl_39 : Tryz.prog.fieldsOf 39 = #[{ name := "Kind", type := 37, offset := 0, embedded := false, tag := "", pkgPath := "", byteOffset := 0 }, { name := "Pick", type := 3, offset := 1, embedded := false, tag := "", pkgPath := "", byteOffset := 8 }, { name := "Hook", type := 3, offset := 2, embedded := false, tag := "", pkgPath := "", byteOffset := 16 }, { name := "Warp", type := 3, offset := 3, embedded := false, tag := "", pkgPath := "", byteOffset := 24 }, { name := "Up", type := 4, offset := 4, embedded := false, tag := "", pkgPath := "", byteOffset := 32 }] := by kernel_rfl
theorem seq_39 : SEq (α := FaultDamage) Tryz.prog 39 := by
 intro d x y w a b m wx m2 wy hx hy
 obtain ⟨_, ⟨_, _, rfl, rfl, ⟨_, _, rfl, rfl, ⟨_, _, rfl, rfl, ⟨_, _, rfl, rfl, rfl⟩⟩⟩⟩, rfl⟩ := hx
 obtain ⟨_, ⟨_, _, rfl, rfl, ⟨_, _, rfl, rfl, ⟨_, _, rfl, rfl, ⟨_, _, rfl, rfl, rfl⟩⟩⟩⟩, rfl⟩ := hy
 refine (run_equalIn_struct w (d + 1) 39 _ _ (by kernel_rfl) (by kernel_rfl)).trans ?_
 rw [fl_39]
 obtain ⟨x0, x1, x2, x3, x4⟩ := x
 obtain ⟨y0, y1, y2, y3, y4⟩ := y
 show (Op.eqFields (d + 1) #[.int .i64 (x0), .int .i64 (x1), .int .i64 (x2), .int .i64 (x3), .bool (x4)] #[.int .i64 (y0), .int .i64 (y1), .int .i64 (y2), .int .i64 (y3), .bool (y4)] _).run _ _ = _
 have x0p : (part 37 #[.int .i64 (x0), .int .i64 (x1), .int .i64 (x2), .int .i64 (x3), .bool (x4)] 0).run Tryz.prog w = .ok (.int .i64 (x0)) w := part_one Tryz.isAgg37 rfl
 have x1p : (part 3 #[.int .i64 (x0), .int .i64 (x1), .int .i64 (x2), .int .i64 (x3), .bool (x4)] 1).run Tryz.prog w = .ok (.int .i64 (x1)) w := part_one Tryz.isAgg3 rfl
 have x2p : (part 3 #[.int .i64 (x0), .int .i64 (x1), .int .i64 (x2), .int .i64 (x3), .bool (x4)] 2).run Tryz.prog w = .ok (.int .i64 (x2)) w := part_one Tryz.isAgg3 rfl
 have x3p : (part 3 #[.int .i64 (x0), .int .i64 (x1), .int .i64 (x2), .int .i64 (x3), .bool (x4)] 3).run Tryz.prog w = .ok (.int .i64 (x3)) w := part_one Tryz.isAgg3 rfl
 have x4p : (part 4 #[.int .i64 (x0), .int .i64 (x1), .int .i64 (x2), .int .i64 (x3), .bool (x4)] 4).run Tryz.prog w = .ok (.bool (x4)) w := part_one Tryz.isAgg4 rfl
 have y0p : (part 37 #[.int .i64 (y0), .int .i64 (y1), .int .i64 (y2), .int .i64 (y3), .bool (y4)] 0).run Tryz.prog w = .ok (.int .i64 (y0)) w := part_one Tryz.isAgg37 rfl
 have y1p : (part 3 #[.int .i64 (y0), .int .i64 (y1), .int .i64 (y2), .int .i64 (y3), .bool (y4)] 1).run Tryz.prog w = .ok (.int .i64 (y1)) w := part_one Tryz.isAgg3 rfl
 have y2p : (part 3 #[.int .i64 (y0), .int .i64 (y1), .int .i64 (y2), .int .i64 (y3), .bool (y4)] 2).run Tryz.prog w = .ok (.int .i64 (y2)) w := part_one Tryz.isAgg3 rfl
 have y3p : (part 3 #[.int .i64 (y0), .int .i64 (y1), .int .i64 (y2), .int .i64 (y3), .bool (y4)] 3).run Tryz.prog w = .ok (.int .i64 (y3)) w := part_one Tryz.isAgg3 rfl
 have y4p : (part 4 #[.int .i64 (y0), .int .i64 (y1), .int .i64 (y2), .int .i64 (y3), .bool (y4)] 4).run Tryz.prog w = .ok (.bool (y4)) w := part_one Tryz.isAgg4 rfl
 simp only [Op.eqFields, Sem.run_bind, Sem.run_ite, Sem.run_pure, x0p, x1p, x2p, x3p, x4p, y0p, y1p, y2p, y3p, y4p, Result.andThen_ok, run_equalIn_int _ _ _ _ _ _ _ Tryz.underlying37, run_equalIn_int _ _ _ _ _ _ _ Tryz.underlying3, run_equalIn_bool _ _ _ _ _ Tryz.underlying4]
 simp
 grind
theorem eg_39 : Tryz.prog.eqGuardType Tryz.prog.depth 39 = false := by kernel_rfl
theorem lay_147 : layoutOf Tryz.prog 147 = some ([.slice none 0 0, .slice none 0 0, .slice none 0 0, .int .i64 0], [(0, 4)]) := by kernel_rfl
theorem lay_207 : layoutOf Tryz.prog 207 = some ([.int .i64 0, .int .i64 0], [(0, 1), (1, 1)]) := by kernel_rfl
theorem info_207 : (Tryz.prog.info? 207).map (fun i => (i.zero, i.size, i.bytes)) = some (some (.agg #[.int .i64 0, .int .i64 0]), 2, 16) := by kernel_rfl
theorem lay_202 : layoutOf Tryz.prog 202 = some ([.int .i64 0, .slice none 0 0], [(0, 2)]) := by kernel_rfl
theorem info_9 : (Tryz.prog.info? 9).map (fun i => (i.zero, i.size, i.bytes)) = some (some (Str.v ⟨[]⟩), 1, 16) := by kernel_rfl
theorem capf_0_3 {e : Env} {f : FuncId} {o0 : Operand} {u0 : Operand} {j1 : Operand} {b0 : Value} {b1 : Value} {b2 : Value} (hb0 : ev e o0 = b0) (hb1 : ev e u0 = b1) (hb2 : ev e j1 = b2) : (Value.func (.func f) ((#[] : Array Operand).map (ev e)) ((#[o0, u0, j1] : Array Operand).map (ev e))) = .func (.func f) #[] #[b0, b1, b2] := by simp [hb0, hb1, hb2]
theorem capf_1_0 {e : Env} {f : FuncId} {z2 : Operand} {a0 : Value} (ha0 : ev e z2 = a0) : (Value.func (.func f) ((#[z2] : Array Operand).map (ev e)) ((#[] : Array Operand).map (ev e))) = .func (.func f) #[a0] #[] := by simp [ha0]
theorem endm_ccc {P : Program} {e : Env} {ds : List Deferred} {w : World} {fn : Func} {R : Value → World → Prop} {t0 : Tmp} {v0 : Value} {y0 : TypeId} {a0 : Addr} {t1 : Tmp} {v1 : Value} {y1 : TypeId} {a1 : Addr} {t2 : Tmp} {v2 : Value} {y2 : TypeId} {a2 : Addr} (hres : fn.results = #[.cell t0 y0, .cell t1 y1, .cell t2 y2]) (hd : ds = []) (h0 : e t0 = .pointer (some a0)) (l0 : (loadVar y0 a0).run P w = .ok v0 w) (h1 : e t1 = .pointer (some a1)) (l1 : (loadVar y1 a1).run P w = .ok v1 w) (h2 : e t2 = .pointer (some a2)) (l2 : (loadVar y2 a2).run P w = .ok v2 w) (h : R (.tuple #[v0, v1, v2]) w) : atEnd P fn R .ret e ds w :=
 ⟨hd, fun tmps ht => ⟨_, by simp [results, hres, ht, asAddr, h0, l0, h1, l1, h2, l2], h⟩⟩
theorem lay_107 : layoutOf Tryz.prog 107 = some ([.int .i64 0, .int .i64 0, .int .i64 0, .int .i64 0], [(0, 1), (1, 1), (2, 1), (3, 1)]) := by kernel_rfl
theorem plain_FaultDamage : Plain FaultDamage := fun _ m' _ w' x _ h => (plain_two plain_int (plain_two plain_int (plain_two plain_int (plain_two plain_int plain_bool)))) _ m' _ w' _ _ h
theorem lay_112 : layoutOf Tryz.prog 112 = some ([.slice none 0 0, .slice none 0 0, .slice none 0 0, .int .i64 0], [(0, 1), (1, 1), (2, 1), (3, 1)]) := by kernel_rfl
theorem lay_94 : layoutOf Tryz.prog 94 = some ([.int .i64 0, .int .i64 0, .bool false], [(0, 1), (1, 1), (2, 1)]) := by kernel_rfl
theorem info_94 : (Tryz.prog.info? 94).map (fun i => (i.zero, i.size, i.bytes)) = some (some (.agg #[.int .i64 0, .int .i64 0, .bool false]), 3, 24) := by kernel_rfl
theorem tup2_0 {b0 b1 : Value} {B0 : Value → Prop} {B1 : Value → Prop} (h : ∃ c0 c1 : Value, Value.tuple #[b0, b1] = .tuple #[c0, c1] ∧ B0 c0 ∧ B1 c1) : B0 b0 := by
 obtain ⟨c0, c1, he, h0, h1⟩ := h; simp at he; obtain ⟨rfl, rfl⟩ := he; exact h0
def f84 (x0 : List Int) : Option (List Int) := apnd 8 [] x0
theorem en84 : Enters Tryz.prog 84 := enters_of Tryz.func84 (by kernel_rfl) rfl
theorem wk84 {gI : Gh} {wI : World} {x0 : List Int} {up0 : Value} (rp0 : RV gI.m wI x0 up0) {r : List Int} (h : f84 x0 = some r) : Fn Tryz.prog 84 #[up0] gI wI (fun m w v => RV m w r v) := by
 unfold f84 at h
 refine fn_of_E Tryz.func84 rfl (Nat.le_of_ble_eq_true rfl) fun g0 hm hfr => ?_
 have rp0 : RV g0.m wI x0 up0 := hm ▸ rp0
 show E _ 8 none _ _ _ _ _
 refine E_seq (E_region (EL_at (.slice none 0 0) rfl rfl (EL_nil (thn_n ?_))))
 refine E_seq (E_seq (E_region (EL_mw up0 rfl rfl ?_)))
 obtain ⟨a, c, hv, hc, hrow⟩ := RV_list rp0
 refine EL_p (.bool a.isNone) (P_slnil Tryz.underlying25 (show ev _ _ = _ from hv)) rfl (EL_nil (thn_n ?_))
 cases a with
 | none =>
  have hx : x0 = [] := by
   cases x0 with
   | nil => rfl
   | cons y ys => obtain ⟨b, off, hb, _⟩ := hrow (by simp); cases hb
  subst hx
  have hr : r = [] := by unfold apnd at h; split at h <;> simp at h; exact h
  subst hr
  refine E_cond_true rfl (E_seq (E_region ?_))
  refine EL_at (.slice none 0 0) rfl rfl (EL_nil (thn_n ?_))
  exact E_ret (thn_r (end1 rfl rfl (show _ = .slice none 0 0 from rfl) ⟨_, hfr, RV_nil⟩))
 | some a =>
  refine E_cond_false rfl (E_skip (thn_n ?_))
  refine E_seq (E_region (EL_do .plain rfl (D_buildSlice (g := g0) 1 (xs := ([] : List Int)) (vs := []) Tryz.underlying25 Tryz.sizeOf3 Tryz.zeroValue3 rfl rfl .nil RVs.nil rfl rfl fun g1 w1 v1 hs o1 r1 hxt hfl => ?_)))
  have hfr := hfr.stp hs
  have rp0 := rp0.stp hs
  refine EL_mw up0 rfl rfl ?_
  refine EL_do .plain rfl (D_append (g := g1) (i := 1) Tryz.underlying25 info_3 rfl rfl o1 r1 rfl rp0 h fun g2 w2 v2 hs o2 r2 _ => ?_)
  have hfr := hfr.stp hs
  refine EL_at v2 rfl rfl (EL_nil (thn_n ?_))
  exact E_ret (end1 rfl rfl (show _ = v2 from rfl) ⟨_, hfr, r2⟩)
def f85 (x0 : List FaultDamage) : Option (List FaultDamage) := apnd 40 [] x0
theorem en85 : Enters Tryz.prog 85 := enters_of Tryz.func85 (by kernel_rfl) rfl
theorem atS_0 (a : Addr) (w : World) : (Instr.fieldAt 224 (.pointer (some a)) 0).run Tryz.prog w = .ok (.pointer (some (a.add 0))) w := by simp [Instr.fieldAt, run_underlying Tryz.underlying224, Instr.sureAddr, fieldPlace, Result.andThen]
theorem atS_1 (a : Addr) (w : World) : (Instr.fieldAt 224 (.pointer (some a)) 1).run Tryz.prog w = .ok (.pointer (some (a.add 1))) w := by simp [Instr.fieldAt, run_underlying Tryz.underlying224, Instr.sureAddr, fieldPlace, Result.andThen]
theorem sb_size : (Tryz.prog.info? 224).map (·.size) = some 2 := by kernel_rfl
theorem sb_psize : ∃ j, Tryz.prog.info? 224 = some j ∧ j.size = 2 := Option.map_eq_some_iff.1 sb_size
theorem en161 : Enters Tryz.prog 161 := enters_of Tryz.func161 (by kernel_rfl) rfl
theorem ob_shape {i : Nat} {g : Gh} {w : World} {x : Fv × List UInt8} {b o : Nat} (hb : OB i g w 224 x (.pointer (some ⟨b, o, none⟩))) : o = 0 ∧ w.shape? b = some (224, 2) := by
 obtain ⟨b', cs, hp, _, _, hh, hr⟩ := hb
 injection hp with hp; injection hp with hp; injection hp with h1 h2
 subst h1; subst h2
 have hl := GoT.len hr
 simp [GoT.k] at hl
 exact ⟨rfl, by simp [World.shape?, hh, hl]⟩
theorem wk161 {i j : Nat} (hji : Nat.beq j i = false) {g : Gh} {w : World} {a : Fv} {xs : List UInt8} {p : Value} (hb : OB i g w 224 (a, xs) p) (ho : OSF i j 1 g w 5 224 xs p) (ha : a.v = .pointer none ∨ a.v = p) :
  Calls Tryz.prog 161 #[p] w fun r w' => ∃ v, r = .returned v ∧ ∃ g', Stp i g w g' w' ∧ ∃ a' : Fv, a'.v = p ∧ OB i g' w' 224 (a', xs) p ∧ OSF i j 1 g' w' 5 224 xs p := by
 obtain ⟨b, o, rfl⟩ := hb.ptr
 obtain ⟨hoff, hsh⟩ := ob_shape hb
 subst hoff
 obtain ⟨jt, hj, hjs⟩ := sb_psize
 refine calls_of_E Tryz.func161 rfl (Nat.le_of_ble_eq_true rfl) ?_
 show E _ 20 none _ _ _ _ _
 refine E_seq (E_region (EL_mw (.pointer (some ⟨b, 0, none⟩)) rfl rfl ?_))
 refine EL_p (.pointer (some ⟨b, 0, none⟩)) (P_nilCheck rfl) rfl ?_
 refine EL_p (fPtr (.pointer (some ⟨b, 0, none⟩)) 0) (P_fieldAddr atS_0 rfl ⟨b, 0, rfl⟩) rfl ?_
 refine EL_do .plain rfl (D_loadF (g := g) (a := (a, xs)) Sub.fst Tryz.isAgg222 Tryz.sizeOf222 rfl hb fun v r => ?_)
 obtain rfl := RV_fv.1 r
 rcases ha with ha | ha
 ·refine EL_p (.bool true) (P_ptreq (u2 := .pointer none) (.inl rfl) (show _ = .pointer none from ha) rfl ⟨_, rfl⟩ ⟨_, rfl⟩ (fun w => by simpa using run_eql_pointer_nil (P := Tryz.prog) w 222 none Tryz.underlying222)) rfl ?_
  refine EL_nil (thn_n (E_cond_true rfl (E_region ?_)))
  refine EL_mw (.pointer (some ⟨b, 0, none⟩)) rfl rfl ?_
  refine EL_mw (.pointer (some ⟨b, 0, none⟩)) rfl rfl ?_
  refine EL_val (v := .pointer (some ⟨b, 0, none⟩)) (w' := w) .plain (fun _ h => by cases h) rfl (by
   have := Lib.run_to_unsafe w ⟨b, 0, none⟩ Tryz.underlying222 Tryz.underlying243 hj (by rw [hjs]; decide) hsh (by show 0 < 2; omega)
   show (Sem.run _ (execOp _ _) _) = _
   simp only [execOp, Sem.run_bind]
   rw [show ev _ (Operand.tmp 8) = Value.pointer (some ⟨b, 0, none⟩) from rfl, this]
   rfl) ?_
  refine EL_p (.pointer (some ⟨b, 0, none⟩)) (P_extern Tryz.func165 (by kernel_rfl) (by kernel_rfl) (by kernel_rfl) (ex := Extern.AbiNoEscape.same) (by kernel_rfl) (.cons rfl .nil) (fun _ => rfl)) rfl ?_
  refine EL_val (v := .pointer (some ⟨b, 0, none⟩)) (w' := w) .plain (fun _ h => by cases h) rfl (by
   have := Lib.run_from_unsafe w ⟨b, 0, none⟩ Tryz.underlying243 Tryz.underlying222 hj hsh (by kernel_rfl)
   show (Sem.run _ (execOp _ _) _) = _
   simp only [execOp, Sem.run_bind]
   rw [show ev _ (Operand.tmp 10) = Value.pointer (some ⟨b, 0, none⟩) from rfl, this]
   rfl) ?_
  refine EL_p (.pointer (some ⟨b, 0, none⟩)) (P_nilCheck rfl) rfl ?_
  refine EL_p (fPtr (.pointer (some ⟨b, 0, none⟩)) 0) (P_fieldAddr atS_0 rfl ⟨b, 0, rfl⟩) rfl ?_
  refine EL_do .plain rfl (D_storeFc (g := g) (a := (a, xs)) (b := (⟨.pointer (some ⟨b, 0, none⟩), rfl⟩ : Fv)) SubS.fst Tryz.sizeOf222 rfl hb rfl (RV_fv.2 rfl) fun g1 w1 hs b1 rst _ => ?_)
  exact EL_nil (end0n rfl rfl ⟨g1, hs, _, rfl, b1, ho.rest hs rst rfl hji⟩)
 ·refine EL_p (.bool false) (P_ptreq (u2 := .pointer none) (.inl rfl) (show _ = .pointer (some ⟨b, 0, none⟩) from ha) rfl ⟨_, rfl⟩ ⟨_, rfl⟩ (fun w => by simpa using run_eql_pointer_nil (P := Tryz.prog) w 222 (some ⟨b, 0, none⟩) Tryz.underlying222)) rfl ?_
  refine EL_nil (thn_n (E_cond_false rfl ?_))
  refine E_seq (E_region (EL_mw (.pointer (some ⟨b, 0, none⟩)) rfl rfl ?_))
  refine EL_p (.pointer (some ⟨b, 0, none⟩)) (P_nilCheck rfl) rfl ?_
  refine EL_p (fPtr (.pointer (some ⟨b, 0, none⟩)) 0) (P_fieldAddr atS_0 rfl ⟨b, 0, rfl⟩) rfl ?_
  refine EL_do .plain rfl (D_loadF (g := g) (a := (a, xs)) Sub.fst Tryz.isAgg222 Tryz.sizeOf222 rfl hb fun v r => ?_)
  obtain rfl := RV_fv.1 r
  refine EL_mw (.pointer (some ⟨b, 0, none⟩)) rfl rfl ?_
  refine EL_p (.bool false) (P_ptreq (.inr rfl) (show _ = .pointer (some ⟨b, 0, none⟩) from ha) rfl ⟨_, rfl⟩ ⟨_, rfl⟩ (fun w => Lib.run_neq_ptr_same w ⟨b, 0, none⟩ Tryz.underlying222 hj)) rfl ?_
  refine EL_nil (thn_n (E_cond_false rfl (E_skip ?_)))
  exact end0n rfl rfl ⟨g, stp_refl _ _ _, _, ha, hb, ho⟩
theorem en146 : Enters Tryz.prog 146 := enters_of Tryz.func146 (by kernel_rfl) rfl
theorem wk146 {i j : Nat} (hji : Nat.beq j i = false) (hij : Nat.beq i j = false) {g : Gh} {w : World} {c : UInt8} {xs r : List UInt8} {p : Value} (hsb : SB i j g w 5 224 xs p) (hr : apnd 1 xs [c] = some r) :
  Calls Tryz.prog 146 #[p, .int .u8 c.toNat] w fun q w' => ∃ v, q = .returned v ∧ v = .nilIface ∧ WB i j g w 5 224 r p w' := by
 obtain ⟨a, hb, ho, ha⟩ := hsb
 obtain ⟨b, o, rfl⟩ := hb.ptr
 obtain ⟨hoff, hsh⟩ := ob_shape hb
 subst hoff
 refine calls_of_E Tryz.func146 rfl (Nat.le_of_ble_eq_true rfl) ?_
 show E _ 17 none _ _ _ _ _
 refine E_seq (E_region (EL_at (.nilIface) rfl rfl ?_))
 refine EL_nil (thn_n (E_seq (E_region (EL_mw (.pointer (some ⟨b, 0, none⟩)) rfl rfl ?_))))
 refine EL_do .plain rfl (D_callC (vs := [.pointer (some ⟨b, 0, none⟩)]) en161 (.cons rfl .nil) (wk161 hji hb ho ha) fun v w1 h1 => ?_)
 obtain ⟨g1, hs1, a1, ha1, hb1, ho1⟩ := h1
 refine EL_nil (thn_n (E_seq (E_region (EL_mw (.pointer (some ⟨b, 0, none⟩)) rfl rfl ?_))))
 refine EL_mw (.pointer (some ⟨b, 0, none⟩)) rfl rfl ?_
 refine EL_p (.pointer (some ⟨b, 0, none⟩)) (P_nilCheck rfl) rfl ?_
 refine EL_p (fPtr (.pointer (some ⟨b, 0, none⟩)) 1) (P_fieldAddr atS_1 rfl ⟨b, 0, rfl⟩) rfl ?_
 refine EL_do .plain rfl (D_loadFS (g := g1) (a := (a1, xs)) (f := Prod.snd) Sub.snd Tryz.isAgg176 Tryz.sizeOf176 rfl hb1 ho1 fun v2 r2 o2 => ?_)
 refine EL_mw (.int .u8 c.toNat) rfl rfl ?_
 refine EL_do .plain rfl (D_buildSlice (g := g1) 1 (xs := [c]) (vs := [.int .u8 c.toNat]) Tryz.underlying176 Tryz.sizeOf5 Tryz.zeroValue5 rfl rfl (.cons rfl .nil) (RVs.cons (RV_u8.2 rfl) RVs.nil) rfl rfl fun g3 w3 v3 _ _ r3 hxt _ => ?_)
 refine EL_do .plain rfl (D_append (g := g3) (i := j) Tryz.underlying176 info_5 rfl rfl (o2.ext hxt) (r2.ext hxt) rfl r3 hr fun g4 w4 v4 hs4 o4 r4 _ => ?_)
 have hb4 := (hb1.ext hxt).stp hs4 hij
 refine EL_p (.pointer (some ⟨b, 0, none⟩)) (P_nilCheck rfl) rfl ?_
 refine EL_p (fPtr (.pointer (some ⟨b, 0, none⟩)) 1) (P_fieldAddr atS_1 rfl ⟨b, 0, rfl⟩) rfl ?_
 refine EL_do .plain rfl (D_storeFc (g := g4) (a := (a1, xs)) SubS.snd Tryz.sizeOf176 rfl hb4 rfl r4 fun g5 w5 hs5 b5 _ hos => ?_)
 have o5 := hos _ _ j 5 r (rv_cells1 r4) hji o4
 refine EL_nil (thn_n (E_seq (E_region (EL_at (.nilIface) rfl rfl ?_))))
 refine EL_nil (thn_n (E_ret (end1 rfl rfl (show _ = .nilIface from rfl) ⟨rfl, g5, ⟨g1, w1, g4, w4, hs1, (hxt.stp.trans hs4), hs5⟩, a1, b5, o5, .inr ha1⟩)))
theorem en149 : Enters Tryz.prog 149 := enters_of Tryz.func149 (by kernel_rfl) rfl
theorem mixedS : Tryz.prog.follows .mixedOrders = true := by kernel_rfl
theorem wk149 {i j : Nat} (hij : Nat.beq i 0 = false) {g : Gh} {w : World} {xs : List UInt8} {p : Value} (hsb : SB i j g w 5 224 xs p) (h0 : xs ≠ []) :
  Calls Tryz.prog 149 #[p] w fun q w' => ∃ v, q = .returned v ∧ GS j g w xs v w' := by
 obtain ⟨a, hb, ho, ha⟩ := hsb
 obtain ⟨b, o, rfl⟩ := hb.ptr
 obtain ⟨hoff, hsh⟩ := ob_shape hb
 subst hoff
 refine calls_of_E Tryz.func149 rfl (Nat.le_of_ble_eq_true rfl) ?_
 show E _ 14 none _ _ _ _ _
 refine E_seq (E_region (EL_at (Str.v ⟨[]⟩) rfl rfl ?_))
 refine EL_nil (thn_n (L_loadFSx (f := Prod.snd) (a := (a, xs)) Sub.snd Tryz.isAgg176 Tryz.sizeOf176 hb ho fun v r os hl => ?_))
 obtain ⟨sa, c, rfl, hc, _⟩ := RV_list r
 have hne : c ≠ 0 := by
  have : 0 < xs.length := by cases xs with
   | nil => exact absurd rfl h0
   | cons _ _ => simp
  have hc' : xs.length ≤ c := hc
  omega
 refine E_seq (E_drawL (g := g) (n := 10) [] [0, 1, 2, 3, 4, 5, 6, 7, 8, 9] rfl mixedS (by kernel_rfl) trivial ?_)
 refine L_p (.pointer (some ⟨b, 0, none⟩)) rfl rfl (P_move rfl) ?_
 refine L_p (.pointer (some ⟨b, 0, none⟩)) rfl rfl (P_nilCheck rfl) ?_
 refine L_p (fPtr (.pointer (some ⟨b, 0, none⟩)) 1) rfl rfl (P_fieldAddr atS_1 rfl ⟨b, 0, rfl⟩) ?_
 refine L_ld (c := .slice sa xs.length c) rfl rfl .plain (fun _ _ h => ⟨h.ch, fun b hb _ => h.below.block b hb⟩) (hl _) rfl ?_
 refine L_p (.pointer sa) rfl rfl (P_sliceData (a := sa) (n := xs.length) (c := c) rfl (.inl hne)) ?_
 refine L_p (.pointer (some ⟨b, 0, none⟩)) rfl rfl (P_move rfl) ?_
 refine L_p (.pointer (some ⟨b, 0, none⟩)) rfl rfl (P_nilCheck rfl) ?_
 refine L_p (fPtr (.pointer (some ⟨b, 0, none⟩)) 1) rfl rfl (P_fieldAddr atS_1 rfl ⟨b, 0, rfl⟩) ?_
 refine L_ld (c := .slice sa xs.length c) rfl rfl .plain (fun _ _ h => ⟨h.ch, fun b hb _ => h.below.block b hb⟩) (hl _) rfl ?_
 refine L_p (.int .i64 (xs.length : Int)) rfl rfl (P_len (v := .slice sa xs.length c) Tryz.underlying176 rfl r) ?_
 refine L_nil fun g1 w1 hall => ?_
 have hs := hall.1
 refine EL_do .plain rfl (D_unsafeString (g := g1) (j := j) (et := 5) rfl Tryz.underlying239 (by kernel_rfl) h0 rfl rfl (os.ext hs) (r.ext hs) fun g2 w2 hs2 => ?_)
 refine EL_at (Str.v ⟨xs⟩) rfl rfl ?_
 exact EL_nil (thn_n (E_ret (end1 rfl rfl (show _ = Str.v ⟨xs⟩ from rfl) ⟨rfl, g2, hs.stp.trans hs2⟩)))
def f6 (x0 : Vector UInt8 4) : Option (PayList) :=
 (idx (x0).toList (0 : Int)).bind fun y3 =>
 (idx (x0).toList (1 : Int)).bind fun y7 =>
 (rem64 ((y7).toNat : Int) (60 : Int)).bind fun o0 =>
 (idx (x0).toList (0 : Int)).bind fun y11 =>
 (idx (x0).toList (2 : Int)).bind fun u0 =>
 (idx (x0).toList (3 : Int)).bind fun j1 =>
 (idx (x0).toList (1 : Int)).bind fun d3 =>
 (rem64 (w64 ((4 : Int) * ((d3).toNat : Int))) (1001 : Int)).bind fun z2 =>
 some ((⟨([(⟨0, ((y3).toNat : Int)⟩ : PayRate), (⟨(w64 ((1 : Int) + o0)), (w64 (((y11).toNat : Int) + ((u0).toNat : Int)))⟩ : PayRate)] : List PayRate), [], ((j1).toNat : Int), z2⟩ : PayList))
theorem en6 : Enters Tryz.prog 6 := enters_of Tryz.func6 (by kernel_rfl) rfl
theorem wk6 {gI : Gh} {wI : World} {x0 : Vector UInt8 4} {up0 : Value} (rp0 : RV gI.m wI x0 up0) {r : PayList} (h : f6 x0 = some r) : Fn Tryz.prog 6 #[up0] gI wI (fun m w v => RV m w (r) v) := by
 unfold f6 at h
 refine fn_of_E Tryz.func6 rfl (Nat.le_of_ble_eq_true rfl) fun g0 hm hfr => ?_
 have rp0 : RV g0.m wI x0 up0 := hm ▸ rp0
 show E _ 30 none _ _ _ _ _
 refine E_seq (E_region (EL_do .plain rfl (D_box (g := g0) rfl rp0 fun g1 w1 p1 hs q1 => ?_)))
 have hfr := hfr.ext hs
 refine EL_do .plain rfl (D_allocOc (g := g1) 2002 (⟨[], [], 0, 0⟩ : PayList) Tryz.zeroValue35 (fun m w => ⟨_, (rep_two rep_nil (rep_two rep_nil (rep_two rep_int rep_int))), rfl⟩) fun g2 w2 p2 hs b2 cb => ?_)
 have hfr := hfr.stp hs
 have q1 := q1.stp hs
 have u7 : OSF 2002 60200 0 g2 w2 82 35 ([] : List PayRate) p2 := cb.osf (by rfl)
 have v7 : OSF 2002 60201 1 g2 w2 3 35 ([] : List Int) p2 := cb.osf (by rfl)
 clear cb
 refine EL_nil (thn_n (E_seq (E_region ?_)))
 obtain ⟨y3, hy3, h⟩ := bsome h
 refine EL_p (fPtr p1 (((0 : Int) : Int).toNat * 1)) (P_indexAddrA (α := UInt8) Tryz.underlying24 Tryz.sizeOf5 rfl (PT.ptr q1) rfl hy3) rfl ?_
 have q4 := PT_idxA q1 hy3
 refine EL_do .plain rfl (D_load (g := g2) Tryz.isAgg5 Tryz.sizeOf5 rfl q4 fun v5 r5 => ?_)
 obtain rfl := RV_u8.1 r5
 refine EL_p (.int .i64 (((y3).toNat : Int))) (P_u8int Tryz.underlying5 Tryz.underlying3 rfl) rfl ?_
 have r6 : RV g2.m w2 (⟨0, ((y3).toNat : Int)⟩ : PayRate) (.agg (setCh [[.int .i64 0], [.int .i64 0]] [(1, .int .i64 (((y3).toNat : Int)))]).flatten.toArray) := RV_build rfl (rep_pair (rep_int) (rep_last (rfl)))
 generalize c7 : (Value.agg (setCh [[.int .i64 0], [.int .i64 0]] [(1, .int .i64 (((y3).toNat : Int)))]).flatten.toArray) = v6 at r6
 refine EL_p v6 (c7 ▸ P_build (vs := [(1, .int .i64 (((y3).toNat : Int)))]) [[.int .i64 0], [.int .i64 0]] lay_82 rfl rfl (.cons rfl .nil) ⟨⟨_, rfl, rfl⟩, trivial⟩) rfl ?_
 obtain ⟨y7, i5, h⟩ := bsome h
 refine EL_p (fPtr p1 (((1 : Int) : Int).toNat * 1)) (P_indexAddrA (α := UInt8) Tryz.underlying24 Tryz.sizeOf5 rfl (PT.ptr q1) rfl i5) rfl ?_
 have q8 := PT_idxA q1 i5
 refine EL_do .plain rfl (D_load (g := g2) Tryz.isAgg5 Tryz.sizeOf5 rfl q8 fun v9 r9 => ?_)
 obtain rfl := RV_u8.1 r9
 refine EL_p (.int .i64 (((y7).toNat : Int))) (P_u8int Tryz.underlying5 Tryz.underlying3 rfl) rfl ?_
 obtain ⟨o0, j6, h⟩ := bsome h
 refine EL_p (.int .i64 (o0)) (P_int rfl rfl (congrArg (Option.map (Value.int .i64)) j6)) rfl ?_
 refine EL_in (.int .i64 ((w64 ((1 : Int) + o0)))) rfl rfl rfl rfl ?_
 obtain ⟨y11, j3, h⟩ := bsome h
 refine EL_p (fPtr p1 (((0 : Int) : Int).toNat * 1)) (P_indexAddrA (α := UInt8) Tryz.underlying24 Tryz.sizeOf5 rfl (PT.ptr q1) rfl j3) rfl ?_
 have d7 := PT_idxA q1 j3
 refine EL_do .plain rfl (D_load (g := g2) Tryz.isAgg5 Tryz.sizeOf5 rfl d7 fun c8 e7 => ?_)
 obtain rfl := RV_u8.1 e7
 refine EL_p (.int .i64 (((y11).toNat : Int))) (P_u8int Tryz.underlying5 Tryz.underlying3 rfl) rfl ?_
 obtain ⟨u0, o3, h⟩ := bsome h
 refine EL_p (fPtr p1 (((2 : Int) : Int).toNat * 1)) (P_indexAddrA (α := UInt8) Tryz.underlying24 Tryz.sizeOf5 rfl (PT.ptr q1) rfl o3) rfl ?_
 have g7 := PT_idxA q1 o3
 refine EL_do .plain rfl (D_load (g := g2) Tryz.isAgg5 Tryz.sizeOf5 rfl g7 fun e8 i7 => ?_)
 obtain rfl := RV_u8.1 i7
 refine EL_p (.int .i64 (((u0).toNat : Int))) (P_u8int Tryz.underlying5 Tryz.underlying3 rfl) rfl ?_
 refine EL_in (.int .i64 ((w64 (((y11).toNat : Int) + ((u0).toNat : Int))))) rfl rfl rfl rfl ?_
 have l5 : RV g2.m w2 (⟨(w64 ((1 : Int) + o0)), (w64 (((y11).toNat : Int) + ((u0).toNat : Int)))⟩ : PayRate) (.agg (setCh [[.int .i64 0], [.int .i64 0]] [(0, .int .i64 ((w64 ((1 : Int) + o0)))), (1, .int .i64 ((w64 (((y11).toNat : Int) + ((u0).toNat : Int)))))]).flatten.toArray) := RV_build rfl (rep_pair (rfl) (rep_last (rfl)))
 generalize x6 : (Value.agg (setCh [[.int .i64 0], [.int .i64 0]] [(0, .int .i64 ((w64 ((1 : Int) + o0)))), (1, .int .i64 ((w64 (((y11).toNat : Int) + ((u0).toNat : Int)))))]).flatten.toArray) = q5 at l5
 refine EL_p q5 (x6 ▸ P_build (vs := [(0, .int .i64 ((w64 ((1 : Int) + o0)))), (1, .int .i64 ((w64 (((y11).toNat : Int) + ((u0).toNat : Int)))))]) [[.int .i64 0], [.int .i64 0]] lay_82 rfl rfl (.cons rfl (.cons rfl .nil)) ⟨⟨_, rfl, rfl⟩, ⟨⟨_, rfl, rfl⟩, trivial⟩⟩) rfl ?_
 refine EL_do .plain rfl (D_buildSlice (g := g2) 3020 (xs := ([(⟨0, ((y3).toNat : Int)⟩ : PayRate), (⟨(w64 ((1 : Int) + o0)), (w64 (((y11).toNat : Int) + ((u0).toNat : Int)))⟩ : PayRate)] : List PayRate)) (vs := [v6, q5]) Tryz.underlying33 Tryz.sizeOf82 Tryz.zeroValue82 rfl rfl (.cons rfl (.cons rfl .nil)) (RVs.cons r6 (RVs.cons l5 RVs.nil)) rfl rfl fun i3 g8 u3 hs o18 t5 hxt hfl => ?_)
 have hfr := hfr.stp hs
 have q1 := q1.stp hs
 have b2 := b2.stp hs rfl
 obtain ⟨j1, z3, h⟩ := bsome h
 refine EL_p (fPtr p1 (((3 : Int) : Int).toNat * 1)) (P_indexAddrA (α := UInt8) Tryz.underlying24 Tryz.sizeOf5 rfl (PT.ptr q1) rfl z3) rfl ?_
 have j7 := PT_idxA q1 z3
 refine EL_do .plain rfl (D_load (g := i3) Tryz.isAgg5 Tryz.sizeOf5 rfl j7 fun i8 m7 => ?_)
 obtain rfl := RV_u8.1 m7
 refine EL_p (.int .i64 (((j1).toNat : Int))) (P_u8int Tryz.underlying5 Tryz.underlying3 rfl) rfl ?_
 obtain ⟨d3, z4, h⟩ := bsome h
 refine EL_p (fPtr p1 (((1 : Int) : Int).toNat * 1)) (P_indexAddrA (α := UInt8) Tryz.underlying24 Tryz.sizeOf5 rfl (PT.ptr q1) rfl z4) rfl ?_
 have n7 := PT_idxA q1 z4
 refine EL_do .plain rfl (D_load (g := i3) Tryz.isAgg5 Tryz.sizeOf5 rfl n7 fun k8 o7 => ?_)
 obtain rfl := RV_u8.1 o7
 refine EL_p (.int .i64 (((d3).toNat : Int))) (P_u8int Tryz.underlying5 Tryz.underlying3 rfl) rfl ?_
 refine EL_in (.int .i64 ((w64 ((4 : Int) * ((d3).toNat : Int))))) rfl rfl rfl rfl ?_
 obtain ⟨z2, y6, h⟩ := bsome h
 refine EL_p (.int .i64 (z2)) (P_int rfl rfl (congrArg (Option.map (Value.int .i64)) y6)) rfl ?_
 have x5 : RV i3.m _ (⟨([(⟨0, ((y3).toNat : Int)⟩ : PayRate), (⟨(w64 ((1 : Int) + o0)), (w64 (((y11).toNat : Int) + ((u0).toNat : Int)))⟩ : PayRate)] : List PayRate), [], ((j1).toNat : Int), z2⟩ : PayList) (.agg (setCh [[.slice none 0 0], [.slice none 0 0], [.int .i64 0], [.int .i64 0]] [(0, u3), (2, .int .i64 (((j1).toNat : Int))), (3, .int .i64 (z2))]).flatten.toArray) := RV_build rfl (rep_pair (RV.cells t5) (rep_pair (rep_nil) (rep_pair (rfl) (rep_last (rfl)))))
 generalize a7 : (Value.agg (setCh [[.slice none 0 0], [.slice none 0 0], [.int .i64 0], [.int .i64 0]] [(0, u3), (2, .int .i64 (((j1).toNat : Int))), (3, .int .i64 (z2))]).flatten.toArray) = i6 at x5
 refine EL_p i6 (a7 ▸ P_build (vs := [(0, u3), (2, .int .i64 (((j1).toNat : Int))), (3, .int .i64 (z2))]) [[.slice none 0 0], [.slice none 0 0], [.int .i64 0], [.int .i64 0]] lay_35 rfl rfl (.cons rfl (.cons rfl (.cons rfl .nil))) ⟨⟨_, rfl, cells_size t5⟩, ⟨⟨_, rfl, rfl⟩, ⟨⟨_, rfl, rfl⟩, trivial⟩⟩⟩) rfl ?_
 refine EL_do .plain rfl (D_storeOc (g := i3) (v := i6) Tryz.sizeOf35 rfl b2 rfl x5 fun l8 m8 hs b27 cb => ?_)
 clear cb
 have hfr := hfr.stp hs
 refine EL_nil (thn_n (E_ret ?_))
 obtain rfl := sinj h
 obtain ⟨ad28, cv28, hp28, b7, cr28⟩ := ob_read Tryz.isAgg35 Tryz.sizeOf35 b27
 exact endm_c rfl rfl ((show _ = p2 from rfl).trans hp28) b7 ⟨_, hfr, cr28⟩
def f7 (x0 : FaultLoom) (x1 : Vector UInt8 3) : Option (FaultDamage) :=
 (idx (x1).toList (0 : Int)).bind fun y4 =>
 (u8rem y4 (5 : UInt8)).bind fun y7 =>
 Option.bind (α := FaultDamage) (
  bif (((((1 : UInt8) + y7)).toNat : Int) == (1 : Int)) then
   (idx (x1).toList (1 : Int)).bind fun z2 =>
   (rem64 ((z2).toNat : Int) ((((x0).Design).Rows).length : Int)).bind fun y159 =>
   (idx (x1).toList (2 : Int)).bind fun d3 =>
   (rem64 ((d3).toNat : Int) ((x0).Design).Hooks).bind fun i5 =>
   some ((⟨((((1 : UInt8) + y7)).toNat : Int), y159, i5, 0, false⟩ : FaultDamage))
  else
   bif (((((1 : UInt8) + y7)).toNat : Int) == (2 : Int)) then
    (idx (x1).toList (1 : Int)).bind fun i3 =>
    (rem64 ((i3).toNat : Int) ((x0).Design).Hooks).bind fun l5 =>
    (idx (x1).toList (2 : Int)).bind fun t5 =>
    (u8rem t5 (2 : UInt8)).bind fun j3 =>
    some ((⟨((((1 : UInt8) + y7)).toNat : Int), 0, l5, 0, (j3 == (0 : UInt8))⟩ : FaultDamage))
   else
    bif (((((1 : UInt8) + y7)).toNat : Int) == (5 : Int)) then
     (idx (x1).toList (1 : Int)).bind fun x5 =>
     (rem64 ((x5).toNat : Int) ((((x0).Harness).Warps).length : Int)).bind fun i6 =>
     some ((⟨((((1 : UInt8) + y7)).toNat : Int), 0, 0, i6, false⟩ : FaultDamage))
    else
     (idx (x1).toList (1 : Int)).bind fun j6 =>
     (rem64 ((j6).toNat : Int) ((((x0).Design).Rows).length : Int)).bind fun x6 =>
     some ((⟨((((1 : UInt8) + y7)).toNat : Int), x6, 0, 0, false⟩ : FaultDamage))
  ) fun j1 =>
 some (j1)
theorem en7 : Enters Tryz.prog 7 := enters_of Tryz.func7 (by kernel_rfl) rfl
theorem wk7 {gI : Gh} {wI : World} {x0 : FaultLoom} {x1 : Vector UInt8 3} {up0 : Value} (rp0 : RV gI.m wI x0 up0) {up1 : Value} (rp1 : RV gI.m wI x1 up1) {r : FaultDamage} (h : f7 x0 x1 = some r) : Fn Tryz.prog 7 #[up0, up1] gI wI (fun m w v => RV m w (r) v) := by
 unfold f7 at h
 refine fn_of_E Tryz.func7 rfl (Nat.le_of_ble_eq_true rfl) fun g0 hm hfr => ?_
 have rp0 : RV g0.m wI x0 up0 := hm ▸ rp0
 have rp1 : RV g0.m wI x1 up1 := hm ▸ rp1
 show E _ 68 none _ _ _ _ _
 refine E_seq (E_region (EL_do .plain rfl (D_box (g := g0) rfl rp0 fun g1 w1 p1 hs q1 => ?_)))
 have hfr := hfr.ext hs
 have rp1 := rp1.ext hs
 refine EL_do .plain rfl (D_box (g := g1) rfl rp1 fun g2 w2 p2 hs q2 => ?_)
 have hfr := hfr.ext hs
 have q1 := q1.ext hs
 refine EL_do .plain rfl (D_allocOc (g := g2) 2004 (⟨0, 0, 0, 0, false⟩ : FaultDamage) Tryz.zeroValue39 (fun m w => ⟨_, (rep_two rep_int (rep_two rep_int (rep_two rep_int (rep_two rep_int rep_bool)))), rfl⟩) fun g3 w3 p3 hs b3 cb => ?_)
 have hfr := hfr.stp hs
 have q1 := q1.stp hs
 have q2 := q2.stp hs
 clear cb
 refine EL_nil (thn_n (E_seq ?_))
 obtain ⟨y4, d9, h⟩ := bsome h
 have q5 := PT_idxA q2 d9
 refine L_load (x := .tmp 7) Tryz.isAgg5 Tryz.sizeOf5 q5 fun v6 r6 iB => ?_
 obtain rfl := RV_u8.1 r6
 obtain ⟨y7, jB, h⟩ := bsome h
 have r8 : RV g3.m w3 (⟨((((1 : UInt8) + y7)).toNat : Int), 0, 0, 0, false⟩ : FaultDamage) (.agg (setCh [[.int .i64 0], [.int .i64 0], [.int .i64 0], [.int .i64 0], [.bool false]] [(0, .int .i64 (((((1 : UInt8) + y7)).toNat : Int)))]).flatten.toArray) := RV_build rfl (rep_pair (rfl) (rep_pair (rep_int) (rep_pair (rep_int) (rep_pair (rep_int) (rep_last (rep_bool))))))
 generalize kB : (Value.agg (setCh [[.int .i64 0], [.int .i64 0], [.int .i64 0], [.int .i64 0], [.bool false]] [(0, .int .i64 (((((1 : UInt8) + y7)).toNat : Int)))]).flatten.toArray) = v8 at r8
 have q9 := PT_field (part_FaultLoom_1).1 q1
 have lB := PT_field (part_Design_1).1 q9
 refine L_load (x := .tmp 14) Tryz.isAgg25 Tryz.sizeOf25 lB fun mB nB k9 => ?_
 refine E_drawTL (g := g3) (n := 11) [6, 7, 8, 9] [(10, (fun v g w => OB 2005 g w 39 (⟨0, 0, 0, 0, false⟩ : FaultDamage) v))] [0, 1, 2, 3, 4, 5, 6, 7, 8, 9, 10] rfl mixed (by kernel_rfl) (⟨fun _ => up_ob, trivial⟩) rfl ?_
 refine L_p (fPtr p2 (((0 : Int) : Int).toNat * 1)) rfl rfl (P_indexAddrA (α := UInt8) Tryz.underlying23 Tryz.sizeOf5 rfl (PT.ptr q2) rfl d9) ?_
 refine L_ld (c := .int .u8 (UInt8.toNat (y4))) rfl rfl .plain (fun _ _ h => h.ch) iB rfl ?_
 refine L_p (.int .u8 (UInt8.toNat (y7))) rfl rfl (P_u8 rfl rfl (u8rem_cop jB)) ?_
 refine L_p (.int .u8 (UInt8.toNat (((1 : UInt8) + y7)))) rfl rfl (P_u8 rfl rfl rfl) ?_
 refine L_p (.int .i64 (((((1 : UInt8) + y7)).toNat : Int))) rfl rfl (P_u8int Tryz.underlying5 Tryz.underlying37 rfl) ?_
 refine L_p v8 rfl rfl (kB ▸ P_build (vs := [(0, .int .i64 (((((1 : UInt8) + y7)).toNat : Int)))]) [[.int .i64 0], [.int .i64 0], [.int .i64 0], [.int .i64 0], [.bool false]] lay_39 rfl rfl (.cons rfl .nil) ⟨⟨_, rfl, rfl⟩, trivial⟩) ?_
 refine L_purL (c := fPtr p1 2) rfl rfl .plain (P_fieldAddr at_31_1 rfl (PT.ptr q1)) ?_
 refine L_purL (c := fPtr (fPtr p1 2) 1) rfl rfl .plain (P_fieldAddr at_29_1 rfl (PT.ptr q9)) ?_
 refine L_ldL (c := mB) rfl rfl .plain (fun _ _ h => h.ch) rfl k9 rfl ?_
 refine L_purL (c := .int .i64 ((((x0).Design).Rows).length : Int)) rfl rfl .plain (P_len Tryz.underlying25 rfl nB) ?_
 refine L_do (φ := fun v g w => OB 2005 g w 39 (⟨0, 0, 0, 0, false⟩ : FaultDamage) v) rfl rfl .plain (fun g w hd => D_allocX (g := g) 2005 (⟨0, 0, 0, 0, false⟩ : FaultDamage) Tryz.zeroValue39 (fun m w => ⟨_, (rep_two rep_int (rep_two rep_int (rep_two rep_int (rep_two rep_int rep_bool)))), rfl⟩) fun g' w' v hs b => ⟨g', hs, b⟩) (fun o0 hv => ?_)
 clear hv
 refine L_nil fun e9 oB hall => ?_
 have hs := hall.1
 have hlt : Lt g3.m w3 e9 oB := hs.ch
 have hfr := hfr.ext hs
 have q1 := q1.ext hs
 have q2 := q2.ext hs
 have b3 := b3.ext hs
 have r8 := r8.ext hs
 have b29 := (word_all (A := fun g w => OB 2005 g w 39 (⟨0, 0, 0, 0, false⟩ : FaultDamage) o0) 10 rfl hall)
 clear hs hall
 refine TL_do hlt.w .plain rfl (D_storeOc (g := e9) (v := v8) Tryz.sizeOf39 rfl b29 rfl r8 fun u0 i9 hs b30 cb => ?_)
 clear cb
 have hfr := hfr.stp hs
 have hlt := hlt.stp hs
 have q1 := q1.stp hs
 have q2 := q2.stp hs
 have b3 := b3.stp hs rfl
 refine TL_pur hlt.w (v := .int .i64 ((((x0).Design).Rows).length : Int)) (P_assign rfl) .plain rfl ?_
 refine TL_nil hlt.w ?_
 clear hlt
 refine thn_n ?_
 obtain ⟨j1, hx, h⟩ := bsome h
 refine E_join (fun e w => ∃ (g : Gh) , Fr gI wI g w ∧ e 4 = p3 ∧ OB 2004 g w 39 ((⟨0, 0, 0, 0, false⟩ : FaultDamage) : FaultDamage) p3 ∧ e 5 = o0 ∧ OB 2005 g w 39 (j1 : FaultDamage) o0) (fun Q' hQ => ?_) (fun tB vB hR => ?_)
 ·replace h := hx
  clear hx
  refine E_seq (E_region (EL_p (fPtr o0 0) (P_fieldAddr at_39_0 rfl (OB.ptr b30)) rfl ?_))
  refine EL_do .plain rfl (D_loadF (g := u0) part_FaultDamage_0.1 Tryz.isAgg37 Tryz.sizeOf37 rfl b30 fun xB l9 => ?_)
  obtain rfl := RV_int.1 l9
  refine EL_nil (thn_n (E_block ?_))
  refine E_seq (E_region (EL_p (.bool ((((((1 : UInt8) + y7)).toNat : Int) == (1 : Int)))) (P_int rfl rfl rfl) rfl ?_))
  refine EL_p (.bool ((((((1 : UInt8) + y7)).toNat : Int) == (1 : Int)))) (P_assign rfl) rfl ?_
  refine EL_nil (thn_n ?_)
  rcases csome h with ⟨o3, h⟩ | ⟨o3, h⟩
  ·refine E_ct o3 rfl ?_
   obtain ⟨z2, y6, h⟩ := bsome h
   have n9 := PT_idxA q2 y6
   refine L_load (x := .tmp 27) Tryz.isAgg5 Tryz.sizeOf5 n9 fun yB o9 e8 => ?_
   obtain rfl := RV_u8.1 o9
   obtain ⟨y159, g8, h⟩ := bsome h
   obtain ⟨d3, a7, h⟩ := bsome h
   have t9 := PT_idxA q2 a7
   refine L_load (x := .tmp 32) Tryz.isAgg5 Tryz.sizeOf5 t9 fun zB u9 i8 => ?_
   obtain rfl := RV_u8.1 u9
   have g7 := PT_field (part_FaultLoom_1).1 q1
   have y9 := PT_field (part_Design_0).1 g7
   refine L_load (x := .tmp 36) Tryz.isAgg3 Tryz.sizeOf3 y9 fun aC z9 k8 => ?_
   obtain rfl := RV_int.1 z9
   obtain ⟨i5, l8, h⟩ := bsome h
   refine E_drawTL (g := u0) (n := 13) [5, 6, 7, 8, 9, 10, 11] [] [0, 1, 2, 3, 4, 5, 6, 7, 8, 9, 10, 11, 12] rfl mixed (by kernel_rfl) trivial rfl ?_
   refine L_p (fPtr p2 (((1 : Int) : Int).toNat * 1)) rfl rfl (P_indexAddrA (α := UInt8) Tryz.underlying23 Tryz.sizeOf5 rfl (PT.ptr q2) rfl y6) ?_
   refine L_ld (c := .int .u8 (UInt8.toNat (z2))) rfl rfl .plain (fun _ _ h => h.ch) e8 rfl ?_
   refine L_p (.int .i64 (((z2).toNat : Int))) rfl rfl (P_u8int Tryz.underlying5 Tryz.underlying3 rfl) ?_
   refine L_p (.int .i64 ((((x0).Design).Rows).length : Int)) rfl rfl (P_move rfl) ?_
   refine L_p (.int .i64 (y159)) rfl rfl (P_int rfl rfl (congrArg (Option.map (Value.int .i64)) g8)) ?_
   refine L_purL (c := fPtr p2 (((2 : Int) : Int).toNat * 1)) rfl rfl .plain (P_indexAddrA (α := UInt8) Tryz.underlying23 Tryz.sizeOf5 rfl (PT.ptr q2) rfl a7) ?_
   refine L_ldL (c := .int .u8 (UInt8.toNat (d3))) rfl rfl .plain (fun _ _ h => h.ch) rfl i8 rfl ?_
   refine L_purL (c := .int .i64 (((d3).toNat : Int))) rfl rfl .plain (P_u8int Tryz.underlying5 Tryz.underlying3 rfl) ?_
   refine L_purL (c := fPtr p1 2) rfl rfl .plain (P_fieldAddr at_31_1 rfl (PT.ptr q1)) ?_
   refine L_purL (c := fPtr (fPtr p1 2) 0) rfl rfl .plain (P_fieldAddr at_29_0 rfl (PT.ptr g7)) ?_
   refine L_ldL (c := .int .i64 (((x0).Design).Hooks)) rfl rfl .plain (fun _ _ h => h.ch) rfl k8 rfl ?_
   refine L_purL (c := .int .i64 (i5)) rfl rfl .plain (P_int rfl rfl (congrArg (Option.map (Value.int .i64)) l8)) ?_
   refine L_p (fPtr o0 1) rfl rfl (P_fieldAddr at_39_1 rfl (OB.ptr b30)) ?_
   refine L_nl fun i7 bA hs => ?_
   have hlt : Lt u0.m i9 i7 bA := hs.ch
   have hfr := hfr.ext hs
   have b3 := b3.ext hs
   have b30 := b30.ext hs
   clear hs
   refine TL_do hlt.w .plain rfl (D_storeFc (g := i7) part_FaultDamage_1 Tryz.sizeOf3 rfl b30 rfl (RV_int.2 rfl) fun gA cC hs b203 rst hos => ?_)
   clear rst hos
   have hfr := hfr.stp hs
   have hlt := hlt.stp hs
   have b3 := b3.stp hs rfl
   refine TL_pur hlt.w (v := fPtr o0 2) (P_fieldAddr at_39_2 rfl (OB.ptr b203)) .plain rfl ?_
   refine TL_do hlt.w .plain rfl (D_storeFc (g := gA) part_FaultDamage_2 Tryz.sizeOf3 rfl b203 rfl (RV_int.2 rfl) fun iA dC hs b205 rst hos => ?_)
   clear rst hos
   have hfr := hfr.stp hs
   have hlt := hlt.stp hs
   have b3 := b3.stp hs rfl
   refine TL_nil hlt.w ?_
   clear hlt
   refine blk_n ?_
   obtain rfl := sinj h
   exact hQ _ _ ⟨iA, hfr, rfl, b3, rfl, b205⟩
  ·refine E_cf o3 rfl ?_
   refine E_seq (E_region (EL_p (.bool ((((((1 : UInt8) + y7)).toNat : Int) == (2 : Int)))) (P_int rfl rfl rfl) rfl ?_))
   refine EL_p (.bool ((((((1 : UInt8) + y7)).toNat : Int) == (2 : Int)))) (P_assign rfl) rfl ?_
   refine EL_nil (thn_n ?_)
   rcases csome h with ⟨u3, h⟩ | ⟨u3, h⟩
   ·refine E_ct u3 rfl ?_
    obtain ⟨i3, b7, h⟩ := bsome h
    have jA := PT_idxA q2 b7
    refine L_load (x := .tmp 43) Tryz.isAgg5 Tryz.sizeOf5 jA fun eC kA m8 => ?_
    obtain rfl := RV_u8.1 kA
    have j7 := PT_field (part_FaultLoom_1).1 q1
    have lA := PT_field (part_Design_0).1 j7
    refine L_load (x := .tmp 47) Tryz.isAgg3 Tryz.sizeOf3 lA fun iC mA n8 => ?_
    obtain rfl := RV_int.1 mA
    obtain ⟨l5, o8, h⟩ := bsome h
    obtain ⟨t5, c7, h⟩ := bsome h
    have nA := PT_idxA q2 c7
    refine L_load (x := .tmp 50) Tryz.isAgg5 Tryz.sizeOf5 nA fun jC oA q8 => ?_
    obtain rfl := RV_u8.1 oA
    obtain ⟨j3, t8, h⟩ := bsome h
    refine E_drawTL (g := u0) (n := 12) [7, 8, 9, 10] [] [0, 1, 2, 3, 4, 5, 6, 7, 8, 9, 10, 11] rfl mixed (by kernel_rfl) trivial rfl ?_
    refine L_p (fPtr p2 (((1 : Int) : Int).toNat * 1)) rfl rfl (P_indexAddrA (α := UInt8) Tryz.underlying23 Tryz.sizeOf5 rfl (PT.ptr q2) rfl b7) ?_
    refine L_ld (c := .int .u8 (UInt8.toNat (i3))) rfl rfl .plain (fun _ _ h => h.ch) m8 rfl ?_
    refine L_p (.int .i64 (((i3).toNat : Int))) rfl rfl (P_u8int Tryz.underlying5 Tryz.underlying3 rfl) ?_
    refine L_p (fPtr p1 2) rfl rfl (P_fieldAddr at_31_1 rfl (PT.ptr q1)) ?_
    refine L_p (fPtr (fPtr p1 2) 0) rfl rfl (P_fieldAddr at_29_0 rfl (PT.ptr j7)) ?_
    refine L_ld (c := .int .i64 (((x0).Design).Hooks)) rfl rfl .plain (fun _ _ h => h.ch) n8 rfl ?_
    refine L_p (.int .i64 (l5)) rfl rfl (P_int rfl rfl (congrArg (Option.map (Value.int .i64)) o8)) ?_
    refine L_purL (c := fPtr p2 (((2 : Int) : Int).toNat * 1)) rfl rfl .plain (P_indexAddrA (α := UInt8) Tryz.underlying23 Tryz.sizeOf5 rfl (PT.ptr q2) rfl c7) ?_
    refine L_ldL (c := .int .u8 (UInt8.toNat (t5))) rfl rfl .plain (fun _ _ h => h.ch) rfl q8 rfl ?_
    refine L_purL (c := .int .u8 (UInt8.toNat (j3))) rfl rfl .plain (P_u8 rfl rfl (u8rem_cop t8)) ?_
    refine L_purL (c := .bool ((j3 == (0 : UInt8)))) rfl rfl .plain (P_u8 rfl rfl rfl) ?_
    refine L_p (fPtr o0 2) rfl rfl (P_fieldAddr at_39_2 rfl (OB.ptr b30)) ?_
    refine L_nl fun m7 pA hs => ?_
    have hlt : Lt u0.m i9 m7 pA := hs.ch
    have hfr := hfr.ext hs
    have b3 := b3.ext hs
    have b30 := b30.ext hs
    clear hs
    refine TL_do hlt.w .plain rfl (D_storeFc (g := m7) part_FaultDamage_2 Tryz.sizeOf3 rfl b30 rfl (RV_int.2 rfl) fun qA kC hs b255 rst hos => ?_)
    clear rst hos
    have hfr := hfr.stp hs
    have hlt := hlt.stp hs
    have b3 := b3.stp hs rfl
    refine TL_pur hlt.w (v := fPtr o0 4) (P_fieldAddr at_39_4 rfl (OB.ptr b255)) .plain rfl ?_
    refine TL_do hlt.w .plain rfl (D_storeFc (g := qA) part_FaultDamage_4 Tryz.sizeOf4 rfl b255 rfl (RV_bool.2 rfl) fun rA lC hs b257 rst hos => ?_)
    clear rst hos
    have hfr := hfr.stp hs
    have hlt := hlt.stp hs
    have b3 := b3.stp hs rfl
    refine TL_nil hlt.w ?_
    clear hlt
    refine blk_n ?_
    obtain rfl := sinj h
    exact hQ _ _ ⟨rA, hfr, rfl, b3, rfl, b257⟩
   ·refine E_cf u3 rfl ?_
    refine E_seq (E_region (EL_p (.bool ((((((1 : UInt8) + y7)).toNat : Int) == (5 : Int)))) (P_int rfl rfl rfl) rfl ?_))
    refine EL_p (.bool ((((((1 : UInt8) + y7)).toNat : Int) == (5 : Int)))) (P_assign rfl) rfl ?_
    refine EL_nil (thn_n ?_)
    rcases csome h with ⟨z3, h⟩ | ⟨z3, h⟩
    ·refine E_ct z3 rfl ?_
     refine E_region ?_
     obtain ⟨x5, d7, h⟩ := bsome h
     refine EL_p (fPtr p2 (((1 : Int) : Int).toNat * 1)) (P_indexAddrA (α := UInt8) Tryz.underlying23 Tryz.sizeOf5 rfl (PT.ptr q2) rfl d7) rfl ?_
     have sA := PT_idxA q2 d7
     refine EL_do .plain rfl (D_load (g := u0) Tryz.isAgg5 Tryz.sizeOf5 rfl sA fun mC uA => ?_)
     obtain rfl := RV_u8.1 uA
     refine EL_p (.int .i64 (((x5).toNat : Int))) (P_u8int Tryz.underlying5 Tryz.underlying3 rfl) rfl ?_
     refine EL_p (fPtr p1 0) (P_fieldAddr at_31_0 rfl (PT.ptr q1)) rfl ?_
     have n7 := PT_field (part_FaultLoom_0).1 q1
     refine EL_p (fPtr (fPtr p1 0) 1) (P_fieldAddr at_27_1 rfl (PT.ptr n7)) rfl ?_
     have xA := PT_field (part_TieHarness_1).1 n7
     refine EL_do .plain rfl (D_load (g := u0) Tryz.isAgg25 Tryz.sizeOf25 rfl xA fun qC yA => ?_)
     refine EL_p (.int .i64 ((((x0).Harness).Warps).length : Int)) (P_len Tryz.underlying25 rfl yA) rfl ?_
     obtain ⟨i6, x8, h⟩ := bsome h
     refine EL_p (.int .i64 (i6)) (P_int rfl rfl (congrArg (Option.map (Value.int .i64)) x8)) rfl ?_
     refine EL_p (fPtr o0 3) (P_fieldAddr at_39_3 rfl (OB.ptr b30)) rfl ?_
     refine EL_do .plain rfl (D_storeFc (g := u0) part_FaultDamage_3 Tryz.sizeOf3 rfl b30 rfl (RV_int.2 rfl) fun zA rC hs b267 rst hos => ?_)
     clear rst hos
     have hfr := hfr.stp hs
     have b3 := b3.stp hs rfl
     refine EL_nil (blk_n ?_)
     obtain rfl := sinj h
     exact hQ _ _ ⟨zA, hfr, rfl, b3, rfl, b267⟩
    ·refine E_cf z3 rfl ?_
     refine E_region ?_
     obtain ⟨j6, e7, h⟩ := bsome h
     refine EL_p (fPtr p2 (((1 : Int) : Int).toNat * 1)) (P_indexAddrA (α := UInt8) Tryz.underlying23 Tryz.sizeOf5 rfl (PT.ptr q2) rfl e7) rfl ?_
     have aB := PT_idxA q2 e7
     refine EL_do .plain rfl (D_load (g := u0) Tryz.isAgg5 Tryz.sizeOf5 rfl aB fun tC bB => ?_)
     obtain rfl := RV_u8.1 bB
     refine EL_p (.int .i64 (((j6).toNat : Int))) (P_u8int Tryz.underlying5 Tryz.underlying3 rfl) rfl ?_
     refine EL_mw (.int .i64 ((((x0).Design).Rows).length : Int)) rfl rfl ?_
     obtain ⟨x6, y8, h⟩ := bsome h
     refine EL_p (.int .i64 (x6)) (P_int rfl rfl (congrArg (Option.map (Value.int .i64)) y8)) rfl ?_
     refine EL_p (fPtr o0 1) (P_fieldAddr at_39_1 rfl (OB.ptr b30)) rfl ?_
     refine EL_do .plain rfl (D_storeFc (g := u0) part_FaultDamage_1 Tryz.sizeOf3 rfl b30 rfl (RV_int.2 rfl) fun cB uC hs b273 rst hos => ?_)
     clear rst hos
     have hfr := hfr.stp hs
     have b3 := b3.stp hs rfl
     refine EL_nil (blk_n ?_)
     obtain rfl := sinj h
     exact hQ _ _ ⟨cB, hfr, rfl, b3, rfl, b273⟩
 ·clear hx
  obtain ⟨o7, hfr, z4, u7, v7, c8⟩ := hR
  refine E_seq (E_region (EL_do .plain rfl (D_loadO (g := o7) Tryz.isAgg39 Tryz.sizeOf39 v7 c8 fun dB eB => ?_)))
  refine EL_do .plain rfl (D_storeOc (g := o7) (v := dB) Tryz.sizeOf39 z4 u7 rfl eB fun vC xC hs b276 cb => ?_)
  clear cb
  have hfr := hfr.stp hs
  refine EL_nil (thn_n (E_ret ?_))
  obtain rfl := sinj h
  obtain ⟨ad277, cv277, hp277, a9, cr277⟩ := ob_read Tryz.isAgg39 Tryz.sizeOf39 b276
  exact endm_c rfl rfl ((show _ = p3 from z4).trans hp277) a9 ⟨_, hfr, cr277⟩
def f12 (x0 : PayList) : Option (PayList) :=
 (apnd 16 (([] : List PayRate)) ((x0).Rates)).bind fun y7 =>
 (apnd 8 (([] : List Int)) ((x0).Extras)).bind fun o0 =>
 some ({ { x0 with Rates := y7 } with Extras := o0 })
theorem en12 : Enters Tryz.prog 12 := enters_of Tryz.func12 (by kernel_rfl) rfl
theorem wk12 {gI : Gh} {wI : World} {x0 : PayList} {up0 : Value} (rp0 : RV gI.m wI x0 up0) {r : PayList} (h : f12 x0 = some r) : Fn Tryz.prog 12 #[up0] gI wI (fun m w v => RV m w (r) v) := by
 unfold f12 at h
 refine fn_of_E Tryz.func12 rfl (Nat.le_of_ble_eq_true rfl) fun g0 hm hfr => ?_
 have rp0 : RV g0.m wI x0 up0 := hm ▸ rp0
 show E _ 14 none _ _ _ _ _
 refine E_seq (E_region (EL_do .plain rfl (D_boxO (g := g0) 2001 rfl rp0 fun g1 w1 p1 hs b1 => ?_)))
 have hfr := hfr.stp hs
 refine EL_do .plain rfl (D_allocOc (g := g1) 2002 (⟨[], [], 0, 0⟩ : PayList) Tryz.zeroValue35 (fun m w => ⟨_, (rep_two rep_nil (rep_two rep_nil (rep_two rep_int rep_int))), rfl⟩) fun g2 w2 p2 hs b2 cb => ?_)
 have hfr := hfr.stp hs
 have b1 := b1.stp hs rfl
 have x6 : OSF 2002 60200 0 g2 w2 82 35 ([] : List PayRate) p2 := cb.osf (by rfl)
 have y6 : OSF 2002 60201 1 g2 w2 3 35 ([] : List Int) p2 := cb.osf (by rfl)
 clear cb
 refine EL_nil (thn_n (E_seq (L_loadO (x := .tmp 4) part_PayList_0.1 Tryz.isAgg33 Tryz.sizeOf33 b1 fun v5 r5 z3 => ?_)))
 obtain ⟨y7, z4, h⟩ := bsome h
 refine L_loadO (x := .tmp 8) part_PayList_1.1 Tryz.isAgg25 Tryz.sizeOf25 b1 fun i5 l5 j3 => ?_
 obtain ⟨o0, o3, h⟩ := bsome h
 refine E_drawL (g := g2) (n := 9) [(0, (fun v g w => RV g.m w ([] : List PayRate) v ∧ OS 3003 g w 82 ([] : List PayRate) v ∧ FullV v)), (3, (fun v g w => RV g.m w y7 v ∧ OS 3003 g w 82 y7 v)), (4, (fun v g w => RV g.m w ([] : List Int) v ∧ OS 3007 g w 3 ([] : List Int) v ∧ FullV v)), (7, (fun v g w => RV g.m w o0 v ∧ OS 3007 g w 3 o0 v))] [0, 1, 2, 3, 4, 5, 6, 7, 8] rfl mixed (by kernel_rfl) (⟨fun _ => up_and up_rv (up_and up_os (up_eq _)), fun _ => up_and up_rv up_os, fun _ => up_and up_rv (up_and up_os (up_eq _)), fun _ => up_and up_rv up_os, trivial⟩) ?_
 refine L_do (φ := fun v g w => RV g.m w ([] : List PayRate) v ∧ OS 3003 g w 82 ([] : List PayRate) v ∧ FullV v) rfl rfl .plain (fun g w hd => D_buildSlice (g := g) 3003 (xs := ([] : List PayRate)) (vs := []) Tryz.underlying33 Tryz.sizeOf82 Tryz.zeroValue82 rfl rfl .nil RVs.nil rfl rfl fun g' w' v hs o r hxt hfl => ⟨g', hxt, r, o, hfl⟩) (fun v3 hv => ?_)
 clear hv
 refine L_p (fPtr p1 0) rfl rfl (P_fieldAddr at_35_0 rfl (OB.ptr b1)) ?_
 refine L_ld (c := v5) rfl rfl .plain (fun _ _ h => ⟨h.ch, fun b hb _ => h.below.block b hb⟩) z3 rfl ?_
 refine L_do (φ := fun v g w => RV g.m w y7 v ∧ OS 3003 g w 82 y7 v) rfl rfl .plain (fun g w hd => D_append (g := g) (i := 3003) Tryz.underlying33 info_82 rfl rfl (word (A := fun g w => RV g.m w ([] : List PayRate) v3 ∧ OS 3003 g w 82 ([] : List PayRate) v3 ∧ FullV v3) 0 rfl rfl (deps_of hd)).2.1 (word (A := fun g w => RV g.m w ([] : List PayRate) v3 ∧ OS 3003 g w 82 ([] : List PayRate) v3 ∧ FullV v3) 0 rfl rfl (deps_of hd)).1 rfl (r5.ext hd.1) z4 fun g' w' v hs o r hf => ⟨g', hf (word (A := fun g w => RV g.m w ([] : List PayRate) v3 ∧ OS 3003 g w 82 ([] : List PayRate) v3 ∧ FullV v3) 0 rfl rfl (deps_of hd)).2.2, r, o⟩) (fun v6 hv => ?_)
 clear hv
 refine L_do (φ := fun v g w => RV g.m w ([] : List Int) v ∧ OS 3007 g w 3 ([] : List Int) v ∧ FullV v) rfl rfl .plain (fun g w hd => D_buildSlice (g := g) 3007 (xs := ([] : List Int)) (vs := []) Tryz.underlying25 Tryz.sizeOf3 Tryz.zeroValue3 rfl rfl .nil RVs.nil rfl rfl fun g' w' v hs o r hxt hfl => ⟨g', hxt, r, o, hfl⟩) (fun v8 hv => ?_)
 clear hv
 refine L_p (fPtr p1 1) rfl rfl (P_fieldAddr at_35_1 rfl (OB.ptr b1)) ?_
 refine L_ld (c := i5) rfl rfl .plain (fun _ _ h => ⟨h.ch, fun b hb _ => h.below.block b hb⟩) j3 rfl ?_
 refine L_do (φ := fun v g w => RV g.m w o0 v ∧ OS 3007 g w 3 o0 v) rfl rfl .plain (fun g w hd => D_append (g := g) (i := 3007) Tryz.underlying25 info_3 rfl rfl (word (A := fun g w => RV g.m w ([] : List Int) v8 ∧ OS 3007 g w 3 ([] : List Int) v8 ∧ FullV v8) 4 rfl rfl (deps_of hd)).2.1 (word (A := fun g w => RV g.m w ([] : List Int) v8 ∧ OS 3007 g w 3 ([] : List Int) v8 ∧ FullV v8) 4 rfl rfl (deps_of hd)).1 rfl (l5.ext hd.1) o3 fun g' w' v hs o r hf => ⟨g', hf (word (A := fun g w => RV g.m w ([] : List Int) v8 ∧ OS 3007 g w 3 ([] : List Int) v8 ∧ FullV v8) 4 rfl rfl (deps_of hd)).2.2, r, o⟩) (fun u0 hv => ?_)
 clear hv
 refine L_p (fPtr p1 0) rfl rfl (P_fieldAddr at_35_0 rfl (OB.ptr b1)) ?_
 refine L_nil fun q5 a7 hall => ?_
 have hs := hall.1
 have hfr := hfr.ext hs
 have b1 := b1.ext hs
 have b2 := b2.ext hs
 have b7 := (word_all (A := fun g w => RV g.m w ([] : List PayRate) v3 ∧ OS 3003 g w 82 ([] : List PayRate) v3 ∧ FullV v3) 0 rfl hall).1
 have o18 := (word_all (A := fun g w => RV g.m w ([] : List PayRate) v3 ∧ OS 3003 g w 82 ([] : List PayRate) v3 ∧ FullV v3) 0 rfl hall).2.1
 have d3 := (word_all (A := fun g w => RV g.m w y7 v6 ∧ OS 3003 g w 82 y7 v6) 3 rfl hall).1
 have o21 := (word_all (A := fun g w => RV g.m w y7 v6 ∧ OS 3003 g w 82 y7 v6) 3 rfl hall).2
 have c7 := (word_all (A := fun g w => RV g.m w ([] : List Int) v8 ∧ OS 3007 g w 3 ([] : List Int) v8 ∧ FullV v8) 4 rfl hall).1
 have o22 := (word_all (A := fun g w => RV g.m w ([] : List Int) v8 ∧ OS 3007 g w 3 ([] : List Int) v8 ∧ FullV v8) 4 rfl hall).2.1
 have j1 := (word_all (A := fun g w => RV g.m w o0 u0 ∧ OS 3007 g w 3 o0 u0) 7 rfl hall).1
 have o25 := (word_all (A := fun g w => RV g.m w o0 u0 ∧ OS 3007 g w 3 o0 u0) 7 rfl hall).2
 clear hs hall
 refine EL_do .plain rfl (D_storeFc (g := q5) part_PayList_0 Tryz.sizeOf33 rfl b1 rfl d3 fun t5 d7 hs b27 rst hos => ?_)
 have z2 := hos _ _ 3003 82 (y7 : List PayRate) (rv_cells1 d3) rfl o21
 clear rst hos
 have hfr := hfr.stp hs
 have b2 := b2.stp hs rfl
 have j1 := j1.stp hs
 have o25 := o25.stp hs rfl
 refine EL_p (fPtr p1 1) (P_fieldAddr at_35_1 rfl (OB.ptr b27)) rfl ?_
 refine EL_do .plain rfl (D_storeFc (g := t5) part_PayList_1 Tryz.sizeOf25 rfl b27 rfl j1 fun i3 e7 hs b29 rst hos => ?_)
 have z2 := z2.rest hs rst
 have j6 := hos _ _ 3007 3 (o0 : List Int) (rv_cells1 j1) rfl o25
 clear rst hos
 have hfr := hfr.stp hs
 have b2 := b2.stp hs rfl
 refine EL_nil (thn_n (E_seq (E_region (EL_do .plain rfl (D_loadO (g := i3) Tryz.isAgg35 Tryz.sizeOf35 rfl b29 fun x5 i6 => ?_)))))
 refine EL_do .plain rfl (D_storeOc (g := i3) (v := x5) Tryz.sizeOf35 rfl b2 rfl i6 fun g7 i7 hs b31 cb => ?_)
 clear cb
 have hfr := hfr.stp hs
 refine EL_nil (thn_n (E_ret ?_))
 obtain rfl := sinj h
 obtain ⟨ad32, cv32, hp32, u3, cr32⟩ := ob_read Tryz.isAgg35 Tryz.sizeOf35 b31
 exact endm_c rfl rfl ((show _ = p2 from rfl).trans hp32) u3 ⟨_, hfr, cr32⟩
def f21 (x0 : List Int) : Option ((List Int)) :=
 (apnd 8 (([] : List Int)) x0).bind fun y3 =>
 some (y3)
theorem en21 : Enters Tryz.prog 21 := enters_of Tryz.func21 (by kernel_rfl) rfl
theorem wk21 {gI : Gh} {wI : World} {x0 : List Int} {up0 : Value} (rp0 : RV gI.m wI x0 up0) {r : (List Int)} (h : f21 x0 = some r) : Fn Tryz.prog 21 #[up0] gI wI (fun m w v => RV m w (r) v) := by
 unfold f21 at h
 refine fn_of_E Tryz.func21 rfl (Nat.le_of_ble_eq_true rfl) fun g0 hm hfr => ?_
 have rp0 : RV g0.m wI x0 up0 := hm ▸ rp0
 show E _ 6 none _ _ _ _ _
 refine E_seq (E_region (EL_at (.slice none 0 0) rfl rfl ?_))
 refine EL_nil (thn_n (E_seq (E_region (EL_do .plain rfl (D_buildSlice (g := g0) 3003 (xs := ([] : List Int)) (vs := []) Tryz.underlying25 Tryz.sizeOf3 Tryz.zeroValue3 rfl rfl .nil RVs.nil rfl rfl fun g1 w1 v1 hs o1 r1 hxt hfl => ?_)))))
 have hfr := hfr.stp hs
 have rp0 := rp0.stp hs
 refine EL_mw up0 rfl rfl ?_
 obtain ⟨y3, hy3, h⟩ := bsome h
 refine EL_do .plain rfl (D_append (g := g1) (i := 3003) Tryz.underlying25 info_3 rfl rfl o1 r1 rfl rp0 hy3 fun g2 w2 v2 hs o2 r2 _ => ?_)
 have hfr := hfr.stp hs
 refine EL_at v2 rfl rfl ?_
 refine EL_nil (thn_n (E_ret ?_))
 obtain rfl := sinj h
 exact end1 rfl rfl (show _ = v2 from rfl) ⟨_, hfr, r2⟩
def f23 (x0 : List Int) (x1 : List Int) : Option (Bool) :=
 jn (σ := Unit) (fun _ =>
  jn (σ := Unit) (fun _ =>
   some (true)
   ) fun k53 =>
  lp (σ := Int) (fun k54 o0 =>
   jn (σ := Unit) (fun _ =>
    jn (σ := Unit) (fun _ =>
     k54 ((w64 (o0 + (1 : Int))))
     ) fun b7 =>
    (idx x0 o0).bind fun j3 =>
    (idx x1 o0).bind fun o3 =>
    bif (j3 != o3) then
     some (false)
    else
     b7 ()
    ) fun k57 =>
   bif (decide (o0 < ((x0).length : Int))) then
    k57 ()
   else
    k53 ()
   ) big ((0 : Int))
  ) fun k2 =>
 bif (((x0).length : Int) != ((x1).length : Int)) then
  some (false)
 else
  k2 ()
theorem en23 : Enters Tryz.prog 23 := enters_of Tryz.func23 (by kernel_rfl) rfl
theorem wk23 {gI : Gh} {wI : World} {x0 : List Int} {x1 : List Int} {up0 : Value} (rp0 : RV gI.m wI x0 up0) {up1 : Value} (rp1 : RV gI.m wI x1 up1) {r : Bool} (h : f23 x0 x1 = some r) : Fn Tryz.prog 23 #[up0, up1] gI wI (fun _ _ v => v = .bool (r)) := by
 unfold f23 at h
 refine fn_of_E Tryz.func23 rfl (Nat.le_of_ble_eq_true rfl) fun g0 hm hfr => ?_
 have rp0 : RV g0.m wI x0 up0 := hm ▸ rp0
 have rp1 : RV g0.m wI x1 up1 := hm ▸ rp1
 show E _ 26 none _ _ _ _ _
 refine E_seq (E_region (EL_at (.bool false) rfl rfl ?_))
 refine EL_nil (thn_n (E_joinC h (fun (s : Unit) e w => ∃ (g : Gh) , Fr gI wI g w ∧ e 0 = up0 ∧ RV g.m w (x0 : List Int) up0 ∧ e 1 = up1 ∧ RV g.m w (x1 : List Int) up1) (fun X2 k2 hk2 h => ?_) ?_))
 ·refine E_seq (E_region (EL_mw up0 rfl rfl ?_))
  refine EL_p (.int .i64 ((x0).length : Int)) (P_len Tryz.underlying25 rfl rp0) rfl ?_
  refine EL_mw up1 rfl rfl ?_
  refine EL_p (.int .i64 ((x1).length : Int)) (P_len Tryz.underlying25 rfl rp1) rfl ?_
  refine EL_in (.bool ((((x0).length : Int) != ((x1).length : Int)))) rfl rfl rfl rfl ?_
  refine EL_nil (thn_n ?_)
  rcases csome h with ⟨hc3, h⟩ | ⟨hc3, h⟩
  ·refine E_ct hc3 rfl ?_
   refine E_seq (E_region (EL_at (.bool false) rfl rfl ?_))
   refine EL_nil (thn_n (E_ret (thn_r ?_)))
   obtain rfl := sinj h
   exact end1 rfl rfl (show _ = .bool false from rfl) ⟨_, hfr, rfl⟩
  ·refine E_cf hc3 rfl ?_
   exact E_skip (thn_n (hk2 () _ _ ⟨g0, hfr, rfl, rp0, rfl, rp1⟩ h))
 ·rintro _ y8 w4 ⟨g4, hfr, d7, e7, g7, i7⟩ h
  refine E_joinC h (fun (s : Unit) e w => ∃ (g : Gh) , Fr gI wI g w) (fun X53 k53 j7 h => ?_) ?_
  ·refine E_seq (E_region (EL_at (.int .i64 (0)) rfl rfl ?_))
   refine EL_nil (thn_n (E_block ?_))
   refine E_lp h (fun (s : Int) e w => ∃ (g : Gh) , Fr gI wI g w ∧ e 0 = up0 ∧ RV g.m w (x0 : List Int) up0 ∧ e 1 = up1 ∧ RV g.m w (x1 : List Int) up1 ∧ e 5 = .int .i64 (s)) ⟨g4, hfr, d7, e7, g7, i7, rfl⟩ (fun X54 k54 m7 => ?_)
   rintro o0 q8 a9 ⟨c7, hfr, u3, z3, y6, a7, z4⟩ h
   refine E_joinC h (fun (s : Unit) e w => ∃ (g : Gh) , Fr gI wI g w ∧ e 0 = up0 ∧ RV g.m w (x0 : List Int) up0 ∧ e 1 = up1 ∧ RV g.m w (x1 : List Int) up1 ∧ e 5 = .int .i64 (o0)) (fun X57 k57 n7 h => ?_) ?_
   ·refine E_seq (E_region (EL_mv z4 rfl ?_))
    refine EL_mv u3 rfl ?_
    refine EL_p (.int .i64 ((x0).length : Int)) (P_len Tryz.underlying25 rfl z3) rfl ?_
    refine EL_in (.bool ((decide (o0 < ((x0).length : Int))))) rfl rfl rfl rfl ?_
    refine EL_nil (thn_n ?_)
    rcases csome h with ⟨i3, h⟩ | ⟨i3, h⟩
    ·refine E_ct i3 rfl ?_
     exact E_skip (thn_n (n7 () _ _ ⟨c7, hfr, u3, z3, y6, a7, z4⟩ h))
    ·refine E_cf i3 rfl ?_
     refine E_exit ?_
     refine thn_e ?_
     refine thn_e ?_
     refine blk_hit ?_
     exact thn_n (j7 () _ _ ⟨c7, hfr⟩ h)
   ·rintro _ r8 d9 ⟨e8, hfr, i5, u0, l5, j1, z2⟩ h
    refine E_joinC h (fun (s : Unit) e w => ∃ (g : Gh) , Fr gI wI g w ∧ e 0 = up0 ∧ RV g.m w (x0 : List Int) up0 ∧ e 1 = up1 ∧ RV g.m w (x1 : List Int) up1 ∧ e 5 = .int .i64 (o0)) (fun X81 b7 o7 h => ?_) ?_
    ·refine E_block ?_
     refine E_seq ?_
     obtain ⟨j3, q5, h⟩ := bsome h
     have g8 := PT_idx u0 q5
     refine L_load (x := .tmp 19) Tryz.isAgg3 Tryz.sizeOf3 g8 fun e9 i8 u7 => ?_
     obtain rfl := RV_int.1 i8
     obtain ⟨o3, t5, h⟩ := bsome h
     have k8 := PT_idx j1 t5
     refine L_load (x := .tmp 23) Tryz.isAgg3 Tryz.sizeOf3 k8 fun i9 l8 v7 => ?_
     obtain rfl := RV_int.1 l8
     refine E_drawL (g := e8) (n := 9) [] [0, 1, 2, 3, 4, 5, 6, 7, 8] rfl mixed (by kernel_rfl) trivial ?_
     refine L_p up0 rfl rfl (P_move i5) ?_
     refine L_p (.int .i64 (o0)) rfl rfl (P_move z2) ?_
     refine L_p (ePtr up0 o0 1) rfl rfl (P_indexAddr (α := Int) Tryz.underlying25 Tryz.sizeOf3 rfl u0 rfl q5) ?_
     refine L_ld (c := .int .i64 (j3)) rfl rfl .plain (fun _ _ h => h.ch) u7 rfl ?_
     refine L_p up1 rfl rfl (P_move l5) ?_
     refine L_p (.int .i64 (o0)) rfl rfl (P_move z2) ?_
     refine L_p (ePtr up1 o0 1) rfl rfl (P_indexAddr (α := Int) Tryz.underlying25 Tryz.sizeOf3 rfl j1 rfl t5) ?_
     refine L_ld (c := .int .i64 (o3)) rfl rfl .plain (fun _ _ h => h.ch) v7 rfl ?_
     refine L_p (.bool ((j3 != o3))) rfl rfl (P_int rfl rfl rfl) ?_
     refine L_nl fun m8 k9 hs => ?_
     have hfr := hfr.ext hs
     have u0 := u0.ext hs
     have j1 := j1.ext hs
     clear hs
     refine EL_nil (thn_n ?_)
     rcases csome h with ⟨d3, h⟩ | ⟨d3, h⟩
     ·refine E_ct d3 rfl ?_
      refine E_seq (E_region (EL_at (.bool false) rfl rfl ?_))
      refine EL_nil (thn_n (E_ret (blk_r ?_)))
      refine thn_r ?_
      refine thn_r ?_
      refine blk_r ?_
      refine thn_r ?_
      obtain rfl := sinj h
      exact end1 rfl rfl (show _ = .bool false from rfl) ⟨_, hfr, rfl⟩
     ·refine E_cf d3 rfl ?_
      exact E_skip (blk_n (thn_n (o7 () _ _ ⟨m8, hfr, i5, u0, l5, j1, z2⟩ h)))
    ·rintro _ n8 t8 ⟨c8, hfr, x5, i6, j6, v6, x6⟩ h
     refine E_region (EL_mv x6 rfl ?_)
     refine EL_in (.int .i64 ((w64 (o0 + (1 : Int))))) rfl rfl rfl rfl ?_
     refine EL_at (.int .i64 ((w64 (o0 + (1 : Int))))) rfl rfl ?_
     exact EL_nil (thn_n (m7 ((w64 (o0 + (1 : Int)))) _ _ ⟨c8, hfr, x5, i6, j6, v6, rfl⟩ h))
  ·rintro _ o8 v8 ⟨x8, hfr⟩ h
   refine E_seq (E_region (EL_at (.bool true) rfl rfl ?_))
   refine EL_nil (thn_n (E_ret ?_))
   obtain rfl := sinj h
   exact end1 rfl rfl (show _ = .bool true from rfl) ⟨_, hfr, rfl⟩
def f24 (x0 : UInt8) (x1 : List UInt16) : Option (Design) :=
 (rem64 ((x0).toNat : Int) (7 : Int)).bind fun y2 =>
 Option.bind (α := Design) (
  lp (σ := Design × Int) (fun o8 (u0, o0) =>
   jn (σ := Unit) (fun _ =>
    Option.bind (α := Design) (
     Option.bind (α := Int) (
      bif (decide (o0 < ((x1).length : Int))) then
       (idx x1 o0).bind fun i7 =>
       (shl64 (1 : Int) (wu64 (u0).Hooks)).bind fun i8 =>
       (rem64 ((i7).toNat : Int) i8).bind fun j7 =>
       some (j7)
      else
       some ((1 : Int))
      ) fun i5 =>
     (apnd 8 ((u0).Rows) (([i5] : List Int))).bind fun k8 =>
     some ({ u0 with Rows := k8 })
     ) fun l5 =>
    o8 (l5, (w64 (o0 + (1 : Int))))
    ) fun q8 =>
   Option.bind (α := Bool) (
    bif (o0 == (0 : Int)) then
     some (true)
    else
     bif (decide (o0 < ((x1).length : Int))) then
      some ((decide (o0 < (12 : Int))))
     else
      some (false)
    ) fun o3 =>
   bif o3 then
    q8 ()
   else
    some (u0)
   ) big ((⟨(w64 ((2 : Int) + y2)), []⟩ : Design), (0 : Int))
  ) fun q5 =>
 some (q5)
theorem en24 : Enters Tryz.prog 24 := enters_of Tryz.func24 (by kernel_rfl) rfl
theorem wk24 {gI : Gh} {wI : World} {x0 : UInt8} {x1 : List UInt16} {up1 : Value} (rp1 : RV gI.m wI x1 up1) {r : Design} (h : f24 x0 x1 = some r) : Fn Tryz.prog 24 #[.int .u8 (UInt8.toNat (x0)), up1] gI wI (fun m w v => RV m w (r) v) := by
 unfold f24 at h
 refine fn_of_E Tryz.func24 rfl (Nat.le_of_ble_eq_true rfl) fun g0 hm hfr => ?_
 have rp1 : RV g0.m wI x1 up1 := hm ▸ rp1
 show E _ 48 none _ _ _ _ _
 refine E_seq (E_region (EL_do .plain rfl (D_allocOc (g := g0) 2004 (⟨0, []⟩ : Design) Tryz.zeroValue29 (fun m w => ⟨_, (rep_two rep_int rep_nil), rfl⟩) fun g1 w1 p1 hs b1 cb => ?_)))
 have hfr := hfr.stp hs
 have rp1 := rp1.stp hs
 have x6 : OSF 2004 60401 1 g1 w1 3 29 ([] : List Int) p1 := cb.osf (by rfl)
 clear cb
 refine EL_nil (thn_n (E_seq (E_region (EL_mw (.int .u8 (UInt8.toNat (x0))) rfl rfl ?_))))
 refine EL_p (.int .i64 (((x0).toNat : Int))) (P_u8int Tryz.underlying5 Tryz.underlying3 rfl) rfl ?_
 obtain ⟨y2, hy2, h⟩ := bsome h
 refine EL_p (.int .i64 (y2)) (P_int rfl rfl (congrArg (Option.map (Value.int .i64)) hy2)) rfl ?_
 refine EL_in (.int .i64 ((w64 ((2 : Int) + y2)))) rfl rfl rfl rfl ?_
 have r3 : RV g1.m w1 (⟨(w64 ((2 : Int) + y2)), []⟩ : Design) (.agg (setCh [[.int .i64 0], [.slice none 0 0]] [(0, .int .i64 ((w64 ((2 : Int) + y2))))]).flatten.toArray) := RV_build rfl (rep_pair (rfl) (rep_last (rep_nil)))
 generalize hv3 : (Value.agg (setCh [[.int .i64 0], [.slice none 0 0]] [(0, .int .i64 ((w64 ((2 : Int) + y2))))]).flatten.toArray) = v3 at r3
 refine EL_p v3 (hv3 ▸ P_build (vs := [(0, .int .i64 ((w64 ((2 : Int) + y2))))]) [[.int .i64 0], [.slice none 0 0]] lay_29 rfl rfl (.cons rfl .nil) ⟨⟨_, rfl, rfl⟩, trivial⟩) rfl ?_
 refine EL_do .plain rfl (D_allocOc (g := g1) 2005 (⟨0, []⟩ : Design) Tryz.zeroValue29 (fun m w => ⟨_, (rep_two rep_int rep_nil), rfl⟩) fun g4 w4 p4 hs b4 cb => ?_)
 have hfr := hfr.stp hs
 have rp1 := rp1.stp hs
 have x6 := x6.stp hs rfl
 have b1 := b1.stp hs rfl
 have r3 := r3.stp hs
 have yB : OSF 2005 60501 1 g4 w4 3 29 ([] : List Int) p4 := cb.osf (by rfl)
 clear cb
 refine EL_do .plain rfl (D_storeOc (g := g4) (v := v3) Tryz.sizeOf29 rfl b4 rfl r3 fun g5 w5 hs b5 cb => ?_)
 have xA : OSF 2005 60501 1 g5 w5 3 29 ([] : List Int) p4 := cb.osf (by rw [← hv3]; rfl)
 clear cb
 have hfr := hfr.stp hs
 have rp1 := rp1.stp hs
 have x6 := x6.stp hs rfl
 have b1 := b1.stp hs rfl
 refine EL_nil (thn_n ?_)
 obtain ⟨q5, hx, h⟩ := bsome h
 refine E_join (fun e w => ∃ (g : Gh) , Fr gI wI g w ∧ e 4 = p1 ∧ OB 2004 g w 29 ((⟨0, []⟩ : Design) : Design) p1 ∧ OSF 2004 60401 1 g w 3 29 (((⟨0, []⟩ : Design)).Rows) p1 ∧ e 5 = p4 ∧ OB 2005 g w 29 (q5 : Design) p4 ∧ OSF 2005 60501 1 g w 3 29 ((q5).Rows) p4) (fun Q' hQ => ?_) (fun mB zB hR => ?_)
 ·replace h := hx
  clear hx
  refine E_seq (E_region (EL_at (.int .i64 (0)) rfl rfl ?_))
  refine EL_nil (thn_n (E_block ?_))
  refine E_lp h (fun (s : Design × Int) e w => ∃ (g : Gh) , Fr gI wI g w ∧ e 1 = up1 ∧ RV g.m w (x1 : List UInt16) up1 ∧ e 4 = p1 ∧ OB 2004 g w 29 ((⟨0, []⟩ : Design) : Design) p1 ∧ OSF 2004 60401 1 g w 3 29 (((⟨0, []⟩ : Design)).Rows) p1 ∧ e 5 = p4 ∧ OB 2005 g w 29 (s.1 : Design) p4 ∧ OSF 2005 60501 1 g w 3 29 ((s.1).Rows) p4 ∧ e 6 = .int .i64 (s.2)) ⟨g5, hfr, rfl, rp1, rfl, b1, x6, rfl, b5, xA, rfl⟩ (fun X152 o8 mA => ?_)
  rintro ⟨u0, o0⟩ nB aC ⟨l8, hfr, t5, x5, y6, a7, u4_1_153, b7, c7, u5_1_153, u3⟩ h
  refine E_joinC h (fun (s : Unit) e w => ∃ (g : Gh) , Fr gI wI g w ∧ e 1 = up1 ∧ RV g.m w (x1 : List UInt16) up1 ∧ e 4 = p1 ∧ OB 2004 g w 29 ((⟨0, []⟩ : Design) : Design) p1 ∧ OSF 2004 60401 1 g w 3 29 (((⟨0, []⟩ : Design)).Rows) p1 ∧ e 5 = p4 ∧ OB 2005 g w 29 (u0 : Design) p4 ∧ OSF 2005 60501 1 g w 3 29 ((u0).Rows) p4 ∧ e 6 = .int .i64 (o0)) (fun X160 q8 nA h => ?_) ?_
  ·obtain ⟨o3, hx, h⟩ := bsome h
   refine E_join (fun e w => ∃ (g : Gh) , Fr gI wI g w ∧ e 1 = up1 ∧ RV g.m w (x1 : List UInt16) up1 ∧ e 4 = p1 ∧ OB 2004 g w 29 ((⟨0, []⟩ : Design) : Design) p1 ∧ OSF 2004 60401 1 g w 3 29 (((⟨0, []⟩ : Design)).Rows) p1 ∧ e 5 = p4 ∧ OB 2005 g w 29 (u0 : Design) p4 ∧ OSF 2005 60501 1 g w 3 29 ((u0).Rows) p4 ∧ e 6 = .int .i64 (o0) ∧ e 24 = .bool (o3)) (fun Q' hQ => ?_) (fun oB cC hR => ?_)
   ·replace h := hx
    clear hx
    refine E_region (EL_mv u3 rfl ?_)
    refine EL_in (.bool ((o0 == (0 : Int)))) rfl rfl rfl rfl ?_
    refine EL_mw (.bool ((o0 == (0 : Int)))) rfl rfl ?_
    rcases csome h with ⟨j1, h⟩ | ⟨j1, h⟩
    ·refine EL_s rfl rfl j1 rfl rfl ?_
     iterate 4 refine EL_s rfl rfl j1 rfl rfl ?_
     refine EL_skip (.off rfl rfl) rfl ?_
     refine EL_skip (.off rfl rfl) rfl ?_
     refine EL_s rfl rfl j1 rfl rfl ?_
     refine EL_p (.bool true) (P_pick (b := (o0 == (0 : Int))) rfl (pick_t j1 rfl)) rfl ?_
     refine EL_nil ?_
     obtain rfl := sinj h
     exact hQ _ _ ⟨l8, hfr, t5, x5, y6, a7, u4_1_153, b7, c7, u5_1_153, u3, rfl⟩
    ·refine EL_y (.int .i64 (o0)) (P_move u3) rfl rfl j1 rfl ?_
     refine EL_y up1 (P_move t5) rfl rfl j1 rfl ?_
     refine EL_y (.int .i64 ((x1).length : Int)) (P_len Tryz.underlying22 rfl x5) rfl rfl j1 rfl ?_
     refine EL_y (.bool ((decide (o0 < ((x1).length : Int))))) (P_int rfl rfl rfl) rfl rfl j1 rfl ?_
     refine EL_y (.bool ((decide (o0 < ((x1).length : Int))))) (P_move rfl) rfl rfl j1 rfl ?_
     rcases csome h with ⟨z4, h⟩ | ⟨z4, h⟩
     ·refine EL_y (.int .i64 (o0)) (P_move u3) rfl rfl z4 rfl ?_
      refine EL_y (.bool ((decide (o0 < (12 : Int))))) (P_int rfl rfl rfl) rfl rfl z4 rfl ?_
      refine EL_y (.bool ((decide (o0 < (12 : Int))))) (P_pick (b := (decide (o0 < ((x1).length : Int)))) rfl (pick_t z4 rfl)) rfl rfl j1 rfl ?_
      refine EL_p (.bool ((decide (o0 < (12 : Int))))) (P_pick (b := (o0 == (0 : Int))) rfl (pick_f j1 rfl)) rfl ?_
      refine EL_nil ?_
      obtain rfl := sinj h
      exact hQ _ _ ⟨l8, hfr, t5, x5, y6, a7, u4_1_153, b7, c7, u5_1_153, u3, rfl⟩
     ·refine EL_s rfl rfl z4 rfl rfl ?_
      refine EL_s rfl rfl z4 rfl rfl ?_
      refine EL_y (.bool false) (P_pick (b := (decide (o0 < ((x1).length : Int)))) rfl (pick_f z4 rfl)) rfl rfl j1 rfl ?_
      refine EL_p (.bool false) (P_pick (b := (o0 == (0 : Int))) rfl (pick_f j1 rfl)) rfl ?_
      refine EL_nil ?_
      obtain rfl := sinj h
      exact hQ _ _ ⟨l8, hfr, t5, x5, y6, a7, u4_1_153, b7, c7, u5_1_153, u3, rfl⟩
   ·clear hx
    obtain ⟨r8, hfr, t8, v8, o7, u7, u4_1_165, v7, c8, u5_1_165, x8, g7⟩ := hR
    rcases csome h with ⟨m7, h⟩ | ⟨m7, h⟩
    ·refine E_cond_true (Eq.trans (show ev _ _ = .bool (o3) from g7) (congrArg Value.bool m7)) ?_
     exact E_skip (thn_n (nA () _ _ ⟨r8, hfr, t8, v8, o7, u7, u4_1_165, v7, c8, u5_1_165, x8⟩ h))
    ·refine E_cond_false (Eq.trans (show ev _ _ = .bool (o3) from g7) (congrArg Value.bool m7)) ?_
     refine E_exit ?_
     refine thn_e ?_
     refine thn_e ?_
     refine blk_hit ?_
     obtain rfl := sinj h
     exact hQ _ _ ⟨r8, hfr, o7, u7, u4_1_165, v7, c8, u5_1_165⟩
  ·rintro _ tB dC ⟨y8, hfr, i6, d3, e8, j6, u4_1_167, d7, z3, u5_1_167, v6⟩ h
   obtain ⟨l5, hx, h⟩ := bsome h
   refine E_join (fun e w => ∃ (g : Gh) , Fr gI wI g w ∧ e 1 = up1 ∧ RV g.m w (x1 : List UInt16) up1 ∧ e 4 = p1 ∧ OB 2004 g w 29 ((⟨0, []⟩ : Design) : Design) p1 ∧ OSF 2004 60401 1 g w 3 29 (((⟨0, []⟩ : Design)).Rows) p1 ∧ e 5 = p4 ∧ OB 2005 g w 29 (l5 : Design) p4 ∧ OSF 2005 60501 1 g w 3 29 ((l5).Rows) p4 ∧ e 6 = .int .i64 (o0)) (fun Q' hQ => ?_) (fun vB eC hR => ?_)
   ·replace h := hx
    clear hx
    refine E_block ?_
    refine E_seq (E_region (EL_at (.int .i64 (1)) rfl rfl ?_))
    refine EL_nil (thn_n ?_)
    obtain ⟨i5, hx, h⟩ := bsome h
    refine E_join (fun e w => ∃ (g : Gh) , Fr gI wI g w ∧ e 1 = up1 ∧ RV g.m w (x1 : List UInt16) up1 ∧ e 4 = p1 ∧ OB 2004 g w 29 ((⟨0, []⟩ : Design) : Design) p1 ∧ OSF 2004 60401 1 g w 3 29 (((⟨0, []⟩ : Design)).Rows) p1 ∧ e 5 = p4 ∧ OB 2005 g w 29 (u0 : Design) p4 ∧ OSF 2005 60501 1 g w 3 29 ((u0).Rows) p4 ∧ e 6 = .int .i64 (o0) ∧ e 7 = .int .i64 (i5)) (fun Q' hQ => ?_) (fun xB iC hR => ?_)
    ·replace h := hx
     clear hx
     refine E_seq (E_region (EL_mv v6 rfl ?_))
     refine EL_mv i6 rfl ?_
     refine EL_p (.int .i64 ((x1).length : Int)) (P_len Tryz.underlying22 rfl d3) rfl ?_
     refine EL_in (.bool ((decide (o0 < ((x1).length : Int))))) rfl rfl rfl rfl ?_
     refine EL_nil (thn_n ?_)
     rcases csome h with ⟨n7, h⟩ | ⟨n7, h⟩
     ·refine E_ct n7 rfl ?_
      obtain ⟨i7, n8, h⟩ := bsome h
      have yA := PT_idx d3 n8
      refine L_load (x := .tmp 33) Tryz.isAgg133 Tryz.sizeOf133 yA fun jC zA oA => ?_
      obtain rfl := RV_u16.1 zA
      refine L_loadO (x := .tmp 36) part_Design_0.1 Tryz.isAgg3 Tryz.sizeOf3 z3 fun kC aB pA => ?_
      obtain rfl := RV_int.1 aB
      obtain ⟨i8, qA, h⟩ := bsome h
      obtain ⟨j7, rA, h⟩ := bsome h
      refine E_drawL (g := y8) (n := 11) [] [0, 1, 2, 3, 4, 5, 6, 7, 8, 9, 10] rfl mixed (by kernel_rfl) trivial ?_
      refine L_p up1 rfl rfl (P_move i6) ?_
      refine L_p (.int .i64 (o0)) rfl rfl (P_move v6) ?_
      refine L_p (ePtr up1 o0 1) rfl rfl (P_indexAddr (α := UInt16) Tryz.underlying22 Tryz.sizeOf133 rfl d3 rfl n8) ?_
      refine L_ld (c := .int .u16 (UInt16.toNat (i7))) rfl rfl .plain (fun _ _ h => h.ch) oA rfl ?_
      refine L_p (.int .i64 (((i7).toNat : Int))) rfl rfl (P_u16int Tryz.underlying133 Tryz.underlying3 rfl) ?_
      refine L_p (fPtr p4 0) rfl rfl (P_fieldAddr at_29_0 d7 (OB.ptr z3)) ?_
      refine L_ld (c := .int .i64 ((u0).Hooks)) rfl rfl .plain (fun _ _ h => ⟨h.ch, fun b hb _ => h.below.block b hb⟩) pA rfl ?_
      refine L_p (.int .u64 (wu64 (u0).Hooks)) rfl rfl (P_intu64 Tryz.underlying3 Tryz.underlying134 rfl) ?_
      refine L_p (.int .i64 (i8)) rfl rfl (P_shlu rfl rfl qA) ?_
      refine L_p (.int .i64 (j7)) rfl rfl (P_int rfl rfl (congrArg (Option.map (Value.int .i64)) rA)) ?_
      refine L_p (.int .i64 (j7)) rfl rfl (P_assign rfl) ?_
      refine L_nl fun bB lC hs => ?_
      have hfr := hfr.ext hs
      have d3 := d3.ext hs
      have u4_1_167 := u4_1_167.ext hs
      have j6 := j6.ext hs
      have u5_1_167 := u5_1_167.ext hs
      have z3 := z3.ext hs
      clear hs
      refine EL_nil ?_
      obtain rfl := sinj h
      exact hQ _ _ ⟨bB, hfr, i6, d3, e8, j6, u4_1_167, d7, z3, u5_1_167, v6, rfl⟩
     ·refine E_cf n7 rfl ?_
      refine E_skip ?_
      obtain rfl := sinj h
      exact hQ _ _ ⟨y8, hfr, i6, d3, e8, j6, u4_1_167, d7, z3, u5_1_167, v6, rfl⟩
    ·clear hx
     obtain ⟨a9, hfr, d9, i3, e9, j3, u4_1_288, e7, z2, u5_1_288, i9, k9⟩ := hR
     refine E_region (EL_p (fPtr p4 1) (P_fieldAddr at_29_1 e7 (OB.ptr z2)) rfl ?_)
     refine EL_do .plain rfl (D_loadFS (g := a9) part_Design_1.1 Tryz.isAgg25 Tryz.sizeOf25 rfl z2 u5_1_288 fun mC m8 o290 => ?_)
     refine EL_mv k9 rfl ?_
     refine EL_do .plain rfl (D_buildSlice (g := a9) 3044 (xs := ([i5] : List Int)) (vs := [.int .i64 (i5)]) Tryz.underlying25 Tryz.sizeOf3 Tryz.zeroValue3 rfl rfl (.cons rfl .nil) (RVs.cons (RV_int.2 rfl) RVs.nil) rfl rfl fun cB qC rC hs o291 dB hxt hfl => ?_)
     have hfr := hfr.stp hs
     have i3 := i3.stp hs
     have u4_1_288 := u4_1_288.stp hs rfl
     have j3 := j3.stp hs rfl
     have z2 := z2.stp hs rfl
     have m8 := m8.stp hs
     have o290 := o290.stp hs rfl
     obtain ⟨k8, sA, h⟩ := bsome h
     refine EL_do .plain rfl (D_append (g := cB) (i := 60501) Tryz.underlying25 info_3 rfl rfl o290 m8 rfl dB sA fun eB tC uC hs o292 l9 _ => ?_)
     have hfr := hfr.stp hs
     have i3 := i3.stp hs
     have u4_1_288 := u4_1_288.stp hs rfl
     have j3 := j3.stp hs rfl
     have z2 := z2.stp hs rfl
     refine EL_p (fPtr p4 1) (P_fieldAddr at_29_1 e7 (OB.ptr z2)) rfl ?_
     refine EL_do .plain rfl (D_storeFc (g := eB) part_Design_1 Tryz.sizeOf25 rfl z2 rfl l9 fun iB vC hs b295 rst hos => ?_)
     have n9 := hos _ _ 60501 3 (k8 : List Int) (rv_cells1 l9) rfl o292
     clear rst hos
     have hfr := hfr.stp hs
     have i3 := i3.stp hs
     have u4_1_288 := u4_1_288.stp hs rfl
     have j3 := j3.stp hs rfl
     refine EL_nil (blk_n ?_)
     obtain rfl := sinj h
     exact hQ _ _ ⟨iB, hfr, d9, i3, e9, j3, u4_1_288, e7, b295, n9, i9⟩
   ·clear hx
    obtain ⟨jB, hfr, o9, t9, u9, y9, u4_1_296, z9, bA, u5_1_296, gA⟩ := hR
    refine E_region (EL_mv gA rfl ?_)
    refine EL_in (.int .i64 ((w64 (o0 + (1 : Int))))) rfl rfl rfl rfl ?_
    refine EL_at (.int .i64 ((w64 (o0 + (1 : Int))))) rfl rfl ?_
    exact EL_nil (thn_n (mA (l5, (w64 (o0 + (1 : Int)))) _ _ ⟨jB, hfr, o9, t9, u9, y9, u4_1_296, z9, bA, u5_1_296, rfl⟩ h))
 ·clear hx
  obtain ⟨iA, hfr, g8, jA, u4_1_297, kA, lA, u5_1_297⟩ := hR
  refine E_seq (E_region (EL_do .plain rfl (D_loadO (g := iA) Tryz.isAgg29 Tryz.sizeOf29 kA lA fun kB lB => ?_)))
  refine EL_do .plain rfl (D_storeOc (g := iA) (v := kB) Tryz.sizeOf29 g8 jA rfl lB fun xC yC hs b299 cb => ?_)
  clear cb
  have hfr := hfr.stp hs
  refine EL_nil (thn_n (E_ret ?_))
  obtain rfl := sinj h
  obtain ⟨ad300, cv300, hp300, uA, cr300⟩ := ob_read Tryz.isAgg29 Tryz.sizeOf29 b299
  exact endm_c rfl rfl ((show _ = p1 from g8).trans hp300) uA ⟨_, hfr, cr300⟩
def f27 (x0 : Design) : Option (Design) :=
 (apnd 8 (([] : List Int)) ((x0).Rows)).bind fun y7 =>
 some ({ x0 with Rows := y7 })
theorem en27 : Enters Tryz.prog 27 := enters_of Tryz.func27 (by kernel_rfl) rfl
theorem wk27 {gI : Gh} {wI : World} {x0 : Design} {up0 : Value} (rp0 : RV gI.m wI x0 up0) {r : Design} (h : f27 x0 = some r) : Fn Tryz.prog 27 #[up0] gI wI (fun m w v => RV m w (r) v) := by
 unfold f27 at h
 refine fn_of_E Tryz.func27 rfl (Nat.le_of_ble_eq_true rfl) fun g0 hm hfr => ?_
 have rp0 : RV g0.m wI x0 up0 := hm ▸ rp0
 show E _ 9 none _ _ _ _ _
 refine E_seq (E_region (EL_do .plain rfl (D_boxO (g := g0) 2001 rfl rp0 fun g1 w1 p1 hs b1 => ?_)))
 have hfr := hfr.stp hs
 refine EL_do .plain rfl (D_allocOc (g := g1) 2002 (⟨0, []⟩ : Design) Tryz.zeroValue29 (fun m w => ⟨_, (rep_two rep_int rep_nil), rfl⟩) fun g2 w2 p2 hs b2 cb => ?_)
 have hfr := hfr.stp hs
 have b1 := b1.stp hs rfl
 have z2 : OSF 2002 60201 1 g2 w2 3 29 ([] : List Int) p2 := cb.osf (by rfl)
 clear cb
 refine EL_nil (thn_n (E_seq (E_region (EL_do .plain rfl (D_buildSlice (g := g2) 3003 (xs := ([] : List Int)) (vs := []) Tryz.underlying25 Tryz.sizeOf3 Tryz.zeroValue3 rfl rfl .nil RVs.nil rfl rfl fun g3 w3 v3 hs o3 r3 hxt hfl => ?_)))))
 have hfr := hfr.stp hs
 have b1 := b1.stp hs rfl
 have b2 := b2.stp hs rfl
 refine EL_p (fPtr p1 1) (P_fieldAddr at_29_1 rfl (OB.ptr b1)) rfl ?_
 refine EL_do .plain rfl (D_loadF (g := g3) part_Design_1.1 Tryz.isAgg25 Tryz.sizeOf25 rfl b1 fun v5 r5 => ?_)
 obtain ⟨y7, o0, h⟩ := bsome h
 refine EL_do .plain rfl (D_append (g := g3) (i := 3003) Tryz.underlying25 info_3 rfl rfl o3 r3 rfl r5 o0 fun g6 w6 v6 hs o6 r6 _ => ?_)
 have hfr := hfr.stp hs
 have b1 := b1.stp hs rfl
 have b2 := b2.stp hs rfl
 refine EL_p (fPtr p1 1) (P_fieldAddr at_29_1 rfl (OB.ptr b1)) rfl ?_
 refine EL_do .plain rfl (D_storeFc (g := g6) part_Design_1 Tryz.sizeOf25 rfl b1 rfl r6 fun g9 w9 hs b9 rst hos => ?_)
 have d3 := hos _ _ 3003 3 (y7 : List Int) (rv_cells1 r6) rfl o6
 clear rst hos
 have hfr := hfr.stp hs
 have b2 := b2.stp hs rfl
 refine EL_nil (thn_n (E_seq (E_region (EL_do .plain rfl (D_loadO (g := g9) Tryz.isAgg29 Tryz.sizeOf29 rfl b9 fun u0 j1 => ?_)))))
 refine EL_do .plain rfl (D_storeOc (g := g9) (v := u0) Tryz.sizeOf29 rfl b2 rfl j1 fun i3 j3 hs b11 cb => ?_)
 clear cb
 have hfr := hfr.stp hs
 refine EL_nil (thn_n (E_ret ?_))
 obtain rfl := sinj h
 obtain ⟨ad12, cv12, hp12, hl12, cr12⟩ := ob_read Tryz.isAgg29 Tryz.sizeOf29 b11
 exact endm_c rfl rfl ((show _ = p2 from rfl).trans hp12) hl12 ⟨_, hfr, cr12⟩
def f32 (x0 : PayPayList) (x1 : Int) (x2 : Int) : Option (Int) :=
 (quo64 (w64 (x1 * ((x0).PayList).Cap)) (1000 : Int)).bind fun y8 =>
 some ((min64 (w64 (x2 * ((x0).PayList).Fine)) y8))
theorem en32 : Enters Tryz.prog 32 := enters_of Tryz.func32 (by kernel_rfl) rfl
theorem wk32 {gI : Gh} {wI : World} {x0 : PayPayList} {x1 : Int} {x2 : Int} {up0 : Value} (rp0 : RV gI.m wI x0 up0) {r : Int} (h : f32 x0 x1 x2 = some r) : Fn Tryz.prog 32 #[up0, .int .i64 (x1), .int .i64 (x2)] gI wI (fun _ _ v => v = .int .i64 (r)) := by
 unfold f32 at h
 refine fn_of_E Tryz.func32 rfl (Nat.le_of_ble_eq_true rfl) fun g0 hm hfr => ?_
 have rp0 : RV g0.m wI x0 up0 := hm ▸ rp0
 show E _ 19 none _ _ _ _ _
 refine E_seq (E_region (EL_do .plain rfl (D_box (g := g0) rfl rp0 fun g1 w1 p1 hs q1 => ?_)))
 have hfr := hfr.ext hs
 refine EL_at (.int .i64 (0)) rfl rfl ?_
 refine EL_nil (thn_n (E_seq (E_region (EL_mw (.int .i64 (x2)) rfl rfl ?_))))
 refine EL_p (fPtr p1 0) (P_fieldAddr at_96_0 rfl (PT.ptr q1)) rfl ?_
 have q2 := PT_field (part_PayPayList_0).1 q1
 refine EL_p (fPtr (fPtr p1 0) 2) (P_fieldAddr at_35_2 rfl (PT.ptr q2)) rfl ?_
 have q3 := PT_field (part_PayList_2).1 q2
 refine EL_do .plain rfl (D_load (g := g1) Tryz.isAgg3 Tryz.sizeOf3 rfl q3 fun v4 r4 => ?_)
 obtain rfl := RV_int.1 r4
 refine EL_in (.int .i64 ((w64 (x2 * ((x0).PayList).Fine)))) rfl rfl rfl rfl ?_
 refine EL_mw (.int .i64 (x1)) rfl rfl ?_
 refine EL_p (fPtr p1 0) (P_fieldAddr at_96_0 rfl (PT.ptr q1)) rfl ?_
 have q5 := PT_field (part_PayPayList_0).1 q1
 refine EL_p (fPtr (fPtr p1 0) 3) (P_fieldAddr at_35_3 rfl (PT.ptr q5)) rfl ?_
 have q6 := PT_field (part_PayList_3).1 q5
 refine EL_do .plain rfl (D_load (g := g1) Tryz.isAgg3 Tryz.sizeOf3 rfl q6 fun v7 r7 => ?_)
 obtain rfl := RV_int.1 r7
 refine EL_in (.int .i64 ((w64 (x1 * ((x0).PayList).Cap)))) rfl rfl rfl rfl ?_
 obtain ⟨y8, o0, h⟩ := bsome h
 refine EL_p (.int .i64 (y8)) (P_int rfl rfl (congrArg (Option.map (Value.int .i64)) o0)) rfl ?_
 refine EL_p (.int .i64 (min64 (w64 (x2 * ((x0).PayList).Fine)) y8)) (P_min rfl rfl) rfl ?_
 refine EL_at (.int .i64 (min64 (w64 (x2 * ((x0).PayList).Fine)) y8)) rfl rfl ?_
 refine EL_nil (thn_n (E_ret ?_))
 obtain rfl := sinj h
 exact end1 rfl rfl (show _ = .int .i64 (min64 (w64 (x2 * ((x0).PayList).Fine)) y8) from rfl) ⟨_, hfr, rfl⟩
def f34  : Option (FaultLoom) :=
 some ((⟨(⟨(4 : Int), ([(0 : Int), (1 : Int), (2 : Int), (3 : Int), (2 : Int), (1 : Int)] : List Int)⟩ : TieHarness), (⟨(4 : Int), ([(1 : Int), (6 : Int)] : List Int)⟩ : Design)⟩ : FaultLoom))
theorem en34 : Enters Tryz.prog 34 := enters_of Tryz.func34 (by kernel_rfl) rfl
theorem wk34 {gI : Gh} {wI : World}   {r : FaultLoom} (h : f34  = some r) : Fn Tryz.prog 34 #[] gI wI (fun m w v => RV m w (r) v) := by
 unfold f34 at h
 refine fn_of_E Tryz.func34 rfl (Nat.le_of_ble_eq_true rfl) fun g0 hm hfr => ?_
 show E _ 6 none _ _ _ _ _
 refine E_seq (E_region (EL_do .plain rfl (D_allocOc (g := g0) 2000 (⟨⟨0, []⟩, ⟨0, []⟩⟩ : FaultLoom) Tryz.zeroValue31 (fun m w => ⟨_, (rep_two (rep_two rep_int rep_nil) (rep_two rep_int rep_nil)), rfl⟩) fun g1 w1 p1 hs b1 cb => ?_)))
 have hfr := hfr.stp hs
 have z2 : OSF 2000 60001 1 g1 w1 3 31 ([] : List Int) p1 := cb.osf (by rfl)
 have d3 : OSF 2000 60003 3 g1 w1 3 31 ([] : List Int) p1 := cb.osf (by rfl)
 clear cb
 refine EL_nil (thn_n (E_seq (E_region (EL_do .plain rfl (D_buildSlice (g := g1) 3001 (xs := ([(0 : Int), (1 : Int), (2 : Int), (3 : Int), (2 : Int), (1 : Int)] : List Int)) (vs := [.int .i64 (0), .int .i64 (1), .int .i64 (2), .int .i64 (3), .int .i64 (2), .int .i64 (1)]) Tryz.underlying25 Tryz.sizeOf3 Tryz.zeroValue3 rfl rfl (.cons rfl (.cons rfl (.cons rfl (.cons rfl (.cons rfl (.cons rfl .nil)))))) (RVs.cons (RV_int.2 rfl) (RVs.cons (RV_int.2 rfl) (RVs.cons (RV_int.2 rfl) (RVs.cons (RV_int.2 rfl) (RVs.cons (RV_int.2 rfl) (RVs.cons (RV_int.2 rfl) RVs.nil)))))) rfl rfl fun g2 w2 v2 hs o2 r2 hxt hfl => ?_)))))
 have hfr := hfr.stp hs
 have b1 := b1.stp hs rfl
 have r3 : RV g2.m _ (⟨(4 : Int), ([(0 : Int), (1 : Int), (2 : Int), (3 : Int), (2 : Int), (1 : Int)] : List Int)⟩ : TieHarness) (.agg (setCh [[.int .i64 0], [.slice none 0 0]] [(0, .int .i64 (4)), (1, v2)]).flatten.toArray) := RV_build rfl (rep_pair (rfl) (rep_last (RV.cells r2)))
 generalize hv3 : (Value.agg (setCh [[.int .i64 0], [.slice none 0 0]] [(0, .int .i64 (4)), (1, v2)]).flatten.toArray) = v3 at r3
 refine EL_p v3 (hv3 ▸ P_build (vs := [(0, .int .i64 (4)), (1, v2)]) [[.int .i64 0], [.slice none 0 0]] lay_27 rfl rfl (.cons rfl (.cons rfl .nil)) ⟨⟨_, rfl, rfl⟩, ⟨⟨_, rfl, cells_size r2⟩, trivial⟩⟩) rfl ?_
 refine EL_do .plain rfl (D_buildSlice (g := g2) 3003 (xs := ([(1 : Int), (6 : Int)] : List Int)) (vs := [.int .i64 (1), .int .i64 (6)]) Tryz.underlying25 Tryz.sizeOf3 Tryz.zeroValue3 rfl rfl (.cons rfl (.cons rfl .nil)) (RVs.cons (RV_int.2 rfl) (RVs.cons (RV_int.2 rfl) RVs.nil)) rfl rfl fun g4 w4 v4 hs o4 r4 hxt hfl => ?_)
 have hfr := hfr.stp hs
 have b1 := b1.stp hs rfl
 have r3 := r3.stp hs
 have r5 : RV g4.m _ (⟨(4 : Int), ([(1 : Int), (6 : Int)] : List Int)⟩ : Design) (.agg (setCh [[.int .i64 0], [.slice none 0 0]] [(0, .int .i64 (4)), (1, v4)]).flatten.toArray) := RV_build rfl (rep_pair (rfl) (rep_last (RV.cells r4)))
 generalize o0 : (Value.agg (setCh [[.int .i64 0], [.slice none 0 0]] [(0, .int .i64 (4)), (1, v4)]).flatten.toArray) = v5 at r5
 refine EL_p v5 (o0 ▸ P_build (vs := [(0, .int .i64 (4)), (1, v4)]) [[.int .i64 0], [.slice none 0 0]] lay_29 rfl rfl (.cons rfl (.cons rfl .nil)) ⟨⟨_, rfl, rfl⟩, ⟨⟨_, rfl, cells_size r4⟩, trivial⟩⟩) rfl ?_
 have r6 : RV g4.m _ (⟨(⟨(4 : Int), ([(0 : Int), (1 : Int), (2 : Int), (3 : Int), (2 : Int), (1 : Int)] : List Int)⟩ : TieHarness), (⟨(4 : Int), ([(1 : Int), (6 : Int)] : List Int)⟩ : Design)⟩ : FaultLoom) (.agg (setCh [[.int .i64 0, .slice none 0 0], [.int .i64 0, .slice none 0 0]] [(0, v3), (1, v5)]).flatten.toArray) := RV_build rfl (rep_pair (RV.cells r3) (rep_last (RV.cells r5)))
 generalize u0 : (Value.agg (setCh [[.int .i64 0, .slice none 0 0], [.int .i64 0, .slice none 0 0]] [(0, v3), (1, v5)]).flatten.toArray) = v6 at r6
 refine EL_p v6 (u0 ▸ P_build (vs := [(0, v3), (1, v5)]) [[.int .i64 0, .slice none 0 0], [.int .i64 0, .slice none 0 0]] lay_31 rfl rfl (.cons rfl (.cons rfl .nil)) ⟨⟨_, rfl, cells_size r3⟩, ⟨⟨_, rfl, cells_size r5⟩, trivial⟩⟩) rfl ?_
 refine EL_do .plain rfl (D_storeOc (g := g4) (v := v6) Tryz.sizeOf31 rfl b1 rfl r6 fun g7 w7 hs b7 cb => ?_)
 clear cb
 have hfr := hfr.stp hs
 refine EL_nil (thn_n (E_ret ?_))
 obtain rfl := sinj h
 obtain ⟨ad8, cv8, hp8, j1, cr8⟩ := ob_read Tryz.isAgg31 Tryz.sizeOf31 b7
 exact endm_c rfl rfl ((show _ = p1 from rfl).trans hp8) j1 ⟨_, hfr, cr8⟩
theorem v84_0 {iO : Nat} {gI : Gh} {wI : World} {x0 : List Int} {up0 : Value} (rp0 : RV gI.m wI x0 up0) {r : List Int} (h : f84 x0 = some r) : FnG Tryz.prog 84 #[up0] gI wI (fun g w v => OM iO g w 3 r v) := by
 unfold f84 at h
 refine fnG_of_E Tryz.func84 rfl (Nat.le_of_ble_eq_true rfl) fun g0 hm hfr => ?_
 have rp0 : RV g0.m wI x0 up0 := hm ▸ rp0
 show E _ 8 none _ _ _ _ _
 refine E_seq (E_region (EL_at (.slice none 0 0) rfl rfl (EL_nil (thn_n ?_))))
 refine E_seq (E_seq (E_region (EL_mw up0 rfl rfl ?_)))
 obtain ⟨a, c, hv, hc, hrow⟩ := RV_list rp0
 refine EL_p (.bool a.isNone) (P_slnil Tryz.underlying25 (show ev _ _ = _ from hv)) rfl (EL_nil (thn_n ?_))
 cases a with
 | none =>
  have hx : x0 = [] := by
   cases x0 with
   | nil => rfl
   | cons y ys => obtain ⟨b, off, hb, _⟩ := hrow (by simp); cases hb
  subst hx
  have hr : r = [] := by unfold apnd at h; split at h <;> simp at h; exact h
  subst hr
  refine E_cond_true rfl (E_seq (E_region ?_))
  refine EL_at (.slice none 0 0) rfl rfl (EL_nil (thn_n ?_))
  obtain ⟨gh, hxh, homh⟩ := OM.handn (i := iO) (t := 3) (α := Int) hfr; exact E_ret (thn_r (end1 rfl rfl (show _ = .slice none 0 0 from rfl) ⟨gh, hxh, homh⟩))
 | some a =>
  refine E_cond_false rfl (E_skip (thn_n ?_))
  refine E_seq (E_region (EL_do .plain rfl (D_buildSlice (g := g0) 1 (xs := ([] : List Int)) (vs := []) Tryz.underlying25 Tryz.sizeOf3 Tryz.zeroValue3 rfl rfl .nil RVs.nil rfl rfl fun g1 w1 v1 hs o1 r1 hxt hfl => ?_)))
  have hfr := hfr.stp hs
  have rp0 := rp0.stp hs
  refine EL_mw up0 rfl rfl ?_
  refine EL_do .plain rfl (D_append (g := g1) (i := 1) Tryz.underlying25 info_3 rfl rfl o1 r1 rfl rp0 h fun g2 w2 v2 hs o2 r2 _ => ?_)
  have hfr := hfr.stp hs
  refine EL_at v2 rfl rfl (EL_nil (thn_n ?_))
  obtain ⟨gh, hxh, homh⟩ := OM.hand (i := iO) plain_int hfr o2 r2; exact E_ret (end1 rfl rfl (show _ = v2 from rfl) ⟨gh, hxh, homh⟩)
def f53 (x0 : FaultFaultLoom) (σ : Type) (cons : Cons σ FaultDamage) (s0 : σ) : Option σ :=
 Option.bind (α := (List FaultDamage)) (
  lp (σ := (List FaultDamage) × Int) (fun uI (o9, z2) =>
   bif (decide (z2 < (w64 ((((((x0).FaultLoom).Design).Rows).length : Int) * (((x0).FaultLoom).Design).Hooks)))) then
    Option.bind (α := (List FaultDamage)) (
     (quo64 z2 (((x0).FaultLoom).Design).Hooks).bind fun y125 =>
     (rem64 z2 (((x0).FaultLoom).Design).Hooks).bind fun u3 =>
     (apnd 40 o9 (([(⟨(1 : Int), y125, u3, 0, false⟩ : FaultDamage)] : List FaultDamage))).bind fun jD =>
     some (jD)
     ) fun t5 =>
    uI (t5, (w64 (z2 + (1 : Int))))
   else
    some (o9)
   ) big ([], (0 : Int))
  ) fun x6 =>
 Option.bind (α := (List FaultDamage)) (
  lp (σ := (List FaultDamage) × Int) (fun kD (s7_169, o0) =>
   bif (decide (o0 < (((x0).FaultLoom).Design).Hooks)) then
    Option.bind (α := (List FaultDamage)) (
     (apnd 40 s7_169 (([(⟨(2 : Int), 0, o0, 0, false⟩ : FaultDamage), (⟨(2 : Int), 0, o0, 0, true⟩ : FaultDamage)] : List FaultDamage))).bind fun y180 =>
     some (y180)
     ) fun x5 =>
    kD (x5, (w64 (o0 + (1 : Int))))
   else
    some (s7_169)
   ) big (x6, (0 : Int))
  ) fun y6 =>
 Option.bind (α := (List FaultDamage)) (
  lp (σ := (List FaultDamage) × Int) (fun lD (m8, d3) =>
   bif (decide (d3 < (2 : Int))) then
    Option.bind (α := (List FaultDamage)) (
     (idx ((⟨List.toArray [(3 : Int), (4 : Int)], rfl⟩ : Vector Int 2)).toList d3).bind fun i5 =>
     lp (σ := (List FaultDamage) × Int) (fun mD (n8, u0) =>
      bif (decide (u0 < (((((x0).FaultLoom).Design).Rows).length : Int))) then
       Option.bind (α := (List FaultDamage)) (
        (apnd 40 n8 (([(⟨i5, u0, 0, 0, false⟩ : FaultDamage)] : List FaultDamage))).bind fun nD =>
        some (nD)
        ) fun i6 =>
       mD (i6, (w64 (u0 + (1 : Int))))
      else
       some (n8)
      ) big (m8, (0 : Int))
     ) fun j6 =>
    lD (j6, (w64 (d3 + (1 : Int))))
   else
    some (m8)
   ) big (y6, (0 : Int))
  ) fun a7 =>
 Option.bind (α := (List FaultDamage)) (
  lp (σ := (List FaultDamage) × Int) (fun oD (o8, j1) =>
   bif (decide (j1 < (((((x0).FaultLoom).Harness).Warps).length : Int))) then
    Option.bind (α := (List FaultDamage)) (
     (apnd 40 o8 (([(⟨(5 : Int), 0, 0, j1, false⟩ : FaultDamage)] : List FaultDamage))).bind fun sD =>
     some (sD)
     ) fun v6 =>
    oD (v6, (w64 (j1 + (1 : Int))))
   else
    some (o8)
   ) big (a7, (0 : Int))
  ) fun i3 =>
 lp (σ := σ × Int) (fun tD (r8, j3) =>
  bif (decide (j3 < ((i3).length : Int))) then
   jn (σ := σ) (fun t8 =>
    tD (t8, (w64 (j3 + (1 : Int))))
    ) fun uD =>
   (idx i3 j3).bind fun kB =>
   (cons r8 kB).bind fun (t9, g8) =>
   bif (!t9) then
    some g8
   else
    uD (g8)
  else
   some r8
  ) big (s0, (0 : Int))
theorem en53 : Enters Tryz.prog 53 := enters_of Tryz.func53 (by kernel_rfl) rfl
theorem wk53 {σ : Type} {cons : Cons σ FaultDamage} {s0 r : σ} {gI : Gh} {wI : World} {x0 : FaultFaultLoom} {up0 : Value} (rp0 : RV gI.m wI x0 up0) (h : f53 x0 σ cons s0 = some r) : IterC Tryz.prog (RA1 (α := FaultDamage)) 53 #[up0] #[] gI wI cons s0 r := by
 unfold f53 at h
 refine iter_of_E Tryz.func53 rfl (Nat.le_of_ble_eq_true rfl) fun l B J g0 hm hAb hRo hfr => ?_
 have rp0 : RV g0.m wI x0 up0 := hm ▸ rp0
 show E _ 96 none _ _ (envAt #[up0, .func (.yield l) #[] #[]]) _ _
 refine E_seq (E_region (EL_do .plain rfl (D_box (g := g0) rfl rp0 fun g1 w1 p1 hs q1 => ?_)))
 have hfr := hfr.ext_ hAb hs
 refine EL_nil (thn_n (E_seq ?_))
 have q2 := PT_field (part_FaultFaultLoom_0).1 q1
 have q3 := PT_field (part_FaultLoom_1).1 q2
 have q4 := PT_field (part_Design_1).1 q3
 refine L_load (x := .tmp 18) Tryz.isAgg25 Tryz.sizeOf25 q4 fun v5 r5 tK => ?_
 have q6 := PT_field (part_FaultFaultLoom_0).1 q1
 have q7 := PT_field (part_FaultLoom_1).1 q6
 have q8 := PT_field (part_Design_0).1 q7
 refine L_load (x := .tmp 23) Tryz.isAgg3 Tryz.sizeOf3 q8 fun v9 r9 uK => ?_
 obtain rfl := RV_int.1 r9
 have vI := PT_field (part_FaultFaultLoom_0).1 q1
 have xI := PT_field (part_FaultLoom_0).1 vI
 have vK := PT_field (part_TieHarness_1).1 xI
 refine L_load (x := .tmp 27) Tryz.isAgg25 Tryz.sizeOf25 vK fun xK yK yI => ?_
 refine E_drawL (g := g1) (n := 17) [] [0, 1, 2, 3, 4, 5, 6, 7, 8, 9, 10, 11, 12, 13, 14, 15, 16] rfl mixed (by kernel_rfl) trivial ?_
 refine L_p (fPtr p1 0) rfl rfl (P_fieldAddr at_86_0 rfl (PT.ptr q1)) ?_
 refine L_p (fPtr (fPtr p1 0) 2) rfl rfl (P_fieldAddr at_31_1 rfl (PT.ptr q2)) ?_
 refine L_p (fPtr (fPtr (fPtr p1 0) 2) 1) rfl rfl (P_fieldAddr at_29_1 rfl (PT.ptr q3)) ?_
 refine L_ld (c := v5) rfl rfl .plain (fun _ _ h => h.ch) tK rfl ?_
 refine L_p (.int .i64 (((((x0).FaultLoom).Design).Rows).length : Int)) rfl rfl (P_len Tryz.underlying25 rfl r5) ?_
 refine L_p (fPtr p1 0) rfl rfl (P_fieldAddr at_86_0 rfl (PT.ptr q1)) ?_
 refine L_p (fPtr (fPtr p1 0) 2) rfl rfl (P_fieldAddr at_31_1 rfl (PT.ptr q6)) ?_
 refine L_p (fPtr (fPtr (fPtr p1 0) 2) 0) rfl rfl (P_fieldAddr at_29_0 rfl (PT.ptr q7)) ?_
 refine L_ld (c := .int .i64 ((((x0).FaultLoom).Design).Hooks)) rfl rfl .plain (fun _ _ h => h.ch) uK rfl ?_
 refine L_p (fPtr p1 0) rfl rfl (P_fieldAddr at_86_0 rfl (PT.ptr q1)) ?_
 refine L_p (fPtr (fPtr p1 0) 0) rfl rfl (P_fieldAddr at_31_0 rfl (PT.ptr vI)) ?_
 refine L_p (fPtr (fPtr (fPtr p1 0) 0) 1) rfl rfl (P_fieldAddr at_27_1 rfl (PT.ptr xI)) ?_
 refine L_ld (c := xK) rfl rfl .plain (fun _ _ h => h.ch) yI rfl ?_
 refine L_p (.int .i64 (((((x0).FaultLoom).Harness).Warps).length : Int)) rfl rfl (P_len Tryz.underlying25 rfl yK) ?_
 refine L_p (.int .i64 (((((x0).FaultLoom).Design).Rows).length : Int)) rfl rfl (P_assign rfl) ?_
 refine L_p (.int .i64 ((((x0).FaultLoom).Design).Hooks)) rfl rfl (P_assign rfl) ?_
 refine L_p (.int .i64 (((((x0).FaultLoom).Harness).Warps).length : Int)) rfl rfl (P_assign rfl) ?_
 refine L_nl fun zK bN hs => ?_
 have hfr := hfr.ext_ hAb hs
 clear hs
 refine EL_nil (thn_n (E_seq (E_region (EL_at (.slice none 0 0) rfl rfl ?_))))
 refine EL_nil (thn_n ?_)
 obtain ⟨x6, hx, h⟩ := bsome h
 refine E_join (fun e w => ∃ (g : Gh) (v7 : Value), FrY gI wI B J (s0) g w ∧ e 1 = (.func (.yield l) #[] #[]) ∧ e 4 = .int .i64 ((((((x0).FaultLoom).Design).Rows).length : Int)) ∧ e 5 = .int .i64 ((((x0).FaultLoom).Design).Hooks) ∧ e 6 = .int .i64 ((((((x0).FaultLoom).Harness).Warps).length : Int)) ∧ e 7 = v7 ∧ RV g.m w (x6 : List FaultDamage) v7 ∧ OS 1007 g w 39 (x6 : List FaultDamage) v7) (fun Q' hQ => ?_) (fun bL tL hR => ?_)
 ·replace h := hx
  clear hx
  refine E_seq (E_region (EL_mw (.int .i64 (((((x0).FaultLoom).Design).Rows).length : Int)) rfl rfl ?_))
  refine EL_mw (.int .i64 ((((x0).FaultLoom).Design).Hooks)) rfl rfl ?_
  refine EL_p (.int .i64 ((w64 ((((((x0).FaultLoom).Design).Rows).length : Int) * (((x0).FaultLoom).Design).Hooks)))) (P_int rfl rfl rfl) rfl ?_
  refine EL_mw (.int .i64 (0)) rfl rfl ?_
  refine EL_nil (thn_n (E_block ?_))
  refine E_lp h (fun (s : (List FaultDamage) × Int) e w => ∃ (g : Gh) (v7 : Value), FrY gI wI B J (s0) g w ∧ e 1 = (.func (.yield l) #[] #[]) ∧ e 4 = .int .i64 ((((((x0).FaultLoom).Design).Rows).length : Int)) ∧ e 5 = .int .i64 ((((x0).FaultLoom).Design).Hooks) ∧ e 6 = .int .i64 ((((((x0).FaultLoom).Harness).Warps).length : Int)) ∧ e 7 = v7 ∧ RV g.m w (s.1 : List FaultDamage) v7 ∧ OS 1007 g w 39 (s.1 : List FaultDamage) v7 ∧ e 32 = .int .i64 ((w64 ((((((x0).FaultLoom).Design).Rows).length : Int) * (((x0).FaultLoom).Design).Hooks))) ∧ e 33 = .int .i64 (s.2)) ⟨zK, (.slice none 0 0), hfr, rfl, rfl, rfl, rfl, rfl, RV_nil, OS.nil, rfl, rfl⟩ (fun X95 uI zI => ?_)
  rintro ⟨o9, z2⟩ uL aL ⟨vD, tB, hfr, vB, xB, i8, yB, zB, k8, l8, kA, v8⟩ h
  refine E_seq (E_region (EL_p (.bool ((decide (z2 < (w64 ((((((x0).FaultLoom).Design).Rows).length : Int) * (((x0).FaultLoom).Design).Hooks)))))) (P_int v8 kA rfl) rfl ?_))
  refine EL_nil (thn_n (E_seq ?_))
  rcases csome h with ⟨lB, h⟩ | ⟨lB, h⟩
  ·refine E_ct lB rfl ?_
   refine E_skip (thn_n ?_)
   obtain ⟨t5, hx, h⟩ := bsome h
   refine E_join (fun e w => ∃ (g : Gh) (v7 : Value), FrY gI wI B J (s0) g w ∧ e 1 = (.func (.yield l) #[] #[]) ∧ e 4 = .int .i64 ((((((x0).FaultLoom).Design).Rows).length : Int)) ∧ e 5 = .int .i64 ((((x0).FaultLoom).Design).Hooks) ∧ e 6 = .int .i64 ((((((x0).FaultLoom).Harness).Warps).length : Int)) ∧ e 7 = v7 ∧ RV g.m w (t5 : List FaultDamage) v7 ∧ OS 1007 g w 39 (t5 : List FaultDamage) v7 ∧ e 32 = .int .i64 ((w64 ((((((x0).FaultLoom).Design).Rows).length : Int) * (((x0).FaultLoom).Design).Hooks))) ∧ e 33 = .int .i64 (z2)) (fun Q' hQ => ?_) (fun cL vL hR => ?_)
   ·replace h := hx
    clear hx
    refine E_block ?_
    refine E_seq (E_region (EL_mv v8 rfl ?_))
    refine EL_at (.int .i64 (z2)) rfl rfl ?_
    refine EL_nil (thn_n ?_)
    obtain ⟨y125, xH, h⟩ := bsome h
    obtain ⟨u3, yH, h⟩ := bsome h
    have xD : RV vD.m aL (⟨(1 : Int), y125, u3, 0, false⟩ : FaultDamage) (.agg (setCh [[.int .i64 0], [.int .i64 0], [.int .i64 0], [.int .i64 0], [.bool false]] [(0, .int .i64 (1)), (1, .int .i64 (y125)), (2, .int .i64 (u3))]).flatten.toArray) := RV_build rfl (rep_pair (rfl) (rep_pair (rfl) (rep_pair (rfl) (rep_pair (rep_int) (rep_last (rep_bool))))))
    generalize zH : (Value.agg (setCh [[.int .i64 0], [.int .i64 0], [.int .i64 0], [.int .i64 0], [.bool false]] [(0, .int .i64 (1)), (1, .int .i64 (y125)), (2, .int .i64 (u3))]).flatten.toArray) = yD at xD
    refine E_drawL (g := vD) (n := 9) [(8, (fun v g w => RV g.m w ([(⟨(1 : Int), y125, u3, 0, false⟩ : FaultDamage)] : List FaultDamage) v ∧ OS 3044 g w 39 ([(⟨(1 : Int), y125, u3, 0, false⟩ : FaultDamage)] : List FaultDamage) v ∧ FullV v))] [0, 1, 2, 3, 4, 5, 6, 7, 8] rfl mixed (by kernel_rfl) (⟨fun _ => up_and up_rv (up_and up_os (up_eq _)), trivial⟩) ?_
    refine L_p tB rfl rfl (P_move zB) ?_
    refine L_p (.int .i64 (z2)) rfl rfl (P_move rfl) ?_
    refine L_p (.int .i64 ((((x0).FaultLoom).Design).Hooks)) rfl rfl (P_move i8) ?_
    refine L_p (.int .i64 (y125)) rfl rfl (P_int rfl rfl (congrArg (Option.map (Value.int .i64)) xH)) ?_
    refine L_p (.int .i64 (z2)) rfl rfl (P_move rfl) ?_
    refine L_p (.int .i64 ((((x0).FaultLoom).Design).Hooks)) rfl rfl (P_move i8) ?_
    refine L_p (.int .i64 (u3)) rfl rfl (P_int rfl rfl (congrArg (Option.map (Value.int .i64)) yH)) ?_
    refine L_p yD rfl rfl (zH ▸ P_build (vs := [(0, .int .i64 (1)), (1, .int .i64 (y125)), (2, .int .i64 (u3))]) [[.int .i64 0], [.int .i64 0], [.int .i64 0], [.int .i64 0], [.bool false]] lay_39 rfl rfl (.cons rfl (.cons rfl (.cons rfl .nil))) ⟨⟨_, rfl, rfl⟩, ⟨⟨_, rfl, rfl⟩, ⟨⟨_, rfl, rfl⟩, trivial⟩⟩⟩) ?_
    refine L_do (φ := fun v g w => RV g.m w ([(⟨(1 : Int), y125, u3, 0, false⟩ : FaultDamage)] : List FaultDamage) v ∧ OS 3044 g w 39 ([(⟨(1 : Int), y125, u3, 0, false⟩ : FaultDamage)] : List FaultDamage) v ∧ FullV v) rfl rfl .plain (fun g w hd => D_buildSlice (g := g) 3044 (xs := ([(⟨(1 : Int), y125, u3, 0, false⟩ : FaultDamage)] : List FaultDamage)) (vs := [yD]) Tryz.underlying41 Tryz.sizeOf39 Tryz.zeroValue39 rfl rfl (.cons rfl .nil) (RVs.cons (xD.ext hd.1) RVs.nil) rfl rfl fun g' w' v hs o r hxt hfl => ⟨g', hxt, r, o, hfl⟩) (fun j7 hv => ?_)
    clear hv
    refine L_nil fun aJ xL hall => ?_
    have hs := hall.1
    have hfr := hfr.ext_ hAb hs
    have k8 := k8.ext hs
    have l8 := l8.ext hs
    have bJ := (word_all (A := fun g w => RV g.m w ([(⟨(1 : Int), y125, u3, 0, false⟩ : FaultDamage)] : List FaultDamage) j7 ∧ OS 3044 g w 39 ([(⟨(1 : Int), y125, u3, 0, false⟩ : FaultDamage)] : List FaultDamage) j7 ∧ FullV j7) 8 rfl hall).1
    have o149 := (word_all (A := fun g w => RV g.m w ([(⟨(1 : Int), y125, u3, 0, false⟩ : FaultDamage)] : List FaultDamage) j7 ∧ OS 3044 g w 39 ([(⟨(1 : Int), y125, u3, 0, false⟩ : FaultDamage)] : List FaultDamage) j7 ∧ FullV j7) 8 rfl hall).2.1
    clear hs hall
    obtain ⟨jD, aI, h⟩ := bsome h
    refine EL_do .plain rfl (D_append (g := aJ) (i := 1007) Tryz.underlying41 info_39 rfl rfl l8 k8 rfl bJ aI fun cJ yL zD hs o150 dJ _ => ?_)
    have hfr := hfr.stp_ hAb hs rfl
    refine EL_at zD rfl rfl ?_
    refine EL_nil (blk_n ?_)
    obtain rfl := sinj h
    exact hQ _ _ ⟨cJ, (zD), hfr, vB, xB, i8, yB, rfl, dJ, o150, kA, v8⟩
   ·clear hx
    obtain ⟨eJ, aE, hfr, bE, cE, dE, eE, gE, iE, jE, dC, eC⟩ := hR
    refine E_region (EL_in (.int .i64 ((w64 (z2 + (1 : Int))))) eC rfl rfl rfl ?_)
    refine EL_mw (.int .i64 ((w64 (z2 + (1 : Int))))) rfl rfl ?_
    exact EL_nil (thn_n (zI (t5, (w64 (z2 + (1 : Int)))) _ _ ⟨eJ, (aE), hfr, bE, cE, dE, eE, gE, iE, jE, dC, rfl⟩ h))
  ·refine E_cf lB rfl ?_
   refine E_exit ?_
   refine thn_e ?_
   refine thn_e ?_
   refine blk_hit ?_
   obtain rfl := sinj h
   exact hQ _ _ ⟨vD, (tB), hfr, vB, xB, i8, yB, zB, k8, l8⟩
 ·clear hx
  obtain ⟨gJ, kE, hfr, lE, mE, nE, oE, rE, sE, tE⟩ := hR
  obtain ⟨y6, hx, h⟩ := bsome h
  refine E_join (fun e w => ∃ (g : Gh) (v7 : Value), FrY gI wI B J (s0) g w ∧ e 1 = (.func (.yield l) #[] #[]) ∧ e 4 = .int .i64 ((((((x0).FaultLoom).Design).Rows).length : Int)) ∧ e 6 = .int .i64 ((((((x0).FaultLoom).Harness).Warps).length : Int)) ∧ e 7 = v7 ∧ RV g.m w (y6 : List FaultDamage) v7 ∧ OS 1007 g w 39 (y6 : List FaultDamage) v7) (fun Q' hQ => ?_) (fun dL iJ hR => ?_)
  ·replace h := hx
   clear hx
   refine E_seq (E_region (EL_mv nE rfl ?_))
   refine EL_mw (.int .i64 (0)) rfl rfl ?_
   refine EL_nil (thn_n (E_block ?_))
   refine E_lp h (fun (s : (List FaultDamage) × Int) e w => ∃ (g : Gh) (v7 : Value), FrY gI wI B J (s0) g w ∧ e 1 = (.func (.yield l) #[] #[]) ∧ e 4 = .int .i64 ((((((x0).FaultLoom).Design).Rows).length : Int)) ∧ e 6 = .int .i64 ((((((x0).FaultLoom).Harness).Warps).length : Int)) ∧ e 7 = v7 ∧ RV g.m w (s.1 : List FaultDamage) v7 ∧ OS 1007 g w 39 (s.1 : List FaultDamage) v7 ∧ e 47 = .int .i64 ((((x0).FaultLoom).Design).Hooks) ∧ e 48 = .int .i64 (s.2)) ⟨gJ, (kE), hfr, lE, mE, oE, rE, sE, tE, rfl, rfl⟩ (fun X168 kD bI => ?_)
   rintro ⟨s7_169, o0⟩ eL uE ⟨u9, vE, hfr, lA, mA, nA, oA, b7, c7, x8, m7⟩ h
   refine E_seq (E_region (EL_p (.bool ((decide (o0 < (((x0).FaultLoom).Design).Hooks)))) (P_int m7 x8 rfl) rfl ?_))
   refine EL_nil (thn_n (E_seq ?_))
   rcases csome h with ⟨y9, h⟩ | ⟨y9, h⟩
   ·refine E_ct y9 rfl ?_
    refine E_skip (thn_n ?_)
    obtain ⟨x5, hx, h⟩ := bsome h
    refine E_join (fun e w => ∃ (g : Gh) (v7 : Value), FrY gI wI B J (s0) g w ∧ e 1 = (.func (.yield l) #[] #[]) ∧ e 4 = .int .i64 ((((((x0).FaultLoom).Design).Rows).length : Int)) ∧ e 6 = .int .i64 ((((((x0).FaultLoom).Harness).Warps).length : Int)) ∧ e 7 = v7 ∧ RV g.m w (x5 : List FaultDamage) v7 ∧ OS 1007 g w 39 (x5 : List FaultDamage) v7 ∧ e 47 = .int .i64 ((((x0).FaultLoom).Design).Hooks) ∧ e 48 = .int .i64 (o0)) (fun Q' hQ => ?_) (fun gL zL hR => ?_)
    ·replace h := hx
     clear hx
     refine E_block ?_
     refine E_seq (E_region (EL_mv m7 rfl ?_))
     refine EL_at (.int .i64 (o0)) rfl rfl ?_
     refine EL_nil (thn_n (E_region (EL_mv oA rfl ?_)))
     refine EL_mw (.int .i64 (o0)) rfl rfl ?_
     have xE : RV u9.m uE (⟨(2 : Int), 0, o0, 0, false⟩ : FaultDamage) (.agg (setCh [[.int .i64 0], [.int .i64 0], [.int .i64 0], [.int .i64 0], [.bool false]] [(0, .int .i64 (2)), (2, .int .i64 (o0))]).flatten.toArray) := RV_build rfl (rep_pair (rfl) (rep_pair (rep_int) (rep_pair (rfl) (rep_pair (rep_int) (rep_last (rep_bool))))))
     generalize cI : (Value.agg (setCh [[.int .i64 0], [.int .i64 0], [.int .i64 0], [.int .i64 0], [.bool false]] [(0, .int .i64 (2)), (2, .int .i64 (o0))]).flatten.toArray) = yE at xE
     refine EL_p yE (cI ▸ P_build (vs := [(0, .int .i64 (2)), (2, .int .i64 (o0))]) [[.int .i64 0], [.int .i64 0], [.int .i64 0], [.int .i64 0], [.bool false]] lay_39 rfl rfl (.cons rfl (.cons rfl .nil)) ⟨⟨_, rfl, rfl⟩, ⟨⟨_, rfl, rfl⟩, trivial⟩⟩) rfl ?_
     refine EL_mw (.int .i64 (o0)) rfl rfl ?_
     have zE : RV u9.m uE (⟨(2 : Int), 0, o0, 0, true⟩ : FaultDamage) (.agg (setCh [[.int .i64 0], [.int .i64 0], [.int .i64 0], [.int .i64 0], [.bool false]] [(0, .int .i64 (2)), (2, .int .i64 (o0)), (4, .bool true)]).flatten.toArray) := RV_build rfl (rep_pair (rfl) (rep_pair (rep_int) (rep_pair (rfl) (rep_pair (rep_int) (rep_last (rfl))))))
     generalize dI : (Value.agg (setCh [[.int .i64 0], [.int .i64 0], [.int .i64 0], [.int .i64 0], [.bool false]] [(0, .int .i64 (2)), (2, .int .i64 (o0)), (4, .bool true)]).flatten.toArray) = cF at zE
     refine EL_p cF (dI ▸ P_build (vs := [(0, .int .i64 (2)), (2, .int .i64 (o0)), (4, .bool true)]) [[.int .i64 0], [.int .i64 0], [.int .i64 0], [.int .i64 0], [.bool false]] lay_39 rfl rfl (.cons rfl (.cons rfl (.cons rfl .nil))) ⟨⟨_, rfl, rfl⟩, ⟨⟨_, rfl, rfl⟩, ⟨⟨_, rfl, rfl⟩, trivial⟩⟩⟩) rfl ?_
     refine EL_do .plain rfl (D_buildSlice (g := u9) 3056 (xs := ([(⟨(2 : Int), 0, o0, 0, false⟩ : FaultDamage), (⟨(2 : Int), 0, o0, 0, true⟩ : FaultDamage)] : List FaultDamage)) (vs := [yE, cF]) Tryz.underlying41 Tryz.sizeOf39 Tryz.zeroValue39 rfl rfl (.cons rfl (.cons rfl .nil)) (RVs.cons xE (RVs.cons zE RVs.nil)) rfl rfl fun jJ aM bM hs o178 kJ hxt hfl => ?_)
     have hfr := hfr.stp_ hAb hs rfl
     have b7 := b7.stp hs
     have c7 := c7.stp hs rfl
     obtain ⟨y180, iI, h⟩ := bsome h
     refine EL_do .plain rfl (D_append (g := jJ) (i := 1007) Tryz.underlying41 info_39 rfl rfl c7 b7 rfl kJ iI fun lJ cM dF hs o179 mJ _ => ?_)
     have hfr := hfr.stp_ hAb hs rfl
     refine EL_at dF rfl rfl ?_
     refine EL_nil (blk_n ?_)
     obtain rfl := sinj h
     exact hQ _ _ ⟨lJ, (dF), hfr, lA, mA, nA, rfl, mJ, o179, x8, m7⟩
    ·clear hx
     obtain ⟨nJ, eF, hfr, iF, nF, oF, pF, qF, rF, iC, jC⟩ := hR
     refine E_region (EL_in (.int .i64 ((w64 (o0 + (1 : Int))))) jC rfl rfl rfl ?_)
     refine EL_mw (.int .i64 ((w64 (o0 + (1 : Int))))) rfl rfl ?_
     exact EL_nil (thn_n (bI (x5, (w64 (o0 + (1 : Int)))) _ _ ⟨nJ, (eF), hfr, iF, nF, oF, pF, qF, rF, iC, rfl⟩ h))
   ·refine E_cf y9 rfl ?_
    refine E_exit ?_
    refine thn_e ?_
    refine thn_e ?_
    refine blk_hit ?_
    obtain rfl := sinj h
    exact hQ _ _ ⟨u9, (vE), hfr, lA, mA, nA, oA, b7, c7⟩
  ·clear hx
   obtain ⟨sF, tF, hfr, uF, vF, xF, yF, zF, aG⟩ := hR
   obtain ⟨a7, hx, h⟩ := bsome h
   refine E_join (fun e w => ∃ (g : Gh) (v7 : Value), FrY gI wI B J (s0) g w ∧ e 1 = (.func (.yield l) #[] #[]) ∧ e 6 = .int .i64 ((((((x0).FaultLoom).Harness).Warps).length : Int)) ∧ e 7 = v7 ∧ RV g.m w (a7 : List FaultDamage) v7 ∧ OS 1007 g w 39 (a7 : List FaultDamage) v7) (fun Q' hQ => ?_) (fun iL dM hR => ?_)
   ·replace h := hx
    clear hx
    refine E_seq (E_region ?_)
    have bG : RV sF.m iJ (⟨List.toArray [(3 : Int), (4 : Int)], rfl⟩ : Vector Int 2) (.agg (setCh [[.int .i64 0], [.int .i64 0]] [(0, .int .i64 (3)), (1, .int .i64 (4))]).flatten.toArray) := RV_build rfl (rep_vec (flat_chunk rfl (flat_chunk rfl flat_nil)) rfl)
    generalize jI : (Value.agg (setCh [[.int .i64 0], [.int .i64 0]] [(0, .int .i64 (3)), (1, .int .i64 (4))]).flatten.toArray) = q5 at bG
    refine EL_p q5 (jI ▸ P_buildA (vs := [(0, .int .i64 (3)), (1, .int .i64 (4))]) [[.int .i64 0], [.int .i64 0]] Tryz.underlying178 layA_178 szA_37 rfl (by simp) (.cons rfl (.cons rfl .nil)) ⟨⟨_, rfl, rfl⟩, ⟨⟨_, rfl, rfl⟩, trivial⟩⟩) rfl ?_
    refine EL_mw (.int .i64 (0)) rfl rfl ?_
    refine EL_nil (thn_n (E_block ?_))
    refine E_lp h (fun (s : (List FaultDamage) × Int) e w => ∃ (g : Gh) (v7 : Value), FrY gI wI B J (s0) g w ∧ e 1 = (.func (.yield l) #[] #[]) ∧ e 4 = .int .i64 ((((((x0).FaultLoom).Design).Rows).length : Int)) ∧ e 6 = .int .i64 ((((((x0).FaultLoom).Harness).Warps).length : Int)) ∧ e 7 = v7 ∧ RV g.m w (s.1 : List FaultDamage) v7 ∧ OS 1007 g w 39 (s.1 : List FaultDamage) v7 ∧ e 59 = q5 ∧ RV g.m w ((⟨List.toArray [(3 : Int), (4 : Int)], rfl⟩ : Vector Int 2) : Vector Int 2) q5 ∧ e 60 = .int .i64 (s.2)) ⟨sF, (tF), hfr, uF, vF, xF, yF, zF, aG, rfl, bG, rfl⟩ (fun X217 lD kI => ?_)
    rintro ⟨m8, d3⟩ jL eM ⟨cG, pA, hfr, qA, rA, sA, uA, xA, yA, y8, n7, o7⟩ h
    refine E_seq (E_region (EL_in (.bool ((decide (d3 < (2 : Int))))) o7 rfl rfl rfl ?_))
    refine EL_nil (thn_n (E_seq ?_))
    rcases csome h with ⟨z9, h⟩ | ⟨z9, h⟩
    ·refine E_ct z9 rfl ?_
     refine E_skip (thn_n ?_)
     obtain ⟨j6, hx, h⟩ := bsome h
     refine E_join (fun e w => ∃ (g : Gh) (v7 : Value), FrY gI wI B J (s0) g w ∧ e 1 = (.func (.yield l) #[] #[]) ∧ e 4 = .int .i64 ((((((x0).FaultLoom).Design).Rows).length : Int)) ∧ e 6 = .int .i64 ((((((x0).FaultLoom).Harness).Warps).length : Int)) ∧ e 7 = v7 ∧ RV g.m w (j6 : List FaultDamage) v7 ∧ OS 1007 g w 39 (j6 : List FaultDamage) v7 ∧ e 59 = q5 ∧ RV g.m w ((⟨List.toArray [(3 : Int), (4 : Int)], rfl⟩ : Vector Int 2) : Vector Int 2) q5 ∧ e 60 = .int .i64 (d3)) (fun Q' hQ => ?_) (fun kL gM hR => ?_)
     ·replace h := hx
      clear hx
      refine E_block ?_
      refine E_seq (E_region ?_)
      obtain ⟨i5, aC, h⟩ := bsome h
      have oJ := RV_idxA n7 aC
      refine EL_p (.int .i64 (i5)) ((RV_int.1 oJ) ▸ P_indexA Tryz.underlying178 Tryz.isAgg37 Tryz.sizeOf37 y8 n7 o7 aC) rfl ?_
      refine EL_at (.int .i64 (i5)) rfl rfl ?_
      refine EL_nil (thn_n (E_seq (E_region (EL_p (.int .i64 ((((((x0).FaultLoom).Design).Rows).length : Int))) (P_move rA) rfl ?_))))
      refine EL_mw (.int .i64 (0)) rfl rfl ?_
      refine EL_nil (thn_n (E_block ?_))
      refine E_lp h (fun (s : (List FaultDamage) × Int) e w => ∃ (g : Gh) (v7 : Value), FrY gI wI B J (s0) g w ∧ e 1 = (.func (.yield l) #[] #[]) ∧ e 4 = .int .i64 ((((((x0).FaultLoom).Design).Rows).length : Int)) ∧ e 6 = .int .i64 ((((((x0).FaultLoom).Harness).Warps).length : Int)) ∧ e 7 = v7 ∧ RV g.m w (s.1 : List FaultDamage) v7 ∧ OS 1007 g w 39 (s.1 : List FaultDamage) v7 ∧ e 11 = .int .i64 (i5) ∧ e 59 = q5 ∧ RV g.m w ((⟨List.toArray [(3 : Int), (4 : Int)], rfl⟩ : Vector Int 2) : Vector Int 2) q5 ∧ e 60 = .int .i64 (d3) ∧ e 63 = .int .i64 ((((((x0).FaultLoom).Design).Rows).length : Int)) ∧ e 64 = .int .i64 (s.2)) ⟨cG, (pA), hfr, qA, rA, sA, uA, xA, yA, rfl, y8, n7, o7, rfl, rfl⟩ (fun X236 mD lI => ?_)
      rintro ⟨n8, u0⟩ lL pJ ⟨mB, dG, hfr, zA, aB, bB, cB, d7, e7, a9, d9, z4, e9, i9, u7⟩ h
      refine E_seq (E_region (EL_p (.bool ((decide (u0 < (((((x0).FaultLoom).Design).Rows).length : Int))))) (P_int u7 i9 rfl) rfl ?_))
      refine EL_nil (thn_n (E_seq ?_))
      rcases csome h with ⟨bA, h⟩ | ⟨bA, h⟩
      ·refine E_ct bA rfl ?_
       refine E_skip (thn_n ?_)
       obtain ⟨i6, hx, h⟩ := bsome h
       refine E_join (fun e w => ∃ (g : Gh) (v7 : Value), FrY gI wI B J (s0) g w ∧ e 1 = (.func (.yield l) #[] #[]) ∧ e 4 = .int .i64 ((((((x0).FaultLoom).Design).Rows).length : Int)) ∧ e 6 = .int .i64 ((((((x0).FaultLoom).Harness).Warps).length : Int)) ∧ e 7 = v7 ∧ RV g.m w (i6 : List FaultDamage) v7 ∧ OS 1007 g w 39 (i6 : List FaultDamage) v7 ∧ e 11 = .int .i64 (i5) ∧ e 59 = q5 ∧ RV g.m w ((⟨List.toArray [(3 : Int), (4 : Int)], rfl⟩ : Vector Int 2) : Vector Int 2) q5 ∧ e 60 = .int .i64 (d3) ∧ e 63 = .int .i64 ((((((x0).FaultLoom).Design).Rows).length : Int)) ∧ e 64 = .int .i64 (u0)) (fun Q' hQ => ?_) (fun mL iM hR => ?_)
       ·replace h := hx
        clear hx
        refine E_block ?_
        refine E_seq (E_region (EL_mv u7 rfl ?_))
        refine EL_at (.int .i64 (u0)) rfl rfl ?_
        refine EL_nil (thn_n (E_region (EL_mv cB rfl ?_)))
        refine EL_mv a9 rfl ?_
        refine EL_mw (.int .i64 (u0)) rfl rfl ?_
        have eG : RV mB.m pJ (⟨i5, u0, 0, 0, false⟩ : FaultDamage) (.agg (setCh [[.int .i64 0], [.int .i64 0], [.int .i64 0], [.int .i64 0], [.bool false]] [(0, .int .i64 (i5)), (1, .int .i64 (u0))]).flatten.toArray) := RV_build rfl (rep_pair (rfl) (rep_pair (rfl) (rep_pair (rep_int) (rep_pair (rep_int) (rep_last (rep_bool))))))
        generalize mI : (Value.agg (setCh [[.int .i64 0], [.int .i64 0], [.int .i64 0], [.int .i64 0], [.bool false]] [(0, .int .i64 (i5)), (1, .int .i64 (u0))]).flatten.toArray) = gG at eG
        refine EL_p gG (mI ▸ P_build (vs := [(0, .int .i64 (i5)), (1, .int .i64 (u0))]) [[.int .i64 0], [.int .i64 0], [.int .i64 0], [.int .i64 0], [.bool false]] lay_39 rfl rfl (.cons rfl (.cons rfl .nil)) ⟨⟨_, rfl, rfl⟩, ⟨⟨_, rfl, rfl⟩, trivial⟩⟩) rfl ?_
        refine EL_do .plain rfl (D_buildSlice (g := mB) 3071 (xs := ([(⟨i5, u0, 0, 0, false⟩ : FaultDamage)] : List FaultDamage)) (vs := [gG]) Tryz.underlying41 Tryz.sizeOf39 Tryz.zeroValue39 rfl rfl (.cons rfl .nil) (RVs.cons eG RVs.nil) rfl rfl fun qJ jM kM hs o244 rJ hxt hfl => ?_)
        have hfr := hfr.stp_ hAb hs rfl
        have d7 := d7.stp hs
        have e7 := e7.stp hs rfl
        have z4 := z4.stp hs
        obtain ⟨nD, nI, h⟩ := bsome h
        refine EL_do .plain rfl (D_append (g := qJ) (i := 1007) Tryz.underlying41 info_39 rfl rfl e7 d7 rfl rJ nI fun sJ mM hG hs o245 tJ _ => ?_)
        have hfr := hfr.stp_ hAb hs rfl
        have z4 := z4.stp hs
        refine EL_at hG rfl rfl ?_
        refine EL_nil (blk_n ?_)
        obtain rfl := sinj h
        exact hQ _ _ ⟨sJ, (hG), hfr, zA, aB, bB, rfl, tJ, o245, a9, d9, z4, e9, i9, u7⟩
       ·clear hx
        obtain ⟨uJ, iG, hfr, jG, kG, lG, mG, nG, oG, kC, lC, mC, qC, rC, tC⟩ := hR
        refine E_region (EL_in (.int .i64 ((w64 (u0 + (1 : Int))))) tC rfl rfl rfl ?_)
        refine EL_mw (.int .i64 ((w64 (u0 + (1 : Int))))) rfl rfl ?_
        exact EL_nil (thn_n (lI (i6, (w64 (u0 + (1 : Int)))) _ _ ⟨uJ, (iG), hfr, jG, kG, lG, mG, nG, oG, kC, lC, mC, qC, rC, rfl⟩ h))
      ·refine E_cf bA rfl ?_
       refine E_exit ?_
       refine thn_e ?_
       refine thn_e ?_
       refine blk_hit ?_
       refine blk_n ?_
       obtain rfl := sinj h
       exact hQ _ _ ⟨mB, (dG), hfr, zA, aB, bB, cB, d7, e7, d9, z4, e9⟩
     ·clear hx
      obtain ⟨vJ, pG, hfr, qG, rG, sG, tG, uG, vG, uC, vC, xC⟩ := hR
      refine E_region (EL_in (.int .i64 ((w64 (d3 + (1 : Int))))) xC rfl rfl rfl ?_)
      refine EL_mw (.int .i64 ((w64 (d3 + (1 : Int))))) rfl rfl ?_
      exact EL_nil (thn_n (kI (j6, (w64 (d3 + (1 : Int)))) _ _ ⟨vJ, (pG), hfr, qG, rG, sG, tG, uG, vG, uC, vC, rfl⟩ h))
    ·refine E_cf z9 rfl ?_
     refine E_exit ?_
     refine thn_e ?_
     refine thn_e ?_
     refine blk_hit ?_
     obtain rfl := sinj h
     exact hQ _ _ ⟨cG, (pA), hfr, qA, sA, uA, xA, yA⟩
   ·clear hx
    obtain ⟨xJ, xG, hfr, yG, zG, aH, bH, cH⟩ := hR
    obtain ⟨i3, hx, h⟩ := bsome h
    refine E_join (fun e w => ∃ (g : Gh) (v7 : Value), FrY gI wI B J (s0) g w ∧ e 1 = (.func (.yield l) #[] #[]) ∧ e 7 = v7 ∧ RV g.m w (i3 : List FaultDamage) v7 ∧ OS 1007 g w 39 (i3 : List FaultDamage) v7) (fun Q' hQ => ?_) (fun nL nM hR => ?_)
    ·replace h := hx
     clear hx
     refine E_seq (E_region (EL_p (.int .i64 ((((((x0).FaultLoom).Harness).Warps).length : Int))) (P_move zG) rfl ?_))
     refine EL_mw (.int .i64 (0)) rfl rfl ?_
     refine EL_nil (thn_n (E_block ?_))
     refine E_lp h (fun (s : (List FaultDamage) × Int) e w => ∃ (g : Gh) (v7 : Value), FrY gI wI B J (s0) g w ∧ e 1 = (.func (.yield l) #[] #[]) ∧ e 7 = v7 ∧ RV g.m w (s.1 : List FaultDamage) v7 ∧ OS 1007 g w 39 (s.1 : List FaultDamage) v7 ∧ e 75 = .int .i64 ((((((x0).FaultLoom).Harness).Warps).length : Int)) ∧ e 76 = .int .i64 (s.2)) ⟨xJ, (xG), hfr, yG, aH, bH, cH, rfl, rfl⟩ (fun X262 oD oI => ?_)
     rintro ⟨o8, j1⟩ oL yJ ⟨nB, dH, hfr, dB, eB, g7, i7, k9, c8⟩ h
     refine E_seq (E_region (EL_p (.bool ((decide (j1 < (((((x0).FaultLoom).Harness).Warps).length : Int))))) (P_int c8 k9 rfl) rfl ?_))
     refine EL_nil (thn_n (E_seq ?_))
     rcases csome h with ⟨gA, h⟩ | ⟨gA, h⟩
     ·refine E_ct gA rfl ?_
      refine E_skip (thn_n ?_)
      obtain ⟨v6, hx, h⟩ := bsome h
      refine E_join (fun e w => ∃ (g : Gh) (v7 : Value), FrY gI wI B J (s0) g w ∧ e 1 = (.func (.yield l) #[] #[]) ∧ e 7 = v7 ∧ RV g.m w (v6 : List FaultDamage) v7 ∧ OS 1007 g w 39 (v6 : List FaultDamage) v7 ∧ e 75 = .int .i64 ((((((x0).FaultLoom).Harness).Warps).length : Int)) ∧ e 76 = .int .i64 (j1)) (fun Q' hQ => ?_) (fun pL oM hR => ?_)
      ·replace h := hx
       clear hx
       refine E_block ?_
       refine E_seq (E_region (EL_mv c8 rfl ?_))
       refine EL_at (.int .i64 (j1)) rfl rfl ?_
       refine EL_nil (thn_n (E_region (EL_mv eB rfl ?_)))
       refine EL_mw (.int .i64 (j1)) rfl rfl ?_
       have gH : RV nB.m yJ (⟨(5 : Int), 0, 0, j1, false⟩ : FaultDamage) (.agg (setCh [[.int .i64 0], [.int .i64 0], [.int .i64 0], [.int .i64 0], [.bool false]] [(0, .int .i64 (5)), (3, .int .i64 (j1))]).flatten.toArray) := RV_build rfl (rep_pair (rfl) (rep_pair (rep_int) (rep_pair (rep_int) (rep_pair (rfl) (rep_last (rep_bool))))))
       generalize pI : (Value.agg (setCh [[.int .i64 0], [.int .i64 0], [.int .i64 0], [.int .i64 0], [.bool false]] [(0, .int .i64 (5)), (3, .int .i64 (j1))]).flatten.toArray) = iH at gH
       refine EL_p iH (pI ▸ P_build (vs := [(0, .int .i64 (5)), (3, .int .i64 (j1))]) [[.int .i64 0], [.int .i64 0], [.int .i64 0], [.int .i64 0], [.bool false]] lay_39 rfl rfl (.cons rfl (.cons rfl .nil)) ⟨⟨_, rfl, rfl⟩, ⟨⟨_, rfl, rfl⟩, trivial⟩⟩) rfl ?_
       refine EL_do .plain rfl (D_buildSlice (g := nB) 3082 (xs := ([(⟨(5 : Int), 0, 0, j1, false⟩ : FaultDamage)] : List FaultDamage)) (vs := [iH]) Tryz.underlying41 Tryz.sizeOf39 Tryz.zeroValue39 rfl rfl (.cons rfl .nil) (RVs.cons gH RVs.nil) rfl rfl fun zJ pM qM hs o270 aK hxt hfl => ?_)
       have hfr := hfr.stp_ hAb hs rfl
       have g7 := g7.stp hs
       have i7 := i7.stp hs rfl
       obtain ⟨sD, qI, h⟩ := bsome h
       refine EL_do .plain rfl (D_append (g := zJ) (i := 1007) Tryz.underlying41 info_39 rfl rfl i7 g7 rfl aK qI fun bK rM jH hs o271 cK _ => ?_)
       have hfr := hfr.stp_ hAb hs rfl
       refine EL_at jH rfl rfl ?_
       refine EL_nil (blk_n ?_)
       obtain rfl := sinj h
       exact hQ _ _ ⟨bK, (jH), hfr, dB, rfl, cK, o271, k9, c8⟩
      ·clear hx
       obtain ⟨dK, kH, hfr, lH, mH, nH, oH, yC, aD⟩ := hR
       refine E_region (EL_in (.int .i64 ((w64 (j1 + (1 : Int))))) aD rfl rfl rfl ?_)
       refine EL_mw (.int .i64 ((w64 (j1 + (1 : Int))))) rfl rfl ?_
       exact EL_nil (thn_n (oI (v6, (w64 (j1 + (1 : Int)))) _ _ ⟨dK, (kH), hfr, lH, mH, nH, oH, yC, rfl⟩ h))
     ·refine E_cf gA rfl ?_
      refine E_exit ?_
      refine thn_e ?_
      refine thn_e ?_
      refine blk_hit ?_
      obtain rfl := sinj h
      exact hQ _ _ ⟨nB, (dH), hfr, dB, eB, g7, i7⟩
    ·clear hx
     obtain ⟨eK, l5, hfr, pH, qH, iB, sH⟩ := hR
     refine E_seq (E_region (EL_mv qH rfl ?_))
     refine EL_p (.int .i64 ((i3).length : Int)) (P_len Tryz.underlying41 rfl iB) rfl ?_
     refine EL_mw (.int .i64 (0)) rfl rfl ?_
     refine EL_nil (thn_n (E_block ?_))
     refine E_lp h (fun (s : σ × Int) e w => ∃ (g : Gh) , FrY gI wI B J (s.1) g w ∧ e 1 = (.func (.yield l) #[] #[]) ∧ e 85 = l5 ∧ RV g.m w (i3 : List FaultDamage) l5 ∧ OS 1007 g w 39 (i3 : List FaultDamage) l5 ∧ e 86 = .int .i64 (((i3).length : Int)) ∧ e 87 = .int .i64 (s.2)) ⟨eK, hfr, pH, rfl, iB, sH, rfl, rfl⟩ (fun X275 tD rI => ?_)
     rintro ⟨r8, j3⟩ qL sM ⟨tH, hfr, jB, l9, o3, z3, n9, e8⟩ h
     refine E_seq (E_region (EL_in (.bool ((decide (j3 < ((i3).length : Int))))) e8 n9 rfl rfl ?_))
     refine EL_nil (thn_n (E_seq ?_))
     rcases csome h with ⟨iA, h⟩ | ⟨iA, h⟩
     ·refine E_ct iA rfl ?_
      refine E_skip (thn_n (E_joinC h (fun (s : σ) e w => ∃ (g : Gh) , FrY gI wI B J (s) g w ∧ e 1 = (.func (.yield l) #[] #[]) ∧ e 85 = l5 ∧ RV g.m w (i3 : List FaultDamage) l5 ∧ OS 1007 g w 39 (i3 : List FaultDamage) l5 ∧ e 86 = .int .i64 (((i3).length : Int)) ∧ e 87 = .int .i64 (j3)) (fun X287 uD sI h => ?_) ?_))
      ·refine E_block ?_
       refine E_seq (E_region ?_)
       obtain ⟨kB, cC, h⟩ := bsome h
       refine EL_p (ePtr l5 j3 5) (P_indexAddr (α := FaultDamage) Tryz.underlying41 Tryz.sizeOf39 l9 o3 e8 cC) rfl ?_
       have lK := PT_idx o3 cC
       refine EL_do .plain rfl (D_load (g := tH) Tryz.isAgg39 Tryz.sizeOf39 rfl lK fun mK oB => ?_)
       refine EL_do .plain rfl (D_allocOc (g := tH) 2015 (⟨0, 0, 0, 0, false⟩ : FaultDamage) Tryz.zeroValue39 (fun m w => ⟨_, (rep_two rep_int (rep_two rep_int (rep_two rep_int (rep_two rep_int rep_bool)))), rfl⟩) fun nK tM uM hs b291 cb => ?_)
       have hfr := hfr.stp_ hAb hs rfl
       have o3 := o3.stp hs
       have z3 := z3.stp hs rfl
       have oB := oB.stp hs
       clear cb
       refine EL_do .plain rfl (D_storeOc (g := nK) (v := mK) Tryz.sizeOf39 rfl b291 rfl oB fun uH vM hs b292 cb => ?_)
       clear cb
       have hfr := hfr.stp_ hAb hs rfl
       have o3 := o3.stp hs
       have z3 := z3.stp hs rfl
       refine EL_nil (thn_n (E_seq (E_region (EL_mv jB rfl ?_))))
       refine EL_do .plain rfl (D_loadO (g := uH) Tryz.isAgg39 Tryz.sizeOf39 rfl b292 fun xM oK => ?_)
       obtain ⟨pK, tI, h⟩ := bsome h
       obtain ⟨t9, g8⟩ := pK
       refine EL_do .plain rfl (D_yield (g := uH) (x := kB) rfl (.cons rfl .nil) hRo hfr tI ⟨_, rfl, oK⟩ fun qK yM hs hfrY => ?_)
       have o3 := o3.stp hs
       have z3 := z3.stp hs rfl
       have hfr := hfrY
       clear hfrY
       refine EL_p (.bool (!t9)) (P_not rfl) rfl ?_
       refine EL_nil (thn_n ?_)
       rcases csome h with ⟨jA, h⟩ | ⟨jA, h⟩
       ·refine E_ct jA rfl ?_
        refine E_ret (blk_r ?_)
        refine thn_r ?_
        refine thn_r ?_
        refine blk_r ?_
        obtain rfl := sinj h
        exact end0 rfl rfl (FrY.done hfr)
       ·refine E_cf jA rfl ?_
        exact E_skip (blk_n (thn_n (sI (g8) _ _ ⟨qK, hfr, jB, l9, o3, z3, n9, e8⟩ h)))
      ·rintro t8 rL zM ⟨sK, hfr, vH, bD, cD, eD, gD, iD⟩ h
       refine E_region (EL_in (.int .i64 ((w64 (j3 + (1 : Int))))) iD rfl rfl rfl ?_)
       refine EL_mw (.int .i64 ((w64 (j3 + (1 : Int))))) rfl rfl ?_
       exact EL_nil (thn_n (rI (t8, (w64 (j3 + (1 : Int)))) _ _ ⟨sK, hfr, vH, bD, cD, eD, gD, rfl⟩ h))
     ·refine E_cf iA rfl ?_
      refine E_exit ?_
      refine thn_e ?_
      refine thn_e ?_
      refine blk_hit ?_
      obtain rfl := sinj h
      exact end0n rfl rfl (FrY.done hfr)
def f54 (x0 : List Str) (x1 : List Str) : Option (Bool) :=
 jn (σ := Unit) (fun _ =>
  jn (σ := Unit) (fun _ =>
   some (true)
   ) fun a7 =>
  lp (σ := Int) (fun b7 o0 =>
   bif (decide (o0 < ((x0).length : Int))) then
    jn (σ := Unit) (fun _ =>
     b7 ((w64 (o0 + (1 : Int))))
     ) fun c7 =>
    (idx x0 o0).bind fun o3 =>
    (idx x1 o0).bind fun u3 =>
    bif (!((o3).b == (u3).b)) then
     some (false)
    else
     c7 ()
   else
    a7 ()
   ) big ((0 : Int))
  ) fun k2 =>
 bif (((x0).length : Int) != ((x1).length : Int)) then
  some (false)
 else
  k2 ()
theorem en54 : Enters Tryz.prog 54 := enters_of Tryz.func54 (by kernel_rfl) rfl
theorem wk54 {gI : Gh} {wI : World} {x0 : List Str} {x1 : List Str} {up0 : Value} (rp0 : RV gI.m wI x0 up0) {up1 : Value} (rp1 : RV gI.m wI x1 up1) {r : Bool} (h : f54 x0 x1 = some r) : Fn Tryz.prog 54 #[up0, up1] gI wI (fun _ _ v => v = .bool (r)) := by
 unfold f54 at h
 refine fn_of_E Tryz.func54 rfl (Nat.le_of_ble_eq_true rfl) fun g0 hm hfr => ?_
 have rp0 : RV g0.m wI x0 up0 := hm ▸ rp0
 have rp1 : RV g0.m wI x1 up1 := hm ▸ rp1
 show E _ 26 none _ _ _ _ _
 refine E_seq (E_region (EL_at (.bool false) rfl rfl ?_))
 refine EL_nil (thn_n (E_joinC h (fun (s : Unit) e w => ∃ (g : Gh) , Fr gI wI g w ∧ e 0 = up0 ∧ RV g.m w (x0 : List Str) up0 ∧ e 1 = up1 ∧ RV g.m w (x1 : List Str) up1) (fun X2 k2 hk2 h => ?_) ?_))
 ·refine E_seq (E_region (EL_mw up0 rfl rfl ?_))
  refine EL_p (.int .i64 ((x0).length : Int)) (P_len Tryz.underlying88 rfl rp0) rfl ?_
  refine EL_mw up1 rfl rfl ?_
  refine EL_p (.int .i64 ((x1).length : Int)) (P_len Tryz.underlying88 rfl rp1) rfl ?_
  refine EL_in (.bool ((((x0).length : Int) != ((x1).length : Int)))) rfl rfl rfl rfl ?_
  refine EL_nil (thn_n ?_)
  rcases csome h with ⟨hc3, h⟩ | ⟨hc3, h⟩
  ·refine E_ct hc3 rfl ?_
   refine E_seq (E_region (EL_at (.bool false) rfl rfl ?_))
   refine EL_nil (thn_n (E_ret (thn_r ?_)))
   obtain rfl := sinj h
   exact end1 rfl rfl (show _ = .bool false from rfl) ⟨_, hfr, rfl⟩
  ·refine E_cf hc3 rfl ?_
   exact E_skip (thn_n (hk2 () _ _ ⟨g0, hfr, rfl, rp0, rfl, rp1⟩ h))
 ·rintro _ r8 w4 ⟨g4, hfr, q5, t5, e7, g7⟩ h
  refine E_joinC h (fun (s : Unit) e w => ∃ (g : Gh) , Fr gI wI g w) (fun X58 a7 i7 h => ?_) ?_
  ·refine E_seq (E_region (EL_mv q5 rfl ?_))
   refine EL_p (.int .i64 ((x0).length : Int)) (P_len Tryz.underlying88 rfl t5) rfl ?_
   refine EL_mw (.int .i64 (0)) rfl rfl ?_
   refine EL_nil (thn_n (E_block ?_))
   refine E_lp h (fun (s : Int) e w => ∃ (g : Gh) , Fr gI wI g w ∧ e 0 = up0 ∧ RV g.m w (x0 : List Str) up0 ∧ e 1 = up1 ∧ RV g.m w (x1 : List Str) up1 ∧ e 12 = .int .i64 (((x0).length : Int)) ∧ e 13 = .int .i64 (s)) ⟨g4, hfr, q5, t5, e7, g7, rfl, rfl⟩ (fun X59 b7 j7 => ?_)
   rintro o0 m8 t8 ⟨d7, hfr, z3, u0, z4, j1, i3, z2⟩ h
   refine E_seq (E_region (EL_in (.bool ((decide (o0 < ((x0).length : Int))))) z2 i3 rfl rfl ?_))
   refine EL_nil (thn_n (E_seq ?_))
   rcases csome h with ⟨j3, h⟩ | ⟨j3, h⟩
   ·refine E_ct j3 rfl ?_
    refine E_skip (thn_n (E_joinC h (fun (s : Unit) e w => ∃ (g : Gh) , Fr gI wI g w ∧ e 0 = up0 ∧ RV g.m w (x0 : List Str) up0 ∧ e 1 = up1 ∧ RV g.m w (x1 : List Str) up1 ∧ e 12 = .int .i64 (((x0).length : Int)) ∧ e 13 = .int .i64 (o0)) (fun X87 c7 m7 h => ?_) ?_))
    ·refine E_block ?_
     refine E_seq (E_region (EL_mv z2 rfl ?_))
     refine EL_at (.int .i64 (o0)) rfl rfl ?_
     refine EL_nil (thn_n (E_seq ?_))
     obtain ⟨o3, x5, h⟩ := bsome h
     have v7 := PT_idx u0 x5
     refine L_load (x := .tmp 18) Tryz.isAgg9 Tryz.sizeOf9 v7 fun v8 c8 n7 => ?_
     obtain rfl := RV_str.1 c8
     obtain ⟨u3, i6, h⟩ := bsome h
     have e8 := PT_idx j1 i6
     refine L_load (x := .tmp 22) Tryz.isAgg9 Tryz.sizeOf9 e8 fun x8 g8 o7 => ?_
     obtain rfl := RV_str.1 g8
     refine E_drawL (g := d7) (n := 9) [] [0, 1, 2, 3, 4, 5, 6, 7, 8] rfl mixed (by kernel_rfl) trivial ?_
     refine L_p up0 rfl rfl (P_move z3) ?_
     refine L_p (.int .i64 (o0)) rfl rfl (P_move rfl) ?_
     refine L_p (ePtr up0 o0 1) rfl rfl (P_indexAddr (α := Str) Tryz.underlying88 Tryz.sizeOf9 rfl u0 rfl x5) ?_
     refine L_ld (c := Str.v (o3)) rfl rfl .plain (fun _ _ h => h.ch) n7 rfl ?_
     refine L_p up1 rfl rfl (P_move z4) ?_
     refine L_p (.int .i64 (o0)) rfl rfl (P_move rfl) ?_
     refine L_p (ePtr up1 o0 1) rfl rfl (P_indexAddr (α := Str) Tryz.underlying88 Tryz.sizeOf9 rfl j1 rfl i6) ?_
     refine L_ld (c := Str.v (u3)) rfl rfl .plain (fun _ _ h => h.ch) o7 rfl ?_
     refine L_p (.bool ((!((o3).b == (u3).b)))) rfl rfl (P_str rfl rfl rfl) ?_
     refine L_nl fun i8 y8 hs => ?_
     have hfr := hfr.ext hs
     have u0 := u0.ext hs
     have j1 := j1.ext hs
     clear hs
     refine EL_nil (thn_n ?_)
     rcases csome h with ⟨d3, h⟩ | ⟨d3, h⟩
     ·refine E_ct d3 rfl ?_
      refine E_seq (E_region (EL_at (.bool false) rfl rfl ?_))
      refine EL_nil (thn_n (E_ret (blk_r ?_)))
      refine thn_r ?_
      refine thn_r ?_
      refine blk_r ?_
      refine thn_r ?_
      obtain rfl := sinj h
      exact end1 rfl rfl (show _ = .bool false from rfl) ⟨_, hfr, rfl⟩
     ·refine E_cf d3 rfl ?_
      exact E_skip (blk_n (thn_n (m7 () _ _ ⟨i8, hfr, z3, u0, z4, j1, i3, z2⟩ h)))
    ·rintro _ k8 n8 ⟨u7, hfr, j6, v6, x6, y6, i5, l5⟩ h
     refine E_region (EL_in (.int .i64 ((w64 (o0 + (1 : Int))))) l5 rfl rfl rfl ?_)
     refine EL_mw (.int .i64 ((w64 (o0 + (1 : Int))))) rfl rfl ?_
     exact EL_nil (thn_n (j7 ((w64 (o0 + (1 : Int)))) _ _ ⟨u7, hfr, j6, v6, x6, y6, i5, rfl⟩ h))
   ·refine E_cf j3 rfl ?_
    refine E_exit ?_
    refine thn_e ?_
    refine thn_e ?_
    refine blk_hit ?_
    exact thn_n (i7 () _ _ ⟨d7, hfr⟩ h)
  ·rintro _ l8 o8 ⟨q8, hfr⟩ h
   refine E_seq (E_region (EL_at (.bool true) rfl rfl ?_))
   refine EL_nil (thn_n (E_ret ?_))
   obtain rfl := sinj h
   exact end1 rfl rfl (show _ = .bool true from rfl) ⟨_, hfr, rfl⟩
def f56 (z0 : List Str) (z1 : List Str) (σ : Type) (cons : Cons σ (Int × Int)) (s0 : σ) : Option σ :=
 lp (σ := σ × Int) (fun k2 (o7, u0) =>
  bif (decide (u0 < ((z0).length : Int))) then
   jn (σ := σ) (fun j6 =>
    k2 (j6, (w64 (u0 + (1 : Int))))
    ) fun q8 =>
   (idx z0 u0).bind fun d3 =>
   lp (σ := σ × Nat) (fun r8 (z3, o0) =>
    bif (decide (o0 < (d3).b.length)) then
     Option.bind (α := σ × Bool) (
      (idx (d3).b ((o0 : Nat) : Int)).bind fun j3 =>
      (idx z1 u0).bind fun d7 =>
      (idx (d7).b ((o0 : Nat) : Int)).bind fun o3 =>
      bif (j3 != o3) then
       (cons z3 (u0, ((o0 : Nat) : Int))).bind fun (i6, e8) =>
       some (e8, (!i6))
      else
       some (z3, false)
      ) fun (z4, u3) =>
     bif u3 then
      some z4
     else
      r8 (z4, (o0 + (dec d3 o0).2))
    else
     q8 (z3)
    ) big (o7, 0)
  else
   some o7
  ) big (s0, (0 : Int))
theorem en56 : Enters Tryz.prog 56 := enters_of Tryz.func56 (by kernel_rfl) rfl
theorem wk56 {σ : Type} {cons : Cons σ (Int × Int)} {s0 r : σ} {gI : Gh} {wI : World} {z0 : List Str} {z1 : List Str} {pf0 : Value} (qf0 : PT gI.m wI z0 pf0) {pf1 : Value} (qf1 : PT gI.m wI z1 pf1) (h : f56 z0 z1 σ cons s0 = some r) : IterC Tryz.prog (RA2 (α := Int) (β := Int)) 56 #[] #[pf0, pf1] gI wI cons s0 r := by
 unfold f56 at h
 refine iter_of_E Tryz.func56 rfl (Nat.le_of_ble_eq_true rfl) fun l B J g0 hm hAb hRo hfr => ?_
 have qf0 : PT g0.m wI z0 pf0 := hm ▸ qf0
 have qf1 : PT g0.m wI z1 pf1 := hm ▸ qf1
 show E _ 37 none _ _ (envAt #[.func (.yield l) #[] #[], pf0, pf1]) _ _
 refine E_seq (E_region (EL_do .plain rfl (D_load (g := g0) Tryz.isAgg88 Tryz.sizeOf88 rfl qf0 fun v1 r1 => ?_)))
 refine EL_p (.int .i64 ((z0).length : Int)) (P_len Tryz.underlying88 rfl r1) rfl ?_
 refine EL_mw (.int .i64 (0)) rfl rfl ?_
 refine EL_nil (thn_n (E_block ?_))
 refine E_lp h (fun (s : σ × Int) e w => ∃ (g : Gh) , FrY gI wI B J (s.1) g w ∧ e 0 = (.func (.yield l) #[] #[]) ∧ e 2 = pf1 ∧ PT g.m w (z1 : List Str) pf1 ∧ e 7 = v1 ∧ RV g.m w (z0 : List Str) v1 ∧ e 8 = .int .i64 (((z0).length : Int)) ∧ e 9 = .int .i64 (s.2)) ⟨g0, hfr, rfl, rfl, qf1, rfl, r1, rfl, rfl⟩ (fun X2 k2 hk2 => ?_)
 rintro ⟨o7, u0⟩ zB w3 ⟨g3, hfr, nA, oA, u7, t8, v6, v8, e7⟩ h
 refine E_seq (E_region (EL_in (.bool ((decide (u0 < ((z0).length : Int))))) e7 v8 rfl rfl ?_))
 refine EL_nil (thn_n (E_seq ?_))
 rcases csome h with ⟨x8, h⟩ | ⟨x8, h⟩
 ·refine E_ct x8 rfl ?_
  refine E_skip (thn_n (E_joinC h (fun (s : σ) e w => ∃ (g : Gh) , FrY gI wI B J (s) g w ∧ e 0 = (.func (.yield l) #[] #[]) ∧ e 2 = pf1 ∧ PT g.m w (z1 : List Str) pf1 ∧ e 7 = v1 ∧ RV g.m w (z0 : List Str) v1 ∧ e 8 = .int .i64 (((z0).length : Int)) ∧ e 9 = .int .i64 (u0)) (fun X145 q8 kA h => ?_) ?_))
  ·refine E_block ?_
   refine E_seq (E_region (EL_mv e7 rfl ?_))
   obtain ⟨d3, g8, h⟩ := bsome h
   refine EL_p (ePtr v1 u0 1) (P_indexAddr (α := Str) Tryz.underlying88 Tryz.sizeOf9 t8 v6 e7 g8) rfl ?_
   have pA := PT_idx v6 g8
   refine EL_do .plain rfl (D_load (g := g3) Tryz.isAgg9 Tryz.sizeOf9 rfl pA fun jB qA => ?_)
   obtain rfl := RV_str.1 qA
   refine EL_at (.int .i64 (u0)) rfl rfl ?_
   refine EL_at (Str.v (d3)) rfl rfl ?_
   refine EL_nil (thn_n (E_seq (E_region (EL_mw (Str.v (d3)) rfl rfl ?_))))
   refine EL_do .plain rfl (D_rangeS (g := g3) (s := d3) 7015 Tryz.underlying9 rfl fun rA kB g7 hs b149 => ?_)
   have hfr := hfr.stp_ hAb hs rfl
   have u7 := u7.stp hs
   have v6 := v6.stp hs
   refine EL_nil (thn_n (E_block ?_))
   refine E_lp h (fun (s : σ × Nat) e w => ∃ (g : Gh) , FrY gI wI B J (s.1) g w ∧ e 0 = (.func (.yield l) #[] #[]) ∧ e 2 = pf1 ∧ PT g.m w (z1 : List Str) pf1 ∧ e 4 = .int .i64 (u0) ∧ e 5 = Str.v (d3) ∧ e 7 = v1 ∧ RV g.m w (z0 : List Str) v1 ∧ e 8 = .int .i64 (((z0).length : Int)) ∧ e 9 = .int .i64 (u0) ∧ e 15 = g7 ∧ SI 7015 g w (d3) (s.2) g7) ⟨rA, hfr, nA, oA, u7, rfl, rfl, t8, v6, v8, e7, rfl, b149⟩ (fun X150 r8 lA => ?_)
   rintro ⟨z3, o0⟩ dB lB ⟨v7, hfr, t5, i5, j1, l5, x5, x6, z2, y6, a7, q5, b7⟩ h
   refine E_seq (E_region ?_)
   rcases csome h with ⟨i7, h⟩ | ⟨i7, h⟩
   ·refine EL_do .plain rfl (D_nextS_t (g := v7) q5 b7 i7 fun y8 mB hs b152 => ?_)
    have hfr := hfr.stp_ hAb hs rfl
    have j1 := j1.stp hs
    have z2 := z2.stp hs
    refine EL_p (.bool true) (P_extract rfl rfl) rfl ?_
    refine EL_nil (thn_n (E_seq (E_cond_true (by rw [show ev _ _ = _ from rfl]; exact congrArg Value.bool rfl) ?_)))
    refine E_skip (thn_n (E_block ?_))
    refine E_seq (E_region (EL_p (.int .i64 ((o0 : Nat) : Int)) (P_extract rfl rfl) rfl ?_))
    refine EL_at (.int .i64 ((o0 : Nat) : Int)) rfl rfl ?_
    refine EL_nil (thn_n ?_)
    obtain ⟨⟨z4, u3⟩, hx, h⟩ := bsome h
    refine E_join (fun e w => ∃ (g : Gh) , FrY gI wI B J (z4) g w ∧ e 0 = (.func (.yield l) #[] #[]) ∧ e 2 = pf1 ∧ PT g.m w (z1 : List Str) pf1 ∧ e 4 = .int .i64 (u0) ∧ e 5 = Str.v (d3) ∧ e 7 = v1 ∧ RV g.m w (z0 : List Str) v1 ∧ e 8 = .int .i64 (((z0).length : Int)) ∧ e 9 = .int .i64 (u0) ∧ e 15 = g7 ∧ SI 7015 g w (d3) ((o0 + (dec d3 o0).2)) g7 ∧ e 35 = .bool (u3)) (fun Q' hQ => ?_) (fun eB nB hR => ?_)
    ·replace h := hx
     clear hx
     obtain ⟨j3, i8, h⟩ := bsome h
     refine L_load (x := .tmp 2) Tryz.isAgg88 Tryz.sizeOf88 j1 fun j7 c8 k8 => ?_
     obtain ⟨d7, m7, h⟩ := bsome h
     have sA := PT_idx c8 m7
     refine L_load (x := .tmp 24) Tryz.isAgg9 Tryz.sizeOf9 sA fun oB uA l8 => ?_
     obtain rfl := RV_str.1 uA
     obtain ⟨o3, m8, h⟩ := bsome h
     rcases csome h with ⟨i3, h⟩ | ⟨i3, h⟩
     ·refine E_drawL (g := y8) (n := 14) [] [0, 1, 2, 3, 4, 5, 6, 7, 8, 9, 10, 11, 12, 13] rfl mixed (by kernel_rfl) trivial ?_
      refine L_p (Str.v (d3)) rfl rfl (P_move x5) ?_
      refine L_p (.int .i64 ((o0 : Nat) : Int)) rfl rfl (P_move rfl) ?_
      refine L_p (.int .u8 (UInt8.toNat (j3))) rfl rfl (P_indexS Tryz.underlying9 rfl rfl i8) ?_
      refine L_ld (c := j7) rfl rfl .plain (fun _ _ h => h.ch) k8 i5 ?_
      refine L_p (.int .i64 (u0)) rfl rfl (P_move l5) ?_
      refine L_p (ePtr j7 u0 1) rfl rfl (P_indexAddr (α := Str) Tryz.underlying88 Tryz.sizeOf9 rfl c8 rfl m7) ?_
      refine L_ld (c := Str.v (d7)) rfl rfl .plain (fun _ _ h => h.ch) l8 rfl ?_
      refine L_p (.int .i64 ((o0 : Nat) : Int)) rfl rfl (P_move rfl) ?_
      refine L_p (.int .u8 (UInt8.toNat (o3))) rfl rfl (P_indexS Tryz.underlying9 rfl rfl m8) ?_
      refine L_p (.bool ((j3 != o3))) rfl rfl (P_u8 rfl rfl rfl) ?_
      refine L_p (.bool ((j3 != o3))) rfl rfl (P_move rfl) ?_
      refine L_y ((.func (.yield l) #[] #[])) rfl rfl rfl rfl i3 (P_move t5) ?_
      refine L_y (.int .i64 (u0)) rfl rfl rfl rfl i3 (P_move l5) ?_
      refine L_y (.int .i64 ((o0 : Nat) : Int)) rfl rfl rfl rfl i3 (P_move rfl) ?_
      refine L_nl fun xA tB hs => ?_
      have hfr := hfr.ext_ hAb hs
      have j1 := j1.ext hs
      have z2 := z2.ext hs
      have b152 := b152.ext hs
      clear hs
      obtain ⟨yA, mA, h⟩ := bsome h
      obtain ⟨i6, e8⟩ := yA
      refine EL_do (.yes2 rfl rfl i3) rfl (D_yield (g := xA) (x := (u0, ((o0 : Nat) : Int))) rfl (.cons rfl (.cons rfl .nil)) hRo hfr mA ⟨_, _, rfl, (RV_int.2 rfl), (RV_int.2 rfl)⟩ fun zA vB hs hfrY => ?_)
      have j1 := j1.stp hs
      have z2 := z2.stp hs
      have b152 := b152.stp hs rfl
      have hfr := hfrY
      clear hfrY
      refine EL_y (.bool (!i6)) (P_not rfl) rfl rfl i3 rfl ?_
      refine EL_p (.bool (!i6)) (P_pick (b := (j3 != o3)) rfl (pick_t i3 rfl)) rfl ?_
      refine EL_nil ?_
      obtain ⟨rfl, rfl⟩ := pairs2 h
      exact hQ _ _ ⟨zA, hfr, t5, i5, j1, l5, x5, x6, z2, y6, a7, q5, b152, rfl⟩
     ·refine E_drawL (g := y8) (n := 14) [] [0, 1, 2, 3, 4, 5, 6, 7, 8, 9, 10, 11, 12, 13] rfl mixed (by kernel_rfl) trivial ?_
      refine L_p (Str.v (d3)) rfl rfl (P_move x5) ?_
      refine L_p (.int .i64 ((o0 : Nat) : Int)) rfl rfl (P_move rfl) ?_
      refine L_p (.int .u8 (UInt8.toNat (j3))) rfl rfl (P_indexS Tryz.underlying9 rfl rfl i8) ?_
      refine L_ld (c := j7) rfl rfl .plain (fun _ _ h => h.ch) k8 i5 ?_
      refine L_p (.int .i64 (u0)) rfl rfl (P_move l5) ?_
      refine L_p (ePtr j7 u0 1) rfl rfl (P_indexAddr (α := Str) Tryz.underlying88 Tryz.sizeOf9 rfl c8 rfl m7) ?_
      refine L_ld (c := Str.v (d7)) rfl rfl .plain (fun _ _ h => h.ch) l8 rfl ?_
      refine L_p (.int .i64 ((o0 : Nat) : Int)) rfl rfl (P_move rfl) ?_
      refine L_p (.int .u8 (UInt8.toNat (o3))) rfl rfl (P_indexS Tryz.underlying9 rfl rfl m8) ?_
      refine L_p (.bool ((j3 != o3))) rfl rfl (P_u8 rfl rfl rfl) ?_
      refine L_p (.bool ((j3 != o3))) rfl rfl (P_move rfl) ?_
      iterate 3 refine L_s rfl rfl rfl i3 rfl ?_
      refine L_nl fun aB xB hs => ?_
      have hfr := hfr.ext_ hAb hs
      have j1 := j1.ext hs
      have z2 := z2.ext hs
      have b152 := b152.ext hs
      clear hs
      refine EL_s rfl rfl i3 rfl rfl ?_
      refine EL_s rfl rfl i3 rfl rfl ?_
      refine EL_p (.bool false) (P_pick (b := (j3 != o3)) rfl (pick_f i3 rfl)) rfl ?_
      refine EL_nil ?_
      obtain ⟨rfl, rfl⟩ := pairs2 h
      exact hQ _ _ ⟨aB, hfr, t5, i5, j1, l5, x5, x6, z2, y6, a7, q5, b152, rfl⟩
    ·clear hx
     obtain ⟨bB, hfr, a9, d9, e9, i9, k9, l9, n9, o9, t9, n8, o8, c7⟩ := hR
     rcases csome h with ⟨n7, h⟩ | ⟨n7, h⟩
     ·refine E_cond_true (Eq.trans (show ev _ _ = .bool (u3) from c7) (congrArg Value.bool n7)) ?_
      refine E_ret (blk_r ?_)
      refine thn_r ?_
      refine blk_r ?_
      refine blk_r ?_
      refine thn_r ?_
      refine thn_r ?_
      refine blk_r ?_
      obtain rfl := sinj h
      exact end0 rfl rfl (FrY.done hfr)
     ·refine E_cond_false (Eq.trans (show ev _ _ = .bool (u3) from c7) (congrArg Value.bool n7)) ?_
      exact E_skip (blk_n (thn_n (lA (z4, (o0 + (dec d3 o0).2)) _ _ ⟨bB, hfr, a9, d9, e9, i9, k9, l9, n9, o9, t9, n8, o8⟩ h)))
   ·refine EL_do .plain rfl (D_nextS_f (g := v7) q5 b7 i7 ?_)
    refine EL_p (.bool false) (P_extract rfl rfl) rfl ?_
    refine EL_nil (thn_n (E_seq (E_cond_false (by rw [show ev _ _ = _ from rfl]; exact congrArg Value.bool rfl) ?_)))
    refine E_exit ?_
    refine thn_e ?_
    refine thn_e ?_
    refine blk_hit ?_
    exact blk_n (thn_n (kA (z3) _ _ ⟨v7, hfr, t5, i5, j1, x6, z2, y6, a7⟩ h))
  ·rintro j6 iB yB ⟨cB, hfr, u9, y9, z9, bA, gA, iA, jA⟩ h
   refine E_region (EL_in (.int .i64 ((w64 (u0 + (1 : Int))))) jA rfl rfl rfl ?_)
   refine EL_mw (.int .i64 ((w64 (u0 + (1 : Int))))) rfl rfl ?_
   exact EL_nil (thn_n (hk2 (j6, (w64 (u0 + (1 : Int)))) _ _ ⟨cB, hfr, u9, y9, z9, bA, gA, iA, rfl⟩ h))
 ·refine E_cf x8 rfl ?_
  refine E_exit ?_
  refine thn_e ?_
  refine thn_e ?_
  refine blk_hit ?_
  obtain rfl := sinj h
  exact end0n rfl rfl (FrY.done hfr)
def f62 (x0 : List Int) : Option (Int × Int) :=
 Option.bind (α := Int × Int) (
  lp (σ := Int × Int × Int) (fun g7 (u3, u0, o0) =>
   bif (decide (o0 < ((x0).length : Int))) then
    Option.bind (α := Int × Int) (
     (idx x0 o0).bind fun l5 =>
     bif (l5 != (0 : Int)) then
      some (o0, (w64 (u0 + (1 : Int))))
     else
      some (u3, u0)
     ) fun (i3, j3) =>
    g7 (i3, j3, (w64 (o0 + (1 : Int))))
   else
    some (u3, u0)
   ) big ((0 : Int), (0 : Int), (0 : Int))
  ) fun (j1, z2) =>
 some (j1, z2)
theorem en62 : Enters Tryz.prog 62 := enters_of Tryz.func62 (by kernel_rfl) rfl
theorem wk62 {gI : Gh} {wI : World} {x0 : List Int} {up0 : Value} (rp0 : RV gI.m wI x0 up0) {r : Int × Int} (h : f62 x0 = some r) : Fn Tryz.prog 62 #[up0] gI wI (fun m w v => ∃ y0 y1, v = .tuple #[y0, y1] ∧ y0 = .int .i64 (r.1) ∧ y1 = .int .i64 (r.2)) := by
 unfold f62 at h
 refine fn_of_E Tryz.func62 rfl (Nat.le_of_ble_eq_true rfl) fun g0 hm hfr => ?_
 have rp0 : RV g0.m wI x0 up0 := hm ▸ rp0
 show E _ 21 none _ _ _ _ _
 refine E_seq (E_region (EL_at (.int .i64 (0)) rfl rfl ?_))
 refine EL_at (.int .i64 (0)) rfl rfl ?_
 refine EL_nil (thn_n ?_)
 obtain ⟨⟨j1, z2⟩, hx, h⟩ := bsome h
 refine E_join (fun e w => ∃ (g : Gh) , Fr gI wI g w ∧ e 2 = .int .i64 (j1) ∧ e 3 = .int .i64 (z2)) (fun Q' hQ => ?_) (fun o7 c8 hR => ?_)
 ·replace h := hx
  clear hx
  refine E_seq (E_region (EL_mw up0 rfl rfl ?_))
  refine EL_p (.int .i64 ((x0).length : Int)) (P_len Tryz.underlying25 rfl rp0) rfl ?_
  refine EL_mw (.int .i64 (0)) rfl rfl ?_
  refine EL_nil (thn_n (E_block ?_))
  refine E_lp h (fun (s : Int × Int × Int) e w => ∃ (g : Gh) , Fr gI wI g w ∧ e 2 = .int .i64 (s.1) ∧ e 3 = .int .i64 (s.2.1) ∧ e 6 = up0 ∧ RV g.m w (x0 : List Int) up0 ∧ e 7 = .int .i64 (((x0).length : Int)) ∧ e 8 = .int .i64 (s.2.2)) ⟨g0, hfr, rfl, rfl, rfl, rp0, rfl, rfl⟩ (fun X13 g7 i7 => ?_)
  rintro ⟨u3, u0, o0⟩ u7 e8 ⟨x5, hfr, i6, z3, z4, o3, i5, d3⟩ h
  refine E_seq (E_region (EL_in (.bool ((decide (o0 < ((x0).length : Int))))) d3 i5 rfl rfl ?_))
  refine EL_nil (thn_n (E_seq ?_))
  rcases csome h with ⟨q5, h⟩ | ⟨q5, h⟩
  ·refine E_ct q5 rfl ?_
   refine E_skip (thn_n ?_)
   obtain ⟨⟨i3, j3⟩, hx, h⟩ := bsome h
   refine E_join (fun e w => ∃ (g : Gh) , Fr gI wI g w ∧ e 2 = .int .i64 (i3) ∧ e 3 = .int .i64 (j3) ∧ e 6 = up0 ∧ RV g.m w (x0 : List Int) up0 ∧ e 7 = .int .i64 (((x0).length : Int)) ∧ e 8 = .int .i64 (o0)) (fun Q' hQ => ?_) (fun v7 g8 hR => ?_)
   ·replace h := hx
    clear hx
    refine E_block ?_
    refine E_seq (E_region (EL_mv d3 rfl ?_))
    obtain ⟨l5, j6, h⟩ := bsome h
    refine EL_p (ePtr up0 o0 1) (P_indexAddr (α := Int) Tryz.underlying25 Tryz.sizeOf3 z4 o3 d3 j6) rfl ?_
    have j7 := PT_idx o3 j6
    refine EL_do .plain rfl (D_load (g := x5) Tryz.isAgg3 Tryz.sizeOf3 rfl j7 fun i8 m7 => ?_)
    obtain rfl := RV_int.1 m7
    refine EL_at (.int .i64 (o0)) rfl rfl ?_
    refine EL_at (.int .i64 (l5)) rfl rfl ?_
    refine EL_nil (thn_n (E_seq (E_region (EL_mw (.int .i64 (l5)) rfl rfl ?_))))
    refine EL_in (.bool ((l5 != (0 : Int)))) rfl rfl rfl rfl ?_
    refine EL_nil (thn_n ?_)
    rcases csome h with ⟨t5, h⟩ | ⟨t5, h⟩
    ·refine E_ct t5 rfl ?_
     refine E_seq (E_region (EL_mw (.int .i64 (o0)) rfl rfl ?_))
     refine EL_at (.int .i64 (o0)) rfl rfl ?_
     refine EL_nil (thn_n (E_region (EL_mv z3 rfl ?_)))
     refine EL_in (.int .i64 ((w64 (u0 + (1 : Int))))) rfl rfl rfl rfl ?_
     refine EL_at (.int .i64 ((w64 (u0 + (1 : Int))))) rfl rfl ?_
     refine EL_nil (blk_n ?_)
     obtain ⟨rfl, rfl⟩ := pairs2 h
     exact hQ _ _ ⟨x5, hfr, rfl, rfl, z4, o3, i5, d3⟩
    ·refine E_cf t5 rfl ?_
     refine E_skip (blk_n ?_)
     obtain ⟨rfl, rfl⟩ := pairs2 h
     exact hQ _ _ ⟨x5, hfr, i6, z3, z4, o3, i5, d3⟩
   ·clear hx
    obtain ⟨n7, hfr, v6, x6, y6, a7, b7, c7⟩ := hR
    refine E_region (EL_in (.int .i64 ((w64 (o0 + (1 : Int))))) c7 rfl rfl rfl ?_)
    refine EL_mw (.int .i64 ((w64 (o0 + (1 : Int))))) rfl rfl ?_
    exact EL_nil (thn_n (i7 (i3, j3, (w64 (o0 + (1 : Int)))) _ _ ⟨n7, hfr, v6, x6, y6, a7, b7, rfl⟩ h))
  ·refine E_cf q5 rfl ?_
   refine E_exit ?_
   refine thn_e ?_
   refine thn_e ?_
   refine blk_hit ?_
   obtain ⟨rfl, rfl⟩ := pairs2 h
   exact hQ _ _ ⟨x5, hfr, i6, z3⟩
 ·clear hx
  obtain ⟨k8, hfr, d7, e7⟩ := hR
  refine E_seq (E_region (EL_mv d7 rfl ?_))
  refine EL_mv e7 rfl ?_
  refine EL_at (.int .i64 (j1)) rfl rfl ?_
  refine EL_at (.int .i64 (z2)) rfl rfl ?_
  refine EL_nil (thn_n (E_ret ?_))
  obtain rfl := sinj h
  exact end2 rfl rfl (show _ = .int .i64 (j1) from rfl) (show _ = .int .i64 (z2) from rfl) ⟨_, hfr, _, _, rfl, rfl, rfl⟩
def f77 (x0 : Int) (z0 : Int) (z1 : Int) : Option (Bool) :=
 Option.bind (α := Bool) (
  bif (decide (x0 < z0)) then
   some (true)
  else
   some ((decide (x0 > z1)))
  ) fun o0 =>
 some (o0)
theorem en77 : Enters Tryz.prog 77 := enters_of Tryz.func77 (by kernel_rfl) rfl
theorem wk77 {gI : Gh} {wI : World} {x0 : Int} {z0 : Int} {z1 : Int} {pf0 : Value} (qf0 : PT gI.m wI z0 pf0) {pf1 : Value} (qf1 : PT gI.m wI z1 pf1) {r : Bool} (h : f77 x0 z0 z1 = some r) : Fn Tryz.prog 77 #[.int .i64 (x0), pf0, pf1] gI wI (fun _ _ v => v = .bool (r)) := by
 unfold f77 at h
 refine fn_of_E Tryz.func77 rfl (Nat.le_of_ble_eq_true rfl) fun g0 hm hfr => ?_
 have qf0 : PT g0.m wI z0 pf0 := hm ▸ qf0
 have qf1 : PT g0.m wI z1 pf1 := hm ▸ qf1
 show E _ 13 none _ _ _ _ _
 refine E_seq (E_region (EL_at (.bool false) rfl rfl ?_))
 refine EL_nil (thn_n ?_)
 obtain ⟨o0, hx, h⟩ := bsome h
 refine E_join (fun e w => ∃ (g : Gh) , Fr gI wI g w ∧ e 4 = .bool (o0)) (fun Q' hQ => ?_) (fun j1 w7 hR => ?_)
 ·replace h := hx
  clear hx
  refine E_region (EL_mw (.int .i64 (x0)) rfl rfl ?_)
  refine EL_do .plain rfl (D_load (g := g0) Tryz.isAgg3 Tryz.sizeOf3 rfl qf0 fun v4 r4 => ?_)
  obtain rfl := RV_int.1 r4
  refine EL_in (.bool ((decide (x0 < z0)))) rfl rfl rfl rfl ?_
  refine EL_mw (.bool ((decide (x0 < z0)))) rfl rfl ?_
  rcases csome h with ⟨hc5, h⟩ | ⟨hc5, h⟩
  ·refine EL_s rfl rfl hc5 rfl rfl ?_
   refine EL_s rfl rfl hc5 rfl rfl ?_
   refine EL_s rfl rfl hc5 rfl rfl ?_
   refine EL_p (.bool true) (P_pick (b := (decide (x0 < z0))) rfl (pick_t hc5 rfl)) rfl ?_
   refine EL_at (.bool true) rfl rfl ?_
   refine EL_nil ?_
   obtain rfl := sinj h
   exact hQ _ _ ⟨g0, hfr, rfl⟩
  ·refine EL_y (.int .i64 (x0)) (P_move rfl) rfl rfl hc5 rfl ?_
   refine EL_do (.yes2 rfl rfl hc5) rfl (D_load (g := g0) Tryz.isAgg3 Tryz.sizeOf3 rfl qf1 fun v6 r6 => ?_)
   obtain rfl := RV_int.1 r6
   refine EL_y (.bool ((decide (x0 > z1)))) (P_int rfl rfl rfl) rfl rfl hc5 rfl ?_
   refine EL_p (.bool ((decide (x0 > z1)))) (P_pick (b := (decide (x0 < z0))) rfl (pick_f hc5 rfl)) rfl ?_
   refine EL_at (.bool ((decide (x0 > z1)))) rfl rfl ?_
   refine EL_nil ?_
   obtain rfl := sinj h
   exact hQ _ _ ⟨g0, hfr, rfl⟩
 ·clear hx
  obtain ⟨g7, hfr, u0⟩ := hR
  refine E_ret ?_
  obtain rfl := sinj h
  exact end1 rfl rfl (show _ = .bool (o0) from u0) ⟨_, hfr, rfl⟩
def f79 (x0 : Int) : Option (Bool) :=
 some ((x0 != x0))
theorem en79 : Enters Tryz.prog 79 := enters_of Tryz.func79 (by kernel_rfl) rfl
theorem wk79 {gI : Gh} {wI : World} {x0 : Int}  {r : Bool} (h : f79 x0 = some r) : Fn Tryz.prog 79 #[.int .i64 (x0)] gI wI (fun _ _ v => v = .bool (r)) := by
 unfold f79 at h
 refine fn_of_E Tryz.func79 rfl (Nat.le_of_ble_eq_true rfl) fun g0 hm hfr => ?_
 show E _ 6 none _ _ _ _ _
 refine E_seq (E_region (EL_at (.bool false) rfl rfl ?_))
 refine EL_nil (thn_n (E_seq (E_region (EL_mw (.int .i64 (x0)) rfl rfl ?_))))
 refine EL_mw (.int .i64 (x0)) rfl rfl ?_
 refine EL_in (.bool ((x0 != x0))) rfl rfl rfl rfl ?_
 refine EL_at (.bool ((x0 != x0))) rfl rfl ?_
 refine EL_nil (thn_n (E_ret ?_))
 obtain rfl := sinj h
 exact end1 rfl rfl (show _ = .bool ((x0 != x0)) from rfl) ⟨_, hfr, rfl⟩
def f88 (x0 : Int) : Option (Int) :=
 jn (σ := Unit) (fun _ =>
  some ((0 : Int))
  ) fun k3 =>
 bif (x0 == (2 : Int)) then
  some ((1 : Int))
 else
  bif (x0 == (5 : Int)) then
   some ((2 : Int))
  else
   k3 ()
theorem en88 : Enters Tryz.prog 88 := enters_of Tryz.func88 (by kernel_rfl) rfl
theorem wk88 {gI : Gh} {wI : World} {x0 : Int}  {r : Int} (h : f88 x0 = some r) : Fn Tryz.prog 88 #[.int .i64 (x0)] gI wI (fun _ _ v => v = .int .i64 (r)) := by
 unfold f88 at h
 refine fn_of_E Tryz.func88 rfl (Nat.le_of_ble_eq_true rfl) fun g0 hm hfr => ?_
 show E _ 8 none _ _ _ _ _
 refine E_seq (E_region (EL_at (.int .i64 (0)) rfl rfl ?_))
 refine EL_nil (thn_n (E_joinC h (fun (s : Unit) e w => ∃ (g : Gh) , Fr gI wI g w) (fun X3 k3 hk3 h => ?_) ?_))
 ·refine E_seq (E_region (EL_mw (.int .i64 (x0)) rfl rfl ?_))
  refine EL_nil (thn_n (E_block ?_))
  refine E_seq (E_region (EL_in (.bool ((x0 == (2 : Int)))) rfl rfl rfl rfl ?_))
  refine EL_at (.bool ((x0 == (2 : Int)))) rfl rfl ?_
  refine EL_nil (thn_n ?_)
  rcases csome h with ⟨o0, h⟩ | ⟨o0, h⟩
  ·refine E_ct o0 rfl ?_
   refine E_seq (E_region (EL_at (.int .i64 (1)) rfl rfl ?_))
   refine EL_nil (thn_n (E_ret (blk_r ?_)))
   refine thn_r ?_
   obtain rfl := sinj h
   exact end1 rfl rfl (show _ = .int .i64 (1) from rfl) ⟨_, hfr, rfl⟩
  ·refine E_cf o0 rfl ?_
   refine E_seq (E_region (EL_in (.bool ((x0 == (5 : Int)))) rfl rfl rfl rfl ?_))
   refine EL_at (.bool ((x0 == (5 : Int)))) rfl rfl ?_
   refine EL_nil (thn_n ?_)
   rcases csome h with ⟨hc5, h⟩ | ⟨hc5, h⟩
   ·refine E_ct hc5 rfl ?_
    refine E_seq (E_region (EL_at (.int .i64 (2)) rfl rfl ?_))
    refine EL_nil (thn_n (E_ret (blk_r ?_)))
    refine thn_r ?_
    obtain rfl := sinj h
    exact end1 rfl rfl (show _ = .int .i64 (2) from rfl) ⟨_, hfr, rfl⟩
   ·refine E_cf hc5 rfl ?_
    exact E_skip (blk_n (thn_n (hk3 () _ _ ⟨g0, hfr⟩ h)))
 ·rintro _ u0 w6 ⟨g6, hfr⟩ h
  refine E_seq (E_region (EL_at (.int .i64 (0)) rfl rfl ?_))
  refine EL_nil (thn_n (E_ret ?_))
  obtain rfl := sinj h
  exact end1 rfl rfl (show _ = .int .i64 (0) from rfl) ⟨_, hfr, rfl⟩
def f93 (x0 : List PayRate) (x1 : Int) (x2 : PayRate → Int → Option Int) : Option (Int × Bool) :=
 Option.bind (α := Int) (
  lp (σ := Int × Int) (fun g7 (z2, u0) =>
   jn (σ := Unit) (fun _ =>
    (shr64 (wu64 (w64 (z2 + u0))) (1 : Int)).bind fun d3 =>
    (idx x0 (w64 d3)).bind fun k8 =>
    (x2 k8 x1).bind fun i7 =>
    bif (decide (i7 < (0 : Int))) then
     g7 ((w64 ((w64 d3) + (1 : Int))), u0)
    else
     g7 (z2, (w64 d3))
    ) fun l8 =>
   bif (decide (z2 < u0)) then
    l8 ()
   else
    some (z2)
   ) big ((0 : Int), ((x0).length : Int))
  ) fun o0 =>
 Option.bind (α := Int × Bool) (
  bif (decide (o0 < ((x0).length : Int))) then
   (idx x0 o0).bind fun m8 =>
   (x2 m8 x1).bind fun q5 =>
   some (o0, (q5 == (0 : Int)))
  else
   some (o0, false)
  ) fun (j3, o3) =>
 some (j3, o3)
theorem en93 : Enters Tryz.prog 93 := enters_of Tryz.func93 (by kernel_rfl) rfl
theorem wk93 {gI : Gh} {wI : World} {x0 : List PayRate} {x1 : Int} {x2 : PayRate → Int → Option Int} {up0 : Value} (rp0 : RV gI.m wI x0 up0) {up2 : Value} (rp2 : FnV2 Tryz.prog x2 up2 gI wI) {r : Int × Bool} (h : f93 x0 x1 x2 = some r) : Fn Tryz.prog 93 #[up0, .int .i64 (x1), up2] gI wI (fun m w v => ∃ y0 y1, v = .tuple #[y0, y1] ∧ y0 = .int .i64 (r.1) ∧ y1 = .bool (r.2)) := by
 unfold f93 at h
 refine fn_of_E Tryz.func93 rfl (Nat.le_of_ble_eq_true rfl) fun g0 hm hfr => ?_
 have rp0 : RV g0.m wI x0 up0 := hm ▸ rp0
 obtain ⟨ff2, fa2, fc2, rfl, fen2, fcl2⟩ := rp2
 show E _ 49 none _ _ _ _ _
 refine E_seq (E_region (EL_at (.int .i64 (0)) rfl rfl ?_))
 refine EL_at (.bool false) rfl rfl ?_
 refine EL_nil (thn_n (E_seq (E_region (EL_mw up0 rfl rfl ?_))))
 refine EL_p (.int .i64 ((x0).length : Int)) (P_len Tryz.underlying33 rfl rp0) rfl ?_
 refine EL_at (.int .i64 ((x0).length : Int)) rfl rfl ?_
 refine EL_nil (thn_n (E_seq (E_region (EL_mw (.int .i64 ((x0).length : Int)) rfl rfl ?_))))
 refine EL_at (.int .i64 (0)) rfl rfl ?_
 refine EL_at (.int .i64 ((x0).length : Int)) rfl rfl ?_
 refine EL_nil (thn_n ?_)
 obtain ⟨o0, hx, h⟩ := bsome h
 refine E_join (fun e w => ∃ (g : Gh) , Fr gI wI g w ∧ e 0 = up0 ∧ RV g.m w (x0 : List PayRate) up0 ∧ e 1 = .int .i64 (x1) ∧ e 2 = (.func (.func ff2) fa2 fc2) ∧ e 8 = .int .i64 (((x0).length : Int)) ∧ e 9 = .int .i64 (o0)) (fun Q' hQ => ?_) (fun n9 y9 hR => ?_)
 ·replace h := hx
  clear hx
  refine E_block ?_
  refine E_lp h (fun (s : Int × Int) e w => ∃ (g : Gh) , Fr gI wI g w ∧ e 0 = up0 ∧ RV g.m w (x0 : List PayRate) up0 ∧ e 1 = .int .i64 (x1) ∧ e 2 = (.func (.func ff2) fa2 fc2) ∧ e 8 = .int .i64 (((x0).length : Int)) ∧ e 9 = .int .i64 (s.1) ∧ e 10 = .int .i64 (s.2)) ⟨g0, hfr, rfl, rp0, rfl, rfl, rfl, rfl, rfl⟩ (fun X14 g7 j7 => ?_)
  rintro ⟨z2, u0⟩ o9 w15 ⟨n8, hfr, v6, x6, y6, a7, b7, u3, t5⟩ h
  refine E_joinC h (fun (s : Unit) e w => ∃ (g : Gh) , Fr gI wI g w ∧ e 0 = up0 ∧ RV g.m w (x0 : List PayRate) up0 ∧ e 1 = .int .i64 (x1) ∧ e 2 = (.func (.func ff2) fa2 fc2) ∧ e 8 = .int .i64 (((x0).length : Int)) ∧ e 9 = .int .i64 (z2) ∧ e 10 = .int .i64 (u0)) (fun X17 l8 r8 h => ?_) ?_
  ·refine E_seq (E_region (EL_mv u3 rfl ?_))
   refine EL_mv t5 rfl ?_
   refine EL_in (.bool ((decide (z2 < u0)))) rfl rfl rfl rfl ?_
   refine EL_nil (thn_n ?_)
   rcases csome h with ⟨i6, h⟩ | ⟨i6, h⟩
   ·refine E_ct i6 rfl ?_
    exact E_skip (thn_n (r8 () _ _ ⟨n8, hfr, v6, x6, y6, a7, b7, u3, t5⟩ h))
   ·refine E_cf i6 rfl ?_
    refine E_exit ?_
    refine thn_e ?_
    refine thn_e ?_
    refine blk_hit ?_
    obtain rfl := sinj h
    exact hQ _ _ ⟨n8, hfr, v6, x6, y6, a7, b7, u3⟩
  ·rintro _ t9 z9 ⟨o8, hfr, z3, i3, z4, i5, c7, d7, x5⟩ h
   refine E_block ?_
   refine E_seq (E_region (EL_mv d7 rfl ?_))
   refine EL_mv x5 rfl ?_
   refine EL_in (.int .i64 ((w64 (z2 + u0)))) rfl rfl rfl rfl ?_
   refine EL_p (.int .u64 (wu64 (w64 (z2 + u0)))) (P_intu64 Tryz.underlying3 Tryz.underlying134 rfl) rfl ?_
   obtain ⟨d3, t8, h⟩ := bsome h
   refine EL_p (.int .u64 (d3)) (P_shrU rfl rfl t8) rfl ?_
   refine EL_p (.int .i64 ((w64 d3))) (P_u64int Tryz.underlying134 Tryz.underlying3 rfl) rfl ?_
   refine EL_at (.int .i64 ((w64 d3))) rfl rfl ?_
   refine EL_nil (thn_n (E_seq (E_region (EL_mv i5 rfl ?_))))
   refine EL_mv z3 rfl ?_
   refine EL_mw (.int .i64 ((w64 d3))) rfl rfl ?_
   obtain ⟨k8, m7, h⟩ := bsome h
   refine EL_p (ePtr up0 (w64 d3) 2) (P_indexAddr (α := PayRate) Tryz.underlying33 Tryz.sizeOf82 rfl i3 rfl m7) rfl ?_
   have y8 := PT_idx i3 m7
   refine EL_do .plain rfl (D_load (g := o8) Tryz.isAgg82 Tryz.sizeOf82 rfl y8 fun a9 d9 => ?_)
   refine EL_mv z4 rfl ?_
   obtain ⟨i7, v8, h⟩ := bsome h
   refine EL_do .plain rfl (D_callv (g := o8) (vs := [a9, .int .i64 (x1)]) rfl fen2 (.cons rfl (.cons rfl .nil)) (fcl2 _ _ hfr.ch _ _ _ _ _  d9 (RV_int.2 rfl) v8) fun q8 bA gA hs hr => ?_)
   have hfr := hfr.ext hs
   have i3 := i3.ext hs
   obtain rfl := RV_int.1 hr
   refine EL_in (.bool ((decide (i7 < (0 : Int))))) rfl rfl rfl rfl ?_
   refine EL_nil (thn_n ?_)
   rcases csome h with ⟨j6, h⟩ | ⟨j6, h⟩
   ·refine E_ct j6 rfl ?_
    refine E_region (EL_mw (.int .i64 ((w64 d3))) rfl rfl ?_)
    refine EL_in (.int .i64 ((w64 ((w64 d3) + (1 : Int))))) rfl rfl rfl rfl ?_
    refine EL_at (.int .i64 ((w64 ((w64 d3) + (1 : Int))))) rfl rfl ?_
    exact EL_nil (blk_n (thn_n (j7 ((w64 ((w64 d3) + (1 : Int))), u0) _ _ ⟨q8, hfr, z3, i3, z4, i5, c7, rfl, x5⟩ h)))
   ·refine E_cf j6 rfl ?_
    refine E_region (EL_mw (.int .i64 ((w64 d3))) rfl rfl ?_)
    refine EL_at (.int .i64 ((w64 d3))) rfl rfl ?_
    exact EL_nil (blk_n (thn_n (j7 (z2, (w64 d3)) _ _ ⟨q8, hfr, z3, i3, z4, i5, c7, d7, rfl⟩ h)))
 ·clear hx
  obtain ⟨n7, hfr, u7, e7, v7, c8, e8, l5⟩ := hR
  obtain ⟨⟨j3, o3⟩, hx, h⟩ := bsome h
  refine E_join (fun e w => ∃ (g : Gh) , Fr gI wI g w ∧ e 6 = .int .i64 (j3) ∧ e 7 = .bool (o3)) (fun Q' hQ => ?_) (fun u9 iA hR => ?_)
  ·replace h := hx
   clear hx
   refine E_region (EL_mv l5 rfl ?_)
   refine EL_mv l5 rfl ?_
   refine EL_mv e8 rfl ?_
   refine EL_in (.bool ((decide (o0 < ((x0).length : Int))))) rfl rfl rfl rfl ?_
   refine EL_mw (.bool ((decide (o0 < ((x0).length : Int))))) rfl rfl ?_
   rcases csome h with ⟨j1, h⟩ | ⟨j1, h⟩
   ·refine EL_y ((.func (.func ff2) fa2 fc2)) (P_move c8) rfl rfl j1 rfl ?_
    refine EL_y up0 (P_move u7) rfl rfl j1 rfl ?_
    refine EL_y (.int .i64 (o0)) (P_move l5) rfl rfl j1 rfl ?_
    obtain ⟨m8, o7, h⟩ := bsome h
    refine EL_y (ePtr up0 o0 2) (P_indexAddr (α := PayRate) Tryz.underlying33 Tryz.sizeOf82 rfl e7 rfl o7) rfl rfl j1 rfl ?_
    have e9 := PT_idx e7 o7
    refine EL_do (.yes2 rfl rfl j1) rfl (D_load (g := n7) Tryz.isAgg82 Tryz.sizeOf82 rfl e9 fun i9 k9 => ?_)
    refine EL_y (.int .i64 (x1)) (P_move v7) rfl rfl j1 rfl ?_
    obtain ⟨q5, x8, h⟩ := bsome h
    refine EL_do (.yes2 rfl rfl j1) rfl (D_callv (g := n7) (vs := [i9, .int .i64 (x1)]) rfl fen2 (.cons rfl (.cons rfl .nil)) (fcl2 _ _ hfr.ch _ _ _ _ _  k9 (RV_int.2 rfl) x8) fun l9 jA kA hs hr => ?_)
    have hfr := hfr.ext hs
    obtain rfl := RV_int.1 hr
    refine EL_y (.bool ((q5 == (0 : Int)))) (P_int rfl rfl rfl) rfl rfl j1 rfl ?_
    refine EL_p (.bool ((q5 == (0 : Int)))) (P_pick (b := (decide (o0 < ((x0).length : Int)))) rfl (pick_t j1 rfl)) rfl ?_
    refine EL_at (.int .i64 (o0)) rfl rfl ?_
    refine EL_at (.bool ((q5 == (0 : Int)))) rfl rfl ?_
    refine EL_nil ?_
    obtain ⟨rfl, rfl⟩ := pairs2 h
    exact hQ _ _ ⟨l9, hfr, rfl, rfl⟩
   ·refine EL_s rfl rfl j1 rfl rfl ?_
    iterate 7 refine EL_s rfl rfl j1 rfl rfl ?_
    refine EL_p (.bool false) (P_pick (b := (decide (o0 < ((x0).length : Int)))) rfl (pick_f j1 rfl)) rfl ?_
    refine EL_at (.int .i64 (o0)) rfl rfl ?_
    refine EL_at (.bool false) rfl rfl ?_
    refine EL_nil ?_
    obtain ⟨rfl, rfl⟩ := pairs2 h
    exact hQ _ _ ⟨n7, hfr, rfl, rfl⟩
  ·clear hx
   obtain ⟨lA, hfr, g8, i8⟩ := hR
   refine E_ret ?_
   obtain rfl := sinj h
   exact end2 rfl rfl (show _ = .int .i64 (j3) from g8) (show _ = .bool (o3) from i8) ⟨_, hfr, _, _, rfl, rfl, rfl⟩
def f99 (x0 : PaySheet) : Option ((List PayPlace)) :=
 Option.bind (α := (List PayPlace)) (
  lp (σ := (List PayPlace) × Int) (fun oA (x6, o0) =>
   bif (decide (o0 < ((((x0).PayTable).Rows).length : Int))) then
    Option.bind (α := (List PayPlace)) (
     (idx (((x0).PayTable).Rows) o0).bind fun o3 =>
     lp (σ := (List PayPlace) × Int) (fun pA (q5, u0) =>
      bif (decide (u0 < ((o3).length : Int))) then
       Option.bind (α := (List PayPlace)) (
        (idx o3 u0).bind fun e7 =>
        bif (e7 == (-1 : Int)) then
         (apnd 16 q5 (([(⟨o0, u0⟩ : PayPlace)] : List PayPlace))).bind fun t8 =>
         some (t8)
        else
         some (q5)
        ) fun d3 =>
       pA (d3, (w64 (u0 + (1 : Int))))
      else
       some (q5)
      ) big (x6, (0 : Int))
     ) fun i3 =>
    oA (i3, (w64 (o0 + (1 : Int))))
   else
    some (x6)
   ) big ([], (0 : Int))
  ) fun u3 =>
 some (u3)
theorem en99 : Enters Tryz.prog 99 := enters_of Tryz.func99 (by kernel_rfl) rfl
theorem wk99 {gI : Gh} {wI : World} {x0 : PaySheet} {up0 : Value} (rp0 : RV gI.m wI x0 up0) {r : (List PayPlace)} (h : f99 x0 = some r) : Fn Tryz.prog 99 #[up0] gI wI (fun m w v => RV m w (r) v) := by
 unfold f99 at h
 refine fn_of_E Tryz.func99 rfl (Nat.le_of_ble_eq_true rfl) fun g0 hm hfr => ?_
 have rp0 : RV g0.m wI x0 up0 := hm ▸ rp0
 show E _ 34 none _ _ _ _ _
 refine E_seq (E_region (EL_do .plain rfl (D_box (g := g0) rfl rp0 fun g1 w1 p1 hs q1 => ?_)))
 have hfr := hfr.ext hs
 refine EL_at (.slice none 0 0) rfl rfl ?_
 refine EL_nil (thn_n ?_)
 obtain ⟨u3, hx, h⟩ := bsome h
 refine E_join (fun e w => ∃ (g : Gh) (v2 : Value), Fr gI wI g w ∧ e 2 = v2 ∧ RV g.m w (u3 : List PayPlace) v2 ∧ OS 1002 g w 207 (u3 : List PayPlace) v2) (fun Q' hQ => ?_) (fun nB vB hR => ?_)
 ·replace h := hx
  clear hx
  refine E_seq (E_region (EL_p (fPtr p1 0) (P_fieldAddr at_147_0 rfl (PT.ptr q1)) rfl ?_))
  have qA := PT_field (part_PaySheet_0).1 q1
  refine EL_p (fPtr (fPtr p1 0) 0) (P_fieldAddr at_112_0 rfl (PT.ptr qA)) rfl ?_
  have jB := PT_field (part_PayTable_0).1 qA
  refine EL_do .plain rfl (D_load (g := g1) Tryz.isAgg110 Tryz.sizeOf110 rfl jB fun z3 rA => ?_)
  refine EL_p (.int .i64 ((((x0).PayTable).Rows).length : Int)) (P_len Tryz.underlying110 rfl rA) rfl ?_
  refine EL_mw (.int .i64 (0)) rfl rfl ?_
  refine EL_nil (thn_n (E_block ?_))
  refine E_lp h (fun (s : (List PayPlace) × Int) e w => ∃ (g : Gh) (v2 : Value), Fr gI wI g w ∧ e 2 = v2 ∧ RV g.m w (s.1 : List PayPlace) v2 ∧ OS 1002 g w 207 (s.1 : List PayPlace) v2 ∧ e 9 = z3 ∧ RV g.m w (((x0).PayTable).Rows : List (List Int)) z3 ∧ e 10 = .int .i64 (((((x0).PayTable).Rows).length : Int)) ∧ e 11 = .int .i64 (s.2)) ⟨g1, (.slice none 0 0), hfr, rfl, RV_nil, OS.nil, rfl, rA, rfl, rfl⟩ (fun X58 oA uA => ?_)
  rintro ⟨x6, o0⟩ xB kC ⟨v8, o7, hfr, u7, v7, c8, e8, y6, g7, z4⟩ h
  refine E_seq (E_region (EL_p (.bool ((decide (o0 < ((((x0).PayTable).Rows).length : Int))))) (P_int z4 g7 rfl) rfl ?_))
  refine EL_nil (thn_n (E_seq ?_))
  rcases csome h with ⟨m7, h⟩ | ⟨m7, h⟩
  ·refine E_ct m7 rfl ?_
   refine E_skip (thn_n ?_)
   obtain ⟨i3, hx, h⟩ := bsome h
   refine E_join (fun e w => ∃ (g : Gh) (v2 : Value), Fr gI wI g w ∧ e 2 = v2 ∧ RV g.m w (i3 : List PayPlace) v2 ∧ OS 1002 g w 207 (i3 : List PayPlace) v2 ∧ e 9 = z3 ∧ RV g.m w (((x0).PayTable).Rows : List (List Int)) z3 ∧ e 10 = .int .i64 (((((x0).PayTable).Rows).length : Int)) ∧ e 11 = .int .i64 (o0)) (fun Q' hQ => ?_) (fun oB yB hR => ?_)
   ·replace h := hx
    clear hx
    refine E_block ?_
    refine E_seq (E_region (EL_mv z4 rfl ?_))
    obtain ⟨o3, x8, h⟩ := bsome h
    refine EL_p (ePtr z3 o0 1) (P_indexAddr (α := List Int) Tryz.underlying110 Tryz.sizeOf25 e8 y6 z4 x8) rfl ?_
    have kB := PT_idx y6 x8
    refine EL_do .plain rfl (D_load (g := v8) Tryz.isAgg25 Tryz.sizeOf25 rfl kB fun t5 sA => ?_)
    refine EL_at (.int .i64 (o0)) rfl rfl ?_
    refine EL_at t5 rfl rfl ?_
    refine EL_nil (thn_n (E_seq (E_region (EL_mw t5 rfl rfl ?_))))
    refine EL_p (.int .i64 ((o3).length : Int)) (P_len Tryz.underlying25 rfl sA) rfl ?_
    refine EL_mw (.int .i64 (0)) rfl rfl ?_
    refine EL_nil (thn_n (E_block ?_))
    refine E_lp h (fun (s : (List PayPlace) × Int) e w => ∃ (g : Gh) (v2 : Value), Fr gI wI g w ∧ e 2 = v2 ∧ RV g.m w (s.1 : List PayPlace) v2 ∧ OS 1002 g w 207 (s.1 : List PayPlace) v2 ∧ e 3 = .int .i64 (o0) ∧ e 9 = z3 ∧ RV g.m w (((x0).PayTable).Rows : List (List Int)) z3 ∧ e 10 = .int .i64 (((((x0).PayTable).Rows).length : Int)) ∧ e 11 = .int .i64 (o0) ∧ e 16 = t5 ∧ RV g.m w (o3 : List Int) t5 ∧ e 17 = .int .i64 (((o3).length : Int)) ∧ e 18 = .int .i64 (s.2)) ⟨v8, (o7), hfr, u7, v7, c8, rfl, e8, y6, g7, z4, rfl, sA, rfl, rfl⟩ (fun X88 pA xA => ?_)
    rintro ⟨q5, u0⟩ zB lB ⟨i7, g8, hfr, a7, i5, l5, b7, c7, z2, x5, i6, j6, j1, v6, j3⟩ h
    refine E_seq (E_region (EL_in (.bool ((decide (u0 < ((o3).length : Int))))) j3 v6 rfl rfl ?_))
    refine EL_nil (thn_n (E_seq ?_))
    rcases csome h with ⟨n7, h⟩ | ⟨n7, h⟩
    ·refine E_ct n7 rfl ?_
     refine E_skip (thn_n ?_)
     obtain ⟨d3, hx, h⟩ := bsome h
     refine E_join (fun e w => ∃ (g : Gh) (v2 : Value), Fr gI wI g w ∧ e 2 = v2 ∧ RV g.m w (d3 : List PayPlace) v2 ∧ OS 1002 g w 207 (d3 : List PayPlace) v2 ∧ e 3 = .int .i64 (o0) ∧ e 9 = z3 ∧ RV g.m w (((x0).PayTable).Rows : List (List Int)) z3 ∧ e 10 = .int .i64 (((((x0).PayTable).Rows).length : Int)) ∧ e 11 = .int .i64 (o0) ∧ e 16 = t5 ∧ RV g.m w (o3 : List Int) t5 ∧ e 17 = .int .i64 (((o3).length : Int)) ∧ e 18 = .int .i64 (u0)) (fun Q' hQ => ?_) (fun tB aC hR => ?_)
     ·replace h := hx
      clear hx
      refine E_block ?_
      refine E_seq (E_region (EL_mv j3 rfl ?_))
      obtain ⟨e7, y8, h⟩ := bsome h
      refine EL_p (ePtr t5 u0 1) (P_indexAddr (α := Int) Tryz.underlying25 Tryz.sizeOf3 j6 j1 j3 y8) rfl ?_
      have yA := PT_idx j1 y8
      refine EL_do .plain rfl (D_load (g := i7) Tryz.isAgg3 Tryz.sizeOf3 rfl yA fun cC zA => ?_)
      obtain rfl := RV_int.1 zA
      refine EL_at (.int .i64 (u0)) rfl rfl ?_
      refine EL_at (.int .i64 (e7)) rfl rfl ?_
      refine EL_nil (thn_n (E_seq (E_region (EL_mw (.int .i64 (e7)) rfl rfl ?_))))
      refine EL_in (.bool ((e7 == (-1 : Int)))) rfl rfl rfl rfl ?_
      refine EL_nil (thn_n ?_)
      rcases csome h with ⟨d7, h⟩ | ⟨d7, h⟩
      ·refine E_ct d7 rfl ?_
       refine E_region (EL_mv a7 rfl ?_)
       refine EL_mv b7 rfl ?_
       refine EL_mw (.int .i64 (u0)) rfl rfl ?_
       have a9 : RV i7.m lB (⟨o0, u0⟩ : PayPlace) (.agg (setCh [[.int .i64 0], [.int .i64 0]] [(0, .int .i64 (o0)), (1, .int .i64 (u0))]).flatten.toArray) := RV_build rfl (rep_pair (rfl) (rep_last (rfl)))
       generalize mA : (Value.agg (setCh [[.int .i64 0], [.int .i64 0]] [(0, .int .i64 (o0)), (1, .int .i64 (u0))]).flatten.toArray) = d9 at a9
       refine EL_p d9 (mA ▸ P_build (vs := [(0, .int .i64 (o0)), (1, .int .i64 (u0))]) [[.int .i64 0], [.int .i64 0]] lay_207 rfl rfl (.cons rfl (.cons rfl .nil)) ⟨⟨_, rfl, rfl⟩, ⟨⟨_, rfl, rfl⟩, trivial⟩⟩) rfl ?_
       refine EL_do .plain rfl (D_buildSlice (g := i7) 3029 (xs := ([(⟨o0, u0⟩ : PayPlace)] : List PayPlace)) (vs := [d9]) Tryz.underlying184 Tryz.sizeOf207 Tryz.zeroValue207 rfl rfl (.cons rfl .nil) (RVs.cons a9 RVs.nil) rfl rfl fun aB dC eC hs o104 bB hxt hfl => ?_)
       have hfr := hfr.stp hs
       have i5 := i5.stp hs
       have l5 := l5.stp hs rfl
       have z2 := z2.stp hs
       have j1 := j1.stp hs
       obtain ⟨t8, nA, h⟩ := bsome h
       refine EL_do .plain rfl (D_append (g := aB) (i := 1002) Tryz.underlying184 info_207 rfl rfl l5 i5 rfl bB nA fun cB iC e9 hs o105 dB _ => ?_)
       have hfr := hfr.stp hs
       have z2 := z2.stp hs
       have j1 := j1.stp hs
       refine EL_at e9 rfl rfl ?_
       refine EL_nil (blk_n ?_)
       obtain rfl := sinj h
       exact hQ _ _ ⟨cB, (e9), hfr, rfl, dB, o105, b7, c7, z2, x5, i6, j6, j1, v6, j3⟩
      ·refine E_cf d7 rfl ?_
       refine E_skip (blk_n ?_)
       obtain rfl := sinj h
       exact hQ _ _ ⟨i7, (g8), hfr, a7, i5, l5, b7, c7, z2, x5, i6, j6, j1, v6, j3⟩
     ·clear hx
      obtain ⟨eB, i9, hfr, k9, l9, n9, o9, t9, u9, i8, k8, l8, m8, n8, o8⟩ := hR
      refine E_region (EL_in (.int .i64 ((w64 (u0 + (1 : Int))))) o8 rfl rfl rfl ?_)
      refine EL_mw (.int .i64 ((w64 (u0 + (1 : Int))))) rfl rfl ?_
      exact EL_nil (thn_n (xA (d3, (w64 (u0 + (1 : Int)))) _ _ ⟨eB, (i9), hfr, k9, l9, n9, o9, t9, u9, i8, k8, l8, m8, n8, rfl⟩ h))
    ·refine E_cf n7 rfl ?_
     refine E_exit ?_
     refine thn_e ?_
     refine thn_e ?_
     refine blk_hit ?_
     refine blk_n ?_
     obtain rfl := sinj h
     exact hQ _ _ ⟨i7, (g8), hfr, a7, i5, l5, c7, z2, x5, i6⟩
   ·clear hx
    obtain ⟨iB, y9, hfr, z9, bA, gA, iA, jA, q8, r8⟩ := hR
    refine E_region (EL_in (.int .i64 ((w64 (o0 + (1 : Int))))) r8 rfl rfl rfl ?_)
    refine EL_mw (.int .i64 ((w64 (o0 + (1 : Int))))) rfl rfl ?_
    exact EL_nil (thn_n (uA (i3, (w64 (o0 + (1 : Int)))) _ _ ⟨iB, (y9), hfr, z9, bA, gA, iA, jA, q8, rfl⟩ h))
  ·refine E_cf m7 rfl ?_
   refine E_exit ?_
   refine thn_e ?_
   refine thn_e ?_
   refine blk_hit ?_
   obtain rfl := sinj h
   exact hQ _ _ ⟨v8, (o7), hfr, u7, v7, c8⟩
 ·clear hx
  obtain ⟨jC, j7, hfr, kA, lA, mB⟩ := hR
  refine E_seq (E_region (EL_mv kA rfl ?_))
  refine EL_at j7 rfl rfl ?_
  refine EL_nil (thn_n (E_ret ?_))
  obtain rfl := sinj h
  exact end1 rfl rfl (show _ = j7 from rfl) ⟨_, hfr, lA⟩
def f100 (x0 : List Int) : Option (Int) :=
 Option.bind (α := Int) (
  lp (σ := Int × Int) (fun x6 (u0, o0) =>
   bif (decide (o0 < ((x0).length : Int))) then
    Option.bind (α := Int) (
     (idx x0 o0).bind fun d3 =>
     some ((w64 (u0 + d3)))
     ) fun z2 =>
    x6 (z2, (w64 (o0 + (1 : Int))))
   else
    some (u0)
   ) big ((0 : Int), (0 : Int))
  ) fun j1 =>
 some (j1)
theorem en100 : Enters Tryz.prog 100 := enters_of Tryz.func100 (by kernel_rfl) rfl
theorem wk100 {gI : Gh} {wI : World} {x0 : List Int} {up0 : Value} (rp0 : RV gI.m wI x0 up0) {r : Int} (h : f100 x0 = some r) : Fn Tryz.prog 100 #[up0] gI wI (fun _ _ v => v = .int .i64 (r)) := by
 unfold f100 at h
 refine fn_of_E Tryz.func100 rfl (Nat.le_of_ble_eq_true rfl) fun g0 hm hfr => ?_
 have rp0 : RV g0.m wI x0 up0 := hm ▸ rp0
 show E _ 16 none _ _ _ _ _
 refine E_seq (E_region (EL_at (.int .i64 (0)) rfl rfl ?_))
 refine EL_nil (thn_n ?_)
 obtain ⟨j1, hx, h⟩ := bsome h
 refine E_join (fun e w => ∃ (g : Gh) , Fr gI wI g w ∧ e 2 = .int .i64 (j1)) (fun Q' hQ => ?_) (fun d7 i7 hR => ?_)
 ·replace h := hx
  clear hx
  refine E_seq (E_region (EL_mw up0 rfl rfl ?_))
  refine EL_p (.int .i64 ((x0).length : Int)) (P_len Tryz.underlying25 rfl rp0) rfl ?_
  refine EL_mw (.int .i64 (0)) rfl rfl ?_
  refine EL_nil (thn_n (E_block ?_))
  refine E_lp h (fun (s : Int × Int) e w => ∃ (g : Gh) , Fr gI wI g w ∧ e 2 = .int .i64 (s.1) ∧ e 5 = up0 ∧ RV g.m w (x0 : List Int) up0 ∧ e 6 = .int .i64 (((x0).length : Int)) ∧ e 7 = .int .i64 (s.2)) ⟨g0, hfr, rfl, rfl, rp0, rfl, rfl⟩ (fun X11 x6 y6 => ?_)
  rintro ⟨u0, o0⟩ e7 j7 ⟨i5, hfr, u3, z3, i3, z4, j3⟩ h
  refine E_seq (E_region (EL_in (.bool ((decide (o0 < ((x0).length : Int))))) j3 z4 rfl rfl ?_))
  refine EL_nil (thn_n (E_seq ?_))
  rcases csome h with ⟨o3, h⟩ | ⟨o3, h⟩
  ·refine E_ct o3 rfl ?_
   refine E_skip (thn_n ?_)
   obtain ⟨z2, hx, h⟩ := bsome h
   refine E_join (fun e w => ∃ (g : Gh) , Fr gI wI g w ∧ e 2 = .int .i64 (z2) ∧ e 5 = up0 ∧ RV g.m w (x0 : List Int) up0 ∧ e 6 = .int .i64 (((x0).length : Int)) ∧ e 7 = .int .i64 (o0)) (fun Q' hQ => ?_) (fun g7 m7 hR => ?_)
   ·replace h := hx
    clear hx
    refine E_block ?_
    refine E_seq (E_region ?_)
    obtain ⟨d3, l5, h⟩ := bsome h
    refine EL_p (ePtr up0 o0 1) (P_indexAddr (α := Int) Tryz.underlying25 Tryz.sizeOf3 z3 i3 j3 l5) rfl ?_
    have a7 := PT_idx i3 l5
    refine EL_do .plain rfl (D_load (g := i5) Tryz.isAgg3 Tryz.sizeOf3 rfl a7 fun n7 b7 => ?_)
    obtain rfl := RV_int.1 b7
    refine EL_at (.int .i64 (d3)) rfl rfl ?_
    refine EL_nil (thn_n (E_region (EL_mv u3 rfl ?_)))
    refine EL_mw (.int .i64 (d3)) rfl rfl ?_
    refine EL_in (.int .i64 ((w64 (u0 + d3)))) rfl rfl rfl rfl ?_
    refine EL_at (.int .i64 ((w64 (u0 + d3)))) rfl rfl ?_
    refine EL_nil (blk_n ?_)
    obtain rfl := sinj h
    exact hQ _ _ ⟨i5, hfr, rfl, z3, i3, z4, j3⟩
   ·clear hx
    obtain ⟨c7, hfr, q5, t5, x5, i6, j6⟩ := hR
    refine E_region (EL_in (.int .i64 ((w64 (o0 + (1 : Int))))) j6 rfl rfl rfl ?_)
    refine EL_mw (.int .i64 ((w64 (o0 + (1 : Int))))) rfl rfl ?_
    exact EL_nil (thn_n (y6 (z2, (w64 (o0 + (1 : Int)))) _ _ ⟨c7, hfr, q5, t5, x5, i6, rfl⟩ h))
  ·refine E_cf o3 rfl ?_
   refine E_exit ?_
   refine thn_e ?_
   refine thn_e ?_
   refine blk_hit ?_
   obtain rfl := sinj h
   exact hQ _ _ ⟨i5, hfr, u3⟩
 ·clear hx
  obtain ⟨o7, hfr, v6⟩ := hR
  refine E_seq (E_region (EL_mv v6 rfl ?_))
  refine EL_at (.int .i64 (j1)) rfl rfl ?_
  refine EL_nil (thn_n (E_ret ?_))
  obtain rfl := sinj h
  exact end1 rfl rfl (show _ = .int .i64 (j1) from rfl) ⟨_, hfr, rfl⟩
def f101 (x0 : PaySheet) (x1 : Int) : Option ((List Int)) :=
 Option.bind (α := (List Int)) (
  lp (σ := (List Int) × Int) (fun u7 (o3, o0) =>
   bif (decide (o0 < ((((x0).PayTable).Rows).length : Int))) then
    Option.bind (α := (List Int)) (
     (idx (((x0).PayTable).Rows) o0).bind fun v7 =>
     (idx v7 x1).bind fun i5 =>
     (apnd 8 o3 (([i5] : List Int))).bind fun c8 =>
     some (c8)
     ) fun j1 =>
    u7 (j1, (w64 (o0 + (1 : Int))))
   else
    some (o3)
   ) big ([], (0 : Int))
  ) fun z2 =>
 some (z2)
theorem en101 : Enters Tryz.prog 101 := enters_of Tryz.func101 (by kernel_rfl) rfl
theorem wk101 {gI : Gh} {wI : World} {x0 : PaySheet} {x1 : Int} {up0 : Value} (rp0 : RV gI.m wI x0 up0) {r : (List Int)} (h : f101 x0 x1 = some r) : Fn Tryz.prog 101 #[up0, .int .i64 (x1)] gI wI (fun m w v => RV m w (r) v) := by
 unfold f101 at h
 refine fn_of_E Tryz.func101 rfl (Nat.le_of_ble_eq_true rfl) fun g0 hm hfr => ?_
 have rp0 : RV g0.m wI x0 up0 := hm ▸ rp0
 show E _ 24 none _ _ _ _ _
 refine E_seq (E_region (EL_do .plain rfl (D_box (g := g0) rfl rp0 fun g1 w1 p1 hs q1 => ?_)))
 have hfr := hfr.ext hs
 refine EL_at (.slice none 0 0) rfl rfl ?_
 refine EL_nil (thn_n ?_)
 obtain ⟨z2, hx, h⟩ := bsome h
 refine E_join (fun e w => ∃ (g : Gh) (v4 : Value), Fr gI wI g w ∧ e 4 = v4 ∧ RV g.m w (z2 : List Int) v4 ∧ OS 1004 g w 3 (z2 : List Int) v4) (fun Q' hQ => ?_) (fun e9 l9 hR => ?_)
 ·replace h := hx
  clear hx
  refine E_seq (E_region (EL_p (fPtr p1 0) (P_fieldAddr at_147_0 rfl (PT.ptr q1)) rfl ?_))
  have e8 := PT_field (part_PaySheet_0).1 q1
  refine EL_p (fPtr (fPtr p1 0) 0) (P_fieldAddr at_112_0 rfl (PT.ptr e8)) rfl ?_
  have n8 := PT_field (part_PayTable_0).1 e8
  refine EL_do .plain rfl (D_load (g := g1) Tryz.isAgg110 Tryz.sizeOf110 rfl n8 fun u3 g8 => ?_)
  refine EL_p (.int .i64 ((((x0).PayTable).Rows).length : Int)) (P_len Tryz.underlying110 rfl g8) rfl ?_
  refine EL_mw (.int .i64 (0)) rfl rfl ?_
  refine EL_nil (thn_n (E_block ?_))
  refine E_lp h (fun (s : (List Int) × Int) e w => ∃ (g : Gh) (v4 : Value), Fr gI wI g w ∧ e 1 = .int .i64 (x1) ∧ e 4 = v4 ∧ RV g.m w (s.1 : List Int) v4 ∧ OS 1004 g w 3 (s.1 : List Int) v4 ∧ e 9 = u3 ∧ RV g.m w (((x0).PayTable).Rows : List (List Int)) u3 ∧ e 10 = .int .i64 (((((x0).PayTable).Rows).length : Int)) ∧ e 11 = .int .i64 (s.2)) ⟨g1, (.slice none 0 0), hfr, rfl, rfl, RV_nil, OS.nil, rfl, g8, rfl, rfl⟩ (fun X30 u7 l8 => ?_)
  rintro ⟨o3, o0⟩ i9 n9 ⟨l5, b7, hfr, q5, t5, d3, i3, x5, u0, z3, j3⟩ h
  refine E_seq (E_region (EL_p (.bool ((decide (o0 < ((((x0).PayTable).Rows).length : Int))))) (P_int j3 z3 rfl) rfl ?_))
  refine EL_nil (thn_n (E_seq ?_))
  rcases csome h with ⟨z4, h⟩ | ⟨z4, h⟩
  ·refine E_ct z4 rfl ?_
   refine E_skip (thn_n ?_)
   obtain ⟨j1, hx, h⟩ := bsome h
   refine E_join (fun e w => ∃ (g : Gh) (v4 : Value), Fr gI wI g w ∧ e 1 = .int .i64 (x1) ∧ e 4 = v4 ∧ RV g.m w (j1 : List Int) v4 ∧ OS 1004 g w 3 (j1 : List Int) v4 ∧ e 9 = u3 ∧ RV g.m w (((x0).PayTable).Rows : List (List Int)) u3 ∧ e 10 = .int .i64 (((((x0).PayTable).Rows).length : Int)) ∧ e 11 = .int .i64 (o0)) (fun Q' hQ => ?_) (fun k9 o9 hR => ?_)
   ·replace h := hx
    clear hx
    refine E_block ?_
    refine E_seq (E_region ?_)
    obtain ⟨v7, j6, h⟩ := bsome h
    refine EL_p (ePtr u3 o0 1) (P_indexAddr (α := List Int) Tryz.underlying110 Tryz.sizeOf25 x5 u0 j3 j6) rfl ?_
    have o8 := PT_idx u0 j6
    refine EL_do .plain rfl (D_load (g := l5) Tryz.isAgg25 Tryz.sizeOf25 rfl o8 fun v6 i8 => ?_)
    refine EL_at v6 rfl rfl ?_
    refine EL_nil (thn_n (E_region (EL_mv t5 rfl ?_)))
    refine EL_mw v6 rfl rfl ?_
    refine EL_mv q5 rfl ?_
    obtain ⟨i5, x6, h⟩ := bsome h
    refine EL_p (ePtr v6 x1 1) (P_indexAddr (α := Int) Tryz.underlying25 Tryz.sizeOf3 rfl i8 rfl x6) rfl ?_
    have q8 := PT_idx i8 x6
    refine EL_do .plain rfl (D_load (g := l5) Tryz.isAgg3 Tryz.sizeOf3 rfl q8 fun t9 r8 => ?_)
    obtain rfl := RV_int.1 r8
    refine EL_do .plain rfl (D_buildSlice (g := l5) 3020 (xs := ([i5] : List Int)) (vs := [.int .i64 (i5)]) Tryz.underlying25 Tryz.sizeOf3 Tryz.zeroValue3 rfl rfl (.cons rfl .nil) (RVs.cons (RV_int.2 rfl) RVs.nil) rfl rfl fun t8 u9 y9 hs o48 v8 hxt hfl => ?_)
    have hfr := hfr.stp hs
    have d3 := d3.stp hs
    have i3 := i3.stp hs rfl
    have u0 := u0.stp hs
    obtain ⟨c8, m8, h⟩ := bsome h
    refine EL_do .plain rfl (D_append (g := t8) (i := 1004) Tryz.underlying25 info_3 rfl rfl i3 d3 rfl v8 m8 fun x8 z9 k8 hs o49 y8 _ => ?_)
    have hfr := hfr.stp hs
    have u0 := u0.stp hs
    refine EL_at k8 rfl rfl ?_
    refine EL_nil (blk_n ?_)
    obtain rfl := sinj h
    exact hQ _ _ ⟨x8, (k8), hfr, q5, rfl, y8, o49, x5, u0, z3, j3⟩
   ·clear hx
    obtain ⟨a9, c7, hfr, d7, e7, g7, i7, j7, m7, y6, a7⟩ := hR
    refine E_region (EL_in (.int .i64 ((w64 (o0 + (1 : Int))))) a7 rfl rfl rfl ?_)
    refine EL_mw (.int .i64 ((w64 (o0 + (1 : Int))))) rfl rfl ?_
    exact EL_nil (thn_n (l8 (j1, (w64 (o0 + (1 : Int)))) _ _ ⟨a9, (c7), hfr, d7, e7, g7, i7, j7, m7, y6, rfl⟩ h))
  ·refine E_cf z4 rfl ?_
   refine E_exit ?_
   refine thn_e ?_
   refine thn_e ?_
   refine blk_hit ?_
   obtain rfl := sinj h
   exact hQ _ _ ⟨l5, (b7), hfr, t5, d3, i3⟩
 ·clear hx
  obtain ⟨bA, i6, hfr, n7, o7, d9⟩ := hR
  refine E_seq (E_region (EL_mv n7 rfl ?_))
  refine EL_at i6 rfl rfl ?_
  refine EL_nil (thn_n (E_ret ?_))
  obtain rfl := sinj h
  exact end1 rfl rfl (show _ = i6 from rfl) ⟨_, hfr, o7⟩
def f110 (x0 : List Int) (x1 : Int → Option Bool) : Option (Int) :=
 jn (σ := Unit) (fun _ =>
  some ((-1 : Int))
  ) fun k18 =>
 lp (σ := Int) (fun k19 o0 =>
  bif (decide (o0 < ((x0).length : Int))) then
   jn (σ := Unit) (fun _ =>
    k19 ((w64 (o0 + (1 : Int))))
    ) fun k28 =>
   (idx x0 o0).bind fun u3 =>
   (x1 u3).bind fun i6 =>
   bif i6 then
    some (o0)
   else
    k28 ()
  else
   k18 ()
  ) big ((0 : Int))
theorem en110 : Enters Tryz.prog 110 := enters_of Tryz.func110 (by kernel_rfl) rfl
theorem wk110 {gI : Gh} {wI : World} {x0 : List Int} {x1 : Int → Option Bool} {up0 : Value} (rp0 : RV gI.m wI x0 up0) {up1 : Value} (rp1 : FnV1 Tryz.prog x1 up1 gI wI) {r : Int} (h : f110 x0 x1 = some r) : Fn Tryz.prog 110 #[up0, up1] gI wI (fun _ _ v => v = .int .i64 (r)) := by
 unfold f110 at h
 refine fn_of_E Tryz.func110 rfl (Nat.le_of_ble_eq_true rfl) fun g0 hm hfr => ?_
 have rp0 : RV g0.m wI x0 up0 := hm ▸ rp0
 obtain ⟨ff1, fa1, fc1, rfl, fen1, fcl1⟩ := rp1
 show E _ 19 none _ _ _ _ _
 refine E_seq (E_region (EL_at (.int .i64 (0)) rfl rfl ?_))
 refine EL_nil (thn_n (E_joinC h (fun (s : Unit) e w => ∃ (g : Gh) , Fr gI wI g w) (fun X18 k18 j6 h => ?_) ?_))
 ·refine E_seq (E_region (EL_mw up0 rfl rfl ?_))
  refine EL_p (.int .i64 ((x0).length : Int)) (P_len Tryz.underlying25 rfl rp0) rfl ?_
  refine EL_mw (.int .i64 (0)) rfl rfl ?_
  refine EL_nil (thn_n (E_block ?_))
  refine E_lp h (fun (s : Int) e w => ∃ (g : Gh) , Fr gI wI g w ∧ e 0 = up0 ∧ RV g.m w (x0 : List Int) up0 ∧ e 1 = (.func (.func ff1) fa1 fc1) ∧ e 7 = .int .i64 (((x0).length : Int)) ∧ e 8 = .int .i64 (s)) ⟨g0, hfr, rfl, rp0, rfl, rfl, rfl⟩ (fun X19 k19 v6 => ?_)
  rintro o0 e7 j7 ⟨z3, hfr, i3, u0, j3, o3, j1⟩ h
  refine E_seq (E_region (EL_in (.bool ((decide (o0 < ((x0).length : Int))))) j1 o3 rfl rfl ?_))
  refine EL_nil (thn_n (E_seq ?_))
  rcases csome h with ⟨z2, h⟩ | ⟨z2, h⟩
  ·refine E_ct z2 rfl ?_
   refine E_skip (thn_n (E_joinC h (fun (s : Unit) e w => ∃ (g : Gh) , Fr gI wI g w ∧ e 0 = up0 ∧ RV g.m w (x0 : List Int) up0 ∧ e 1 = (.func (.func ff1) fa1 fc1) ∧ e 7 = .int .i64 (((x0).length : Int)) ∧ e 8 = .int .i64 (o0)) (fun X28 k28 x6 h => ?_) ?_))
   ·refine E_block ?_
    refine E_seq (E_region (EL_mv j1 rfl ?_))
    refine EL_at (.int .i64 (o0)) rfl rfl ?_
    refine EL_nil (thn_n (E_seq (E_region (EL_mv j3 rfl ?_))))
    refine EL_mv i3 rfl ?_
    refine EL_mw (.int .i64 (o0)) rfl rfl ?_
    obtain ⟨u3, z4, h⟩ := bsome h
    refine EL_p (ePtr up0 o0 1) (P_indexAddr (α := Int) Tryz.underlying25 Tryz.sizeOf3 rfl u0 rfl z4) rfl ?_
    have a7 := PT_idx u0 z4
    refine EL_do .plain rfl (D_load (g := z3) Tryz.isAgg3 Tryz.sizeOf3 rfl a7 fun m7 b7 => ?_)
    obtain rfl := RV_int.1 b7
    obtain ⟨i6, y6, h⟩ := bsome h
    refine EL_do .plain rfl (D_callv (g := z3) (vs := [.int .i64 (u3)]) rfl fen1 (.cons rfl .nil) (fcl1 _ _ hfr.ch _ _ _  (RV_int.2 rfl) y6) fun c7 n7 o7 hs hr => ?_)
    have hfr := hfr.ext hs
    have u0 := u0.ext hs
    obtain rfl := RV_bool.1 hr
    refine EL_nil (thn_n ?_)
    rcases csome h with ⟨d3, h⟩ | ⟨d3, h⟩
    ·refine E_ct d3 rfl ?_
     refine E_seq (E_region (EL_mw (.int .i64 (o0)) rfl rfl ?_))
     refine EL_at (.int .i64 (o0)) rfl rfl ?_
     refine EL_nil (thn_n (E_ret (blk_r ?_)))
     refine thn_r ?_
     refine thn_r ?_
     refine blk_r ?_
     refine thn_r ?_
     obtain rfl := sinj h
     exact end1 rfl rfl (show _ = .int .i64 (o0) from rfl) ⟨_, hfr, rfl⟩
    ·refine E_cf d3 rfl ?_
     exact E_skip (blk_n (thn_n (x6 () _ _ ⟨c7, hfr, i3, u0, j3, o3, j1⟩ h)))
   ·rintro _ g7 u7 ⟨d7, hfr, i5, l5, q5, t5, x5⟩ h
    refine E_region (EL_in (.int .i64 ((w64 (o0 + (1 : Int))))) x5 rfl rfl rfl ?_)
    refine EL_mw (.int .i64 ((w64 (o0 + (1 : Int))))) rfl rfl ?_
    exact EL_nil (thn_n (v6 ((w64 (o0 + (1 : Int)))) _ _ ⟨d7, hfr, i5, l5, q5, t5, rfl⟩ h))
  ·refine E_cf z2 rfl ?_
   refine E_exit ?_
   refine thn_e ?_
   refine thn_e ?_
   refine blk_hit ?_
   exact thn_n (j6 () _ _ ⟨z3, hfr⟩ h)
 ·rintro _ i7 v7 ⟨c8, hfr⟩ h
  refine E_seq (E_region (EL_at (.int .i64 (-1)) rfl rfl ?_))
  refine EL_nil (thn_n (E_ret ?_))
  obtain rfl := sinj h
  exact end1 rfl rfl (show _ = .int .i64 (-1) from rfl) ⟨_, hfr, rfl⟩
def f111 (x0 : List Int) (x1 : Int) (x2 : Int) (x3 : Int → Int → Option Int) : Option ((List Int)) :=
 lp (σ := (List Int) × Int) (fun k1 (v6, d3) =>
  jn (σ := Unit) (fun _ =>
   Option.bind (α := (List Int)) (
    lp (σ := (List Int) × Int) (fun i8 (j1, o0) =>
     jn (σ := Unit) (fun _ =>
      Option.bind (α := (List Int)) (
       (idx j1 (w64 (o0 - (1 : Int)))).bind fun x5 =>
       (idx j1 o0).bind fun x6 =>
       (idx j1 o0).bind fun sA =>
       (idx ((List.set j1 (Int.toNat o0) x5)) (w64 (o0 - (1 : Int)))).bind fun uA =>
       some ((List.set ((List.set j1 (Int.toNat o0) x5)) (Int.toNat (w64 (o0 - (1 : Int)))) x6))
       ) fun z4 =>
      i8 (z4, (w64 (o0 - (1 : Int))))
      ) fun k8 =>
     Option.bind (α := Bool) (
      bif (decide (o0 > x1)) then
       (idx j1 o0).bind fun y6 =>
       (idx j1 (w64 (o0 - (1 : Int)))).bind fun a7 =>
       (x3 y6 a7).bind fun t5 =>
       some ((decide (t5 < (0 : Int))))
      else
       some (false)
      ) fun j3 =>
     bif j3 then
      k8 ()
     else
      some (j1)
     ) big (v6, d3)
    ) fun i5 =>
   k1 (i5, (w64 (d3 + (1 : Int))))
   ) fun k4 =>
  bif (decide (d3 < x2)) then
   k4 ()
  else
   some (v6)
  ) big (x0, (w64 (x1 + (1 : Int))))
theorem en111 : Enters Tryz.prog 111 := enters_of Tryz.func111 (by kernel_rfl) rfl
theorem wk111 {iI : Nat} {gI : Gh} {wI : World} {x0 : List Int} {x1 : Int} {x2 : Int} {x3 : Int → Int → Option Int} {up0 : Value} (mp0 : OM iI gI wI 3 x0 up0) {up3 : Value} (rp3 : FnV2 Tryz.prog x3 up3 gI wI) {r : (List Int)} (h : f111 x0 x1 x2 x3 = some r) : FnM Tryz.prog 111 #[up0, .int .i64 (x1), .int .i64 (x2), up3] iI gI wI (fun g w v => v = .tuple #[] ∧ OM iI g w 3 r up0) := by
 unfold f111 at h
 refine fnM_of_E Tryz.func111 rfl (Nat.le_of_ble_eq_true rfl) fun g0 hm hfr => ?_
 have kA := mp0
 replace mp0 := mp0.enter
 rw [← hm] at mp0
 replace hm : g0.m = gI.m := by rw [hm]
 obtain ⟨ff3, fa3, fc3, rfl, fen3, fcl3⟩ := rp3
 show E _ 53 none _ _ _ _ _
 refine E_seq (E_region (EL_mw (.int .i64 (x1)) rfl rfl ?_))
 refine EL_in (.int .i64 ((w64 (x1 + (1 : Int))))) rfl rfl rfl rfl ?_
 refine EL_at (.int .i64 ((w64 (x1 + (1 : Int))))) rfl rfl ?_
 refine EL_nil (thn_n (E_block ?_))
 refine E_lp h (fun (s : (List Int) × Int) e w => ∃ (g : Gh) , FrM iI gI wI g w ∧ e 0 = up0 ∧ OM 1 g w 3 (s.1 : List Int) up0 ∧ e 1 = .int .i64 (x1) ∧ e 2 = .int .i64 (x2) ∧ e 3 = (.func (.func ff3) fa3 fc3) ∧ e 8 = .int .i64 (s.2)) ⟨g0, hfr, rfl, mp0, rfl, rfl, rfl, rfl⟩ (fun X1 k1 hk1 => ?_)
 rintro ⟨v6, d3⟩ cD w2 ⟨g2, hfr, xA, l8, yA, m8, zA, n8⟩ h
 refine E_joinC h (fun (s : Unit) e w => ∃ (g : Gh) , FrM iI gI wI g w ∧ e 0 = up0 ∧ OM 1 g w 3 (v6 : List Int) up0 ∧ e 1 = .int .i64 (x1) ∧ e 2 = .int .i64 (x2) ∧ e 3 = (.func (.func ff3) fa3 fc3) ∧ e 8 = .int .i64 (d3)) (fun X4 k4 hk4 h => ?_) ?_
 ·refine E_seq (E_region (EL_mv n8 rfl ?_))
  refine EL_mv m8 rfl ?_
  refine EL_in (.bool ((decide (d3 < x2)))) rfl rfl rfl rfl ?_
  refine EL_nil (thn_n ?_)
  rcases csome h with ⟨hc5, h⟩ | ⟨hc5, h⟩
  ·refine E_ct hc5 rfl ?_
   exact E_skip (thn_n (hk4 () _ _ ⟨g2, hfr, xA, l8, yA, m8, zA, n8⟩ h))
  ·refine E_cf hc5 rfl ?_
   refine E_exit ?_
   refine thn_e ?_
   refine thn_e ?_
   refine blk_hit ?_
   obtain rfl := sinj h
   exact end0n rfl rfl ⟨_, hfr, rfl, kA.back l8⟩
 ·rintro _ eD w6 ⟨g6, hfr, aB, bB, cB, dB, eB, o8⟩ h
  obtain ⟨i5, hx, h⟩ := bsome h
  refine E_join (fun e w => ∃ (g : Gh) , FrM iI gI wI g w ∧ e 0 = up0 ∧ OM 1 g w 3 (i5 : List Int) up0 ∧ e 1 = .int .i64 (x1) ∧ e 2 = .int .i64 (x2) ∧ e 3 = (.func (.func ff3) fa3 fc3) ∧ e 8 = .int .i64 (d3)) (fun Q' hQ => ?_) (fun aC jC hR => ?_)
  ·replace h := hx
   clear hx
   refine E_block ?_
   refine E_seq (E_region (EL_mv o8 rfl ?_))
   refine EL_at (.int .i64 (d3)) rfl rfl ?_
   refine EL_nil (thn_n (E_block ?_))
   refine E_lp h (fun (s : (List Int) × Int) e w => ∃ (g : Gh) , FrM iI gI wI g w ∧ e 0 = up0 ∧ OM 1 g w 3 (s.1 : List Int) up0 ∧ e 1 = .int .i64 (x1) ∧ e 2 = .int .i64 (x2) ∧ e 3 = (.func (.func ff3) fa3 fc3) ∧ e 8 = .int .i64 (d3) ∧ e 9 = .int .i64 (s.2)) ⟨g6, hfr, aB, bB, cB, dB, eB, o8, rfl⟩ (fun X297 i8 lA => ?_)
   rintro ⟨j1, o0⟩ cC kC ⟨q8, hfr, l5, z2, q5, c7, i6, d7, o3⟩ h
   refine E_joinC h (fun (s : Unit) e w => ∃ (g : Gh) , FrM iI gI wI g w ∧ e 0 = up0 ∧ OM 1 g w 3 (j1 : List Int) up0 ∧ e 1 = .int .i64 (x1) ∧ e 2 = .int .i64 (x2) ∧ e 3 = (.func (.func ff3) fa3 fc3) ∧ e 8 = .int .i64 (d3) ∧ e 9 = .int .i64 (o0)) (fun X411 k8 mA h => ?_) ?_
   ·obtain ⟨j3, hx, h⟩ := bsome h
    refine E_join (fun e w => ∃ (g : Gh) , FrM iI gI wI g w ∧ e 0 = up0 ∧ OM 1 g w 3 (j1 : List Int) up0 ∧ e 1 = .int .i64 (x1) ∧ e 2 = .int .i64 (x2) ∧ e 3 = (.func (.func ff3) fa3 fc3) ∧ e 8 = .int .i64 (d3) ∧ e 9 = .int .i64 (o0) ∧ e 34 = .bool (j3)) (fun Q' hQ => ?_) (fun dC lC hR => ?_)
    ·replace h := hx
     clear hx
     rcases csome h with ⟨u0, h⟩ | ⟨u0, h⟩
     ·obtain ⟨y6, o7, h⟩ := bsome h
      refine L_loadM (x := .tmp 25) Tryz.isAgg3 Tryz.sizeOf3 z2 o7 fun mC iB nA => ?_
      obtain rfl := RV_int.1 iB
      obtain ⟨a7, u7, h⟩ := bsome h
      refine L_loadM (x := .tmp 30) Tryz.isAgg3 Tryz.sizeOf3 z2 u7 fun qC jB oA => ?_
      obtain rfl := RV_int.1 jB
      obtain ⟨t5, pA, h⟩ := bsome h
      refine E_drawL (g := q8) (n := 17) [(14, (fun v g w => v = .int .i64 (t5)))] [0, 1, 2, 3, 4, 5, 6, 7, 8, 9, 10, 11, 12, 13, 14, 15, 16] rfl mixed (by kernel_rfl) (⟨fun _ => up_eq _, trivial⟩) ?_
      refine L_p (.int .i64 (o0)) rfl rfl (P_move o3) ?_
      refine L_p (.int .i64 (x1)) rfl rfl (P_move q5) ?_
      refine L_p (.bool ((decide (o0 > x1)))) rfl rfl (P_int rfl rfl rfl) ?_
      refine L_p (.bool ((decide (o0 > x1)))) rfl rfl (P_move rfl) ?_
      refine L_y ((.func (.func ff3) fa3 fc3)) rfl rfl rfl rfl u0 (P_move i6) ?_
      refine L_y up0 rfl rfl rfl rfl u0 (P_move l5) ?_
      refine L_y (.int .i64 (o0)) rfl rfl rfl rfl u0 (P_move o3) ?_
      refine L_y (ePtr up0 o0 1) rfl rfl rfl rfl u0 (P_indexAddrM (α := Int) Tryz.underlying25 Tryz.sizeOf3 rfl z2 rfl o7) ?_
      refine L_ld (c := .int .i64 (y6)) rfl rfl (.yes2 rfl rfl u0) (fun _ _ h => ⟨h.ch, fun b hb _ => h.below.block b hb⟩) nA rfl ?_
      refine L_y up0 rfl rfl rfl rfl u0 (P_move l5) ?_
      refine L_y (.int .i64 (o0)) rfl rfl rfl rfl u0 (P_move o3) ?_
      refine L_y (.int .i64 ((w64 (o0 - (1 : Int))))) rfl rfl rfl rfl u0 (P_int rfl rfl rfl) ?_
      refine L_y (ePtr up0 (w64 (o0 - (1 : Int))) 1) rfl rfl rfl rfl u0 (P_indexAddrM (α := Int) Tryz.underlying25 Tryz.sizeOf3 rfl z2 rfl u7) ?_
      refine L_ld (c := .int .i64 (a7)) rfl rfl (.yes2 rfl rfl u0) (fun _ _ h => ⟨h.ch, fun b hb _ => h.below.block b hb⟩) oA rfl ?_
      refine L_do (φ := fun v g w => v = .int .i64 (t5)) rfl rfl (.yes2 rfl rfl u0) (fun g w hd => D_callv (g := g) (vs := [.int .i64 (y6), .int .i64 (a7)]) rfl fen3 (.cons rfl (.cons rfl .nil)) (fcl3 _ _ (hfr.ext hd.1).ch _ _ _ _ _  (RV_int.2 rfl) (RV_int.2 rfl) pA) fun g' w' v hs hr => ⟨g', hs, RV_int.1 hr⟩) (fun rC hv => ?_)
      obtain ⟨_, _, _, rfl⟩ := hv
      refine L_y (.bool ((decide (t5 < (0 : Int))))) rfl rfl rfl rfl u0 (P_int rfl rfl rfl) ?_
      refine L_p (.bool ((decide (t5 < (0 : Int))))) rfl rfl (P_pick (b := (decide (o0 > x1))) rfl (pick_t u0 rfl)) ?_
      refine L_nl fun kB tC hs => ?_
      have hfr := hfr.ext hs
      have z2 := z2.ext hs
      clear hs
      refine EL_nil ?_
      obtain rfl := sinj h
      exact hQ _ _ ⟨kB, hfr, l5, z2, q5, c7, i6, d7, o3, rfl⟩
     ·refine E_drawL (g := q8) (n := 17) [] [0, 1, 2, 3, 4, 5, 6, 7, 8, 9, 10, 11, 12, 13, 14, 15, 16] rfl mixed (by kernel_rfl) trivial ?_
      refine L_p (.int .i64 (o0)) rfl rfl (P_move o3) ?_
      refine L_p (.int .i64 (x1)) rfl rfl (P_move q5) ?_
      refine L_p (.bool ((decide (o0 > x1)))) rfl rfl (P_int rfl rfl rfl) ?_
      refine L_p (.bool ((decide (o0 > x1)))) rfl rfl (P_move rfl) ?_
      iterate 12 refine L_s rfl rfl rfl u0 rfl ?_
      refine L_p (.bool false) rfl rfl (P_pick (b := (decide (o0 > x1))) rfl (pick_f u0 rfl)) ?_
      refine L_nl fun lB uC hs => ?_
      have hfr := hfr.ext hs
      have z2 := z2.ext hs
      clear hs
      refine EL_nil ?_
      obtain rfl := sinj h
      exact hQ _ _ ⟨lB, hfr, l5, z2, q5, c7, i6, d7, o3, rfl⟩
    ·clear hx
     obtain ⟨r8, hfr, e7, g7, i7, j7, m7, n7, t8, j6⟩ := hR
     rcases csome h with ⟨b7, h⟩ | ⟨b7, h⟩
     ·refine E_cond_true (Eq.trans (show ev _ _ = .bool (j3) from j6) (congrArg Value.bool b7)) ?_
      exact E_skip (thn_n (mA () _ _ ⟨r8, hfr, e7, g7, i7, j7, m7, n7, t8⟩ h))
     ·refine E_cond_false (Eq.trans (show ev _ _ = .bool (j3) from j6) (congrArg Value.bool b7)) ?_
      refine E_exit ?_
      refine thn_e ?_
      refine thn_e ?_
      refine blk_hit ?_
      refine blk_n ?_
      obtain rfl := sinj h
      exact hQ _ _ ⟨r8, hfr, e7, g7, i7, j7, m7, n7⟩
   ·rintro _ eC mB ⟨v8, hfr, u3, i3, x8, y8, a9, d9, z3⟩ h
    obtain ⟨z4, hx, h⟩ := bsome h
    refine E_join (fun e w => ∃ (g : Gh) , FrM iI gI wI g w ∧ e 0 = up0 ∧ OM 1 g w 3 (z4 : List Int) up0 ∧ e 1 = .int .i64 (x1) ∧ e 2 = .int .i64 (x2) ∧ e 3 = (.func (.func ff3) fa3 fc3) ∧ e 8 = .int .i64 (d3) ∧ e 9 = .int .i64 (o0)) (fun Q' hQ => ?_) (fun iC vC hR => ?_)
    ·replace h := hx
     clear hx
     refine E_block ?_
     obtain ⟨x5, v7, h⟩ := bsome h
     refine L_loadM (x := .tmp 45) Tryz.isAgg3 Tryz.sizeOf3 i3 v7 fun xC nB qA => ?_
     obtain rfl := RV_int.1 nB
     obtain ⟨x6, c8, h⟩ := bsome h
     refine L_loadM (x := .tmp 49) Tryz.isAgg3 Tryz.sizeOf3 i3 c8 fun yC oB rA => ?_
     obtain rfl := RV_int.1 oB
     obtain ⟨sA, e8, h⟩ := bsome h
     refine E_drawTL (g := v8) (n := 15) [2, 3, 4] [] [0, 1, 2, 3, 4, 5, 6, 7, 8, 9, 10, 11, 12, 13, 14] rfl mixed (by kernel_rfl) trivial rfl ?_
     refine L_p up0 rfl rfl (P_move u3) ?_
     refine L_p (.int .i64 (o0)) rfl rfl (P_move z3) ?_
     refine L_purL (c := up0) rfl rfl .plain (P_move u3) ?_
     refine L_purL (c := .int .i64 (o0)) rfl rfl .plain (P_move z3) ?_
     refine L_purL (c := .int .i64 ((w64 (o0 - (1 : Int))))) rfl rfl .plain (P_int rfl rfl rfl) ?_
     refine L_p up0 rfl rfl (P_move u3) ?_
     refine L_p (.int .i64 (o0)) rfl rfl (P_move z3) ?_
     refine L_p (.int .i64 ((w64 (o0 - (1 : Int))))) rfl rfl (P_int rfl rfl rfl) ?_
     refine L_p (ePtr up0 (w64 (o0 - (1 : Int))) 1) rfl rfl (P_indexAddrM (α := Int) Tryz.underlying25 Tryz.sizeOf3 rfl i3 rfl v7) ?_
     refine L_ld (c := .int .i64 (x5)) rfl rfl .plain (fun _ _ h => ⟨h.ch, fun b hb _ => h.below.block b hb⟩) qA rfl ?_
     refine L_p up0 rfl rfl (P_move u3) ?_
     refine L_p (.int .i64 (o0)) rfl rfl (P_move z3) ?_
     refine L_p (ePtr up0 o0 1) rfl rfl (P_indexAddrM (α := Int) Tryz.underlying25 Tryz.sizeOf3 rfl i3 rfl c8) ?_
     refine L_ld (c := .int .i64 (x6)) rfl rfl .plain (fun _ _ h => ⟨h.ch, fun b hb _ => h.below.block b hb⟩) rA rfl ?_
     refine L_p (ePtr up0 o0 1) rfl rfl (P_indexAddrM (α := Int) Tryz.underlying25 Tryz.sizeOf3 rfl i3 rfl e8) ?_
     refine L_nl fun e9 tB hs => ?_
     have hlt : Lt v8.m mB e9 tB := hs.ch
     have hfr := hfr.ext hs
     have i3 := i3.ext hs
     clear hs
     refine TL_do hlt.w .plain rfl (D_storeM (g := e9) (α := Int) (a' := x5) Tryz.sizeOf3 rfl i3 e8 rfl (RV_int.2 rfl) fun vB aD hs b582 => ?_)
     have hfr := hfr.stp hs
     have hlt := hlt.stp hs
     obtain ⟨uA, g8, h⟩ := bsome h
     refine TL_pur hlt.w (v := ePtr up0 (w64 (o0 - (1 : Int))) 1) (P_indexAddrM (α := Int) Tryz.underlying25 Tryz.sizeOf3 rfl b582 rfl g8) .plain rfl ?_
     refine TL_do hlt.w .plain rfl (D_storeM (g := vB) (α := Int) (a' := x6) Tryz.sizeOf3 rfl b582 g8 rfl (RV_int.2 rfl) fun xB bD hs b584 => ?_)
     have hfr := hfr.stp hs
     have hlt := hlt.stp hs
     refine TL_nil hlt.w ?_
     clear hlt
     refine blk_n ?_
     obtain rfl := sinj h
     exact hQ _ _ ⟨xB, hfr, u3, b584, x8, y8, a9, d9, z3⟩
    ·clear hx
     obtain ⟨yB, hfr, i9, k9, l9, n9, o9, t9, u9⟩ := hR
     refine E_region (EL_mv u9 rfl ?_)
     refine EL_in (.int .i64 ((w64 (o0 - (1 : Int))))) rfl rfl rfl rfl ?_
     refine EL_at (.int .i64 ((w64 (o0 - (1 : Int))))) rfl rfl ?_
     exact EL_nil (thn_n (lA (z4, (w64 (o0 - (1 : Int)))) _ _ ⟨yB, hfr, i9, k9, l9, n9, o9, t9, rfl⟩ h))
  ·clear hx
   obtain ⟨zB, hfr, y9, z9, bA, gA, iA, jA⟩ := hR
   refine E_region (EL_mv jA rfl ?_)
   refine EL_in (.int .i64 ((w64 (d3 + (1 : Int))))) rfl rfl rfl rfl ?_
   refine EL_at (.int .i64 ((w64 (d3 + (1 : Int))))) rfl rfl ?_
   exact EL_nil (thn_n (hk1 (i5, (w64 (d3 + (1 : Int)))) _ _ ⟨zB, hfr, y9, z9, bA, gA, iA, rfl⟩ h))
def f114 (x0 : Int) (z0 : Int) (z1 : Int) : Option (Bool) :=
 Option.bind (α := Bool) (
  bif (decide (x0 < z0)) then
   some (true)
  else
   some ((decide (x0 > z1)))
  ) fun o0 =>
 some (o0)
theorem en114 : Enters Tryz.prog 114 := enters_of Tryz.func114 (by kernel_rfl) rfl
theorem wk114 {gI : Gh} {wI : World} {x0 : Int} {z0 : Int} {z1 : Int} {pf0 : Value} (qf0 : PT gI.m wI z0 pf0) {pf1 : Value} (qf1 : PT gI.m wI z1 pf1) {r : Bool} (h : f114 x0 z0 z1 = some r) : Fn Tryz.prog 114 #[.int .i64 (x0), pf0, pf1] gI wI (fun _ _ v => v = .bool (r)) := by
 unfold f114 at h
 refine fn_of_E Tryz.func114 rfl (Nat.le_of_ble_eq_true rfl) fun g0 hm hfr => ?_
 have qf0 : PT g0.m wI z0 pf0 := hm ▸ qf0
 have qf1 : PT g0.m wI z1 pf1 := hm ▸ qf1
 show E _ 13 none _ _ _ _ _
 refine E_seq (E_region (EL_at (.bool false) rfl rfl ?_))
 refine EL_nil (thn_n ?_)
 obtain ⟨o0, hx, h⟩ := bsome h
 refine E_join (fun e w => ∃ (g : Gh) , Fr gI wI g w ∧ e 4 = .bool (o0)) (fun Q' hQ => ?_) (fun j1 w7 hR => ?_)
 ·replace h := hx
  clear hx
  refine E_region (EL_mw (.int .i64 (x0)) rfl rfl ?_)
  refine EL_do .plain rfl (D_load (g := g0) Tryz.isAgg3 Tryz.sizeOf3 rfl qf0 fun v4 r4 => ?_)
  obtain rfl := RV_int.1 r4
  refine EL_in (.bool ((decide (x0 < z0)))) rfl rfl rfl rfl ?_
  refine EL_mw (.bool ((decide (x0 < z0)))) rfl rfl ?_
  rcases csome h with ⟨hc5, h⟩ | ⟨hc5, h⟩
  ·refine EL_s rfl rfl hc5 rfl rfl ?_
   refine EL_s rfl rfl hc5 rfl rfl ?_
   refine EL_s rfl rfl hc5 rfl rfl ?_
   refine EL_p (.bool true) (P_pick (b := (decide (x0 < z0))) rfl (pick_t hc5 rfl)) rfl ?_
   refine EL_at (.bool true) rfl rfl ?_
   refine EL_nil ?_
   obtain rfl := sinj h
   exact hQ _ _ ⟨g0, hfr, rfl⟩
  ·refine EL_y (.int .i64 (x0)) (P_move rfl) rfl rfl hc5 rfl ?_
   refine EL_do (.yes2 rfl rfl hc5) rfl (D_load (g := g0) Tryz.isAgg3 Tryz.sizeOf3 rfl qf1 fun v6 r6 => ?_)
   obtain rfl := RV_int.1 r6
   refine EL_y (.bool ((decide (x0 > z1)))) (P_int rfl rfl rfl) rfl rfl hc5 rfl ?_
   refine EL_p (.bool ((decide (x0 > z1)))) (P_pick (b := (decide (x0 < z0))) rfl (pick_f hc5 rfl)) rfl ?_
   refine EL_at (.bool ((decide (x0 > z1)))) rfl rfl ?_
   refine EL_nil ?_
   obtain rfl := sinj h
   exact hQ _ _ ⟨g0, hfr, rfl⟩
 ·clear hx
  obtain ⟨g7, hfr, u0⟩ := hR
  refine E_ret ?_
  obtain rfl := sinj h
  exact end1 rfl rfl (show _ = .bool (o0) from u0) ⟨_, hfr, rfl⟩
def f115 (x0 : Int) (z0 : Int) (z1 : Int) : Option (Bool) :=
 Option.bind (α := Bool) (
  bif (decide (x0 < z0)) then
   some (true)
  else
   some ((decide (x0 > z1)))
  ) fun o0 =>
 some (o0)
theorem en115 : Enters Tryz.prog 115 := enters_of Tryz.func115 (by kernel_rfl) rfl
theorem wk115 {gI : Gh} {wI : World} {x0 : Int} {z0 : Int} {z1 : Int} {pf0 : Value} (qf0 : PT gI.m wI z0 pf0) {pf1 : Value} (qf1 : PT gI.m wI z1 pf1) {r : Bool} (h : f115 x0 z0 z1 = some r) : Fn Tryz.prog 115 #[.int .i64 (x0), pf0, pf1] gI wI (fun _ _ v => v = .bool (r)) := by
 unfold f115 at h
 refine fn_of_E Tryz.func115 rfl (Nat.le_of_ble_eq_true rfl) fun g0 hm hfr => ?_
 have qf0 : PT g0.m wI z0 pf0 := hm ▸ qf0
 have qf1 : PT g0.m wI z1 pf1 := hm ▸ qf1
 show E _ 13 none _ _ _ _ _
 refine E_seq (E_region (EL_at (.bool false) rfl rfl ?_))
 refine EL_nil (thn_n ?_)
 obtain ⟨o0, hx, h⟩ := bsome h
 refine E_join (fun e w => ∃ (g : Gh) , Fr gI wI g w ∧ e 4 = .bool (o0)) (fun Q' hQ => ?_) (fun j1 w7 hR => ?_)
 ·replace h := hx
  clear hx
  refine E_region (EL_mw (.int .i64 (x0)) rfl rfl ?_)
  refine EL_do .plain rfl (D_load (g := g0) Tryz.isAgg3 Tryz.sizeOf3 rfl qf0 fun v4 r4 => ?_)
  obtain rfl := RV_int.1 r4
  refine EL_in (.bool ((decide (x0 < z0)))) rfl rfl rfl rfl ?_
  refine EL_mw (.bool ((decide (x0 < z0)))) rfl rfl ?_
  rcases csome h with ⟨hc5, h⟩ | ⟨hc5, h⟩
  ·refine EL_s rfl rfl hc5 rfl rfl ?_
   refine EL_s rfl rfl hc5 rfl rfl ?_
   refine EL_s rfl rfl hc5 rfl rfl ?_
   refine EL_p (.bool true) (P_pick (b := (decide (x0 < z0))) rfl (pick_t hc5 rfl)) rfl ?_
   refine EL_at (.bool true) rfl rfl ?_
   refine EL_nil ?_
   obtain rfl := sinj h
   exact hQ _ _ ⟨g0, hfr, rfl⟩
  ·refine EL_y (.int .i64 (x0)) (P_move rfl) rfl rfl hc5 rfl ?_
   refine EL_do (.yes2 rfl rfl hc5) rfl (D_load (g := g0) Tryz.isAgg3 Tryz.sizeOf3 rfl qf1 fun v6 r6 => ?_)
   obtain rfl := RV_int.1 r6
   refine EL_y (.bool ((decide (x0 > z1)))) (P_int rfl rfl rfl) rfl rfl hc5 rfl ?_
   refine EL_p (.bool ((decide (x0 > z1)))) (P_pick (b := (decide (x0 < z0))) rfl (pick_f hc5 rfl)) rfl ?_
   refine EL_at (.bool ((decide (x0 > z1)))) rfl rfl ?_
   refine EL_nil ?_
   obtain rfl := sinj h
   exact hQ _ _ ⟨g0, hfr, rfl⟩
 ·clear hx
  obtain ⟨g7, hfr, u0⟩ := hR
  refine E_ret ?_
  obtain rfl := sinj h
  exact end1 rfl rfl (show _ = .bool (o0) from u0) ⟨_, hfr, rfl⟩
def f117 (x0 : FaultFaultLoom) (x1 : FaultDamage) (x2 : List Int) : Option ((List Int)) :=
 (idx x2 (x1).Pick).bind fun y5 =>
 (shl64 (1 : Int) (x1).Hook).bind fun y9 =>
 (idx x2 (x1).Pick).bind fun j1 =>
 some ((List.set x2 (Int.toNat (x1).Pick) ((bit64 .xor y5 y9))))
theorem en117 : Enters Tryz.prog 117 := enters_of Tryz.func117 (by kernel_rfl) rfl
theorem wk117 {iI : Nat} {gI : Gh} {wI : World} {x0 : FaultFaultLoom} {x1 : FaultDamage} {x2 : List Int} {up0 : Value} (rp0 : RV gI.m wI x0 up0) {up1 : Value} (rp1 : RV gI.m wI x1 up1) {up2 : Value} (mp2 : OM iI gI wI 3 x2 up2) {up3 : Value} {r : (List Int)} (h : f117 x0 x1 x2 = some r) : FnM Tryz.prog 117 #[up0, up1, up2, up3] iI gI wI (fun g w v => v = .tuple #[] ∧ OM iI g w 3 r up2) := by
 unfold f117 at h
 refine fnM_of_E Tryz.func117 rfl (Nat.le_of_ble_eq_true rfl) fun g0 hm hfr => ?_
 have u0 := mp2
 replace mp2 := mp2.enter
 rw [← hm] at mp2
 replace hm : g0.m = gI.m := by rw [hm]
 have rp0 : RV g0.m wI x0 up0 := hm ▸ rp0
 have rp1 : RV g0.m wI x1 up1 := hm ▸ rp1
 show E _ 18 none _ _ _ _ _
 refine E_seq (E_region (EL_do .plain rfl (D_box (g := g0) rfl rp0 fun g1 w1 p1 hs q1 => ?_)))
 have hfr := hfr.ext hs
 have rp1 := rp1.ext hs
 have mp2 := mp2.ext hs
 refine EL_do .plain rfl (D_box (g := g1) rfl rp1 fun g2 w2 p2 hs q2 => ?_)
 have hfr := hfr.ext hs
 have mp2 := mp2.ext hs
 refine EL_nil (thn_n ?_)
 have q3 := PT_field (part_FaultDamage_1).1 q2
 refine L_load (x := .tmp 9) Tryz.isAgg3 Tryz.sizeOf3 q3 fun v4 r4 z2 => ?_
 obtain rfl := RV_int.1 r4
 obtain ⟨y5, hy5, h⟩ := bsome h
 refine L_loadM (x := .tmp 11) Tryz.isAgg3 Tryz.sizeOf3 mp2 hy5 fun v6 r6 d3 => ?_
 obtain rfl := RV_int.1 r6
 have q7 := PT_field (part_FaultDamage_2).1 q2
 refine L_load (x := .tmp 13) Tryz.isAgg3 Tryz.sizeOf3 q7 fun v8 r8 i3 => ?_
 obtain rfl := RV_int.1 r8
 obtain ⟨y9, j3, h⟩ := bsome h
 obtain ⟨j1, o0, h⟩ := bsome h
 refine E_drawL (g := g2) (n := 10) [] [0, 1, 2, 3, 4, 5, 6, 7, 8, 9] rfl mixed (by kernel_rfl) trivial ?_
 refine L_p up2 rfl rfl (P_move rfl) ?_
 refine L_p (fPtr p2 1) rfl rfl (P_fieldAddr at_39_1 rfl (PT.ptr q2)) ?_
 refine L_ld (c := .int .i64 ((x1).Pick)) rfl rfl .plain (fun _ _ h => h.ch) z2 rfl ?_
 refine L_p (ePtr up2 (x1).Pick 1) rfl rfl (P_indexAddrM (α := Int) Tryz.underlying25 Tryz.sizeOf3 rfl mp2 rfl hy5) ?_
 refine L_ld (c := .int .i64 (y5)) rfl rfl .plain (fun _ _ h => ⟨h.ch, fun b hb _ => h.below.block b hb⟩) d3 rfl ?_
 refine L_p (fPtr p2 2) rfl rfl (P_fieldAddr at_39_2 rfl (PT.ptr q2)) ?_
 refine L_ld (c := .int .i64 ((x1).Hook)) rfl rfl .plain (fun _ _ h => h.ch) i3 rfl ?_
 refine L_p (.int .i64 (y9)) rfl rfl (P_int rfl rfl (congrArg (Option.map (Value.int .i64)) j3)) ?_
 refine L_p (.int .i64 ((bit64 .xor y5 y9))) rfl rfl (P_int rfl rfl rfl) ?_
 refine L_p (ePtr up2 (x1).Pick 1) rfl rfl (P_indexAddrM (α := Int) Tryz.underlying25 Tryz.sizeOf3 rfl mp2 rfl o0) ?_
 refine L_nl fun o3 u3 hs => ?_
 have hfr := hfr.ext hs
 have mp2 := mp2.ext hs
 clear hs
 refine EL_do .plain rfl (D_storeM (g := o3) (α := Int) (a' := ((bit64 .xor y5 y9))) Tryz.sizeOf3 rfl mp2 o0 rfl (RV_int.2 rfl) fun z3 z4 hs b28 => ?_)
 have hfr := hfr.stp hs
 refine EL_nil ?_
 obtain rfl := sinj h
 exact end0n rfl rfl ⟨_, hfr, rfl, u0.back b28⟩
def f118 (x0 : FaultFaultLoom) (x1 : FaultDamage) (x2 : List Int) : Option ((List Int)) :=
 lp (σ := (List Int) × Int) (fun k3 (j1, o0) =>
  bif (decide (o0 < ((x2).length : Int))) then
   Option.bind (α := (List Int)) (
    (idx j1 o0).bind fun y70 =>
    (shl64 (1 : Int) (x1).Hook).bind fun y74 =>
    (idx j1 o0).bind fun e8 =>
    bif (!(x1).Up) then
     (idx ((List.set j1 (Int.toNat o0) ((bit64 .or y70 y74)))) o0).bind fun z4 =>
     (shl64 (1 : Int) (x1).Hook).bind fun j3 =>
     (idx ((List.set j1 (Int.toNat o0) ((bit64 .or y70 y74)))) o0).bind fun g7 =>
     some ((List.set ((List.set j1 (Int.toNat o0) ((bit64 .or y70 y74)))) (Int.toNat o0) ((bit64 .xor z4 j3))))
    else
     some ((List.set j1 (Int.toNat o0) ((bit64 .or y70 y74))))
    ) fun d3 =>
   k3 (d3, (w64 (o0 + (1 : Int))))
  else
   some (j1)
  ) big (x2, (0 : Int))
theorem en118 : Enters Tryz.prog 118 := enters_of Tryz.func118 (by kernel_rfl) rfl
theorem wk118 {iI : Nat} {gI : Gh} {wI : World} {x0 : FaultFaultLoom} {x1 : FaultDamage} {x2 : List Int} {up0 : Value} (rp0 : RV gI.m wI x0 up0) {up1 : Value} (rp1 : RV gI.m wI x1 up1) {up2 : Value} (mp2 : OM iI gI wI 3 x2 up2) {up3 : Value} {r : (List Int)} (h : f118 x0 x1 x2 = some r) : FnM Tryz.prog 118 #[up0, up1, up2, up3] iI gI wI (fun g w v => v = .tuple #[] ∧ OM iI g w 3 r up2) := by
 unfold f118 at h
 refine fnM_of_E Tryz.func118 rfl (Nat.le_of_ble_eq_true rfl) fun g0 hm hfr => ?_
 have c7 := mp2
 replace mp2 := mp2.enter
 rw [← hm] at mp2
 replace hm : g0.m = gI.m := by rw [hm]
 have rp0 : RV g0.m wI x0 up0 := hm ▸ rp0
 have rp1 : RV g0.m wI x1 up1 := hm ▸ rp1
 show E _ 36 none _ _ _ _ _
 refine E_seq (E_region (EL_do .plain rfl (D_box (g := g0) rfl rp0 fun g1 w1 p1 hs q1 => ?_)))
 have hfr := hfr.ext hs
 have rp1 := rp1.ext hs
 have mp2 := mp2.ext hs
 refine EL_do .plain rfl (D_box (g := g1) rfl rp1 fun g2 w2 p2 hs q2 => ?_)
 have hfr := hfr.ext hs
 have mp2 := mp2.ext hs
 refine EL_nil (thn_n (E_seq (E_region (EL_mw up2 rfl rfl ?_))))
 refine EL_p (.int .i64 ((x2).length : Int)) (P_lenM Tryz.underlying25 rfl mp2) rfl ?_
 refine EL_mw (.int .i64 (0)) rfl rfl ?_
 refine EL_nil (thn_n (E_block ?_))
 refine E_lp h (fun (s : (List Int) × Int) e w => ∃ (g : Gh) , FrM iI gI wI g w ∧ e 2 = up2 ∧ OM 1 g w 3 (s.1 : List Int) up2 ∧ e 5 = p2 ∧ PT g.m w (x1 : FaultDamage) p2 ∧ e 10 = .int .i64 (((x2).length : Int)) ∧ e 11 = .int .i64 (s.2)) ⟨g2, hfr, rfl, mp2, rfl, q2, rfl, rfl⟩ (fun X3 k3 hk3 => ?_)
 rintro ⟨j1, o0⟩ a9 w4 ⟨g4, hfr, u3, z2, o3, u0, z3, i3⟩ h
 refine E_seq (E_region (EL_in (.bool ((decide (o0 < ((x2).length : Int))))) i3 z3 rfl rfl ?_))
 refine EL_nil (thn_n (E_seq ?_))
 rcases csome h with ⟨hc5, h⟩ | ⟨hc5, h⟩
 ·refine E_ct hc5 rfl ?_
  refine E_skip (thn_n ?_)
  obtain ⟨d3, hx, h⟩ := bsome h
  refine E_join (fun e w => ∃ (g : Gh) , FrM iI gI wI g w ∧ e 2 = up2 ∧ OM 1 g w 3 (d3 : List Int) up2 ∧ e 5 = p2 ∧ PT g.m w (x1 : FaultDamage) p2 ∧ e 10 = .int .i64 (((x2).length : Int)) ∧ e 11 = .int .i64 (o0)) (fun Q' hQ => ?_) (fun r8 t8 hR => ?_)
  ·replace h := hx
   clear hx
   refine E_block ?_
   refine E_seq (E_region (EL_mv i3 rfl ?_))
   refine EL_at (.int .i64 (o0)) rfl rfl ?_
   refine EL_nil (thn_n (E_seq ?_))
   obtain ⟨y70, x5, h⟩ := bsome h
   refine L_loadM (x := .tmp 16) Tryz.isAgg3 Tryz.sizeOf3 z2 x5 fun d9 g8 i7 => ?_
   obtain rfl := RV_int.1 g8
   have i8 := PT_field (part_FaultDamage_2).1 u0
   refine L_load (x := .tmp 18) Tryz.isAgg3 Tryz.sizeOf3 i8 fun e9 k8 j7 => ?_
   obtain rfl := RV_int.1 k8
   obtain ⟨y74, m7, h⟩ := bsome h
   obtain ⟨e8, i6, h⟩ := bsome h
   refine E_drawL (g := g4) (n := 9) [] [0, 1, 2, 3, 4, 5, 6, 7, 8] rfl mixed (by kernel_rfl) trivial ?_
   refine L_p up2 rfl rfl (P_move u3) ?_
   refine L_p (.int .i64 (o0)) rfl rfl (P_move rfl) ?_
   refine L_p (ePtr up2 o0 1) rfl rfl (P_indexAddrM (α := Int) Tryz.underlying25 Tryz.sizeOf3 rfl z2 rfl x5) ?_
   refine L_ld (c := .int .i64 (y70)) rfl rfl .plain (fun _ _ h => ⟨h.ch, fun b hb _ => h.below.block b hb⟩) i7 rfl ?_
   refine L_p (fPtr p2 2) rfl rfl (P_fieldAddr at_39_2 o3 (PT.ptr u0)) ?_
   refine L_ld (c := .int .i64 ((x1).Hook)) rfl rfl .plain (fun _ _ h => h.ch) j7 rfl ?_
   refine L_p (.int .i64 (y74)) rfl rfl (P_int rfl rfl (congrArg (Option.map (Value.int .i64)) m7)) ?_
   refine L_p (.int .i64 ((bit64 .or y70 y74))) rfl rfl (P_int rfl rfl rfl) ?_
   refine L_p (ePtr up2 o0 1) rfl rfl (P_indexAddrM (α := Int) Tryz.underlying25 Tryz.sizeOf3 rfl z2 rfl i6) ?_
   refine L_nl fun l8 i9 hs => ?_
   have hfr := hfr.ext hs
   have z2 := z2.ext hs
   have u0 := u0.ext hs
   clear hs
   refine EL_do .plain rfl (D_storeM (g := l8) (α := Int) (a' := ((bit64 .or y70 y74))) Tryz.sizeOf3 rfl z2 i6 rfl (RV_int.2 rfl) fun j6 k9 hs b93 => ?_)
   have hfr := hfr.stp hs
   have u0 := u0.stp hs
   refine EL_nil (thn_n (E_seq (E_region (EL_p (fPtr p2 4) (P_fieldAddr at_39_4 o3 (PT.ptr u0)) rfl ?_))))
   have m8 := PT_field (part_FaultDamage_4).1 u0
   refine EL_do .plain rfl (D_load (g := j6) Tryz.isAgg4 Tryz.sizeOf4 rfl m8 fun l9 n8 => ?_)
   obtain rfl := RV_bool.1 n8
   refine EL_p (.bool (!(x1).Up)) (P_not rfl) rfl ?_
   refine EL_nil (thn_n ?_)
   rcases csome h with ⟨i5, h⟩ | ⟨i5, h⟩
   ·refine E_ct i5 rfl ?_
    obtain ⟨z4, v6, h⟩ := bsome h
    refine L_loadM (x := .tmp 28) Tryz.isAgg3 Tryz.sizeOf3 b93 v6 fun n9 o8 n7 => ?_
    obtain rfl := RV_int.1 o8
    have q8 := PT_field (part_FaultDamage_2).1 u0
    refine L_load (x := .tmp 30) Tryz.isAgg3 Tryz.sizeOf3 q8 fun v8 o7 d7 => ?_
    obtain rfl := RV_int.1 o7
    obtain ⟨j3, e7, h⟩ := bsome h
    obtain ⟨g7, l5, h⟩ := bsome h
    refine E_drawL (g := j6) (n := 9) [] [0, 1, 2, 3, 4, 5, 6, 7, 8] rfl mixed (by kernel_rfl) trivial ?_
    refine L_p up2 rfl rfl (P_move u3) ?_
    refine L_p (.int .i64 (o0)) rfl rfl (P_move rfl) ?_
    refine L_p (ePtr up2 o0 1) rfl rfl (P_indexAddrM (α := Int) Tryz.underlying25 Tryz.sizeOf3 rfl b93 rfl v6) ?_
    refine L_ld (c := .int .i64 (z4)) rfl rfl .plain (fun _ _ h => ⟨h.ch, fun b hb _ => h.below.block b hb⟩) n7 rfl ?_
    refine L_p (fPtr p2 2) rfl rfl (P_fieldAddr at_39_2 o3 (PT.ptr u0)) ?_
    refine L_ld (c := .int .i64 ((x1).Hook)) rfl rfl .plain (fun _ _ h => h.ch) d7 rfl ?_
    refine L_p (.int .i64 (j3)) rfl rfl (P_int rfl rfl (congrArg (Option.map (Value.int .i64)) e7)) ?_
    refine L_p (.int .i64 ((bit64 .xor z4 j3))) rfl rfl (P_int rfl rfl rfl) ?_
    refine L_p (ePtr up2 o0 1) rfl rfl (P_indexAddrM (α := Int) Tryz.underlying25 Tryz.sizeOf3 rfl b93 rfl l5) ?_
    refine L_nl fun u7 x8 hs => ?_
    have hfr := hfr.ext hs
    have b93 := b93.ext hs
    have u0 := u0.ext hs
    clear hs
    refine EL_do .plain rfl (D_storeM (g := u7) (α := Int) (a' := ((bit64 .xor z4 j3))) Tryz.sizeOf3 rfl b93 l5 rfl (RV_int.2 rfl) fun v7 y8 hs b132 => ?_)
    have hfr := hfr.stp hs
    have u0 := u0.stp hs
    refine EL_nil (blk_n ?_)
    obtain rfl := sinj h
    exact hQ _ _ ⟨v7, hfr, u3, b132, o3, u0, z3, i3⟩
   ·refine E_cf i5 rfl ?_
    refine E_skip (blk_n ?_)
    obtain rfl := sinj h
    exact hQ _ _ ⟨j6, hfr, u3, b93, o3, u0, z3, i3⟩
  ·clear hx
   obtain ⟨c8, hfr, x6, y6, a7, b7, q5, t5⟩ := hR
   refine E_region (EL_in (.int .i64 ((w64 (o0 + (1 : Int))))) t5 rfl rfl rfl ?_)
   refine EL_mw (.int .i64 ((w64 (o0 + (1 : Int))))) rfl rfl ?_
   exact EL_nil (thn_n (hk3 (d3, (w64 (o0 + (1 : Int)))) _ _ ⟨c8, hfr, x6, y6, a7, b7, q5, rfl⟩ h))
 ·refine E_cf hc5 rfl ?_
  refine E_exit ?_
  refine thn_e ?_
  refine thn_e ?_
  refine blk_hit ?_
  obtain rfl := sinj h
  exact end0n rfl rfl ⟨_, hfr, rfl, c7.back z2⟩
def f119 (x0 : FaultFaultLoom) (x1 : FaultDamage) (x2 : List Int) : Option ((List Int)) :=
 Option.bind (α := Int) (
  lp (σ := Int × Int) (fun n7 (o3, o0) =>
   bif (decide (o0 < (((x0).FaultLoom).Design).Hooks)) then
    Option.bind (α := Int) (
     (shl64 o3 (1 : Int)).bind fun z4 =>
     (idx x2 (x1).Pick).bind fun o7 =>
     (shr64 o7 o0).bind fun j3 =>
     some ((bit64 .or z4 (bit64 .and j3 (1 : Int))))
     ) fun u0 =>
    n7 (u0, (w64 (o0 + (1 : Int))))
   else
    some (o3)
   ) big ((0 : Int), (0 : Int))
  ) fun j1 =>
 (idx x2 (x1).Pick).bind fun k8 =>
 some ((List.set x2 (Int.toNat (x1).Pick) j1))
theorem en119 : Enters Tryz.prog 119 := enters_of Tryz.func119 (by kernel_rfl) rfl
theorem wk119 {iI : Nat} {gI : Gh} {wI : World} {x0 : FaultFaultLoom} {x1 : FaultDamage} {x2 : List Int} {up0 : Value} (rp0 : RV gI.m wI x0 up0) {up1 : Value} (rp1 : RV gI.m wI x1 up1) {up2 : Value} (mp2 : OM iI gI wI 3 x2 up2) {up3 : Value} {r : (List Int)} (h : f119 x0 x1 x2 = some r) : FnM Tryz.prog 119 #[up0, up1, up2, up3] iI gI wI (fun g w v => v = .tuple #[] ∧ OM iI g w 3 r up2) := by
 unfold f119 at h
 refine fnM_of_E Tryz.func119 rfl (Nat.le_of_ble_eq_true rfl) fun g0 hm hfr => ?_
 have a7 := mp2
 replace mp2 := mp2.enter
 rw [← hm] at mp2
 replace hm : g0.m = gI.m := by rw [hm]
 have rp0 : RV g0.m wI x0 up0 := hm ▸ rp0
 have rp1 : RV g0.m wI x1 up1 := hm ▸ rp1
 show E _ 34 none _ _ _ _ _
 refine E_seq (E_region (EL_do .plain rfl (D_box (g := g0) rfl rp0 fun g1 w1 p1 hs q1 => ?_)))
 have hfr := hfr.ext hs
 have rp1 := rp1.ext hs
 have mp2 := mp2.ext hs
 refine EL_do .plain rfl (D_box (g := g1) rfl rp1 fun g2 w2 p2 hs q2 => ?_)
 have hfr := hfr.ext hs
 have mp2 := mp2.ext hs
 have q1 := q1.ext hs
 refine EL_nil (thn_n (E_seq (E_region (EL_at (.int .i64 (0)) rfl rfl ?_))))
 refine EL_nil (thn_n ?_)
 obtain ⟨j1, hx, h⟩ := bsome h
 refine E_join (fun e w => ∃ (g : Gh) , FrM iI gI wI g w ∧ e 2 = up2 ∧ OM 1 g w 3 (x2 : List Int) up2 ∧ e 5 = p2 ∧ PT g.m w (x1 : FaultDamage) p2 ∧ e 8 = .int .i64 (j1)) (fun Q' hQ => ?_) (fun x8 d9 hR => ?_)
 ·replace h := hx
  clear hx
  refine E_seq (E_region (EL_p (fPtr p1 0) (P_fieldAddr at_86_0 rfl (PT.ptr q1)) rfl ?_))
  have u7 := PT_field (part_FaultFaultLoom_0).1 q1
  refine EL_p (fPtr (fPtr p1 0) 2) (P_fieldAddr at_31_1 rfl (PT.ptr u7)) rfl ?_
  have v7 := PT_field (part_FaultLoom_1).1 u7
  refine EL_p (fPtr (fPtr (fPtr p1 0) 2) 0) (P_fieldAddr at_29_0 rfl (PT.ptr v7)) rfl ?_
  have l8 := PT_field (part_Design_0).1 v7
  refine EL_do .plain rfl (D_load (g := g2) Tryz.isAgg3 Tryz.sizeOf3 rfl l8 fun e9 m8 => ?_)
  obtain rfl := RV_int.1 m8
  refine EL_mw (.int .i64 (0)) rfl rfl ?_
  refine EL_nil (thn_n (E_block ?_))
  refine E_lp h (fun (s : Int × Int) e w => ∃ (g : Gh) , FrM iI gI wI g w ∧ e 2 = up2 ∧ OM 1 g w 3 (x2 : List Int) up2 ∧ e 5 = p2 ∧ PT g.m w (x1 : FaultDamage) p2 ∧ e 8 = .int .i64 (s.1) ∧ e 13 = .int .i64 ((((x0).FaultLoom).Design).Hooks) ∧ e 14 = .int .i64 (s.2)) ⟨g2, hfr, rfl, mp2, rfl, q2, rfl, rfl, rfl⟩ (fun X27 n7 e8 => ?_)
  rintro ⟨o3, o0⟩ y8 i9 ⟨q5, hfr, u3, z2, z3, d3, t5, i5, i3⟩ h
  refine E_seq (E_region (EL_p (.bool ((decide (o0 < (((x0).FaultLoom).Design).Hooks)))) (P_int i3 i5 rfl) rfl ?_))
  refine EL_nil (thn_n (E_seq ?_))
  rcases csome h with ⟨l5, h⟩ | ⟨l5, h⟩
  ·refine E_ct l5 rfl ?_
   refine E_skip (thn_n ?_)
   obtain ⟨u0, hx, h⟩ := bsome h
   refine E_join (fun e w => ∃ (g : Gh) , FrM iI gI wI g w ∧ e 2 = up2 ∧ OM 1 g w 3 (x2 : List Int) up2 ∧ e 5 = p2 ∧ PT g.m w (x1 : FaultDamage) p2 ∧ e 8 = .int .i64 (u0) ∧ e 13 = .int .i64 ((((x0).FaultLoom).Design).Hooks) ∧ e 14 = .int .i64 (o0)) (fun Q' hQ => ?_) (fun a9 k9 hR => ?_)
   ·replace h := hx
    clear hx
    refine E_block ?_
    refine E_seq (E_region (EL_mv i3 rfl ?_))
    refine EL_at (.int .i64 (o0)) rfl rfl ?_
    refine EL_nil (thn_n (E_region (EL_mv t5 rfl ?_)))
    obtain ⟨z4, g8, h⟩ := bsome h
    refine EL_p (.int .i64 (z4)) (P_shlu rfl rfl g8) rfl ?_
    refine EL_mv u3 rfl ?_
    refine EL_p (fPtr p2 1) (P_fieldAddr at_39_1 z3 (PT.ptr d3)) rfl ?_
    have n8 := PT_field (part_FaultDamage_1).1 d3
    refine EL_do .plain rfl (D_load (g := q5) Tryz.isAgg3 Tryz.sizeOf3 rfl n8 fun l9 o8 => ?_)
    obtain rfl := RV_int.1 o8
    obtain ⟨o7, j6, h⟩ := bsome h
    refine EL_p (ePtr up2 (x1).Pick 1) (P_indexAddrM (α := Int) Tryz.underlying25 Tryz.sizeOf3 rfl z2 rfl j6) rfl ?_
    refine EL_do .plain rfl (D_loadM (g := q5) Tryz.isAgg3 Tryz.sizeOf3 rfl z2 j6 fun n9 q8 => ?_)
    obtain rfl := RV_int.1 q8
    refine EL_mw (.int .i64 (o0)) rfl rfl ?_
    obtain ⟨j3, i8, h⟩ := bsome h
    refine EL_p (.int .i64 (j3)) (P_int rfl rfl (congrArg (Option.map (Value.int .i64)) i8)) rfl ?_
    refine EL_in (.int .i64 ((bit64 .and j3 (1 : Int)))) rfl rfl rfl rfl ?_
    refine EL_in (.int .i64 ((bit64 .or z4 (bit64 .and j3 (1 : Int))))) rfl rfl rfl rfl ?_
    refine EL_at (.int .i64 ((bit64 .or z4 (bit64 .and j3 (1 : Int))))) rfl rfl ?_
    refine EL_nil (blk_n ?_)
    obtain rfl := sinj h
    exact hQ _ _ ⟨q5, hfr, u3, z2, z3, d3, rfl, i5, i3⟩
   ·clear hx
    obtain ⟨r8, hfr, b7, c7, d7, e7, g7, v6, x6⟩ := hR
    refine E_region (EL_in (.int .i64 ((w64 (o0 + (1 : Int))))) x6 rfl rfl rfl ?_)
    refine EL_mw (.int .i64 ((w64 (o0 + (1 : Int))))) rfl rfl ?_
    exact EL_nil (thn_n (e8 (u0, (w64 (o0 + (1 : Int)))) _ _ ⟨r8, hfr, b7, c7, d7, e7, g7, v6, rfl⟩ h))
  ·refine E_cf l5 rfl ?_
   refine E_exit ?_
   refine thn_e ?_
   refine thn_e ?_
   refine blk_hit ?_
   obtain rfl := sinj h
   exact hQ _ _ ⟨q5, hfr, u3, z2, z3, d3, t5⟩
 ·clear hx
  obtain ⟨c8, hfr, i7, x5, j7, i6, m7⟩ := hR
  refine E_region (EL_mv i7 rfl ?_)
  refine EL_p (fPtr p2 1) (P_fieldAddr at_39_1 j7 (PT.ptr i6)) rfl ?_
  have t8 := PT_field (part_FaultDamage_1).1 i6
  refine EL_do .plain rfl (D_load (g := c8) Tryz.isAgg3 Tryz.sizeOf3 rfl t8 fun o9 v8 => ?_)
  obtain rfl := RV_int.1 v8
  refine EL_mv m7 rfl ?_
  obtain ⟨k8, y6, h⟩ := bsome h
  refine EL_p (ePtr up2 (x1).Pick 1) (P_indexAddrM (α := Int) Tryz.underlying25 Tryz.sizeOf3 rfl x5 rfl y6) rfl ?_
  refine EL_do .plain rfl (D_storeM (g := c8) (α := Int) (a' := j1) Tryz.sizeOf3 rfl x5 y6 rfl (RV_int.2 rfl) fun t9 u9 hs b47 => ?_)
  have hfr := hfr.stp hs
  refine EL_nil ?_
  obtain rfl := sinj h
  exact end0n rfl rfl ⟨_, hfr, rfl, a7.back b47⟩
end Go.Proofs.YtcjpochjapnoaaaGreat
